/- The law BridgeNil, run by the kernel over an empty heap, for every handle. No conditions of its own. -/
import Derived.Test.YtaamiedjgfopiaaGreatDoorBrA
set_option linter.unusedVariables false
set_option maxRecDepth 1000000
namespace Go.Eng
open Go.RowKit Go.Proofs
/-- a run of its own that tells true and leaves what there was -/
noncomputable def trueK : Known := fun args h => match args with | [] => .ok (.bool true, h) | _ => .fail
theorem trueK_ok {K : Ctx} {ng f : Nat} (hE : Enters Tryz.prog f) (hc : ∀ w, Calls Tryz.prog f #[] w fun e w' => e = .returned (.bool true) ∧ Below w.heap.size w w') : KnownOK Tryz.prog K ng f trueK := by
  intro σ own w h args cargs hg hH ha hf
  obtain ⟨cl⟩ := cargs
  simp only at ha
  match args, cl, ha, hf with
  | _ :: _, _, _, hf => exact absurd rfl hf
  | [], _, ha, hf =>
    have ha : _ = [] := ha
    subst ha
    refine .inl ⟨hE, (hc w).mono ?_⟩
    rintro e w' ⟨rfl, hb⟩
    exact ⟨_, rfl, σ, own, rfl, Grow.refl _ _, hH.grownWorld hb⟩
theorem enters45 : Enters Tryz.prog 45 := enters_of Tryz.func45 (by kernel_rfl) (by kernel_rfl)
theorem works45 (w : World) : Calls Tryz.prog 45 #[] w fun e w' => e = .returned (.bool true) ∧ Below w.heap.size w w' :=
  run_true (K := ctxAt Tryz.prog w) (callC bt15_ok rfl) enters45 (by decide) rfl rfl (globs_of fun g hg => ⟨1, by simp [hg]⟩) (h0_ok rfl rfl) VRs.nil run45
noncomputable def kn7 : List (Nat × KnownY) := (45, upK trueK) :: kn3
theorem kn7_ok {K : Ctx} : ∀ p ∈ kn7, KnownYOK Tryz.prog K 2 p.1 p.2 := by
  intro p hp
  rcases List.mem_cons.1 hp with rfl | hp
  · exact (trueK_ok enters45 works45).up
  · exact kn3_ok p hp
noncomputable def c7 : Caller := detC (callG (lookK kn7) (fun _ => none) F4 J4 2000 100 noY)
theorem call7 {K : Ctx} (hK : K.codes = codesOf Tryz.prog) : CallOK Tryz.prog K 2 c7 := callG1_ok (lookK_ok kn7_ok) (fun f g h => by cases h) (funs4 hK) 2000 100
theorem run7 : isTrueO (c7 7 [.opq 0] h0) = true := by kernel_rfl
end Go.Eng
