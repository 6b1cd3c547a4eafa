/- The law CollectNil, run by the kernel over an empty heap, for any units and pins. No conditions of its own. -/
import Derived.Test.YtaamiedjgfopiaaGreatDoorCoA
set_option linter.unusedVariables false
set_option linter.unusedSimpArgs false
set_option maxRecDepth 1000000
namespace Go.Eng
open Go.RowKit Go.Proofs
/-! ## CollectNil: what is asked of pins -/
noncomputable def OC (v : Bool) : Op → List AV → Option AV := fun op vs =>
  match op with
  | .call c => (match c.callee with
    | .builtin .len => (match c.argTypes.toList with
      | [t] => (match vs with
        | [.opq i] => ifb (Nat.beq i 1) (ifb (Nat.beq t 36) (some (.opq 2)) none) none
        | _ => none)
      | _ => none)
    | _ => none)
  | .binOp b t x y t' => (match vs with
    | [.opq i, .int .i64 (.ofNat n)] => (match b with
      | .gtr => ifb (Nat.beq i 2) (ifb (Nat.beq n 1024) (some (.bool v)) none) none
      | _ => none)
    | vs => O3 (.binOp b t x y t') vs)
  | _ => none
theorem list1 {l : List Value} {ops : List Operand} {ρ : Operand → Value} {K : Ctx} {σ : Env} {v : AV} (h : VRs K σ [v] (ops.map ρ)) : ∃ x, ops = [x] ∧ VR K σ v (ρ x) := by
  obtain ⟨y, ys, e, h1, h2⟩ := h
  have h2 : ys = [] := h2
  subst h2
  cases ops with
  | nil => cases e
  | cons x ops =>
    simp only [List.map_cons, List.cons.injEq, List.map_eq_nil_iff] at e
    obtain ⟨rfl, rfl⟩ := e
    exact ⟨x, rfl, h1⟩
theorem run_lenS {ρ : Operand → Value} {w : World} {dst : Option Tmp} {x : Operand} {t e : TypeId} {ty : TypeId} {pos : String} {af : Array Edge} {gd : Option (Nat × Bool)} {a : Option Addr} {n c : Nat} (ht : Tryz.prog.underlying t = some (.slice e)) (hx : ρ x = .slice a n c) :
    (execOp ρ ⟨dst, .call ⟨.builtin .len, #[x], #[t]⟩, ty, pos, af, gd⟩).run Tryz.prog w = .ok (.value (.int .i64 n)) w := by
  simp [execOp, resolve, invoke, builtin, Builtin.len_, hx, run_underlying ht, goInt]
/-- what is known of pins -/
def Pins (K : Ctx) (v : Bool) : Prop := ∃ a n c, K.opq 1 = .slice a n c ∧ K.opq 2 = .int .i64 (.ofNat n) ∧ v = decide (1024 < n)
theorem orcC {K : Ctx} {v : Bool} (H : Pins K v) : OrcOK Tryz.prog K (OC v) := by
  intro op vs z h σ ρ w dst ty pos af gd hv
  unfold OC at h
  split at h
  · rename_i c
    obtain ⟨cal, ⟨ops⟩, ⟨ts⟩⟩ := c
    split at h
    · rename_i hcal
      simp only at hcal
      subst hcal
      split at h
      · rename_i t ht
        simp only at ht
        subst ht
        split at h
        · rename_i i
          obtain ⟨x, rfl, hx⟩ := list1 (l := []) (show VRs K σ [.opq i] (ops.map ρ) from hv)
          have hx : ρ x = K.opq i := hx
          obtain ⟨e2, h⟩ := ifb_some (show ifb (Nat.beq i 1) (ifb (Nat.beq t 36) (some (AV.opq 2)) none) none = some z from h)
          obtain ⟨e3, h⟩ := ifb_some h
          cases h
          obtain rfl := Nat.eq_of_beq_eq_true e2
          obtain rfl := Nat.eq_of_beq_eq_true e3
          obtain ⟨a, n, c, k1, k2, _⟩ := H
          exact ⟨_, run_lenS (a := a) (n := n) (c := c) Tryz.underlying36 (by rw [hx, k1]), k2.symm⟩
        · cases h
      · cases h
    · cases h
  · rename_i b t x y t'
    split at h
    · rename_i i n
      obtain ⟨u, _, e1, hu, v', _, e2, hv', e3⟩ := hv
      have e : ρ x = K.opq i ∧ ρ y = .int .i64 (.ofNat n) := by
        simp only [orcArgs, List.map_cons, List.map_nil, List.cons.injEq] at e1
        obtain ⟨rfl, e1⟩ := e1
        subst e2
        simp only [List.cons.injEq] at e1
        obtain ⟨rfl, _⟩ := e1
        exact ⟨hu, hv'⟩
      obtain ⟨hx, hy⟩ := e
      split at h
      · obtain ⟨e2, h⟩ := ifb_some (show ifb (Nat.beq i 2) (ifb (Nat.beq n 1024) (some (AV.bool v)) none) none = some z from h)
        obtain ⟨e3, h⟩ := ifb_some h
        cases h
        obtain rfl := Nat.eq_of_beq_eq_true e2
        obtain rfl := Nat.eq_of_beq_eq_true e3
        obtain ⟨a, m, c, k1, k2, k3⟩ := H
        rw [k2] at hx
        refine ⟨.bool v, ?_, rfl⟩
        rw [k3]
        simp [execOp, hx, hy, binOp_gtr, eqGuard_gtr]
        omega
      · cases h
    · exact orc3 _ _ _ h σ ρ w dst ty pos af gd hv
  · cases h
theorem enters36 : Enters Tryz.prog 36 := enters_of Tryz.func36 (by kernel_rfl) (by kernel_rfl)
theorem works36 (w : World) : Calls Tryz.prog 36 #[] w fun e w' => e = .returned (.bool true) ∧ Below w.heap.size w w' :=
  run_true (K := ctxAt Tryz.prog w) (callC kt19_ok rfl) enters36 (by decide) rfl rfl (globs_of fun g hg => ⟨1, by simp [hg]⟩) (h0_ok rfl rfl) VRs.nil run36
noncomputable def poC (v : Bool) : PO := ⟨[], OC v, fun f => memN f [210, 251, 259, 310, 314, 118, 234, 304]⟩
theorem pokC {K : Ctx} {v : Bool} (H : Pins K v) : POK Tryz.prog K (poC v) := ⟨fun t ht => (by cases ht), orcC H, (pok3 (K := K)).ent⟩
noncomputable def FC (v : Bool) : Nat → Option AFun := funs 2 cstA T3 (poC v) nd4 fl3
noncomputable def knC : List (Nat × KnownY) := (36, upK trueK) :: kn3
theorem knC_ok {K : Ctx} : ∀ p ∈ knC, KnownYOK Tryz.prog K 2 p.1 p.2 := by
  intro p hp
  rcases List.mem_cons.1 hp with rfl | hp
  · exact (trueK_ok enters36 works36).up
  · exact kn3_ok p hp
noncomputable def cL (v : Bool) : Caller := detC (callG (lookK knC) (fun _ => none) (FC v) J4 2000 100 noY)
theorem callL {K : Ctx} {v : Bool} (H : Pins K v) (hK : K.codes = codesOf Tryz.prog) : CallOK Tryz.prog K 2 (cL v) :=
  callG1_ok (lookK_ok knC_ok) (fun f g h => by cases h) (funs_ok cst_ok T3_ok (pokC H) mix3 hK fl3_ok) 2000 100
theorem run6a : isTrueO (cL true 6 [.opq 0, .opq 1] h0) = true := by kernel_rfl
theorem run6b : isTrueO (cL false 6 [.opq 0, .opq 1] h0) = true := by kernel_rfl
end Go.Eng
