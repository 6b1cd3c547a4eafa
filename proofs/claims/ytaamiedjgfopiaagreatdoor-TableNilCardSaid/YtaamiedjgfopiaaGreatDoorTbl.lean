/- Proved: for every o the law TableNil answers true, and o reads afterwards as before; the package variables that the row lists hold at the start what the program lays in them (tied). -/
import Derived.Test.YtaamiedjgfopiaaGreatDoorRun
import Derived.Test.YtaamiedjgfopiaaGreatDoorCards
import Derived.Test.YtaamiedjgfopiaaGreatDoorTie
import Derived.ProofKit
import Derived.OpenShut
import Derived.LaidMore
import Derived.Lay
import Derived.SevenTiedAt
import Derived.Stop.Joined
import Derived.Carry
set_option linter.unusedVariables false
set_option maxRecDepth 100000
namespace Go.Proofs.YtaamiedjgfopiaaGreatDoor
open Go.ChangeShapes Go.WideShapes Go.ChangeAt Go.RowKit Go.Eng
theorem own : ownKnob Tryz.prog.godebug = none := by kernel_rfl
theorem laidOut : laidOutB Tryz.prog = true := by kernel_rfl
/-- what is left of a call that makes blocks of its own alone -/
theorem post_below {H : Type} {enc : TypeId × Value → H} {P : Program} {f : Func} {s : ChangeSpec} {apart fresh handsOn : Bool} {W W' : World} {args : Array Value} {v : Value} {ds gs : List (DataW H)} {before pa pv : List MemPlace}
    (hW : DataW.Whole enc P f.params.toList s.vars apart W args.toList ds gs before)
    (hres : ∀ (b : Nat) (sp : Nat → Bool) (hd : Bool), DataW.TrodAll enc P W' b sp hd f.resultTypes.toList (v.resultList f.resultTypes.size) (s.fn H (ds ++ gs)).results [])
    (hargs : DataW.TrodAll enc P W' 0 (fun b => decide (b < W.heap.size)) true f.params.toList args.toList (s.fn H (ds ++ gs)).args pa)
    (hvars : DataW.TrodVars enc P W' (fun b => decide (b < W.heap.size)) s.vars (s.fn H (ds ++ gs)).vars pv)
    (hb : Below W.heap.size W W') : s.post enc P f apart fresh handsOn false W args v W' :=
  ⟨ds, gs, before, [], pa, pv, hW, hres _ _ _, hargs, hvars, hb.frame _, fun h => by cases h⟩
def Scalars (cs : Array Value) : Prop := ∀ (i : Nat) (v : Value), cs[i]? = some v → v.cells = #[v] ∧ ∀ x, v ≠ .tuple x
theorem cell_scalar {P : Program} {w : World} {r : Reach} {b : Nat} {u : TypeId} {v : Value} (h : Cell.okWide P w r b u v) : v.cells = #[v] ∧ ∀ x, v ≠ .tuple x := by
  unfold Cell.okWide Cell.ok at h
  cases v <;> first | (exfalso; cases hu : P.underlying u with | none => rw [hu] at h; exact h | some d => rw [hu] at h; cases d <;> exact h) | exact ⟨rfl, fun x h => nomatch h⟩
theorem row_scalar {P : Program} {w : World} {r : Reach} {b : Nat} {t : TypeId} {cs : Array Value} (h : Row.okWide P w r b t cs) : Scalars cs := by
  obtain ⟨ts, _, _, h⟩ := h
  intro i v hv
  obtain ⟨u, _, hu⟩ := h i v hv
  exact cell_scalar hu
/-- a context in which a row of cells is not looked into -/
noncomputable def opqAt (cs : Array Value) (i : Nat) : Value := (cs[i]?).getD .nilIface
theorem opqAt_cells {cs : Array Value} (h : Scalars cs) (i : Nat) : (opqAt cs i).cells = #[opqAt cs i] ∧ ∀ x, opqAt cs i ≠ .tuple x := by
  unfold opqAt
  cases hc : cs[i]? with
  | none => exact ⟨rfl, fun x h => by cases h⟩
  | some v => exact h i v hc
noncomputable def ctxO (w : World) (cs : Array Value) (h : Scalars cs) : Ctx :=
  ⟨w.heap.size, w, opqAt cs, fun i => (opqAt_cells h i).1, fun i => (opqAt_cells h i).2, codesOf Tryz.prog, fun _ => ([], 0)⟩
theorem enters3 : Enters Tryz.prog 3 := enters_of Tryz.func3 (by kernel_rfl) (by kernel_rfl)
theorem tableNil_calls {W : World} {cs : Array Value} (hn : cs.size = 5) (h : Scalars cs) :
    Calls Tryz.prog 3 #[.agg cs] W fun e w' => e = .returned (.bool true) ∧ Below W.heap.size W w' := by
  refine run_true (K := ctxO W cs h) (call3 rfl) enters3 (by decide) rfl rfl (globs_of fun g hg => ⟨1, by simp [hg]⟩) (h0_ok rfl rfl) (VRs.cons ?_ VRs.nil) run3
  obtain ⟨l⟩ := cs
  match l, hn with
  | [a, b, c, d, e], _ => exact ⟨_, rfl, _, _, rfl, rfl, _, _, rfl, rfl, _, _, rfl, rfl, _, _, rfl, rfl, _, _, rfl, rfl, rfl⟩
/-- a world in which the listed variables are as they are told -/
noncomputable def wit (os : Os) : World := World.laidAll Tryz.prog os Rows.tableNilRow.laid
theorem wit_os (os : Os) : (wit os).os = os := World.laidAll_os _ _ _
theorem laid_met (os : Os) (args : Array Value) : laidMetH Tryz.prog Rows.tableNilRow.laid ((wit os).forCall (fun _ _ => 0) ⟨#[], args, []⟩).memory := by
  rw [MakeChecks.laidMetH_plain _ _ _ (by kernel_rfl)]
  have h : laidMet Tryz.prog Rows.tableNilRow.laid (wit os) := laidMet_of_run' 8 (by kernel_rfl) (by kernel_rfl)
  exact h.of_heap (by simp [World.memory, World.forCall, Input.heap])
theorem cells24 : Tryz.prog.cellsOf 24 = 5 := by kernel_rfl
theorem tableNil_lifted (os : Os) (started : os.Started) (H : Type) (enc : TypeId × Value → H) :
    ReturnsInHanded {} Tryz.checked os 3 .any (fun w args => (Rows.tableNilSpec.pre enc Tryz.prog Tryz.f3 Rows.tableNilRow.domain false w args ∧ laidMetH Tryz.prog Rows.tableNilRow.laid w) ∧ sizedMet enc Tryz.prog Tryz.f3 (OpenSpec.ofChange Rows.tableNilSpec) false w args)
      (Rows.tableNilSpec.post enc Tryz.prog Tryz.f3 false true false false) := by
  refine returnsInHanded_of_change_and (C := Tryz.checked) (X := fun w _ => laidMetH Tryz.prog Rows.tableNilRow.laid w) (fun _ _ _ hh h => h.of_heap hh) own started (by kernel_rfl) Tryz.func3
    (ChangeSpec.witness_shaped (enc := enc) (C := Tryz.checked) (os := os) (X := fun w _ => laidMetH Tryz.prog Rows.tableNilRow.laid w) false (wit os) #[.agg #[.int .i64 0, .int .i64 0, .int .i64 0, .int .i64 0, .slice none 0 0]] 8 (wit_os os)
      (World.shaped_of_ZipB (by kernel_rfl) (by kernel_rfl)) (by kernel_rfl) (by kernel_rfl) (by kernel_rfl) (laid_met os _)) ?_
  intro W base args ds gs before hval0 hW hc _ hL _
  have hval : ∀ (j : Nat) t v, Tryz.f3.params[j]? = some t → args[j]? = some v → Value.okWide Tryz.prog W .any base t v := hval0
  have hW' := hW
  obtain ⟨p, q, hA0, hV, rfl, _, _⟩ := hW
  have hA : DataW.TrodAll enc Tryz.prog W 0 (fun _ => true) true Tryz.f3.params.toList args.toList ds p := hA0
  rw [Tryz.params3] at hA hval
  obtain ⟨v0, vs0, d0, ds0, p0, q0, hargs, rfl, rfl, h0, r0⟩ := trodAll_cons hA
  obtain ⟨rfl, rfl, rfl⟩ := trodAll_nil r0
  obtain rfl : args = #[v0] := by cases args; simp_all
  have hv0 := hval 0 24 v0 rfl rfl
  simp only [Value.okWide, Tryz.underlying24] at hv0
  obtain ⟨cs, rfl, hn, hrow⟩ := hv0
  rw [cells24] at hn
  obtain ⟨rfl, rfl⟩ := trodVars_none hV
  simp only [List.append_nil] at hW'
  have hlt : ∀ x ∈ p0, x.block < W.heap.size := fun x hx => by simpa using hW'.lt x (by simpa using hx)
  refine (tableNil_calls hn (row_scalar hrow)).mono fun e W' ⟨he, hb⟩ => ?_
  subst he
  exact ⟨_, rfl, post_below (pv := []) hW' (fun _ _ _ => trodAll_mk1 (shut_bool Tryz.underlying4 _)) (trodAll_mk1 (Below.trod laidOut (by kernel_rfl) (of_decide_eq_true (by kernel_rfl)) h0 hb hlt)) rfl hb⟩
theorem tableNil_row : Rows.TableNilSaid :=
  OpenClaim.holds_of_wide 3 Tryz.f3 rfl rfl rfl rfl rfl rfl rfl ⟨rfl, rfl, rfl, rfl, rfl⟩ rfl rfl rfl rfl rfl (by kernel_rfl) Tryz.func3 (by kernel_rfl)
    (of_decide_eq_true (by kernel_rfl)) (by unfold Func.isWrapper; first | (rw [if_pos (by decide +kernel)]; kernel_rfl) | (rw [if_neg (by decide +kernel)]; exact ⟨rfl, rfl⟩))
    (fun os started H enc _ => tableNil_lifted os started H enc)
/-- THE CARD. -/
theorem tableNil_holds : Rows.TableNilCardSaid :=
  Claim7.holds_tied_plain_at .later [] _ _ _ _ tableNil_row (fun _ h => by cases h) (by kernel_rfl) (fun _ h => by cases h) tableNil_row_tie rfl ⟨rfl, rfl⟩ (by kernel_rfl) rfl
    (fun f fn hf hfn => by
      obtain rfl : f = 3 := Option.some.inj ((show Tryz.prog.funcNamed "aumbry/aumbrylaw11.TableNil" = some 3 by kernel_rfl).symm.trans hf) |>.symm
      obtain rfl : fn = Tryz.f3 := (Option.some.inj (Tryz.func3.symm.trans hfn)).symm
      exact ⟨by kernel_rfl, fun j t ht => by
        rw [Tryz.params3] at ht
        have hm : t ∈ [24] := by simpa using Array.mem_of_getElem? ht
        have hall : ([24].all fun u => !Tryz.prog.wantsStandIn u) = true := by kernel_rfl
        exact (show Tryz.prog.wantsStandIn t = false by simpa using List.all_eq_true.1 hall t hm)⟩)
    (by kernel_rfl)
end Go.Proofs.YtaamiedjgfopiaaGreatDoor
