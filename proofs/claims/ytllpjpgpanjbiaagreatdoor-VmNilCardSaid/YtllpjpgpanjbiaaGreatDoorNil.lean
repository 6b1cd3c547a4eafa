/- Proved: for every n the law VmNil answers true, and n reads afterwards as before; the package variables that the row lists hold at the start what the program lays in them (tied). -/
import Derived.Test.YtllpjpgpanjbiaaGreatDoorPost
set_option linter.unusedVariables false
namespace Go.Proofs.YtllpjpgpanjbiaaGreatDoor
open Go.ChangeShapes Go.WideShapes Go.ChangeAt Go.RowKit Go.Eng
theorem own : ownKnob Tryz.prog.godebug = none := by kernel_rfl
/-- what is left of a call that makes blocks of its own alone -/
theorem post_below {H : Type} {enc : TypeId × Value → H} {P : Program} {f : Func} {s : ChangeSpec} {apart fresh handsOn : Bool} {W W' : World} {args : Array Value} {v : Value} {ds gs : List (DataW H)} {before pa pv : List MemPlace}
    (hW : DataW.Whole enc P f.params.toList s.vars apart W args.toList ds gs before)
    (hres : ∀ (b : Nat) (sp : Nat → Bool) (hd : Bool), DataW.TrodAll enc P W' b sp hd f.resultTypes.toList (v.resultList f.resultTypes.size) (s.fn H (ds ++ gs)).results [])
    (hargs : ∀ sp : Nat → Bool, (∀ p ∈ before, sp p.block = true) → DataW.TrodAll enc P W' 0 sp true f.params.toList args.toList (s.fn H (ds ++ gs)).args pa)
    (hvars : ∀ sp : Nat → Bool, (∀ p ∈ before, sp p.block = true) → DataW.TrodVars enc P W' sp s.vars (s.fn H (ds ++ gs)).vars pv)
    (hb : Below W.heap.size W W') : s.post enc P f apart fresh handsOn false W args v W' := by
  have hold : ∀ p ∈ before, (fun b => decide (b < W.heap.size)) p.block = true := fun p hp => by simpa using hW.lt p hp
  exact ⟨ds, gs, before, [], pa, pv, hW, hres _ _ _, hargs _ hold, hvars _ hold, hb.frame _, fun h => by cases h⟩
/-- a world in which the listed variables are as they are told -/
def strsObj (l : List (List UInt8)) : Obj := .cells (l.map fun t => Value.string ⟨t.toArray⟩).toArray 9 (0, 0)
noncomputable def wit0 (os : Os) : World := World.laidAll Tryz.prog os (Rows.vmNilRow.laid.take 3)
def setHeap (w : World) (h : Array Obj) : World := { w with heap := h }
theorem setHeap_os (w : World) (h : Array Obj) : (setHeap w h).os = w.os := rfl
noncomputable def wit (os : Os) : World :=
  setHeap (wit0 os) ((((((wit0 os).heap.push (strsObj tx5)).push (strsObj tx6)).push (strsObj tx7)).push
      (.map #[⟨.int .i64 1, .slice (some ⟨(wit0 os).heap.size, 0, none⟩) 10 10, 0⟩, ⟨.int .i64 2, .slice (some ⟨(wit0 os).heap.size + 1, 0, none⟩) 16 16, 1⟩, ⟨.int .i64 3, .slice (some ⟨(wit0 os).heap.size + 2, 0, none⟩) 1 1, 2⟩] 3)).setIfInBounds 0 (.cells #[.map (some ((wit0 os).heap.size + 3))] 155 (0, 0)))
theorem wit_os (os : Os) : (wit os).os = os := (setHeap_os _ _).trans (World.laidAll_os _ _ _)
theorem laid_met (os : Os) (args : Array Value) : laidMetH Tryz.prog Rows.vmNilRow.laid ((wit os).forCall (fun _ _ => 0) ⟨#[], args, []⟩).memory := by
  rw [MakeChecks.laidMetH_plain _ _ _ (by kernel_rfl)]
  have h : laidMet Tryz.prog Rows.vmNilRow.laid (wit os) := laidMet_of_run' 8 (by kernel_rfl) (by kernel_rfl)
  exact h.of_heap (by simp [World.memory, World.forCall, Input.heap])
set_option maxRecDepth 100000 in
theorem vmNil_lifted (os : Os) (started : os.Started) (H : Type) (enc : TypeId × Value → H) :
    ReturnsInHanded {} Tryz.checked os 4 .any (fun w args => (Rows.vmNilSpec.pre enc Tryz.prog Tryz.f4 Rows.vmNilRow.domain false w args ∧ laidMetH Tryz.prog Rows.vmNilRow.laid w) ∧ sizedMet enc Tryz.prog Tryz.f4 (OpenSpec.ofChange Rows.vmNilSpec) false w args)
      (Rows.vmNilSpec.post enc Tryz.prog Tryz.f4 false true false false) := by
  refine returnsInHanded_of_change_and (C := Tryz.checked) (X := fun w _ => laidMetH Tryz.prog Rows.vmNilRow.laid w) (fun _ _ _ hh h => h.of_heap hh) own started (by kernel_rfl) Tryz.func4
    (ChangeSpec.witness_shaped (enc := enc) (C := Tryz.checked) (os := os) (X := fun w _ => laidMetH Tryz.prog Rows.vmNilRow.laid w) false (wit os) #[.int .i64 0] 8 (wit_os os)
      (World.shaped_of_ZipB (by kernel_rfl) (by kernel_rfl)) (by kernel_rfl) (by kernel_rfl) (by kernel_rfl) (laid_met os _)) ?_
  intro W base args ds gs before hval0 hW hc _ hL _
  have hval : ∀ (j : Nat) t v, Tryz.f4.params[j]? = some t → args[j]? = some v → Value.okWide Tryz.prog W .any base t v := hval0
  have hW' := hW
  obtain ⟨p, q, hA0, hV, rfl, _, _⟩ := hW
  have hA : DataW.TrodAll enc Tryz.prog W 0 (fun _ => true) true Tryz.f4.params.toList args.toList ds p := hA0
  rw [Tryz.params4] at hA hval
  obtain ⟨v0, vs0, d0, ds0, p0, q0, hargs, rfl, rfl, h0, r0⟩ := trodAll_cons hA
  obtain ⟨rfl, rfl, rfl⟩ := trodAll_nil r0
  obtain rfl : args = #[v0] := by cases args; simp_all
  obtain ⟨x, rfl, rfl, rfl, wx⟩ := open_int Tryz.underlying3 (hval 0 3 v0 rfl rfl) h0
  obtain ⟨rfl, rfl⟩ := trodVars_none hV
  simp only [List.append_nil] at hW'
  refine (vmNil_calls x hL).mono fun e W' ⟨he, hb⟩ => ?_
  subst he
  exact ⟨_, rfl, post_below (pa := []) (pv := []) hW' (fun _ _ _ => trodAll_mk1 (shut_bool Tryz.underlying4 _)) (fun sp _ => trodAll_cons_mk (shut_int Tryz.underlying3 wx) trodAll_mk0) (fun _ _ => rfl) hb⟩
theorem vmNil_row : Rows.VmNilSaid :=
  OpenClaim.holds_of_wide 4 Tryz.f4 rfl rfl rfl rfl rfl rfl rfl ⟨rfl, rfl, rfl, rfl, rfl⟩ rfl rfl rfl rfl rfl (by kernel_rfl) Tryz.func4 (by kernel_rfl)
    (of_decide_eq_true (by kernel_rfl)) (by unfold Func.isWrapper; first | (rw [if_pos (by decide +kernel)]; kernel_rfl) | (rw [if_neg (by decide +kernel)]; exact ⟨rfl, rfl⟩))
    (fun os started H enc _ => vmNil_lifted os started H enc)
/-- THE CARD. -/
theorem vmNil_holds : Rows.VmNilCardSaid :=
  Claim7.holds_tied_plain_at .later [] _ _ _ _ vmNil_row (fun _ h => by cases h) (by kernel_rfl) (fun _ h => by cases h) vmNil_row_tie rfl ⟨rfl, rfl⟩ (by kernel_rfl) rfl
    (fun f fn hf hfn => by
      obtain rfl : f = 4 := Option.some.inj ((show Tryz.prog.funcNamed "aumbry/aumbrylaw25.VmNil" = some 4 by kernel_rfl).symm.trans hf) |>.symm
      obtain rfl : fn = Tryz.f4 := (Option.some.inj (Tryz.func4.symm.trans hfn)).symm
      exact ⟨by kernel_rfl, fun j t ht => by
        rw [Tryz.params4] at ht
        have hm : t ∈ [3] := by simpa using Array.mem_of_getElem? ht
        have hall : ([3].all fun u => !Tryz.prog.wantsStandIn u) = true := by kernel_rfl
        exact (show Tryz.prog.wantsStandIn t = false by simpa using List.all_eq_true.1 hall t hm)⟩)
    (by kernel_rfl)

end Go.Proofs.YtllpjpgpanjbiaaGreatDoor
