/- Proved: for every type and every row of declarations that are together of bulk at most 1048576 the law StampBegins answers true, and they read afterwards as before; the package variables that the row lists hold at the start what the program lays in them (tied). -/
import Derived.Test.YtadbbfmmhimgcaaGreatDoorStH
import Derived.Test.YtadbbfmmhimgcaaGreatDoorStJ
import Derived.Test.YtadbbfmmhimgcaaGreatDoorStI
set_option linter.unusedVariables false
set_option linter.unusedSimpArgs false
set_option maxRecDepth 100000
namespace Go.Proofs.YtadbbfmmhimgcaaGreatDoor
open Go.ChangeShapes Go.WideShapes Go.ChangeAt Go.RowKit Go.Stamp
/-- the anchor, as the walks want it -/
theorem works_lies : Works := fun w g h => by
  obtain ⟨B, o, s⟩ := g
  have herr := h.err
  obtain rfl : s = none := h.plain
  exact Go.Eng.works_calls herr
noncomputable def args4 : Array Value := #[.agg #[.int .u8 0, .string { data := #[] }, .int .i64 0, .slice none 0 0], .slice none 0 0]
theorem reads4 (os : Os) {H : Type} (enc : TypeId × Value → H) : ∃ places, DataW.whole enc Tryz.prog ((World.laidAll Tryz.prog os Rows.stampLongRow.laid).forCall (fun _ _ => 0) ⟨#[], args4, []⟩).memory Tryz.f4.params.toList Rows.stampBeginsSpec.vars false args4.toList 8 = some ([.agg [.lit (.int .u8 0), .lit (.string []), .lit (.int .i64 0), .nil], .nil], [], places) :=
  ⟨[], by kernel_rfl⟩
theorem witness4 (os : Os) {H : Type} (enc : TypeId × Value → H) : ∃ (w : World) (tape : Tape) (i : Input), w.os = os ∧ (w.forCall tape i).Shaped Tryz.checked.prog ∧ i.vars = [] ∧ Input.okWide Tryz.checked.prog (w.forCall tape i) .any w.heap.size 4 i ∧
      (Rows.OpenSpec.upto Rows.stampBeginsSpec).preRow enc Tryz.checked.prog Tryz.f4 Rows.stampBeginsUptoRow.domain false Rows.stampBeginsUptoRow.laid (w.forCall tape i).memory i.args ∧ ({} : Assume).holds Tryz.checked.prog (lone (Frame.enter Tryz.checked.prog 4 i.args .normal) [] (w.forCall tape i)) := by
  obtain ⟨places, hx⟩ := reads4 os enc
  have hok : Input.okWideB Tryz.prog ((World.laidAll Tryz.prog os Rows.stampLongRow.laid).forCall (fun _ _ => 0) ⟨#[], args4, []⟩) 4 ⟨#[], args4, []⟩ = true := by kernel_rfl
  refine ⟨World.laidAll Tryz.prog os Rows.stampLongRow.laid, fun _ _ => 0, ⟨#[], args4, []⟩, World.laidAll_os _ _ _, World.shaped_of_ZipB (by kernel_rfl) (by kernel_rfl), ?_, ?_, ?_, ?_⟩
  · exact (Input.okWide_of_okWideB (base := 0) hok).1
  · exact (Input.okWide_of_okWideB hok).2
  · exact OpenSpec.preRow_of_cond 8 hx (by kernel_rfl) (fun k hk => by cases hk; kernel_rfl) (by kernel_rfl) (laid_met os _)
  · simp only [Assume.holds]
    exact ⟨by simp, by simp, fun _ => Modest.zero, by simp, by simp⟩
theorem laidOut : laidOutB Tryz.prog = true := by kernel_rfl
theorem read24 : Tryz.prog.readableRec 24 = true := by kernel_rfl
theorem read25 : Tryz.prog.readableRec 25 = true := by kernel_rfl
theorem lt24 : 24 < Tryz.prog.types.size := of_decide_eq_true (by kernel_rfl)
theorem lt25 : 25 < Tryz.prog.types.size := of_decide_eq_true (by kernel_rfl)
theorem val24 {W : World} {base : Nat} {v : Value} (h : Value.okWide Tryz.prog W .any base 24 v) : ∃ l, v = .agg ⟨l⟩ ∧ v.cells.toList = l := by
  unfold Value.okWide at h
  rw [Tryz.underlying24] at h
  obtain ⟨⟨l⟩, rfl, _, _⟩ := h
  exact ⟨l, rfl, rfl⟩
theorem val25 {W : World} {base : Nat} {v s : Value} (h : Value.okWide Tryz.prog W .any base 25 v) (e : v.cells.toList = [s]) : s = v := by
  obtain ⟨a, n, c, rfl⟩ := okWide_slice Tryz.underlying25 h
  have e : [Value.slice a n c] = [s] := e
  injection e with e _
  exact e.symm
set_option maxHeartbeats 1600000 in
theorem lifted4 (os : Os) (started : os.Started) (H : Type) (enc : TypeId × Value → H) (F : Stop.Interp) :
    ReturnsInHanded {} Tryz.checked os 4 .any ((Rows.OpenSpec.upto Rows.stampBeginsSpec).preRow enc Tryz.prog Tryz.f4 Rows.stampBeginsUptoRow.domain false Rows.stampBeginsUptoRow.laid) (((Rows.OpenSpec.upto Rows.stampBeginsSpec).at F).post enc Tryz.prog Tryz.f4 false true false false) := by
  refine returnsInHanded_of_row (C := Tryz.checked) (s := Rows.OpenSpec.upto Rows.stampBeginsSpec) own started (by kernel_rfl) Tryz.func4 (witness4 os enc) ?_
  intro W base args ds gs before hval hW _ hcond _ hL hsh _
  have hsmall := hcond _ rfl
  have hW' := hW
  obtain ⟨p, q, hA0, hV, rfl, _, _⟩ := hW
  have hA : DataW.TrodAll enc Tryz.prog W 0 (fun _ => true) true Tryz.f4.params.toList args.toList ds p := hA0
  rw [Tryz.params4] at hA
  obtain ⟨v0, vs0, d0, ds0, p0, q0, hargs, rfl, rfl, h0, r0⟩ := trodAll_cons hA
  obtain ⟨v1, vs1, d1, ds1, p1, q1, hargs1, rfl, rfl, h1, r1⟩ := trodAll_cons r0
  obtain ⟨rfl, rfl, rfl⟩ := trodAll_nil r1
  obtain rfl : args = #[v0, v1] := by cases args; simp_all
  obtain ⟨rfl, rfl⟩ := trodVars_none hV
  simp only [List.append_nil] at hW' hsmall
  have hb : Rows.uptoBulk d0 + Rows.uptoBulk d1 ≤ 1048576 := by
    have h := of_decide_eq_true hsmall
    simp only [Rows.uptoBulkAll, Nat.add_zero] at h
    exact h
  have hlt : ∀ x ∈ p0 ++ p1, x.block < W.heap.size := fun x hx => by simpa using hW'.lt x hx
  obtain ⟨t, hT, htr⟩ := ty_in h0
  obtain ⟨D, s1, e1, hD⟩ := decs_in h1 (by omega)
  obtain ⟨l, rfl, el⟩ := val24 (hval 0 24 v0 rfl rfl)
  obtain rfl := val25 (hval 1 25 v1 rfl rfl) e1
  rw [el] at hT
  obtain ⟨g, hlies⟩ := lies_of hL hsh
  refine (begins_ok works_lies hlies hD t (by have := htr.1; omega) (htr.2 _ (by omega)) (fun h2000 ⟨row, hrow⟩ => rty_ok 4096 t (by omega) (Nat.le_refl _) (by
    unfold allOf at hrow
    obtain ⟨r1, hr1, _⟩ := Option.bind_eq_some_iff.1 hrow
    exact come_closed t hr1) (htr.2 _ (by omega))) l hT).mono fun e W' ⟨he, hbl⟩ => ?_
  subst he
  exact ⟨_, rfl, [d0, d1], [], p0 ++ p1, [], p0 ++ p1, [], hW', trodAll_mk1 (shut_bool Tryz.underlying4 _),
    trodAll_cons_mk (Below.trod laidOut read24 lt24 h0 hbl fun x hx => hlt x (by simp [hx])) (trodAll_mk1 (Below.trod laidOut read25 lt25 h1 hbl fun x hx => hlt x (by simp [hx]))), rfl, hbl.frame _, fun h => by cases h⟩
theorem said4 : Rows.StampBeginsUptoSaid :=
  OpenClaim.holds_of_cond 4 Tryz.f4 rfl rfl rfl rfl rfl rfl rfl ⟨rfl, rfl, rfl, rfl, rfl⟩ rfl rfl rfl rfl rfl (by kernel_rfl) Tryz.func4 (by kernel_rfl)
    (of_decide_eq_true (by kernel_rfl)) (by unfold Func.isWrapper; first | (rw [if_pos (by decide +kernel)]; kernel_rfl) | (rw [if_neg (by decide +kernel)]; exact ⟨rfl, rfl⟩))
    (fun os started H enc _ F => by rw [OpenClaim.pre_eq_preRow]; exact lifted4 os started H enc F)
/-- THE CARD. -/
theorem stampBegins_holds : Rows.StampBeginsUptoCardSaid :=
  Claim7.holds_tied_plain_at .later [] _ _ _ _ said4 (fun _ h => by cases h) (by kernel_rfl) (fun _ h => by cases h) stampBeginsUpto_row_tie rfl ⟨rfl, rfl⟩ (by kernel_rfl) rfl
    (fun f fn hf hfn => by
      obtain rfl : f = 4 := Option.some.inj ((show Tryz.prog.funcNamed "aumbry/aumbrylaw19.StampBegins" = some 4 by kernel_rfl).symm.trans hf) |>.symm
      obtain rfl : fn = Tryz.f4 := (Option.some.inj (Tryz.func4.symm.trans hfn)).symm
      exact ⟨by kernel_rfl, fun j t ht => by
        rw [Tryz.params4] at ht
        have hm : t ∈ [24, 25] := by simpa using Array.mem_of_getElem? ht
        have hall : ([24, 25].all fun u => !Tryz.prog.wantsStandIn u) = true := by kernel_rfl
        exact (show Tryz.prog.wantsStandIn t = false by simpa using List.all_eq_true.1 hall t hm)⟩)
    (by kernel_rfl)
#print axioms stampBegins_holds
end Go.Proofs.YtadbbfmmhimgcaaGreatDoor
