/- How print tells declarations and programs, walked by hand. Each says its own conditions. -/
import Derived.Test.YtmkdiiocfnelaaaGreatDoorPb
import Derived.Test.YtmkdiiocfnelaaaGreatDoorPc
set_option linter.unusedVariables false
set_option linter.unusedSimpArgs false
set_option maxRecDepth 100000
set_option maxHeartbeats 4000000
namespace Go.Pr
open Go Go.RowKit Go.Proofs
theorem join_row {W0 W : World} {s : Value} {xs : List ByteArray} {sep : ByteArray} (hr : RowC W0 1 s xs.length (fun i => [.string (xs.getD i emp)])) (h0 : 0 < xs.length) (hB : Below W0.heap.size W0 W) (hn : xs.length ≤ 1048576) (hsz : (joinB xs sep).size ≤ 140737488355328) :
    Calls Tryz.prog 26 #[s, .string sep] W fun e w' => e = .returned (.string (joinB xs sep)) ∧ Below W.heap.size W w' := by
  obtain ⟨a, c, rfl, hc, hrow⟩ := hr
  obtain ⟨b, o, rfl, hcs⟩ := hrow h0
  have hb0 : b < W0.heap.size := cell_lt (hcs 0 h0 0 _ rfl)
  have := Any.strings_Join Tryz.laysJoin joinExtra b o c xs sep W (fun j x hj => by
    have hj' := (List.getElem?_eq_some_iff.1 hj).1
    have q := (hcs j hj').below hB 0 _ rfl
    simp only [Nat.mul_one, Nat.add_zero] at q
    rw [q, List.getD_eq_getElem?_getD, hj]
    rfl) (Nat.lt_of_lt_of_le hb0 hB.size) (by omega) hc (by
      have : (joinB xs sep).size = (Lib.join (xs.map (·.data.toList)) sep.data.toList).length := by
        unfold joinB
        show (Lib.join (xs.map (·.data.toList)) sep.data.toList).toArray.size = _
        rw [List.size_toArray]
      omega)
  rw [join26] at this
  exact this
theorem vars_ok {W0 W : World} {s : Value} {xs : List ByteArray} (hr : RowC W0 1 s xs.length (fun i => [.string (xs.getD i emp)])) (hB : Below W0.heap.size W0 W) (hn : xs.length ≤ 1048576) (hsz : (joinB xs sComma).size ≤ 1099578736640) :
    Calls Tryz.prog 13 #[s] W fun e w' => e = .returned (.string (varsT xs)) ∧ Below W.heap.size W w' := by
  have hrr := hr
  obtain ⟨a, c, rfl, _⟩ := hr
  by_cases h0 : xs.length = 0
  · have hd : varsT xs = emp := by unfold varsT; rw [if_pos h0]
    rw [hd, h0]
    clear hrr
    go_enter Tryz.func13, Tryz.ntmps13
    go_wp2
    go_ret
    exact ⟨rfl, Below.refl _ _⟩
  · have HJ := Lib.hid (join_row (sep := sComma) hrr (by omega) hB hn (by omega))
    have HD : Hid (varsT xs = roundT (joinB xs sComma) (decide (1 < xs.length)) ++ sBlank) := Lib.hid (by unfold varsT; rw [if_neg h0])
    have hrs := round_size (joinB xs sComma) (decide (1 < xs.length))
    have n0 : ((xs.length : Int) == 0) = false := by simpa using h0
    clear hrr
    generalize varsT xs = tt at *
    generalize joinB xs sComma = jj at *
    go_enter Tryz.func13, Tryz.ntmps13
    go_wp2_with fail
    refine HJ.out.mono ?_
    rintro e w1 ⟨rfl, hb⟩
    have HB := Lib.hid hb
    clear hb
    go_wp2_with fail
    refine (round_ok2 _ _ _ (by omega)).mono ?_
    rintro e w2 ⟨r, rfl, hr, hrz, rfl⟩
    go_wp2
    go_ret
    refine ⟨congrArg (fun x => Ending.returned (Value.string x)) ?_, HB.out⟩
    have ed : decide ((1 : Int) < (xs.length : Int)) = decide (1 < xs.length) := by apply decide_eq_decide.2; omega
    rw [HD.out, hr.out, ed]
    rfl
theorem semi_ok {d : D} {W0 : World} (hT : FnOK 6 .dec T W0 d) (hs : d.t.size ≤ 8796093022208) : FnOK 32 .dec semiD W0 d := by
  intro W vs hv hB
  have hT' := fun W hb => hT W vs hv hb
  obtain ⟨v0, v1, a2, n2, c2, a3, n3, c3, a4, n4, c4, v5, v6, v7, a8, n8, c8, v9, v10, v11, v12, a13, n13, c13, a14, n14, c14, a15, n15, c15, rfl⟩ := hv.dec_vals
  generalize hW1 : W.alloc (.cells ⟨[.int .u8 v0, .string v1, .slice a2 n2 c2, .slice a3 n3 c3, .slice a4 n4 c4, .int .u8 v5, .string v6, .int .i64 v7, .slice a8 n8 c8, .int .u8 v9, .string v10, .int .i64 v11, .string v12, .slice a13 n13 c13, .slice a14 n14 c14, .slice a15 n15 c15]⟩ 36) = W1
  have hBW : Below W0.heap.size W0 W1 := by rw [← hW1]; exact hB.alloc hB.size _
  have hBe : Below W.heap.size W W1 := by rw [← hW1]; exact (Below.refl _ _).alloc (Nat.le_refl _) _
  have HBK : Hid (∀ w, Hid (Below W1.heap.size W1 w) → Below W.heap.size W w) := Lib.hid fun w hb => hBe.trans (hb.out.mono hBe.size)
  have HS : Hid (∀ w, Hid (Below W1.heap.size W1 w) → Hid (Below W1.heap.size W1 w) ∧ w.cell? ⟨W.heap.size, 0, none⟩ = some (.int .u8 v0) ∧ w.cell? ⟨W.heap.size, 1, none⟩ = some (.string v1) ∧ w.cell? ⟨W.heap.size, 2, none⟩ = some (.slice a2 n2 c2) ∧ w.cell? ⟨W.heap.size, 3, none⟩ = some (.slice a3 n3 c3) ∧ w.cell? ⟨W.heap.size, 4, none⟩ = some (.slice a4 n4 c4) ∧ w.cell? ⟨W.heap.size, 5, none⟩ = some (.int .u8 v5) ∧ w.cell? ⟨W.heap.size, 6, none⟩ = some (.string v6) ∧ w.cell? ⟨W.heap.size, 7, none⟩ = some (.int .i64 v7) ∧ w.cell? ⟨W.heap.size, 8, none⟩ = some (.slice a8 n8 c8) ∧ w.cell? ⟨W.heap.size, 9, none⟩ = some (.int .u8 v9) ∧ w.cell? ⟨W.heap.size, 10, none⟩ = some (.string v10) ∧ w.cell? ⟨W.heap.size, 11, none⟩ = some (.int .i64 v11) ∧ w.cell? ⟨W.heap.size, 12, none⟩ = some (.string v12) ∧ w.cell? ⟨W.heap.size, 13, none⟩ = some (.slice a13 n13 c13) ∧ w.cell? ⟨W.heap.size, 14, none⟩ = some (.slice a14 n14 c14) ∧ w.cell? ⟨W.heap.size, 15, none⟩ = some (.slice a15 n15 c15)) := by
    refine Lib.hid fun w hb => ⟨hb, ?_⟩
    have hc := fun o => hb.out.cell (p := ⟨W.heap.size, o, none⟩) (by rw [← hW1]; simp)
    simp only [hc]
    rw [← hW1]
    simp [go_sem]
  have hS1 := (HS.out W1 (Lib.hid (Below.refl _ _))).2
  have HT := lift (G := .returned (.string (T d))) hBW hT'
  have HD : Hid (semiD d = T d ++ sSemi) := Lib.hid rfl
  have hts : (T d).size ≤ 8796093022208 := hs
  clear hT' hT hv hB hBW hBe hs
  generalize semiD d = tt at *
  generalize T d = ft at *
  go_enter Tryz.func32, Tryz.ntmps32
  go_wp2_with fail
  try rw [hW1]
  refine (HT.out _ ?_).mono ?_
  (first | assumption | exact bl0 | exact bl5 | exact bl1 (by assumption) | exact bl2 (by assumption) | exact bl3 (by assumption))
  rintro e w0 ⟨rfl, hb0⟩
  have hS0 := (HS.out _ hb0).2
  go_wp2
  go_ret
  exact ⟨congrArg (fun x => Ending.returned (Value.string x)) HD.out.symm, HBK.out _ hb0⟩
theorem ends_ok {d : D} {W0 : World} (hT : FnOK 6 .dec T W0 d) (hs : d.t.size ≤ 8796093022208) : FnOK 23 .dec endsD W0 d := by
  intro W vs hv hB
  have hT' := fun W hb => hT W vs hv hb
  obtain ⟨v0, v1, a2, n2, c2, a3, n3, c3, a4, n4, c4, v5, v6, v7, a8, n8, c8, v9, v10, v11, v12, a13, n13, c13, a14, n14, c14, a15, n15, c15, rfl⟩ := hv.dec_vals
  generalize hW1 : W.alloc (.cells ⟨[.int .u8 v0, .string v1, .slice a2 n2 c2, .slice a3 n3 c3, .slice a4 n4 c4, .int .u8 v5, .string v6, .int .i64 v7, .slice a8 n8 c8, .int .u8 v9, .string v10, .int .i64 v11, .string v12, .slice a13 n13 c13, .slice a14 n14 c14, .slice a15 n15 c15]⟩ 36) = W1
  have hBW : Below W0.heap.size W0 W1 := by rw [← hW1]; exact hB.alloc hB.size _
  have hBe : Below W.heap.size W W1 := by rw [← hW1]; exact (Below.refl _ _).alloc (Nat.le_refl _) _
  have HBK : Hid (∀ w, Hid (Below W1.heap.size W1 w) → Below W.heap.size W w) := Lib.hid fun w hb => hBe.trans (hb.out.mono hBe.size)
  have HS : Hid (∀ w, Hid (Below W1.heap.size W1 w) → Hid (Below W1.heap.size W1 w) ∧ w.cell? ⟨W.heap.size, 0, none⟩ = some (.int .u8 v0) ∧ w.cell? ⟨W.heap.size, 1, none⟩ = some (.string v1) ∧ w.cell? ⟨W.heap.size, 2, none⟩ = some (.slice a2 n2 c2) ∧ w.cell? ⟨W.heap.size, 3, none⟩ = some (.slice a3 n3 c3) ∧ w.cell? ⟨W.heap.size, 4, none⟩ = some (.slice a4 n4 c4) ∧ w.cell? ⟨W.heap.size, 5, none⟩ = some (.int .u8 v5) ∧ w.cell? ⟨W.heap.size, 6, none⟩ = some (.string v6) ∧ w.cell? ⟨W.heap.size, 7, none⟩ = some (.int .i64 v7) ∧ w.cell? ⟨W.heap.size, 8, none⟩ = some (.slice a8 n8 c8) ∧ w.cell? ⟨W.heap.size, 9, none⟩ = some (.int .u8 v9) ∧ w.cell? ⟨W.heap.size, 10, none⟩ = some (.string v10) ∧ w.cell? ⟨W.heap.size, 11, none⟩ = some (.int .i64 v11) ∧ w.cell? ⟨W.heap.size, 12, none⟩ = some (.string v12) ∧ w.cell? ⟨W.heap.size, 13, none⟩ = some (.slice a13 n13 c13) ∧ w.cell? ⟨W.heap.size, 14, none⟩ = some (.slice a14 n14 c14) ∧ w.cell? ⟨W.heap.size, 15, none⟩ = some (.slice a15 n15 c15)) := by
    refine Lib.hid fun w hb => ⟨hb, ?_⟩
    have hc := fun o => hb.out.cell (p := ⟨W.heap.size, o, none⟩) (by rw [← hW1]; simp)
    simp only [hc]
    rw [← hW1]
    simp [go_sem]
  have hS1 := (HS.out W1 (Lib.hid (Below.refl _ _))).2
  have HT := lift (G := .returned (.string (T d))) hBW hT'
  have HD : Hid (endsD d = T d ++ sEnds) := Lib.hid rfl
  have hts : (T d).size ≤ 8796093022208 := hs
  clear hT' hT hv hB hBW hBe hs
  generalize endsD d = tt at *
  generalize T d = ft at *
  go_enter Tryz.func23, Tryz.ntmps23
  go_wp2_with fail
  try rw [hW1]
  refine (HT.out _ ?_).mono ?_
  (first | assumption | exact bl0 | exact bl5 | exact bl1 (by assumption) | exact bl2 (by assumption) | exact bl3 (by assumption))
  rintro e w0 ⟨rfl, hb0⟩
  have hS0 := (HS.out _ hb0).2
  go_wp2
  go_ret
  exact ⟨congrArg (fun x => Ending.returned (Value.string x)) HD.out.symm, HBK.out _ hb0⟩
end Go.Pr
namespace Go.Pr
open Go Go.RowKit Go.Proofs
theorem fn_ok {d : D} {W0 : World} (hw : d.w ≤ 1048576) (hE : ∀ x, x.w < d.w → FnOK 14 .exp T W0 x) : FnOK 16 .fn T W0 d := by
  intro W vs hv hB
  have hs := hv.size_le hw
  obtain ⟨name, args, sa, e, ve, rfl, hra, he, ht, hpw⟩ := hv.fn_parts
  obtain ⟨v2, v3, v4, v5, a6, n6, c6, a7, n7, c7, a8, n8, c8, rfl⟩ := he.exp_vals
  have hd : T d = funText name args e := ht
  rw [hd]
  rw [ht] at hs
  have hlen : args.length ≤ (args.map fun x => 1 + x.size).sum := by
    clear hra ht hd hpw hs
    induction args with
    | nil => simp
    | cons x r ih => simp only [List.map_cons, List.sum_cons, List.length_cons]; omega
  have hj : (joinB (name :: args) sBlank).size + 3 + e.t.size ≤ 1099578736640 := by rw [funText, size_append, size_append] at hs; change _ + 3 + _ + 16 ≤ _ at hs; omega
  have hD : funText name args e = joinB (name :: args) sBlank ++ sIs ++ T e := rfl
  obtain ⟨aa, ca, rfl, hac, hrow⟩ := hra
  obtain ⟨i, hi, hi2⟩ := Option.map_eq_some_iff.1 i9
  injection hi2 with hz0 hz1
  injection hz1 with hz1 hz2
  have hez : (T e).size = e.t.size := rfl
  rw [← hez] at hj
  by_cases h0 : args.length = 0
  · obtain rfl : args = [] := List.eq_nil_of_length_eq_zero h0
    have HD := Lib.hid hD
    cases aa with
    | none =>
      generalize hW1 : W.alloc (.cells ⟨[.string name, .slice none 0 ca, .int .u8 v2, .string v3, .int .i64 v4, .string v5, .slice a6 n6 c6, .slice a7 n7 c7, .slice a8 n8 c8]⟩ 55) = W1
      have hBW : Below W0.heap.size W0 W1 := by rw [← hW1]; exact hB.alloc hB.size _
      have hBe : Below W.heap.size W W1 := by rw [← hW1]; exact (Below.refl _ _).alloc (Nat.le_refl _) _
      have HBK : Hid (∀ w, Hid (Below W1.heap.size W1 w) → Below W.heap.size W w) := Lib.hid fun w hb => hBe.trans (hb.out.mono hBe.size)
      have HS : Hid (∀ w, Hid (Below W1.heap.size W1 w) → Hid (Below W1.heap.size W1 w) ∧ w.cell? ⟨W.heap.size, 0, none⟩ = some (.string name) ∧ w.cell? ⟨W.heap.size, 1, none⟩ = some (.slice none 0 ca) ∧ w.cell? ⟨W.heap.size, 2, none⟩ = some (.int .u8 v2) ∧ w.cell? ⟨W.heap.size, 3, none⟩ = some (.string v3) ∧ w.cell? ⟨W.heap.size, 4, none⟩ = some (.int .i64 v4) ∧ w.cell? ⟨W.heap.size, 5, none⟩ = some (.string v5) ∧ w.cell? ⟨W.heap.size, 6, none⟩ = some (.slice a6 n6 c6) ∧ w.cell? ⟨W.heap.size, 7, none⟩ = some (.slice a7 n7 c7) ∧ w.cell? ⟨W.heap.size, 8, none⟩ = some (.slice a8 n8 c8)) := by
        refine Lib.hid fun w hb => ⟨hb, ?_⟩
        have hc := fun o => hb.out.cell (p := ⟨W.heap.size, o, none⟩) (by rw [← hW1]; simp)
        simp only [hc]
        rw [← hW1]
        simp [go_sem]
      have hS1 := (HS.out W1 (Lib.hid (Below.refl _ _))).2
      have HX := lift (G := .returned (.string (T e))) hBW fun w hb => hE e (by omega) w _ he hb
      have hown : (W1.drew.alloc (.cells #[.string name] 9)).ownsRow W1.heap.size 9 1 (.slice (some ⟨W1.heap.size, 0, none⟩) 1 1) 1 [.string name] := ⟨rfl, .inr ⟨W1.heap.size, 1, #[.string name], rfl, Nat.le_refl _, heap_alloc_new W1.drew _, Nat.le_refl _, by simp [maxLen], rfl, rfl⟩⟩
      have HBA : Hid (Below W1.heap.size W1 (W1.drew.alloc (.cells #[.string name] 9))) := Lib.hid ((Below.refl _ _).drew.alloc (Nat.le_refl _) _)
      have HO : Hid (OutV W1 (W1.drew.alloc (.cells #[.string name] 9)) (.slice (some ⟨W1.heap.size, 0, none⟩) 1 1) [name]) := Lib.hid ⟨hown, HBA.out⟩
      clear hE hv hB he ht hd hs hBW hBe hpw hD hown hrow hlen hez
      generalize funText name [] e = tt at *
      generalize T e = ty at *
      go_enter Tryz.func16, Tryz.ntmps16
      go_wp2
      try rw [hW1]
      have z00 : ¬ 9223372036854775807 < (joinB [name] sBlank).size + 3 := by omega
      have z01 : ¬ 9223372036854775807 < (joinB [name] sBlank).size + 3 + ty.size := by omega
      first
      | go_region_held3 (fun w => Hid (Below W1.heap.size W1 w) ∧ w.cell? ⟨W.heap.size, 0, none⟩ = some (.string name) ∧ w.cell? ⟨W.heap.size, 1, none⟩ = some (.slice none 0 ca) ∧ w.cell? ⟨W.heap.size, 2, none⟩ = some (.int .u8 v2) ∧ w.cell? ⟨W.heap.size, 3, none⟩ = some (.string v3) ∧ w.cell? ⟨W.heap.size, 4, none⟩ = some (.int .i64 v4) ∧ w.cell? ⟨W.heap.size, 5, none⟩ = some (.string v5) ∧ w.cell? ⟨W.heap.size, 6, none⟩ = some (.slice a6 n6 c6) ∧ w.cell? ⟨W.heap.size, 7, none⟩ = some (.slice a7 n7 c7) ∧ w.cell? ⟨W.heap.size, 8, none⟩ = some (.slice a8 n8 c8)) ((refine HS.out _ ?_; (first | assumption | exact bl0 | exact bl5 | exact bl1 (by assumption) | exact bl2 (by assumption) | exact bl3 (by assumption) | exact bl4 (by assumption))))
        (first
        | (go_at_call 26; refine (HO.out.join (sep := sBlank) (by simp) (by omega)).mono ?_; rintro e w' ⟨rfl, hb⟩; have hbw4 : Hid (Below W1.heap.size W1 w') := Lib.hid (HO.out.2.trans (hb.mono HO.out.2.size)); clear hb)
        | (go_at_call 14; refine (HX.out _ ?_).mono ?_; (first | assumption | exact bl0 | exact bl5 | exact bl1 (by assumption) | exact bl2 (by assumption) | exact bl3 (by assumption) | exact bl4 (by assumption)); rintro e w' ⟨rfl, hb⟩))
      | fail
      all_goals go_wp2
      all_goals go_ret
      all_goals exact ⟨congrArg (fun x => Ending.returned (Value.string x)) HD.out.symm, HBK.out _ (‹Hid (Below _ _ _) ∧ _›).1⟩
    | some ad =>
      generalize hW1 : W.alloc (.cells ⟨[.string name, .slice (some ad) 0 ca, .int .u8 v2, .string v3, .int .i64 v4, .string v5, .slice a6 n6 c6, .slice a7 n7 c7, .slice a8 n8 c8]⟩ 55) = W1
      have hBW : Below W0.heap.size W0 W1 := by rw [← hW1]; exact hB.alloc hB.size _
      have hBe : Below W.heap.size W W1 := by rw [← hW1]; exact (Below.refl _ _).alloc (Nat.le_refl _) _
      have HBK : Hid (∀ w, Hid (Below W1.heap.size W1 w) → Below W.heap.size W w) := Lib.hid fun w hb => hBe.trans (hb.out.mono hBe.size)
      have HS : Hid (∀ w, Hid (Below W1.heap.size W1 w) → Hid (Below W1.heap.size W1 w) ∧ w.cell? ⟨W.heap.size, 0, none⟩ = some (.string name) ∧ w.cell? ⟨W.heap.size, 1, none⟩ = some (.slice (some ad) 0 ca) ∧ w.cell? ⟨W.heap.size, 2, none⟩ = some (.int .u8 v2) ∧ w.cell? ⟨W.heap.size, 3, none⟩ = some (.string v3) ∧ w.cell? ⟨W.heap.size, 4, none⟩ = some (.int .i64 v4) ∧ w.cell? ⟨W.heap.size, 5, none⟩ = some (.string v5) ∧ w.cell? ⟨W.heap.size, 6, none⟩ = some (.slice a6 n6 c6) ∧ w.cell? ⟨W.heap.size, 7, none⟩ = some (.slice a7 n7 c7) ∧ w.cell? ⟨W.heap.size, 8, none⟩ = some (.slice a8 n8 c8)) := by
        refine Lib.hid fun w hb => ⟨hb, ?_⟩
        have hc := fun o => hb.out.cell (p := ⟨W.heap.size, o, none⟩) (by rw [← hW1]; simp)
        simp only [hc]
        rw [← hW1]
        simp [go_sem]
      have hS1 := (HS.out W1 (Lib.hid (Below.refl _ _))).2
      have HX := lift (G := .returned (.string (T e))) hBW fun w hb => hE e (by omega) w _ he hb
      have hown : (W1.drew.alloc (.cells #[.string name] 9)).ownsRow W1.heap.size 9 1 (.slice (some ⟨W1.heap.size, 0, none⟩) 1 1) 1 [.string name] := ⟨rfl, .inr ⟨W1.heap.size, 1, #[.string name], rfl, Nat.le_refl _, heap_alloc_new W1.drew _, Nat.le_refl _, by simp [maxLen], rfl, rfl⟩⟩
      have HOWN := Lib.hid hown
      have HBA : Hid (Below W1.heap.size W1 (W1.drew.alloc (.cells #[.string name] 9))) := Lib.hid ((Below.refl _ _).drew.alloc (Nat.le_refl _) _)
      clear hE hv hB he ht hd hs hBW hBe hpw hD hown hrow hlen hez
      generalize funText name [] e = tt at *
      generalize T e = ty at *
      go_enter Tryz.func16, Tryz.ntmps16
      go_wp2
      try rw [hW1]
      have z00 : ¬ 9223372036854775807 < (joinB [name] sBlank).size + 3 := by omega
      have z01 : ¬ 9223372036854775807 < (joinB [name] sBlank).size + 3 + ty.size := by omega
      first
      | go_region_held3 (fun w => Hid (Below W1.heap.size W1 w) ∧ w.cell? ⟨W.heap.size, 0, none⟩ = some (.string name) ∧ w.cell? ⟨W.heap.size, 1, none⟩ = some (.slice (some ad) 0 ca) ∧ w.cell? ⟨W.heap.size, 2, none⟩ = some (.int .u8 v2) ∧ w.cell? ⟨W.heap.size, 3, none⟩ = some (.string v3) ∧ w.cell? ⟨W.heap.size, 4, none⟩ = some (.int .i64 v4) ∧ w.cell? ⟨W.heap.size, 5, none⟩ = some (.string v5) ∧ w.cell? ⟨W.heap.size, 6, none⟩ = some (.slice a6 n6 c6) ∧ w.cell? ⟨W.heap.size, 7, none⟩ = some (.slice a7 n7 c7) ∧ w.cell? ⟨W.heap.size, 8, none⟩ = some (.slice a8 n8 c8)) ((refine HS.out _ ?_; (first | assumption | exact bl0 | exact bl5 | exact bl1 (by assumption) | exact bl2 (by assumption) | exact bl3 (by assumption) | exact bl4 (by assumption))))
        (first
        | (rw [if_pos (by rfl)]; refine wp_append_own _ _ _ 25 rfl W1.heap.size 9 i (.string { data := #[] }) 1 16 Tryz.underlying25 hi hz2 hz0 hz1 rfl (by decide) _ 1 [.string name] rfl HOWN.out ad 0 ca [] rfl (by simp) (fun _ _ h => by simp at h) (fun _ h => by simp at h) (by simp only [maxLen]; omega) (by omega) HBA.out.size ?_; intro v' w3 hown' hgrow hnil; have HO : Hid (OutV W1 w3 v' [name]) := Lib.hid ⟨by simpa [Nat.add_comm] using hown', HBA.out.grown hgrow HBA.out.size fun k hk => (Option.some.inj hk) ▸ Nat.le_refl _⟩; have hbw3 : Hid (Below W1.heap.size W1 w3) := Lib.hid HO.out.2; clear hown' hgrow hnil)
        | (go_at_call 26; refine ((‹Hid (OutV W1 _ _ [name])›).out.join (sep := sBlank) (by simp) (by omega)).mono ?_; rintro e w' ⟨rfl, hb⟩; have hbw4 : Hid (Below W1.heap.size W1 w') := Lib.hid ((‹Hid (OutV W1 _ _ [name])›).out.2.trans (hb.mono (‹Hid (OutV W1 _ _ [name])›).out.2.size)); clear hb)
        | (go_at_call 14; refine (HX.out _ ?_).mono ?_; (first | assumption | exact bl0 | exact bl5 | exact bl1 (by assumption) | exact bl2 (by assumption) | exact bl3 (by assumption) | exact bl4 (by assumption)); rintro e w' ⟨rfl, hb⟩))
      | fail
      all_goals go_wp2
      all_goals go_ret
      all_goals exact ⟨congrArg (fun x => Ending.returned (Value.string x)) HD.out.symm, HBK.out _ (‹Hid (Below _ _ _) ∧ _›).1⟩
  · obtain ⟨b, oo, rfl, hcs⟩ := hrow (by omega)
    generalize hW1 : W.alloc (.cells ⟨[.string name, .slice (some ⟨b, oo, none⟩) args.length ca, .int .u8 v2, .string v3, .int .i64 v4, .string v5, .slice a6 n6 c6, .slice a7 n7 c7, .slice a8 n8 c8]⟩ 55) = W1
    have hBW : Below W0.heap.size W0 W1 := by rw [← hW1]; exact hB.alloc hB.size _
    have hBe : Below W.heap.size W W1 := by rw [← hW1]; exact (Below.refl _ _).alloc (Nat.le_refl _) _
    have HBK : Hid (∀ w, Hid (Below W1.heap.size W1 w) → Below W.heap.size W w) := Lib.hid fun w hb => hBe.trans (hb.out.mono hBe.size)
    have HS : Hid (∀ w, Hid (Below W1.heap.size W1 w) → Hid (Below W1.heap.size W1 w) ∧ w.cell? ⟨W.heap.size, 0, none⟩ = some (.string name) ∧ w.cell? ⟨W.heap.size, 1, none⟩ = some (.slice (some ⟨b, oo, none⟩) args.length ca) ∧ w.cell? ⟨W.heap.size, 2, none⟩ = some (.int .u8 v2) ∧ w.cell? ⟨W.heap.size, 3, none⟩ = some (.string v3) ∧ w.cell? ⟨W.heap.size, 4, none⟩ = some (.int .i64 v4) ∧ w.cell? ⟨W.heap.size, 5, none⟩ = some (.string v5) ∧ w.cell? ⟨W.heap.size, 6, none⟩ = some (.slice a6 n6 c6) ∧ w.cell? ⟨W.heap.size, 7, none⟩ = some (.slice a7 n7 c7) ∧ w.cell? ⟨W.heap.size, 8, none⟩ = some (.slice a8 n8 c8)) := by
      refine Lib.hid fun w hb => ⟨hb, ?_⟩
      have hc := fun o => hb.out.cell (p := ⟨W.heap.size, o, none⟩) (by rw [← hW1]; simp)
      simp only [hc]
      rw [← hW1]
      simp [go_sem]
    have hS1 := (HS.out W1 (Lib.hid (Below.refl _ _))).2
    have HX := lift (G := .returned (.string (T e))) hBW fun w hb => hE e (by omega) w _ he hb
    have HROW : Hid (∀ w, Below W1.heap.size W1 w → ∀ (j : Nat) (u : Value), (args.map Value.string)[j]? = some u → w.cell? ((⟨b, oo, none⟩ : Addr).add j) = some u) := Lib.hid fun w hb j u hj => by
      obtain ⟨x, hx, rfl⟩ := List.getElem?_map .. ▸ hj |> Option.map_eq_some_iff.1
      have hj' := (List.getElem?_eq_some_iff.1 hx).1
      have q := ((hcs j hj').below (hBW.trans (hb.mono hBW.size))) 0 _ rfl
      simp only [Nat.mul_one, Nat.add_zero] at q
      rw [show (⟨b, oo, none⟩ : Addr).add j = ⟨b, oo + j, none⟩ by unfold Addr.add; split <;> simp_all, q, List.getD_eq_getElem?_getD, hx]
      rfl
    have HD := Lib.hid hD
    have hown : (W1.drew.alloc (.cells #[.string name] 9)).ownsRow W1.heap.size 9 1 (.slice (some ⟨W1.heap.size, 0, none⟩) 1 1) 1 [.string name] := ⟨rfl, .inr ⟨W1.heap.size, 1, #[.string name], rfl, Nat.le_refl _, heap_alloc_new W1.drew _, Nat.le_refl _, by simp [maxLen], rfl, rfl⟩⟩
    have HOWN := Lib.hid hown
    have hal : args.length ≤ 1048576 := by omega
    have HZ : Hid (∀ u ∈ args.map Value.string, u.oneCell' = true) := Lib.hid fun u hu => by
      obtain ⟨x, _, rfl⟩ := List.mem_map.1 hu
      rfl
    have HBA : Hid (Below W1.heap.size W1 (W1.drew.alloc (.cells #[.string name] 9))) := Lib.hid ((Below.refl _ _).drew.alloc (Nat.le_refl _) _)
    clear hE hv hB he ht hd hs hBW hBe hpw hD hown hrow hcs hlen hez
    generalize funText name args e = tt at *
    generalize T e = ty at *
    go_enter Tryz.func16, Tryz.ntmps16
    go_wp2
    try rw [hW1]
    have z00 : ¬ 9223372036854775807 < (joinB (name :: args) sBlank).size + 3 := by omega
    have z01 : ¬ 9223372036854775807 < (joinB (name :: args) sBlank).size + 3 + ty.size := by omega
    first
    | go_region_held3 (fun w => Hid (Below W1.heap.size W1 w) ∧ w.cell? ⟨W.heap.size, 0, none⟩ = some (.string name) ∧ w.cell? ⟨W.heap.size, 1, none⟩ = some (.slice (some ⟨b, oo, none⟩) args.length ca) ∧ w.cell? ⟨W.heap.size, 2, none⟩ = some (.int .u8 v2) ∧ w.cell? ⟨W.heap.size, 3, none⟩ = some (.string v3) ∧ w.cell? ⟨W.heap.size, 4, none⟩ = some (.int .i64 v4) ∧ w.cell? ⟨W.heap.size, 5, none⟩ = some (.string v5) ∧ w.cell? ⟨W.heap.size, 6, none⟩ = some (.slice a6 n6 c6) ∧ w.cell? ⟨W.heap.size, 7, none⟩ = some (.slice a7 n7 c7) ∧ w.cell? ⟨W.heap.size, 8, none⟩ = some (.slice a8 n8 c8)) ((refine HS.out _ ?_; (first | assumption | exact bl0 | exact bl5 | exact bl1 (by assumption) | exact bl2 (by assumption) | exact bl3 (by assumption) | exact bl4 (by assumption))))
      (first
      | (rw [if_pos (by rfl)]; refine wp_append_own _ _ _ 25 rfl W1.heap.size 9 i (.string { data := #[] }) 1 16 Tryz.underlying25 hi hz2 hz0 hz1 rfl (by decide) _ 1 [.string name] rfl HOWN.out ⟨b, oo, none⟩ args.length ca (args.map Value.string) rfl (by simp) (HROW.out _ HBA.out) HZ.out (by simp only [maxLen]; omega) (by omega) HBA.out.size ?_; intro v' w3 hown' hgrow hnil; have HO : Hid (OutV W1 w3 v' (name :: args)) := Lib.hid ⟨by simpa [Nat.add_comm] using hown', HBA.out.grown hgrow HBA.out.size fun k hk => (Option.some.inj hk) ▸ Nat.le_refl _⟩; have hbw3 : Hid (Below W1.heap.size W1 w3) := Lib.hid HO.out.2; clear hown' hgrow hnil)
      | (go_at_call 26; refine ((‹Hid (OutV W1 _ _ (name :: args))›).out.join (sep := sBlank) (by simp; omega) (by omega)).mono ?_; rintro e w' ⟨rfl, hb⟩; have hbw4 : Hid (Below W1.heap.size W1 w') := Lib.hid ((‹Hid (OutV W1 _ _ (name :: args))›).out.2.trans (hb.mono (‹Hid (OutV W1 _ _ (name :: args))›).out.2.size)); clear hb)
      | (go_at_call 14; refine (HX.out _ ?_).mono ?_; (first | assumption | exact bl0 | exact bl5 | exact bl1 (by assumption) | exact bl2 (by assumption) | exact bl3 (by assumption) | exact bl4 (by assumption)); rintro e w' ⟨rfl, hb⟩))
    | fail
    all_goals go_wp2
    all_goals go_ret
    all_goals exact ⟨congrArg (fun x => Ending.returned (Value.string x)) HD.out.symm, HBK.out _ (‹Hid (Below _ _ _) ∧ _›).1⟩
end Go.Pr
namespace Go.Pr
open Go Go.RowKit Go.Proofs
theorem args_len (l : List ByteArray) : l.length ≤ (l.map fun x => 1 + x.size).sum := by
  induction l with
  | nil => simp
  | cons x r ih => simp only [List.map_cons, List.sum_cons, List.length_cons]; omega
theorem dec_ok {d : D} {W0 : World} (hw : d.w ≤ 1048576) (hT : ∀ x, x.w < d.w → FnOK 17 .ty T W0 x) (hE : ∀ x, x.w < d.w → FnOK 14 .exp T W0 x) (hC : ∀ x, x.w < d.w → FnOK 12 .con T W0 x) (hF : ∀ x, x.w < d.w → FnOK 16 .fn T W0 x) : FnOK 6 .dec T W0 d := by
  intro W vs hv hB
  have hs := hv.size_le hw
  obtain ⟨k, name, vars, sv, sc, sf, lc, lf, vc, vf, t, e, vt, ve, rfl, hrv, hrc, hrf, hty, hex, ht, hpw⟩ := hv.dec_parts
  obtain ⟨v5, v6, v7, a8, n8, c8, rfl⟩ := hty.ty_vals
  obtain ⟨v9, v10, v11, v12, a13, n13, c13, a14, n14, c14, a15, n15, c15, rfl⟩ := hex.exp_vals
  obtain ⟨a2, c2, rfl, _⟩ := id hrv
  obtain ⟨a3, c3, rfl⟩ := hrc.slice
  obtain ⟨a4, c4, rfl⟩ := hrf.slice
  have hd : T d = decText k name vars lc lf t e := ht
  rw [hd]
  rw [ht] at hs
  have hal := args_len vars
  have hlc := len_le hrc.fits
  have hlf := len_le hrf.fits
  have hjv : (joinB vars sComma).size ≤ 3298736209920 := by have := args_le vars sComma (by decide); omega
  have hvs : (varsT vars).size ≤ 3298736209930 := by
    unfold varsT
    split
    · rw [size_emp]; omega
    · have := round_size (joinB vars sComma) (decide (1 < vars.length))
      rw [size_append]
      show _ + 1 ≤ _
      omega
  have hjv2 : (joinB vars sComma).size ≤ 1099578736640 := by have := args_le vars sComma (by decide); omega
  have jc : (joinB (lc.map T) sBar).size ≤ 1099578736640 := joinM hrc.fits (by omega) fun x _ => by show x.t.size + 3 ≤ _; omega
  have jf : (joinB (lf.map T) sAnd).size ≤ 1099578736640 := joinM hrf.fits (by omega) fun x _ => by show x.t.size + 5 ≤ _; omega
  have hez : (T e).size ≤ 1099578736640 := by have := hex.size_le (by omega); show e.t.size ≤ _; omega
  have htz : (T t).size ≤ 1099578736640 := by have := hty.size_le (by omega); show t.t.size ≤ _; omega
  generalize hW1 : W.alloc (.cells ⟨[.int .u8 k, .string name, .slice a2 vars.length c2, .slice a3 lc.length c3, .slice a4 lf.length c4, .int .u8 v5, .string v6, .int .i64 v7, .slice a8 n8 c8, .int .u8 v9, .string v10, .int .i64 v11, .string v12, .slice a13 n13 c13, .slice a14 n14 c14, .slice a15 n15 c15]⟩ 36) = W1
  have hBW : Below W0.heap.size W0 W1 := by rw [← hW1]; exact hB.alloc hB.size _
  have hBe : Below W.heap.size W W1 := by rw [← hW1]; exact (Below.refl _ _).alloc (Nat.le_refl _) _
  have HBK : Hid (∀ w, Hid (Below W1.heap.size W1 w) → Below W.heap.size W w) := Lib.hid fun w hb => hBe.trans (hb.out.mono hBe.size)
  have HS : Hid (∀ w, Hid (Below W1.heap.size W1 w) → Hid (Below W1.heap.size W1 w) ∧ w.cell? ⟨W.heap.size, 0, none⟩ = some (.int .u8 k) ∧ w.cell? ⟨W.heap.size, 1, none⟩ = some (.string name) ∧ w.cell? ⟨W.heap.size, 2, none⟩ = some (.slice a2 vars.length c2) ∧ w.cell? ⟨W.heap.size, 3, none⟩ = some (.slice a3 lc.length c3) ∧ w.cell? ⟨W.heap.size, 4, none⟩ = some (.slice a4 lf.length c4) ∧ w.cell? ⟨W.heap.size, 5, none⟩ = some (.int .u8 v5) ∧ w.cell? ⟨W.heap.size, 6, none⟩ = some (.string v6) ∧ w.cell? ⟨W.heap.size, 7, none⟩ = some (.int .i64 v7) ∧ w.cell? ⟨W.heap.size, 8, none⟩ = some (.slice a8 n8 c8) ∧ w.cell? ⟨W.heap.size, 9, none⟩ = some (.int .u8 v9) ∧ w.cell? ⟨W.heap.size, 10, none⟩ = some (.string v10) ∧ w.cell? ⟨W.heap.size, 11, none⟩ = some (.int .i64 v11) ∧ w.cell? ⟨W.heap.size, 12, none⟩ = some (.string v12) ∧ w.cell? ⟨W.heap.size, 13, none⟩ = some (.slice a13 n13 c13) ∧ w.cell? ⟨W.heap.size, 14, none⟩ = some (.slice a14 n14 c14) ∧ w.cell? ⟨W.heap.size, 15, none⟩ = some (.slice a15 n15 c15)) := by
    refine Lib.hid fun w hb => ⟨hb, ?_⟩
    have hc := fun o => hb.out.cell (p := ⟨W.heap.size, o, none⟩) (by rw [← hW1]; simp)
    simp only [hc]
    rw [← hW1]
    simp [go_sem]
  have hS1 := (HS.out W1 (Lib.hid (Below.refl _ _))).2
  have HT := lift (G := .returned (.string (T t))) hBW fun w hb => hT t (by omega) w _ hty hb
  have HE := lift (G := .returned (.string (T e))) hBW fun w hb => hE e (by omega) w _ hex hb
  have HV := lift (G := .returned (.string (varsT vars))) hBW fun w hb => vars_ok hrv hb (by omega) hjv2
  have HC := lift (G := .returned (.string (joinB (lc.map T) sBar))) hBW fun w hb => texts_con (fn := 12) (fun _ _ => rfl) (sep := sBar) hrc.row hrc.kid hb (by omega) (fun x hx => hC x (by have := w_mem hx; omega)) (by omega)
  have HF := lift (G := .returned (.string (joinB (lf.map T) sAnd))) hBW fun w hb => texts_fn (fn := 16) (fun _ _ => rfl) (sep := sAnd) hrf.row hrf.kid hb (by omega) (fun x hx => hF x (by have := w_mem hx; omega)) (by omega)
  have hname : name.size ≤ 1048576 := by omega
  clear hT hE hC hF hv hB hty hex ht hd hs hBW hBe hpw hrv hrc hrf hal hlc hlf hjv hjv2
  by_cases h1 : k = 1
  · subst h1
    have HD : Hid (decText 1 name vars lc lf t e = sData ++ varsT vars ++ name ++ sIs ++ joinB (lc.map T) sBar) := Lib.hid rfl
    generalize decText 1 name vars lc lf t e = tt at *
    generalize joinB (lc.map T) sBar = jjc at *
    generalize joinB (lf.map T) sAnd = jjf at *
    generalize varsT vars = vv at *
    generalize T t = tty at *
    generalize T e = tex at *
    go_enter Tryz.func6, Tryz.ntmps6
    go_wp2_with fail
    try rw [hW1]
    refine (HC.out _ ?_).mono ?_
    (first | assumption | exact bl0 | exact bl5 | exact bl1 (by assumption) | exact bl2 (by assumption) | exact bl3 (by assumption))
    rintro e0 w0 ⟨rfl, hb0⟩
    have hS0 := (HS.out _ hb0).2
    go_wp2
    have z00 : ¬ 9223372036854775807 < 9 + vv.size := by omega
    have z01 : ¬ 9223372036854775807 < 9 + vv.size + name.size := by omega
    have z02 : ¬ 9223372036854775807 < 9 + vv.size + name.size + 3 := by omega
    have z03 : ¬ 9223372036854775807 < 9 + vv.size + name.size + 3 + jjc.size := by omega
    first
    | go_region_held3 (fun w => Hid (Below W1.heap.size W1 w) ∧ w.cell? ⟨W.heap.size, 0, none⟩ = some (.int .u8 1) ∧ w.cell? ⟨W.heap.size, 1, none⟩ = some (.string name) ∧ w.cell? ⟨W.heap.size, 2, none⟩ = some (.slice a2 vars.length c2) ∧ w.cell? ⟨W.heap.size, 3, none⟩ = some (.slice a3 lc.length c3) ∧ w.cell? ⟨W.heap.size, 4, none⟩ = some (.slice a4 lf.length c4) ∧ w.cell? ⟨W.heap.size, 5, none⟩ = some (.int .u8 v5) ∧ w.cell? ⟨W.heap.size, 6, none⟩ = some (.string v6) ∧ w.cell? ⟨W.heap.size, 7, none⟩ = some (.int .i64 v7) ∧ w.cell? ⟨W.heap.size, 8, none⟩ = some (.slice a8 n8 c8) ∧ w.cell? ⟨W.heap.size, 9, none⟩ = some (.int .u8 v9) ∧ w.cell? ⟨W.heap.size, 10, none⟩ = some (.string v10) ∧ w.cell? ⟨W.heap.size, 11, none⟩ = some (.int .i64 v11) ∧ w.cell? ⟨W.heap.size, 12, none⟩ = some (.string v12) ∧ w.cell? ⟨W.heap.size, 13, none⟩ = some (.slice a13 n13 c13) ∧ w.cell? ⟨W.heap.size, 14, none⟩ = some (.slice a14 n14 c14) ∧ w.cell? ⟨W.heap.size, 15, none⟩ = some (.slice a15 n15 c15)) ((refine HS.out _ ?_; (first | assumption | exact bl0 | exact bl5 | exact bl1 (by assumption) | exact bl2 (by assumption) | exact bl3 (by assumption))))
    (first
      | (go_at_call 13; refine (HV.out _ ?_).mono ?_; (first | assumption | exact bl0 | exact bl5 | exact bl1 (by assumption) | exact bl2 (by assumption) | exact bl3 (by assumption)); rintro e w' ⟨rfl, hb⟩))
    | fail
    all_goals go_wp2
    all_goals go_ret
    all_goals exact ⟨congrArg (fun x => Ending.returned (Value.string x)) HD.out.symm, HBK.out _ (‹Hid (Below _ _ _) ∧ _›).1⟩
  have e1 : (k == 1) = false := by simpa using h1
  by_cases h2 : k = 2
  · subst h2
    have HD : Hid (decText 2 name vars lc lf t e = sExn ++ joinB (lc.map T) sBar) := Lib.hid rfl
    generalize decText 2 name vars lc lf t e = tt at *
    generalize joinB (lc.map T) sBar = jjc at *
    generalize joinB (lf.map T) sAnd = jjf at *
    generalize varsT vars = vv at *
    generalize T t = tty at *
    generalize T e = tex at *
    go_enter Tryz.func6, Tryz.ntmps6
    go_wp2_with fail
    try rw [hW1]
    refine (HC.out _ ?_).mono ?_
    (first | assumption | exact bl0 | exact bl5 | exact bl1 (by assumption) | exact bl2 (by assumption) | exact bl3 (by assumption))
    rintro e0 w0 ⟨rfl, hb0⟩
    have hS0 := (HS.out _ hb0).2
    go_wp2
    go_ret
    exact ⟨congrArg (fun x => Ending.returned (Value.string x)) HD.out.symm, HBK.out _ hb0⟩
  have e2 : (k == 2) = false := by simpa using h2
  by_cases h3 : k = 3
  · subst h3
    have HD : Hid (decText 3 name vars lc lf t e = sVal ++ name ++ sIs ++ T e) := Lib.hid rfl
    generalize decText 3 name vars lc lf t e = tt at *
    generalize joinB (lc.map T) sBar = jjc at *
    generalize joinB (lf.map T) sAnd = jjf at *
    generalize varsT vars = vv at *
    generalize T t = tty at *
    generalize T e = tex at *
    go_enter Tryz.func6, Tryz.ntmps6
    go_wp2_with fail
    try rw [hW1]
    refine (HC.out _ ?_).mono ?_
    (first | assumption | exact bl0 | exact bl5 | exact bl1 (by assumption) | exact bl2 (by assumption) | exact bl3 (by assumption))
    rintro e0 w0 ⟨rfl, hb0⟩
    have hS0 := (HS.out _ hb0).2
    go_wp2
    have z00 : ¬ 9223372036854775807 < 4 + name.size := by omega
    have z01 : ¬ 9223372036854775807 < 4 + name.size + 3 := by omega
    have z02 : ¬ 9223372036854775807 < 4 + name.size + 3 + tex.size := by omega
    first
    | go_region_held3 (fun w => Hid (Below W1.heap.size W1 w) ∧ w.cell? ⟨W.heap.size, 0, none⟩ = some (.int .u8 3) ∧ w.cell? ⟨W.heap.size, 1, none⟩ = some (.string name) ∧ w.cell? ⟨W.heap.size, 2, none⟩ = some (.slice a2 vars.length c2) ∧ w.cell? ⟨W.heap.size, 3, none⟩ = some (.slice a3 lc.length c3) ∧ w.cell? ⟨W.heap.size, 4, none⟩ = some (.slice a4 lf.length c4) ∧ w.cell? ⟨W.heap.size, 5, none⟩ = some (.int .u8 v5) ∧ w.cell? ⟨W.heap.size, 6, none⟩ = some (.string v6) ∧ w.cell? ⟨W.heap.size, 7, none⟩ = some (.int .i64 v7) ∧ w.cell? ⟨W.heap.size, 8, none⟩ = some (.slice a8 n8 c8) ∧ w.cell? ⟨W.heap.size, 9, none⟩ = some (.int .u8 v9) ∧ w.cell? ⟨W.heap.size, 10, none⟩ = some (.string v10) ∧ w.cell? ⟨W.heap.size, 11, none⟩ = some (.int .i64 v11) ∧ w.cell? ⟨W.heap.size, 12, none⟩ = some (.string v12) ∧ w.cell? ⟨W.heap.size, 13, none⟩ = some (.slice a13 n13 c13) ∧ w.cell? ⟨W.heap.size, 14, none⟩ = some (.slice a14 n14 c14) ∧ w.cell? ⟨W.heap.size, 15, none⟩ = some (.slice a15 n15 c15)) ((refine HS.out _ ?_; (first | assumption | exact bl0 | exact bl5 | exact bl1 (by assumption) | exact bl2 (by assumption) | exact bl3 (by assumption))))
    (first
      | (go_at_call 14; refine (HE.out _ ?_).mono ?_; (first | assumption | exact bl0 | exact bl5 | exact bl1 (by assumption) | exact bl2 (by assumption) | exact bl3 (by assumption)); rintro e w' ⟨rfl, hb⟩))
    | fail
    all_goals go_wp2
    all_goals go_ret
    all_goals exact ⟨congrArg (fun x => Ending.returned (Value.string x)) HD.out.symm, HBK.out _ (‹Hid (Below _ _ _) ∧ _›).1⟩
  have e3 : (k == 3) = false := by simpa using h3
  by_cases h4 : k = 4
  · subst h4
    have HD : Hid (decText 4 name vars lc lf t e = sFun ++ joinB (lf.map T) sAnd) := Lib.hid rfl
    generalize decText 4 name vars lc lf t e = tt at *
    generalize joinB (lc.map T) sBar = jjc at *
    generalize joinB (lf.map T) sAnd = jjf at *
    generalize varsT vars = vv at *
    generalize T t = tty at *
    generalize T e = tex at *
    go_enter Tryz.func6, Tryz.ntmps6
    go_wp2_with fail
    try rw [hW1]
    refine (HC.out _ ?_).mono ?_
    (first | assumption | exact bl0 | exact bl5 | exact bl1 (by assumption) | exact bl2 (by assumption) | exact bl3 (by assumption))
    rintro e0 w0 ⟨rfl, hb0⟩
    have hS0 := (HS.out _ hb0).2
    go_wp2_with fail
    refine (HF.out _ ?_).mono ?_
    (first | assumption | exact bl0 | exact bl5 | exact bl1 (by assumption) | exact bl2 (by assumption) | exact bl3 (by assumption))
    rintro e1 w1 ⟨rfl, hb1⟩
    have hS1' := (HS.out _ hb1).2
    go_wp2
    go_ret
    exact ⟨congrArg (fun x => Ending.returned (Value.string x)) HD.out.symm, HBK.out _ hb1⟩
  have e4 : (k == 4) = false := by simpa using h4
  by_cases h5 : k = 5
  · subst h5
    have HD : Hid (decText 5 name vars lc lf t e = sRoot ++ name ++ sColon ++ T t ++ sIs ++ T e) := Lib.hid rfl
    generalize decText 5 name vars lc lf t e = tt at *
    generalize joinB (lc.map T) sBar = jjc at *
    generalize joinB (lf.map T) sAnd = jjf at *
    generalize varsT vars = vv at *
    generalize T t = tty at *
    generalize T e = tex at *
    go_enter Tryz.func6, Tryz.ntmps6
    go_wp2_with fail
    try rw [hW1]
    refine (HC.out _ ?_).mono ?_
    (first | assumption | exact bl0 | exact bl5 | exact bl1 (by assumption) | exact bl2 (by assumption) | exact bl3 (by assumption))
    rintro e0 w0 ⟨rfl, hb0⟩
    have hS0 := (HS.out _ hb0).2
    go_wp2
    have z00 : ¬ 9223372036854775807 < 5 + name.size := by omega
    have z01 : ¬ 9223372036854775807 < 5 + name.size + 3 := by omega
    have z02 : ¬ 9223372036854775807 < 5 + name.size + 3 + tty.size := by omega
    have z03 : ¬ 9223372036854775807 < 5 + name.size + 3 + tty.size + 3 := by omega
    have z04 : ¬ 9223372036854775807 < 5 + name.size + 3 + tty.size + 3 + tex.size := by omega
    first
    | go_region_held3 (fun w => Hid (Below W1.heap.size W1 w) ∧ w.cell? ⟨W.heap.size, 0, none⟩ = some (.int .u8 5) ∧ w.cell? ⟨W.heap.size, 1, none⟩ = some (.string name) ∧ w.cell? ⟨W.heap.size, 2, none⟩ = some (.slice a2 vars.length c2) ∧ w.cell? ⟨W.heap.size, 3, none⟩ = some (.slice a3 lc.length c3) ∧ w.cell? ⟨W.heap.size, 4, none⟩ = some (.slice a4 lf.length c4) ∧ w.cell? ⟨W.heap.size, 5, none⟩ = some (.int .u8 v5) ∧ w.cell? ⟨W.heap.size, 6, none⟩ = some (.string v6) ∧ w.cell? ⟨W.heap.size, 7, none⟩ = some (.int .i64 v7) ∧ w.cell? ⟨W.heap.size, 8, none⟩ = some (.slice a8 n8 c8) ∧ w.cell? ⟨W.heap.size, 9, none⟩ = some (.int .u8 v9) ∧ w.cell? ⟨W.heap.size, 10, none⟩ = some (.string v10) ∧ w.cell? ⟨W.heap.size, 11, none⟩ = some (.int .i64 v11) ∧ w.cell? ⟨W.heap.size, 12, none⟩ = some (.string v12) ∧ w.cell? ⟨W.heap.size, 13, none⟩ = some (.slice a13 n13 c13) ∧ w.cell? ⟨W.heap.size, 14, none⟩ = some (.slice a14 n14 c14) ∧ w.cell? ⟨W.heap.size, 15, none⟩ = some (.slice a15 n15 c15)) ((refine HS.out _ ?_; (first | assumption | exact bl0 | exact bl5 | exact bl1 (by assumption) | exact bl2 (by assumption) | exact bl3 (by assumption))))
    (first
      | (go_at_call 17; refine (HT.out _ ?_).mono ?_; (first | assumption | exact bl0 | exact bl5 | exact bl1 (by assumption) | exact bl2 (by assumption) | exact bl3 (by assumption)); rintro e w' ⟨rfl, hb⟩)
      | (go_at_call 14; refine (HE.out _ ?_).mono ?_; (first | assumption | exact bl0 | exact bl5 | exact bl1 (by assumption) | exact bl2 (by assumption) | exact bl3 (by assumption)); rintro e w' ⟨rfl, hb⟩))
    | fail
    all_goals go_wp2
    all_goals go_ret
    all_goals exact ⟨congrArg (fun x => Ending.returned (Value.string x)) HD.out.symm, HBK.out _ (‹Hid (Below _ _ _) ∧ _›).1⟩
  have e5 : (k == 5) = false := by simpa using h5
  by_cases h6 : k = 6
  · subst h6
    have HD : Hid (decText 6 name vars lc lf t e = sDo ++ T e) := Lib.hid rfl
    generalize decText 6 name vars lc lf t e = tt at *
    generalize joinB (lc.map T) sBar = jjc at *
    generalize joinB (lf.map T) sAnd = jjf at *
    generalize varsT vars = vv at *
    generalize T t = tty at *
    generalize T e = tex at *
    go_enter Tryz.func6, Tryz.ntmps6
    go_wp2_with fail
    try rw [hW1]
    refine (HC.out _ ?_).mono ?_
    (first | assumption | exact bl0 | exact bl5 | exact bl1 (by assumption) | exact bl2 (by assumption) | exact bl3 (by assumption))
    rintro e0 w0 ⟨rfl, hb0⟩
    have hS0 := (HS.out _ hb0).2
    go_wp2_with fail
    refine (HE.out _ ?_).mono ?_
    (first | assumption | exact bl0 | exact bl5 | exact bl1 (by assumption) | exact bl2 (by assumption) | exact bl3 (by assumption))
    rintro e1 w1 ⟨rfl, hb1⟩
    have hS1' := (HS.out _ hb1).2
    go_wp2
    go_ret
    exact ⟨congrArg (fun x => Ending.returned (Value.string x)) HD.out.symm, HBK.out _ hb1⟩
  have e6 : (k == 6) = false := by simpa using h6
  have HD : Hid (decText k name vars lc lf t e = emp) := Lib.hid (by rw [decText, if_neg h1, if_neg h2, if_neg h3, if_neg h4, if_neg h5, if_neg h6])
  generalize decText k name vars lc lf t e = tt at *
  generalize joinB (lc.map T) sBar = jjc at *
  generalize joinB (lf.map T) sAnd = jjf at *
  generalize varsT vars = vv at *
  generalize T t = tty at *
  generalize T e = tex at *
  go_enter Tryz.func6, Tryz.ntmps6
  go_wp2_with fail
  try rw [hW1]
  refine (HC.out _ ?_).mono ?_
  (first | assumption | exact bl0 | exact bl5 | exact bl1 (by assumption) | exact bl2 (by assumption) | exact bl3 (by assumption))
  rintro e0 w0 ⟨rfl, hb0⟩
  have hS0 := (HS.out _ hb0).2
  go_wp2
  go_ret
  exact ⟨congrArg (fun x => Ending.returned (Value.string x)) HD.out.symm, HBK.out _ hb0⟩
end Go.Pr
namespace Go.Pr
open Go Go.RowKit Go.Proofs
structure Printed (W0 : World) (d : D) : Prop where
  ty : FnOK 17 .ty T W0 d
  pat : FnOK 60 .pat T W0 d
  exp : FnOK 14 .exp T W0 d
  rule : FnOK 59 .rule T W0 d
  con : FnOK 12 .con T W0 d
  fn : FnOK 16 .fn T W0 d
  dec : FnOK 6 .dec T W0 d
theorem lone' {W0 : World} {d : D} (hw : d.w ≤ 1048576) (h : FnOK 17 .ty T W0 d) : FnOK 38 .ty loneD W0 d := fun W vs hv hB => lone_ok h (by have := hv.size_le hw; omega) W vs hv hB
theorem arr' {W0 : World} {d : D} (hw : d.w ≤ 1048576) (h : FnOK 17 .ty T W0 d) : FnOK 36 .ty arrD W0 d := fun W vs hv hB => arr_ok h (by have := hv.size_le hw; omega) W vs hv hB
theorem tight' {W0 : World} {d : D} (hw : d.w ≤ 1048576) (h : FnOK 14 .exp T W0 d) : FnOK 61 .exp tightD W0 d := fun W vs hv hB => tight_ok h (by have := hv.size_le hw; omega) W vs hv hB
theorem semi' {W0 : World} {d : D} (hw : d.w ≤ 1048576) (h : FnOK 6 .dec T W0 d) : FnOK 32 .dec semiD W0 d := fun W vs hv hB => semi_ok h (by have := hv.size_le hw; omega) W vs hv hB
theorem ends' {W0 : World} {d : D} (hw : d.w ≤ 1048576) (h : FnOK 6 .dec T W0 d) : FnOK 23 .dec endsD W0 d := fun W vs hv hB => ends_ok h (by have := hv.size_le hw; omega) W vs hv hB
theorem print_all {W0 : World} (hTab : TabV W0) (hQ : QuoteV W0) : ∀ (n : Nat) (d : D), d.w < n → d.w ≤ 1048576 → Printed W0 d
  | 0, _, h, _ => absurd h (Nat.not_lt_zero _)
  | n + 1, d, h, hw => by
    have ih : ∀ x : D, x.w < d.w → Printed W0 x := fun x hx => print_all hTab hQ n x (by omega) (by omega)
    exact ⟨
      ty_ok hTab hw (fun x hx => (ih x hx).ty) (fun x hx => arr' (by omega) (ih x hx).ty) (fun x hx => lone' (by omega) (ih x hx).ty),
      pat_ok hTab hw (fun x hx => (ih x hx).pat) (fun x hx => parg_ok (by omega) (ih x hx).pat),
      exp_ok hTab hQ hw (fun x hx => (ih x hx).exp) (fun x hx => tight' (by omega) (ih x hx).exp) (fun x hx => (ih x hx).rule) (fun x hx => semi' (by omega) (ih x hx).dec),
      rule_ok hw (fun x hx => (ih x hx).pat) (fun x hx => tight' (by omega) (ih x hx).exp),
      con_ok hw (fun x hx => (ih x hx).ty),
      fn_ok hw (fun x hx => (ih x hx).exp),
      dec_ok hw (fun x hx => (ih x hx).ty) (fun x hx => (ih x hx).exp) (fun x hx => (ih x hx).con) (fun x hx => (ih x hx).fn)⟩
theorem printed {W0 : World} (hTab : TabV W0) (hQ : QuoteV W0) (d : D) (hw : d.w ≤ 1048576) : Printed W0 d := print_all hTab hQ (d.w + 1) d (Nat.lt_succ_self _) hw
def progT (l : List D) : ByteArray := joinB (l.map endsD) emp
theorem progT_size {l : List D} (h : Fits l) (hw : wsum l ≤ 1048576) : (progT l).size ≤ 1099578736640 := joinM h hw fun x _ => by
  show (x.t ++ sEnds).size + 0 ≤ _
  rw [size_append]
  show _ + 2 + 0 ≤ _
  omega
theorem program_ok {l : List D} {vf : Nat → List Value} {W0 W : World} {s : Value} (hTab : TabV W0) (hQ : QuoteV W0) (hs : Row W0 .dec 16 s l vf) (hw : wsum l ≤ 1048576) (hB : Below W0.heap.size W0 W) :
    Calls Tryz.prog 8 #[s] W fun e w' => e = .returned (.string (progT l)) ∧ Below W.heap.size W w' := by
  obtain ⟨a, c, rfl⟩ := hs.slice
  have hsz := progT_size hs.fits hw
  have hl := len_le hs.fits
  have H := Lib.hid (texts_dec (fn := 23) (fun _ _ => rfl) (sep := emp) hs.row hs.kid hB (by omega) (fun x hx => ends' (by have := w_mem hx; omega) (printed hTab hQ x (by have := w_mem hx; omega)).dec) (by show (progT l).size ≤ _; omega))
  clear hs hB hTab hQ
  have hp : joinB (l.map endsD) emp = progT l := rfl
  rw [hp] at H
  generalize progT l = jj at *
  clear hp
  go_enter Tryz.func8, Tryz.ntmps8
  go_wp2_with fail
  refine H.out.mono ?_
  rintro e w' ⟨rfl, hb⟩
  have HB := Lib.hid hb
  clear hb
  go_wp2
  go_ret
  exact ⟨rfl, HB.out⟩
end Go.Pr
