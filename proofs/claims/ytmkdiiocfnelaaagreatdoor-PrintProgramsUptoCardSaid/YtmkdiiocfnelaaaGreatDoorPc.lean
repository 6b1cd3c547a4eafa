/- How print tells types, patterns and expressions, walked by hand. Each says its own conditions. -/
import Derived.Test.YtmkdiiocfnelaaaGreatDoorPb
import Derived.Laws.PanicsMore
set_option linter.unusedVariables false
set_option linter.unusedSimpArgs false
set_option maxRecDepth 100000
set_option maxHeartbeats 4000000
namespace Go.Pr
open Go Go.RowKit Go.Proofs
theorem ty_ok {d : D} {W0 : World} (hTab : TabV W0) (hw : d.w ≤ 1048576) (hT : ∀ x, x.w < d.w → FnOK 17 .ty T W0 x) (hA : ∀ x, x.w < d.w → FnOK 36 .ty arrD W0 x) (hL : ∀ x, x.w < d.w → FnOK 38 .ty loneD W0 x) : FnOK 17 .ty T W0 d := by
  intro W vs hv hB
  obtain ⟨k, name, num, a, l, c, vf, rfl, ht, hk, hn, hnum, hrow, hwt⟩ := hv.ty_parts
  have hts : (T d).size ≤ 1099578736640 := by have := hv.size_le hw; show d.t.size ≤ _; omega
  have hd : T d = tyText k name num l := ht
  rw [hd] at hts ⊢
  have hfit := hrow.fits
  have hll := len_le hfit
  have hxw : ∀ x ∈ l, x.w < d.w := fun x hx => by have := w_mem hx; omega
  have hj1 : (joinB (l.map loneD) sStar).size ≤ 1099578736640 := joinM hfit (by omega) fun x _ => by have := lone_le x; show _ + 3 ≤ _; omega
  have hj2 : (joinB (l.map T) sComma).size ≤ 1099578736640 := joinM hfit (by omega) fun x _ => by show x.t.size + 2 ≤ _; omega
  have hj3 : (joinB (l.dropLast.map arrD) emp).size ≤ 1099578736640 := by
    refine joinM (fun x hx => hfit x (List.dropLast_subset l hx)) ?_ fun x _ => ?_
    · have := wsum_dropLast l
      omega
    · have := round_size x.t (decide (3 = x.k))
      show (roundT x.t (decide (3 = x.k)) ++ sArrow).size + 0 ≤ _
      rw [size_append]
      show _ + 4 + 0 ≤ _
      omega
  have hns := numS_size num
  generalize hW1 : W.alloc (.cells ⟨[.int .u8 k, .string name, .int .i64 num, .slice a l.length c]⟩ 30) = W1
  have hBW : Below W0.heap.size W0 W1 := by rw [← hW1]; exact hB.alloc hB.size _
  have hBe : Below W.heap.size W W1 := by rw [← hW1]; exact (Below.refl _ _).alloc (Nat.le_refl _) _
  have HBK : Hid (∀ w, Hid (Below W1.heap.size W1 w) → Below W.heap.size W w) := Lib.hid fun w hb => hBe.trans (hb.out.mono hBe.size)
  have HS : Hid (∀ w, Hid (Below W1.heap.size W1 w) → Hid (Below W1.heap.size W1 w) ∧ w.cell? ⟨W.heap.size, 0, none⟩ = some (.int .u8 k) ∧ w.cell? ⟨W.heap.size, 1, none⟩ = some (.string name) ∧ w.cell? ⟨W.heap.size, 2, none⟩ = some (.int .i64 num) ∧ w.cell? ⟨W.heap.size, 3, none⟩ = some (.slice a l.length c)) := by
    refine Lib.hid fun w hb => ⟨hb, ?_⟩
    have hc := fun o => hb.out.cell (p := ⟨W.heap.size, o, none⟩) (by rw [← hW1]; simp)
    simp only [hc]
    rw [← hW1]
    simp [go_sem]
  have hS1 := (HS.out W1 (Lib.hid (Below.refl _ _))).2
  have HN := lift (G := .returned (.string (numS num))) hBW fun w hb => number_ok num hnum.1 hnum.2 w (hTab.below hb)
  have HJ1 := lift hBW fun w hb => texts_ty (fn := 38) (fun _ _ => rfl) (sep := sStar) hrow.row hrow.kid hb (by omega) (fun x hx => hL x (hxw x hx)) (by omega)
  have HJ2 := lift hBW fun w hb => texts_ty (fn := 17) (fun _ _ => rfl) (sep := sComma) hrow.row hrow.kid hb (by omega) (fun x hx => hT x (hxw x hx)) (by omega)
  have HJ3 := lift hBW fun w hb => texts_ty (fn := 36) (fun _ _ => rfl) (sep := emp) hrow.dropLast.row hrow.dropLast.kid hb (by simp; omega) (fun x hx => hA x (hxw x (List.dropLast_subset l hx))) (by omega)
  have HT := Lib.hid hT
  have HL := Lib.hid hL
  have HXW := Lib.hid hxw
  have HROW := Lib.hid hrow
  have HBW := Lib.hid hBW
  have HFIT := Lib.hid hfit
  have hll2 : l.length ≤ 1048576 := by omega
  have hwl : wsum l ≤ 1048576 := by omega
  have hname : name.size ≤ 1048576 := by omega
  clear hT hA hL hv hB ht hd hBW hBe hwt hrow hxw hfit hll hTab hk hn
  by_cases h1 : k = 1
  · subst h1
    by_cases h0 : name.size = 0
    · obtain rfl := eq_emp h0
      have HD : Hid (tyText 1 emp num l = sTick ++ numS num) := Lib.hid rfl
      clear h0
      have he : emp.toList.isEmpty = true := by simp [emp, Lib.toList_data]
      generalize tyText 1 emp num l = tt at *
      generalize numS num = nt at *
      go_enter Tryz.func17, Tryz.ntmps17
      go_wp2_with fail
      try rw [hW1]
      refine (HN.out _ ?_).mono ?_
      (first | assumption | exact bl0 | exact bl5 | exact bl1 (by assumption) | exact bl2 (by assumption) | exact bl3 (by assumption))
      rintro e w' ⟨rfl, hb⟩
      go_wp2
      go_ret
      exact ⟨congrArg (fun x => Ending.returned (Value.string x)) HD.out.symm, HBK.out _ hb⟩
    · have HD : Hid (tyText 1 name num l = name) := Lib.hid (by rw [tyText, if_pos rfl, if_neg h0])
      have hb0 := ne_emp h0
      generalize tyText 1 name num l = tt at *
      go_enter Tryz.func17, Tryz.ntmps17
      go_wp2
      go_ret
      exact ⟨congrArg (fun x => Ending.returned (Value.string x)) HD.out.symm, hW1 ▸ (Below.refl _ _).alloc (Nat.le_refl _) _⟩
  have e1 : (k == 1) = false := by simpa using h1
  by_cases h3 : k = 3
  · subst h3
    by_cases h0 : l.length = 0
    · have HD : Hid (tyText 3 name num l = emp) := Lib.hid (by rw [tyText, if_neg (by decide), if_pos rfl, if_pos h0])
      generalize tyText 3 name num l = tt at *
      rw [h0] at hW1
      go_enter Tryz.func17, Tryz.ntmps17
      rw [h0]
      go_wp2
      go_ret
      exact ⟨congrArg (fun x => Ending.returned (Value.string x)) HD.out.symm, hW1 ▸ (Below.refl _ _).alloc (Nat.le_refl _) _⟩
    · obtain ⟨n, hn⟩ : ∃ n, l.length = n + 1 := ⟨l.length - 1, by omega⟩
      obtain ⟨b, o, rfl, hr⟩ := HROW.out.cells (by omega)
      have hcap := HROW.out.cap
      have hget : l[n]? = some l[n] := List.getElem?_eq_getElem (by omega)
      have hkid := HROW.out.kid _ _ hget
      have hc := hr n (by omega)
      obtain ⟨v0, v1, v2, a3, n3, c3, hvk⟩ := hkid.ty_vals
      rw [hvk] at hc hkid
      have hm : l[n] ∈ l := List.getElem_mem _
      have hlast : (txts l).getLastD emp = T l[n] := by
        unfold txts
        rw [List.getLastD_eq_getLast?, List.getLast?_map, List.getLast?_eq_getElem?]
        have e : l[l.length - 1]? = some l[n] := by rw [show l.length - 1 = n by omega]; exact hget
        rw [e]
        rfl
      have HX := lift (G := .returned (.string (T l[n]))) HBW.out fun w hb => HT.out _ (HXW.out _ hm) w _ hkid hb
      have hD : tyText 3 name num l = joinB (l.dropLast.map arrD) emp ++ T l[n] := by rw [tyText, if_neg (by decide), if_pos rfl, if_neg h0, hlast]
      rw [hD] at hts
      have HD := Lib.hid hD
      have HS2 : Hid (∀ w, Hid (Below W1.heap.size W1 w) → Hid (Below W1.heap.size W1 w) ∧ w.cell? ⟨W.heap.size, 0, none⟩ = some (.int .u8 3) ∧ w.cell? ⟨W.heap.size, 1, none⟩ = some (.string name) ∧ w.cell? ⟨W.heap.size, 2, none⟩ = some (.int .i64 num) ∧ w.cell? ⟨W.heap.size, 3, none⟩ = some (.slice (some ⟨b, o, none⟩) (n + 1) c) ∧ w.cell? ⟨b, o + n * 4, none⟩ = some (.int .u8 v0) ∧ w.cell? ⟨b, o + n * 4 + 1, none⟩ = some (.string v1) ∧ w.cell? ⟨b, o + n * 4 + 2, none⟩ = some (.int .i64 v2) ∧ w.cell? ⟨b, o + n * 4 + 3, none⟩ = some (.slice a3 n3 c3)) := Lib.hid fun w hb => by
        refine ⟨hb, ?_⟩
        have hcw := hc.below (HBW.out.trans (hb.out.mono HBW.out.size))
        have q := (HS.out w hb).2
        rw [hn] at q
        exact ⟨q.1, q.2.1, q.2.2.1, q.2.2.2, hcw 0 _ rfl, hcw 1 _ rfl, hcw 2 _ rfl, hcw 3 _ rfl⟩
      clear hc hkid hvk hlast hD hr hget HS HROW HXW HJ1 HJ2 HFIT hj1 hj2 hm
      generalize tyText 3 name num l = tt at *
      generalize T l[n] = tl at *
      generalize joinB (l.dropLast.map arrD) emp = jj at *
      rw [size_append] at hts
      rw [hn] at hcap HJ3 hW1 hS1 hll2 ⊢
      rw [Nat.add_sub_cancel] at HJ3
      go_enter Tryz.func17, Tryz.ntmps17
      go_wp2
      try rw [hW1]
      have hwr : IntKind.i64.wrap (n : Int) = (n : Int) := wrap_small _ (by omega) (by omega)
      have i5 : (n : Int) ≤ (c : Int) := by omega
      have i6 : (n : Int) + 1 ≤ (c : Int) := by omega
      have i2 : (n : Int) ≤ (n : Int) + 1 := by omega
      have i3 : (n : Int) < (n : Int) + 1 := by omega
      have i4 : (0 : Int) ≤ (n : Int) := by omega
      have z00 : ¬ 9223372036854775807 < jj.size + tl.size := by omega
      go_region_held3 (fun w => Hid (Below W1.heap.size W1 w) ∧ w.cell? ⟨W.heap.size, 0, none⟩ = some (.int .u8 3) ∧ w.cell? ⟨W.heap.size, 1, none⟩ = some (.string name) ∧ w.cell? ⟨W.heap.size, 2, none⟩ = some (.int .i64 num) ∧ w.cell? ⟨W.heap.size, 3, none⟩ = some (.slice (some ⟨b, o, none⟩) (n + 1) c) ∧ w.cell? ⟨b, o + n * 4, none⟩ = some (.int .u8 v0) ∧ w.cell? ⟨b, o + n * 4 + 1, none⟩ = some (.string v1) ∧ w.cell? ⟨b, o + n * 4 + 2, none⟩ = some (.int .i64 v2) ∧ w.cell? ⟨b, o + n * 4 + 3, none⟩ = some (.slice a3 n3 c3)) ((refine HS2.out _ ?_; (first | assumption | exact bl0 | exact bl5 | exact bl1 (by assumption) | exact bl2 (by assumption) | exact bl3 (by assumption))))
        (first
        | (go_at_call 35; refine (HJ3.out _ ?_).mono ?_; (first | assumption | exact bl0 | exact bl5 | exact bl1 (by assumption) | exact bl2 (by assumption) | exact bl3 (by assumption)); rintro e w' ⟨rfl, hb⟩)
        | (go_at_call 17; refine (HX.out _ ?_).mono ?_; (first | assumption | exact bl0 | exact bl5 | exact bl1 (by assumption) | exact bl2 (by assumption) | exact bl3 (by assumption)); rintro e w' ⟨rfl, hb⟩))
      all_goals go_wp2
      all_goals go_ret
      all_goals exact ⟨congrArg (fun x => Ending.returned (Value.string x)) HD.out.symm, HBK.out _ (‹Hid (Below _ _ _) ∧ _›).1⟩
  have e3 : (k == 3) = false := by simpa using h3
  by_cases h4 : k = 4
  · subst h4
    have HD : Hid (tyText 4 name num l = joinB (l.map loneD) sStar) := Lib.hid rfl
    clear HROW HXW HJ2 HJ3 HFIT
    generalize tyText 4 name num l = tt at *
    generalize joinB (l.map loneD) sStar = jj at *
    go_enter Tryz.func17, Tryz.ntmps17
    go_wp2_with fail
    try rw [hW1]
    refine (HJ1.out _ ?_).mono ?_
    (first | assumption | exact bl0 | exact bl5 | exact bl1 (by assumption) | exact bl2 (by assumption) | exact bl3 (by assumption))
    rintro e w' ⟨rfl, hb⟩
    go_wp2
    go_ret
    exact ⟨congrArg (fun x => Ending.returned (Value.string x)) HD.out.symm, HBK.out _ hb⟩
  have e4 : (k == 4) = false := by simpa using h4
  by_cases h2 : k = 2
  · subst h2
    by_cases h0 : l.length = 0
    · have HD : Hid (tyText 2 name num l = name) := Lib.hid (by rw [tyText, if_neg (by decide), if_neg (by decide), if_neg (by decide), if_pos rfl, if_pos h0])
      generalize tyText 2 name num l = tt at *
      rw [h0] at hW1 hS1
      go_enter Tryz.func17, Tryz.ntmps17
      rw [h0]
      go_wp2
      go_ret
      exact ⟨congrArg (fun x => Ending.returned (Value.string x)) HD.out.symm, hW1 ▸ (Below.refl _ _).alloc (Nat.le_refl _) _⟩
    by_cases h5 : l.length = 1
    · obtain ⟨b, o, rfl, hr⟩ := HROW.out.cells (by omega)
      have hget : l[0]? = some l[0] := List.getElem?_eq_getElem (by omega)
      have hkid := HROW.out.kid _ _ hget
      have hc := hr 0 (by omega)
      obtain ⟨v0, v1, v2, a3, n3, c3, hvk⟩ := hkid.ty_vals
      rw [hvk] at hc hkid
      have hm : l[0] ∈ l := List.getElem_mem _
      have HX := lift (G := .returned (.string (loneD l[0]))) HBW.out fun w hb => HL.out _ (HXW.out _ hm) w _ hkid hb
      have hD : tyText 2 name num l = loneD l[0] ++ sBlank ++ name := by
        rw [tyText, if_neg (by decide), if_neg (by decide), if_neg (by decide), if_pos rfl, if_neg h0, if_pos h5]
        match l, h5 with
        | [x], _ => rfl
      have hlz : (loneD l[0]).size ≤ 1099578736640 := by
        have h1 := lone_le l[0]
        have h2 := mem_fit HFIT.out hm
        have h3 := F_leM (n := wsum l) (by omega)
        omega
      have HD := Lib.hid hD
      have HS2 : Hid (∀ w, Hid (Below W1.heap.size W1 w) → Hid (Below W1.heap.size W1 w) ∧ w.cell? ⟨W.heap.size, 0, none⟩ = some (.int .u8 2) ∧ w.cell? ⟨W.heap.size, 1, none⟩ = some (.string name) ∧ w.cell? ⟨W.heap.size, 2, none⟩ = some (.int .i64 num) ∧ w.cell? ⟨W.heap.size, 3, none⟩ = some (.slice (some ⟨b, o, none⟩) 1 c) ∧ w.cell? ⟨b, o, none⟩ = some (.int .u8 v0) ∧ w.cell? ⟨b, o + 1, none⟩ = some (.string v1) ∧ w.cell? ⟨b, o + 2, none⟩ = some (.int .i64 v2) ∧ w.cell? ⟨b, o + 3, none⟩ = some (.slice a3 n3 c3)) := Lib.hid fun w hb => by
        refine ⟨hb, ?_⟩
        have hcw := hc.below (HBW.out.trans (hb.out.mono HBW.out.size))
        have q := (HS.out w hb).2
        rw [h5] at q
        have hcw := fun j v h => hcw j v h
        simp only [Nat.zero_mul, Nat.add_zero] at hcw
        exact ⟨q.1, q.2.1, q.2.2.1, q.2.2.2, hcw 0 _ rfl, hcw 1 _ rfl, hcw 2 _ rfl, hcw 3 _ rfl⟩
      clear hc hkid hvk hD hr hget HS HROW HXW HJ1 HJ2 HJ3 HFIT hj1 hj2 hj3 hm
      generalize tyText 2 name num l = tt at *
      generalize loneD l[0] = tl at *
      rw [h5] at hW1 hS1 hll2 ⊢
      go_enter Tryz.func17, Tryz.ntmps17
      go_wp2
      try rw [hW1]
      have z00 : ¬ 9223372036854775807 < tl.size + 1 := by omega
      have z01 : ¬ 9223372036854775807 < tl.size + 1 + name.size := by omega
      go_region_held3 (fun w => Hid (Below W1.heap.size W1 w) ∧ w.cell? ⟨W.heap.size, 0, none⟩ = some (.int .u8 2) ∧ w.cell? ⟨W.heap.size, 1, none⟩ = some (.string name) ∧ w.cell? ⟨W.heap.size, 2, none⟩ = some (.int .i64 num) ∧ w.cell? ⟨W.heap.size, 3, none⟩ = some (.slice (some ⟨b, o, none⟩) 1 c) ∧ w.cell? ⟨b, o, none⟩ = some (.int .u8 v0) ∧ w.cell? ⟨b, o + 1, none⟩ = some (.string v1) ∧ w.cell? ⟨b, o + 2, none⟩ = some (.int .i64 v2) ∧ w.cell? ⟨b, o + 3, none⟩ = some (.slice a3 n3 c3)) ((refine HS2.out _ ?_; (first | assumption | exact bl0 | exact bl5 | exact bl1 (by assumption) | exact bl2 (by assumption) | exact bl3 (by assumption))))
        (first
        | (go_at_call 38; refine (HX.out _ ?_).mono ?_; (first | assumption | exact bl0 | exact bl5 | exact bl1 (by assumption) | exact bl2 (by assumption) | exact bl3 (by assumption)); rintro e w' ⟨rfl, hb⟩))
      all_goals go_wp2
      all_goals go_ret
      all_goals exact ⟨congrArg (fun x => Ending.returned (Value.string x)) HD.out.symm, HBK.out _ (‹Hid (Below _ _ _) ∧ _›).1⟩
    · have HD : Hid (tyText 2 name num l = sOpen ++ joinB (l.map T) sComma ++ sShut ++ name) := Lib.hid (by rw [tyText, if_neg (by decide), if_neg (by decide), if_neg (by decide), if_pos rfl, if_neg h0, if_neg h5]; rfl)
      clear HROW HXW HJ1 HJ3 HFIT
      have n0 : ((l.length : Int) == 0) = false := by simpa using h0
      have n1 : ((l.length : Int) == 1) = false := by simp; omega
      generalize tyText 2 name num l = tt at *
      generalize joinB (l.map T) sComma = jj at *
      go_enter Tryz.func17, Tryz.ntmps17
      go_wp2
      try rw [hW1]
      have z00 : ¬ 9223372036854775807 < 1 + jj.size := by omega
      have z01 : ¬ 9223372036854775807 < 1 + jj.size + 2 := by omega
      have z02 : ¬ 9223372036854775807 < 1 + jj.size + 2 + name.size := by omega
      go_region_held3 (fun w => Hid (Below W1.heap.size W1 w) ∧ w.cell? ⟨W.heap.size, 0, none⟩ = some (.int .u8 2) ∧ w.cell? ⟨W.heap.size, 1, none⟩ = some (.string name) ∧ w.cell? ⟨W.heap.size, 2, none⟩ = some (.int .i64 num) ∧ w.cell? ⟨W.heap.size, 3, none⟩ = some (.slice a l.length c)) ((refine HS.out _ ?_; (first | assumption | exact bl0 | exact bl5 | exact bl1 (by assumption) | exact bl2 (by assumption) | exact bl3 (by assumption))))
        (first
        | (go_at_call 35; refine (HJ2.out _ ?_).mono ?_; (first | assumption | exact bl0 | exact bl5 | exact bl1 (by assumption) | exact bl2 (by assumption) | exact bl3 (by assumption)); rintro e w' ⟨rfl, hb⟩))
      all_goals go_wp2
      all_goals go_ret
      all_goals exact ⟨congrArg (fun x => Ending.returned (Value.string x)) HD.out.symm, HBK.out _ (‹Hid (Below _ _ _) ∧ _›).1⟩
  have e2 : (k == 2) = false := by simpa using h2
  have HD : Hid (tyText k name num l = emp) := Lib.hid (by rw [tyText, if_neg h1, if_neg h3, if_neg h4, if_neg h2])
  generalize tyText k name num l = tt at *
  go_enter Tryz.func17, Tryz.ntmps17
  go_wp2
  go_ret
  exact ⟨congrArg (fun x => Ending.returned (Value.string x)) HD.out.symm, hW1 ▸ (Below.refl _ _).alloc (Nat.le_refl _) _⟩
end Go.Pr
namespace Go.Pr
open Go Go.RowKit Go.Proofs
theorem parg_ok {d : D} {W0 : World} (hw : d.w ≤ 1048576) (hP : FnOK 60 .pat T W0 d) : FnOK 94 .pat patArg W0 d := by
  intro W vs hv hB
  have hts := hv.size_le hw
  have hP' := fun W hb => hP W vs hv hb
  obtain ⟨k, name, num, a, l, c, vf, rfl, ht, hk, hn, hnum, hrow, hwt⟩ := hv.pat_parts
  generalize hW1 : W.alloc (.cells ⟨[.int .u8 k, .string name, .int .i64 num, .slice a l.length c]⟩ 44) = W1
  have hBW : Below W0.heap.size W0 W1 := by rw [← hW1]; exact hB.alloc hB.size _
  have hBe : Below W.heap.size W W1 := by rw [← hW1]; exact (Below.refl _ _).alloc (Nat.le_refl _) _
  have HBK : Hid (∀ w, Hid (Below W1.heap.size W1 w) → Below W.heap.size W w) := Lib.hid fun w hb => hBe.trans (hb.out.mono hBe.size)
  have HS : Hid (∀ w, Hid (Below W1.heap.size W1 w) → Hid (Below W1.heap.size W1 w) ∧ w.cell? ⟨W.heap.size, 0, none⟩ = some (.int .u8 k) ∧ w.cell? ⟨W.heap.size, 1, none⟩ = some (.string name) ∧ w.cell? ⟨W.heap.size, 2, none⟩ = some (.int .i64 num) ∧ w.cell? ⟨W.heap.size, 3, none⟩ = some (.slice a l.length c)) := by
    refine Lib.hid fun w hb => ⟨hb, ?_⟩
    have hc := fun o => hb.out.cell (p := ⟨W.heap.size, o, none⟩) (by rw [← hW1]; simp)
    simp only [hc]
    rw [← hW1]
    simp [go_sem]
  have hS1 := (HS.out W1 (Lib.hid (Below.refl _ _))).2
  have HP := lift (G := .returned (.string d.t)) hBW hP'
  have hD : patArg d = sBlank ++ roundT d.t (decide (k = 6) && decide (0 < l.length)) := by unfold patArg; rw [hk, hn]
  have hrs := round_size d.t (decide (k = 6) && decide (0 < l.length))
  have HD := Lib.hid hD
  clear hD hP hP' hv hrow hBW hBe hB ht hk hn hnum
  generalize patArg d = tt at *
  generalize d.t = dt at *
  go_enter Tryz.func94, Tryz.ntmps94
  go_wp2
  try rw [hW1]
  by_cases h6 : k = 6
  · subst h6
    go_region_held3 (fun w => Hid (Below W1.heap.size W1 w) ∧ w.cell? ⟨W.heap.size, 0, none⟩ = some (.int .u8 6) ∧ w.cell? ⟨W.heap.size, 1, none⟩ = some (.string name) ∧ w.cell? ⟨W.heap.size, 2, none⟩ = some (.int .i64 num) ∧ w.cell? ⟨W.heap.size, 3, none⟩ = some (.slice a l.length c)) ((refine HS.out _ ?_; (first | assumption | exact bl0 | exact bl5 | exact bl1 (by assumption) | exact bl2 (by assumption) | exact bl3 (by assumption))))
      (first
      | (go_at_call 60; refine (HP.out _ ?_).mono ?_; (first | assumption | exact bl0 | exact bl5 | exact bl1 (by assumption) | exact bl2 (by assumption) | exact bl3 (by assumption)); rintro e w' ⟨rfl, hb⟩)
      | (go_at_call 27; refine (round_ok2 _ _ _ (by omega)).mono ?_; rintro e w' ⟨r, rfl, hr, hrz, rfl⟩; have hz1 : ¬ 9223372036854775807 < 1 + r.size := by omega))
    all_goals go_wp2
    all_goals go_ret
    all_goals exact ⟨congrArg (fun x => Ending.returned (Value.string x)) (by rw [HD.out, hr.out]; simp; rfl), HBK.out _ (‹Hid (Below _ _ _) ∧ _›).1⟩
  · have e6 : (k == 6) = false := by simpa using h6
    refine wp_region_held_drew (S := (fun w => Hid (Below W1.heap.size W1 w) ∧ w.cell? ⟨W.heap.size, 0, none⟩ = some (.int .u8 k) ∧ w.cell? ⟨W.heap.size, 1, none⟩ = some (.string name) ∧ w.cell? ⟨W.heap.size, 2, none⟩ = some (.int .i64 num) ∧ w.cell? ⟨W.heap.size, 3, none⟩ = some (.slice a l.length c))) (by kernel_rfl) ?_ (fun hHeld => ?_)
    · refine HS.out _ ?_
      (first | assumption | exact bl0 | exact bl5 | exact bl1 (by assumption) | exact bl2 (by assumption) | exact bl3 (by assumption))
    refine wpAnyH_take (i := 0) (v := ?v0) rfl (by kernel_rfl) (by kernel_rfl) (by kernel_rfl) (fun _ _ _ h => h) (Or.inl ⟨by rfl, ?hy0⟩) (by assumption) ?rest0
    case hy0 => (intro w hSw; (try dsimp only at hSw); go_simp; try with_reducible rfl)
    try simp only [Act.put, List.setIfInBounds_toArray, List.set_cons_zero, List.set_cons_succ]
    refine wpAnyH_take (i := 2) (v := ?v2) rfl (by kernel_rfl) (by kernel_rfl) (by kernel_rfl) (fun _ _ _ h => h) (Or.inl ⟨by rfl, ?hy2⟩) (by assumption) ?rest2
    case hy2 => (intro w hSw; (try dsimp only at hSw); go_simp; try with_reducible rfl)
    try simp only [Act.put, List.setIfInBounds_toArray, List.set_cons_zero, List.set_cons_succ]
    refine wpAnyH_take (i := 3) (v := ?v3) rfl (by kernel_rfl) (by kernel_rfl) (by kernel_rfl) (fun _ _ _ h => h) (Or.inl ⟨by rfl, ?hy3⟩) (by assumption) ?rest3
    case hy3 => (intro w hSw; (try dsimp only at hSw); go_simp; try with_reducible rfl)
    try simp only [Act.put, List.setIfInBounds_toArray, List.set_cons_zero, List.set_cons_succ]
    refine wpAnyH_take (i := 4) (v := ?v4) rfl (by kernel_rfl) (by kernel_rfl) (by kernel_rfl) (fun _ _ _ h => h) (Or.inl ⟨by rfl, ?hy4⟩) (by assumption) ?rest4
    case hy4 => (intro w hSw; (try dsimp only at hSw); go_simp; try with_reducible rfl)
    try simp only [Act.put, List.setIfInBounds_toArray, List.set_cons_zero, List.set_cons_succ]
    refine wpAnyH_ready (rs := [1]) (by kernel_rfl) (by simp) ?_
    refine AllReadyH.cons rfl (fun K hK => ?_) AllReadyH.nil
    go_simp
    go_at_call 60
    refine (HP.out _ ?_).mono ?_
    · (first | assumption | exact bl0 | exact bl5 | exact bl1 (by assumption) | exact bl2 (by assumption) | exact bl3 (by assumption))
    rintro e w' ⟨rfl, hb⟩
    refine hK.out _ _ ?_ (fun hHeld => ?_)
    · refine HS.out _ ?_; (first | assumption | exact bl0 | exact bl5 | exact bl1 (by assumption) | exact bl2 (by assumption) | exact bl3 (by assumption))
    clear hK K
    try simp only [Act.put, List.setIfInBounds_toArray, List.set_cons_zero, List.set_cons_succ]
    refine wpAnyH_take (i := 5) (v := ?v5) rfl (by kernel_rfl) (by kernel_rfl) (by kernel_rfl) (fun _ _ _ h => h) (Or.inl ⟨by rfl, ?hy5⟩) (by assumption) ?rest5
    case hy5 => (intro w hSw; (try dsimp only at hSw); go_simp; try with_reducible rfl)
    try simp only [Act.put, List.setIfInBounds_toArray, List.set_cons_zero, List.set_cons_succ]
    refine wpAnyH_take (i := 6) (v := undef) rfl (by kernel_rfl) (by kernel_rfl) (by kernel_rfl) (fun _ _ _ h => h) (Or.inr ⟨by rfl, rfl⟩) (by assumption) ?_
    try simp only [Act.put, List.setIfInBounds_toArray, List.set_cons_zero, List.set_cons_succ]
    refine wpAnyH_take (i := 7) (v := undef) rfl (by kernel_rfl) (by kernel_rfl) (by kernel_rfl) (fun _ _ _ h => h) (Or.inr ⟨by rfl, rfl⟩) (by assumption) ?_
    try simp only [Act.put, List.setIfInBounds_toArray, List.set_cons_zero, List.set_cons_succ]
    refine wpAnyH_take (i := 8) (v := undef) rfl (by kernel_rfl) (by kernel_rfl) (by kernel_rfl) (fun _ _ _ h => h) (Or.inr ⟨by rfl, rfl⟩) (by assumption) ?_
    try simp only [Act.put, List.setIfInBounds_toArray, List.set_cons_zero, List.set_cons_succ]
    refine wpAnyH_take (i := 9) (v := undef) rfl (by kernel_rfl) (by kernel_rfl) (by kernel_rfl) (fun _ _ _ h => h) (Or.inr ⟨by rfl, rfl⟩) (by assumption) ?_
    try simp only [Act.put, List.setIfInBounds_toArray, List.set_cons_zero, List.set_cons_succ]
    refine wpAnyH_take (i := 10) (v := ?v10) rfl (by kernel_rfl) (by kernel_rfl) (by kernel_rfl) (fun _ _ _ h => h) (Or.inl ⟨by rfl, ?hy10⟩) (by assumption) ?rest10
    case hy10 => (intro w hSw; (try dsimp only at hSw); go_simp; try with_reducible rfl)
    try simp only [Act.put, List.setIfInBounds_toArray, List.set_cons_zero, List.set_cons_succ]
    refine wpAnyH_ready (rs := [11]) (by kernel_rfl) (by simp) ?_
    refine AllReadyH.cons rfl (fun K hK => ?_) AllReadyH.nil
    go_simp
    go_at_call 27
    refine (round_ok2 _ _ _ (by omega)).mono ?_
    rintro e w' ⟨r, rfl, hr, hrz, rfl⟩
    have hz1 : ¬ 9223372036854775807 < 1 + r.size := by omega
    refine hK.out _ _ ?_ (fun hHeld => ?_)
    · assumption
    clear hK K
    try simp only [Act.put, List.setIfInBounds_toArray, List.set_cons_zero, List.set_cons_succ]
    refine wpAnyH_take (i := 12) (oi := { dst := some 15, op := .binOp .add 9 (.const (.string { data := #[32] })) (.tmp 14) 9, type := 9, pos := _, after := _, guard := none }) (v := ?v12) rfl (by kernel_rfl) (by kernel_rfl) (by kernel_rfl) (fun _ _ _ h => h) (Or.inl ⟨by rfl, ?hy12⟩) (by assumption) ?rest12
    case hy12 => (intro w hSw; (try dsimp only at hSw); go_simp; try with_reducible rfl)
    try simp only [Act.put, List.setIfInBounds_toArray, List.set_cons_zero, List.set_cons_succ]
    refine wpAnyH_take (i := 13) (oi := { dst := some 2, op := .assign (.tmp 15), type := 9, pos := _, after := _, guard := none }) (v := ?v13) rfl (by kernel_rfl) (by kernel_rfl) (by kernel_rfl) (fun _ _ _ h => h) (Or.inl ⟨by rfl, ?hy13⟩) (by assumption) ?rest13
    case hy13 => (intro w hSw; (try dsimp only at hSw); go_simp; try with_reducible rfl)
    try simp only [Act.put, List.setIfInBounds_toArray, List.set_cons_zero, List.set_cons_succ]
    refine wpAnyH_done (by kernel_rfl) ?_ _
    all_goals go_wp2
    all_goals go_ret
    all_goals exact ⟨congrArg (fun x => Ending.returned (Value.string x)) (by rw [HD.out, hr.out]; simp [h6]; rfl), HBK.out _ (‹Hid (Below _ _ _) ∧ _›).1⟩
end Go.Pr
namespace Go.Pr
open Go Go.RowKit Go.Proofs
theorem pat_ok {d : D} {W0 : World} (hTab : TabV W0) (hw : d.w ≤ 1048576) (hP : ∀ x, x.w < d.w → FnOK 60 .pat T W0 x) (hA : ∀ x, x.w < d.w → FnOK 94 .pat patArg W0 x) : FnOK 60 .pat T W0 d := by
  intro W vs hv hB
  obtain ⟨k, name, num, a, l, c, vf, rfl, ht, hk, hn, hnum, hrow, hwt⟩ := hv.pat_parts
  have hts : (T d).size ≤ 1099578736640 := by have := hv.size_le hw; show d.t.size ≤ _; omega
  have hd : T d = patText k name num l := ht
  rw [hd] at hts ⊢
  have hfit := hrow.fits
  have hll := len_le hfit
  have hxw : ∀ x ∈ l, x.w < d.w := fun x hx => by have := w_mem hx; omega
  have hj1 : (joinB (l.map T) sComma).size ≤ 1099578736640 := joinM hfit (by omega) fun x _ => by show x.t.size + 2 ≤ _; omega
  have hj2 : (joinB (l.map patArg) emp).size ≤ 1099578736640 := by
    refine joinM hfit (by omega) fun x _ => ?_
    have := round_size x.t (decide (x.k = 6) && decide (0 < x.n))
    show (sBlank ++ roundT x.t (decide (x.k = 6) && decide (0 < x.n))).size + 0 ≤ _
    rw [size_append]
    show 1 + _ + 0 ≤ _
    omega
  generalize hW1 : W.alloc (.cells ⟨[.int .u8 k, .string name, .int .i64 num, .slice a l.length c]⟩ 44) = W1
  have hBW : Below W0.heap.size W0 W1 := by rw [← hW1]; exact hB.alloc hB.size _
  have hBe : Below W.heap.size W W1 := by rw [← hW1]; exact (Below.refl _ _).alloc (Nat.le_refl _) _
  have HBK : Hid (∀ w, Hid (Below W1.heap.size W1 w) → Below W.heap.size W w) := Lib.hid fun w hb => hBe.trans (hb.out.mono hBe.size)
  have HS : Hid (∀ w, Hid (Below W1.heap.size W1 w) → Hid (Below W1.heap.size W1 w) ∧ w.cell? ⟨W.heap.size, 0, none⟩ = some (.int .u8 k) ∧ w.cell? ⟨W.heap.size, 1, none⟩ = some (.string name) ∧ w.cell? ⟨W.heap.size, 2, none⟩ = some (.int .i64 num) ∧ w.cell? ⟨W.heap.size, 3, none⟩ = some (.slice a l.length c)) := by
    refine Lib.hid fun w hb => ⟨hb, ?_⟩
    have hc := fun o => hb.out.cell (p := ⟨W.heap.size, o, none⟩) (by rw [← hW1]; simp)
    simp only [hc]
    rw [← hW1]
    simp [go_sem]
  have hS1 := (HS.out W1 (Lib.hid (Below.refl _ _))).2
  have HN := lift (G := .returned (.string (numS num))) hBW fun w hb => number_ok num hnum.1 hnum.2 w (hTab.below hb)
  have HJ1 := lift hBW fun w hb => texts_pat (fn := 60) (fun _ _ => rfl) (sep := sComma) hrow.row hrow.kid hb (by omega) (fun x hx => hP x (hxw x hx)) (by omega)
  have HJ2 := lift hBW fun w hb => texts_pat (fn := 94) (fun _ _ => rfl) (sep := emp) hrow.row hrow.kid hb (by omega) (fun x hx => hA x (hxw x hx)) (by omega)
  have hname : name.size ≤ 1048576 := by omega
  clear hP hA hv hB ht hd hBW hBe hwt hrow hxw hfit hll hTab hk hn
  by_cases h1 : k = 1
  · subst h1
    have HD : Hid (patText 1 name num l = sAny) := Lib.hid rfl
    generalize patText 1 name num l = tt at *
    go_enter Tryz.func60, Tryz.ntmps60
    go_wp2
    go_ret
    exact ⟨congrArg (fun x => Ending.returned (Value.string x)) HD.out.symm, hW1 ▸ (Below.refl _ _).alloc (Nat.le_refl _) _⟩
  have e1 : (k == 1) = false := by simpa using h1
  by_cases h2 : k = 2
  · subst h2
    have HD : Hid (patText 2 name num l = name) := Lib.hid rfl
    generalize patText 2 name num l = tt at *
    go_enter Tryz.func60, Tryz.ntmps60
    go_wp2
    go_ret
    exact ⟨congrArg (fun x => Ending.returned (Value.string x)) HD.out.symm, hW1 ▸ (Below.refl _ _).alloc (Nat.le_refl _) _⟩
  have e2 : (k == 2) = false := by simpa using h2
  by_cases h3 : k = 3
  · subst h3
    have HD : Hid (patText 3 name num l = numS num) := Lib.hid rfl
    generalize patText 3 name num l = tt at *
    go_enter Tryz.func60, Tryz.ntmps60
    go_wp2_with fail
    try rw [hW1]
    refine (HN.out _ ?_).mono ?_
    (first | assumption | exact bl0 | exact bl5 | exact bl1 (by assumption) | exact bl2 (by assumption) | exact bl3 (by assumption))
    rintro e w' ⟨rfl, hb⟩
    go_wp2
    go_ret
    exact ⟨congrArg (fun x => Ending.returned (Value.string x)) HD.out.symm, HBK.out _ hb⟩
  have e3 : (k == 3) = false := by simpa using h3
  by_cases h4 : k = 4
  · subst h4
    have HD : Hid (patText 4 name num l = sUnit) := Lib.hid rfl
    generalize patText 4 name num l = tt at *
    go_enter Tryz.func60, Tryz.ntmps60
    go_wp2
    go_ret
    exact ⟨congrArg (fun x => Ending.returned (Value.string x)) HD.out.symm, hW1 ▸ (Below.refl _ _).alloc (Nat.le_refl _) _⟩
  have e4 : (k == 4) = false := by simpa using h4
  by_cases h5 : k = 5
  · subst h5
    have HD : Hid (patText 5 name num l = sOpen ++ joinB (l.map T) sComma ++ sClose) := Lib.hid rfl
    generalize patText 5 name num l = tt at *
    generalize joinB (l.map T) sComma = jj at *
    go_enter Tryz.func60, Tryz.ntmps60
    go_wp2_with fail
    try rw [hW1]
    refine (HJ1.out _ ?_).mono ?_
    (first | assumption | exact bl0 | exact bl5 | exact bl1 (by assumption) | exact bl2 (by assumption) | exact bl3 (by assumption))
    rintro e w' ⟨rfl, hb⟩
    go_wp2
    go_ret
    exact ⟨congrArg (fun x => Ending.returned (Value.string x)) HD.out.symm, HBK.out _ hb⟩
  have e5 : (k == 5) = false := by simpa using h5
  by_cases h6 : k = 6
  · subst h6
    have HD : Hid (patText 6 name num l = name ++ joinB (l.map patArg) emp) := Lib.hid rfl
    generalize patText 6 name num l = tt at *
    generalize joinB (l.map patArg) emp = jj at *
    go_enter Tryz.func60, Tryz.ntmps60
    go_wp2
    try rw [hW1]
    have z00 : ¬ 9223372036854775807 < name.size + jj.size := by omega
    go_region_held3 (fun w => Hid (Below W1.heap.size W1 w) ∧ w.cell? ⟨W.heap.size, 0, none⟩ = some (.int .u8 6) ∧ w.cell? ⟨W.heap.size, 1, none⟩ = some (.string name) ∧ w.cell? ⟨W.heap.size, 2, none⟩ = some (.int .i64 num) ∧ w.cell? ⟨W.heap.size, 3, none⟩ = some (.slice a l.length c)) ((refine HS.out _ ?_; (first | assumption | exact bl0 | exact bl5 | exact bl1 (by assumption) | exact bl2 (by assumption) | exact bl3 (by assumption))))
      (first
      | (go_at_call 93; refine (HJ2.out _ ?_).mono ?_; (first | assumption | exact bl0 | exact bl5 | exact bl1 (by assumption) | exact bl2 (by assumption) | exact bl3 (by assumption)); rintro e w' ⟨rfl, hb⟩))
    all_goals go_wp2
    all_goals go_ret
    all_goals exact ⟨congrArg (fun x => Ending.returned (Value.string x)) HD.out.symm, HBK.out _ (‹Hid (Below _ _ _) ∧ _›).1⟩
  have e6 : (k == 6) = false := by simpa using h6
  have HD : Hid (patText k name num l = emp) := Lib.hid (by rw [patText, if_neg h1, if_neg h2, if_neg h3, if_neg h4, if_neg h5, if_neg h6])
  generalize patText k name num l = tt at *
  go_enter Tryz.func60, Tryz.ntmps60
  go_wp2
  go_ret
  exact ⟨congrArg (fun x => Ending.returned (Value.string x)) HD.out.symm, hW1 ▸ (Below.refl _ _).alloc (Nat.le_refl _) _⟩
end Go.Pr
namespace Go.Pr
open Go Go.RowKit Go.Proofs
theorem rule_ok {d : D} {W0 : World} (hw : d.w ≤ 1048576) (hP : ∀ x, x.w < d.w → FnOK 60 .pat T W0 x) (hE : ∀ x, x.w < d.w → FnOK 61 .exp tightD W0 x) : FnOK 59 .rule T W0 d := by
  intro W vs hv hB
  have hs := hv.size_le hw
  obtain ⟨p, e, vp, ve, rfl, hp, he, ht, hpw⟩ := hv.rule_parts
  obtain ⟨v0, v1, v2, a3, n3, c3, rfl⟩ := hp.pat_vals
  obtain ⟨v4, v5, v6, v7, a8, n8, c8, a9, n9, c9, a10, n10, c10, rfl⟩ := he.exp_vals
  have hd : T d = p.t ++ sFat ++ tightD e := ht
  have hsz : p.t.size + 4 + (tightD e).size ≤ 1099578736640 := by rw [ht, size_append, size_append] at hs; change p.t.size + 4 + (tightD e).size + 16 ≤ _ at hs; omega
  have HD := Lib.hid hd
  generalize hW1 : W.alloc (.cells ⟨[.int .u8 v0, .string v1, .int .i64 v2, .slice a3 n3 c3, .int .u8 v4, .string v5, .int .i64 v6, .string v7, .slice a8 n8 c8, .slice a9 n9 c9, .slice a10 n10 c10]⟩ 46) = W1
  have hBW : Below W0.heap.size W0 W1 := by rw [← hW1]; exact hB.alloc hB.size _
  have hBe : Below W.heap.size W W1 := by rw [← hW1]; exact (Below.refl _ _).alloc (Nat.le_refl _) _
  have HBK : Hid (∀ w, Hid (Below W1.heap.size W1 w) → Below W.heap.size W w) := Lib.hid fun w hb => hBe.trans (hb.out.mono hBe.size)
  have HS : Hid (∀ w, Hid (Below W1.heap.size W1 w) → Hid (Below W1.heap.size W1 w) ∧ w.cell? ⟨W.heap.size, 0, none⟩ = some (.int .u8 v0) ∧ w.cell? ⟨W.heap.size, 1, none⟩ = some (.string v1) ∧ w.cell? ⟨W.heap.size, 2, none⟩ = some (.int .i64 v2) ∧ w.cell? ⟨W.heap.size, 3, none⟩ = some (.slice a3 n3 c3) ∧ w.cell? ⟨W.heap.size, 4, none⟩ = some (.int .u8 v4) ∧ w.cell? ⟨W.heap.size, 5, none⟩ = some (.string v5) ∧ w.cell? ⟨W.heap.size, 6, none⟩ = some (.int .i64 v6) ∧ w.cell? ⟨W.heap.size, 7, none⟩ = some (.string v7) ∧ w.cell? ⟨W.heap.size, 8, none⟩ = some (.slice a8 n8 c8) ∧ w.cell? ⟨W.heap.size, 9, none⟩ = some (.slice a9 n9 c9) ∧ w.cell? ⟨W.heap.size, 10, none⟩ = some (.slice a10 n10 c10)) := by
    refine Lib.hid fun w hb => ⟨hb, ?_⟩
    have hc := fun o => hb.out.cell (p := ⟨W.heap.size, o, none⟩) (by rw [← hW1]; simp)
    simp only [hc]
    rw [← hW1]
    simp [go_sem]
  have hS1 := (HS.out W1 (Lib.hid (Below.refl _ _))).2
  have HP := lift (G := .returned (.string p.t)) hBW fun w hb => hP p (by omega) w _ hp hb
  have HE := lift (G := .returned (.string (tightD e))) hBW fun w hb => hE e (by omega) w _ he hb
  clear hP hE hv hB hp he ht hd hs hBW hBe hpw
  generalize tightD e = te at *
  generalize p.t = pt at *
  go_enter Tryz.func59, Tryz.ntmps59
  go_wp2
  try rw [hW1]
  have z00 : ¬ 9223372036854775807 < pt.size + 4 := by omega
  have z01 : ¬ 9223372036854775807 < pt.size + 4 + te.size := by omega
  first
  | go_region_held3 (fun w => Hid (Below W1.heap.size W1 w) ∧ w.cell? ⟨W.heap.size, 0, none⟩ = some (.int .u8 v0) ∧ w.cell? ⟨W.heap.size, 1, none⟩ = some (.string v1) ∧ w.cell? ⟨W.heap.size, 2, none⟩ = some (.int .i64 v2) ∧ w.cell? ⟨W.heap.size, 3, none⟩ = some (.slice a3 n3 c3) ∧ w.cell? ⟨W.heap.size, 4, none⟩ = some (.int .u8 v4) ∧ w.cell? ⟨W.heap.size, 5, none⟩ = some (.string v5) ∧ w.cell? ⟨W.heap.size, 6, none⟩ = some (.int .i64 v6) ∧ w.cell? ⟨W.heap.size, 7, none⟩ = some (.string v7) ∧ w.cell? ⟨W.heap.size, 8, none⟩ = some (.slice a8 n8 c8) ∧ w.cell? ⟨W.heap.size, 9, none⟩ = some (.slice a9 n9 c9) ∧ w.cell? ⟨W.heap.size, 10, none⟩ = some (.slice a10 n10 c10)) ((refine HS.out _ ?_; (first | assumption | exact bl0 | exact bl5 | exact bl1 (by assumption) | exact bl2 (by assumption) | exact bl3 (by assumption))))
    (first
      | (go_at_call 60; refine (HP.out _ ?_).mono ?_; (first | assumption | exact bl0 | exact bl5 | exact bl1 (by assumption) | exact bl2 (by assumption) | exact bl3 (by assumption)); rintro e w' ⟨rfl, hb⟩)
      | (go_at_call 61; refine (HE.out _ ?_).mono ?_; (first | assumption | exact bl0 | exact bl5 | exact bl1 (by assumption) | exact bl2 (by assumption) | exact bl3 (by assumption)); rintro e w' ⟨rfl, hb⟩))
  | fail
  all_goals go_wp2
  all_goals go_ret
  all_goals exact ⟨congrArg (fun x => Ending.returned (Value.string x)) HD.out.symm, HBK.out _ (‹Hid (Below _ _ _) ∧ _›).1⟩
end Go.Pr
namespace Go.Pr
open Go Go.RowKit Go.Proofs
theorem con_ok {d : D} {W0 : World} (hw : d.w ≤ 1048576) (hT : ∀ x, x.w < d.w → FnOK 17 .ty T W0 x) : FnOK 12 .con T W0 d := by
  intro W vs hv hB
  have hs := hv.size_le hw
  obtain ⟨name, has, t, vt, rfl, hty, ht, hpw⟩ := hv.con_parts
  obtain ⟨v2, v3, v4, a5, n5, c5, rfl⟩ := hty.ty_vals
  have hd : T d = conText name has t := ht
  rw [hd]
  rw [ht] at hs
  cases has with
  | true =>
    have hsz : name.size + 4 + t.t.size ≤ 1099578736640 := by rw [conText, if_pos rfl, size_append, size_append] at hs; change name.size + 4 + t.t.size + 16 ≤ _ at hs; omega
    have hD : conText name true t = name ++ sOf ++ t.t := rfl
    have HD := Lib.hid hD
    generalize hW1 : W.alloc (.cells ⟨[.string name, .bool true, .int .u8 v2, .string v3, .int .i64 v4, .slice a5 n5 c5]⟩ 49) = W1
    have hBW : Below W0.heap.size W0 W1 := by rw [← hW1]; exact hB.alloc hB.size _
    have hBe : Below W.heap.size W W1 := by rw [← hW1]; exact (Below.refl _ _).alloc (Nat.le_refl _) _
    have HBK : Hid (∀ w, Hid (Below W1.heap.size W1 w) → Below W.heap.size W w) := Lib.hid fun w hb => hBe.trans (hb.out.mono hBe.size)
    have HS : Hid (∀ w, Hid (Below W1.heap.size W1 w) → Hid (Below W1.heap.size W1 w) ∧ w.cell? ⟨W.heap.size, 0, none⟩ = some (.string name) ∧ w.cell? ⟨W.heap.size, 1, none⟩ = some (.bool true) ∧ w.cell? ⟨W.heap.size, 2, none⟩ = some (.int .u8 v2) ∧ w.cell? ⟨W.heap.size, 3, none⟩ = some (.string v3) ∧ w.cell? ⟨W.heap.size, 4, none⟩ = some (.int .i64 v4) ∧ w.cell? ⟨W.heap.size, 5, none⟩ = some (.slice a5 n5 c5)) := by
      refine Lib.hid fun w hb => ⟨hb, ?_⟩
      have hc := fun o => hb.out.cell (p := ⟨W.heap.size, o, none⟩) (by rw [← hW1]; simp)
      simp only [hc]
      rw [← hW1]
      simp [go_sem]
    have hS1 := (HS.out W1 (Lib.hid (Below.refl _ _))).2
    have HT := lift (G := .returned (.string t.t)) hBW fun w hb => hT t (by omega) w _ hty hb
    clear hT hv hB hty ht hd hs hBW hBe hpw hD
    generalize conText name true t = tt at *
    generalize t.t = ty at *
    go_enter Tryz.func12, Tryz.ntmps12
    go_wp2
    try rw [hW1]
    have z00 : ¬ 9223372036854775807 < name.size + 4 := by omega
    have z01 : ¬ 9223372036854775807 < name.size + 4 + ty.size := by omega
    first
    | go_region_held3 (fun w => Hid (Below W1.heap.size W1 w) ∧ w.cell? ⟨W.heap.size, 0, none⟩ = some (.string name) ∧ w.cell? ⟨W.heap.size, 1, none⟩ = some (.bool true) ∧ w.cell? ⟨W.heap.size, 2, none⟩ = some (.int .u8 v2) ∧ w.cell? ⟨W.heap.size, 3, none⟩ = some (.string v3) ∧ w.cell? ⟨W.heap.size, 4, none⟩ = some (.int .i64 v4) ∧ w.cell? ⟨W.heap.size, 5, none⟩ = some (.slice a5 n5 c5)) ((refine HS.out _ ?_; (first | assumption | exact bl0 | exact bl5 | exact bl1 (by assumption) | exact bl2 (by assumption) | exact bl3 (by assumption))))
    (first
      | (go_at_call 17; refine (HT.out _ ?_).mono ?_; (first | assumption | exact bl0 | exact bl5 | exact bl1 (by assumption) | exact bl2 (by assumption) | exact bl3 (by assumption)); rintro e w' ⟨rfl, hb⟩))
    | fail
    all_goals go_wp2
    all_goals go_ret
    all_goals exact ⟨congrArg (fun x => Ending.returned (Value.string x)) HD.out.symm, HBK.out _ (‹Hid (Below _ _ _) ∧ _›).1⟩
  | false =>
    have hD : conText name false t = name := rfl
    have HD := Lib.hid hD
    generalize hW1 : W.alloc (.cells ⟨[.string name, .bool false, .int .u8 v2, .string v3, .int .i64 v4, .slice a5 n5 c5]⟩ 49) = W1
    have hBW : Below W0.heap.size W0 W1 := by rw [← hW1]; exact hB.alloc hB.size _
    have hBe : Below W.heap.size W W1 := by rw [← hW1]; exact (Below.refl _ _).alloc (Nat.le_refl _) _
    have HBK : Hid (∀ w, Hid (Below W1.heap.size W1 w) → Below W.heap.size W w) := Lib.hid fun w hb => hBe.trans (hb.out.mono hBe.size)
    have HS : Hid (∀ w, Hid (Below W1.heap.size W1 w) → Hid (Below W1.heap.size W1 w) ∧ w.cell? ⟨W.heap.size, 0, none⟩ = some (.string name) ∧ w.cell? ⟨W.heap.size, 1, none⟩ = some (.bool false) ∧ w.cell? ⟨W.heap.size, 2, none⟩ = some (.int .u8 v2) ∧ w.cell? ⟨W.heap.size, 3, none⟩ = some (.string v3) ∧ w.cell? ⟨W.heap.size, 4, none⟩ = some (.int .i64 v4) ∧ w.cell? ⟨W.heap.size, 5, none⟩ = some (.slice a5 n5 c5)) := by
      refine Lib.hid fun w hb => ⟨hb, ?_⟩
      have hc := fun o => hb.out.cell (p := ⟨W.heap.size, o, none⟩) (by rw [← hW1]; simp)
      simp only [hc]
      rw [← hW1]
      simp [go_sem]
    have hS1 := (HS.out W1 (Lib.hid (Below.refl _ _))).2
    clear hT hv hB hty ht hd hs hBW hBe hpw hD
    generalize conText name false t = tt at *
    go_enter Tryz.func12, Tryz.ntmps12
    go_wp2
    go_ret
    exact ⟨congrArg (fun x => Ending.returned (Value.string x)) HD.out.symm, hW1 ▸ (Below.refl _ _).alloc (Nat.le_refl _) _⟩
end Go.Pr
namespace Go.Pr
open Go Go.RowKit Go.Proofs
def QuoteV (W0 : World) : Prop := ∀ (W : World) (s : ByteArray), s.size ≤ 1048576 → Below W0.heap.size W0 W → Calls Tryz.prog 31 #[.string s] W fun e w' => e = .returned (.string (quoteS s)) ∧ Below W.heap.size W w'
theorem rules_ok {l : List D} {vf : Nat → List Value} {W0 W : World} {s : Value} (hs : Row W0 .rule 11 s l vf) (hB : Below W0.heap.size W0 W) (hl : l.length ≤ 1048576) (hF : ∀ x ∈ l, FnOK 59 .rule T W0 x) (hsz : (joinB (l.map T) sBar).size ≤ 140737488355328) :
    Calls Tryz.prog 33 #[s] W fun e w' => e = .returned (.string (joinB (l.map T) sBar)) ∧ Below W.heap.size W w' := by
  obtain ⟨a, c, rfl⟩ := hs.slice
  have H := Lib.hid (texts_rule (fn := 59) (fun _ _ => rfl) (sep := sBar) hs.row hs.kid hB hl hF hsz)
  clear hs hB hF hsz
  generalize joinB (l.map T) sBar = jj at *
  go_enter Tryz.func33, Tryz.ntmps33
  go_wp2_with fail
  refine H.out.mono ?_
  rintro e w' ⟨rfl, hb⟩
  have HB := Lib.hid hb
  clear hb
  go_wp2
  go_ret
  exact ⟨rfl, HB.out⟩
theorem loose_ok {d : D} {W0 : World} (hTab : TabV W0) (hQ : QuoteV W0) (hw : d.w ≤ 1048576) (hE : ∀ x, x.w < d.w → FnOK 14 .exp T W0 x) (hG : ∀ x, x.w < d.w → FnOK 61 .exp tightD W0 x) (hR : ∀ x, x.w < d.w → FnOK 59 .rule T W0 x) (hDc : ∀ x, x.w < d.w → FnOK 32 .dec semiD W0 x) : (∀ (W : World) (vs : List Value), S W0 .exp d vs → Below W0.heap.size W0 W → (d.k = 8 ∨ d.k = 12 ∨ d.k = 15 ∨ (d.k ≠ 1 ∧ d.k ≠ 2 ∧ d.k ≠ 3 ∧ d.k ≠ 4 ∧ d.k ≠ 5 ∧ d.k ≠ 6 ∧ d.k ≠ 7 ∧ d.k ≠ 9 ∧ d.k ≠ 10 ∧ d.k ≠ 11 ∧ d.k ≠ 13 ∧ d.k ≠ 14)) → Calls Tryz.prog 34 #[.agg ⟨vs⟩] W fun e w' => e = .returned (.string (T d)) ∧ Below W.heap.size W w') := by
  intro W vs hv hB hkk
  have hts0 := hv.size_le hw
  have hvv := hv
  obtain ⟨k, name, num, text, a4, l, c4, vf, a5, lr, c5, vr, a6, ld, c6, vd, rfl, ht, hk, hn, hnum, hrow, hrr, hrd, hwt⟩ := hv.exp_parts
  have hts : (T d).size ≤ 1099578736640 := by show d.t.size ≤ _; omega
  have hfit := hrow.fits
  have hll := len_le hfit
  have hlr := len_le hrr.fits
  have hld := len_le hrd.fits
  have hxw : ∀ x ∈ l, x.w < d.w := fun x hx => by have := w_mem hx; omega
  have hxr : ∀ x ∈ lr, x.w < d.w := fun x hx => by have := w_mem hx; omega
  have hxd : ∀ x ∈ ld, x.w < d.w := fun x hx => by have := w_mem hx; omega
  have jk : ∀ sep : ByteArray, sep.size ≤ 16 → (joinB (l.map T) sep).size ≤ 1099578736640 := fun sep hs => joinM hfit (by omega) fun x _ => by show x.t.size + _ ≤ _; omega
  have jr : ∀ sep : ByteArray, sep.size ≤ 16 → (joinB (lr.map T) sep).size ≤ 1099578736640 := fun sep hs => joinM hrr.fits (by omega) fun x _ => by show x.t.size + _ ≤ _; omega
  have jg : (joinB (l.map tightD) sBlank).size ≤ 1099578736640 := joinM hfit (by omega) fun x _ => by have := tight_le x; show _ + 1 ≤ _; omega
  have jd : (joinB (ld.map semiD) emp).size ≤ 1099578736640 := joinM hrd.fits (by omega) fun x _ => by show (x.t ++ sSemi).size + 0 ≤ _; rw [size_append]; show _ + 2 + 0 ≤ _; omega
  have hd : T d = expText k name num text l lr ld := ht
  rw [hk] at hkk
  rw [hd] at hts ⊢
  generalize hW1 : W.alloc (.cells ⟨[.int .u8 k, .string name, .int .i64 num, .string text, .slice a4 l.length c4, .slice a5 lr.length c5, .slice a6 ld.length c6]⟩ 34) = W1
  have hBW : Below W0.heap.size W0 W1 := by rw [← hW1]; exact hB.alloc hB.size _
  have hBe : Below W.heap.size W W1 := by rw [← hW1]; exact (Below.refl _ _).alloc (Nat.le_refl _) _
  have HBK : Hid (∀ w, Hid (Below W1.heap.size W1 w) → Below W.heap.size W w) := Lib.hid fun w hb => hBe.trans (hb.out.mono hBe.size)
  have HS : Hid (∀ w, Hid (Below W1.heap.size W1 w) → Hid (Below W1.heap.size W1 w) ∧ w.cell? ⟨W.heap.size, 0, none⟩ = some (.int .u8 k) ∧ w.cell? ⟨W.heap.size, 1, none⟩ = some (.string name) ∧ w.cell? ⟨W.heap.size, 2, none⟩ = some (.int .i64 num) ∧ w.cell? ⟨W.heap.size, 3, none⟩ = some (.string text) ∧ w.cell? ⟨W.heap.size, 4, none⟩ = some (.slice a4 l.length c4) ∧ w.cell? ⟨W.heap.size, 5, none⟩ = some (.slice a5 lr.length c5) ∧ w.cell? ⟨W.heap.size, 6, none⟩ = some (.slice a6 ld.length c6)) := by
    refine Lib.hid fun w hb => ⟨hb, ?_⟩
    have hc := fun o => hb.out.cell (p := ⟨W.heap.size, o, none⟩) (by rw [← hW1]; simp)
    simp only [hc]
    rw [← hW1]
    simp [go_sem]
  have hS1 := (HS.out W1 (Lib.hid (Below.refl _ _))).2
  have HR := lift (G := .returned (.string (joinB (lr.map T) sBar))) hBW fun w hb => rules_ok hrr hb (by omega) (fun x hx => hR x (hxr x hx)) (by have := jr sBar (by decide); omega)
  have HJG := lift (G := .returned (.string (joinB (l.map tightD) sBlank))) hBW fun w hb => texts_exp (fn := 61) (fun _ _ => rfl) (sep := sBlank) hrow.row hrow.kid hb (by omega) (fun x hx => hG x (hxw x hx)) (by omega)
  have hname : name.size ≤ 1048576 := by omega
  have HG := Lib.hid hG
  have HXW := Lib.hid hxw
  have HROW := Lib.hid hrow
  have HBW := Lib.hid hBW
  have HFIT := Lib.hid hfit
  have hll2 : l.length ≤ 1048576 := by omega
  have hwl : wsum l ≤ 1048576 := by omega
  have hjr := jr sBar (by decide)
  clear hE hR hG hDc hv hvv hB ht hd hBW hBe hwt hrow hxw hxr hxd hrr hrd hfit hll hlr hld hTab hk hn hQ jk jr jd hts0
  by_cases h12 : k = 12
  · subst h12
    have HD : Hid (expText 12 name num text l lr ld = joinB (l.map tightD) sBlank ++ sHandle ++ joinB (lr.map T) sBar) := Lib.hid rfl
    have hsz : (joinB (l.map tightD) sBlank).size + 8 + (joinB (lr.map T) sBar).size ≤ 3298736209920 := by omega
    clear HROW HG HFIT HXW hts hkk
    generalize expText 12 name num text l lr ld = tt at *
    generalize joinB (l.map tightD) sBlank = j1 at *
    generalize joinB (lr.map T) sBar = j2 at *
    go_enter Tryz.func34, Tryz.ntmps34
    go_wp2
    try rw [hW1]
    have z00 : ¬ 9223372036854775807 < j1.size + 8 := by omega
    have z01 : ¬ 9223372036854775807 < j1.size + 8 + j2.size := by omega
    first
    | go_region_held3 (fun w => Hid (Below W1.heap.size W1 w) ∧ w.cell? ⟨W.heap.size, 0, none⟩ = some (.int .u8 12) ∧ w.cell? ⟨W.heap.size, 1, none⟩ = some (.string name) ∧ w.cell? ⟨W.heap.size, 2, none⟩ = some (.int .i64 num) ∧ w.cell? ⟨W.heap.size, 3, none⟩ = some (.string text) ∧ w.cell? ⟨W.heap.size, 4, none⟩ = some (.slice a4 l.length c4) ∧ w.cell? ⟨W.heap.size, 5, none⟩ = some (.slice a5 lr.length c5) ∧ w.cell? ⟨W.heap.size, 6, none⟩ = some (.slice a6 ld.length c6)) ((refine HS.out _ ?_; (first | assumption | exact bl0 | exact bl5 | exact bl1 (by assumption) | exact bl2 (by assumption) | exact bl3 (by assumption))))
    (first
      | (go_at_call 29; refine (HJG.out _ ?_).mono ?_; (first | assumption | exact bl0 | exact bl5 | exact bl1 (by assumption) | exact bl2 (by assumption) | exact bl3 (by assumption)); rintro e w' ⟨rfl, hb⟩)
      | (go_at_call 33; refine (HR.out _ ?_).mono ?_; (first | assumption | exact bl0 | exact bl5 | exact bl1 (by assumption) | exact bl2 (by assumption) | exact bl3 (by assumption)); rintro e w' ⟨rfl, hb⟩))
    | fail
    all_goals go_wp2
    all_goals go_ret
    all_goals exact ⟨congrArg (fun x => Ending.returned (Value.string x)) HD.out.symm, HBK.out _ (‹Hid (Below _ _ _) ∧ _›).1⟩
  have e12 : (k == 12) = false := by simpa using h12
  by_cases h15 : k = 15
  · subst h15
    by_cases h5 : l.length = 1
    · obtain ⟨b, o, rfl, hr⟩ := HROW.out.cells (by omega)
      have hget : l[0]? = some l[0] := List.getElem?_eq_getElem (by omega)
      have hkid := HROW.out.kid _ _ hget
      have hc := hr 0 (by omega)
      obtain ⟨v0, v1, v2, v3, a7, n7, c7, a8, n8, c8, a9, n9, c9, hvk⟩ := hkid.exp_vals
      rw [hvk] at hc hkid
      have hm : l[0] ∈ l := List.getElem_mem _
      have HX := lift (G := .returned (.string (tightD l[0]))) HBW.out fun w hb => HG.out _ (HXW.out _ hm) w _ hkid hb
      have hD : expText 15 name num text l lr ld = name ++ tightD l[0] := by
        show (if l.length = 1 then name ++ (l.map tightD).headD emp else _) = _
        rw [if_pos h5]
        match l, h5 with
        | [x], _ => rfl
      have hlz : (tightD l[0]).size ≤ 1099578736640 := by
        have h1 := tight_le l[0]
        have h2 := mem_fit HFIT.out hm
        have h3 := F_leM (n := wsum l) (by omega)
        omega
      have HD := Lib.hid hD
      have HS2 : Hid (∀ w, Hid (Below W1.heap.size W1 w) → Hid (Below W1.heap.size W1 w) ∧ w.cell? ⟨W.heap.size, 0, none⟩ = some (.int .u8 15) ∧ w.cell? ⟨W.heap.size, 1, none⟩ = some (.string name) ∧ w.cell? ⟨W.heap.size, 2, none⟩ = some (.int .i64 num) ∧ w.cell? ⟨W.heap.size, 3, none⟩ = some (.string text) ∧ w.cell? ⟨W.heap.size, 4, none⟩ = some (.slice (some ⟨b, o, none⟩) 1 c4) ∧ w.cell? ⟨W.heap.size, 5, none⟩ = some (.slice a5 lr.length c5) ∧ w.cell? ⟨W.heap.size, 6, none⟩ = some (.slice a6 ld.length c6) ∧ w.cell? ⟨b, o, none⟩ = some (.int .u8 v0) ∧ w.cell? ⟨b, o + 1, none⟩ = some (.string v1) ∧ w.cell? ⟨b, o + 2, none⟩ = some (.int .i64 v2) ∧ w.cell? ⟨b, o + 3, none⟩ = some (.string v3) ∧ w.cell? ⟨b, o + 4, none⟩ = some (.slice a7 n7 c7) ∧ w.cell? ⟨b, o + 5, none⟩ = some (.slice a8 n8 c8) ∧ w.cell? ⟨b, o + 6, none⟩ = some (.slice a9 n9 c9)) := Lib.hid fun w hb => by
        refine ⟨hb, ?_⟩
        have hcw := hc.below (HBW.out.trans (hb.out.mono HBW.out.size))
        have q := (HS.out w hb).2
        rw [h5] at q
        have hcw := fun j v h => hcw j v h
        simp only [Nat.zero_mul, Nat.add_zero] at hcw
        exact ⟨q.1, q.2.1, q.2.2.1, q.2.2.2.1, q.2.2.2.2.1, q.2.2.2.2.2.1, q.2.2.2.2.2.2, hcw 0 _ rfl, hcw 1 _ rfl, hcw 2 _ rfl, hcw 3 _ rfl, hcw 4 _ rfl, hcw 5 _ rfl, hcw 6 _ rfl⟩
      clear hc hkid hvk hD hr hget HS HROW HXW HG HR HJG HFIT hm hts hkk jg hjr
      generalize expText 15 name num text l lr ld = tt at *
      generalize tightD l[0] = tl at *
      rw [h5] at hW1 hS1 hll2 ⊢
      go_enter Tryz.func34, Tryz.ntmps34
      go_wp2
      try rw [hW1]
      have z00 : ¬ 9223372036854775807 < name.size + tl.size := by omega
      first
      | go_region_held3 (fun w => Hid (Below W1.heap.size W1 w) ∧ w.cell? ⟨W.heap.size, 0, none⟩ = some (.int .u8 15) ∧ w.cell? ⟨W.heap.size, 1, none⟩ = some (.string name) ∧ w.cell? ⟨W.heap.size, 2, none⟩ = some (.int .i64 num) ∧ w.cell? ⟨W.heap.size, 3, none⟩ = some (.string text) ∧ w.cell? ⟨W.heap.size, 4, none⟩ = some (.slice (some ⟨b, o, none⟩) 1 c4) ∧ w.cell? ⟨W.heap.size, 5, none⟩ = some (.slice a5 lr.length c5) ∧ w.cell? ⟨W.heap.size, 6, none⟩ = some (.slice a6 ld.length c6) ∧ w.cell? ⟨b, o, none⟩ = some (.int .u8 v0) ∧ w.cell? ⟨b, o + 1, none⟩ = some (.string v1) ∧ w.cell? ⟨b, o + 2, none⟩ = some (.int .i64 v2) ∧ w.cell? ⟨b, o + 3, none⟩ = some (.string v3) ∧ w.cell? ⟨b, o + 4, none⟩ = some (.slice a7 n7 c7) ∧ w.cell? ⟨b, o + 5, none⟩ = some (.slice a8 n8 c8) ∧ w.cell? ⟨b, o + 6, none⟩ = some (.slice a9 n9 c9)) ((refine HS2.out _ ?_; (first | assumption | exact bl0 | exact bl5 | exact bl1 (by assumption) | exact bl2 (by assumption) | exact bl3 (by assumption))))
    (first
      | (go_at_call 61; refine (HX.out _ ?_).mono ?_; (first | assumption | exact bl0 | exact bl5 | exact bl1 (by assumption) | exact bl2 (by assumption) | exact bl3 (by assumption)); rintro e w' ⟨rfl, hb⟩))
      | fail
      all_goals go_wp2
      all_goals go_ret
      all_goals exact ⟨congrArg (fun x => Ending.returned (Value.string x)) HD.out.symm, HBK.out _ (‹Hid (Below _ _ _) ∧ _›).1⟩
    · have hD : expText 15 name num text l lr ld = joinB (l.map tightD) (sBlank ++ name ++ sBlank) := by
        show (if l.length = 1 then name ++ (l.map tightD).headD emp else _) = _
        rw [if_neg h5]
      have HJ := lift (G := .returned (.string (joinB (l.map tightD) (sBlank ++ name ++ sBlank)))) HBW.out fun w hb => texts_exp (fn := 61) (fun _ _ => rfl) (sep := sBlank ++ name ++ sBlank) HROW.out.row HROW.out.kid hb (by omega) (fun x hx => HG.out x (HXW.out x hx)) (by rw [← hD]; omega)
      have HD := Lib.hid hD
      have n1 : ((l.length : Int) == 1) = false := by simp; omega
      have hs1 : (sBlank ++ name).size ≤ 1048577 := by rw [size_append]; show 1 + _ ≤ _; omega
      have HS2 := HS
      clear HROW HXW HG HR HJG HFIT hts hkk jg hjr hD
      generalize expText 15 name num text l lr ld = tt at *
      unfold sBlank at HJ HD hs1
      generalize joinB (l.map tightD) (({ data := #[32] } : ByteArray) ++ name ++ ({ data := #[32] } : ByteArray)) = jj at *
      go_enter Tryz.func34, Tryz.ntmps34
      go_wp2_with fail
      try rw [hW1]
      refine (HJ.out _ ?_).mono ?_
      (first | assumption | exact bl0 | exact bl5 | exact bl1 (by assumption) | exact bl2 (by assumption) | exact bl3 (by assumption))
      rintro e w0 ⟨rfl, hb0⟩
      have hS0 := (HS.out _ hb0).2
      go_wp2
      go_ret
      exact ⟨congrArg (fun x => Ending.returned (Value.string x)) HD.out.symm, HBK.out _ hb0⟩
  have e15 : (k == 15) = false := by simpa using h15
  by_cases h8 : k = 8
  · subst h8
    have HD : Hid (expText 8 name num text l lr ld = joinB (l.map tightD) sBlank) := Lib.hid rfl
    clear HROW HG HFIT HXW hts hkk
    generalize expText 8 name num text l lr ld = tt at *
    generalize joinB (l.map tightD) sBlank = j1 at *
    go_enter Tryz.func34, Tryz.ntmps34
    go_wp2_with fail
    try rw [hW1]
    refine (HJG.out _ ?_).mono ?_
    (first | assumption | exact bl0 | exact bl5 | exact bl1 (by assumption) | exact bl2 (by assumption) | exact bl3 (by assumption))
    rintro e w0 ⟨rfl, hb0⟩
    have hS0 := (HS.out _ hb0).2
    go_wp2
    go_ret
    exact ⟨congrArg (fun x => Ending.returned (Value.string x)) HD.out.symm, HBK.out _ hb0⟩
  have e8 : (k == 8) = false := by simpa using h8
  have HD : Hid (expText k name num text l lr ld = emp) := Lib.hid (by
    rcases hkk with h | h | h | ⟨h1, h2, h3, h4, h5, h6, h7, h9, h10, h11, h13, h14⟩
    · exact absurd h h8
    · exact absurd h h12
    · exact absurd h h15
    · rw [expText, if_neg (by omega), if_neg h3, if_neg h4, if_neg h5, if_neg h6, if_neg h14, if_neg h7, if_neg h9, expText2, if_neg h10, if_neg h11, if_neg h13, if_neg h12, if_neg h15, if_neg h8])
  clear HROW HG HFIT HXW hts hkk
  generalize expText k name num text l lr ld = tt at *
  go_enter Tryz.func34, Tryz.ntmps34
  go_wp2
  go_ret
  exact ⟨congrArg (fun x => Ending.returned (Value.string x)) HD.out.symm, hW1 ▸ (Below.refl _ _).alloc (Nat.le_refl _) _⟩
end Go.Pr
namespace Go.Pr
open Go Go.RowKit Go.Proofs
theorem exp1_ok {b n : Nat} {a : Option Addr} {c : Nat} {sep jj : ByteArray} {W1 : World} (hc : ∀ w, Hid (Below W1.heap.size W1 w) → w.cell? ⟨b, 4, none⟩ = some (.slice a n c))
    (H : Hid (∀ w, Hid (Below W1.heap.size W1 w) → Calls Tryz.prog 29 #[.slice a n c, .string sep, .func (.func 14) #[] #[]] w fun e w' => e = .returned (.string jj) ∧ Hid (Below W1.heap.size W1 w'))) :
    Hid (∀ w, Hid (Below W1.heap.size W1 w) → Calls Tryz.prog 28 #[.string sep, .pointer (some ⟨b, 0, none⟩)] w fun e w' => e = .returned (.string jj) ∧ Hid (Below W1.heap.size W1 w')) := by
  refine Lib.hid fun w hb => ?_
  have h4 := hc w hb
  clear hc
  go_enter Tryz.func28, Tryz.ntmps28
  go_wp2_with fail
  refine (H.out _ hb).mono ?_
  rintro e w' ⟨rfl, hb'⟩
  go_wp2
  go_ret
  exact ⟨rfl, hb'⟩
theorem emp_append (a : ByteArray) : emp ++ a = a := by apply bytes_of; rw [append_list]; rfl
theorem ifT_step0 {l : List D} (h : 0 < l.length) : ifT (txts (l.take 1)) = emp ++ (sIf ++ T l[0]) := by
  match l, h with
  | x :: r, _ => rw [emp_append]; rfl
theorem ifT_step1 {l : List D} (h : 1 < l.length) : ifT (txts (l.take 2)) = ifT (txts (l.take 1)) ++ (sThen ++ T l[1]) := by
  match l, h with
  | x :: y :: r, _ => rfl
theorem ifT_step2 {l : List D} (h : 2 < l.length) : ifT (txts (l.take 3)) = ifT (txts (l.take 2)) ++ (sElse ++ T l[2]) := by
  match l, h with
  | x :: y :: z :: r, _ => rfl
theorem ifT_take3 (l : List D) : ifT (txts (l.take 3)) = ifT (txts l) := by
  match l with
  | [] => rfl
  | [_] => rfl
  | [_, _] => rfl
  | _ :: _ :: _ :: _ => rfl
theorem ifT_takes {l : List D} (h : Fits l) (hw : wsum l ≤ 1048576) (m : Nat) : (ifT (txts (l.take m))).size ≤ 1099578736640 := by
  refine Nat.le_trans (ifT_le _) ?_
  have h2 := sum_fit (g := fun x => x.t.size + 16) h fun _ _ => Nat.le_refl _
  have h3 : ((txts (l.take m)).map fun x => x.size + 16).sum ≤ (l.map fun x => x.t.size + 16).sum := by
    unfold txts
    rw [List.map_map]
    have : l.map (fun x => x.t.size + 16) = (l.take m).map (fun x => x.t.size + 16) ++ (l.drop m).map (fun x => x.t.size + 16) := by rw [← List.map_append, List.take_append_drop]
    rw [this, List.sum_append]
    show ((l.take m).map (fun x => x.t.size + 16)).sum ≤ _
    omega
  have := F_leM hw
  omega
end Go.Pr
namespace Go.Pr
open Go Go.RowKit Go.Proofs
theorem u72 : Tryz.prog.underlying 72 = some (.array 3 9) := by kernel_rfl
theorem c9 : (Tryz.prog.info? 9).map (·.size) = some 1 := by kernel_rfl
@[go_sem] theorem idx72_0 (a b c : Value) (w : World) : (Instr.index 72 (.agg #[a, b, c]) (.int .i64 0)).run Tryz.prog w = .ok a w := by
  simp [Instr.index, run_underlying u72, asIntOf, go_sem]
@[go_sem] theorem idx72_1 (a b c : Value) (w : World) : (Instr.index 72 (.agg #[a, b, c]) (.int .i64 1)).run Tryz.prog w = .ok b w := by
  simp [Instr.index, run_underlying u72, asIntOf, go_sem]
@[go_sem] theorem idx72_2 (a b c : Value) (w : World) : (Instr.index 72 (.agg #[a, b, c]) (.int .i64 2)).run Tryz.prog w = .ok c w := by
  simp [Instr.index, run_underlying u72, asIntOf, go_sem]
end Go.Pr
namespace Go.Pr
open Go Go.RowKit Go.Proofs
theorem exp_ok {d : D} {W0 : World} (hTab : TabV W0) (hQ : QuoteV W0) (hw : d.w ≤ 1048576) (hE : ∀ x, x.w < d.w → FnOK 14 .exp T W0 x) (hG : ∀ x, x.w < d.w → FnOK 61 .exp tightD W0 x) (hR : ∀ x, x.w < d.w → FnOK 59 .rule T W0 x) (hDc : ∀ x, x.w < d.w → FnOK 32 .dec semiD W0 x) : FnOK 14 .exp T W0 d := by
  intro W vs hv hB
  have hts0 := hv.size_le hw
  have hvv := hv
  obtain ⟨k, name, num, text, a4, l, c4, vf, a5, lr, c5, vr, a6, ld, c6, vd, rfl, ht, hk, hn, hnum, hrow, hrr, hrd, hwt⟩ := hv.exp_parts
  have hts : (T d).size ≤ 1099578736640 := by show d.t.size ≤ _; omega
  have hfit := hrow.fits
  have hll := len_le hfit
  have hlr := len_le hrr.fits
  have hld := len_le hrd.fits
  have hxw : ∀ x ∈ l, x.w < d.w := fun x hx => by have := w_mem hx; omega
  have hxr : ∀ x ∈ lr, x.w < d.w := fun x hx => by have := w_mem hx; omega
  have hxd : ∀ x ∈ ld, x.w < d.w := fun x hx => by have := w_mem hx; omega
  have jk : ∀ sep : ByteArray, sep.size ≤ 16 → (joinB (l.map T) sep).size ≤ 1099578736640 := fun sep hs => joinM hfit (by omega) fun x _ => by show x.t.size + _ ≤ _; omega
  have jr : ∀ sep : ByteArray, sep.size ≤ 16 → (joinB (lr.map T) sep).size ≤ 1099578736640 := fun sep hs => joinM hrr.fits (by omega) fun x _ => by show x.t.size + _ ≤ _; omega
  have jg : (joinB (l.map tightD) sBlank).size ≤ 1099578736640 := joinM hfit (by omega) fun x _ => by have := tight_le x; show _ + 1 ≤ _; omega
  have jd : (joinB (ld.map semiD) emp).size ≤ 1099578736640 := joinM hrd.fits (by omega) fun x _ => by show (x.t ++ sSemi).size + 0 ≤ _; rw [size_append]; show _ + 2 + 0 ≤ _; omega
  have hL := loose_ok hTab hQ hw hE hG hR hDc W _ hvv
  have hd : T d = expText k name num text l lr ld := ht
  rw [hk] at hL
  rw [hd] at hts hL ⊢
  have jb := jk sBlank (by decide)
  have jc := jk sComma (by decide)
  have js := jk sSemi (by decide)
  have hjr := jr sBar (by decide)
  have hns := numS_size num
  have hqs := quoteS_size text
  generalize hW1 : W.alloc (.cells ⟨[.int .u8 k, .string name, .int .i64 num, .string text, .slice a4 l.length c4, .slice a5 lr.length c5, .slice a6 ld.length c6]⟩ 34) = W1
  have hBW : Below W0.heap.size W0 W1 := by rw [← hW1]; exact hB.alloc hB.size _
  have hBe : Below W.heap.size W W1 := by rw [← hW1]; exact (Below.refl _ _).alloc (Nat.le_refl _) _
  have HBK : Hid (∀ w, Hid (Below W1.heap.size W1 w) → Below W.heap.size W w) := Lib.hid fun w hb => hBe.trans (hb.out.mono hBe.size)
  have HS : Hid (∀ w, Hid (Below W1.heap.size W1 w) → Hid (Below W1.heap.size W1 w) ∧ w.cell? ⟨W.heap.size, 0, none⟩ = some (.int .u8 k) ∧ w.cell? ⟨W.heap.size, 1, none⟩ = some (.string name) ∧ w.cell? ⟨W.heap.size, 2, none⟩ = some (.int .i64 num) ∧ w.cell? ⟨W.heap.size, 3, none⟩ = some (.string text) ∧ w.cell? ⟨W.heap.size, 4, none⟩ = some (.slice a4 l.length c4) ∧ w.cell? ⟨W.heap.size, 5, none⟩ = some (.slice a5 lr.length c5) ∧ w.cell? ⟨W.heap.size, 6, none⟩ = some (.slice a6 ld.length c6)) := by
    refine Lib.hid fun w hb => ⟨hb, ?_⟩
    have hc := fun o => hb.out.cell (p := ⟨W.heap.size, o, none⟩) (by rw [← hW1]; simp)
    simp only [hc]
    rw [← hW1]
    simp [go_sem]
  have hS1 := (HS.out W1 (Lib.hid (Below.refl _ _))).2
  have HR := lift (G := .returned (.string (joinB (lr.map T) sBar))) hBW fun w hb => rules_ok hrr hb (by omega) (fun x hx => hR x (hxr x hx)) (by have := jr sBar (by decide); omega)
  have HJG := lift (G := .returned (.string (joinB (l.map tightD) sBlank))) hBW fun w hb => texts_exp (fn := 61) (fun _ _ => rfl) (sep := sBlank) hrow.row hrow.kid hb (by omega) (fun x hx => hG x (hxw x hx)) (by omega)
  have HJB := lift (G := .returned (.string (joinB (l.map T) sBlank))) hBW fun w hb => texts_exp (fn := 14) (fun _ _ => rfl) (sep := sBlank) hrow.row hrow.kid hb (by omega) (fun x hx => hE x (hxw x hx)) (by omega)
  have HJC := lift (G := .returned (.string (joinB (l.map T) sComma))) hBW fun w hb => texts_exp (fn := 14) (fun _ _ => rfl) (sep := sComma) hrow.row hrow.kid hb (by omega) (fun x hx => hE x (hxw x hx)) (by omega)
  have HJS := lift (G := .returned (.string (joinB (l.map T) sSemi))) hBW fun w hb => texts_exp (fn := 14) (fun _ _ => rfl) (sep := sSemi) hrow.row hrow.kid hb (by omega) (fun x hx => hE x (hxw x hx)) (by omega)
  have HJD := lift (G := .returned (.string (joinB (ld.map semiD) emp))) hBW fun w hb => texts_dec (fn := 32) (fun _ _ => rfl) (sep := emp) hrd.row hrd.kid hb (by omega) (fun x hx => hDc x (hxd x hx)) (by omega)
  have hcell4 : ∀ w, Hid (Below W1.heap.size W1 w) → w.cell? ⟨W.heap.size, 4, none⟩ = some (.slice a4 l.length c4) := fun w hb => (HS.out w hb).2.2.2.2.2.1
  have HJB := exp1_ok hcell4 HJB
  have HJC := exp1_ok hcell4 HJC
  have HJS := exp1_ok hcell4 HJS
  clear hcell4
  have HN := lift (G := .returned (.string (numS num))) hBW fun w hb => number_ok num hnum.1 hnum.2 w (hTab.below hb)
  have HQ := lift (G := .returned (.string (quoteS text))) hBW fun w hb => hQ w text (by omega) hb
  have HLO : Hid (∀ w, Hid (Below W1.heap.size W1 w) → (k = 8 ∨ k = 12 ∨ k = 15 ∨ (k ≠ 1 ∧ k ≠ 2 ∧ k ≠ 3 ∧ k ≠ 4 ∧ k ≠ 5 ∧ k ≠ 6 ∧ k ≠ 7 ∧ k ≠ 9 ∧ k ≠ 10 ∧ k ≠ 11 ∧ k ≠ 13 ∧ k ≠ 14)) → Calls Tryz.prog 34 #[.agg ⟨[.int .u8 k, .string name, .int .i64 num, .string text, .slice a4 l.length c4, .slice a5 lr.length c5, .slice a6 ld.length c6]⟩] w fun e w' => e = .returned (.string (expText k name num text l lr ld)) ∧ Hid (Below W1.heap.size W1 w')) := Lib.hid fun w hb hkk => by
    have := loose_ok hTab hQ hw hE hG hR hDc w _ hvv (hBW.trans (hb.out.mono hBW.size)) (by rw [hk]; exact hkk)
    rw [hd] at this
    exact this.mono fun _ _ h => ⟨h.1, Lib.hid (hb.out.trans (h.2.mono hb.out.size))⟩
  have hname : name.size ≤ 1048576 := by omega
  have htext : text.size ≤ 1048576 := by omega
  have HE := Lib.hid hE
  have HXW := Lib.hid hxw
  have HROW := Lib.hid hrow
  have HBW := Lib.hid hBW
  have HFIT := Lib.hid hfit
  have hll2 : l.length ≤ 1048576 := by omega
  have hwl : wsum l ≤ 1048576 := by omega
  clear hE hR hG hDc hv hvv hB ht hd hBW hBe hwt hrow hxw hxr hxd hrr hrd hfit hll hlr hld hTab hk hn hQ jk jr hts0 hL
  by_cases h1 : k = 1
  · subst h1
    have HD : Hid (expText 1 name num text l lr ld = name) := Lib.hid rfl
    clear HROW HFIT HXW HE HLO
    generalize expText 1 name num text l lr ld = tt at *
    go_enter Tryz.func14, Tryz.ntmps14
    go_wp2
    go_ret
    exact ⟨congrArg (fun x => Ending.returned (Value.string x)) HD.out.symm, hW1 ▸ (Below.refl _ _).alloc (Nat.le_refl _) _⟩
  have e1 : (k == 1) = false := by simpa using h1
  by_cases h2 : k = 2
  · subst h2
    have HD : Hid (expText 2 name num text l lr ld = name) := Lib.hid rfl
    clear HROW HFIT HXW HE HLO
    generalize expText 2 name num text l lr ld = tt at *
    go_enter Tryz.func14, Tryz.ntmps14
    go_wp2
    go_ret
    exact ⟨congrArg (fun x => Ending.returned (Value.string x)) HD.out.symm, hW1 ▸ (Below.refl _ _).alloc (Nat.le_refl _) _⟩
  have e2 : (k == 2) = false := by simpa using h2
  by_cases h3 : k = 3
  · subst h3
    have HD : Hid (expText 3 name num text l lr ld = numS num) := Lib.hid rfl
    clear HROW HFIT HXW HE HLO
    generalize expText 3 name num text l lr ld = tt at *
    go_enter Tryz.func14, Tryz.ntmps14
    go_wp2_with fail
    try rw [hW1]
    refine (HN.out _ ?_).mono ?_
    (first | assumption | exact bl0 | exact bl5 | exact bl1 (by assumption) | exact bl2 (by assumption) | exact bl3 (by assumption))
    rintro e w0 ⟨rfl, hb0⟩
    have hS0 := (HS.out _ hb0).2
    go_wp2
    go_ret
    exact ⟨congrArg (fun x => Ending.returned (Value.string x)) HD.out.symm, HBK.out _ hb0⟩
  have e3 : (k == 3) = false := by simpa using h3
  by_cases h4 : k = 4
  · subst h4
    have HD : Hid (expText 4 name num text l lr ld = quoteS text) := Lib.hid rfl
    clear HROW HFIT HXW HE HLO
    generalize expText 4 name num text l lr ld = tt at *
    go_enter Tryz.func14, Tryz.ntmps14
    go_wp2_with fail
    try rw [hW1]
    refine (HQ.out _ ?_).mono ?_
    (first | assumption | exact bl0 | exact bl5 | exact bl1 (by assumption) | exact bl2 (by assumption) | exact bl3 (by assumption))
    rintro e w0 ⟨rfl, hb0⟩
    have hS0 := (HS.out _ hb0).2
    go_wp2
    go_ret
    exact ⟨congrArg (fun x => Ending.returned (Value.string x)) HD.out.symm, HBK.out _ hb0⟩
  have e4 : (k == 4) = false := by simpa using h4
  by_cases h5 : k = 5
  · subst h5
    have HD : Hid (expText 5 name num text l lr ld = sUnit) := Lib.hid rfl
    clear HROW HFIT HXW HE HLO
    generalize expText 5 name num text l lr ld = tt at *
    go_enter Tryz.func14, Tryz.ntmps14
    go_wp2
    go_ret
    exact ⟨congrArg (fun x => Ending.returned (Value.string x)) HD.out.symm, hW1 ▸ (Below.refl _ _).alloc (Nat.le_refl _) _⟩
  have e5 : (k == 5) = false := by simpa using h5
  by_cases h6 : k = 6
  · subst h6
    have HD : Hid (expText 6 name num text l lr ld = sOpen ++ joinB (l.map T) sComma ++ sClose) := Lib.hid rfl
    clear HROW HFIT HXW HE HLO
    generalize expText 6 name num text l lr ld = tt at *
    generalize joinB (l.map T) sComma = jj at *
    go_enter Tryz.func14, Tryz.ntmps14
    go_wp2_with fail
    try rw [hW1]
    refine (HJC.out _ ?_).mono ?_
    (first | assumption | exact bl0 | exact bl5 | exact bl1 (by assumption) | exact bl2 (by assumption) | exact bl3 (by assumption))
    rintro e w0 ⟨rfl, hb0⟩
    have hS0 := (HS.out _ hb0).2
    go_wp2
    go_ret
    exact ⟨congrArg (fun x => Ending.returned (Value.string x)) HD.out.symm, HBK.out _ hb0⟩
  have e6 : (k == 6) = false := by simpa using h6
  by_cases h14 : k = 14
  · subst h14
    have HD : Hid (expText 14 name num text l lr ld = sOpen ++ joinB (l.map T) sSemi ++ sClose) := Lib.hid rfl
    clear HROW HFIT HXW HE HLO
    generalize expText 14 name num text l lr ld = tt at *
    generalize joinB (l.map T) sSemi = jj at *
    go_enter Tryz.func14, Tryz.ntmps14
    go_wp2_with fail
    try rw [hW1]
    refine (HJS.out _ ?_).mono ?_
    (first | assumption | exact bl0 | exact bl5 | exact bl1 (by assumption) | exact bl2 (by assumption) | exact bl3 (by assumption))
    rintro e w0 ⟨rfl, hb0⟩
    have hS0 := (HS.out _ hb0).2
    go_wp2
    go_ret
    exact ⟨congrArg (fun x => Ending.returned (Value.string x)) HD.out.symm, HBK.out _ hb0⟩
  have e14 : (k == 14) = false := by simpa using h14
  by_cases h7 : k = 7
  · subst h7
    have HD : Hid (expText 7 name num text l lr ld = sFn ++ name ++ sFat ++ joinB (l.map T) sBlank) := Lib.hid rfl
    clear HROW HFIT HXW HE HLO
    generalize expText 7 name num text l lr ld = tt at *
    generalize joinB (l.map T) sBlank = jj at *
    go_enter Tryz.func14, Tryz.ntmps14
    go_wp2
    try rw [hW1]
    have z00 : ¬ 9223372036854775807 < 3 + name.size := by omega
    have z01 : ¬ 9223372036854775807 < 3 + name.size + 4 := by omega
    have z02 : ¬ 9223372036854775807 < 3 + name.size + 4 + jj.size := by omega
    first
    | go_region_held3 (fun w => Hid (Below W1.heap.size W1 w) ∧ w.cell? ⟨W.heap.size, 0, none⟩ = some (.int .u8 7) ∧ w.cell? ⟨W.heap.size, 1, none⟩ = some (.string name) ∧ w.cell? ⟨W.heap.size, 2, none⟩ = some (.int .i64 num) ∧ w.cell? ⟨W.heap.size, 3, none⟩ = some (.string text) ∧ w.cell? ⟨W.heap.size, 4, none⟩ = some (.slice a4 l.length c4) ∧ w.cell? ⟨W.heap.size, 5, none⟩ = some (.slice a5 lr.length c5) ∧ w.cell? ⟨W.heap.size, 6, none⟩ = some (.slice a6 ld.length c6)) ((refine HS.out _ ?_; (first | assumption | exact bl0 | exact bl5 | exact bl1 (by assumption) | exact bl2 (by assumption) | exact bl3 (by assumption))))
    (first
      | (go_at_call 28; refine (HJB.out _ ?_).mono ?_; (first | assumption | exact bl0 | exact bl5 | exact bl1 (by assumption) | exact bl2 (by assumption) | exact bl3 (by assumption)); rintro e w' ⟨rfl, hb⟩))
    | fail
    all_goals go_wp2
    all_goals go_ret
    all_goals exact ⟨congrArg (fun x => Ending.returned (Value.string x)) HD.out.symm, HBK.out _ (‹Hid (Below _ _ _) ∧ _›).1⟩
  have e7 : (k == 7) = false := by simpa using h7
  by_cases h9 : k = 9
  · subst h9
    have HD : Hid (expText 9 name num text l lr ld = ifT (txts l)) := Lib.hid rfl
    clear HLO HJB HJC HJS HJG HR HJD HN HQ hts
    have HZ := Lib.hid (ifT_takes HFIT.out hwl)
    generalize expText 9 name num text l lr ld = tt at *
    go_enter Tryz.func14, Tryz.ntmps14
    go_wp2
    try rw [hW1]
    go_loopw [4, 51] (fun acc j wr => ∃ m : Nat, m ≤ 3 ∧ j = .int .i64 m ∧ acc = .string (ifT (txts (l.take m))) ∧ Hid (Below W1.heap.size W1 wr)) (fun _ j _ => 3 - (intOf j).toNat)
    case atStart => exact ⟨0, by omega, rfl, rfl, Lib.hid (Below.refl _ _)⟩
    case round =>
      obtain ⟨m, hm, rfl, rfl, hbw⟩ := hrel
      have hz := HZ.out m
      have hSw := (HS.out _ hbw).2
      by_cases hm0 : m = 0
      · subst hm0
        have hz2 := HZ.out 1
        by_cases hlt : 0 < l.length
        · obtain ⟨b, o, rfl, hr⟩ := HROW.out.cells (by omega)
          have hget : l[0]? = some l[0] := List.getElem?_eq_getElem hlt
          have hkid := HROW.out.kid _ _ hget
          have hc := hr 0 hlt
          obtain ⟨v0, v1, v2, v3, a7, n7, c7, a8, n8, c8, a9, n9, c9, hvk⟩ := hkid.exp_vals
          rw [hvk] at hc hkid
          have hmm : l[0] ∈ l := List.getElem_mem _
          have hcw := hc.below (HBW.out.trans (hbw.out.mono HBW.out.size))
          have q0 : wr.cell? ⟨b, o, none⟩ = some (.int .u8 v0) := by have := hcw 0 _ rfl; simpa using this
          have q1 : wr.cell? ⟨b, o + 1, none⟩ = some (.string v1) := by have := hcw 1 _ rfl; simpa using this
          have q2 : wr.cell? ⟨b, o + 2, none⟩ = some (.int .i64 v2) := by have := hcw 2 _ rfl; simpa using this
          have q3 : wr.cell? ⟨b, o + 3, none⟩ = some (.string v3) := by have := hcw 3 _ rfl; simpa using this
          have q4 : wr.cell? ⟨b, o + 4, none⟩ = some (.slice a7 n7 c7) := by have := hcw 4 _ rfl; simpa using this
          have q5 : wr.cell? ⟨b, o + 5, none⟩ = some (.slice a8 n8 c8) := by have := hcw 5 _ rfl; simpa using this
          have q6 : wr.cell? ⟨b, o + 6, none⟩ = some (.slice a9 n9 c9) := by have := hcw 6 _ rfl; simpa using this
          have HX := lift (G := .returned (.string (T l[0]))) HBW.out fun w hb => HE.out _ (HXW.out _ hmm) w _ hkid hb
          have hstep : ifT (txts (l.take 1)) = emp ++ (sIf ++ T l[0]) := ifT_step0 hlt
          have hlz : (T l[0]).size ≤ 1099578736640 := by
            have h2 := mem_fit HFIT.out hmm
            have h3 := F_leM (n := wsum l) (by omega)
            show l[0].t.size ≤ _
            omega
          have i0 : ((0 : Nat) : Int) < (l.length : Int) := by omega
          have i1 : (0 : Int) < (l.length : Int) := by omega
          rw [hstep] at hz2
          have HST := Lib.hid hstep
          clear hc hkid hvk hmm hcw hr hget hstep
          have hem : ifT (txts (l.take 0)) = emp := rfl
          rw [hem] at hz ⊢
          generalize hpre : emp = pre at *
          generalize T l[0] = tl at *
          go_wp2_with fail
          refine (HX.out _ ?_).mono ?_
          (first | assumption | exact bl0 | exact bl5 | exact bl1 (by assumption) | exact bl2 (by assumption) | exact bl3 (by assumption))
          rintro e w2 ⟨rfl, hb2⟩
          have hlen2 : (pre ++ (sIf ++ tl)).size ≤ 1099578736640 := hz2
          unfold sIf at hlen2
          go_wp2
          go_round
          case rel => exact ⟨1, by omega, rfl, by rw [HST.out]; rfl, hb2⟩
          case measure => simp [intOf]
        · have hstep : ifT (txts (l.take 1)) = ifT (txts (l.take 0)) := by rw [List.take_of_length_le (by omega), List.take_of_length_le (by omega)]
          have HST := Lib.hid hstep
          have i0 : ¬ ((0 : Nat) : Int) < (l.length : Int) := by omega
          have i1 : ¬ (0 : Int) < (l.length : Int) := by omega
          have i2 : (l.length : Int) ≤ (0 : Int) := by omega
          clear hstep
          generalize ifT (txts (l.take 0)) = pre at *
          go_wp2
          go_round
          case rel => exact ⟨1, by omega, rfl, by rw [HST.out], hbw⟩
          case measure => simp [intOf]
      by_cases hm1 : m = 1
      · subst hm1
        have hz2 := HZ.out 2
        by_cases hlt : 1 < l.length
        · obtain ⟨b, o, rfl, hr⟩ := HROW.out.cells (by omega)
          have hget : l[1]? = some l[1] := List.getElem?_eq_getElem hlt
          have hkid := HROW.out.kid _ _ hget
          have hc := hr 1 hlt
          obtain ⟨v0, v1, v2, v3, a7, n7, c7, a8, n8, c8, a9, n9, c9, hvk⟩ := hkid.exp_vals
          rw [hvk] at hc hkid
          have hmm : l[1] ∈ l := List.getElem_mem _
          have hcw := hc.below (HBW.out.trans (hbw.out.mono HBW.out.size))
          have q0 : wr.cell? ⟨b, o + 7, none⟩ = some (.int .u8 v0) := by have := hcw 0 _ rfl; simpa using this
          have q1 : wr.cell? ⟨b, o + 7 + 1, none⟩ = some (.string v1) := by have := hcw 1 _ rfl; simpa using this
          have q2 : wr.cell? ⟨b, o + 7 + 2, none⟩ = some (.int .i64 v2) := by have := hcw 2 _ rfl; simpa using this
          have q3 : wr.cell? ⟨b, o + 7 + 3, none⟩ = some (.string v3) := by have := hcw 3 _ rfl; simpa using this
          have q4 : wr.cell? ⟨b, o + 7 + 4, none⟩ = some (.slice a7 n7 c7) := by have := hcw 4 _ rfl; simpa using this
          have q5 : wr.cell? ⟨b, o + 7 + 5, none⟩ = some (.slice a8 n8 c8) := by have := hcw 5 _ rfl; simpa using this
          have q6 : wr.cell? ⟨b, o + 7 + 6, none⟩ = some (.slice a9 n9 c9) := by have := hcw 6 _ rfl; simpa using this
          have HX := lift (G := .returned (.string (T l[1]))) HBW.out fun w hb => HE.out _ (HXW.out _ hmm) w _ hkid hb
          have hstep : ifT (txts (l.take 2)) = ifT (txts (l.take 1)) ++ (sThen ++ T l[1]) := ifT_step1 hlt
          have hlz : (T l[1]).size ≤ 1099578736640 := by
            have h2 := mem_fit HFIT.out hmm
            have h3 := F_leM (n := wsum l) (by omega)
            show l[1].t.size ≤ _
            omega
          have i0 : ((1 : Nat) : Int) < (l.length : Int) := by omega
          have i1 : (1 : Int) < (l.length : Int) := by omega
          rw [hstep] at hz2
          have HST := Lib.hid hstep
          clear hc hkid hvk hmm hcw hr hget hstep
          skip
          skip
          generalize hpre : ifT (txts (l.take 1)) = pre at *
          generalize T l[1] = tl at *
          go_wp2_with fail
          refine (HX.out _ ?_).mono ?_
          (first | assumption | exact bl0 | exact bl5 | exact bl1 (by assumption) | exact bl2 (by assumption) | exact bl3 (by assumption))
          rintro e w2 ⟨rfl, hb2⟩
          have hlen2 : (pre ++ (sThen ++ tl)).size ≤ 1099578736640 := hz2
          unfold sThen at hlen2
          go_wp2
          go_round
          case rel => exact ⟨2, by omega, rfl, by rw [HST.out]; rfl, hb2⟩
          case measure => simp [intOf]
        · have hstep : ifT (txts (l.take 2)) = ifT (txts (l.take 1)) := by rw [List.take_of_length_le (by omega), List.take_of_length_le (by omega)]
          have HST := Lib.hid hstep
          have i0 : ¬ ((1 : Nat) : Int) < (l.length : Int) := by omega
          have i1 : ¬ (1 : Int) < (l.length : Int) := by omega
          have i2 : (l.length : Int) ≤ (1 : Int) := by omega
          clear hstep
          generalize ifT (txts (l.take 1)) = pre at *
          go_wp2
          go_round
          case rel => exact ⟨2, by omega, rfl, by rw [HST.out], hbw⟩
          case measure => simp [intOf]
      by_cases hm2 : m = 2
      · subst hm2
        have hz2 := HZ.out 3
        by_cases hlt : 2 < l.length
        · obtain ⟨b, o, rfl, hr⟩ := HROW.out.cells (by omega)
          have hget : l[2]? = some l[2] := List.getElem?_eq_getElem hlt
          have hkid := HROW.out.kid _ _ hget
          have hc := hr 2 hlt
          obtain ⟨v0, v1, v2, v3, a7, n7, c7, a8, n8, c8, a9, n9, c9, hvk⟩ := hkid.exp_vals
          rw [hvk] at hc hkid
          have hmm : l[2] ∈ l := List.getElem_mem _
          have hcw := hc.below (HBW.out.trans (hbw.out.mono HBW.out.size))
          have q0 : wr.cell? ⟨b, o + 14, none⟩ = some (.int .u8 v0) := by have := hcw 0 _ rfl; simpa using this
          have q1 : wr.cell? ⟨b, o + 14 + 1, none⟩ = some (.string v1) := by have := hcw 1 _ rfl; simpa using this
          have q2 : wr.cell? ⟨b, o + 14 + 2, none⟩ = some (.int .i64 v2) := by have := hcw 2 _ rfl; simpa using this
          have q3 : wr.cell? ⟨b, o + 14 + 3, none⟩ = some (.string v3) := by have := hcw 3 _ rfl; simpa using this
          have q4 : wr.cell? ⟨b, o + 14 + 4, none⟩ = some (.slice a7 n7 c7) := by have := hcw 4 _ rfl; simpa using this
          have q5 : wr.cell? ⟨b, o + 14 + 5, none⟩ = some (.slice a8 n8 c8) := by have := hcw 5 _ rfl; simpa using this
          have q6 : wr.cell? ⟨b, o + 14 + 6, none⟩ = some (.slice a9 n9 c9) := by have := hcw 6 _ rfl; simpa using this
          have HX := lift (G := .returned (.string (T l[2]))) HBW.out fun w hb => HE.out _ (HXW.out _ hmm) w _ hkid hb
          have hstep : ifT (txts (l.take 3)) = ifT (txts (l.take 2)) ++ (sElse ++ T l[2]) := ifT_step2 hlt
          have hlz : (T l[2]).size ≤ 1099578736640 := by
            have h2 := mem_fit HFIT.out hmm
            have h3 := F_leM (n := wsum l) (by omega)
            show l[2].t.size ≤ _
            omega
          have i0 : ((2 : Nat) : Int) < (l.length : Int) := by omega
          have i1 : (2 : Int) < (l.length : Int) := by omega
          rw [hstep] at hz2
          have HST := Lib.hid hstep
          clear hc hkid hvk hmm hcw hr hget hstep
          skip
          skip
          generalize hpre : ifT (txts (l.take 2)) = pre at *
          generalize T l[2] = tl at *
          go_wp2_with fail
          refine (HX.out _ ?_).mono ?_
          (first | assumption | exact bl0 | exact bl5 | exact bl1 (by assumption) | exact bl2 (by assumption) | exact bl3 (by assumption))
          rintro e w2 ⟨rfl, hb2⟩
          have hlen2 : (pre ++ (sElse ++ tl)).size ≤ 1099578736640 := hz2
          unfold sElse at hlen2
          go_wp2
          go_round
          case rel => exact ⟨3, by omega, rfl, by rw [HST.out]; rfl, hb2⟩
          case measure => simp [intOf]
        · have hstep : ifT (txts (l.take 3)) = ifT (txts (l.take 2)) := by rw [List.take_of_length_le (by omega), List.take_of_length_le (by omega)]
          have HST := Lib.hid hstep
          have i0 : ¬ ((2 : Nat) : Int) < (l.length : Int) := by omega
          have i1 : ¬ (2 : Int) < (l.length : Int) := by omega
          have i2 : (l.length : Int) ≤ (2 : Int) := by omega
          clear hstep
          generalize ifT (txts (l.take 2)) = pre at *
          go_wp2
          go_round
          case rel => exact ⟨3, by omega, rfl, by rw [HST.out], hbw⟩
          case measure => simp [intOf]
      · obtain rfl : m = 3 := by omega
        have HST := Lib.hid (ifT_take3 l)
        generalize ifT (txts (l.take 3)) = pre at *
        go_wp2
        go_ret
        exact ⟨congrArg (fun x => Ending.returned (Value.string x)) (by rw [HD.out, ← HST.out]), HBK.out _ hbw⟩
  have e9 : (k == 9) = false := by simpa using h9
  by_cases h10 : k = 10
  · subst h10
    have HD : Hid (expText 10 name num text l lr ld = sLet ++ joinB (ld.map semiD) emp ++ sIn ++ joinB (l.map T) sBlank ++ sEnd) := Lib.hid rfl
    clear HROW HFIT HXW HE HLO
    generalize expText 10 name num text l lr ld = tt at *
    have hsz : (joinB (ld.map semiD) emp).size ≤ 1099578736640 := jd
    generalize joinB (ld.map semiD) emp = j1 at *
    generalize joinB (l.map T) sBlank = j2 at *
    have hz1 : (({ data := #[108, 101, 116, 32] } : ByteArray) ++ j1).size ≤ 1099578736644 := by rw [size_append]; show 4 + _ ≤ _; omega
    have hz2 : (({ data := #[108, 101, 116, 32] } : ByteArray) ++ j1 ++ ({ data := #[105, 110, 32] } : ByteArray)).size ≤ 1099578736647 := by rw [size_append]; show _ + 3 ≤ _; omega
    have hz3 : (({ data := #[108, 101, 116, 32] } : ByteArray) ++ j1 ++ ({ data := #[105, 110, 32] } : ByteArray) ++ j2).size ≤ 3298736209920 := by rw [size_append]; omega
    go_enter Tryz.func14, Tryz.ntmps14
    go_wp2_with fail
    try rw [hW1]
    refine (HJD.out _ ?_).mono ?_
    (first | assumption | exact bl0 | exact bl5 | exact bl1 (by assumption) | exact bl2 (by assumption) | exact bl3 (by assumption))
    rintro e w0 ⟨rfl, hb0⟩
    have hS0 := (HS.out _ hb0).2
    go_wp2_with fail
    refine (HJB.out _ ?_).mono ?_
    (first | assumption | exact bl0 | exact bl5 | exact bl1 (by assumption) | exact bl2 (by assumption) | exact bl3 (by assumption))
    rintro e w1 ⟨rfl, hb1⟩
    have hS1 := (HS.out _ hb1).2
    go_wp2
    go_ret
    exact ⟨congrArg (fun x => Ending.returned (Value.string x)) HD.out.symm, HBK.out _ hb1⟩
  have e10 : (k == 10) = false := by simpa using h10
  by_cases h11 : k = 11
  · subst h11
    have HD : Hid (expText 11 name num text l lr ld = sCase ++ joinB (l.map T) sBlank ++ sOf ++ joinB (lr.map T) sBar) := Lib.hid rfl
    clear HROW HFIT HXW HE HLO
    generalize expText 11 name num text l lr ld = tt at *
    generalize joinB (lr.map T) sBar = j2 at *
    generalize joinB (l.map T) sBlank = jj at *
    go_enter Tryz.func14, Tryz.ntmps14
    go_wp2
    try rw [hW1]
    have z00 : ¬ 9223372036854775807 < 5 + jj.size := by omega
    have z01 : ¬ 9223372036854775807 < 5 + jj.size + 4 := by omega
    have z02 : ¬ 9223372036854775807 < 5 + jj.size + 4 + j2.size := by omega
    first
    | go_region_held3 (fun w => Hid (Below W1.heap.size W1 w) ∧ w.cell? ⟨W.heap.size, 0, none⟩ = some (.int .u8 11) ∧ w.cell? ⟨W.heap.size, 1, none⟩ = some (.string name) ∧ w.cell? ⟨W.heap.size, 2, none⟩ = some (.int .i64 num) ∧ w.cell? ⟨W.heap.size, 3, none⟩ = some (.string text) ∧ w.cell? ⟨W.heap.size, 4, none⟩ = some (.slice a4 l.length c4) ∧ w.cell? ⟨W.heap.size, 5, none⟩ = some (.slice a5 lr.length c5) ∧ w.cell? ⟨W.heap.size, 6, none⟩ = some (.slice a6 ld.length c6)) ((refine HS.out _ ?_; (first | assumption | exact bl0 | exact bl5 | exact bl1 (by assumption) | exact bl2 (by assumption) | exact bl3 (by assumption))))
    (first
      | (go_at_call 28; refine (HJB.out _ ?_).mono ?_; (first | assumption | exact bl0 | exact bl5 | exact bl1 (by assumption) | exact bl2 (by assumption) | exact bl3 (by assumption)); rintro e w' ⟨rfl, hb⟩)
      | (go_at_call 33; refine (HR.out _ ?_).mono ?_; (first | assumption | exact bl0 | exact bl5 | exact bl1 (by assumption) | exact bl2 (by assumption) | exact bl3 (by assumption)); rintro e w' ⟨rfl, hb⟩))
    | fail
    all_goals go_wp2
    all_goals go_ret
    all_goals exact ⟨congrArg (fun x => Ending.returned (Value.string x)) HD.out.symm, HBK.out _ (‹Hid (Below _ _ _) ∧ _›).1⟩
  have e11 : (k == 11) = false := by simpa using h11
  by_cases h13 : k = 13
  · subst h13
    have HD : Hid (expText 13 name num text l lr ld = sRaise ++ joinB (l.map T) sBlank) := Lib.hid rfl
    clear HROW HFIT HXW HE HLO
    generalize expText 13 name num text l lr ld = tt at *
    generalize joinB (l.map T) sBlank = jj at *
    go_enter Tryz.func14, Tryz.ntmps14
    go_wp2_with fail
    try rw [hW1]
    refine (HJB.out _ ?_).mono ?_
    (first | assumption | exact bl0 | exact bl5 | exact bl1 (by assumption) | exact bl2 (by assumption) | exact bl3 (by assumption))
    rintro e w0 ⟨rfl, hb0⟩
    have hS0 := (HS.out _ hb0).2
    go_wp2
    go_ret
    exact ⟨congrArg (fun x => Ending.returned (Value.string x)) HD.out.symm, HBK.out _ hb0⟩
  have e13 : (k == 13) = false := by simpa using h13
  have hkk : (k = 8 ∨ k = 12 ∨ k = 15 ∨ (k ≠ 1 ∧ k ≠ 2 ∧ k ≠ 3 ∧ k ≠ 4 ∧ k ≠ 5 ∧ k ≠ 6 ∧ k ≠ 7 ∧ k ≠ 9 ∧ k ≠ 10 ∧ k ≠ 11 ∧ k ≠ 13 ∧ k ≠ 14)) := .inr (.inr (.inr ⟨h1, h2, h3, h4, h5, h6, h7, h9, h10, h11, h13, h14⟩))
  have HL2 : Hid (∀ w, Hid (Below W1.heap.size W1 w) → _) := Lib.hid fun w hb => HLO.out w hb hkk
  clear HROW HFIT HXW HE HLO HJB HJC HJS HJG HR HJD HN HQ hkk
  generalize expText k name num text l lr ld = tt at *
  have HD : Hid (tt = tt) := Lib.hid rfl
  go_enter Tryz.func14, Tryz.ntmps14
  go_wp2_with fail
  try rw [hW1]
  refine (HL2.out _ ?_).mono ?_
  (first | assumption | exact bl0 | exact bl5 | exact bl1 (by assumption) | exact bl2 (by assumption) | exact bl3 (by assumption))
  rintro e w0 ⟨rfl, hb0⟩
  have hS0 := (HS.out _ hb0).2
  go_wp2
  go_ret
  exact ⟨rfl, HBK.out _ hb0⟩
end Go.Pr
