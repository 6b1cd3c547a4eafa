/- How the document tells patterns and expressions, walked by hand. Each says its own conditions. -/
import Derived.Test.YtmkdiiocfnelaaaGreatDoorPe
import Derived.Test.YtmkdiiocfnelaaaGreatDoorPc
set_option linter.unusedVariables false
set_option linter.unusedSimpArgs false
set_option maxRecDepth 100000
set_option maxHeartbeats 4000000
namespace Go.Pr
open Go Go.RowKit Go.Proofs
theorem emp_append' (a : ByteArray) : emp ++ a = a := by apply bytes_of; rw [append_list]; rfl
theorem append_emp (a : ByteArray) : a ++ emp = a := by apply bytes_of; rw [append_list]; simp [emp]
theorem joinE_step {xs : List ByteArray} {m : Nat} {x : ByteArray} (h : xs[m]? = some x) : joinB (xs.take (m + 1)) emp = joinB (xs.take m) emp ++ x := by
  have hm := (List.getElem?_eq_some_iff.1 h)
  obtain ⟨hlt, hx⟩ := hm
  by_cases h0 : m = 0
  · subst h0
    rw [joinB_zero hlt, List.take_zero, hx]
    exact (emp_append' x).symm
  · rw [joinB_succ hlt (by omega), hx, append_emp]
theorem app_par (name acc tx : ByteArray) : name ++ acc ++ ({ data := #[32, 40] } : ByteArray) ++ tx ++ ({ data := #[41] } : ByteArray) = name ++ (acc ++ (sBlank ++ roundT tx true)) := by
  apply bytes_of
  unfold roundT
  rw [if_pos rfl]
  simp only [append_list, List.append_assoc]
  rfl
theorem app_blank (name acc tx : ByteArray) : name ++ acc ++ ({ data := #[32] } : ByteArray) ++ tx = name ++ (acc ++ (sBlank ++ roundT tx false)) := by
  apply bytes_of
  unfold roundT
  rw [if_neg (by decide)]
  simp only [append_list, List.append_assoc]
  rfl
theorem rpat_ok {d : D} {W0 : World} (hN : NumV W0) (hw : d.w ≤ 1048576) (hT : ∀ x, x.w < d.w → FnOK 63 .pat T W0 x) : FnOK 63 .pat T W0 d := by
  intro W vs hv hB
  obtain ⟨k, name, num, a, l, c, vf, rfl, ht, hk, hn, hnum, hrow, hwt⟩ := hv.pat_parts
  have hts : (T d).size ≤ 1099578736640 := by have := hv.size_le hw; show d.t.size ≤ _; omega
  have hd : T d = patText k name num l := ht
  rw [hd] at hts ⊢
  have hfit := hrow.fits
  have hll := len_le hfit
  have hxw : ∀ x ∈ l, x.w < d.w := fun x hx => by have := w_mem hx; omega
  have hwl : wsum l ≤ 1048576 := by omega
  have hxt : ∀ x ∈ l, (T x).size ≤ 1099578736640 := fun x hx => by have h1 := mem_fit hfit hx; have h2 := F_leM hwl; show x.t.size ≤ _; omega
  have hns := numS_size num
  generalize hW1 : W.alloc (.cells ⟨[.int .u8 k, .string name, .int .i64 num, .slice a l.length c]⟩ 44) = W1
  have hBW : Below W0.heap.size W0 W1 := by rw [← hW1]; exact hB.alloc hB.size _
  have hBe : Below W.heap.size W W1 := by rw [← hW1]; exact (Below.refl _ _).alloc (Nat.le_refl _) _
  have HBK : Hid (∀ w, Hid (Below W1.heap.size W1 w) → Below W.heap.size W w) := Lib.hid fun w hb => hBe.trans (hb.out.mono hBe.size)
  have HS : Hid (∀ w, Hid (Below W1.heap.size W1 w) → Hid (Below W1.heap.size W1 w) ∧ w.cell? ⟨W.heap.size, 0, none⟩ = some (.int .u8 k) ∧ w.cell? ⟨W.heap.size, 1, none⟩ = some (.string name) ∧ w.cell? ⟨W.heap.size, 2, none⟩ = some (.int .i64 num) ∧ w.cell? ⟨W.heap.size, 3, none⟩ = some (.slice a l.length c)) := by
    refine Lib.hid fun w hb => ⟨hb, ?_⟩
    have hc := fun o => hb.out.cell (p := ⟨W.heap.size, o, none⟩) (by rw [← hW1]; simp)
    simp only [hc]
    rw [← hW1]
    simp [go_sem]
  have hS1 := (HS.out W1 (Lib.hid (Below.refl _ _))).2
  have HN := lift (G := .returned (.string (numS num))) hBW fun w _ => hN w num hnum
  have HT : Hid (∀ m (hm : m < l.length) w, Hid (Below W1.heap.size W1 w) → Calls Tryz.prog 63 #[.agg ⟨vf m⟩] w fun e w' => e = .returned (.string (T l[m])) ∧ Hid (Below W1.heap.size W1 w') ∧ Hid (Below w.heap.size w w')) := Lib.hid fun m hm w hb =>
    (hT _ (hxw _ (List.getElem_mem hm)) w _ (hrow.kid m _ (List.getElem?_eq_getElem hm)) (hBW.trans (hb.out.mono hBW.size))).mono fun _ _ h => ⟨h.1, Lib.hid (hb.out.trans (h.2.mono hb.out.size)), Lib.hid h.2⟩
  have HROW := Lib.hid hrow
  have HBW := Lib.hid hBW
  have HFIT := Lib.hid hfit
  have HXT := Lib.hid hxt
  have hll2 : l.length ≤ 1048576 := by omega
  have hname : name.size ≤ 1048576 := by omega
  have HNIL : Hid (OutV W1 W1 (.slice none 0 0) ([] : List ByteArray)) := Lib.hid ⟨World.ownsRow_nil _ _ _ _, Below.refl _ _⟩
  clear hT hv hB ht hd hBW hBe hwt hrow hxw hfit hll hN hk hn hxt
  by_cases h1 : k = 1
  · subst h1
    have HD : Hid (patText 1 name num l = sAny) := Lib.hid rfl
    generalize patText 1 name num l = tt at *
    go_enter Tryz.func63, Tryz.ntmps63
    go_wp2
    go_ret
    exact ⟨congrArg (fun x => Ending.returned (Value.string x)) HD.out.symm, hW1 ▸ (Below.refl _ _).alloc (Nat.le_refl _) _⟩
  have e1 : (k == 1) = false := by simpa using h1
  by_cases h2 : k = 2
  · subst h2
    have HD : Hid (patText 2 name num l = name) := Lib.hid rfl
    generalize patText 2 name num l = tt at *
    go_enter Tryz.func63, Tryz.ntmps63
    go_wp2
    go_ret
    exact ⟨congrArg (fun x => Ending.returned (Value.string x)) HD.out.symm, hW1 ▸ (Below.refl _ _).alloc (Nat.le_refl _) _⟩
  have e2 : (k == 2) = false := by simpa using h2
  by_cases h3 : k = 3
  · subst h3
    have HD : Hid (patText 3 name num l = numS num) := Lib.hid rfl
    generalize patText 3 name num l = tt at *
    go_enter Tryz.func63, Tryz.ntmps63
    go_wp2_with fail
    try rw [hW1]
    refine (HN.out _ ?_).mono ?_
    (first | assumption | exact bl0 | exact bl5 | exact bl1 (by assumption) | exact bl2 (by assumption) | exact bl3 (by assumption))
    rintro e w0 ⟨rfl, hb0⟩
    have hS0 := (HS.out _ hb0).2
    go_wp2
    go_ret
    exact ⟨congrArg (fun x => Ending.returned (Value.string x)) HD.out.symm, HBK.out _ hb0⟩
  have e3 : (k == 3) = false := by simpa using h3
  by_cases h4 : k = 4
  · subst h4
    have HD : Hid (patText 4 name num l = sUnit) := Lib.hid rfl
    generalize patText 4 name num l = tt at *
    go_enter Tryz.func63, Tryz.ntmps63
    go_wp2
    go_ret
    exact ⟨congrArg (fun x => Ending.returned (Value.string x)) HD.out.symm, hW1 ▸ (Below.refl _ _).alloc (Nat.le_refl _) _⟩
  have e4 : (k == 4) = false := by simpa using h4
  by_cases h5 : k = 5
  · subst h5
    have HD : Hid (patText 5 name num l = sOpen ++ joinB (l.map T) sComma ++ sClose) := Lib.hid rfl
    generalize patText 5 name num l = tt at *
    have HSZ := Lib.hid (joinS (g := T) (sep := sComma) HFIT.out hwl fun x _ => by show x.t.size + 2 ≤ _; omega)
    have hjz : (joinB (l.map T) sComma).size ≤ 1099578736640 := joinM HFIT.out hwl fun x _ => by show x.t.size + 2 ≤ _; omega
    go_enter Tryz.func63, Tryz.ntmps63
    go_wp2
    try rw [hW1]
    go_loopw [3, 4] (fun out j wr => ∃ m : Nat, m ≤ l.length ∧ j = .int .i64 m ∧ Hid (OutV W1 wr out ((l.map T).take m))) (fun _ j _ => l.length - (intOf j).toNat)
    case atStart => exact ⟨0, Nat.zero_le _, rfl, by rw [List.take_zero]; exact HNIL⟩
    case round =>
      obtain ⟨m, hk, rfl, hO⟩ := hrel
      by_cases hlt : m < l.length
      ·
        obtain ⟨b, o, rfl, hr⟩ := HROW.out.cells (by omega)
        have hc := hr m hlt
        obtain ⟨v0, v1, v2, a3, n3, c3, hvk⟩ := (HROW.out.kid _ _ (List.getElem?_eq_getElem hlt)).pat_vals
        have hv0 : l[m].k = v0 := by have q := HROW.out.kid _ _ (List.getElem?_eq_getElem hlt); rw [hvk] at q; exact q.pat_k.1
        have hT := HT.out m hlt
        rw [hvk] at hc hT
        have HT1 := Lib.hid hT
        have hx := HXT.out _ (List.getElem_mem hlt)
        have HS2 : Hid (∀ w, Hid (Below W1.heap.size W1 w) → Hid (Below W1.heap.size W1 w) ∧ w.cell? ⟨W.heap.size, 0, none⟩ = some (.int .u8 5) ∧ w.cell? ⟨W.heap.size, 1, none⟩ = some (.string name) ∧ w.cell? ⟨W.heap.size, 2, none⟩ = some (.int .i64 num) ∧ w.cell? ⟨W.heap.size, 3, none⟩ = some (.slice (some ⟨b, o, none⟩) l.length c) ∧ w.cell? ⟨b, o + m * 4, none⟩ = some (.int .u8 v0) ∧ w.cell? ⟨b, o + m * 4 + 1, none⟩ = some (.string v1) ∧ w.cell? ⟨b, o + m * 4 + 2, none⟩ = some (.int .i64 v2) ∧ w.cell? ⟨b, o + m * 4 + 3, none⟩ = some (.slice a3 n3 c3)) := Lib.hid fun w hb => by
          have hcW := hc.below (HBW.out.trans (hb.out.mono HBW.out.size))
          exact ⟨hb, (HS.out w hb).2.1, (HS.out w hb).2.2.1, (HS.out w hb).2.2.2.1, (HS.out w hb).2.2.2.2, hcW 0 _ rfl, hcW 1 _ rfl, hcW 2 _ rfl, hcW 3 _ rfl⟩
        have hSr := (HS2.out wr (Lib.hid hO.out.2)).2
        have i0 : (0 : Int) ≤ (m : Int) := by omega
        have i1 : (m : Int) < (l.length : Int) := by omega
        have htk := take_step (xs := l.map T) (m := m) (x := T l[m]) (by rw [List.getElem?_map, List.getElem?_eq_getElem hlt]; rfl)
        have HTK := Lib.hid htk
        clear hc hT hvk hr hv0 htk
        generalize T l[m] = tx at *
        go_wp2_with fail
        refine (HT1.out _ ?_).mono ?_
        exact OutV.bel (by assumption)
        rintro e w2 ⟨rfl, hb1, hb2⟩
        have hov := OutV.call hO hb2.out
        have hS2' := (HS2.out w2 hb1).2
        go_wp2_with (at_builtin; refine wpList_app (W := W1) rfl _ _ rfl rfl rfl (OutV.alloc' hov _) (new_cell _ _ _) (by simp; omega) ?_; intro v' w3 HN3)
        rw [← HTK.out] at HN3
        go_wp2
        go_round
        case rel => exact ⟨m + 1, by omega, by simp, HN3⟩
        case measure => simp [intOf]; omega
      · obtain rfl : m = l.length := by omega
        rw [List.take_of_length_le (by simp )] at hO
        have HJ := Lib.hid (rjoin_ok (sep := sComma) (StrRow.of_out hO.out) (by simp; omega) (by have := HSZ.out; omega))
        generalize joinB (l.map T) sComma = jj at *
        have hSr := (HS.out wr (Lib.hid hO.out.2)).2
        go_wp2_with fail
        refine HJ.out.mono ?_
        rintro e w2 ⟨rfl, rfl⟩
        go_wp2
        go_ret
        exact ⟨congrArg (fun x => Ending.returned (Value.string x)) HD.out.symm, HBK.out _ (Lib.hid hO.out.2)⟩
  have e5 : (k == 5) = false := by simpa using h5
  by_cases h6 : k = 6
  · subst h6
    have HD : Hid (patText 6 name num l = name ++ joinB (l.map patArg) emp) := Lib.hid rfl
    generalize patText 6 name num l = tt at *
    have HPZ : Hid (∀ m, (joinB ((l.map patArg).take m) emp).size ≤ 1099578736640) := Lib.hid fun m => by
      rw [← List.map_take]
      refine joinM (fun x hx => HFIT.out x (List.mem_of_mem_take hx)) ?_ fun x _ => ?_
      · have : wsum l = wsum (l.take m) + wsum (l.drop m) := by
          unfold wsum
          rw [← List.sum_append, ← List.map_append, List.take_append_drop]
        omega
      · have := round_size x.t (decide (x.k = 6) && decide (0 < x.n))
        show (sBlank ++ roundT x.t (decide (x.k = 6) && decide (0 < x.n))).size + 0 ≤ _
        rw [size_append]
        show 1 + _ + 0 ≤ _
        omega
    go_enter Tryz.func63, Tryz.ntmps63
    go_wp2
    try rw [hW1]
    go_loopw [5, 6] (fun out j wr => ∃ m : Nat, m ≤ l.length ∧ j = .int .i64 m ∧ out = .string (name ++ joinB ((l.map patArg).take m) emp) ∧ Hid (Below W1.heap.size W1 wr)) (fun _ j _ => l.length - (intOf j).toNat)
    case atStart => exact ⟨0, Nat.zero_le _, rfl, by rw [List.take_zero]; exact congrArg Value.string (append_emp name).symm, Lib.hid (Below.refl _ _)⟩
    case round =>
      obtain ⟨m, hk, rfl, rfl, hO⟩ := hrel
      by_cases hlt : m < l.length
      ·
        obtain ⟨b, o, rfl, hr⟩ := HROW.out.cells (by omega)
        have hc := hr m hlt
        obtain ⟨v0, v1, v2, a3, n3, c3, hvk⟩ := (HROW.out.kid _ _ (List.getElem?_eq_getElem hlt)).pat_vals
        have hv0 : l[m].k = v0 := by have q := HROW.out.kid _ _ (List.getElem?_eq_getElem hlt); rw [hvk] at q; exact q.pat_k.1
        have hT := HT.out m hlt
        rw [hvk] at hc hT
        have HT1 := Lib.hid hT
        have hx := HXT.out _ (List.getElem_mem hlt)
        have HS2 : Hid (∀ w, Hid (Below W1.heap.size W1 w) → Hid (Below W1.heap.size W1 w) ∧ w.cell? ⟨W.heap.size, 0, none⟩ = some (.int .u8 6) ∧ w.cell? ⟨W.heap.size, 1, none⟩ = some (.string name) ∧ w.cell? ⟨W.heap.size, 2, none⟩ = some (.int .i64 num) ∧ w.cell? ⟨W.heap.size, 3, none⟩ = some (.slice (some ⟨b, o, none⟩) l.length c) ∧ w.cell? ⟨b, o + m * 4, none⟩ = some (.int .u8 v0) ∧ w.cell? ⟨b, o + m * 4 + 1, none⟩ = some (.string v1) ∧ w.cell? ⟨b, o + m * 4 + 2, none⟩ = some (.int .i64 v2) ∧ w.cell? ⟨b, o + m * 4 + 3, none⟩ = some (.slice a3 n3 c3)) := Lib.hid fun w hb => by
          have hcW := hc.below (HBW.out.trans (hb.out.mono HBW.out.size))
          exact ⟨hb, (HS.out w hb).2.1, (HS.out w hb).2.2.1, (HS.out w hb).2.2.2.1, (HS.out w hb).2.2.2.2, hcW 0 _ rfl, hcW 1 _ rfl, hcW 2 _ rfl, hcW 3 _ rfl⟩
        have hSr := (HS2.out wr hO).2
        have i0 : (0 : Int) ≤ (m : Int) := by omega
        have i1 : (m : Int) < (l.length : Int) := by omega
        have hn3 : l[m].n = n3 := by
          have q := HROW.out.kid _ _ (List.getElem?_eq_getElem hlt)
          rw [hvk] at q
          obtain ⟨a', c', e⟩ := q.pat_k.2
          cases e; rfl
        have hpa : patArg l[m] = sBlank ++ roundT (T l[m]) (decide (v0 = 6) && decide (0 < n3)) := by unfold patArg; rw [hv0, hn3]; rfl
        have hstep : joinB ((l.map patArg).take (m + 1)) emp = joinB ((l.map patArg).take m) emp ++ patArg l[m] := joinE_step (by rw [List.getElem?_map, List.getElem?_eq_getElem hlt]; rfl)
        have hz0 := HPZ.out m
        have hz1 := HPZ.out (m + 1)
        rw [hstep, hpa] at hz1
        rw [hpa] at hstep
        clear hc hT hvk hr hv0 hn3 hpa
        generalize joinB ((l.map patArg).take m) emp = acc at *
        generalize T l[m] = tx at *
        rw [size_append, size_append] at hz1
        have hacc : (name ++ acc).size ≤ 1099579785216 := by rw [size_append]; omega
        by_cases hv6 : v0 = 6
        · subst hv6
          by_cases hn0 : 0 < n3
          · have hnn : (0 : Int) < (n3 : Int) := by omega
            have HST : Hid (name ++ acc ++ ({ data := #[32, 40] } : ByteArray) ++ tx ++ ({ data := #[41] } : ByteArray) = name ++ joinB ((l.map patArg).take (m + 1)) emp) := Lib.hid (by
              rw [hstep, show (decide ((6 : Int) = 6) && decide (0 < n3)) = true by simp [hn0]]
              exact app_par name acc tx)
            have hz2 : (name ++ acc ++ ({ data := #[32, 40] } : ByteArray)).size ≤ 1099579785218 := by rw [size_append]; show _ + 2 ≤ _; omega
            have hz3 : (name ++ acc ++ ({ data := #[32, 40] } : ByteArray) ++ tx).size ≤ 3298736209920 := by rw [size_append]; omega
            clear hstep hz1
            go_wp2_with fail
            refine (HT1.out _ hO).mono ?_
            rintro e w2 ⟨rfl, hb1, hb2⟩
            have hS2' := (HS2.out w2 hb1).2
            go_wp2
            go_round
            case rel => exact ⟨m + 1, by omega, by simp, congrArg Value.string (HST.out), hb1⟩
            case measure => simp [intOf]; omega
          · obtain rfl : n3 = 0 := by omega
            have HST : Hid (name ++ acc ++ ({ data := #[32] } : ByteArray) ++ tx = name ++ joinB ((l.map patArg).take (m + 1)) emp) := Lib.hid (by
              rw [hstep]
              exact app_blank name acc tx)
            have hz2 : (name ++ acc ++ ({ data := #[32] } : ByteArray)).size ≤ 1099579785218 := by rw [size_append]; show _ + 1 ≤ _; omega
            clear hstep hz1
            go_wp2_with fail
            refine (HT1.out _ hO).mono ?_
            rintro e w2 ⟨rfl, hb1, hb2⟩
            have hS2' := (HS2.out w2 hb1).2
            go_wp2
            go_round
            case rel => exact ⟨m + 1, by omega, by simp, congrArg Value.string (HST.out), hb1⟩
            case measure => simp [intOf]; omega
        · have f6 : (v0 == 6) = false := by simpa using hv6
          have HST : Hid (name ++ acc ++ ({ data := #[32] } : ByteArray) ++ tx = name ++ joinB ((l.map patArg).take (m + 1)) emp) := Lib.hid (by
            rw [hstep, show (decide (v0 = 6) && decide (0 < n3)) = false by simp [hv6]]
            exact app_blank name acc tx)
          have hz2 : (name ++ acc ++ ({ data := #[32] } : ByteArray)).size ≤ 1099579785218 := by rw [size_append]; show _ + 1 ≤ _; omega
          clear hstep hz1
          go_wp2_with fail
          refine (HT1.out _ hO).mono ?_
          rintro e w2 ⟨rfl, hb1, hb2⟩
          have hS2' := (HS2.out w2 hb1).2
          go_wp2
          go_round
          case rel => exact ⟨m + 1, by omega, by simp, congrArg Value.string (HST.out), hb1⟩
          case measure => simp [intOf]; omega
      · obtain rfl : m = l.length := by omega
        have HST := Lib.hid (List.take_of_length_le (l := l.map patArg) (i := l.length) (by simp))
        rw [HST.out]
        have hSr := (HS.out wr hO).2
        go_wp2
        go_ret
        exact ⟨congrArg (fun x => Ending.returned (Value.string x)) HD.out.symm, HBK.out _ hO⟩
  have e6 : (k == 6) = false := by simpa using h6
  have HD : Hid (patText k name num l = emp) := Lib.hid (by rw [patText, if_neg h1, if_neg h2, if_neg h3, if_neg h4, if_neg h5, if_neg h6])
  generalize patText k name num l = tt at *
  go_enter Tryz.func63, Tryz.ntmps63
  go_wp2
  go_ret
  exact ⟨congrArg (fun x => Ending.returned (Value.string x)) HD.out.symm, hW1 ▸ (Below.refl _ _).alloc (Nat.le_refl _) _⟩
end Go.Pr
namespace Go.Pr
open Go Go.RowKit Go.Proofs
def RQuoteV (W0 : World) : Prop := ∀ (W : World) (s : ByteArray), s.size ≤ 1048576 → Below W0.heap.size W0 W → Calls Tryz.prog 40 #[.string s] W fun e w' => e = .returned (.string (quoteS s)) ∧ Below W.heap.size W w'
theorem if_assoc0 (x : ByteArray) : ({ data := #[105, 102, 32] } : ByteArray) ++ x = sIf ++ x := rfl
theorem if_assoc (a w x : ByteArray) : a ++ w ++ x = a ++ (w ++ x) := by apply bytes_of; simp only [append_list, List.append_assoc]
theorem rexp_ok {d : D} {W0 : World} (hN : NumV W0) (hQ : RQuoteV W0) (hw : d.w ≤ 1048576) (hE : ∀ x, x.w < d.w → FnOK 20 .exp T W0 x) (hP : ∀ x, x.w < d.w → FnOK 63 .pat T W0 x) (hDc : ∀ x, x.w < d.w → FnOK 7 .dec T W0 x) : FnOK 20 .exp T W0 d := by
  intro W vs hv hB
  have hts0 := hv.size_le hw
  obtain ⟨k, name, num, text, a4, l, c4, vf, a5, lr, c5, vr, a6, ld, c6, vd, rfl, ht, hk, hn, hnum, hrow, hrr, hrd, hwt⟩ := hv.exp_parts
  have hts : (T d).size ≤ 1099578736640 := by show d.t.size ≤ _; omega
  have hfit := hrow.fits
  have hll := len_le hfit
  have hld := len_le hrd.fits
  have hwl : wsum l ≤ 1048576 := by omega
  have hxw : ∀ x ∈ l, x.w < d.w := fun x hx => by have := w_mem hx; omega
  have hxd : ∀ x ∈ ld, x.w < d.w := fun x hx => by have := w_mem hx; omega
  have hxt : ∀ x ∈ l, x.t.size ≤ 1099578736640 := fun x hx => by have h1 := mem_fit hfit hx; have h2 := F_leM hwl; omega
  have hxdt : ∀ x ∈ ld, (T x).size ≤ 1099578736640 := fun x hx => by have h1 := mem_fit hrd.fits hx; have h2 := F_leM (n := wsum ld) (by omega); show x.t.size ≤ _; omega
  have jk : ∀ sep : ByteArray, sep.size ≤ 16 → (joinB (l.map T) sep).size ≤ 1099578736640 := fun sep hs => joinM hfit hwl fun x _ => by show x.t.size + _ ≤ _; omega
  have hjr : (joinB (lr.map T) sBar).size ≤ 1099578736640 := joinM hrr.fits (by omega) fun x _ => by show x.t.size + 3 ≤ _; omega
  have hjg : (joinB (l.map tightD) sBlank).size ≤ 1099578736640 := joinM hfit hwl fun x _ => by have := tight_le x; show _ + 1 ≤ _; omega
  have hjb := jk sBlank (by decide)
  have hjc := jk sComma (by decide)
  have hjs := jk sSemi (by decide)
  have hd : T d = expText k name num text l lr ld := ht
  rw [hd] at hts ⊢
  have hns := numS_size num
  have hqs := quoteS_size text
  generalize hW1 : W.alloc (.cells ⟨[.int .u8 k, .string name, .int .i64 num, .string text, .slice a4 l.length c4, .slice a5 lr.length c5, .slice a6 ld.length c6]⟩ 34) = W1
  have hBW : Below W0.heap.size W0 W1 := by rw [← hW1]; exact hB.alloc hB.size _
  have hBe : Below W.heap.size W W1 := by rw [← hW1]; exact (Below.refl _ _).alloc (Nat.le_refl _) _
  have HBK : Hid (∀ w, Hid (Below W1.heap.size W1 w) → Below W.heap.size W w) := Lib.hid fun w hb => hBe.trans (hb.out.mono hBe.size)
  have HS : Hid (∀ w, Hid (Below W1.heap.size W1 w) → Hid (Below W1.heap.size W1 w) ∧ w.cell? ⟨W.heap.size, 0, none⟩ = some (.int .u8 k) ∧ w.cell? ⟨W.heap.size, 1, none⟩ = some (.string name) ∧ w.cell? ⟨W.heap.size, 2, none⟩ = some (.int .i64 num) ∧ w.cell? ⟨W.heap.size, 3, none⟩ = some (.string text) ∧ w.cell? ⟨W.heap.size, 4, none⟩ = some (.slice a4 l.length c4) ∧ w.cell? ⟨W.heap.size, 5, none⟩ = some (.slice a5 lr.length c5) ∧ w.cell? ⟨W.heap.size, 6, none⟩ = some (.slice a6 ld.length c6)) := by
    refine Lib.hid fun w hb => ⟨hb, ?_⟩
    have hc := fun o => hb.out.cell (p := ⟨W.heap.size, o, none⟩) (by rw [← hW1]; simp)
    simp only [hc]
    rw [← hW1]
    simp [go_sem]
  have hS1 := (HS.out W1 (Lib.hid (Below.refl _ _))).2
  have HN := lift (G := .returned (.string (numS num))) hBW fun w _ => hN w num hnum
  have HQ := lift (G := .returned (.string (quoteS text))) hBW fun w hb => hQ w text (by omega) hb
  have HA : Hid (∀ w, Hid (Below W1.heap.size W1 w) → Calls Tryz.prog 41 #[.slice a4 l.length c4] w fun e w' => ∃ out, e = .returned out ∧ Hid (StrRow w' out (l.map T)) ∧ Hid (Below W1.heap.size W1 w')) := Lib.hid fun w hb =>
    have hb0 := hBW.trans (hb.out.mono hBW.size)
    (all_ok (hrow.row.below hb0) hrow.kid hb0 (by omega) fun x hx => hE x (hxw x hx)).mono fun _ _ ⟨out, h1, h2⟩ => ⟨out, h1, Lib.hid (StrRow.of_out h2.out), Lib.hid (hb.out.trans (h2.out.2.mono hb.out.size))⟩
  have HG : Hid (∀ w, Hid (Below W1.heap.size W1 w) → Calls Tryz.prog 42 #[.slice a4 l.length c4] w fun e w' => ∃ out, e = .returned out ∧ Hid (StrRow w' out (l.map tightD)) ∧ Hid (Below W1.heap.size W1 w')) := Lib.hid fun w hb =>
    have hb0 := hBW.trans (hb.out.mono hBW.size)
    (rtight_ok (hrow.row.below hb0) hrow.kid hb0 (by omega) hxt fun x hx => hE x (hxw x hx)).mono fun _ _ ⟨out, h1, h2⟩ => ⟨out, h1, Lib.hid (StrRow.of_out h2.out), Lib.hid (hb.out.trans (h2.out.2.mono hb.out.size))⟩
  have HA2 : Hid (∀ w, Hid (Below W1.heap.size W1 w) → Calls Tryz.prog 41 #[.slice a4 l.length c4] w fun e w' => ∃ a c, e = .returned (.slice a l.length c) ∧ (0 < l.length → ∃ b o, a = some ⟨b, o, none⟩ ∧ ∀ j x, (l.map T)[j]? = some x → w'.cell? ⟨b, o + j, none⟩ = some (.string x)) ∧ Hid (Below W1.heap.size W1 w') ∧ Hid (Below w.heap.size w w')) := Lib.hid fun w hb =>
    have hb0 := hBW.trans (hb.out.mono hBW.size)
    (all_ok (hrow.row.below hb0) hrow.kid hb0 (by omega) fun x hx => hE x (hxw x hx)).mono fun _ _ ⟨out, h1, h2⟩ => by
      obtain ⟨a, c, rfl, hc⟩ := StrRow.of_out h2.out
      simp only [List.length_map] at h1 hc
      exact ⟨a, c, h1, hc, Lib.hid (hb.out.trans (h2.out.2.mono hb.out.size)), Lib.hid h2.out.2⟩
  have HR := lift (G := .returned (.string (joinB (lr.map T) sBar))) hBW fun w hb => rrules_ok hrr hb (by omega) (fun x hx => hP x (by omega)) (fun x hx => hE x (by omega))
  have hJ : ∀ sep : ByteArray, sep.size ≤ 16 → Hid (∀ w out, Hid (StrRow w out (l.map T)) → Hid (Below W1.heap.size W1 w) → Calls Tryz.prog 18 #[out, .string sep] w fun e w' => e = .returned (.string (joinB (l.map T) sep)) ∧ Hid (Below W1.heap.size W1 w')) := fun sep hs => Lib.hid fun w out h hb =>
    (rjoin_ok h.out (by simp; omega) (by have := joinS (g := T) (sep := sep) hfit hwl (fun x _ => by show x.t.size + _ ≤ _; omega); omega)).mono fun _ _ h => ⟨h.1, h.2 ▸ hb⟩
  have HJB := hJ sBlank (by decide)
  have HJC := hJ sComma (by decide)
  have HJS := hJ sSemi (by decide)
  have HJG : Hid (∀ w out, Hid (StrRow w out (l.map tightD)) → Hid (Below W1.heap.size W1 w) → Calls Tryz.prog 18 #[out, .string sBlank] w fun e w' => e = .returned (.string (joinB (l.map tightD) sBlank)) ∧ Hid (Below W1.heap.size W1 w')) := Lib.hid fun w out h hb =>
    (rjoin_ok h.out (by simp; omega) (by have := joinS (g := tightD) (sep := sBlank) hfit hwl (fun x _ => by have := tight_le x; show _ + 1 ≤ _; omega); omega)).mono fun _ _ h => ⟨h.1, h.2 ▸ hb⟩
  have HDC : Hid (∀ m (hm : m < ld.length) w, Hid (Below W1.heap.size W1 w) → Calls Tryz.prog 7 #[.agg ⟨vd m⟩] w fun e w' => e = .returned (.string (T ld[m])) ∧ Hid (Below W1.heap.size W1 w')) := Lib.hid fun m hm w hb =>
    (hDc _ (hxd _ (List.getElem_mem hm)) w _ (hrd.kid m _ (List.getElem?_eq_getElem hm)) (hBW.trans (hb.out.mono hBW.size))).mono fun _ _ h => ⟨h.1, Lib.hid (hb.out.trans (h.2.mono hb.out.size))⟩
  have HSUM : Hid (((l.map tightD).map fun x => x.size + (sBlank ++ name ++ sBlank).size).sum ≤ 8796093022208) := Lib.hid (by
    have h3 : ∀ (l : List D), ((l.map tightD).map fun x => x.size + (sBlank ++ name ++ sBlank).size).sum = (l.map fun x => (tightD x).size + 2).sum + l.length * name.size := by
      intro l
      induction l with
      | nil => simp
      | cons x r ih =>
        rw [List.map_cons, List.map_cons, List.sum_cons, ih, List.map_cons, List.sum_cons, List.length_cons, Nat.add_mul, Nat.one_mul]
        show (tightD x).size + (sBlank ++ name ++ sBlank).size + _ = _
        rw [size_append, size_append]
        show _ + (1 + _ + 1) + _ = _
        omega
    rw [h3]
    have h1 := sum_fit (g := fun x => (tightD x).size + 2) hfit fun x _ => by have := tight_le x; omega
    have h2 := F_leM hwl
    have h4 : l.length * name.size ≤ 1048576 * 1048576 := Nat.mul_le_mul (by omega) (by omega)
    omega)
  have HRD := Lib.hid hrd
  have HBW := Lib.hid hBW
  have HFIT := Lib.hid hfit
  have HXDT := Lib.hid hxdt
  have HXT := Lib.hid hxt
  have hll2 : l.length ≤ 1048576 := by omega
  have hld2 : ld.length ≤ 1048576 := by omega
  have hwd : wsum ld ≤ 1048576 := by omega
  have hname : name.size ≤ 1048576 := by omega
  have htext : text.size ≤ 1048576 := by omega
  clear hE hP hDc hv hB ht hd hBW hBe hwt hrow hrr hrd hxw hxd hfit hll hld hN hQ hk hn hxt hxdt jk hJ hts0
  by_cases h1 : k = 1
  · subst h1
    have HD : Hid (expText 1 name num text l lr ld = name) := Lib.hid rfl
    generalize expText 1 name num text l lr ld = tt at *
    go_enter Tryz.func20, Tryz.ntmps20
    go_wp2
    go_ret
    exact ⟨congrArg (fun x => Ending.returned (Value.string x)) HD.out.symm, hW1 ▸ (Below.refl _ _).alloc (Nat.le_refl _) _⟩
  have e1 : (k == 1) = false := by simpa using h1
  by_cases h2 : k = 2
  · subst h2
    have HD : Hid (expText 2 name num text l lr ld = name) := Lib.hid rfl
    generalize expText 2 name num text l lr ld = tt at *
    go_enter Tryz.func20, Tryz.ntmps20
    go_wp2
    go_ret
    exact ⟨congrArg (fun x => Ending.returned (Value.string x)) HD.out.symm, hW1 ▸ (Below.refl _ _).alloc (Nat.le_refl _) _⟩
  have e2 : (k == 2) = false := by simpa using h2
  by_cases h3 : k = 3
  · subst h3
    have HD : Hid (expText 3 name num text l lr ld = numS num) := Lib.hid rfl
    generalize expText 3 name num text l lr ld = tt at *
    go_enter Tryz.func20, Tryz.ntmps20
    go_wp2_with fail
    try rw [hW1]
    refine (HN.out _ ?_).mono ?_
    (first | assumption | exact bl0 | exact bl5 | exact bl1 (by assumption) | exact bl2 (by assumption) | exact bl3 (by assumption))
    rintro e w0 ⟨rfl, hb0⟩
    have hS0 := (HS.out _ hb0).2
    go_wp2
    go_ret
    exact ⟨congrArg (fun x => Ending.returned (Value.string x)) HD.out.symm, HBK.out _ hb0⟩
  have e3 : (k == 3) = false := by simpa using h3
  by_cases h4 : k = 4
  · subst h4
    have HD : Hid (expText 4 name num text l lr ld = quoteS text) := Lib.hid rfl
    generalize expText 4 name num text l lr ld = tt at *
    go_enter Tryz.func20, Tryz.ntmps20
    go_wp2_with fail
    try rw [hW1]
    refine (HQ.out _ ?_).mono ?_
    (first | assumption | exact bl0 | exact bl5 | exact bl1 (by assumption) | exact bl2 (by assumption) | exact bl3 (by assumption))
    rintro e w0 ⟨rfl, hb0⟩
    have hS0 := (HS.out _ hb0).2
    go_wp2
    go_ret
    exact ⟨congrArg (fun x => Ending.returned (Value.string x)) HD.out.symm, HBK.out _ hb0⟩
  have e4 : (k == 4) = false := by simpa using h4
  by_cases h5 : k = 5
  · subst h5
    have HD : Hid (expText 5 name num text l lr ld = sUnit) := Lib.hid rfl
    generalize expText 5 name num text l lr ld = tt at *
    go_enter Tryz.func20, Tryz.ntmps20
    go_wp2
    go_ret
    exact ⟨congrArg (fun x => Ending.returned (Value.string x)) HD.out.symm, hW1 ▸ (Below.refl _ _).alloc (Nat.le_refl _) _⟩
  have e5 : (k == 5) = false := by simpa using h5
  by_cases h6 : k = 6
  · subst h6
    have HD : Hid (expText 6 name num text l lr ld = sOpen ++ joinB (l.map T) sComma ++ sClose) := Lib.hid rfl
    generalize expText 6 name num text l lr ld = tt at *
    go_enter Tryz.func20, Tryz.ntmps20
    go_wp2_with fail
    try rw [hW1]
    refine (HA.out _ ?_).mono ?_
    exact Lib.hid (Below.refl _ _)
    rintro e w0 ⟨out, rfl, hr0, hb0⟩
    have hS0 := (HS.out _ hb0).2
    have HJX := HJC.out w0 out hr0 hb0
    have HJY := Lib.hid HJX
    clear HJX
    generalize joinB (l.map T) sComma = jt at *
    go_wp2_with fail
    refine HJY.out.mono ?_
    rintro e w1 ⟨rfl, hb1⟩
    have hS1' := (HS.out _ hb1).2
    go_wp2
    go_ret
    exact ⟨congrArg (fun x => Ending.returned (Value.string x)) HD.out.symm, HBK.out _ hb1⟩
  have e6 : (k == 6) = false := by simpa using h6
  by_cases h14 : k = 14
  · subst h14
    have HD : Hid (expText 14 name num text l lr ld = sOpen ++ joinB (l.map T) sSemi ++ sClose) := Lib.hid rfl
    generalize expText 14 name num text l lr ld = tt at *
    go_enter Tryz.func20, Tryz.ntmps20
    go_wp2_with fail
    try rw [hW1]
    refine (HA.out _ ?_).mono ?_
    exact Lib.hid (Below.refl _ _)
    rintro e w0 ⟨out, rfl, hr0, hb0⟩
    have hS0 := (HS.out _ hb0).2
    have HJX := HJS.out w0 out hr0 hb0
    have HJY := Lib.hid HJX
    clear HJX
    generalize joinB (l.map T) sSemi = jt at *
    go_wp2_with fail
    refine HJY.out.mono ?_
    rintro e w1 ⟨rfl, hb1⟩
    have hS1' := (HS.out _ hb1).2
    go_wp2
    go_ret
    exact ⟨congrArg (fun x => Ending.returned (Value.string x)) HD.out.symm, HBK.out _ hb1⟩
  have e14 : (k == 14) = false := by simpa using h14
  by_cases h7 : k = 7
  · subst h7
    have HD : Hid (expText 7 name num text l lr ld = sFn ++ name ++ sFat ++ joinB (l.map T) sBlank) := Lib.hid rfl
    generalize expText 7 name num text l lr ld = tt at *
    generalize joinB (l.map T) sBlank = jj at *
    go_enter Tryz.func20, Tryz.ntmps20
    go_wp2
    try rw [hW1]
    have z00 : ¬ 9223372036854775807 < 3 + name.size := by omega
    have z01 : ¬ 9223372036854775807 < 3 + name.size + 4 := by omega
    have z02 : ¬ 9223372036854775807 < 3 + name.size + 4 + jj.size := by omega
    first
    | go_region_held3 (fun w => Hid (Below W1.heap.size W1 w) ∧ w.cell? ⟨W.heap.size, 0, none⟩ = some (.int .u8 7) ∧ w.cell? ⟨W.heap.size, 1, none⟩ = some (.string name) ∧ w.cell? ⟨W.heap.size, 2, none⟩ = some (.int .i64 num) ∧ w.cell? ⟨W.heap.size, 3, none⟩ = some (.string text) ∧ w.cell? ⟨W.heap.size, 4, none⟩ = some (.slice a4 l.length c4) ∧ w.cell? ⟨W.heap.size, 5, none⟩ = some (.slice a5 lr.length c5) ∧ w.cell? ⟨W.heap.size, 6, none⟩ = some (.slice a6 ld.length c6)) ((refine HS.out _ ?_; (first | (first | assumption | exact bl1 (by assumption) | exact bl2 (by assumption) | exact OutV.bel (by (first | assumption | exact OutV.drew' (by assumption) | exact ov1 (by assumption) | exact ov2 (by assumption) | exact ov3 (by assumption) | exact ov4 (by assumption))) | exact bl4 (by assumption)) | (first | assumption | exact bl0 | exact bl5 | exact bl1 (by assumption) | exact bl2 (by assumption) | exact bl3 (by assumption)))))
      (first
      | (go_at_call 41; refine (HA.out _ ?_).mono ?_; (first | (first | assumption | exact bl1 (by assumption) | exact bl2 (by assumption) | exact OutV.bel (by (first | assumption | exact OutV.drew' (by assumption) | exact ov1 (by assumption) | exact ov2 (by assumption) | exact ov3 (by assumption) | exact ov4 (by assumption))) | exact bl4 (by assumption)) | (first | assumption | exact bl0 | exact bl5 | exact bl1 (by assumption) | exact bl2 (by assumption) | exact bl3 (by assumption))); rintro e' w' ⟨out, rfl, hr0, hb⟩)
      | (go_at_call 18; refine (HJB.out _ _ ?_ ?_).mono ?_; assumption; (first | (first | assumption | exact bl1 (by assumption) | exact bl2 (by assumption) | exact OutV.bel (by (first | assumption | exact OutV.drew' (by assumption) | exact ov1 (by assumption) | exact ov2 (by assumption) | exact ov3 (by assumption) | exact ov4 (by assumption))) | exact bl4 (by assumption)) | (first | assumption | exact bl0 | exact bl5 | exact bl1 (by assumption) | exact bl2 (by assumption) | exact bl3 (by assumption))); rintro e' w' ⟨rfl, hb⟩))
    | fail
    all_goals go_wp2
    all_goals go_ret
    all_goals exact ⟨congrArg (fun x => Ending.returned (Value.string x)) HD.out.symm, HBK.out _ (‹Hid (Below _ _ _) ∧ _›).1⟩
  have e7 : (k == 7) = false := by simpa using h7
  by_cases h8 : k = 8
  · subst h8
    have HD : Hid (expText 8 name num text l lr ld = joinB (l.map tightD) sBlank) := Lib.hid rfl
    generalize expText 8 name num text l lr ld = tt at *
    go_enter Tryz.func20, Tryz.ntmps20
    go_wp2_with fail
    try rw [hW1]
    refine (HG.out _ ?_).mono ?_
    exact Lib.hid (Below.refl _ _)
    rintro e w0 ⟨out, rfl, hr0, hb0⟩
    have hS0 := (HS.out _ hb0).2
    have HJX := HJG.out w0 out hr0 hb0
    have HJY := Lib.hid HJX
    clear HJX
    generalize joinB (l.map tightD) sBlank = jt at *
    go_wp2_with fail
    refine HJY.out.mono ?_
    rintro e w1 ⟨rfl, hb1⟩
    have hS1' := (HS.out _ hb1).2
    go_wp2
    go_ret
    exact ⟨congrArg (fun x => Ending.returned (Value.string x)) HD.out.symm, HBK.out _ hb1⟩
  have e8 : (k == 8) = false := by simpa using h8
  by_cases h9 : k = 9
  · subst h9
    have HD : Hid (expText 9 name num text l lr ld = ifT (txts l)) := Lib.hid rfl
    generalize expText 9 name num text l lr ld = tt at *
    have HZ := Lib.hid (ifT_takes HFIT.out hwl)
    clear HN HQ HG HR HJB HJC HJS HJG HDC HRD HXDT hts
    have hbA : Hid (Below W1.heap.size W1 (W1.alloc (.cells #[.string { data := #[105, 102, 32] }, .string { data := #[32, 116, 104, 101, 110, 32] }, .string { data := #[32, 101, 108, 115, 101, 32] }] 9))) := Lib.hid ((Below.refl _ _).alloc (Nat.le_refl _) _)
    have hSA := (HS.out _ hbA).2
    go_enter Tryz.func20, Tryz.ntmps20
    go_wp2_with fail
    try rw [hW1]
    refine (HA2.out _ hbA).mono ?_
    rintro e wx ⟨a, c, rfl, hrow, hbx, hbz⟩
    have hw0 : wx.cell? ⟨W1.heap.size, 0, none⟩ = some (.string { data := #[105, 102, 32] }) := (hbz.out.cell (p := ⟨W1.heap.size, 0, none⟩) (by simp)).trans (by simp [go_sem])
    have hw1 : wx.cell? ⟨W1.heap.size, 1, none⟩ = some (.string { data := #[32, 116, 104, 101, 110, 32] }) := (hbz.out.cell (p := ⟨W1.heap.size, 1, none⟩) (by simp)).trans (by simp [go_sem])
    have hw2 : wx.cell? ⟨W1.heap.size, 2, none⟩ = some (.string { data := #[32, 101, 108, 115, 101, 32] }) := (hbz.out.cell (p := ⟨W1.heap.size, 2, none⟩) (by simp)).trans (by simp [go_sem])
    have HROW2 := Lib.hid hrow
    clear hrow hbA HA HA2
    go_wp2_with fail
    go_loopw [3, 6] (fun acc j wr => ∃ m : Nat, m ≤ 3 ∧ j = .int .i64 m ∧ acc = .string (ifT (txts (l.take m))) ∧ Hid (Below wx.heap.size wx wr)) (fun _ j _ => 3 - (intOf j).toNat)
    case atStart => exact ⟨0, by omega, rfl, rfl, Lib.hid (Below.refl _ _)⟩
    case round =>
      obtain ⟨m, hm, rfl, rfl, hbw⟩ := hrel
      have hz := HZ.out m
      by_cases hm0 : m = 0
      · subst hm0
        have hz2 := HZ.out 1
        by_cases hlt : 0 < l.length
        · obtain ⟨g, oo, rfl, hg⟩ := HROW2.out (by omega)
          have hcell : wx.cell? ⟨g, oo, none⟩ = some (.string (T l[0])) := by have q := hg 0 _ (by rw [List.getElem?_map, List.getElem?_eq_getElem hlt]; rfl); rwa [Nat.add_zero] at q
          have hstep : ifT (txts (l.take 1)) = emp ++ (sIf ++ T l[0]) := ifT_step0 hlt
          rw [hstep] at hz2
          have hem : ifT (txts (l.take 0)) = emp := rfl
          rw [hem] at hz ⊢
          have HST : Hid (emp ++ ({ data := #[105, 102, 32] } : ByteArray) ++ T l[0] = ifT (txts (l.take 1))) := Lib.hid (by rw [hstep]; exact if_assoc _ _ _)
          have i0 : ((0 : Nat) : Int) < (l.length : Int) := by omega
          have i1 : (0 : Int) < (l.length : Int) := by omega
          have i2 : (0 : Int) < (l.length : Int) := by omega
          have hze : (emp ++ ({ data := #[105, 102, 32] } : ByteArray)).size ≤ 3298736209920 := by rw [size_append]; show 0 + 3 ≤ _; omega
          have htz : (T l[0]).size ≤ 1099578736640 := HXT.out _ (List.getElem_mem hlt)
          clear hstep hg
          generalize hpre : emp = pre at *
          generalize T l[0] = tx at *
          have HSW : Hid (∀ w, Hid (Below wx.heap.size wx w) → Hid (Below wx.heap.size wx w) ∧ w.cell? ⟨W1.heap.size, 0, none⟩ = some (.string { data := #[105, 102, 32] }) ∧ w.cell? ⟨W1.heap.size, 1, none⟩ = some (.string { data := #[32, 116, 104, 101, 110, 32] }) ∧ w.cell? ⟨W1.heap.size, 2, none⟩ = some (.string { data := #[32, 101, 108, 115, 101, 32] }) ∧ w.cell? ⟨g, oo, none⟩ = some (.string tx)) := Lib.hid fun w hb => ⟨hb,
            (hb.out.cell (p := ⟨W1.heap.size, 0, none⟩) (cell_lt hw0)).trans hw0, (hb.out.cell (p := ⟨W1.heap.size, 1, none⟩) (cell_lt hw1)).trans hw1, (hb.out.cell (p := ⟨W1.heap.size, 2, none⟩) (cell_lt hw2)).trans hw2, (hb.out.cell (p := ⟨g, oo, none⟩) (cell_lt hcell)).trans hcell⟩
          have hsw := (HSW.out wr hbw).2
          go_wp2
          have z00 : ¬ 9223372036854775807 < pre.size + 3 := by omega
          have z01 : ¬ 9223372036854775807 < pre.size + 3 + tx.size := by omega
          first
          | go_region_held3 (fun w => Hid (Below wx.heap.size wx w) ∧ w.cell? ⟨W1.heap.size, 0, none⟩ = some (.string { data := #[105, 102, 32] }) ∧ w.cell? ⟨W1.heap.size, 1, none⟩ = some (.string { data := #[32, 116, 104, 101, 110, 32] }) ∧ w.cell? ⟨W1.heap.size, 2, none⟩ = some (.string { data := #[32, 101, 108, 115, 101, 32] }) ∧ w.cell? ⟨g, oo, none⟩ = some (.string tx)) ((refine HSW.out _ ?_; (first | (first | assumption | exact bl1 (by assumption) | exact bl2 (by assumption) | exact OutV.bel (by (first | assumption | exact OutV.drew' (by assumption) | exact ov1 (by assumption) | exact ov2 (by assumption) | exact ov3 (by assumption) | exact ov4 (by assumption))) | exact bl4 (by assumption)) | (first | assumption | exact bl0 | exact bl5 | exact bl1 (by assumption) | exact bl2 (by assumption) | exact bl3 (by assumption))))) (fail)
          | fail
          all_goals go_wp2
          all_goals go_round
          all_goals first
            | (case rel => exact ⟨1, by omega, rfl, congrArg Value.string HST.out, (‹Hid (Below _ _ _) ∧ _›).1⟩)
            | (case measure => simp [intOf]; done)
        · have HST : Hid (ifT (txts (l.take 0)) = ifT (txts l)) := Lib.hid (by rw [List.take_of_length_le (by omega)])
          have i0 : ¬ ((0 : Nat) : Int) < (l.length : Int) := by omega
          have i1 : ¬ (0 : Int) < (l.length : Int) := by omega
          have i2 : (l.length : Int) ≤ (0 : Int) := by omega
          generalize ifT (txts (l.take 0)) = pre at *
          go_wp2
          go_ret
          exact ⟨congrArg (fun x => Ending.returned (Value.string x)) (by rw [HD.out, ← HST.out]), HBK.out _ (Lib.hid (hbx.out.trans (hbw.out.mono hbx.out.size)))⟩
      by_cases hm1 : m = 1
      · subst hm1
        have hz2 := HZ.out 2
        by_cases hlt : 1 < l.length
        · obtain ⟨g, oo, rfl, hg⟩ := HROW2.out (by omega)
          have hcell : wx.cell? ⟨g, oo + 1, none⟩ = some (.string (T l[1])) := by have q := hg 1 _ (by rw [List.getElem?_map, List.getElem?_eq_getElem hlt]; rfl); exact q
          have hstep : ifT (txts (l.take 2)) = ifT (txts (l.take 1)) ++ (sThen ++ T l[1]) := ifT_step1 hlt
          rw [hstep] at hz2
          skip
          skip
          have HST : Hid (ifT (txts (l.take 1)) ++ ({ data := #[32, 116, 104, 101, 110, 32] } : ByteArray) ++ T l[1] = ifT (txts (l.take 2))) := Lib.hid (by rw [hstep]; exact if_assoc _ _ _)
          have i0 : ((1 : Nat) : Int) < (l.length : Int) := by omega
          have i1 : (1 : Int) < (l.length : Int) := by omega
          skip
          have hze : (ifT (txts (l.take 1)) ++ ({ data := #[32, 116, 104, 101, 110, 32] } : ByteArray)).size ≤ 3298736209920 := by rw [size_append]; show _ + 6 ≤ _; omega
          have htz : (T l[1]).size ≤ 1099578736640 := HXT.out _ (List.getElem_mem hlt)
          clear hstep hg
          generalize hpre : ifT (txts (l.take 1)) = pre at *
          generalize T l[1] = tx at *
          have HSW : Hid (∀ w, Hid (Below wx.heap.size wx w) → Hid (Below wx.heap.size wx w) ∧ w.cell? ⟨W1.heap.size, 0, none⟩ = some (.string { data := #[105, 102, 32] }) ∧ w.cell? ⟨W1.heap.size, 1, none⟩ = some (.string { data := #[32, 116, 104, 101, 110, 32] }) ∧ w.cell? ⟨W1.heap.size, 2, none⟩ = some (.string { data := #[32, 101, 108, 115, 101, 32] }) ∧ w.cell? ⟨g, oo + 1, none⟩ = some (.string tx)) := Lib.hid fun w hb => ⟨hb,
            (hb.out.cell (p := ⟨W1.heap.size, 0, none⟩) (cell_lt hw0)).trans hw0, (hb.out.cell (p := ⟨W1.heap.size, 1, none⟩) (cell_lt hw1)).trans hw1, (hb.out.cell (p := ⟨W1.heap.size, 2, none⟩) (cell_lt hw2)).trans hw2, (hb.out.cell (p := ⟨g, oo + 1, none⟩) (cell_lt hcell)).trans hcell⟩
          have hsw := (HSW.out wr hbw).2
          go_wp2
          have z00 : ¬ 9223372036854775807 < pre.size + 6 := by omega
          have z01 : ¬ 9223372036854775807 < pre.size + 6 + tx.size := by omega
          first
          | go_region_held3 (fun w => Hid (Below wx.heap.size wx w) ∧ w.cell? ⟨W1.heap.size, 0, none⟩ = some (.string { data := #[105, 102, 32] }) ∧ w.cell? ⟨W1.heap.size, 1, none⟩ = some (.string { data := #[32, 116, 104, 101, 110, 32] }) ∧ w.cell? ⟨W1.heap.size, 2, none⟩ = some (.string { data := #[32, 101, 108, 115, 101, 32] }) ∧ w.cell? ⟨g, oo + 1, none⟩ = some (.string tx)) ((refine HSW.out _ ?_; (first | (first | assumption | exact bl1 (by assumption) | exact bl2 (by assumption) | exact OutV.bel (by (first | assumption | exact OutV.drew' (by assumption) | exact ov1 (by assumption) | exact ov2 (by assumption) | exact ov3 (by assumption) | exact ov4 (by assumption))) | exact bl4 (by assumption)) | (first | assumption | exact bl0 | exact bl5 | exact bl1 (by assumption) | exact bl2 (by assumption) | exact bl3 (by assumption))))) (fail)
          | fail
          all_goals go_wp2
          all_goals go_round
          all_goals first
            | (case rel => exact ⟨2, by omega, rfl, congrArg Value.string HST.out, (‹Hid (Below _ _ _) ∧ _›).1⟩)
            | (case measure => simp [intOf]; done)
        · have HST : Hid (ifT (txts (l.take 1)) = ifT (txts l)) := Lib.hid (by rw [List.take_of_length_le (by omega)])
          have i0 : ¬ ((1 : Nat) : Int) < (l.length : Int) := by omega
          have i1 : ¬ (1 : Int) < (l.length : Int) := by omega
          have i2 : (l.length : Int) ≤ (1 : Int) := by omega
          generalize ifT (txts (l.take 1)) = pre at *
          go_wp2
          go_ret
          exact ⟨congrArg (fun x => Ending.returned (Value.string x)) (by rw [HD.out, ← HST.out]), HBK.out _ (Lib.hid (hbx.out.trans (hbw.out.mono hbx.out.size)))⟩
      by_cases hm2 : m = 2
      · subst hm2
        have hz2 := HZ.out 3
        by_cases hlt : 2 < l.length
        · obtain ⟨g, oo, rfl, hg⟩ := HROW2.out (by omega)
          have hcell : wx.cell? ⟨g, oo + 2, none⟩ = some (.string (T l[2])) := by have q := hg 2 _ (by rw [List.getElem?_map, List.getElem?_eq_getElem hlt]; rfl); exact q
          have hstep : ifT (txts (l.take 3)) = ifT (txts (l.take 2)) ++ (sElse ++ T l[2]) := ifT_step2 hlt
          rw [hstep] at hz2
          skip
          skip
          have HST : Hid (ifT (txts (l.take 2)) ++ ({ data := #[32, 101, 108, 115, 101, 32] } : ByteArray) ++ T l[2] = ifT (txts (l.take 3))) := Lib.hid (by rw [hstep]; exact if_assoc _ _ _)
          have i0 : ((2 : Nat) : Int) < (l.length : Int) := by omega
          have i1 : (2 : Int) < (l.length : Int) := by omega
          skip
          have hze : (ifT (txts (l.take 2)) ++ ({ data := #[32, 101, 108, 115, 101, 32] } : ByteArray)).size ≤ 3298736209920 := by rw [size_append]; show _ + 6 ≤ _; omega
          have htz : (T l[2]).size ≤ 1099578736640 := HXT.out _ (List.getElem_mem hlt)
          clear hstep hg
          generalize hpre : ifT (txts (l.take 2)) = pre at *
          generalize T l[2] = tx at *
          have HSW : Hid (∀ w, Hid (Below wx.heap.size wx w) → Hid (Below wx.heap.size wx w) ∧ w.cell? ⟨W1.heap.size, 0, none⟩ = some (.string { data := #[105, 102, 32] }) ∧ w.cell? ⟨W1.heap.size, 1, none⟩ = some (.string { data := #[32, 116, 104, 101, 110, 32] }) ∧ w.cell? ⟨W1.heap.size, 2, none⟩ = some (.string { data := #[32, 101, 108, 115, 101, 32] }) ∧ w.cell? ⟨g, oo + 2, none⟩ = some (.string tx)) := Lib.hid fun w hb => ⟨hb,
            (hb.out.cell (p := ⟨W1.heap.size, 0, none⟩) (cell_lt hw0)).trans hw0, (hb.out.cell (p := ⟨W1.heap.size, 1, none⟩) (cell_lt hw1)).trans hw1, (hb.out.cell (p := ⟨W1.heap.size, 2, none⟩) (cell_lt hw2)).trans hw2, (hb.out.cell (p := ⟨g, oo + 2, none⟩) (cell_lt hcell)).trans hcell⟩
          have hsw := (HSW.out wr hbw).2
          go_wp2
          have z00 : ¬ 9223372036854775807 < pre.size + 6 := by omega
          have z01 : ¬ 9223372036854775807 < pre.size + 6 + tx.size := by omega
          first
          | go_region_held3 (fun w => Hid (Below wx.heap.size wx w) ∧ w.cell? ⟨W1.heap.size, 0, none⟩ = some (.string { data := #[105, 102, 32] }) ∧ w.cell? ⟨W1.heap.size, 1, none⟩ = some (.string { data := #[32, 116, 104, 101, 110, 32] }) ∧ w.cell? ⟨W1.heap.size, 2, none⟩ = some (.string { data := #[32, 101, 108, 115, 101, 32] }) ∧ w.cell? ⟨g, oo + 2, none⟩ = some (.string tx)) ((refine HSW.out _ ?_; (first | (first | assumption | exact bl1 (by assumption) | exact bl2 (by assumption) | exact OutV.bel (by (first | assumption | exact OutV.drew' (by assumption) | exact ov1 (by assumption) | exact ov2 (by assumption) | exact ov3 (by assumption) | exact ov4 (by assumption))) | exact bl4 (by assumption)) | (first | assumption | exact bl0 | exact bl5 | exact bl1 (by assumption) | exact bl2 (by assumption) | exact bl3 (by assumption))))) (fail)
          | fail
          all_goals go_wp2
          all_goals go_round
          all_goals first
            | (case rel => exact ⟨3, by omega, rfl, congrArg Value.string HST.out, (‹Hid (Below _ _ _) ∧ _›).1⟩)
            | (case measure => simp [intOf]; done)
        · have HST : Hid (ifT (txts (l.take 2)) = ifT (txts l)) := Lib.hid (by rw [List.take_of_length_le (by omega)])
          have i0 : ¬ ((2 : Nat) : Int) < (l.length : Int) := by omega
          have i1 : ¬ (2 : Int) < (l.length : Int) := by omega
          have i2 : (l.length : Int) ≤ (2 : Int) := by omega
          generalize ifT (txts (l.take 2)) = pre at *
          go_wp2
          go_ret
          exact ⟨congrArg (fun x => Ending.returned (Value.string x)) (by rw [HD.out, ← HST.out]), HBK.out _ (Lib.hid (hbx.out.trans (hbw.out.mono hbx.out.size)))⟩
      · obtain rfl : m = 3 := by omega
        have HST := Lib.hid (ifT_take3 l)
        generalize ifT (txts (l.take 3)) = pre at *
        by_cases hlt : 3 < l.length
        · have i1 : (3 : Int) < (l.length : Int) := by omega
          go_wp2
          go_ret
          exact ⟨congrArg (fun x => Ending.returned (Value.string x)) (by rw [HD.out, ← HST.out]), HBK.out _ (Lib.hid (hbx.out.trans (hbw.out.mono hbx.out.size)))⟩
        · have i1 : ¬ (3 : Int) < (l.length : Int) := by omega
          have i2 : (l.length : Int) ≤ (3 : Int) := by omega
          go_wp2
          go_ret
          exact ⟨congrArg (fun x => Ending.returned (Value.string x)) (by rw [HD.out, ← HST.out]), HBK.out _ (Lib.hid (hbx.out.trans (hbw.out.mono hbx.out.size)))⟩
  have e9 : (k == 9) = false := by simpa using h9
  by_cases h10 : k = 10
  · subst h10
    have HD : Hid (expText 10 name num text l lr ld = sLet ++ joinB (ld.map semiD) emp ++ sIn ++ joinB (l.map T) sBlank ++ sEnd) := Lib.hid rfl
    generalize expText 10 name num text l lr ld = tt at *
    have HPZ : Hid (∀ m, (joinB ((ld.map semiD).take m) emp).size ≤ 1099578736640) := Lib.hid fun m => by
      rw [← List.map_take]
      refine joinM (fun x hx => HRD.out.fits x (List.mem_of_mem_take hx)) ?_ fun x _ => ?_
      · have : wsum ld = wsum (ld.take m) + wsum (ld.drop m) := by
          unfold wsum
          rw [← List.sum_append, ← List.map_append, List.take_append_drop]
        omega
      · show (x.t ++ sSemi).size + 0 ≤ _
        rw [size_append]
        show _ + 2 + 0 ≤ _
        omega
    clear HN HQ HG HR HJC HJS HJG HA2 hts
    go_enter Tryz.func20, Tryz.ntmps20
    go_wp2
    try rw [hW1]
    go_loopw [7, 8] (fun out j wr => ∃ m : Nat, m ≤ ld.length ∧ j = .int .i64 m ∧ out = .string (({ data := #[108, 101, 116, 32] } : ByteArray) ++ joinB ((ld.map semiD).take m) emp) ∧ Hid (Below W1.heap.size W1 wr)) (fun _ j _ => ld.length - (intOf j).toNat)
    case atStart => exact ⟨0, Nat.zero_le _, rfl, by rw [List.take_zero]; exact congrArg Value.string (append_emp _).symm, Lib.hid (Below.refl _ _)⟩
    case round =>
      obtain ⟨m, hk, rfl, rfl, hO⟩ := hrel
      have hSr := (HS.out wr hO).2
      by_cases hlt : m < ld.length
      · obtain ⟨b, o, rfl, hr⟩ := HRD.out.cells (by omega)
        have hc := hr m hlt
        obtain ⟨v0, v1, a2, n2, c2, a3, n3, c3, a4', n4, c4', v5, v6, v7, a8, n8, c8, v9, v10, v11, v12, a13, n13, c13, a14, n14, c14, a15, n15, c15, hvk⟩ := (HRD.out.kid _ _ (List.getElem?_eq_getElem hlt)).dec_vals
        have hT := HDC.out m hlt
        rw [hvk] at hc hT
        have HT1 := Lib.hid hT
        have hx := HXDT.out _ (List.getElem_mem hlt)
        have hcW := hc.below (HBW.out.trans (hO.out.mono HBW.out.size))
        have k0 : wr.cell? ⟨b, o + m * 16, none⟩ = some (.int .u8 v0) := hcW 0 _ rfl
        have k1 : wr.cell? ⟨b, o + m * 16 + 1, none⟩ = some (.string v1) := hcW 1 _ rfl
        have k2 : wr.cell? ⟨b, o + m * 16 + 2, none⟩ = some (.slice a2 n2 c2) := hcW 2 _ rfl
        have k3 : wr.cell? ⟨b, o + m * 16 + 3, none⟩ = some (.slice a3 n3 c3) := hcW 3 _ rfl
        have k4 : wr.cell? ⟨b, o + m * 16 + 4, none⟩ = some (.slice a4' n4 c4') := hcW 4 _ rfl
        have k5 : wr.cell? ⟨b, o + m * 16 + 5, none⟩ = some (.int .u8 v5) := hcW 5 _ rfl
        have k6 : wr.cell? ⟨b, o + m * 16 + 6, none⟩ = some (.string v6) := hcW 6 _ rfl
        have k7 : wr.cell? ⟨b, o + m * 16 + 7, none⟩ = some (.int .i64 v7) := hcW 7 _ rfl
        have k8 : wr.cell? ⟨b, o + m * 16 + 8, none⟩ = some (.slice a8 n8 c8) := hcW 8 _ rfl
        have k9 : wr.cell? ⟨b, o + m * 16 + 9, none⟩ = some (.int .u8 v9) := hcW 9 _ rfl
        have k10 : wr.cell? ⟨b, o + m * 16 + 10, none⟩ = some (.string v10) := hcW 10 _ rfl
        have k11 : wr.cell? ⟨b, o + m * 16 + 11, none⟩ = some (.int .i64 v11) := hcW 11 _ rfl
        have k12 : wr.cell? ⟨b, o + m * 16 + 12, none⟩ = some (.string v12) := hcW 12 _ rfl
        have k13 : wr.cell? ⟨b, o + m * 16 + 13, none⟩ = some (.slice a13 n13 c13) := hcW 13 _ rfl
        have k14 : wr.cell? ⟨b, o + m * 16 + 14, none⟩ = some (.slice a14 n14 c14) := hcW 14 _ rfl
        have k15 : wr.cell? ⟨b, o + m * 16 + 15, none⟩ = some (.slice a15 n15 c15) := hcW 15 _ rfl
        have hstep : joinB ((ld.map semiD).take (m + 1)) emp = joinB ((ld.map semiD).take m) emp ++ semiD ld[m] := joinE_step (by rw [List.getElem?_map, List.getElem?_eq_getElem hlt]; rfl)
        have hz0 := HPZ.out m
        have HST : Hid (({ data := #[108, 101, 116, 32] } : ByteArray) ++ joinB ((ld.map semiD).take m) emp ++ T ld[m] ++ ({ data := #[59, 32] } : ByteArray) = ({ data := #[108, 101, 116, 32] } : ByteArray) ++ joinB ((ld.map semiD).take (m + 1)) emp) := Lib.hid (by rw [hstep]; apply bytes_of; unfold semiD; simp only [append_list, List.append_assoc]; rfl)
        have hacc : (({ data := #[108, 101, 116, 32] } : ByteArray) ++ joinB ((ld.map semiD).take m) emp).size ≤ 1099578736644 := by rw [size_append]; show 4 + _ ≤ _; omega
        have hacc2 : (({ data := #[108, 101, 116, 32] } : ByteArray) ++ joinB ((ld.map semiD).take m) emp ++ T ld[m]).size ≤ 3298736209920 := by rw [size_append]; omega
        have i1 : (m : Int) < (ld.length : Int) := by omega
        clear hc hT hvk hr hstep hcW
        generalize joinB ((ld.map semiD).take m) emp = acc at *
        generalize T ld[m] = tx at *
        go_wp2_with fail
        refine (HT1.out _ hO).mono ?_
        rintro e w2 ⟨rfl, hb1⟩
        have hS2' := (HS.out w2 hb1).2
        go_wp2
        go_round
        case rel => exact ⟨m + 1, by omega, by simp, congrArg Value.string HST.out, hb1⟩
        case measure => simp [intOf]; omega
      · obtain rfl : m = ld.length := by omega
        have HST := Lib.hid (List.take_of_length_le (l := ld.map semiD) (i := ld.length) (by simp))
        have hz0 := HPZ.out ld.length
        rw [HST.out] at hz0 ⊢
        have hacc : (({ data := #[108, 101, 116, 32] } : ByteArray) ++ joinB (ld.map semiD) emp).size ≤ 1099578736644 := by rw [size_append]; show 4 + _ ≤ _; omega
        have hacc2 : (({ data := #[108, 101, 116, 32] } : ByteArray) ++ joinB (ld.map semiD) emp ++ ({ data := #[105, 110, 32] } : ByteArray)).size ≤ 1099578736647 := by rw [size_append]; show _ + 3 ≤ _; omega
        have hacc3 : (({ data := #[108, 101, 116, 32] } : ByteArray) ++ joinB (ld.map semiD) emp ++ ({ data := #[105, 110, 32] } : ByteArray) ++ joinB (l.map T) sBlank).size ≤ 3298736209920 := by rw [size_append]; omega
        have i1 : ¬ (ld.length : Int) < (ld.length : Int) := by omega
        generalize joinB (ld.map semiD) emp = acc at *
        go_wp2_with fail
        refine (HA.out _ hO).mono ?_
        rintro e w0 ⟨out, rfl, hr0, hb0⟩
        have hS0 := (HS.out _ hb0).2
        have HJX := HJB.out w0 out hr0 hb0
        have HJY := Lib.hid HJX
        clear HJX
        generalize joinB (l.map T) sBlank = jt at *
        go_wp2_with fail
        refine HJY.out.mono ?_
        rintro e w1 ⟨rfl, hb1⟩
        have hS1' := (HS.out _ hb1).2
        go_wp2
        go_ret
        exact ⟨congrArg (fun x => Ending.returned (Value.string x)) HD.out.symm, HBK.out _ hb1⟩
  have e10 : (k == 10) = false := by simpa using h10
  by_cases h11 : k = 11
  · subst h11
    have HD : Hid (expText 11 name num text l lr ld = sCase ++ joinB (l.map T) sBlank ++ sOf ++ joinB (lr.map T) sBar) := Lib.hid rfl
    generalize expText 11 name num text l lr ld = tt at *
    generalize joinB (lr.map T) sBar = j2 at *
    generalize joinB (l.map T) sBlank = jj at *
    go_enter Tryz.func20, Tryz.ntmps20
    go_wp2
    try rw [hW1]
    have z00 : ¬ 9223372036854775807 < 5 + jj.size := by omega
    have z01 : ¬ 9223372036854775807 < 5 + jj.size + 4 := by omega
    have z02 : ¬ 9223372036854775807 < 5 + jj.size + 4 + j2.size := by omega
    first
    | go_region_held3 (fun w => Hid (Below W1.heap.size W1 w) ∧ w.cell? ⟨W.heap.size, 0, none⟩ = some (.int .u8 11) ∧ w.cell? ⟨W.heap.size, 1, none⟩ = some (.string name) ∧ w.cell? ⟨W.heap.size, 2, none⟩ = some (.int .i64 num) ∧ w.cell? ⟨W.heap.size, 3, none⟩ = some (.string text) ∧ w.cell? ⟨W.heap.size, 4, none⟩ = some (.slice a4 l.length c4) ∧ w.cell? ⟨W.heap.size, 5, none⟩ = some (.slice a5 lr.length c5) ∧ w.cell? ⟨W.heap.size, 6, none⟩ = some (.slice a6 ld.length c6)) ((refine HS.out _ ?_; (first | (first | assumption | exact bl1 (by assumption) | exact bl2 (by assumption) | exact OutV.bel (by (first | assumption | exact OutV.drew' (by assumption) | exact ov1 (by assumption) | exact ov2 (by assumption) | exact ov3 (by assumption) | exact ov4 (by assumption))) | exact bl4 (by assumption)) | (first | assumption | exact bl0 | exact bl5 | exact bl1 (by assumption) | exact bl2 (by assumption) | exact bl3 (by assumption)))))
      (first
      | (go_at_call 41; refine (HA.out _ ?_).mono ?_; (first | (first | assumption | exact bl1 (by assumption) | exact bl2 (by assumption) | exact OutV.bel (by (first | assumption | exact OutV.drew' (by assumption) | exact ov1 (by assumption) | exact ov2 (by assumption) | exact ov3 (by assumption) | exact ov4 (by assumption))) | exact bl4 (by assumption)) | (first | assumption | exact bl0 | exact bl5 | exact bl1 (by assumption) | exact bl2 (by assumption) | exact bl3 (by assumption))); rintro e' w' ⟨out, rfl, hr0, hb⟩)
      | (go_at_call 18; refine (HJB.out _ _ ?_ ?_).mono ?_; assumption; (first | (first | assumption | exact bl1 (by assumption) | exact bl2 (by assumption) | exact OutV.bel (by (first | assumption | exact OutV.drew' (by assumption) | exact ov1 (by assumption) | exact ov2 (by assumption) | exact ov3 (by assumption) | exact ov4 (by assumption))) | exact bl4 (by assumption)) | (first | assumption | exact bl0 | exact bl5 | exact bl1 (by assumption) | exact bl2 (by assumption) | exact bl3 (by assumption))); rintro e' w' ⟨rfl, hb⟩)
      | (go_at_call 43; refine (HR.out _ ?_).mono ?_; (first | (first | assumption | exact bl1 (by assumption) | exact bl2 (by assumption) | exact OutV.bel (by (first | assumption | exact OutV.drew' (by assumption) | exact ov1 (by assumption) | exact ov2 (by assumption) | exact ov3 (by assumption) | exact ov4 (by assumption))) | exact bl4 (by assumption)) | (first | assumption | exact bl0 | exact bl5 | exact bl1 (by assumption) | exact bl2 (by assumption) | exact bl3 (by assumption))); rintro e' w' ⟨rfl, hb⟩))
    | fail
    all_goals go_wp2
    all_goals go_ret
    all_goals exact ⟨congrArg (fun x => Ending.returned (Value.string x)) HD.out.symm, HBK.out _ (‹Hid (Below _ _ _) ∧ _›).1⟩
  have e11 : (k == 11) = false := by simpa using h11
  by_cases h12 : k = 12
  · subst h12
    have HD : Hid (expText 12 name num text l lr ld = joinB (l.map tightD) sBlank ++ sHandle ++ joinB (lr.map T) sBar) := Lib.hid rfl
    generalize expText 12 name num text l lr ld = tt at *
    generalize joinB (lr.map T) sBar = j2 at *
    generalize joinB (l.map tightD) sBlank = jj at *
    go_enter Tryz.func20, Tryz.ntmps20
    go_wp2
    try rw [hW1]
    have z00 : ¬ 9223372036854775807 < jj.size + 8 := by omega
    have z01 : ¬ 9223372036854775807 < jj.size + 8 + j2.size := by omega
    first
    | go_region_held3 (fun w => Hid (Below W1.heap.size W1 w) ∧ w.cell? ⟨W.heap.size, 0, none⟩ = some (.int .u8 12) ∧ w.cell? ⟨W.heap.size, 1, none⟩ = some (.string name) ∧ w.cell? ⟨W.heap.size, 2, none⟩ = some (.int .i64 num) ∧ w.cell? ⟨W.heap.size, 3, none⟩ = some (.string text) ∧ w.cell? ⟨W.heap.size, 4, none⟩ = some (.slice a4 l.length c4) ∧ w.cell? ⟨W.heap.size, 5, none⟩ = some (.slice a5 lr.length c5) ∧ w.cell? ⟨W.heap.size, 6, none⟩ = some (.slice a6 ld.length c6)) ((refine HS.out _ ?_; (first | (first | assumption | exact bl1 (by assumption) | exact bl2 (by assumption) | exact OutV.bel (by (first | assumption | exact OutV.drew' (by assumption) | exact ov1 (by assumption) | exact ov2 (by assumption) | exact ov3 (by assumption) | exact ov4 (by assumption))) | exact bl4 (by assumption)) | (first | assumption | exact bl0 | exact bl5 | exact bl1 (by assumption) | exact bl2 (by assumption) | exact bl3 (by assumption)))))
      (first
      | (go_at_call 42; refine (HG.out _ ?_).mono ?_; (first | (first | assumption | exact bl1 (by assumption) | exact bl2 (by assumption) | exact OutV.bel (by (first | assumption | exact OutV.drew' (by assumption) | exact ov1 (by assumption) | exact ov2 (by assumption) | exact ov3 (by assumption) | exact ov4 (by assumption))) | exact bl4 (by assumption)) | (first | assumption | exact bl0 | exact bl5 | exact bl1 (by assumption) | exact bl2 (by assumption) | exact bl3 (by assumption))); rintro e' w' ⟨out, rfl, hr0, hb⟩)
      | (go_at_call 18; refine (HJG.out _ _ ?_ ?_).mono ?_; assumption; (first | (first | assumption | exact bl1 (by assumption) | exact bl2 (by assumption) | exact OutV.bel (by (first | assumption | exact OutV.drew' (by assumption) | exact ov1 (by assumption) | exact ov2 (by assumption) | exact ov3 (by assumption) | exact ov4 (by assumption))) | exact bl4 (by assumption)) | (first | assumption | exact bl0 | exact bl5 | exact bl1 (by assumption) | exact bl2 (by assumption) | exact bl3 (by assumption))); rintro e' w' ⟨rfl, hb⟩)
      | (go_at_call 43; refine (HR.out _ ?_).mono ?_; (first | (first | assumption | exact bl1 (by assumption) | exact bl2 (by assumption) | exact OutV.bel (by (first | assumption | exact OutV.drew' (by assumption) | exact ov1 (by assumption) | exact ov2 (by assumption) | exact ov3 (by assumption) | exact ov4 (by assumption))) | exact bl4 (by assumption)) | (first | assumption | exact bl0 | exact bl5 | exact bl1 (by assumption) | exact bl2 (by assumption) | exact bl3 (by assumption))); rintro e' w' ⟨rfl, hb⟩))
    | fail
    all_goals go_wp2
    all_goals go_ret
    all_goals exact ⟨congrArg (fun x => Ending.returned (Value.string x)) HD.out.symm, HBK.out _ (‹Hid (Below _ _ _) ∧ _›).1⟩
  have e12 : (k == 12) = false := by simpa using h12
  by_cases h13 : k = 13
  · subst h13
    have HD : Hid (expText 13 name num text l lr ld = sRaise ++ joinB (l.map T) sBlank) := Lib.hid rfl
    generalize expText 13 name num text l lr ld = tt at *
    go_enter Tryz.func20, Tryz.ntmps20
    go_wp2_with fail
    try rw [hW1]
    refine (HA.out _ ?_).mono ?_
    exact Lib.hid (Below.refl _ _)
    rintro e w0 ⟨out, rfl, hr0, hb0⟩
    have hS0 := (HS.out _ hb0).2
    have HJX := HJB.out w0 out hr0 hb0
    have HJY := Lib.hid HJX
    clear HJX
    generalize joinB (l.map T) sBlank = jt at *
    go_wp2_with fail
    refine HJY.out.mono ?_
    rintro e w1 ⟨rfl, hb1⟩
    have hS1' := (HS.out _ hb1).2
    go_wp2
    go_ret
    exact ⟨congrArg (fun x => Ending.returned (Value.string x)) HD.out.symm, HBK.out _ hb1⟩
  have e13 : (k == 13) = false := by simpa using h13
  by_cases h15 : k = 15
  · subst h15
    by_cases h5 : l.length = 1
    · have hlt : 0 < l.length := by omega
      have hD : expText 15 name num text l lr ld = name ++ tightD l[0] := by
        show (if l.length = 1 then name ++ (l.map tightD).headD emp else _) = _
        rw [if_pos h5, head_map hlt]
      have HD := Lib.hid hD
      have hG1 : Hid (∀ w, Hid (Below W1.heap.size W1 w) → Calls Tryz.prog 42 #[.slice a4 1 c4] w fun e w' => ∃ g o c, e = .returned (.slice (some ⟨g, o, none⟩) 1 c) ∧ w'.cell? ⟨g, o, none⟩ = some (.string (tightD l[0])) ∧ Hid (Below W1.heap.size W1 w')) := Lib.hid fun w hb => by
        have q := HG.out w hb
        rw [h5] at q
        refine q.mono ?_
        rintro e' w' ⟨out, rfl, hs, hb'⟩
        obtain ⟨a, c, rfl, hc⟩ := hs.out
        obtain ⟨g, o, rfl, hg⟩ := hc (by simp; omega)
        refine ⟨g, o, c, by simp [h5], ?_, hb'⟩
        have := hg 0 (tightD l[0]) (by rw [List.getElem?_map, List.getElem?_eq_getElem hlt]; rfl)
        simpa using this
      have hlz : (tightD l[0]).size ≤ 1099578736640 := by
        have h1 := tight_le l[0]
        have h2 := mem_fit HFIT.out (List.getElem_mem hlt)
        have h3 := F_leM (n := wsum l) (by omega)
        omega
      have HS2 : Hid (∀ w, Hid (Below W1.heap.size W1 w) → Hid (Below W1.heap.size W1 w) ∧ w.cell? ⟨W.heap.size, 0, none⟩ = some (.int .u8 15) ∧ w.cell? ⟨W.heap.size, 1, none⟩ = some (.string name) ∧ w.cell? ⟨W.heap.size, 2, none⟩ = some (.int .i64 num) ∧ w.cell? ⟨W.heap.size, 3, none⟩ = some (.string text) ∧ w.cell? ⟨W.heap.size, 4, none⟩ = some (.slice a4 1 c4) ∧ w.cell? ⟨W.heap.size, 5, none⟩ = some (.slice a5 lr.length c5) ∧ w.cell? ⟨W.heap.size, 6, none⟩ = some (.slice a6 ld.length c6)) := Lib.hid fun w hb => by
        have q := HS.out w hb
        rw [h5] at q
        exact q
      have hS1b := (HS2.out W1 (Lib.hid (Below.refl _ _))).2
      clear hD HS HN HQ HG HR HJB HJC HJS HJG HA HA2 HRD HXDT HDC HFIT HXT hS1 hts hjg hjr hjb hjc hjs
      generalize expText 15 name num text l lr ld = tt at *
      generalize tightD l[0] = tl at *
      rw [h5] at hW1 hll2 ⊢
      go_enter Tryz.func20, Tryz.ntmps20
      go_wp2
      try rw [hW1]
      have z00 : ¬ 9223372036854775807 < name.size + tl.size := by omega
      refine wp_region_held_drew (S := (fun w => Hid (Below W1.heap.size W1 w) ∧ w.cell? ⟨W.heap.size, 0, none⟩ = some (.int .u8 15) ∧ w.cell? ⟨W.heap.size, 1, none⟩ = some (.string name) ∧ w.cell? ⟨W.heap.size, 2, none⟩ = some (.int .i64 num) ∧ w.cell? ⟨W.heap.size, 3, none⟩ = some (.string text) ∧ w.cell? ⟨W.heap.size, 4, none⟩ = some (.slice a4 1 c4) ∧ w.cell? ⟨W.heap.size, 5, none⟩ = some (.slice a5 lr.length c5) ∧ w.cell? ⟨W.heap.size, 6, none⟩ = some (.slice a6 ld.length c6))) (by kernel_rfl) ?_ (fun hHeld => ?_)
      · refine HS2.out _ ?_; (first | (first | assumption | exact bl1 (by assumption) | exact bl2 (by assumption) | exact OutV.bel (by (first | assumption | exact OutV.drew' (by assumption) | exact ov1 (by assumption) | exact ov2 (by assumption) | exact ov3 (by assumption) | exact ov4 (by assumption))) | exact bl4 (by assumption)) | (first | assumption | exact bl0 | exact bl5 | exact bl1 (by assumption) | exact bl2 (by assumption) | exact bl3 (by assumption)))
      refine wpAnyH_take (i := 0) (oi := { dst := some 151, op := .fieldAddr 34 (.tmp 1) 1, type := _, pos := _, after := _, guard := none }) (v := ?vq1) rfl (by kernel_rfl) (by kernel_rfl) (by kernel_rfl) (fun _ _ _ h => h) (Or.inl ⟨by rfl, ?hyq1⟩) (by assumption) ?restq1
      case hyq1 => (intro w hSw; (try dsimp only at hSw); go_simp; try with_reducible rfl)
      try simp only [Act.put, List.setIfInBounds_toArray, List.set_cons_zero, List.set_cons_succ]
      refine wpAnyH_take (i := 1) (oi := { dst := some 152, op := .load 9 (.tmp 151), type := _, pos := _, after := _, guard := none }) (v := ?vq2) rfl (by kernel_rfl) (by kernel_rfl) (by kernel_rfl) (fun _ _ _ h => h) (Or.inl ⟨by rfl, ?hyq2⟩) (by assumption) ?restq2
      case hyq2 => (intro w hSw; (try dsimp only at hSw); go_simp; try with_reducible rfl)
      try simp only [Act.put, List.setIfInBounds_toArray, List.set_cons_zero, List.set_cons_succ]
      refine wpAnyH_take (i := 2) (oi := { dst := some 153, op := .fieldAddr 34 (.tmp 1) 4, type := _, pos := _, after := _, guard := none }) (v := ?vq3) rfl (by kernel_rfl) (by kernel_rfl) (by kernel_rfl) (fun _ _ _ h => h) (Or.inl ⟨by rfl, ?hyq3⟩) (by assumption) ?restq3
      case hyq3 => (intro w hSw; (try dsimp only at hSw); go_simp; try with_reducible rfl)
      try simp only [Act.put, List.setIfInBounds_toArray, List.set_cons_zero, List.set_cons_succ]
      refine wpAnyH_take (i := 3) (oi := { dst := some 154, op := .load 31 (.tmp 153), type := _, pos := _, after := _, guard := none }) (v := ?vq4) rfl (by kernel_rfl) (by kernel_rfl) (by kernel_rfl) (fun _ _ _ h => h) (Or.inl ⟨by rfl, ?hyq4⟩) (by assumption) ?restq4
      case hyq4 => (intro w hSw; (try dsimp only at hSw); go_simp; try with_reducible rfl)
      try simp only [Act.put, List.setIfInBounds_toArray, List.set_cons_zero, List.set_cons_succ]
      refine wpAnyH_ready (rs := [4]) (by kernel_rfl) (by simp) ?_
      refine AllReadyH.cons (o := { dst := some 155, op := .call { callee := .value (.func 42), args := #[.tmp 154], argTypes := #[31] }, type := _, pos := _, after := _, guard := none }) rfl (fun K hK => ?_) AllReadyH.nil
      go_simp
      go_at_call 42
      refine (hG1.out _ ?_).mono ?_
      · (first | (first | assumption | exact bl1 (by assumption) | exact bl2 (by assumption) | exact OutV.bel (by (first | assumption | exact OutV.drew' (by assumption) | exact ov1 (by assumption) | exact ov2 (by assumption) | exact ov3 (by assumption) | exact ov4 (by assumption))) | exact bl4 (by assumption)) | (first | assumption | exact bl0 | exact bl5 | exact bl1 (by assumption) | exact bl2 (by assumption) | exact bl3 (by assumption)))
      rintro e w' ⟨g, o, c, rfl, hgc, hb⟩
      refine hK.out _ _ ?_ (fun hHeld => ?_)
      · refine HS2.out _ ?_; (first | (first | assumption | exact bl1 (by assumption) | exact bl2 (by assumption) | exact OutV.bel (by (first | assumption | exact OutV.drew' (by assumption) | exact ov1 (by assumption) | exact ov2 (by assumption) | exact ov3 (by assumption) | exact ov4 (by assumption))) | exact bl4 (by assumption)) | (first | assumption | exact bl0 | exact bl5 | exact bl1 (by assumption) | exact bl2 (by assumption) | exact bl3 (by assumption)))
      clear hK K
      try simp only [Act.put, List.setIfInBounds_toArray, List.set_cons_zero, List.set_cons_succ]
      refine wpAnyH_take (i := 5) (oi := { dst := some 156, op := .indexAddr 25 (.tmp 155) (.const (.int .i64 0)), type := _, pos := _, after := _, guard := none }) (v := ?vq5) rfl (by kernel_rfl) (by kernel_rfl) (by kernel_rfl) (fun _ _ _ h => h) (Or.inl ⟨by rfl, ?hyq5⟩) (by assumption) ?restq5
      case hyq5 => (intro w hSw; (try dsimp only at hSw); go_simp; try with_reducible rfl)
      try simp only [Act.put, List.setIfInBounds_toArray, List.set_cons_zero, List.set_cons_succ]
      refine wpAnyH_ready (rs := [6]) (by kernel_rfl) (by simp) ?_
      refine AllReadyH.cons (o := { dst := some 157, op := .load 9 (.tmp 156), type := _, pos := _, after := _, guard := none }) rfl (fun K hK => ?_) AllReadyH.nil
      go_simp
      refine hK.out _ _ ?_ (fun hHeld => ?_)
      · refine HS2.out _ ?_; (first | (first | assumption | exact bl1 (by assumption) | exact bl2 (by assumption) | exact OutV.bel (by (first | assumption | exact OutV.drew' (by assumption) | exact ov1 (by assumption) | exact ov2 (by assumption) | exact ov3 (by assumption) | exact ov4 (by assumption))) | exact bl4 (by assumption)) | (first | assumption | exact bl0 | exact bl5 | exact bl1 (by assumption) | exact bl2 (by assumption) | exact bl3 (by assumption)))
      clear hK K
      try simp only [Act.put, List.setIfInBounds_toArray, List.set_cons_zero, List.set_cons_succ]
      refine wpAnyH_take (i := 7) (oi := { dst := some 158, op := .binOp .add 9 (.tmp 152) (.tmp 157) 9, type := _, pos := _, after := _, guard := none }) (v := ?vq6) rfl (by kernel_rfl) (by kernel_rfl) (by kernel_rfl) (fun _ _ _ h => h) (Or.inl ⟨by rfl, ?hyq6⟩) (by assumption) ?restq6
      case hyq6 => (intro w hSw; (try dsimp only at hSw); go_simp; try with_reducible rfl)
      try simp only [Act.put, List.setIfInBounds_toArray, List.set_cons_zero, List.set_cons_succ]
      refine wpAnyH_take (i := 8) (oi := { dst := some 2, op := .assign (.tmp 158), type := _, pos := _, after := _, guard := none }) (v := ?vq7) rfl (by kernel_rfl) (by kernel_rfl) (by kernel_rfl) (fun _ _ _ h => h) (Or.inl ⟨by rfl, ?hyq7⟩) (by assumption) ?restq7
      case hyq7 => (intro w hSw; (try dsimp only at hSw); go_simp; try with_reducible rfl)
      try simp only [Act.put, List.setIfInBounds_toArray, List.set_cons_zero, List.set_cons_succ]
      refine wpAnyH_done (by kernel_rfl) ?_ _
      all_goals go_wp2
      all_goals go_ret
      all_goals exact ⟨congrArg (fun x => Ending.returned (Value.string x)) HD.out.symm, HBK.out _ (‹Hid (Below _ _ _) ∧ _›).1⟩
    · have hD : expText 15 name num text l lr ld = joinB (l.map tightD) (sBlank ++ name ++ sBlank) := by
        show (if l.length = 1 then name ++ (l.map tightD).headD emp else _) = _
        rw [if_neg h5]
      have HJN : Hid (∀ w out, Hid (StrRow w out (l.map tightD)) → Hid (Below W1.heap.size W1 w) → Calls Tryz.prog 18 #[out, .string (({ data := #[32] } : ByteArray) ++ name ++ ({ data := #[32] } : ByteArray))] w fun e w' => e = .returned (.string (joinB (l.map tightD) (sBlank ++ name ++ sBlank))) ∧ Hid (Below W1.heap.size W1 w')) := Lib.hid fun w out h hb =>
        (rjoin_ok h.out (by simp; omega) (HSUM.out)).mono fun _ _ h => ⟨h.1, h.2 ▸ hb⟩
      have HD := Lib.hid hD
      have n1 : ((l.length : Int) == 1) = false := by simp; omega
      have hs1 : (({ data := #[32] } : ByteArray) ++ name).size ≤ 1048577 := by rw [size_append]; show 1 + _ ≤ _; omega
      clear hD HN HQ HR HJB HJC HJS HJG HA HA2 HRD HXDT HDC HFIT HXT hts hjg hjr hjb hjc hjs
      generalize expText 15 name num text l lr ld = tt at *
      generalize joinB (l.map tightD) (sBlank ++ name ++ sBlank) = jj at *
      go_enter Tryz.func20, Tryz.ntmps20
      go_wp2
      try rw [hW1]
      have z00 : ¬ 9223372036854775807 < 1 + name.size := by omega
      have z01 : ¬ 9223372036854775807 < 1 + name.size + 1 := by omega
      first
      | go_region_held3 (fun w => Hid (Below W1.heap.size W1 w) ∧ w.cell? ⟨W.heap.size, 0, none⟩ = some (.int .u8 15) ∧ w.cell? ⟨W.heap.size, 1, none⟩ = some (.string name) ∧ w.cell? ⟨W.heap.size, 2, none⟩ = some (.int .i64 num) ∧ w.cell? ⟨W.heap.size, 3, none⟩ = some (.string text) ∧ w.cell? ⟨W.heap.size, 4, none⟩ = some (.slice a4 l.length c4) ∧ w.cell? ⟨W.heap.size, 5, none⟩ = some (.slice a5 lr.length c5) ∧ w.cell? ⟨W.heap.size, 6, none⟩ = some (.slice a6 ld.length c6)) ((refine HS.out _ ?_; (first | (first | assumption | exact bl1 (by assumption) | exact bl2 (by assumption) | exact OutV.bel (by (first | assumption | exact OutV.drew' (by assumption) | exact ov1 (by assumption) | exact ov2 (by assumption) | exact ov3 (by assumption) | exact ov4 (by assumption))) | exact bl4 (by assumption)) | (first | assumption | exact bl0 | exact bl5 | exact bl1 (by assumption) | exact bl2 (by assumption) | exact bl3 (by assumption)))))
        (first
        | (go_at_call 42; refine (HG.out _ ?_).mono ?_; (first | (first | assumption | exact bl1 (by assumption) | exact bl2 (by assumption) | exact OutV.bel (by (first | assumption | exact OutV.drew' (by assumption) | exact ov1 (by assumption) | exact ov2 (by assumption) | exact ov3 (by assumption) | exact ov4 (by assumption))) | exact bl4 (by assumption)) | (first | assumption | exact bl0 | exact bl5 | exact bl1 (by assumption) | exact bl2 (by assumption) | exact bl3 (by assumption))); rintro e' w' ⟨out, rfl, hr0, hb⟩)
        | (go_at_call 18; refine (HJN.out _ _ ?_ ?_).mono ?_; assumption; (first | (first | assumption | exact bl1 (by assumption) | exact bl2 (by assumption) | exact OutV.bel (by (first | assumption | exact OutV.drew' (by assumption) | exact ov1 (by assumption) | exact ov2 (by assumption) | exact ov3 (by assumption) | exact ov4 (by assumption))) | exact bl4 (by assumption)) | (first | assumption | exact bl0 | exact bl5 | exact bl1 (by assumption) | exact bl2 (by assumption) | exact bl3 (by assumption))); rintro e' w' ⟨rfl, hb⟩))
      | fail
      all_goals go_wp2
      all_goals go_ret
      all_goals exact ⟨congrArg (fun x => Ending.returned (Value.string x)) HD.out.symm, HBK.out _ (‹Hid (Below _ _ _) ∧ _›).1⟩
  have e15 : (k == 15) = false := by simpa using h15
  have HD : Hid (expText k name num text l lr ld = emp) := Lib.hid (by
    rw [expText, if_neg (by omega), if_neg h3, if_neg h4, if_neg h5, if_neg h6, if_neg h14, if_neg h7, if_neg h9, expText2, if_neg h10, if_neg h11, if_neg h13, if_neg h12, if_neg h15, if_neg h8])
  generalize expText k name num text l lr ld = tt at *
  go_enter Tryz.func20, Tryz.ntmps20
  go_wp2
  go_ret
  exact ⟨congrArg (fun x => Ending.returned (Value.string x)) HD.out.symm, hW1 ▸ (Below.refl _ _).alloc (Nat.le_refl _) _⟩
end Go.Pr
