/- How the document tells declarations, programs, numbers and quoted texts, walked by hand. Each says its own conditions. -/
import Derived.Test.YtmkdiiocfnelaaaGreatDoorPf
import Derived.Test.YtmkdiiocfnelaaaGreatDoorPd
import Derived.Test.YtmkdiiocfnelaaaGreatDoorPe
import Derived.Lib.ItoaMem
import Derived.Lib.CountLaws
import Derived.Lib.SplitLaws
import Derived.Lib.IndexBytes
import Derived.Laws.IdiomStrings
import Derived.Deep.AppendLies
set_option linter.unusedVariables false
set_option linter.unusedSimpArgs false
set_option maxRecDepth 100000
set_option maxHeartbeats 4000000
namespace Go.Pr
open Go Go.RowKit Go.Proofs
theorem rcons_ok {l : List D} {vf : Nat → List Value} {W0 W : World} {s : Value} (hs : Row W0 .con 6 s l vf) (hB : Below W0.heap.size W0 W) (hw : wsum l ≤ 1048576) (hT : ∀ x, x.w ≤ wsum l → FnOK 21 .ty T W0 x) :
    Calls Tryz.prog 19 #[s] W fun e w' => e = .returned (.string (joinB (l.map T) sBar)) ∧ Below W.heap.size W w' := by
  have hfit := hs.fits
  have hl := len_le hfit
  have hsz := joinS (g := T) (sep := sBar) hfit hw fun x _ => by show x.t.size + 3 ≤ _; omega
  obtain ⟨a, c, rfl⟩ := hs.slice
  have HROW := Lib.hid hs
  have HT := Lib.hid hT
  have HB := Lib.hid hB
  have HSZ := Lib.hid hsz
  have hst : OutV W W (.slice none 0 0) ([] : List ByteArray) := ⟨World.ownsRow_nil _ _ _ _, Below.refl _ _⟩
  have HST := Lib.hid hst
  have hl2 : l.length ≤ 1048576 := by omega
  clear hst hT hB hfit hl hs hsz
  go_enter Tryz.func19, Tryz.ntmps19
  go_wp2
  go_loopw [3, 4] (fun out j wr => ∃ k : Nat, k ≤ l.length ∧ j = .int .i64 k ∧ Hid (OutV W wr out ((l.map T).take k))) (fun _ j _ => l.length - (intOf j).toNat)
  case atStart => exact ⟨0, Nat.zero_le _, rfl, by rw [List.take_zero]; exact HST⟩
  case round =>
    obtain ⟨k, hk, rfl, hO⟩ := hrel
    by_cases hlt : k < l.length
    · obtain ⟨b, o, rfl, hr⟩ := HROW.out.cells (by omega)
      have hget : l[k]? = some l[k] := List.getElem?_eq_getElem hlt
      have hc := hr k hlt
      have hv := HROW.out.kid k _ hget
      have hvz := hv.size_le (by have := w_mem (List.getElem_mem hlt); omega)
      obtain ⟨name, has, t, vt, hvk, hty, htx, hpw⟩ := hv.con_parts
      obtain ⟨v2, v3, v4, a5, n5, c5, rfl⟩ := hty.ty_vals
      rw [hvk] at hc
      have hwk : l[k].w ≤ wsum l := w_mem (List.getElem_mem hlt)
      have hBW := HB.out.trans (hO.out.2.mono HB.out.size)
      have hcW := hc.below hBW
      have k0 : wr.cell? ⟨b, o + k * 6, none⟩ = some (.string name) := hcW 0 _ rfl
      have k1 : wr.cell? ⟨b, o + k * 6 + 1, none⟩ = some (.bool has) := hcW 1 _ rfl
      have k2 : wr.cell? ⟨b, o + k * 6 + 2, none⟩ = some (.int .u8 v2) := hcW 2 _ rfl
      have k3 : wr.cell? ⟨b, o + k * 6 + 3, none⟩ = some (.string v3) := hcW 3 _ rfl
      have k4 : wr.cell? ⟨b, o + k * 6 + 4, none⟩ = some (.int .i64 v4) := hcW 4 _ rfl
      have k5 : wr.cell? ⟨b, o + k * 6 + 5, none⟩ = some (.slice a5 n5 c5) := hcW 5 _ rfl
      have HX : Hid (Calls Tryz.prog 21 #[.agg ⟨[.int .u8 v2, .string v3, .int .i64 v4, .slice a5 n5 c5]⟩] wr fun e w' => e = .returned (.string (T t)) ∧ Below wr.heap.size wr w') := Lib.hid (HT.out t (by omega) wr _ hty hBW)
      have htT : T l[k] = conText name has t := htx
      have htk := take_step (xs := l.map T) (m := k) (x := T l[k]) (by rw [List.getElem?_map, hget]; rfl)
      rw [htT] at htk
      rw [htx] at hvz
      have i0 : (0 : Int) ≤ (k : Int) := by omega
      have i1 : (k : Int) < (l.length : Int) := by omega
      cases has with
      | true =>
        have HTK : Hid ((l.map T).take (k + 1) = (l.map T).take k ++ [name ++ ({ data := #[32, 111, 102, 32] } : ByteArray) ++ T t]) := Lib.hid htk
        have hz : name.size + 4 + (T t).size ≤ 1099578736640 := by rw [conText, if_pos rfl, size_append, size_append] at hvz; change name.size + 4 + (T t).size + 16 ≤ _ at hvz; omega
        have hz2 : (name ++ ({ data := #[32, 111, 102, 32] } : ByteArray)).size ≤ 1099578736640 := by rw [size_append]; show _ + 4 ≤ _; omega
        clear hc hv hvk hty htx hpw hwk hBW hcW htT htk hr hget hvz
        generalize T t = tx at *
        go_wp2_with fail
        refine HX.out.mono ?_
        rintro e w2 ⟨rfl, hb⟩
        have hov := OutV.call hO hb
        clear hb
        go_wp2_with (at_builtin; refine wpList_app (W := W) rfl _ _ rfl rfl rfl (OutV.alloc' hov _) (new_cell _ _ _) (by simp; omega) ?_; intro v' w3 HN3)
        rw [← HTK.out] at HN3
        go_wp2
        go_round
        case rel => exact ⟨k + 1, by omega, by simp, HN3⟩
        case measure => simp [intOf]; omega
      | false =>
        have HTK : Hid ((l.map T).take (k + 1) = (l.map T).take k ++ [name]) := Lib.hid htk
        clear hc hv hvk hty htx hpw hwk hBW hcW htT htk hr hget hvz HX
        go_wp2_with (at_builtin; refine wpList_app (W := W) rfl _ _ rfl rfl rfl (OutV.alloc' hO _) (new_cell _ _ _) (by simp; omega) ?_; intro v' w3 HN3)
        rw [← HTK.out] at HN3
        go_wp2
        go_round
        case rel => exact ⟨k + 1, by omega, by simp, HN3⟩
        case measure => simp [intOf]; omega
    · obtain rfl : k = l.length := by omega
      rw [List.take_of_length_le (by simp)] at hO
      have HJ := Lib.hid (rjoin_ok (sep := sBar) (StrRow.of_out hO.out) (by simp; omega) (by have := HSZ.out; omega))
      have HO := hO
      clear hO
      go_wp2_with fail
      refine HJ.out.mono ?_
      rintro e w2 ⟨rfl, rfl⟩
      go_wp2
      go_ret
      exact ⟨rfl, HO.out.2⟩
end Go.Pr
namespace Go.Pr
open Go Go.RowKit Go.Proofs
theorem args_step {name : ByteArray} {args : List ByteArray} {j : Nat} (h : j < args.length) : joinB (name :: args.take (j + 1)) sBlank = joinB (name :: args.take j) sBlank ++ sBlank ++ args[j] := by
  have := joinB_succ (l := name :: args) (k := j + 1) (by simp; omega) (by omega) sBlank
  simpa using this
theorem args_size (name : ByteArray) (args : List ByteArray) (j : Nat) : (joinB (name :: args.take j) sBlank).size ≤ 1 + name.size + (args.map fun x => 1 + x.size).sum := by
  have h := joinB_takele (name :: args) sBlank (j + 1)
  rw [List.take_succ_cons, List.map_cons, List.sum_cons] at h
  have e : (args.map fun x => x.size + sBlank.size) = args.map fun x => 1 + x.size := List.map_congr_left fun x _ => by show x.size + 1 = _; omega
  rw [e] at h
  change _ ≤ name.size + 1 + _ at h
  omega
theorem rdec_ok {d : D} {W0 : World} (hw : d.w ≤ 1048576) (hT : ∀ x, x.w < d.w → FnOK 21 .ty T W0 x) (hE : ∀ x, x.w < d.w → FnOK 20 .exp T W0 x) : FnOK 7 .dec T W0 d := by
  intro W vs hv hB
  have hs := hv.size_le hw
  obtain ⟨k, name, vars, sv, sc, sf, lc, lf, vc, vf, t, e, vt, ve, rfl, hrv, hrc, hrf, hty, hex, ht, hpw⟩ := hv.dec_parts
  obtain ⟨v5, v6, v7, a8, n8, c8, rfl⟩ := hty.ty_vals
  obtain ⟨v9, v10, v11, v12, a13, n13, c13, a14, n14, c14, a15, n15, c15, rfl⟩ := hex.exp_vals
  obtain ⟨a2, c2, rfl, hrv2⟩ := id hrv
  obtain ⟨a3, c3, rfl⟩ := hrc.slice
  obtain ⟨a4, c4, rfl⟩ := hrf.slice
  have hd : T d = decText k name vars lc lf t e := ht
  rw [hd]
  rw [ht] at hs
  have hal := args_len vars
  have hlc := len_le hrc.fits
  have hlf := len_le hrf.fits
  have hwf : wsum lf ≤ 1048576 := by omega
  have hjv2 : (joinB vars sComma).size ≤ 1099578736640 := by have := args_le vars sComma (by decide); omega
  have hvsum : (vars.map fun x => x.size + sComma.size).sum ≤ 8796093022208 := by
    have e : (vars.map fun x => x.size + sComma.size).sum ≤ 2 * (vars.map fun x => 1 + x.size).sum := by
      clear hal hrv hrv2 hjv2 hpw hs hd ht hv
      induction vars with
      | nil => simp
      | cons x r ih => simp only [List.map_cons, List.sum_cons]; have : sComma.size = 2 := rfl; omega
    omega
  have jc : (joinB (lc.map T) sBar).size ≤ 1099578736640 := joinM hrc.fits (by omega) fun x _ => by show x.t.size + 3 ≤ _; omega
  have jf : (joinB (lf.map T) sAnd).size ≤ 1099578736640 := joinM hrf.fits (by omega) fun x _ => by show x.t.size + 5 ≤ _; omega
  have hez : (T e).size ≤ 1099578736640 := by have := hex.size_le (by omega); show e.t.size ≤ _; omega
  have htz : (T t).size ≤ 1099578736640 := by have := hty.size_le (by omega); show t.t.size ≤ _; omega
  have hvz : ∀ x ∈ vars, x.size ≤ 1048576 := fun x hx => by
    have : 1 + x.size ≤ (vars.map fun x => 1 + x.size).sum := mem_le_sum (List.mem_map.2 ⟨x, hx, rfl⟩)
    omega
  generalize hW1 : W.alloc (.cells ⟨[.int .u8 k, .string name, .slice a2 vars.length c2, .slice a3 lc.length c3, .slice a4 lf.length c4, .int .u8 v5, .string v6, .int .i64 v7, .slice a8 n8 c8, .int .u8 v9, .string v10, .int .i64 v11, .string v12, .slice a13 n13 c13, .slice a14 n14 c14, .slice a15 n15 c15]⟩ 36) = W1
  have hBW : Below W0.heap.size W0 W1 := by rw [← hW1]; exact hB.alloc hB.size _
  have hBe : Below W.heap.size W W1 := by rw [← hW1]; exact (Below.refl _ _).alloc (Nat.le_refl _) _
  have HBK : Hid (∀ w, Hid (Below W1.heap.size W1 w) → Below W.heap.size W w) := Lib.hid fun w hb => hBe.trans (hb.out.mono hBe.size)
  have HS : Hid (∀ w, Hid (Below W1.heap.size W1 w) → Hid (Below W1.heap.size W1 w) ∧ w.cell? ⟨W.heap.size, 0, none⟩ = some (.int .u8 k) ∧ w.cell? ⟨W.heap.size, 1, none⟩ = some (.string name) ∧ w.cell? ⟨W.heap.size, 2, none⟩ = some (.slice a2 vars.length c2) ∧ w.cell? ⟨W.heap.size, 3, none⟩ = some (.slice a3 lc.length c3) ∧ w.cell? ⟨W.heap.size, 4, none⟩ = some (.slice a4 lf.length c4) ∧ w.cell? ⟨W.heap.size, 5, none⟩ = some (.int .u8 v5) ∧ w.cell? ⟨W.heap.size, 6, none⟩ = some (.string v6) ∧ w.cell? ⟨W.heap.size, 7, none⟩ = some (.int .i64 v7) ∧ w.cell? ⟨W.heap.size, 8, none⟩ = some (.slice a8 n8 c8) ∧ w.cell? ⟨W.heap.size, 9, none⟩ = some (.int .u8 v9) ∧ w.cell? ⟨W.heap.size, 10, none⟩ = some (.string v10) ∧ w.cell? ⟨W.heap.size, 11, none⟩ = some (.int .i64 v11) ∧ w.cell? ⟨W.heap.size, 12, none⟩ = some (.string v12) ∧ w.cell? ⟨W.heap.size, 13, none⟩ = some (.slice a13 n13 c13) ∧ w.cell? ⟨W.heap.size, 14, none⟩ = some (.slice a14 n14 c14) ∧ w.cell? ⟨W.heap.size, 15, none⟩ = some (.slice a15 n15 c15)) := by
    refine Lib.hid fun w hb => ⟨hb, ?_⟩
    have hc := fun o => hb.out.cell (p := ⟨W.heap.size, o, none⟩) (by rw [← hW1]; simp)
    simp only [hc]
    rw [← hW1]
    simp [go_sem]
  have hS1 := (HS.out W1 (Lib.hid (Below.refl _ _))).2
  have HT := lift (G := .returned (.string (T t))) hBW fun w hb => hT t (by omega) w _ hty hb
  have HE := lift (G := .returned (.string (T e))) hBW fun w hb => hE e (by omega) w _ hex hb
  have HC := lift (G := .returned (.string (joinB (lc.map T) sBar))) hBW fun w hb => rcons_ok hrc hb (by omega) fun x hx => hT x (by omega)
  have HV : Hid (∀ w, Hid (Below W1.heap.size W1 w) → Calls Tryz.prog 18 #[.slice a2 vars.length c2, .string sComma] w fun e w' => e = .returned (.string (joinB vars sComma)) ∧ Hid (Below W1.heap.size W1 w')) := Lib.hid fun w hb =>
    (rjoin_ok (StrRow.of_row hrv (hBW.trans (hb.out.mono hBW.size))) (by omega) hvsum).mono fun _ _ h => ⟨h.1, h.2 ▸ hb⟩
  have HFE : Hid (∀ m (hm : m < lf.length) (x : D) (vx : List Value), x.w < lf[m].w → S W0 .exp x vx → ∀ w, Hid (Below W1.heap.size W1 w) → Calls Tryz.prog 20 #[.agg ⟨vx⟩] w fun e w' => e = .returned (.string (T x)) ∧ Hid (Below W1.heap.size W1 w') ∧ Hid (Below w.heap.size w w')) := Lib.hid fun m hm x vx hx hvx w hb =>
    (hE x (by have := w_mem (List.getElem_mem hm); omega) w _ hvx (hBW.trans (hb.out.mono hBW.size))).mono fun _ _ h => ⟨h.1, Lib.hid (hb.out.trans (h.2.mono hb.out.size)), Lib.hid h.2⟩
  have HRF := Lib.hid hrf
  have HRV := Lib.hid hrv2
  have HVZ := Lib.hid hvz
  have HBW := Lib.hid hBW
  have HSZ : Hid (((lf.map T).map fun x => x.size + sAnd.size).sum ≤ 1099578736640) := Lib.hid (joinS hrf.fits (by omega) fun x _ => by show x.t.size + 5 ≤ _; omega)
  have hname : name.size ≤ 1048576 := by omega
  have hlf2 : lf.length ≤ 1048576 := by omega
  have hvl : vars.length ≤ 1048576 := by omega
  have HNIL : Hid (OutV W1 W1 (.slice none 0 0) ([] : List ByteArray)) := Lib.hid ⟨World.ownsRow_nil _ _ _ _, Below.refl _ _⟩
  clear hT hE hv hB hty hex ht hd hs hBW hBe hpw hrv hrv2 hrc hrf hal hlc hlf hvsum hvz
  by_cases h1 : k = 1
  · subst h1
    have HD : Hid (decText 1 name vars lc lf t e = sData ++ varsT vars ++ name ++ sIs ++ joinB (lc.map T) sBar) := Lib.hid rfl
    generalize decText 1 name vars lc lf t e = tt at *
    generalize joinB (lc.map T) sBar = jjc at *
    generalize T t = tty at *
    generalize T e = tex at *
    by_cases hv0 : vars.length = 0
    · have HD2 : Hid (tt = sData ++ emp ++ name ++ sIs ++ jjc) := Lib.hid (by rw [HD.out]; unfold varsT; rw [if_pos hv0])
      clear HD
      have HD := HD2
      have HSn : Hid (∀ w, Hid (Below W1.heap.size W1 w) → Hid (Below W1.heap.size W1 w) ∧ w.cell? ⟨W.heap.size, 0, none⟩ = some (.int .u8 1) ∧ w.cell? ⟨W.heap.size, 1, none⟩ = some (.string name) ∧ w.cell? ⟨W.heap.size, 2, none⟩ = some (.slice a2 0 c2) ∧ w.cell? ⟨W.heap.size, 3, none⟩ = some (.slice a3 lc.length c3) ∧ w.cell? ⟨W.heap.size, 4, none⟩ = some (.slice a4 lf.length c4) ∧ w.cell? ⟨W.heap.size, 5, none⟩ = some (.int .u8 v5) ∧ w.cell? ⟨W.heap.size, 6, none⟩ = some (.string v6) ∧ w.cell? ⟨W.heap.size, 7, none⟩ = some (.int .i64 v7) ∧ w.cell? ⟨W.heap.size, 8, none⟩ = some (.slice a8 n8 c8) ∧ w.cell? ⟨W.heap.size, 9, none⟩ = some (.int .u8 v9) ∧ w.cell? ⟨W.heap.size, 10, none⟩ = some (.string v10) ∧ w.cell? ⟨W.heap.size, 11, none⟩ = some (.int .i64 v11) ∧ w.cell? ⟨W.heap.size, 12, none⟩ = some (.string v12) ∧ w.cell? ⟨W.heap.size, 13, none⟩ = some (.slice a13 n13 c13) ∧ w.cell? ⟨W.heap.size, 14, none⟩ = some (.slice a14 n14 c14) ∧ w.cell? ⟨W.heap.size, 15, none⟩ = some (.slice a15 n15 c15)) := Lib.hid fun w hb => by have q := HS.out w hb; rw [hv0] at q; exact q
      have hS1n := (HSn.out W1 (Lib.hid (Below.refl _ _))).2
      clear HS hS1 HV HVZ HRV
      rw [hv0] at hW1 ⊢
      go_enter Tryz.func7, Tryz.ntmps7
      go_wp2
      try rw [hW1]
      have z00 : ¬ 9223372036854775807 < 9 + name.size := by omega
      have z01 : ¬ 9223372036854775807 < 9 + name.size + 3 := by omega
      have z02 : ¬ 9223372036854775807 < 9 + name.size + 3 + jjc.size := by omega
      first
      | go_region_held3 (fun w => Hid (Below W1.heap.size W1 w) ∧ w.cell? ⟨W.heap.size, 0, none⟩ = some (.int .u8 1) ∧ w.cell? ⟨W.heap.size, 1, none⟩ = some (.string name) ∧ w.cell? ⟨W.heap.size, 2, none⟩ = some (.slice a2 0 c2) ∧ w.cell? ⟨W.heap.size, 3, none⟩ = some (.slice a3 lc.length c3) ∧ w.cell? ⟨W.heap.size, 4, none⟩ = some (.slice a4 lf.length c4) ∧ w.cell? ⟨W.heap.size, 5, none⟩ = some (.int .u8 v5) ∧ w.cell? ⟨W.heap.size, 6, none⟩ = some (.string v6) ∧ w.cell? ⟨W.heap.size, 7, none⟩ = some (.int .i64 v7) ∧ w.cell? ⟨W.heap.size, 8, none⟩ = some (.slice a8 n8 c8) ∧ w.cell? ⟨W.heap.size, 9, none⟩ = some (.int .u8 v9) ∧ w.cell? ⟨W.heap.size, 10, none⟩ = some (.string v10) ∧ w.cell? ⟨W.heap.size, 11, none⟩ = some (.int .i64 v11) ∧ w.cell? ⟨W.heap.size, 12, none⟩ = some (.string v12) ∧ w.cell? ⟨W.heap.size, 13, none⟩ = some (.slice a13 n13 c13) ∧ w.cell? ⟨W.heap.size, 14, none⟩ = some (.slice a14 n14 c14) ∧ w.cell? ⟨W.heap.size, 15, none⟩ = some (.slice a15 n15 c15)) ((refine HSn.out _ ?_; (first | (first | assumption | exact bl1 (by assumption) | exact bl2 (by assumption) | exact OutV.bel (by (first | assumption | exact OutV.drew' (by assumption) | exact ov1 (by assumption) | exact ov2 (by assumption) | exact ov3 (by assumption) | exact ov4 (by assumption))) | exact bl4 (by assumption)) | (first | assumption | exact bl0 | exact bl5 | exact bl1 (by assumption) | exact bl2 (by assumption) | exact bl3 (by assumption)))))
        (first
        | (go_at_call 19; refine (HC.out _ ?_).mono ?_; (first | (first | assumption | exact bl1 (by assumption) | exact bl2 (by assumption) | exact OutV.bel (by (first | assumption | exact OutV.drew' (by assumption) | exact ov1 (by assumption) | exact ov2 (by assumption) | exact ov3 (by assumption) | exact ov4 (by assumption))) | exact bl4 (by assumption)) | (first | assumption | exact bl0 | exact bl5 | exact bl1 (by assumption) | exact bl2 (by assumption) | exact bl3 (by assumption))); rintro e' w' ⟨rfl, hb⟩))
      | fail
      all_goals go_wp2
      all_goals go_ret
      all_goals exact ⟨congrArg (fun x => Ending.returned (Value.string x)) HD.out.symm, HBK.out _ (‹Hid (Below _ _ _) ∧ _›).1⟩
    by_cases hv1 : vars.length = 1
    · have hlt : 0 < vars.length := by omega
      obtain ⟨b, o, rfl, hr⟩ := HRV.out.2 hlt
      have hc := (hr 0 hlt).below HBW.out
      have hq : W1.cell? ⟨b, o, none⟩ = some (.string vars[0]) := by
        have q := hc 0 _ rfl
        simp only [Nat.zero_mul, Nat.add_zero] at q
        rw [q, List.getD_eq_getElem?_getD, List.getElem?_eq_getElem hlt]; rfl
      have HD2 : Hid (tt = sData ++ (vars[0] ++ sBlank) ++ name ++ sIs ++ jjc) := Lib.hid (by
        rw [HD.out]; unfold varsT; rw [if_neg hv0, show decide (1 < vars.length) = false by simp; omega]
        have e : joinB vars sComma = vars[0] := by have := joinB_zero hlt sComma; rwa [List.take_of_length_le (by omega)] at this
        rw [e]; rfl)
      clear HD
      have HD := HD2
      have HSn : Hid (∀ w, Hid (Below W1.heap.size W1 w) → Hid (Below W1.heap.size W1 w) ∧ w.cell? ⟨W.heap.size, 0, none⟩ = some (.int .u8 1) ∧ w.cell? ⟨W.heap.size, 1, none⟩ = some (.string name) ∧ w.cell? ⟨W.heap.size, 2, none⟩ = some (.slice (some ⟨b, o, none⟩) 1 c2) ∧ w.cell? ⟨W.heap.size, 3, none⟩ = some (.slice a3 lc.length c3) ∧ w.cell? ⟨W.heap.size, 4, none⟩ = some (.slice a4 lf.length c4) ∧ w.cell? ⟨W.heap.size, 5, none⟩ = some (.int .u8 v5) ∧ w.cell? ⟨W.heap.size, 6, none⟩ = some (.string v6) ∧ w.cell? ⟨W.heap.size, 7, none⟩ = some (.int .i64 v7) ∧ w.cell? ⟨W.heap.size, 8, none⟩ = some (.slice a8 n8 c8) ∧ w.cell? ⟨W.heap.size, 9, none⟩ = some (.int .u8 v9) ∧ w.cell? ⟨W.heap.size, 10, none⟩ = some (.string v10) ∧ w.cell? ⟨W.heap.size, 11, none⟩ = some (.int .i64 v11) ∧ w.cell? ⟨W.heap.size, 12, none⟩ = some (.string v12) ∧ w.cell? ⟨W.heap.size, 13, none⟩ = some (.slice a13 n13 c13) ∧ w.cell? ⟨W.heap.size, 14, none⟩ = some (.slice a14 n14 c14) ∧ w.cell? ⟨W.heap.size, 15, none⟩ = some (.slice a15 n15 c15)) := Lib.hid fun w hb => by have q := HS.out w hb; rw [hv1] at q; exact q
      have hS1n := (HSn.out W1 (Lib.hid (Below.refl _ _))).2
      have hz := HVZ.out vars[0] (List.getElem_mem hlt)
      have hz2 : (vars[0] ++ sBlank).size ≤ 1048577 := by rw [size_append]; show _ + 1 ≤ _; omega
      unfold sBlank at hz2
      clear HS hS1 HV HVZ HRV hc hr HD2
      generalize vars[0] = x0 at *
      rw [hv1] at hW1 ⊢
      go_enter Tryz.func7, Tryz.ntmps7
      go_wp2
      try rw [hW1]
      have z00 : ¬ 9223372036854775807 < 9 + (x0.size + 1) := by omega
      have z01 : ¬ 9223372036854775807 < 9 + (x0.size + 1) + name.size := by omega
      have z02 : ¬ 9223372036854775807 < 9 + (x0.size + 1) + name.size + 3 := by omega
      have z03 : ¬ 9223372036854775807 < 9 + (x0.size + 1) + name.size + 3 + jjc.size := by omega
      first
      | go_region_held3 (fun w => Hid (Below W1.heap.size W1 w) ∧ w.cell? ⟨W.heap.size, 0, none⟩ = some (.int .u8 1) ∧ w.cell? ⟨W.heap.size, 1, none⟩ = some (.string name) ∧ w.cell? ⟨W.heap.size, 2, none⟩ = some (.slice (some ⟨b, o, none⟩) 1 c2) ∧ w.cell? ⟨W.heap.size, 3, none⟩ = some (.slice a3 lc.length c3) ∧ w.cell? ⟨W.heap.size, 4, none⟩ = some (.slice a4 lf.length c4) ∧ w.cell? ⟨W.heap.size, 5, none⟩ = some (.int .u8 v5) ∧ w.cell? ⟨W.heap.size, 6, none⟩ = some (.string v6) ∧ w.cell? ⟨W.heap.size, 7, none⟩ = some (.int .i64 v7) ∧ w.cell? ⟨W.heap.size, 8, none⟩ = some (.slice a8 n8 c8) ∧ w.cell? ⟨W.heap.size, 9, none⟩ = some (.int .u8 v9) ∧ w.cell? ⟨W.heap.size, 10, none⟩ = some (.string v10) ∧ w.cell? ⟨W.heap.size, 11, none⟩ = some (.int .i64 v11) ∧ w.cell? ⟨W.heap.size, 12, none⟩ = some (.string v12) ∧ w.cell? ⟨W.heap.size, 13, none⟩ = some (.slice a13 n13 c13) ∧ w.cell? ⟨W.heap.size, 14, none⟩ = some (.slice a14 n14 c14) ∧ w.cell? ⟨W.heap.size, 15, none⟩ = some (.slice a15 n15 c15)) ((refine HSn.out _ ?_; (first | (first | assumption | exact bl1 (by assumption) | exact bl2 (by assumption) | exact OutV.bel (by (first | assumption | exact OutV.drew' (by assumption) | exact ov1 (by assumption) | exact ov2 (by assumption) | exact ov3 (by assumption) | exact ov4 (by assumption))) | exact bl4 (by assumption)) | (first | assumption | exact bl0 | exact bl5 | exact bl1 (by assumption) | exact bl2 (by assumption) | exact bl3 (by assumption)))))
        (first
        | (go_at_call 19; refine (HC.out _ ?_).mono ?_; (first | (first | assumption | exact bl1 (by assumption) | exact bl2 (by assumption) | exact OutV.bel (by (first | assumption | exact OutV.drew' (by assumption) | exact ov1 (by assumption) | exact ov2 (by assumption) | exact ov3 (by assumption) | exact ov4 (by assumption))) | exact bl4 (by assumption)) | (first | assumption | exact bl0 | exact bl5 | exact bl1 (by assumption) | exact bl2 (by assumption) | exact bl3 (by assumption))); rintro e' w' ⟨rfl, hb⟩))
      | fail
      all_goals go_wp2
      all_goals go_ret
      all_goals exact ⟨congrArg (fun x => Ending.returned (Value.string x)) HD.out.symm, HBK.out _ (‹Hid (Below _ _ _) ∧ _›).1⟩
    have HD2 : Hid (tt = sData ++ (sOpen ++ joinB vars sComma ++ sShut) ++ name ++ sIs ++ jjc) := Lib.hid (by
      rw [HD.out]; unfold varsT; rw [if_neg hv0, show decide (1 < vars.length) = true by simp; omega]
      congr 4
      apply bytes_of
      unfold roundT
      rw [if_pos rfl]
      simp only [append_list, List.append_assoc]
      rfl)
    clear HD
    have HD := HD2
    have n1 : ((vars.length : Int) == 1) = false := by simp; omega
    have n2 : (1 : Int) < (vars.length : Int) := by omega
    generalize joinB vars sComma = jv at *
    have hz2 : (({ data := #[40] } : ByteArray) ++ jv).size ≤ 1099578736641 := by rw [size_append]; show 1 + _ ≤ _; omega
    have hz3 : (({ data := #[40] } : ByteArray) ++ jv ++ ({ data := #[41, 32] } : ByteArray)).size ≤ 1099578736643 := by rw [size_append]; show _ + 2 ≤ _; omega
    go_enter Tryz.func7, Tryz.ntmps7
    go_wp2_with fail
    try rw [hW1]
    refine (HV.out _ (Lib.hid (Below.refl _ _))).mono ?_
    rintro e0 w0 ⟨rfl, hb0⟩
    have hS0 := (HS.out _ hb0).2
    go_wp2
    have z00 : ¬ 9223372036854775807 < 9 + (1 + jv.size + 2) := by omega
    have z01 : ¬ 9223372036854775807 < 9 + (1 + jv.size + 2) + name.size := by omega
    have z02 : ¬ 9223372036854775807 < 9 + (1 + jv.size + 2) + name.size + 3 := by omega
    have z03 : ¬ 9223372036854775807 < 9 + (1 + jv.size + 2) + name.size + 3 + jjc.size := by omega
    first
    | go_region_held3 (fun w => Hid (Below W1.heap.size W1 w) ∧ w.cell? ⟨W.heap.size, 0, none⟩ = some (.int .u8 1) ∧ w.cell? ⟨W.heap.size, 1, none⟩ = some (.string name) ∧ w.cell? ⟨W.heap.size, 2, none⟩ = some (.slice a2 vars.length c2) ∧ w.cell? ⟨W.heap.size, 3, none⟩ = some (.slice a3 lc.length c3) ∧ w.cell? ⟨W.heap.size, 4, none⟩ = some (.slice a4 lf.length c4) ∧ w.cell? ⟨W.heap.size, 5, none⟩ = some (.int .u8 v5) ∧ w.cell? ⟨W.heap.size, 6, none⟩ = some (.string v6) ∧ w.cell? ⟨W.heap.size, 7, none⟩ = some (.int .i64 v7) ∧ w.cell? ⟨W.heap.size, 8, none⟩ = some (.slice a8 n8 c8) ∧ w.cell? ⟨W.heap.size, 9, none⟩ = some (.int .u8 v9) ∧ w.cell? ⟨W.heap.size, 10, none⟩ = some (.string v10) ∧ w.cell? ⟨W.heap.size, 11, none⟩ = some (.int .i64 v11) ∧ w.cell? ⟨W.heap.size, 12, none⟩ = some (.string v12) ∧ w.cell? ⟨W.heap.size, 13, none⟩ = some (.slice a13 n13 c13) ∧ w.cell? ⟨W.heap.size, 14, none⟩ = some (.slice a14 n14 c14) ∧ w.cell? ⟨W.heap.size, 15, none⟩ = some (.slice a15 n15 c15)) ((refine HS.out _ ?_; (first | (first | assumption | exact bl1 (by assumption) | exact bl2 (by assumption) | exact OutV.bel (by (first | assumption | exact OutV.drew' (by assumption) | exact ov1 (by assumption) | exact ov2 (by assumption) | exact ov3 (by assumption) | exact ov4 (by assumption))) | exact bl4 (by assumption)) | (first | assumption | exact bl0 | exact bl5 | exact bl1 (by assumption) | exact bl2 (by assumption) | exact bl3 (by assumption)))))
      (first
      | (go_at_call 19; refine (HC.out _ ?_).mono ?_; (first | (first | assumption | exact bl1 (by assumption) | exact bl2 (by assumption) | exact OutV.bel (by (first | assumption | exact OutV.drew' (by assumption) | exact ov1 (by assumption) | exact ov2 (by assumption) | exact ov3 (by assumption) | exact ov4 (by assumption))) | exact bl4 (by assumption)) | (first | assumption | exact bl0 | exact bl5 | exact bl1 (by assumption) | exact bl2 (by assumption) | exact bl3 (by assumption))); rintro e' w' ⟨rfl, hb⟩))
    | fail
    all_goals go_wp2
    all_goals go_ret
    all_goals exact ⟨congrArg (fun x => Ending.returned (Value.string x)) HD.out.symm, HBK.out _ (‹Hid (Below _ _ _) ∧ _›).1⟩
  have e1 : (k == 1) = false := by simpa using h1
  by_cases h2 : k = 2
  · subst h2
    have HD : Hid (decText 2 name vars lc lf t e = sExn ++ joinB (lc.map T) sBar) := Lib.hid rfl
    generalize decText 2 name vars lc lf t e = tt at *
    generalize joinB (lc.map T) sBar = jjc at *
    generalize T t = tty at *
    generalize T e = tex at *
    go_enter Tryz.func7, Tryz.ntmps7
    go_wp2_with fail
    try rw [hW1]
    refine (HC.out _ ?_).mono ?_
    (first | assumption | exact bl0 | exact bl5 | exact bl1 (by assumption) | exact bl2 (by assumption) | exact bl3 (by assumption))
    rintro e w0 ⟨rfl, hb0⟩
    have hS0 := (HS.out _ hb0).2
    go_wp2
    go_ret
    exact ⟨congrArg (fun x => Ending.returned (Value.string x)) HD.out.symm, HBK.out _ hb0⟩
  have e2 : (k == 2) = false := by simpa using h2
  by_cases h3 : k = 3
  · subst h3
    have HD : Hid (decText 3 name vars lc lf t e = sVal ++ name ++ sIs ++ T e) := Lib.hid rfl
    generalize decText 3 name vars lc lf t e = tt at *
    generalize joinB (lc.map T) sBar = jjc at *
    generalize T t = tty at *
    generalize T e = tex at *
    go_enter Tryz.func7, Tryz.ntmps7
    go_wp2
    try rw [hW1]
    have z00 : ¬ 9223372036854775807 < 4 + name.size := by omega
    have z01 : ¬ 9223372036854775807 < 4 + name.size + 3 := by omega
    have z02 : ¬ 9223372036854775807 < 4 + name.size + 3 + tex.size := by omega
    first
    | go_region_held3 (fun w => Hid (Below W1.heap.size W1 w) ∧ w.cell? ⟨W.heap.size, 0, none⟩ = some (.int .u8 3) ∧ w.cell? ⟨W.heap.size, 1, none⟩ = some (.string name) ∧ w.cell? ⟨W.heap.size, 2, none⟩ = some (.slice a2 vars.length c2) ∧ w.cell? ⟨W.heap.size, 3, none⟩ = some (.slice a3 lc.length c3) ∧ w.cell? ⟨W.heap.size, 4, none⟩ = some (.slice a4 lf.length c4) ∧ w.cell? ⟨W.heap.size, 5, none⟩ = some (.int .u8 v5) ∧ w.cell? ⟨W.heap.size, 6, none⟩ = some (.string v6) ∧ w.cell? ⟨W.heap.size, 7, none⟩ = some (.int .i64 v7) ∧ w.cell? ⟨W.heap.size, 8, none⟩ = some (.slice a8 n8 c8) ∧ w.cell? ⟨W.heap.size, 9, none⟩ = some (.int .u8 v9) ∧ w.cell? ⟨W.heap.size, 10, none⟩ = some (.string v10) ∧ w.cell? ⟨W.heap.size, 11, none⟩ = some (.int .i64 v11) ∧ w.cell? ⟨W.heap.size, 12, none⟩ = some (.string v12) ∧ w.cell? ⟨W.heap.size, 13, none⟩ = some (.slice a13 n13 c13) ∧ w.cell? ⟨W.heap.size, 14, none⟩ = some (.slice a14 n14 c14) ∧ w.cell? ⟨W.heap.size, 15, none⟩ = some (.slice a15 n15 c15)) ((refine HS.out _ ?_; (first | (first | assumption | exact bl1 (by assumption) | exact bl2 (by assumption) | exact OutV.bel (by (first | assumption | exact OutV.drew' (by assumption) | exact ov1 (by assumption) | exact ov2 (by assumption) | exact ov3 (by assumption) | exact ov4 (by assumption))) | exact bl4 (by assumption)) | (first | assumption | exact bl0 | exact bl5 | exact bl1 (by assumption) | exact bl2 (by assumption) | exact bl3 (by assumption)))))
      (first
      | (go_at_call 20; refine (HE.out _ ?_).mono ?_; (first | (first | assumption | exact bl1 (by assumption) | exact bl2 (by assumption) | exact OutV.bel (by (first | assumption | exact OutV.drew' (by assumption) | exact ov1 (by assumption) | exact ov2 (by assumption) | exact ov3 (by assumption) | exact ov4 (by assumption))) | exact bl4 (by assumption)) | (first | assumption | exact bl0 | exact bl5 | exact bl1 (by assumption) | exact bl2 (by assumption) | exact bl3 (by assumption))); rintro e' w' ⟨rfl, hb⟩))
    | fail
    all_goals go_wp2
    all_goals go_ret
    all_goals exact ⟨congrArg (fun x => Ending.returned (Value.string x)) HD.out.symm, HBK.out _ (‹Hid (Below _ _ _) ∧ _›).1⟩
  have e3 : (k == 3) = false := by simpa using h3
  by_cases h4 : k = 4
  · subst h4
    have HD : Hid (decText 4 name vars lc lf t e = sFun ++ joinB (lf.map T) sAnd) := Lib.hid rfl
    generalize decText 4 name vars lc lf t e = tt at *
    clear HV HC HE HT
    go_enter Tryz.func7, Tryz.ntmps7
    go_wp2
    try rw [hW1]
    go_loopw [4, 5] (fun out j wr => ∃ m : Nat, m ≤ lf.length ∧ j = .int .i64 m ∧ Hid (OutV W1 wr out ((lf.map T).take m))) (fun _ j _ => lf.length - (intOf j).toNat)
    case atStart => exact ⟨0, Nat.zero_le _, rfl, by rw [List.take_zero]; exact HNIL⟩
    case round =>
      obtain ⟨m, hk, rfl, hO⟩ := hrel
      have hSr := (HS.out wr (Lib.hid hO.out.2)).2
      by_cases hlt : m < lf.length
      · obtain ⟨b, o, rfl, hr⟩ := HRF.out.cells (by omega)
        have hc := hr m hlt
        have hv := HRF.out.kid _ _ (List.getElem?_eq_getElem hlt)
        have hwm : lf[m].w ≤ wsum lf := w_mem (List.getElem_mem hlt)
        have hvz := hv.size_le (by omega)
        obtain ⟨fnm, args, sa, fe, fve, hvk, hargs, hfe, hft, hfw⟩ := hv.fn_parts
        obtain ⟨fa, fc, rfl, hfc, hfr⟩ := hargs
        obtain ⟨y2, y3, y4, y5, y6, m6, z6, y7, m7, z7, y8, m8, z8, rfl⟩ := hfe.exp_vals
        rw [hvk] at hc
        have hcW := hc.below (HBW.out.trans (hO.out.2.mono HBW.out.size))
        have k0 : wr.cell? ⟨b, o + m * 9, none⟩ = some (.string fnm) := hcW 0 _ rfl
        have k1 : wr.cell? ⟨b, o + m * 9 + 1, none⟩ = some (.slice fa args.length fc) := hcW 1 _ rfl
        have k2 : wr.cell? ⟨b, o + m * 9 + 2, none⟩ = some (.int .u8 y2) := hcW 2 _ rfl
        have k3 : wr.cell? ⟨b, o + m * 9 + 3, none⟩ = some (.string y3) := hcW 3 _ rfl
        have k4 : wr.cell? ⟨b, o + m * 9 + 4, none⟩ = some (.int .i64 y4) := hcW 4 _ rfl
        have k5 : wr.cell? ⟨b, o + m * 9 + 5, none⟩ = some (.string y5) := hcW 5 _ rfl
        have k6 : wr.cell? ⟨b, o + m * 9 + 6, none⟩ = some (.slice y6 m6 z6) := hcW 6 _ rfl
        have k7 : wr.cell? ⟨b, o + m * 9 + 7, none⟩ = some (.slice y7 m7 z7) := hcW 7 _ rfl
        have k8 : wr.cell? ⟨b, o + m * 9 + 8, none⟩ = some (.slice y8 m8 z8) := hcW 8 _ rfl
        have hal := args_len args
        have hbr : Below W0.heap.size W0 wr := HBW.out.trans (hO.out.2.mono HBW.out.size)
        have HX := Lib.hid (HFE.out m hlt fe _ (by omega) hfe)
        have htk := take_step (xs := lf.map T) (m := m) (x := T lf[m]) (by rw [List.getElem?_map, List.getElem?_eq_getElem hlt]; rfl)
        have htT : T lf[m] = joinB (fnm :: args) sBlank ++ ({ data := #[32, 61, 32] } : ByteArray) ++ T fe := hft
        rw [htT] at htk
        have HTK := Lib.hid htk
        have hz : (joinB (fnm :: args) sBlank).size + 3 + (T fe).size ≤ 1099578736640 := by
          rw [hft, funText, size_append, size_append] at hvz
          change _ + 3 + (T fe).size + 16 ≤ _ at hvz
          omega
        have hz2 : (joinB (fnm :: args) sBlank ++ ({ data := #[32, 61, 32] } : ByteArray)).size ≤ 1099578736643 := by rw [size_append]; show _ + 3 ≤ _; omega
        have HFR : Hid (0 < args.length → ∃ b o, fa = some ⟨b, o, none⟩ ∧ ∀ q (hq : q < args.length), ∀ w, Below wr.heap.size wr w → w.cell? ⟨b, o + q, none⟩ = some (.string args[q])) := Lib.hid fun h0 => by
          obtain ⟨b2, o2, rfl, hcs⟩ := hfr h0
          refine ⟨b2, o2, rfl, fun q hq w hbw => ?_⟩
          have := (hcs q hq).below (hbr.trans (hbw.mono hbr.size)) 0 _ rfl
          simp only [Nat.mul_one, Nat.add_zero] at this
          rw [this, List.getD_eq_getElem?_getD, List.getElem?_eq_getElem hq]
          rfl
        have HAZ : Hid (∀ q, (joinB (fnm :: args.take q) sBlank).size ≤ 1048577) := Lib.hid fun q => by have := args_size fnm args q; omega
        have HAE : Hid (∀ x ∈ args, x.size ≤ 1048576) := Lib.hid fun x hx => by
          have : 1 + x.size ≤ (args.map fun x => 1 + x.size).sum := mem_le_sum (List.mem_map.2 ⟨x, hx, rfl⟩)
          omega
        have i1 : (m : Int) < (lf.length : Int) := by omega
        have hal2 : args.length ≤ 1048576 := by omega
        clear hc hr hv hvk hfe hft hfw hfr hvz htk htT hcW hbr hal hwm
        generalize T fe = tx at *
        generalize hwa : wr.alloc (.cells #[.string fnm, .slice fa args.length fc, .int .u8 y2, .string y3, .int .i64 y4, .string y5, .slice y6 m6 z6, .slice y7 m7 z7, .slice y8 m8 z8] 55) = wa
        have hba : Below wr.heap.size wr wa := by rw [← hwa]; exact (Below.refl _ _).alloc (Nat.le_refl _) _
        have p0 : wa.cell? ⟨wr.heap.size, 0, none⟩ = some (.string fnm) := by rw [← hwa]; simp [go_sem]
        have p1 : wa.cell? ⟨wr.heap.size, 1, none⟩ = some (.slice fa args.length fc) := by rw [← hwa]; simp [go_sem]
        have p2 : wa.cell? ⟨wr.heap.size, 2, none⟩ = some (.int .u8 y2) := by rw [← hwa]; simp [go_sem]
        have p3 : wa.cell? ⟨wr.heap.size, 3, none⟩ = some (.string y3) := by rw [← hwa]; simp [go_sem]
        have p4 : wa.cell? ⟨wr.heap.size, 4, none⟩ = some (.int .i64 y4) := by rw [← hwa]; simp [go_sem]
        have p5 : wa.cell? ⟨wr.heap.size, 5, none⟩ = some (.string y5) := by rw [← hwa]; simp [go_sem]
        have p6 : wa.cell? ⟨wr.heap.size, 6, none⟩ = some (.slice y6 m6 z6) := by rw [← hwa]; simp [go_sem]
        have p7 : wa.cell? ⟨wr.heap.size, 7, none⟩ = some (.slice y7 m7 z7) := by rw [← hwa]; simp [go_sem]
        have p8 : wa.cell? ⟨wr.heap.size, 8, none⟩ = some (.slice y8 m8 z8) := by rw [← hwa]; simp [go_sem]
        have HBA := Lib.hid hba
        have hOa := OutV.call hO hba
        clear hba
        go_wp2
        go_loop [7, 8] (fun acc j => ∃ q : Nat, q ≤ args.length ∧ j = .int .i64 q ∧ acc = .string (joinB (fnm :: args.take q) sBlank)) (fun _ j => args.length - (intOf j).toNat)
        case atStart => exact ⟨0, Nat.zero_le _, rfl, by rw [List.take_zero]; exact congrArg Value.string (joinB_zero (l := [fnm]) (by simp) sBlank).symm⟩
        case round =>
          obtain ⟨q, hq, rfl, rfl⟩ := hrel
          by_cases hql : q < args.length
          · obtain ⟨b2, o2, rfl, hg⟩ := HFR.out (by omega)
            have cq := hg q hql wa HBA.out
            have hstep := args_step (name := fnm) hql
            have HST : Hid (joinB (fnm :: args.take q) sBlank ++ ({ data := #[32] } : ByteArray) ++ args[q] = joinB (fnm :: args.take (q + 1)) sBlank) := Lib.hid hstep.symm
            have hq0 := HAZ.out q
            have hq1 := HAE.out args[q] (List.getElem_mem hql)
            have hq2 : (joinB (fnm :: args.take q) sBlank ++ ({ data := #[32] } : ByteArray)).size ≤ 1048578 := by rw [size_append]; show _ + 1 ≤ _; omega
            clear hstep hg
            generalize joinB (fnm :: args.take q) sBlank = acc at *
            generalize args[q] = x0 at *
            go_wp2
            go_round
            case rel => exact ⟨q + 1, by omega, by simp, congrArg Value.string HST.out⟩
            case measure => simp [intOf]; omega
          · obtain rfl : q = args.length := by omega
            rw [List.take_length]
            generalize joinB (fnm :: args) sBlank = acc at *
            go_wp2_with fail
            refine (HX.out wa (OutV.bel hOa)).mono ?_
            rintro e w2 ⟨rfl, hb1, hb2⟩
            have hov := OutV.call hOa hb2.out
            go_wp2_with (at_builtin; refine wpList_app (W := W1) rfl _ _ rfl rfl rfl (OutV.alloc' hov _) (new_cell _ _ _) (by simp; omega) ?_; intro v' w3 HN3)
            rw [← HTK.out] at HN3
            go_wp2
            go_round
            case rel => exact ⟨m + 1, by omega, by simp, HN3⟩
            case measure => simp [intOf]; omega
      · obtain rfl : m = lf.length := by omega
        rw [List.take_of_length_le (by simp)] at hO
        have HJ := Lib.hid (rjoin_ok (sep := sAnd) (StrRow.of_out hO.out) (by simp; omega) (by have := HSZ.out; omega))
        generalize joinB (lf.map T) sAnd = jj at *
        go_wp2_with fail
        refine HJ.out.mono ?_
        rintro e w2 ⟨rfl, rfl⟩
        go_wp2
        go_ret
        exact ⟨congrArg (fun x => Ending.returned (Value.string x)) HD.out.symm, HBK.out _ (Lib.hid hO.out.2)⟩
  have e4 : (k == 4) = false := by simpa using h4
  by_cases h5 : k = 5
  · subst h5
    have HD : Hid (decText 5 name vars lc lf t e = sRoot ++ name ++ sColon ++ T t ++ sIs ++ T e) := Lib.hid rfl
    generalize decText 5 name vars lc lf t e = tt at *
    generalize joinB (lc.map T) sBar = jjc at *
    generalize T t = tty at *
    generalize T e = tex at *
    go_enter Tryz.func7, Tryz.ntmps7
    go_wp2
    try rw [hW1]
    have z00 : ¬ 9223372036854775807 < 5 + name.size := by omega
    have z01 : ¬ 9223372036854775807 < 5 + name.size + 3 := by omega
    have z02 : ¬ 9223372036854775807 < 5 + name.size + 3 + tty.size := by omega
    have z03 : ¬ 9223372036854775807 < 5 + name.size + 3 + tty.size + 3 := by omega
    have z04 : ¬ 9223372036854775807 < 5 + name.size + 3 + tty.size + 3 + tex.size := by omega
    first
    | go_region_held3 (fun w => Hid (Below W1.heap.size W1 w) ∧ w.cell? ⟨W.heap.size, 0, none⟩ = some (.int .u8 5) ∧ w.cell? ⟨W.heap.size, 1, none⟩ = some (.string name) ∧ w.cell? ⟨W.heap.size, 2, none⟩ = some (.slice a2 vars.length c2) ∧ w.cell? ⟨W.heap.size, 3, none⟩ = some (.slice a3 lc.length c3) ∧ w.cell? ⟨W.heap.size, 4, none⟩ = some (.slice a4 lf.length c4) ∧ w.cell? ⟨W.heap.size, 5, none⟩ = some (.int .u8 v5) ∧ w.cell? ⟨W.heap.size, 6, none⟩ = some (.string v6) ∧ w.cell? ⟨W.heap.size, 7, none⟩ = some (.int .i64 v7) ∧ w.cell? ⟨W.heap.size, 8, none⟩ = some (.slice a8 n8 c8) ∧ w.cell? ⟨W.heap.size, 9, none⟩ = some (.int .u8 v9) ∧ w.cell? ⟨W.heap.size, 10, none⟩ = some (.string v10) ∧ w.cell? ⟨W.heap.size, 11, none⟩ = some (.int .i64 v11) ∧ w.cell? ⟨W.heap.size, 12, none⟩ = some (.string v12) ∧ w.cell? ⟨W.heap.size, 13, none⟩ = some (.slice a13 n13 c13) ∧ w.cell? ⟨W.heap.size, 14, none⟩ = some (.slice a14 n14 c14) ∧ w.cell? ⟨W.heap.size, 15, none⟩ = some (.slice a15 n15 c15)) ((refine HS.out _ ?_; (first | (first | assumption | exact bl1 (by assumption) | exact bl2 (by assumption) | exact OutV.bel (by (first | assumption | exact OutV.drew' (by assumption) | exact ov1 (by assumption) | exact ov2 (by assumption) | exact ov3 (by assumption) | exact ov4 (by assumption))) | exact bl4 (by assumption)) | (first | assumption | exact bl0 | exact bl5 | exact bl1 (by assumption) | exact bl2 (by assumption) | exact bl3 (by assumption)))))
      (first
      | (go_at_call 21; refine (HT.out _ ?_).mono ?_; (first | (first | assumption | exact bl1 (by assumption) | exact bl2 (by assumption) | exact OutV.bel (by (first | assumption | exact OutV.drew' (by assumption) | exact ov1 (by assumption) | exact ov2 (by assumption) | exact ov3 (by assumption) | exact ov4 (by assumption))) | exact bl4 (by assumption)) | (first | assumption | exact bl0 | exact bl5 | exact bl1 (by assumption) | exact bl2 (by assumption) | exact bl3 (by assumption))); rintro e' w' ⟨rfl, hb⟩)
      | (go_at_call 20; refine (HE.out _ ?_).mono ?_; (first | (first | assumption | exact bl1 (by assumption) | exact bl2 (by assumption) | exact OutV.bel (by (first | assumption | exact OutV.drew' (by assumption) | exact ov1 (by assumption) | exact ov2 (by assumption) | exact ov3 (by assumption) | exact ov4 (by assumption))) | exact bl4 (by assumption)) | (first | assumption | exact bl0 | exact bl5 | exact bl1 (by assumption) | exact bl2 (by assumption) | exact bl3 (by assumption))); rintro e' w' ⟨rfl, hb⟩))
    | fail
    all_goals go_wp2
    all_goals go_ret
    all_goals exact ⟨congrArg (fun x => Ending.returned (Value.string x)) HD.out.symm, HBK.out _ (‹Hid (Below _ _ _) ∧ _›).1⟩
  have e5 : (k == 5) = false := by simpa using h5
  by_cases h6 : k = 6
  · subst h6
    have HD : Hid (decText 6 name vars lc lf t e = sDo ++ T e) := Lib.hid rfl
    generalize decText 6 name vars lc lf t e = tt at *
    generalize joinB (lc.map T) sBar = jjc at *
    generalize T t = tty at *
    generalize T e = tex at *
    go_enter Tryz.func7, Tryz.ntmps7
    go_wp2_with fail
    try rw [hW1]
    refine (HE.out _ ?_).mono ?_
    (first | assumption | exact bl0 | exact bl5 | exact bl1 (by assumption) | exact bl2 (by assumption) | exact bl3 (by assumption))
    rintro e w0 ⟨rfl, hb0⟩
    have hS0 := (HS.out _ hb0).2
    go_wp2
    go_ret
    exact ⟨congrArg (fun x => Ending.returned (Value.string x)) HD.out.symm, HBK.out _ hb0⟩
  have e6 : (k == 6) = false := by simpa using h6
  have HD : Hid (decText k name vars lc lf t e = emp) := Lib.hid (by rw [decText, if_neg h1, if_neg h2, if_neg h3, if_neg h4, if_neg h5, if_neg h6])
  generalize decText k name vars lc lf t e = tt at *
  go_enter Tryz.func7, Tryz.ntmps7
  go_wp2
  go_ret
  exact ⟨congrArg (fun x => Ending.returned (Value.string x)) HD.out.symm, hW1 ▸ (Below.refl _ _).alloc (Nat.le_refl _) _⟩
end Go.Pr
namespace Go.Pr
open Go Go.RowKit Go.Proofs
structure Told (W0 : World) (d : D) : Prop where
  ty : FnOK 21 .ty T W0 d
  pat : FnOK 63 .pat T W0 d
  exp : FnOK 20 .exp T W0 d
  dec : FnOK 7 .dec T W0 d
theorem told_all {W0 : World} (hN : NumV W0) (hQ : RQuoteV W0) : ∀ (n : Nat) (d : D), d.w < n → d.w ≤ 1048576 → Told W0 d
  | 0, _, h, _ => absurd h (Nat.not_lt_zero _)
  | n + 1, d, h, hw => by
    have ih : ∀ x : D, x.w < d.w → Told W0 x := fun x hx => told_all hN hQ n x (by omega) (by omega)
    exact ⟨rty_ok hN hw fun x hx => (ih x hx).ty, rpat_ok hN hw fun x hx => (ih x hx).pat,
      rexp_ok hN hQ hw (fun x hx => (ih x hx).exp) (fun x hx => (ih x hx).pat) (fun x hx => (ih x hx).dec),
      rdec_ok hw (fun x hx => (ih x hx).ty) (fun x hx => (ih x hx).exp)⟩
theorem told {W0 : World} (hN : NumV W0) (hQ : RQuoteV W0) (d : D) (hw : d.w ≤ 1048576) : Told W0 d := told_all hN hQ (d.w + 1) d (Nat.lt_succ_self _) hw
theorem rprogram_ok {l : List D} {vf : Nat → List Value} {W0 W : World} {s : Value} (hN : NumV W0) (hQ : RQuoteV W0) (hs : Row W0 .dec 16 s l vf) (hw : wsum l ≤ 1048576) (hB : Below W0.heap.size W0 W) :
    Calls Tryz.prog 9 #[s] W fun e w' => e = .returned (.string (progT l)) ∧ Below W.heap.size W w' := by
  obtain ⟨a, c, rfl⟩ := hs.slice
  have hl := len_le hs.fits
  have hl2 : l.length ≤ 1048576 := by omega
  have HPZ : Hid (∀ m, (joinB ((l.map endsD).take m) emp).size ≤ 1099578736640) := Lib.hid fun m => by
    rw [← List.map_take]
    refine joinM (fun x hx => hs.fits x (List.mem_of_mem_take hx)) ?_ fun x _ => ?_
    · have : wsum l = wsum (l.take m) + wsum (l.drop m) := by
        unfold wsum
        rw [← List.sum_append, ← List.map_append, List.take_append_drop]
      omega
    · show (x.t ++ sEnds).size + 0 ≤ _
      rw [size_append]
      show _ + 2 + 0 ≤ _
      omega
  have HXT : Hid (∀ x ∈ l, (T x).size ≤ 1099578736640) := Lib.hid fun x hx => by have h1 := mem_fit hs.fits hx; have h2 := F_leM hw; show x.t.size ≤ _; omega
  have HF : Hid (∀ x ∈ l, FnOK 7 .dec T W0 x) := Lib.hid fun x hx => (told hN hQ x (by have := w_mem hx; omega)).dec
  have HROW := Lib.hid hs
  have HB := Lib.hid hB
  clear hl hs hB hN hQ
  go_enter Tryz.func9, Tryz.ntmps9
  go_wp2
  go_loopw [3, 4] (fun out j wr => ∃ m : Nat, m ≤ l.length ∧ j = .int .i64 m ∧ out = .string (joinB ((l.map endsD).take m) emp) ∧ Hid (Below W.heap.size W wr)) (fun _ j _ => l.length - (intOf j).toNat)
  case atStart => exact ⟨0, Nat.zero_le _, rfl, rfl, Lib.hid (Below.refl _ _)⟩
  case round =>
    obtain ⟨m, hk, rfl, rfl, hO⟩ := hrel
    by_cases hlt : m < l.length
    · obtain ⟨b, o, rfl, hr⟩ := HROW.out.cells (by omega)
      have hc := hr m hlt
      have hv := HROW.out.kid _ _ (List.getElem?_eq_getElem hlt)
      obtain ⟨v0, v1, a2, n2, c2, a3, n3, c3, a4, n4, c4, v5, v6, v7, a8, n8, c8, v9, v10, v11, v12, a13, n13, c13, a14, n14, c14, a15, n15, c15, hvk⟩ := hv.dec_vals
      rw [hvk] at hc hv
      have hBW := HB.out.trans (hO.out.mono HB.out.size)
      have hcW := hc.below hBW
      have k0 : wr.cell? ⟨b, o + m * 16, none⟩ = some (.int .u8 v0) := hcW 0 _ rfl
      have k1 : wr.cell? ⟨b, o + m * 16 + 1, none⟩ = some (.string v1) := hcW 1 _ rfl
      have k2 : wr.cell? ⟨b, o + m * 16 + 2, none⟩ = some (.slice a2 n2 c2) := hcW 2 _ rfl
      have k3 : wr.cell? ⟨b, o + m * 16 + 3, none⟩ = some (.slice a3 n3 c3) := hcW 3 _ rfl
      have k4 : wr.cell? ⟨b, o + m * 16 + 4, none⟩ = some (.slice a4 n4 c4) := hcW 4 _ rfl
      have k5 : wr.cell? ⟨b, o + m * 16 + 5, none⟩ = some (.int .u8 v5) := hcW 5 _ rfl
      have k6 : wr.cell? ⟨b, o + m * 16 + 6, none⟩ = some (.string v6) := hcW 6 _ rfl
      have k7 : wr.cell? ⟨b, o + m * 16 + 7, none⟩ = some (.int .i64 v7) := hcW 7 _ rfl
      have k8 : wr.cell? ⟨b, o + m * 16 + 8, none⟩ = some (.slice a8 n8 c8) := hcW 8 _ rfl
      have k9 : wr.cell? ⟨b, o + m * 16 + 9, none⟩ = some (.int .u8 v9) := hcW 9 _ rfl
      have k10 : wr.cell? ⟨b, o + m * 16 + 10, none⟩ = some (.string v10) := hcW 10 _ rfl
      have k11 : wr.cell? ⟨b, o + m * 16 + 11, none⟩ = some (.int .i64 v11) := hcW 11 _ rfl
      have k12 : wr.cell? ⟨b, o + m * 16 + 12, none⟩ = some (.string v12) := hcW 12 _ rfl
      have k13 : wr.cell? ⟨b, o + m * 16 + 13, none⟩ = some (.slice a13 n13 c13) := hcW 13 _ rfl
      have k14 : wr.cell? ⟨b, o + m * 16 + 14, none⟩ = some (.slice a14 n14 c14) := hcW 14 _ rfl
      have k15 : wr.cell? ⟨b, o + m * 16 + 15, none⟩ = some (.slice a15 n15 c15) := hcW 15 _ rfl
      have HX : Hid (Calls Tryz.prog 7 #[.agg ⟨[.int .u8 v0, .string v1, .slice a2 n2 c2, .slice a3 n3 c3, .slice a4 n4 c4, .int .u8 v5, .string v6, .int .i64 v7, .slice a8 n8 c8, .int .u8 v9, .string v10, .int .i64 v11, .string v12, .slice a13 n13 c13, .slice a14 n14 c14, .slice a15 n15 c15]⟩] wr fun e w' => e = .returned (.string (T l[m])) ∧ Below wr.heap.size wr w') := Lib.hid (HF.out l[m] (List.getElem_mem hlt) wr _ hv hBW)
      have hstep : joinB ((l.map endsD).take (m + 1)) emp = joinB ((l.map endsD).take m) emp ++ endsD l[m] := joinE_step (by rw [List.getElem?_map, List.getElem?_eq_getElem hlt]; rfl)
      have hz0 := HPZ.out m
      have hx := HXT.out _ (List.getElem_mem hlt)
      have HST : Hid (joinB ((l.map endsD).take m) emp ++ T l[m] ++ ({ data := #[59, 10] } : ByteArray) = joinB ((l.map endsD).take (m + 1)) emp) := Lib.hid (by rw [hstep]; apply bytes_of; unfold endsD; simp only [append_list, List.append_assoc]; rfl)
      have hacc2 : (joinB ((l.map endsD).take m) emp ++ T l[m]).size ≤ 3298736209920 := by rw [size_append]; omega
      have i1 : (m : Int) < (l.length : Int) := by omega
      clear hc hv hvk hr hstep hcW hBW
      generalize joinB ((l.map endsD).take m) emp = acc at *
      generalize T l[m] = tx at *
      go_wp2_with fail
      refine HX.out.mono ?_
      rintro e w2 ⟨rfl, hb⟩
      have hb1 : Hid (Below W.heap.size W w2) := Lib.hid (hO.out.trans (hb.mono hO.out.size))
      clear hb
      go_wp2
      go_round
      case rel => exact ⟨m + 1, by omega, by simp, congrArg Value.string HST.out, hb1⟩
      case measure => simp [intOf]; omega
    · obtain rfl : m = l.length := by omega
      have HST : Hid (joinB ((l.map endsD).take l.length) emp = progT l) := Lib.hid (by rw [List.take_of_length_le (by simp)]; rfl)
      rw [HST.out]
      go_wp2
      go_ret
      exact ⟨rfl, hO.out⟩
end Go.Pr
namespace Go.Pr
open Go Go.RowKit Go.Proofs
def digB (u : Nat) : ByteArray := ⟨(Lib.decDigits u).toArray⟩
def tenB : ByteArray := { data := #[48, 49, 50, 51, 52, 53, 54, 55, 56, 57] }
theorem ten_one : ∀ i : Fin 10, tenB.extract i.val (i.val + 1) = ⟨#[UInt8.ofNat (48 + i.val)]⟩ := by decide +kernel
theorem ten_at {i : Nat} (h : i < 10) : tenB.extract i (i + 1) = ⟨#[UInt8.ofNat (48 + i)]⟩ := ten_one ⟨i, h⟩
theorem digB_small {u : Nat} (h : u < 10) : digB u = tenB.extract u (u + 1) := by
  rw [ten_at h]; unfold digB; rw [Lib.decDigits, dif_pos h]
theorem digB_big {u : Nat} (h : ¬ u < 10) : digB u = digB (u / 10) ++ tenB.extract (u % 10) (u % 10 + 1) := by
  rw [ten_at (Nat.mod_lt _ (by decide))]
  apply bytes_of
  rw [append_list]
  show Lib.decDigits u = Lib.decDigits (u / 10) ++ _
  rw [Lib.decDigits, dif_neg h]
theorem digB_size {u : Nat} (h : u < 18446744073709551616) : (digB u).size ≤ 20 := by
  show (Lib.decDigits u).toArray.size ≤ 20
  rw [List.size_toArray, Lib.decDigits_length]
  exact Lib.nDigits_le20 u h
theorem u9 : Tryz.prog.underlying 9 = some .string := by kernel_rfl
theorem run_slice_ten (i : Nat) (h : i < 10) (w : World) : (Instr.slice 9 (.string { data := #[48, 49, 50, 51, 52, 53, 54, 55, 56, 57] }) (some (.int .u64 (i : Int))) (some (.int .u64 ((i : Int) + 1))) none).run Tryz.prog w = .ok (.string (tenB.extract i (i + 1))) w := by
  have h0 : (0 : Int) ≤ (i : Int) := by omega
  have h1 : (i : Int) + 1 ≤ 10 := by omega
  have h2 : (0 : Int) ≤ (i : Int) + 1 := by omega
  have h3 : (i : Int) ≤ (i : Int) + 1 := by omega
  have h4 : ((i : Int) + 1).toNat = i + 1 := by omega
  have hs : ({ data := #[48, 49, 50, 51, 52, 53, 54, 55, 56, 57] } : ByteArray).size = 10 := rfl
  simp [Instr.slice, Instr.sliceBounds, Instr.sliceBound, run_underlying u9, asIntOf, go_sem, hs, h0, h1, h2, h3, h4, tenB]
theorem lift0 {fn : Nat} {args : Array Value} {W : World} {G : Ending} (h : ∀ w, Calls Tryz.prog fn args w fun e w' => e = G ∧ Below w.heap.size w w') :
    Hid (∀ w, Hid (Below W.heap.size W w) → Calls Tryz.prog fn args w fun e w' => e = G ∧ Hid (Below W.heap.size W w')) :=
  Lib.hid fun w hb => (h w).mono fun _ _ h => ⟨h.1, Lib.hid (hb.out.trans (h.2.mono hb.out.size))⟩
theorem digits_ok : ∀ (u : Nat), u < 18446744073709551616 → ∀ W : World, Calls Tryz.prog 62 #[.int .u64 u] W fun e w' => e = .returned (.string (digB u)) ∧ Below W.heap.size W w' := by
  intro u
  induction u using Nat.strongRecOn with
  | _ u ih =>
    intro hu W
    by_cases h : u < 10
    · have hd := digB_small h
      rw [hd]
      have h1 : (u : Int) < 10 := by omega
      have h2 : (0 : Int) ≤ (u : Int) := by omega
      have h3 : ((u : Int) + 1) ≤ 10 := by omega
      have hw : IntKind.u64.wrap ((u : Int) + 1) = (u : Int) + 1 := by simp [IntKind.wrap, IntKind.bits, IntKind.signed]; omega
      have h4 : ((u : Int) + 1).toNat = u + 1 := by omega
      have HSL := run_slice_ten u h W
      clear ih hd
      go_enter Tryz.func62, Tryz.ntmps62
      go_wp2
      go_ret
      exact ⟨rfl, Below.refl _ _⟩
    · have hd := digB_big h
      rw [hd]
      have h1 : ¬ (u : Int) < 10 := by omega
      have h1' : (10 : Int) ≤ (u : Int) := by omega
      have hm : u % 10 < 10 := Nat.mod_lt _ (by decide)
      have HC := lift0 (W := W) (ih (u / 10) (by omega) (by omega))
      have HSL : Hid (∀ w, (Instr.slice 9 (.string { data := #[48, 49, 50, 51, 52, 53, 54, 55, 56, 57] }) (some (.int .u64 ((u % 10 : Nat) : Int))) (some (.int .u64 (((u % 10 : Nat) : Int) + 1))) none).run Tryz.prog w = .ok (.string (tenB.extract (u % 10) (u % 10 + 1))) w) := Lib.hid fun w => run_slice_ten (u % 10) hm w
      have hz := digB_size (u := u / 10) (by omega)
      have hz2 : (tenB.extract (u % 10) (u % 10 + 1)).size ≤ 1 := by rw [ten_at hm]; exact Nat.le_refl _
      have hq : ((u / 10 : Nat) : Int) = (u : Int) / 10 := by omega
      have hr : ((u % 10 : Nat) : Int) = (u : Int) % 10 := by omega
      rw [hq] at HC
      rw [hr] at HSL
      clear hq hr
      have htm : (u : Int).tmod 10 = (u : Int) % 10 := Int.tmod_eq_emod_of_nonneg (by omega)
      have hw1 : IntKind.u64.wrap ((u : Int) / 10) = (u : Int) / 10 := by simp [IntKind.wrap, IntKind.bits, IntKind.signed]; omega
      have hw2 : IntKind.u64.wrap ((u : Int) % 10) = (u : Int) % 10 := by simp [IntKind.wrap, IntKind.bits, IntKind.signed]; omega
      have hw3 : IntKind.u64.wrap ((u : Int) % 10 + 1) = (u : Int) % 10 + 1 := by simp [IntKind.wrap, IntKind.bits, IntKind.signed]; omega
      have hsl := HSL.out
      clear ih hd
      generalize digB (u / 10) = dq at *
      generalize tenB.extract (u % 10) (u % 10 + 1) = dr at *
      go_enter Tryz.func62, Tryz.ntmps62
      go_wp2
      have z00 : ¬ 9223372036854775807 < dq.size + dr.size := by omega
      first
      | go_region_held3 (fun w => Hid (Below W.heap.size W w)) ((first | assumption | exact Lib.hid (Below.drew (Below.refl _ _))))
        (first
        | (go_at_call 62; refine (HC.out _ ?_).mono ?_; assumption; rintro e' w' ⟨rfl, hb⟩))
      | skip
      all_goals go_wp2
      all_goals go_ret
      all_goals exact ⟨rfl, (‹Hid (Below W.heap.size W _)›).out⟩
end Go.Pr
namespace Go.Pr
open Go Go.RowKit Go.Proofs
theorem decDigits_no (u : Nat) : (45 : UInt8) ∉ Lib.decDigits u := by
  induction u using Nat.strongRecOn with
  | _ u ih =>
    have key : ∀ i : Fin 10, (45 : UInt8) ≠ UInt8.ofNat (48 + i.val) := by decide
    rw [Lib.decDigits]
    split
    · rename_i h
      simp only [List.mem_singleton]
      exact key ⟨u, h⟩
    · rename_i h
      rw [List.mem_append, not_or]
      exact ⟨ih (u / 10) (by omega), by simp only [List.mem_singleton]; exact key ⟨u % 10, Nat.mod_lt _ (by decide)⟩⟩
theorem index_no : ∀ {s : List UInt8}, (45 : UInt8) ∉ s → Lib.index s [45] = -1
  | [], _ => rfl
  | b :: l, h => by
    have h1 : ¬ (45 : UInt8) = b := fun e => h (by simp [e])
    have h2 := index_no (s := l) fun e => h (by simp [e])
    rw [Lib.index, h2]
    have : List.isPrefixOf [45] (b :: l) = false := by simp [List.isPrefixOf, h1]
    rw [this]
    rfl
theorem replace_no {s : List UInt8} (h : (45 : UInt8) ∉ s) : Lib.replace s [45] [126] 1 = s := by
  unfold Lib.replace
  rw [if_neg (by decide)]
  generalize Lib.replaceNum s [45] 1 = k
  cases k with
  | zero => rfl
  | succ k => rw [Lib.replaceK, index_no h]; rfl
theorem replace_neg (s : List UInt8) : Lib.replace (45 :: s) [45] [126] 1 = 126 :: s := by
  unfold Lib.replace
  rw [if_neg (by decide)]
  have hn : Lib.replaceNum (45 :: s) [45] 1 = 1 := by
    unfold Lib.replaceNum
    rw [Lib.count_cons_eq, if_neg (by omega)]
    rfl
  have hi : Lib.index (45 :: s) [45] = (0 : Nat) := by
    rw [Lib.index]
    have : List.isPrefixOf [45] ((45 : UInt8) :: s) = true := by simp [List.isPrefixOf]
    rw [this]; rfl
  rw [hn, Lib.replaceK_hit _ _ _ _ 0 hi]
  rfl
theorem numS_pos {u : Nat} (h : u < 9223372036854775808) : numS (u : Int) = digB u := by
  unfold numS
  rw [if_pos (by omega), Lib.itoa_nonneg, replace_no (decDigits_no u)]
  rfl
theorem numS_neg {u : Nat} (h0 : 1 ≤ u) (h : u ≤ 9223372036854775808) : numS (-(u : Int)) = ({ data := #[126] } : ByteArray) ++ digB u := by
  unfold numS
  rw [if_pos (by omega), Lib.itoa_neg u h0, replace_neg]
  apply bytes_of
  rw [append_list]
  rfl
theorem num_ok {W0 : World} : NumV W0 := by
  intro W n hn
  obtain ⟨h0, h1⟩ := hn
  by_cases hneg : n < 0
  · obtain ⟨u, rfl⟩ : ∃ u : Nat, n = -(u : Int) := ⟨n.natAbs, by omega⟩
    have HC := Lib.hid (digits_ok u (by omega))
    have hz := digB_size (u := u) (by omega)
    rw [numS_neg (by omega) (by omega)]
    have hw1 : IntKind.u64.wrap (-IntKind.u64.wrap (-(u : Int))) = (u : Int) := by simp [IntKind.wrap, IntKind.bits, IntKind.signed]; omega
    have hu0 : 0 < u := by omega
    generalize digB u = du at *
    go_enter Tryz.func39, Tryz.ntmps39
    go_wp2_with fail
    refine (HC.out _).mono ?_
    rintro e w2 ⟨rfl, hb⟩
    have HB := Lib.hid hb
    clear hb
    go_wp2
    go_ret
    exact ⟨rfl, HB.out⟩
  · obtain ⟨u, rfl⟩ : ∃ u : Nat, n = (u : Int) := ⟨n.toNat, by omega⟩
    have HC := Lib.hid (digits_ok u (by omega))
    rw [numS_pos (by omega)]
    have hw1 : IntKind.u64.wrap (u : Int) = (u : Int) := by simp [IntKind.wrap, IntKind.bits, IntKind.signed]; omega
    have hneg' : (0 : Int) ≤ (u : Int) := by omega
    generalize digB u = du at *
    go_enter Tryz.func39, Tryz.ntmps39
    go_wp2_with fail
    refine (HC.out _).mono ?_
    rintro e w2 ⟨rfl, hb⟩
    have HB := Lib.hid hb
    clear hb
    go_wp2
    go_ret
    exact ⟨rfl, HB.out⟩
end Go.Pr
namespace Go.Pr
open Go Go.RowKit Go.Proofs
theorem i5 : (Tryz.prog.info? 5).map (fun i => (i.size, i.bytes, i.zero)) = some (1, 1, some (.int .u8 0)) := by kernel_rfl
def OwnB (W w : World) (out : Value) (xs : List UInt8) : Prop := w.ownsRow W.heap.size 5 1 out xs.length (xs.map fun b => .int .u8 (b.toNat : Int)) ∧ Below W.heap.size W w
theorem OwnB.below {W w w' : World} {out : Value} {xs : List UInt8} (h : OwnB W w out xs) (hb : Below w.heap.size w w') : OwnB W w' out xs :=
  ⟨ownsRow_below h.1 hb, h.2.trans (hb.mono h.2.size)⟩
theorem u65 : Tryz.prog.underlying 65 = some (.slice 5) := by kernel_rfl
theorem wpList_appB {W w : World} {ops : Array Oper} {rest : List Oper} {o : Oper} {a : Act} {Q : Exit → Act → World → Prop} {out : Value} {xs ys : List UInt8} {g : Nat} (hgd : o.guard = none) (s t : Operand)
    (ho : o.op = .call { callee := .builtin .append, args := #[s, t], argTypes := #[65, 65] }) (hs : a.eval s = out) (hx : a.eval t = .slice (some ⟨g, 0, none⟩) ys.length ys.length) (hov : Hid (OwnB W w out xs)) (hc : ∀ (j : Nat) (u : Value), (ys.map fun b => Value.int .u8 (b.toNat : Int))[j]? = some u → w.cell? ((⟨g, 0, none⟩ : Addr).add j) = some u) (hl : xs.length ≤ 4194304) (hl2 : ys.length ≤ 2)
    (h : ∀ v' w', Hid (OwnB W w' v' (xs ++ ys)) → wpList Tryz.prog ops Q rest (a.put o.dst v') w') : wpList Tryz.prog ops Q (o :: rest) a w := by
  obtain ⟨i, hi, hi2⟩ := Option.map_eq_some_iff.1 i5
  injection hi2 with hz0 hz1
  injection hz1 with hz1 hz2
  refine wpList_append_own w hgd s t 65 ho W.heap.size 5 i (.int .u8 0) 1 1 u65 hi hz2 hz0 hz1 rfl (by decide) _ xs.length _ hs hov.out.1 ⟨g, 0, none⟩ ys.length ys.length (ys.map fun b => .int .u8 (b.toNat : Int)) hx (by simp) hc (fun u hu => ?_) (by simp only [maxLen]; omega) (by omega) hov.out.2.size fun v' w' h1 h2 _ => h v' w' (Lib.hid ⟨?_, ?_⟩)
  · obtain ⟨b, _, rfl⟩ := List.mem_map.1 hu
    rfl
  · rw [List.length_append, List.map_append]; exact h1
  · exact hov.out.2.grown h2 hov.out.2.size fun k hk => by
      rcases hov.out.1.2 with ⟨h', _⟩ | ⟨g', cap, cur, e1, e2, _⟩
      · subst h'; cases hk
      · subst e1; simp [Value.ownBlock] at hk; subst hk; exact e2
theorem u5 : Tryz.prog.underlying 5 = some (.int .u8) := by kernel_rfl
theorem u9s : Tryz.prog.underlying 9 = some .string := by kernel_rfl
theorem OwnB.conv {W w : World} {out : Value} {xs : List UInt8} (h : OwnB W w out xs) (h0 : xs ≠ []) : (convert 65 9 out).run Tryz.prog w = .ok (.string ⟨xs.toArray⟩) w := by
  rcases h.1.2 with ⟨rfl, e⟩ | ⟨g, cap, cur, rfl, _⟩
  · exact absurd (List.eq_nil_of_length_eq_zero e) h0
  · refine run_convert_bytes_back w 65 9 5 ⟨g, 0, none⟩ cap xs u65 u5 u9s fun j hj => ?_
    exact h.1.cells (g := g) rfl j _ (by rw [List.getElem?_map, List.getElem?_eq_getElem hj]; rfl)
theorem quote_take {s : ByteArray} {k : Nat} (h : k < s.size) : ((s.data.toList.take (k + 1)).flatMap quoteB) = (s.data.toList.take k).flatMap quoteB ++ quoteB s[k] := by
  have hl : k < s.data.toList.length := by simpa using h
  rw [List.take_succ_eq_append_getElem hl, List.flatMap_append]
  congr 1
  simp
  rfl
theorem rquote_ok {W0 : World} : RQuoteV W0 := by
  intro W s hs hB
  clear hB
  have hst : OwnB W (W.alloc (.cells #[.int .u8 34] 5)) (.slice (some ⟨W.heap.size, 0, none⟩) 1 1) [34] := ⟨⟨rfl, .inr ⟨W.heap.size, 1, #[.int .u8 34], rfl, Nat.le_refl _, heap_alloc_new W _, Nat.le_refl _, by simp [maxLen], rfl, rfl⟩⟩, (Below.refl _ _).alloc (Nat.le_refl _) _⟩
  have HST := Lib.hid hst
  clear hst
  have hfl : ∀ k, ((s.data.toList.take k).flatMap quoteB).length ≤ 2097152 := fun k => by
    have h1 := flat_le (s.data.toList.take k)
    have h2 : (s.data.toList.take k).length ≤ 1048576 := by rw [List.length_take, Array.length_toList]; exact Nat.le_trans (Nat.min_le_right _ _) hs
    omega
  have HFL := Lib.hid hfl
  clear hfl
  go_enter Tryz.func40, Tryz.ntmps40
  go_wp2
  go_loopw [3, 4] (fun out j wr => ∃ k : Nat, k ≤ s.size ∧ j = .int .i64 k ∧ Hid (OwnB W wr out ([34] ++ (s.data.toList.take k).flatMap quoteB))) (fun _ j _ => s.size - (intOf j).toNat)
  case atStart => exact ⟨0, Nat.zero_le _, rfl, by rw [List.take_zero]; exact HST⟩
  case round =>
    obtain ⟨k, hk, rfl, hO⟩ := hrel
    by_cases hlt : k < s.size
    · have hq := quote_take hlt
      have hz := HFL.out k
      have i0 : (0 : Int) ≤ (k : Int) := by omega
      have i1 : (k : Int) < (s.size : Int) := by omega
      have HXL : Hid (([34] ++ (s.data.toList.take k).flatMap quoteB).length ≤ 4194304) := Lib.hid (by simp only [List.length_append, List.length_cons, List.length_nil]; omega)
      by_cases h10 : s[k] = 10
      · have HQ : Hid ([34] ++ (s.data.toList.take (k + 1)).flatMap quoteB = ([34] ++ (s.data.toList.take k).flatMap quoteB) ++ [92, 110]) := Lib.hid (by rw [hq, h10]; simp [quoteB])
        have hsk : ((s[k].toNat : Nat) : Int) = 10 := by rw [h10]; rfl
        clear hq h10
        go_wp2_with (at_builtin; refine wpList_appB (W := W) (ys := [92, 110]) rfl _ _ rfl rfl rfl (Lib.hid (hO.out.below ((Below.refl _ _).alloc (Nat.le_refl _) _))) (World.news_of_block (cs := #[.int .u8 92, .int .u8 110]) (t := 5) (fr := (0, 0)) (heap_alloc_new wr _)) HXL.out (by simp) ?_; intro v' w3 HN)
        rw [← HQ.out] at HN
        go_wp2
        go_round
        case rel => exact ⟨k + 1, by omega, by simp, HN⟩
        case measure => simp [intOf]; omega
      have f10 : (((s[k].toNat : Nat) : Int) == 10) = false := by
        simp only [beq_eq_false_iff_ne]
        intro e
        exact h10 (UInt8.toNat_inj.1 (by show s[k].toNat = 10; omega))
      by_cases h34 : s[k] = 34
      · have HQ : Hid ([34] ++ (s.data.toList.take (k + 1)).flatMap quoteB = ([34] ++ (s.data.toList.take k).flatMap quoteB) ++ [92, 34]) := Lib.hid (by rw [hq, h34]; simp [quoteB])
        have hsk : ((s[k].toNat : Nat) : Int) = 34 := by rw [h34]; rfl
        clear hq h10 h34
        go_wp2_with (at_builtin; refine wpList_appB (W := W) (ys := [92, 34]) rfl _ _ rfl rfl rfl (Lib.hid (hO.out.below ((Below.refl _ _).alloc (Nat.le_refl _) _))) (World.news_of_block (cs := #[.int .u8 92, .int .u8 34]) (t := 5) (fr := (0, 0)) (heap_alloc_new wr _)) HXL.out (by simp) ?_; intro v' w3 HN)
        rw [← HQ.out] at HN
        go_wp2
        go_round
        case rel => exact ⟨k + 1, by omega, by simp, HN⟩
        case measure => simp [intOf]; omega
      have f34 : (((s[k].toNat : Nat) : Int) == 34) = false := by
        simp only [beq_eq_false_iff_ne]
        intro e
        exact h34 (UInt8.toNat_inj.1 (by show s[k].toNat = 34; omega))
      by_cases h92 : s[k] = 92
      · have HQ : Hid ([34] ++ (s.data.toList.take (k + 1)).flatMap quoteB = ([34] ++ (s.data.toList.take k).flatMap quoteB) ++ [92, 92]) := Lib.hid (by rw [hq, h92]; simp [quoteB])
        have hsk : ((s[k].toNat : Nat) : Int) = 92 := by rw [h92]; rfl
        clear hq h10 h34 h92
        go_wp2_with (at_builtin; refine wpList_appB (W := W) (ys := [92, 92]) rfl _ _ rfl rfl rfl (Lib.hid (hO.out.below ((Below.refl _ _).alloc (Nat.le_refl _) _))) (World.news_of_block (cs := #[.int .u8 92, .int .u8 92]) (t := 5) (fr := (0, 0)) (heap_alloc_new wr _)) HXL.out (by simp) ?_; intro v' w3 HN)
        rw [← HQ.out] at HN
        go_wp2
        go_round
        case rel => exact ⟨k + 1, by omega, by simp, HN⟩
        case measure => simp [intOf]; omega
      have f92 : (((s[k].toNat : Nat) : Int) == 92) = false := by
        simp only [beq_eq_false_iff_ne]
        intro e
        exact h92 (UInt8.toNat_inj.1 (by show s[k].toNat = 92; omega))
      have HQ : Hid ([34] ++ (s.data.toList.take (k + 1)).flatMap quoteB = ([34] ++ (s.data.toList.take k).flatMap quoteB) ++ [s[k]]) := Lib.hid (by rw [hq]; simp [quoteB, h10, h34, h92])
      clear hq h10 h34 h92
      go_wp2_with (at_builtin; refine wpList_appB (W := W) (ys := [s[k]]) rfl _ _ rfl rfl rfl (Lib.hid (hO.out.below ((Below.refl _ _).alloc (Nat.le_refl _) _))) (World.news_of_block (cs := #[.int .u8 (s[k].toNat : Int)]) (t := 5) (fr := (0, 0)) (heap_alloc_new wr _)) HXL.out (by simp) ?_; intro v' w3 HN)
      rw [← HQ.out] at HN
      go_wp2
      go_round
      case rel => exact ⟨k + 1, by omega, by simp, HN⟩
      case measure => simp [intOf]; omega
    · obtain rfl : k = s.size := by omega
      have HD : Hid (quoteS s = ⟨(([34] ++ s.data.toList.flatMap quoteB) ++ [34]).toArray⟩) := Lib.hid rfl
      rw [List.take_of_length_le (by rw [Array.length_toList]; exact Nat.le_refl _)] at hO
      have hz := HFL.out s.size
      rw [List.take_of_length_le (by rw [Array.length_toList]; exact Nat.le_refl _)] at hz
      have HXL : Hid (([34] ++ s.data.toList.flatMap quoteB).length ≤ 4194304) := Lib.hid (by simp only [List.length_append, List.length_cons, List.length_nil]; omega)
      go_wp2_with (at_builtin; refine wpList_appB (W := W) (ys := [34]) rfl _ _ rfl rfl rfl (Lib.hid (hO.out.below ((Below.refl _ _).alloc (Nat.le_refl _) _))) (World.news_of_block (cs := #[.int .u8 34]) (t := 5) (fr := (0, 0)) (heap_alloc_new wr _)) HXL.out (by simp) ?_; intro v' w3 HN)
      have hconv := HN.out.conv (by simp)
      go_wp2
      rw [hconv]
      go_wp2
      go_ret
      exact ⟨congrArg (fun x => Ending.returned (Value.string x)) HD.out.symm, HN.out.2⟩
end Go.Pr
