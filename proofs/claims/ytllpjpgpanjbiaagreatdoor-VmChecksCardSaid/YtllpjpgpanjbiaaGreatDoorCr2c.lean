/- A part of the proof of VmChecks: what a function of the program or of the reference answers, walked by hand. Each theorem says its own conditions. -/
import Derived.Test.YtllpjpgpanjbiaaGreatDoorCr1
set_option linter.unusedVariables false
set_option linter.unusedSimpArgs false
set_option maxRecDepth 100000
set_option maxHeartbeats 1600000
namespace Go.Ck
open Go Go.RowKit Go.Proofs
theorem stepR_raise : StepOKR 17 := by
  intro p F w K lv left s qn N g1 o1 m fc cg co cc xa xb xc xt C H
  obtain ⟨a, c, W2, hW2, hv, hlc, ⟨f0, f2, f6, s0, s1, s2⟩, ⟨i1, i0, im, j1, j0, jm⟩, ⟨pl, ml, gl, cl⟩, ⟨hb2, hz2, hw2, hv2, hk2, hbl⟩, ⟨d0, d1, d2, dz, dl⟩, ⟨k0, k1, k2, k3, k4⟩, pl2, e2, e4, e5, e6, e8, z8⟩ := headR C H
  obtain ⟨h, hs, q1, qb, hin, hdom, hsm, hN, hlen, h0, h1, hx, hts⟩ := H
  obtain ⟨cf, cf1, cm, c0, x0, x1, x2, x3, x4⟩ := C
  simp only at hW2 k0 k1 k2 k3 k4
  have HK2 := Lib.hid hk2
  have wr1 : IntKind.i64.wrap (s.h - 1) = s.h - 1 := by rw [IntKind.wrap_i64]; omega
  have hw2d := hw2.grow (Below.refl _ _).drew
  have HFL : Hid (Calls Tryz.prog 54 #[.pointer (some ⟨p.pb, 0, none⟩), .agg #[.bool true, .int .i64 s.h, .slice a s.tr.length c]] W2.drew fun e w' => e = .returned (.int .i64 (floorOf F.f K s)) ∧ w'.cell? ⟨p.pb, 8, none⟩ = some (.bool false) ∧ w'.frozen? ⟨p.pb, 8, none⟩ = false ∧ p.pb < w'.heap.size ∧ w'.cell? ⟨w.heap.size, 1, none⟩ = some (.int .i64 s.h) ∧ w.heap.size < w'.heap.size ∧ Hid (∀ b, RK p F (w'.setCell ⟨p.pb, 8, none⟩ (.bool b)) K lv left b ∧ Kept p.toPl lv.ownBlock lv.ownBlock w (w'.setCell ⟨p.pb, 8, none⟩ (.bool b)))) := Lib.hid ((floorR_ok (b := true) hw2d (hv2.grow (Below.refl _ _).drew) hin hdom (by omega)).mono fun e w' ⟨t1, t2⟩ => by
    have t3 := hw2d.grow t2
    have t4 : Below w.heap.size w w' := hb2.trans (((Below.refl _ _).drew.trans t2).mono hb2.size)
    exact ⟨t1, (t3.cells 8).1, (t3.cells 8).2, t3.pblt, by rw [t2.cell (p := ⟨w.heap.size, 1, none⟩) dl]; exact d1, by have := t2.size; have : W2.drew.heap.size = W2.heap.size := rfl; omega, Lib.hid fun b => ⟨(t3.flag b).1, (Kept.of_below t4).trans (t3.flag b).2⟩⟩)
  by_cases hc : floorOf F.f K s ≤ s.h - 1
  · have HX : Hid (stepX F K left qn ⟨17, xa, xb, xc, xt⟩ s = some (K, left)) := Lib.hid (stepX_nil (by rw [stepR_17, if_pos hc]))
    have hd : decide (s.h - 1 < floorOf F.f K s) = false := by simp; omega
    clear hw2d
    clear h hv hb2 hw2 hv2 hin hdom hsm hx hts hk2 hs hlc hz2
    go_enter Tryz.func31, Tryz.ntmps31
    go_upto_region 1 with (fail)
    go_region
    rw [← hW2]
    clear hW2 f0 f2 f6 i1 i0 im j1 j0 jm gl cl c0 x0 x1 x2 x3 x4 s0 s1 s2 ml
    go_wp2
    go_region_with (go_at_call 54; refine HFL.out.mono ?_; rintro e w3 ⟨rfl, y0, y1, y2, y3, y4, HE⟩)
    all_goals
      try rw [hd]
      go_wp2
      go_end0
      refine ⟨rfl, K, left, lv, false, ?_, ?_, .inl ⟨HX.out, rfl⟩⟩
      · first | exact (HE.out false).1 | exact (HE.out false).1.grow (Below.refl _ _).drew
      · first | exact (HE.out false).2 | exact (HE.out false).2.trans (Kept.of_below (Below.refl _ _).drew)
  · have HX : Hid (stepX F K left qn ⟨17, xa, xb, xc, xt⟩ s = none) := Lib.hid (stepX_none (by rw [stepR_17, if_neg hc]))
    have hd : decide (s.h - 1 < floorOf F.f K s) = true := by simp; omega
    clear hw2d
    clear h hv hb2 hw2 hv2 hin hdom hsm hx hts hk2 hs hlc hz2
    go_enter Tryz.func31, Tryz.ntmps31
    go_upto_region 1 with (fail)
    go_region
    rw [← hW2]
    clear hW2 f0 f2 f6 i1 i0 im j1 j0 jm gl cl c0 x0 x1 x2 x3 x4 s0 s1 s2 ml
    go_wp2
    go_region_with (go_at_call 54; refine HFL.out.mono ?_; rintro e w3 ⟨rfl, y0, y1, y2, y3, y4, HE⟩)
    all_goals
      try rw [hd]
      go_wp2
      go_end0
      refine ⟨rfl, K, left, lv, true, ?_, ?_, .inr ⟨HX.out, rfl⟩⟩
      · first | exact (HE.out true).1 | exact (HE.out true).1.grow (Below.refl _ _).drew
      · first | exact (HE.out true).2 | exact (HE.out true).2.trans (Kept.of_below (Below.refl _ _).drew)
end Go.Ck
namespace Go.Ck
open Go Go.RowKit Go.Proofs
theorem stepR_end : StepOKR 19 := by
  intro p F w K lv left s qn N g1 o1 m fc cg co cc xa xb xc xt C H
  obtain ⟨a, c, W2, hW2, hv, hlc, ⟨f0, f2, f6, s0, s1, s2⟩, ⟨i1, i0, im, j1, j0, jm⟩, ⟨pl, ml, gl, cl⟩, ⟨hb2, hz2, hw2, hv2, hk2, hbl⟩, ⟨d0, d1, d2, dz, dl⟩, ⟨k0, k1, k2, k3, k4⟩, pl2, e2, e4, e5, e6, e8, z8⟩ := headR C H
  obtain ⟨h, hs, q1, qb, hin, hdom, hsm, hN, hlen, h0, h1, hx, hts⟩ := H
  obtain ⟨cf, cf1, cm, c0, x0, x1, x2, x3, x4⟩ := C
  simp only at hW2 k0 k1 k2 k3 k4
  have HK2 := Lib.hid hk2
  have wr3 : IntKind.i64.wrap ((qn : Int) + 1) = (qn : Int) + 1 := by rw [IntKind.wrap_i64]; omega
  have hw2d := hw2.grow (Below.refl _ _).drew
  have hv2d := hv2.grow (Below.refl _ _).drew
  have HFL : Hid (∀ x, Below W2.heap.size W2 x → x.cell? ⟨p.pb, 8, none⟩ = some (.bool false) ∧ x.frozen? ⟨p.pb, 8, none⟩ = false ∧ p.pb < x.heap.size ∧ RK p F (x.setCell ⟨p.pb, 8, none⟩ (.bool true)) K lv left true ∧ Kept p.toPl lv.ownBlock lv.ownBlock w (x.setCell ⟨p.pb, 8, none⟩ (.bool true))) := Lib.hid fun x hx => by
    have t3 := hw2.grow hx
    exact ⟨(t3.cells 8).1, (t3.cells 8).2, t3.pblt, (t3.flag true).1, (Kept.of_below (p := p.toPl) (q := lv.ownBlock) (hb2.trans (hx.mono hb2.size))).trans (t3.flag true).2⟩
  have HFF := Lib.hid (HFL.out W2 (Below.refl _ _)).2.2.2
  have HFD := Lib.hid (HFL.out W2.drew (Below.refl _ _).drew).2.2.2
  by_cases htr : s.tr = []
  · have HX : Hid (stepX F K left qn ⟨19, xa, xb, xc, xt⟩ s = none) := Lib.hid (stepX_none (by rw [stepR_19]; unfold lastH; rw [htr]; rfl))
    rw [show s.tr.length = 0 by rw [htr]; rfl] at d2
    clear hw2d hv2d HFL htr
    clear h hv hb2 hw2 hv2 hin hdom hsm hx hts hk2 hs hlc hz2
    go_enter Tryz.func31, Tryz.ntmps31
    go_upto_region 1 with (fail)
    go_region
    rw [← hW2]
    clear hW2 f0 f2 f6 i1 i0 im j1 j0 jm gl cl c0 x0 x1 x2 x3 x4 s0 s1 s2 ml
    go_wp2
    go_region
    all_goals
      go_wp2
      ((try simp only [Exit.inBlock, Exit.then]); refine bodyPost_ret (results_none rfl _ _ _) rfl ?_)
      refine ⟨rfl, K, left, lv, true, ?_, ?_, .inr ⟨HX.out, rfl⟩⟩
      · first | exact HFF.out.1 | exact HFF.out.1.grow (Below.refl _ _).drew | exact HFD.out.1
      · first | exact HFF.out.2 | exact HFF.out.2.trans (Kept.of_below (Below.refl _ _).drew) | exact HFD.out.2
  · have hpos : 0 < s.tr.length := List.length_pos_iff.2 htr
    have hpos' : (0 : Int) < (s.tr.length : Int) := by omega
    have hz : ¬ ((s.tr.length : Int) = 0) := by omega
    have hzb : ((s.tr.length : Int) == 0) = false := by simpa using hz
    have hle : (s.tr.length : Int) ≤ 100000 := by omega
    have u2 : IntKind.i64.wrap ((s.tr.length : Int) - 1) = ((s.tr.length - 1 : Nat) : Int) := by rw [IntKind.wrap_i64]; omega
    have u3 : ((s.tr.length - 1 : Nat) : Int) < (s.tr.length : Int) := by omega
    have u4 : (0 : Int) ≤ ((s.tr.length - 1 : Nat) : Int) := by omega
    have u5 : ((s.tr.length - 1 : Nat) : Int) ≤ (s.tr.length : Int) := by omega
    obtain ⟨a9, c9, e9, _, hrow⟩ := id hv
    cases e9
    obtain ⟨g, o, cur, rfl, hbg, hgq, hg, hcur⟩ := hrow hpos
    obtain ⟨t, ht⟩ : ∃ t, s.tr[s.tr.length - 1]? = some t := ⟨s.tr[s.tr.length - 1]'(by omega), List.getElem?_eq_getElem _⟩
    have hlast : s.tr.getLast? = some t := by rw [List.getLast?_eq_getElem?]; exact ht
    obtain ⟨s', hs'⟩ := hin t (getLast_mem hlast)
    obtain ⟨t0, t1⟩ := hdom t s' hs'
    obtain ⟨tn, rfl⟩ : ∃ tn : Nat, t = tn := ⟨t.toNat, by omega⟩
    obtain ⟨v', hv', m0, m1, _⟩ := hw2.at (i := tn) (by omega) hs'
    have hgl : g < w.heap.size := (Array.getElem?_eq_some_iff.1 hg).1
    have kt : W2.cell? ⟨g, o + (s.tr.length - 1), none⟩ = some (.int .i64 tn) := by
      have : W2.heap[g]? = some (.cells cur 3 (0, 0)) := (hb2.block g hgl).trans hg
      simp [World.cell?, this, hcur _ _ ht]
    have ti1 : (tn : Int) < (F.code.length : Int) := by omega
    have ti0 : (0 : Int) ≤ (tn : Int) := by omega
    have hsh := hts _ (look_mem hs')
    simp only at hsh
    have wr5 : IntKind.i64.wrap (s'.h + 1) = s'.h + 1 := by rw [IntKind.wrap_i64]; omega
    have HX0 : stepR F.f F.gb F.gc K qn ⟨19, xa, xb, xc, xt⟩ s = if s.h = s'.h + 1 then some [((qn : Int) + 1, ⟨s.h, s.tr.dropLast⟩)] else none := by
      rw [stepR_19]; unfold lastH hAt; rw [hlast]; simp [hs']
    have ktd : W2.drew.cell? ⟨g, o + (s.tr.length - 1), none⟩ = some (.int .i64 tn) := kt
    have m1d : W2.drew.cell? ⟨p.m, tn * 3 + 1, none⟩ = some (.int .i64 s'.h) := m1
    have d1d : W2.drew.cell? ⟨w.heap.size, 1, none⟩ = some (.int .i64 s.h) := d1
    have d2d : W2.drew.cell? ⟨w.heap.size, 2, none⟩ = some (.slice (some ⟨g, o, none⟩) s.tr.length c) := d2
    have e8d : W2.drew.cell? ⟨p.pb, 8, none⟩ = some (.bool false) := e8
    have z8d : W2.drew.frozen? ⟨p.pb, 8, none⟩ = false := z8
    have ml2 := hw2.mlt
    have hcl : s.tr.length - 1 ≤ c := by omega
    by_cases hc : s.h = s'.h + 1
    · have HX : Hid (stepX F K left qn ⟨19, xa, xb, xc, xt⟩ s = toP F.code.length K left ((qn : Int) + 1, ⟨s.h, s.tr.dropLast⟩)) := Lib.hid (stepX_one (by rw [HX0, if_pos hc]))
      have HT1 : Hid (∀ x, Below W2.heap.size W2 x → Calls Tryz.prog 30 #[.pointer (some ⟨p.pb, 0, none⟩), .int .i64 ((qn : Int) + 1), .agg #[.bool false, .int .i64 s.h, .slice (some ⟨g, o, none⟩) (s.tr.length - 1) c]] x fun e w' => e = .returned (.tuple #[]) ∧ ToPost (toP F.code.length K left ((qn : Int) + 1, ⟨s.h, s.tr.dropLast⟩)) p F K lv left false w w') := Lib.hid fun x hx =>
        (toR_spec (b := false) (s := ⟨s.h, s.tr.dropLast⟩) (q := (qn : Int) + 1) (hw2.grow hx) (TrV.dropLast (hv2.grow hx)) (hsm.small (by omega)) (by show s.tr.dropLast.length ≤ _; rw [List.length_dropLast]; omega)).mono fun e w' ⟨y1, y2⟩ => ⟨y1, y2.from (hk2.trans (Kept.of_below hx))⟩
      have hd : (s.h == s'.h + 1) = true := by simpa using hc
      have H1 := Lib.hid (HT1.out _ (Below.refl _ _))
      have H1d := Lib.hid (HT1.out _ (Below.refl _ _).drew)
      have H1dd := Lib.hid (HT1.out _ (Below.refl _ _).drew.drew)
      clear hw2d hv2d HFL htr hc HX0 HT1 hbg hgq hg hcur ht hlast hs' hv' hsh
      clear h hv hb2 hw2 hv2 hin hdom hsm hx hts hk2 hs hlc hz2
      go_enter Tryz.func31, Tryz.ntmps31
      go_upto_region 1 with (fail)
      go_region
      rw [← hW2]
      clear hW2 f0 f2 f6 i1 i0 im j1 j0 jm gl cl c0 x0 x1 x2 x3 x4 s0 s1 s2 ml
      go_wp2
      go_region
      all_goals
        try simp only [hd, bne, Bool.not_true]
        go_wp2
        go_region_with (go_at_call 30; (first | refine H1.out.mono ?_ | refine H1d.out.mono ?_ | refine H1dd.out.mono ?_); rintro e w6 ⟨rfl, hp⟩; have HP := Lib.hid hp; clear hp)
        all_goals
          go_wp2
          go_end0
          refine ⟨rfl, ?_⟩
          rw [HX.out]; exact HP.out.step
    · have HX : Hid (stepX F K left qn ⟨19, xa, xb, xc, xt⟩ s = none) := Lib.hid (stepX_none (by rw [HX0, if_neg hc]))
      have hd : (s.h == s'.h + 1) = false := by simpa using hc
      clear hw2d hv2d HFL htr HX0 hbg hgq hg hcur ht hlast hs' hv' hsh
      clear h hv hb2 hw2 hv2 hin hdom hsm hx hts hk2 hs hlc hz2
      go_enter Tryz.func31, Tryz.ntmps31
      go_upto_region 1 with (fail)
      go_region
      rw [← hW2]
      clear hW2 f0 f2 f6 i1 i0 im j1 j0 jm gl cl c0 x0 x1 x2 x3 x4 s0 s1 s2 ml
      go_wp2
      go_region
      all_goals
        try simp only [hd, bne, Bool.not_false]
        go_wp2
        ((try simp only [Exit.inBlock, Exit.then]); refine bodyPost_ret (results_none rfl _ _ _) rfl ?_)
        refine ⟨rfl, K, left, lv, true, ?_, ?_, .inr ⟨HX.out, rfl⟩⟩
        · first | exact HFF.out.1 | exact HFF.out.1.grow (Below.refl _ _).drew | exact HFD.out.1
        · first | exact HFF.out.2 | exact HFF.out.2.trans (Kept.of_below (Below.refl _ _).drew) | exact HFD.out.2
end Go.Ck
