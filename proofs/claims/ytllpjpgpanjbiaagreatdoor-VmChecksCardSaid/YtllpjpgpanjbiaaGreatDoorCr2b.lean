/- A part of the proof of VmChecks: what a function of the program or of the reference answers, walked by hand. Each theorem says its own conditions. -/
import Derived.Test.YtllpjpgpanjbiaaGreatDoorCr1
set_option linter.unusedVariables false
set_option linter.unusedSimpArgs false
set_option maxRecDepth 100000
set_option maxHeartbeats 1600000
namespace Go.Ck
open Go Go.RowKit Go.Proofs
theorem stepR_env : StepOKR 4 := by
  intro p F w K lv left s qn N g1 o1 m fc cg co cc xa xb xc xt C H
  obtain ⟨a, c, W2, hW2, hv, hlc, ⟨f0, f2, f6, s0, s1, s2⟩, ⟨i1, i0, im, j1, j0, jm⟩, ⟨pl, ml, gl, cl⟩, ⟨hb2, hz2, hw2, hv2, hk2, hbl⟩, ⟨d0, d1, d2, dz, dl⟩, ⟨k0, k1, k2, k3, k4⟩, pl2, e2, e4, e5, e6, e8, z8⟩ := headR C H
  obtain ⟨h, hs, q1, qb, hin, hdom, hsm, hN, hlen, h0, h1, hx, hts⟩ := H
  obtain ⟨cf, cf1, cm, c0, x0, x1, x2, x3, x4⟩ := C
  simp only at hW2 k0 k1 k2 k3 k4
  have HK2 := Lib.hid hk2
  have HFT : Hid (RK p F (W2.setCell ⟨p.pb, 8, none⟩ (.bool true)) K lv left true ∧ Kept p.toPl lv.ownBlock lv.ownBlock W2 (W2.setCell ⟨p.pb, 8, none⟩ (.bool true))) := Lib.hid (hw2.flag true)
  have HFF : Hid (RK p F (W2.setCell ⟨p.pb, 8, none⟩ (.bool false)) K lv left false ∧ Kept p.toPl lv.ownBlock lv.ownBlock W2 (W2.setCell ⟨p.pb, 8, none⟩ (.bool false))) := Lib.hid (hw2.flag false)
  have HON : Hid (∀ x bd, RK p F x K lv left bd → Kept p.toPl lv.ownBlock lv.ownBlock W2 x → Calls Tryz.prog 53 #[.pointer (some ⟨p.pb, 0, none⟩), .int .i64 qn, .agg #[.bool true, .int .i64 s.h, .slice a s.tr.length c], .int .i64 0, .int .i64 1] x fun e w' => e = .returned (.tuple #[]) ∧ ToPost (onP F.code.length F.f K left qn s 0 1) p F K lv left bd W2 w') := Lib.hid fun x bd hr hk =>
    (onR_ok (b := true) (q := qn) (takes := 0) (puts := 1) hr (hv2.keptR hk hw2) hin hdom (hsm.small (by omega)) (by omega) h0 (by omega) (by omega) (by omega) (by omega) (by omega) (by omega) (by omega)).mono fun e w' ⟨t1, t2⟩ => ⟨t1, t2.from hk⟩
  by_cases hc : xa < F.gc
  · have HX : Hid (stepX F K left qn ⟨4, xa, xb, xc, xt⟩ s = onP F.code.length F.f K left qn s 0 1) := Lib.hid (stepX_on (by rw [stepR_4, if_pos hc]))
    have hc' : ¬ F.gc ≤ xa := by omega
    have HO2 := Lib.hid (HON.out _ false HFF.out.1 HFF.out.2)
    have HO3 := Lib.hid (HON.out _ false (HFF.out.1.grow (Below.refl _ _).drew) (HFF.out.2.trans (Kept.of_below (Below.refl _ _).drew)))
    have hd : decide (F.gc ≤ xa) = false := by simp; omega
    clear HON HFT HFF
    clear h hv hb2 hw2 hv2 hin hdom hsm hx hts hk2 hs hlc hz2
    go_enter Tryz.func31, Tryz.ntmps31
    go_upto_region 1 with (fail)
    go_region
    rw [← hW2]
    clear hW2 f0 f2 f6 i1 i0 im j1 j0 jm gl cl c0 x0 x1 x2 x3 x4 s0 s1 s2 ml
    go_wp2
    go_region
    all_goals
      try rw [hd]
      go_wp2_with (go_at_call 53; (first | refine HO2.out.mono ?_ | refine HO3.out.mono ?_); rintro e w5 ⟨rfl, hp⟩; have HP := Lib.hid hp; clear hp)
      go_end0
      exact ⟨rfl, by rw [HX.out]; exact HP.out.step.from HK2.out⟩
  · have HX : Hid (stepX F K left qn ⟨4, xa, xb, xc, xt⟩ s = none) := Lib.hid (stepX_none (by rw [stepR_4, if_neg hc]))
    have hc' : F.gc ≤ xa := by omega
    have HO2 := Lib.hid (HON.out _ true HFT.out.1 HFT.out.2)
    have HO3 := Lib.hid (HON.out _ true (HFT.out.1.grow (Below.refl _ _).drew) (HFT.out.2.trans (Kept.of_below (Below.refl _ _).drew)))
    clear HON HFT HFF
    clear h hv hb2 hw2 hv2 hin hdom hsm hx hts hk2 hs hlc hz2
    go_enter Tryz.func31, Tryz.ntmps31
    go_upto_region 1 with (fail)
    go_region
    rw [← hW2]
    clear hW2 f0 f2 f6 i1 i0 im j1 j0 jm gl cl c0 x0 x1 x2 x3 x4 s0 s1 s2 ml
    go_wp2
    go_region
    all_goals
      try rw [hd]
      go_wp2_with (go_at_call 53; (first | refine HO2.out.mono ?_ | refine HO3.out.mono ?_); rintro e w5 ⟨rfl, hp⟩; have HP := Lib.hid hp; clear hp)
      go_end0
      exact ⟨rfl, by rw [HX.out]; exact HP.out.stepNone.from HK2.out⟩
end Go.Ck
namespace Go.Ck
open Go Go.RowKit Go.Proofs
theorem stepR_mate : StepOKR 5 := by
  intro p F w K lv left s qn N g1 o1 m fc cg co cc xa xb xc xt C H
  obtain ⟨a, c, W2, hW2, hv, hlc, ⟨f0, f2, f6, s0, s1, s2⟩, ⟨i1, i0, im, j1, j0, jm⟩, ⟨pl, ml, gl, cl⟩, ⟨hb2, hz2, hw2, hv2, hk2, hbl⟩, ⟨d0, d1, d2, dz, dl⟩, ⟨k0, k1, k2, k3, k4⟩, pl2, e2, e4, e5, e6, e8, z8⟩ := headR C H
  obtain ⟨h, hs, q1, qb, hin, hdom, hsm, hN, hlen, h0, h1, hx, hts⟩ := H
  obtain ⟨cf, cf1, cm, c0, x0, x1, x2, x3, x4⟩ := C
  simp only at hW2 k0 k1 k2 k3 k4
  have HK2 := Lib.hid hk2
  have HFT : Hid (RK p F (W2.setCell ⟨p.pb, 8, none⟩ (.bool true)) K lv left true ∧ Kept p.toPl lv.ownBlock lv.ownBlock W2 (W2.setCell ⟨p.pb, 8, none⟩ (.bool true))) := Lib.hid (hw2.flag true)
  have HFF : Hid (RK p F (W2.setCell ⟨p.pb, 8, none⟩ (.bool false)) K lv left false ∧ Kept p.toPl lv.ownBlock lv.ownBlock W2 (W2.setCell ⟨p.pb, 8, none⟩ (.bool false))) := Lib.hid (hw2.flag false)
  have HON : Hid (∀ x bd, RK p F x K lv left bd → Kept p.toPl lv.ownBlock lv.ownBlock W2 x → Calls Tryz.prog 53 #[.pointer (some ⟨p.pb, 0, none⟩), .int .i64 qn, .agg #[.bool true, .int .i64 s.h, .slice a s.tr.length c], .int .i64 0, .int .i64 1] x fun e w' => e = .returned (.tuple #[]) ∧ ToPost (onP F.code.length F.f K left qn s 0 1) p F K lv left bd W2 w') := Lib.hid fun x bd hr hk =>
    (onR_ok (b := true) (q := qn) (takes := 0) (puts := 1) hr (hv2.keptR hk hw2) hin hdom (hsm.small (by omega)) (by omega) h0 (by omega) (by omega) (by omega) (by omega) (by omega) (by omega) (by omega)).mono fun e w' ⟨t1, t2⟩ => ⟨t1, t2.from hk⟩
  by_cases hc : xa < F.gb
  · have HX : Hid (stepX F K left qn ⟨5, xa, xb, xc, xt⟩ s = onP F.code.length F.f K left qn s 0 1) := Lib.hid (stepX_on (by rw [stepR_5, if_pos hc]))
    have hc' : ¬ F.gb ≤ xa := by omega
    have HO2 := Lib.hid (HON.out _ false HFF.out.1 HFF.out.2)
    have HO3 := Lib.hid (HON.out _ false (HFF.out.1.grow (Below.refl _ _).drew) (HFF.out.2.trans (Kept.of_below (Below.refl _ _).drew)))
    have hd : decide (F.gb ≤ xa) = false := by simp; omega
    clear HON HFT HFF
    clear h hv hb2 hw2 hv2 hin hdom hsm hx hts hk2 hs hlc hz2
    go_enter Tryz.func31, Tryz.ntmps31
    go_upto_region 1 with (fail)
    go_region
    rw [← hW2]
    clear hW2 f0 f2 f6 i1 i0 im j1 j0 jm gl cl c0 x0 x1 x2 x3 x4 s0 s1 s2 ml
    go_wp2
    go_region
    all_goals
      try rw [hd]
      go_wp2_with (go_at_call 53; (first | refine HO2.out.mono ?_ | refine HO3.out.mono ?_); rintro e w5 ⟨rfl, hp⟩; have HP := Lib.hid hp; clear hp)
      go_end0
      exact ⟨rfl, by rw [HX.out]; exact HP.out.step.from HK2.out⟩
  · have HX : Hid (stepX F K left qn ⟨5, xa, xb, xc, xt⟩ s = none) := Lib.hid (stepX_none (by rw [stepR_5, if_neg hc]))
    have hc' : F.gb ≤ xa := by omega
    have HO2 := Lib.hid (HON.out _ true HFT.out.1 HFT.out.2)
    have HO3 := Lib.hid (HON.out _ true (HFT.out.1.grow (Below.refl _ _).drew) (HFT.out.2.trans (Kept.of_below (Below.refl _ _).drew)))
    clear HON HFT HFF
    clear h hv hb2 hw2 hv2 hin hdom hsm hx hts hk2 hs hlc hz2
    go_enter Tryz.func31, Tryz.ntmps31
    go_upto_region 1 with (fail)
    go_region
    rw [← hW2]
    clear hW2 f0 f2 f6 i1 i0 im j1 j0 jm gl cl c0 x0 x1 x2 x3 x4 s0 s1 s2 ml
    go_wp2
    go_region
    all_goals
      try rw [hd]
      go_wp2_with (go_at_call 53; (first | refine HO2.out.mono ?_ | refine HO3.out.mono ?_); rintro e w5 ⟨rfl, hp⟩; have HP := Lib.hid hp; clear hp)
      go_end0
      exact ⟨rfl, by rw [HX.out]; exact HP.out.stepNone.from HK2.out⟩
end Go.Ck
namespace Go.Ck
open Go Go.RowKit Go.Proofs
theorem stepR_bind : StepOKR 24 := by
  intro p F w K lv left s qn N g1 o1 m fc cg co cc xa xb xc xt C H
  obtain ⟨a, c, W2, hW2, hv, hlc, ⟨f0, f2, f6, s0, s1, s2⟩, ⟨i1, i0, im, j1, j0, jm⟩, ⟨pl, ml, gl, cl⟩, ⟨hb2, hz2, hw2, hv2, hk2, hbl⟩, ⟨d0, d1, d2, dz, dl⟩, ⟨k0, k1, k2, k3, k4⟩, pl2, e2, e4, e5, e6, e8, z8⟩ := headR C H
  obtain ⟨h, hs, q1, qb, hin, hdom, hsm, hN, hlen, h0, h1, hx, hts⟩ := H
  obtain ⟨cf, cf1, cm, c0, x0, x1, x2, x3, x4⟩ := C
  simp only at hW2 k0 k1 k2 k3 k4
  have HK2 := Lib.hid hk2
  have HFT : Hid (RK p F (W2.setCell ⟨p.pb, 8, none⟩ (.bool true)) K lv left true ∧ Kept p.toPl lv.ownBlock lv.ownBlock W2 (W2.setCell ⟨p.pb, 8, none⟩ (.bool true))) := Lib.hid (hw2.flag true)
  have HFF : Hid (RK p F (W2.setCell ⟨p.pb, 8, none⟩ (.bool false)) K lv left false ∧ Kept p.toPl lv.ownBlock lv.ownBlock W2 (W2.setCell ⟨p.pb, 8, none⟩ (.bool false))) := Lib.hid (hw2.flag false)
  have HON : Hid (∀ x bd, RK p F x K lv left bd → Kept p.toPl lv.ownBlock lv.ownBlock W2 x → Calls Tryz.prog 53 #[.pointer (some ⟨p.pb, 0, none⟩), .int .i64 qn, .agg #[.bool true, .int .i64 s.h, .slice a s.tr.length c], .int .i64 1, .int .i64 1] x fun e w' => e = .returned (.tuple #[]) ∧ ToPost (onP F.code.length F.f K left qn s 1 1) p F K lv left bd W2 w') := Lib.hid fun x bd hr hk =>
    (onR_ok (b := true) (q := qn) (takes := 1) (puts := 1) hr (hv2.keptR hk hw2) hin hdom (hsm.small (by omega)) (by omega) h0 (by omega) (by omega) (by omega) (by omega) (by omega) (by omega) (by omega)).mono fun e w' ⟨t1, t2⟩ => ⟨t1, t2.from hk⟩
  by_cases hc : F.f = 0
  · have HX : Hid (stepX F K left qn ⟨24, xa, xb, xc, xt⟩ s = onP F.code.length F.f K left qn s 1 1) := Lib.hid (stepX_on (by rw [stepR_24, if_pos hc]))
    have hc' : ((F.f : Int) = 0) := by omega
    have HO2 := Lib.hid (HON.out _ false HFF.out.1 HFF.out.2)
    have HO3 := Lib.hid (HON.out _ false (HFF.out.1.grow (Below.refl _ _).drew) (HFF.out.2.trans (Kept.of_below (Below.refl _ _).drew)))
    rw [hc'] at e2
    clear hc hc'
    clear HON HFT HFF
    clear h hv hb2 hw2 hv2 hin hdom hsm hx hts hk2 hs hlc hz2
    go_enter Tryz.func31, Tryz.ntmps31
    go_upto_region 1 with (fail)
    go_region
    rw [← hW2]
    clear hW2 f0 f2 f6 i1 i0 im j1 j0 jm gl cl c0 x0 x1 x2 x3 x4 s0 s1 s2 ml
    go_wp2_with (go_at_call 53; (first | refine HO2.out.mono ?_ | refine HO3.out.mono ?_); rintro e w5 ⟨rfl, hp⟩; have HP := Lib.hid hp; clear hp)
    all_goals
      go_end0
      exact ⟨rfl, by rw [HX.out]; exact HP.out.step.from HK2.out⟩
  · have HX : Hid (stepX F K left qn ⟨24, xa, xb, xc, xt⟩ s = none) := Lib.hid (stepX_none (by rw [stepR_24, if_neg hc]))
    have hc' : ¬ ((F.f : Int) = 0) := by omega
    have HO2 := Lib.hid (HON.out _ true HFT.out.1 HFT.out.2)
    have HO3 := Lib.hid (HON.out _ true (HFT.out.1.grow (Below.refl _ _).drew) (HFT.out.2.trans (Kept.of_below (Below.refl _ _).drew)))
    have hd : ((F.f : Int) == 0) = false := by simpa using hc'
    clear HON HFT HFF
    clear h hv hb2 hw2 hv2 hin hdom hsm hx hts hk2 hs hlc hz2
    go_enter Tryz.func31, Tryz.ntmps31
    go_upto_region 1 with (fail)
    go_region
    rw [← hW2]
    clear hW2 f0 f2 f6 i1 i0 im j1 j0 jm gl cl c0 x0 x1 x2 x3 x4 s0 s1 s2 ml
    go_wp2_with (go_at_call 53; (first | refine HO2.out.mono ?_ | refine HO3.out.mono ?_); rintro e w5 ⟨rfl, hp⟩; have HP := Lib.hid hp; clear hp)
    all_goals
      go_end0
      exact ⟨rfl, by rw [HX.out]; exact HP.out.stepNone.from HK2.out⟩
end Go.Ck
namespace Go.Ck
open Go Go.RowKit Go.Proofs
theorem stepR_ret : StepOKR 8 := by
  intro p F w K lv left s qn N g1 o1 m fc cg co cc xa xb xc xt C H
  obtain ⟨a, c, W2, hW2, hv, hlc, ⟨f0, f2, f6, s0, s1, s2⟩, ⟨i1, i0, im, j1, j0, jm⟩, ⟨pl, ml, gl, cl⟩, ⟨hb2, hz2, hw2, hv2, hk2, hbl⟩, ⟨d0, d1, d2, dz, dl⟩, ⟨k0, k1, k2, k3, k4⟩, pl2, e2, e4, e5, e6, e8, z8⟩ := headR C H
  obtain ⟨h, hs, q1, qb, hin, hdom, hsm, hN, hlen, h0, h1, hx, hts⟩ := H
  obtain ⟨cf, cf1, cm, c0, x0, x1, x2, x3, x4⟩ := C
  simp only at hW2 k0 k1 k2 k3 k4
  have HK2 := Lib.hid hk2
  have HFT : Hid (RK p F (W2.setCell ⟨p.pb, 8, none⟩ (.bool true)) K lv left true ∧ Kept p.toPl lv.ownBlock lv.ownBlock W2 (W2.setCell ⟨p.pb, 8, none⟩ (.bool true))) := Lib.hid (hw2.flag true)
  have HFF : Hid (RK p F (W2.setCell ⟨p.pb, 8, none⟩ (.bool false)) K lv left false ∧ Kept p.toPl lv.ownBlock lv.ownBlock W2 (W2.setCell ⟨p.pb, 8, none⟩ (.bool false))) := Lib.hid (hw2.flag false)
  by_cases hf : F.f = 0
  · have HX : Hid (stepX F K left qn ⟨8, xa, xb, xc, xt⟩ s = none) := Lib.hid (stepX_none (by rw [stepR_8, if_neg (by omega)]))
    rw [show (F.f : Int) = 0 by omega] at e2
    clear hf
    clear h hv hb2 hw2 hv2 hin hdom hsm hx hts hk2 hs hlc hz2
    go_enter Tryz.func31, Tryz.ntmps31
    go_upto_region 1 with (fail)
    go_region
    rw [← hW2]
    clear hW2 f0 f2 f6 i1 i0 im j1 j0 jm gl cl c0 x0 x1 x2 x3 x4 s0 s1 s2 ml
    go_wp2
    go_end0
    exact ⟨rfl, K, left, lv, true, HFT.out.1, HK2.out.trans HFT.out.2, .inr ⟨HX.out, rfl⟩⟩
  · have hd0 : ((F.f : Int) == 0) = false := by simpa using hf
    by_cases hh : s.h = 2
    · by_cases ht : s.tr = []
      · have HX : Hid (stepX F K left qn ⟨8, xa, xb, xc, xt⟩ s = some (K, left)) := Lib.hid (stepX_nil (by rw [stepR_8, if_pos ⟨by omega, hh, ht⟩]))
        rw [hh] at d1
        rw [show s.tr.length = 0 by rw [ht]; rfl] at d2
        clear hf hh ht
        clear h hv hb2 hw2 hv2 hin hdom hsm hx hts hk2 hs hlc hz2
        go_enter Tryz.func31, Tryz.ntmps31
        go_upto_region 1 with (fail)
        go_region
        rw [← hW2]
        clear hW2 f0 f2 f6 i1 i0 im j1 j0 jm gl cl c0 x0 x1 x2 x3 x4 s0 s1 s2 ml
        go_wp2
        go_end0
        exact ⟨rfl, K, left, lv, false, HFF.out.1, HK2.out.trans HFF.out.2, .inl ⟨HX.out, rfl⟩⟩
      · have HX : Hid (stepX F K left qn ⟨8, xa, xb, xc, xt⟩ s = none) := Lib.hid (stepX_none (by rw [stepR_8, if_neg (fun h => ht h.2.2)]))
        have hl : 0 < s.tr.length := List.length_pos_iff.2 ht
        have hl' : (0 : Int) < (s.tr.length : Int) := by omega
        rw [hh] at d1
        clear hf hh ht
        clear h hv hb2 hw2 hv2 hin hdom hsm hx hts hk2 hs hlc hz2
        go_enter Tryz.func31, Tryz.ntmps31
        go_upto_region 1 with (fail)
        go_region
        rw [← hW2]
        clear hW2 f0 f2 f6 i1 i0 im j1 j0 jm gl cl c0 x0 x1 x2 x3 x4 s0 s1 s2 ml
        go_wp2
        go_end0
        exact ⟨rfl, K, left, lv, true, HFT.out.1, HK2.out.trans HFT.out.2, .inr ⟨HX.out, rfl⟩⟩
    · have HX : Hid (stepX F K left qn ⟨8, xa, xb, xc, xt⟩ s = none) := Lib.hid (stepX_none (by rw [stepR_8, if_neg (fun h => hh h.2.1)]))
      have hd1 : (s.h == 2) = false := by simpa using hh
      clear hf
      clear h hv hb2 hw2 hv2 hin hdom hsm hx hts hk2 hs hlc hz2
      go_enter Tryz.func31, Tryz.ntmps31
      go_upto_region 1 with (fail)
      go_region
      rw [← hW2]
      clear hW2 f0 f2 f6 i1 i0 im j1 j0 jm gl cl c0 x0 x1 x2 x3 x4 s0 s1 s2 ml
      go_wp2
      go_end0
      exact ⟨rfl, K, left, lv, true, HFT.out.1, HK2.out.trans HFT.out.2, .inr ⟨HX.out, rfl⟩⟩
end Go.Ck
namespace Go.Ck
open Go Go.RowKit Go.Proofs
theorem stepR_halt : StepOKR 25 := by
  intro p F w K lv left s qn N g1 o1 m fc cg co cc xa xb xc xt C H
  obtain ⟨a, c, W2, hW2, hv, hlc, ⟨f0, f2, f6, s0, s1, s2⟩, ⟨i1, i0, im, j1, j0, jm⟩, ⟨pl, ml, gl, cl⟩, ⟨hb2, hz2, hw2, hv2, hk2, hbl⟩, ⟨d0, d1, d2, dz, dl⟩, ⟨k0, k1, k2, k3, k4⟩, pl2, e2, e4, e5, e6, e8, z8⟩ := headR C H
  obtain ⟨h, hs, q1, qb, hin, hdom, hsm, hN, hlen, h0, h1, hx, hts⟩ := H
  obtain ⟨cf, cf1, cm, c0, x0, x1, x2, x3, x4⟩ := C
  simp only at hW2 k0 k1 k2 k3 k4
  have HK2 := Lib.hid hk2
  have HFT : Hid (RK p F (W2.setCell ⟨p.pb, 8, none⟩ (.bool true)) K lv left true ∧ Kept p.toPl lv.ownBlock lv.ownBlock W2 (W2.setCell ⟨p.pb, 8, none⟩ (.bool true))) := Lib.hid (hw2.flag true)
  have HFF : Hid (RK p F (W2.setCell ⟨p.pb, 8, none⟩ (.bool false)) K lv left false ∧ Kept p.toPl lv.ownBlock lv.ownBlock W2 (W2.setCell ⟨p.pb, 8, none⟩ (.bool false))) := Lib.hid (hw2.flag false)
  by_cases hf : F.f = 0
  · by_cases ht : s.tr = []
    · have HX : Hid (stepX F K left qn ⟨25, xa, xb, xc, xt⟩ s = some (K, left)) := Lib.hid (stepX_nil (by rw [stepR_25, if_pos ⟨hf, ht⟩]))
      rw [show (F.f : Int) = 0 by omega] at e2
      rw [show s.tr.length = 0 by rw [ht]; rfl] at d2
      clear hf ht
      clear h hv hb2 hw2 hv2 hin hdom hsm hx hts hk2 hs hlc hz2
      go_enter Tryz.func31, Tryz.ntmps31
      go_upto_region 1 with (fail)
      go_region
      rw [← hW2]
      clear hW2 f0 f2 f6 i1 i0 im j1 j0 jm gl cl c0 x0 x1 x2 x3 x4 s0 s1 s2 ml
      go_wp2
      go_end0
      exact ⟨rfl, K, left, lv, false, HFF.out.1, HK2.out.trans HFF.out.2, .inl ⟨HX.out, rfl⟩⟩
    · have HX : Hid (stepX F K left qn ⟨25, xa, xb, xc, xt⟩ s = none) := Lib.hid (stepX_none (by rw [stepR_25, if_neg (fun h => ht h.2)]))
      have hl : 0 < s.tr.length := List.length_pos_iff.2 ht
      have hl' : (0 : Int) < (s.tr.length : Int) := by omega
      rw [show (F.f : Int) = 0 by omega] at e2
      clear hf ht
      clear h hv hb2 hw2 hv2 hin hdom hsm hx hts hk2 hs hlc hz2
      go_enter Tryz.func31, Tryz.ntmps31
      go_upto_region 1 with (fail)
      go_region
      rw [← hW2]
      clear hW2 f0 f2 f6 i1 i0 im j1 j0 jm gl cl c0 x0 x1 x2 x3 x4 s0 s1 s2 ml
      go_wp2
      go_end0
      exact ⟨rfl, K, left, lv, true, HFT.out.1, HK2.out.trans HFT.out.2, .inr ⟨HX.out, rfl⟩⟩
  · have HX : Hid (stepX F K left qn ⟨25, xa, xb, xc, xt⟩ s = none) := Lib.hid (stepX_none (by rw [stepR_25, if_neg (fun h => hf h.1)]))
    have hd0 : ((F.f : Int) == 0) = false := by simpa using hf
    clear hf
    clear h hv hb2 hw2 hv2 hin hdom hsm hx hts hk2 hs hlc hz2
    go_enter Tryz.func31, Tryz.ntmps31
    go_upto_region 1 with (fail)
    go_region
    rw [← hW2]
    clear hW2 f0 f2 f6 i1 i0 im j1 j0 jm gl cl c0 x0 x1 x2 x3 x4 s0 s1 s2 ml
    go_wp2
    go_end0
    exact ⟨rfl, K, left, lv, true, HFT.out.1, HK2.out.trans HFT.out.2, .inr ⟨HX.out, rfl⟩⟩
theorem stepR_jump : StepOKR 9 := by
  intro p F w K lv left s qn N g1 o1 m fc cg co cc xa xb xc xt C H
  obtain ⟨a, c, W2, hW2, hv, hlc, ⟨f0, f2, f6, s0, s1, s2⟩, ⟨i1, i0, im, j1, j0, jm⟩, ⟨pl, ml, gl, cl⟩, ⟨hb2, hz2, hw2, hv2, hk2, hbl⟩, ⟨d0, d1, d2, dz, dl⟩, ⟨k0, k1, k2, k3, k4⟩, pl2, e2, e4, e5, e6, e8, z8⟩ := headR C H
  obtain ⟨h, hs, q1, qb, hin, hdom, hsm, hN, hlen, h0, h1, hx, hts⟩ := H
  obtain ⟨cf, cf1, cm, c0, x0, x1, x2, x3, x4⟩ := C
  simp only at hW2 k0 k1 k2 k3 k4
  have HK2 := Lib.hid hk2
  have HTO := Lib.hid (toR_spec (b := true) (s := s) (q := xa) hw2 hv2 (hsm.small (by omega)) (by omega))
  have HX : Hid (stepX F K left qn ⟨9, xa, xb, xc, xt⟩ s = toP F.code.length K left (xa, s)) := Lib.hid (stepX_one (by rw [stepR_9]))
  unfold stA at HTO
  clear h hv hb2 hw2 hv2 hin hdom hsm hx hts hk2 hs hlc hz2
  go_enter Tryz.func31, Tryz.ntmps31
  go_upto_region 1 with (fail)
  go_region
  rw [← hW2]
  clear hW2 f0 f2 f6 i1 i0 im j1 j0 jm gl cl c0 x0 x1 x2 x3 x4 s0 s1 s2 ml
  go_wp2_with (go_at_call 30; refine HTO.out.mono ?_; rintro e w5 ⟨rfl, hp⟩; have HP := Lib.hid hp; clear hp)
  go_end0
  exact ⟨rfl, by rw [HX.out]; exact HP.out.step.from HK2.out⟩
end Go.Ck
namespace Go.Ck
open Go Go.RowKit Go.Proofs
theorem stepR_if : StepOKR 10 := by
  intro p F w K lv left s qn N g1 o1 m fc cg co cc xa xb xc xt C H
  obtain ⟨a, c, W2, hW2, hv, hlc, ⟨f0, f2, f6, s0, s1, s2⟩, ⟨i1, i0, im, j1, j0, jm⟩, ⟨pl, ml, gl, cl⟩, ⟨hb2, hz2, hw2, hv2, hk2, hbl⟩, ⟨d0, d1, d2, dz, dl⟩, ⟨k0, k1, k2, k3, k4⟩, pl2, e2, e4, e5, e6, e8, z8⟩ := headR C H
  obtain ⟨h, hs, q1, qb, hin, hdom, hsm, hN, hlen, h0, h1, hx, hts⟩ := H
  obtain ⟨cf, cf1, cm, c0, x0, x1, x2, x3, x4⟩ := C
  simp only at hW2 k0 k1 k2 k3 k4
  have HK2 := Lib.hid hk2
  have hbx : W2.heap[w.heap.size]? = some (.cells #[.bool true, .int .i64 s.h, .slice a s.tr.length c] 93 (0, 0)) := by
    rw [hW2]
    exact (Below.heap_alloc _ _ _ (by simp)).trans (heap_alloc_new w _)
  have hmne : w.heap.size ≠ p.m := by omega
  have HBX : Hid (∀ (w5 : World) (q' : Option Nat), Kept p.toPl lv.ownBlock q' W2 w5 → (w5.cell? ⟨w.heap.size, 0, none⟩ = some (.bool true) ∧ w5.cell? ⟨w.heap.size, 1, none⟩ = some (.int .i64 s.h) ∧ w5.cell? ⟨w.heap.size, 2, none⟩ = some (.slice a s.tr.length c) ∧ w5.frozen? ⟨w.heap.size, 1, none⟩ = false ∧ w.heap.size < w5.heap.size ∧ w.heap.size + 1 < w5.heap.size) ∧ w5.cell? ⟨w.heap.size + 1, 1, none⟩ = some (.int .i64 xa) ∧ w5.cell? ⟨w.heap.size + 1, 2, none⟩ = some (.int .i64 xb)) := Lib.hid fun w5 q' hk => by
    obtain ⟨t1, t2⟩ := Kept.boxes h hz2 hk
    have hs5 := hk.size
    exact ⟨⟨(cells_of_heap t1 0).1.trans d0, (cells_of_heap t1 1).1.trans d1, (cells_of_heap t1 2).1.trans d2, (cells_of_heap t1 1).2.trans dz, by omega, by omega⟩, (cells_of_heap t2 1).1.trans k1, (cells_of_heap t2 2).1.trans k2⟩
  have HT2 : Hid (∀ (w5 : World) K' l' lv' bd, RK p F w5 K' lv' l' bd → Kept p.toPl lv.ownBlock lv'.ownBlock W2 w5 → Small K' l' →
      (RK p F (w5.setCell ⟨w.heap.size, 1, none⟩ (.int .i64 (s.h - 1))) K' lv' l' bd ∧ Kept p.toPl lv.ownBlock lv'.ownBlock w (w5.setCell ⟨w.heap.size, 1, none⟩ (.int .i64 (s.h - 1)))) ∧
      Calls Tryz.prog 30 #[.pointer (some ⟨p.pb, 0, none⟩), .int .i64 xa, .agg #[.bool true, .int .i64 (s.h - 1), .slice a s.tr.length c]] (w5.setCell ⟨w.heap.size, 1, none⟩ (.int .i64 (s.h - 1))) fun e w' => e = .returned (.tuple #[]) ∧ ToPost (toP F.code.length K' l' (xa, ⟨s.h - 1, s.tr⟩)) p F K' lv l' bd w w') := Lib.hid fun w5 K' l' lv' bd hr hk hsm' => by
    obtain ⟨t1, t2⟩ := Kept.boxes h hz2 hk
    have hb5 : w5.heap[w.heap.size]? = some (.cells #[.bool true, .int .i64 s.h, .slice a s.tr.length c] 93 (0, 0)) := t1.trans hbx
    have hr6 := hr.box hb5 hmne 1 (.int .i64 (s.h - 1))
    have hv6 : TrV (w5.setCell ⟨w.heap.size, 1, none⟩ (.int .i64 (s.h - 1))) p.base lv'.ownBlock (.slice a s.tr.length c) s.tr := (hv2.keptR hk hw2).boxR hb5 1 _
    have hk6 : Kept p.toPl lv.ownBlock lv'.ownBlock w (w5.setCell ⟨w.heap.size, 1, none⟩ (.int .i64 (s.h - 1))) := (hk2.trans hk).setBox (Nat.le_refl _) 1 _
    exact ⟨⟨hr6, hk6⟩, (toR_spec (b := true) (s := ⟨s.h - 1, s.tr⟩) (q := xa) hr6 hv6 hsm' (by show s.tr.length ≤ _; omega)).mono fun e w' ⟨y1, y2⟩ => ⟨y1, y2.from hk6⟩⟩
  have wr1 : IntKind.i64.wrap (s.h - 1) = s.h - 1 := by rw [IntKind.wrap_i64]; omega
  have HON := Lib.hid (onR_ok (b := true) (q := qn) (takes := 1) (puts := 0) hw2 hv2 hin hdom (hsm.small (by omega)) (by omega) h0 (by omega) (by omega) (by omega) (by omega) (by omega) (by omega) (by omega))
  have hS : ∀ K' l', onP F.code.length F.f K left qn s 1 0 = some (K', l') → Small K' l' := fun K' l' ho => by
    unfold onP onR at ho
    split at ho
    · cases ho
    · rename_i hq
      split at hq
      · cases hq
        exact (hsm.to (by show s.tr.length ≤ _; omega) ho).small (by omega)
      · cases hq
  have HS := Lib.hid hS
  have HS0 := Lib.hid (hsm.small (by omega))
  have hX : stepX F K left qn ⟨10, xa, xb, xc, xt⟩ s = match onP F.code.length F.f K left qn s 1 0 with | none => none | some r => toP F.code.length r.1 r.2 (xa, ⟨s.h - 1, s.tr⟩) := by
    unfold stepX
    rw [stepR_10]
    unfold onP onR
    by_cases hc : floorOf F.f K s ≤ s.h - 1
    · rw [if_pos hc, show s.h - 1 + 0 = s.h - 1 by omega]; exact toAll_two _ _ _ _ _
    · rw [if_neg hc]; rfl
  have HX := Lib.hid hX
  unfold stA at HON
  clear hX hS hbx h hv hb2 hw2 hv2 hin hdom hsm hx hts hk2 hs hlc hz2
  go_enter Tryz.func31, Tryz.ntmps31
  go_upto_region 1 with (fail)
  go_region
  rw [← hW2]
  clear hW2 f0 f2 f6 i1 i0 im j1 j0 jm gl cl c0 x0 x1 x2 x3 x4 s0 s1 s2 ml
  go_wp2_with fail
  refine HON.out.mono ?_
  rintro e w5 ⟨rfl, K', l', lv', bad', hr, hk, hcase⟩
  obtain ⟨⟨y0, y1, y2, y3, y4, y5⟩, y6, y7⟩ := HBX.out w5 _ hk
  have f8 : w5.cell? ⟨p.pb, 8, none⟩ = some (.bool bad') := (hr.cells 8).1
  have pl5 := hr.pblt
  have npb : p.pb ≠ w.heap.size := by omega
  rcases hcase with ⟨hc, rfl⟩ | ⟨hc, rfl, rfl, rfl⟩
  · have HC := HT2.out w5 K' l' lv' false hr hk (HS.out _ _ hc)
    have H2 := Lib.hid HC.2
    have HG := Lib.hid hc
    clear hr hk hc HC
    go_wp2_with (go_at_call 30; refine H2.out.mono ?_; rintro e w6 ⟨rfl, hp⟩; have HP := Lib.hid hp; clear hp)
    go_end0
    refine ⟨rfl, ?_⟩
    rw [HX.out, HG.out]; exact HP.out.step
  · have HC := HT2.out w5 K' l' lv' true hr hk HS0.out
    have HE := Lib.hid HC.1
    have HG := Lib.hid hc
    clear hr hk hc HC
    go_wp2
    go_end0
    exact ⟨rfl, K', l', lv', true, HE.out.1, HE.out.2, .inr ⟨by rw [HX.out, HG.out], rfl⟩⟩
end Go.Ck
namespace Go.Ck
open Go Go.RowKit Go.Proofs
theorem stepR_root : StepOKR 23 := by
  intro p F w K lv left s qn N g1 o1 m fc cg co cc xa xb xc xt C H
  obtain ⟨a, c, W2, hW2, hv, hlc, ⟨f0, f2, f6, s0, s1, s2⟩, ⟨i1, i0, im, j1, j0, jm⟩, ⟨pl, ml, gl, cl⟩, ⟨hb2, hz2, hw2, hv2, hk2, hbl⟩, ⟨d0, d1, d2, dz, dl⟩, ⟨k0, k1, k2, k3, k4⟩, pl2, e2, e4, e5, e6, e8, z8⟩ := headR C H
  obtain ⟨h, hs, q1, qb, hin, hdom, hsm, hN, hlen, h0, h1, hx, hts⟩ := H
  obtain ⟨cf, cf1, cm, c0, x0, x1, x2, x3, x4⟩ := C
  simp only at hW2 k0 k1 k2 k3 k4
  have HK2 := Lib.hid hk2
  have HFT : Hid (RK p F (W2.setCell ⟨p.pb, 8, none⟩ (.bool true)) K lv left true ∧ Kept p.toPl lv.ownBlock lv.ownBlock W2 (W2.setCell ⟨p.pb, 8, none⟩ (.bool true))) := Lib.hid (hw2.flag true)
  have HFF : Hid (RK p F (W2.setCell ⟨p.pb, 8, none⟩ (.bool false)) K lv left false ∧ Kept p.toPl lv.ownBlock lv.ownBlock W2 (W2.setCell ⟨p.pb, 8, none⟩ (.bool false))) := Lib.hid (hw2.flag false)
  have hbx : W2.heap[w.heap.size]? = some (.cells #[.bool true, .int .i64 s.h, .slice a s.tr.length c] 93 (0, 0)) := by
    rw [hW2]
    exact (Below.heap_alloc _ _ _ (by simp)).trans (heap_alloc_new w _)
  have hmne : w.heap.size ≠ p.m := by omega
  have HBX : Hid (∀ (w5 : World) (q' : Option Nat), Kept p.toPl lv.ownBlock q' W2 w5 → (w5.cell? ⟨w.heap.size, 0, none⟩ = some (.bool true) ∧ w5.cell? ⟨w.heap.size, 1, none⟩ = some (.int .i64 s.h) ∧ w5.cell? ⟨w.heap.size, 2, none⟩ = some (.slice a s.tr.length c) ∧ w5.frozen? ⟨w.heap.size, 1, none⟩ = false ∧ w.heap.size < w5.heap.size ∧ w.heap.size + 1 < w5.heap.size) ∧ w5.cell? ⟨w.heap.size + 1, 1, none⟩ = some (.int .i64 xa) ∧ w5.cell? ⟨w.heap.size + 1, 2, none⟩ = some (.int .i64 xb)) := Lib.hid fun w5 q' hk => by
    obtain ⟨t1, t2⟩ := Kept.boxes h hz2 hk
    have hs5 := hk.size
    exact ⟨⟨(cells_of_heap t1 0).1.trans d0, (cells_of_heap t1 1).1.trans d1, (cells_of_heap t1 2).1.trans d2, (cells_of_heap t1 1).2.trans dz, by omega, by omega⟩, (cells_of_heap t2 1).1.trans k1, (cells_of_heap t2 2).1.trans k2⟩
  have HT2 : Hid (∀ (w5 : World) K' l' lv' bd, RK p F w5 K' lv' l' bd → Kept p.toPl lv.ownBlock lv'.ownBlock W2 w5 → Small K' l' →
      (RK p F (w5.setCell ⟨w.heap.size, 1, none⟩ (.int .i64 (s.h + 1))) K' lv' l' bd ∧ Kept p.toPl lv.ownBlock lv'.ownBlock w (w5.setCell ⟨w.heap.size, 1, none⟩ (.int .i64 (s.h + 1)))) ∧
      Calls Tryz.prog 30 #[.pointer (some ⟨p.pb, 0, none⟩), .int .i64 xb, .agg #[.bool true, .int .i64 (s.h + 1), .slice a s.tr.length c]] (w5.setCell ⟨w.heap.size, 1, none⟩ (.int .i64 (s.h + 1))) fun e w' => e = .returned (.tuple #[]) ∧ ToPost (toP F.code.length K' l' (xb, ⟨s.h + 1, s.tr⟩)) p F K' lv l' bd w w') := Lib.hid fun w5 K' l' lv' bd hr hk hsm' => by
    obtain ⟨t1, t2⟩ := Kept.boxes h hz2 hk
    have hb5 : w5.heap[w.heap.size]? = some (.cells #[.bool true, .int .i64 s.h, .slice a s.tr.length c] 93 (0, 0)) := t1.trans hbx
    have hr6 := hr.box hb5 hmne 1 (.int .i64 (s.h + 1))
    have hv6 : TrV (w5.setCell ⟨w.heap.size, 1, none⟩ (.int .i64 (s.h + 1))) p.base lv'.ownBlock (.slice a s.tr.length c) s.tr := (hv2.keptR hk hw2).boxR hb5 1 _
    have hk6 : Kept p.toPl lv.ownBlock lv'.ownBlock w (w5.setCell ⟨w.heap.size, 1, none⟩ (.int .i64 (s.h + 1))) := (hk2.trans hk).setBox (Nat.le_refl _) 1 _
    exact ⟨⟨hr6, hk6⟩, (toR_spec (b := true) (s := ⟨s.h + 1, s.tr⟩) (q := xb) hr6 hv6 hsm' (by show s.tr.length ≤ _; omega)).mono fun e w' ⟨y1, y2⟩ => ⟨y1, y2.from hk6⟩⟩
  have HT1 : Hid (∀ x bd, RK p F x K lv left bd → Kept p.toPl lv.ownBlock lv.ownBlock W2 x → Calls Tryz.prog 30 #[.pointer (some ⟨p.pb, 0, none⟩), .int .i64 ((qn : Int) + 1), .agg #[.bool true, .int .i64 s.h, .slice a s.tr.length c]] x fun e w' => e = .returned (.tuple #[]) ∧ ToPost (toP F.code.length K left ((qn : Int) + 1, s)) p F K lv left bd W2 w') := Lib.hid fun x bd hr hk =>
    (toR_spec (b := true) (s := s) (q := (qn : Int) + 1) hr (hv2.keptR hk hw2) (hsm.small (by omega)) (by omega)).mono fun e w' ⟨t1, t2⟩ => ⟨t1, t2.from hk⟩
  have HS : Hid (∀ K' l', toP F.code.length K left ((qn : Int) + 1, s) = some (K', l') → Small K' l') := Lib.hid fun K' l' ho => (hsm.to (by show s.tr.length ≤ _; omega) ho).small (by omega)
  have HS0 := Lib.hid (hsm.small (by omega))
  have wr2 : IntKind.i64.wrap (s.h + 1) = s.h + 1 := by rw [IntKind.wrap_i64]; omega
  have wr3 : IntKind.i64.wrap ((qn : Int) + 1) = (qn : Int) + 1 := by rw [IntKind.wrap_i64]; omega
  by_cases hf : F.f = 0
  · have HX : Hid (stepX F K left qn ⟨23, xa, xb, xc, xt⟩ s = match toP F.code.length K left ((qn : Int) + 1, s) with | none => none | some r => toP F.code.length r.1 r.2 (xb, ⟨s.h + 1, s.tr⟩)) := Lib.hid (by unfold stepX; rw [stepR_23, if_pos hf]; exact toAll_two _ _ _ _ _)
    have H1 := Lib.hid (HT1.out _ false HFF.out.1 HFF.out.2)
    rw [show (F.f : Int) = 0 by omega] at e2
    clear hf HT1 HFT HFF
    clear hbx h hv hb2 hw2 hv2 hin hdom hsm hx hts hk2 hs hlc hz2
    go_enter Tryz.func31, Tryz.ntmps31
    go_upto_region 1 with (fail)
    go_region
    rw [← hW2]
    clear hW2 f0 f2 f6 i1 i0 im j1 j0 jm gl cl c0 x0 x1 x2 x3 x4 s0 s1 s2 ml
    go_wp2_with fail
    refine H1.out.mono ?_
    rintro e w5 ⟨rfl, K', l', lv', bad', hr, hk, hcase⟩
    obtain ⟨⟨y0, y1, y2, y3, y4, y5⟩, y6, y7⟩ := HBX.out w5 _ hk
    rcases hcase with ⟨hc, rfl⟩ | ⟨hc, rfl, rfl, rfl⟩
    · have HC := HT2.out w5 K' l' lv' false hr hk (HS.out _ _ hc)
      have HG := Lib.hid hc
      clear hc
      have H2 := Lib.hid HC.2
      clear hr hk HC
      go_wp2_with (go_at_call 30; refine H2.out.mono ?_; rintro e w6 ⟨rfl, hp⟩; have HP := Lib.hid hp; clear hp)
      go_end0
      refine ⟨rfl, ?_⟩
      rw [HX.out, HG.out]; exact HP.out.step
    · have HC := HT2.out w5 K' l' lv' true hr hk HS0.out
      have HG := Lib.hid hc
      clear hc
      have H2 := Lib.hid HC.2
      clear hr hk HC
      go_wp2_with (go_at_call 30; refine H2.out.mono ?_; rintro e w6 ⟨rfl, hp⟩; have HP := Lib.hid hp; clear hp)
      go_end0
      refine ⟨rfl, ?_⟩
      rw [HX.out, HG.out]; exact HP.out.stepNone
  · have HX : Hid (stepX F K left qn ⟨23, xa, xb, xc, xt⟩ s = none) := Lib.hid (stepX_none (by rw [stepR_23, if_neg hf]))
    have H1 := Lib.hid (HT1.out _ true HFT.out.1 HFT.out.2)
    have hd : ((F.f : Int) == 0) = false := by simpa using hf
    clear hf HT1 HFT HFF
    clear hbx h hv hb2 hw2 hv2 hin hdom hsm hx hts hk2 hs hlc hz2
    go_enter Tryz.func31, Tryz.ntmps31
    go_upto_region 1 with (fail)
    go_region
    rw [← hW2]
    clear hW2 f0 f2 f6 i1 i0 im j1 j0 jm gl cl c0 x0 x1 x2 x3 x4 s0 s1 s2 ml
    go_wp2_with fail
    refine H1.out.mono ?_
    rintro e w5 ⟨rfl, K', l', lv', bad', hr, hk, hcase⟩
    obtain ⟨⟨y0, y1, y2, y3, y4, y5⟩, y6, y7⟩ := HBX.out w5 _ hk
    rcases hcase with ⟨hc, rfl⟩ | ⟨hc, rfl, rfl, rfl⟩
    · have HC := HT2.out w5 K' l' lv' true hr hk (HS.out _ _ hc)
      clear hc
      have H2 := Lib.hid HC.2
      clear hr hk HC
      go_wp2_with (go_at_call 30; refine H2.out.mono ?_; rintro e w6 ⟨rfl, hp⟩; have HP := Lib.hid hp; clear hp)
      go_end0
      refine ⟨rfl, ?_⟩
      rw [HX.out]; exact HP.out.stepNone
    · have HC := HT2.out w5 K' l' lv' true hr hk HS0.out
      clear hc
      have H2 := Lib.hid HC.2
      clear hr hk HC
      go_wp2_with (go_at_call 30; refine H2.out.mono ?_; rintro e w6 ⟨rfl, hp⟩; have HP := Lib.hid hp; clear hp)
      go_end0
      refine ⟨rfl, ?_⟩
      rw [HX.out]; exact HP.out.stepNone
end Go.Ck
namespace Go.Ck
open Go Go.RowKit Go.Proofs
theorem stepR_try : StepOKR 18 := by
  intro p F w K lv left s qn N g1 o1 m fc cg co cc xa xb xc xt C H
  obtain ⟨a, c, W2, hW2, hv, hlc, ⟨f0, f2, f6, s0, s1, s2⟩, ⟨i1, i0, im, j1, j0, jm⟩, ⟨pl, ml, gl, cl⟩, ⟨hb2, hz2, hw2, hv2, hk2, hbl⟩, ⟨d0, d1, d2, dz, dl⟩, ⟨k0, k1, k2, k3, k4⟩, pl2, e2, e4, e5, e6, e8, z8⟩ := headR C H
  obtain ⟨h, hs, q1, qb, hin, hdom, hsm, hN, hlen, h0, h1, hx, hts⟩ := H
  obtain ⟨cf, cf1, cm, c0, x0, x1, x2, x3, x4⟩ := C
  simp only at hW2 k0 k1 k2 k3 k4
  have HK2 := Lib.hid hk2
  have hbx : W2.heap[w.heap.size]? = some (.cells #[.bool true, .int .i64 s.h, .slice a s.tr.length c] 93 (0, 0)) := by
    rw [hW2]
    exact (Below.heap_alloc _ _ _ (by simp)).trans (heap_alloc_new w _)
  have hmne : w.heap.size ≠ p.m := by omega
  have HBX : Hid (∀ (w5 : World) (q' : Option Nat), Kept p.toPl lv.ownBlock q' W2 w5 → (w5.cell? ⟨w.heap.size, 0, none⟩ = some (.bool true) ∧ w5.cell? ⟨w.heap.size, 1, none⟩ = some (.int .i64 s.h) ∧ w5.cell? ⟨w.heap.size, 2, none⟩ = some (.slice a s.tr.length c) ∧ w5.frozen? ⟨w.heap.size, 1, none⟩ = false ∧ w.heap.size < w5.heap.size ∧ w.heap.size + 1 < w5.heap.size) ∧ w5.cell? ⟨w.heap.size + 1, 1, none⟩ = some (.int .i64 xa) ∧ w5.cell? ⟨w.heap.size + 1, 2, none⟩ = some (.int .i64 xb)) := Lib.hid fun w5 q' hk => by
    obtain ⟨t1, t2⟩ := Kept.boxes h hz2 hk
    have hs5 := hk.size
    exact ⟨⟨(cells_of_heap t1 0).1.trans d0, (cells_of_heap t1 1).1.trans d1, (cells_of_heap t1 2).1.trans d2, (cells_of_heap t1 1).2.trans dz, by omega, by omega⟩, (cells_of_heap t2 1).1.trans k1, (cells_of_heap t2 2).1.trans k2⟩
  have wr2 : IntKind.i64.wrap (s.h + 1) = s.h + 1 := by rw [IntKind.wrap_i64]; omega
  have wr3 : IntKind.i64.wrap ((qn : Int) + 1) = (qn : Int) + 1 := by rw [IntKind.wrap_i64]; omega
  have hw2d := hw2.grow (Below.refl _ _).drew
  have hv2d := hv2.grow (Below.refl _ _).drew
  have d1d : W2.drew.cell? ⟨w.heap.size, 1, none⟩ = some (.int .i64 s.h) := d1
  have d2d : W2.drew.cell? ⟨w.heap.size, 2, none⟩ = some (.slice a s.tr.length c) := d2
  have HMO : Hid (Calls Tryz.prog 55 #[.slice a s.tr.length c, .int .i64 qn] W2.drew fun e w' => ∃ a2 c2, e = .returned (.slice a2 (s.tr.length + 1) c2) ∧ Hid (w'.ownsRow W2.heap.size 3 1 (.slice a2 (s.tr.length + 1) c2) (s.tr.length + 1) ((s.tr ++ [(qn : Int)]).map intV)) ∧ Hid (Below W2.heap.size W2.drew w')) := Lib.hid ((moreR_ok (t := qn) hv2d (by omega)).mono fun e w' ⟨v', t1, t2, t3⟩ => by
    obtain ⟨a2, c2, rfl⟩ := own_slice t2
    exact ⟨a2, c2, t1, Lib.hid t2, Lib.hid t3⟩)
  have HT1 : Hid (∀ x a2 c2, Hid (x.ownsRow W2.heap.size 3 1 (.slice a2 (s.tr.length + 1) c2) (s.tr.length + 1) ((s.tr ++ [(qn : Int)]).map intV)) → Hid (Below W2.heap.size W2.drew x) → Calls Tryz.prog 30 #[.pointer (some ⟨p.pb, 0, none⟩), .int .i64 ((qn : Int) + 1), .agg #[.bool false, .int .i64 s.h, .slice a2 (s.tr.length + 1) c2]] x fun e w' => e = .returned (.tuple #[]) ∧ Hid (ToPost (toP F.code.length K left ((qn : Int) + 1, ⟨s.h, s.tr ++ [(qn : Int)]⟩)) p F K lv left false W2 w') ∧ (w'.cell? ⟨w.heap.size, 1, none⟩ = some (.int .i64 s.h) ∧ w'.cell? ⟨w.heap.size, 2, none⟩ = some (.slice a s.tr.length c))) := Lib.hid fun x a2 c2 ho hb => by
    have hbx : Below W2.heap.size W2 x := (Below.refl _ _).drew.trans hb.out
    have htr : TrV x p.base lv.ownBlock (.slice a2 (s.tr.length + 1) c2) (s.tr ++ [(qn : Int)]) := TrV.of_own (base := W2.heap.size) (by have := ho.out; simpa using this) (fun g hg => by have := h.own_lt g hg; omega) (by omega)
    refine (toR_spec (b := false) (s := ⟨s.h, s.tr ++ [(qn : Int)]⟩) (q := (qn : Int) + 1) (hw2.grow hbx) htr (hsm.small (by omega)) (by show (s.tr ++ [(qn : Int)]).length ≤ _; simp; omega)).mono fun e w' ⟨t1, t2⟩ => ?_
    have t3 := t2.from (lv0 := lv) (w0 := W2) (Kept.of_below hbx)
    obtain ⟨K', l', lv', bad', u1, u2, u3⟩ := id t3
    have u4 := (HBX.out w' _ u2).1
    exact ⟨t1, Lib.hid t3, u4.2.1, u4.2.2.1⟩
  have HS : Hid (∀ K' l', toP F.code.length K left ((qn : Int) + 1, ⟨s.h, s.tr ++ [(qn : Int)]⟩) = some (K', l') → Small K' l') := Lib.hid fun K' l' ho => (hsm.to (by show (s.tr ++ [(qn : Int)]).length ≤ _; simp; omega) ho).small (by omega)
  have HS0 := Lib.hid (hsm.small (by omega))
  have HT2 : Hid (∀ (w5 : World) K' l' lv' bd, RK p F w5 K' lv' l' bd → Kept p.toPl lv.ownBlock lv'.ownBlock W2 w5 → Small K' l' →
      Calls Tryz.prog 30 #[.pointer (some ⟨p.pb, 0, none⟩), .int .i64 xa, .agg #[.bool false, .int .i64 (s.h + 1), .slice a s.tr.length c]] w5 fun e w' => e = .returned (.tuple #[]) ∧ ToPost (toP F.code.length K' l' (xa, ⟨s.h + 1, s.tr⟩)) p F K' lv l' bd w w') := Lib.hid fun w5 K' l' lv' bd hr hk hsm' =>
    (toR_spec (b := false) (s := ⟨s.h + 1, s.tr⟩) (q := xa) hr (hv2.keptR hk hw2) hsm' (by show s.tr.length ≤ _; omega)).mono fun e w' ⟨y1, y2⟩ => ⟨y1, y2.from (hk2.trans hk)⟩
  have HX : Hid (stepX F K left qn ⟨18, xa, xb, xc, xt⟩ s = match toP F.code.length K left ((qn : Int) + 1, ⟨s.h, s.tr ++ [(qn : Int)]⟩) with | none => none | some r => toP F.code.length r.1 r.2 (xa, ⟨s.h + 1, s.tr⟩)) := Lib.hid (by unfold stepX; rw [stepR_18]; exact toAll_two _ _ _ _ _)
  clear hw2d hv2d hbx h hv hb2 hw2 hv2 hin hdom hsm hx hts hk2 hs hlc hz2
  go_enter Tryz.func31, Tryz.ntmps31
  go_upto_region 1 with (fail)
  go_region
  rw [← hW2]
  clear hW2 f0 f2 f6 i1 i0 im j1 j0 jm gl cl c0 x0 x1 x2 x3 x4 s0 s1 s2 ml
  go_wp2
  go_region_held3 (fun x => x.cell? ⟨w.heap.size, 1, none⟩ = some (.int .i64 s.h) ∧ x.cell? ⟨w.heap.size, 2, none⟩ = some (.slice a s.tr.length c)) ((first | exact ⟨d1d, d2d⟩ | assumption | (have hh := (‹Hid (Below W2.heap.size W2.drew _)›).out; exact ⟨(hh.cell (p := ⟨w.heap.size, 1, none⟩) dl).trans d1d, (hh.cell (p := ⟨w.heap.size, 2, none⟩) dl).trans d2d⟩)))
    ((first | (go_at_call 55; refine HMO.out.mono ?_; rintro e w3 ⟨a2, c2, rfl, HO3, HB3⟩) | (go_at_call 30; refine (HT1.out _ _ _ ‹_› ‹_›).mono ?_; rintro e w5 ⟨rfl, HP1, hcc⟩)))
  all_goals
    obtain ⟨K', l', lv', bad', hr, hk, hcase⟩ := HP1.out
    obtain ⟨⟨y0, y1, y2, y3, y4, y5⟩, y6, y7⟩ := HBX.out _ _ hk
    rcases hcase with ⟨hc, rfl⟩ | ⟨hc, rfl, rfl, rfl⟩
    · have H2 := Lib.hid (HT2.out _ K' l' lv' false hr hk (HS.out _ _ hc))
      have HG := Lib.hid hc
      clear hc hr hk HP1
      go_wp2_with (go_at_call 30; refine H2.out.mono ?_; rintro e w6 ⟨rfl, hp⟩; have HP := Lib.hid hp; clear hp)
      go_end0
      refine ⟨rfl, ?_⟩
      rw [HX.out, HG.out]; exact HP.out.step
    · have H2 := Lib.hid (HT2.out _ K' l' lv' true hr hk HS0.out)
      have HG := Lib.hid hc
      clear hc hr hk HP1
      go_wp2_with (go_at_call 30; refine H2.out.mono ?_; rintro e w6 ⟨rfl, hp⟩; have HP := Lib.hid hp; clear hp)
      go_end0
      refine ⟨rfl, ?_⟩
      rw [HX.out, HG.out]; exact HP.out.stepNone
end Go.Ck
