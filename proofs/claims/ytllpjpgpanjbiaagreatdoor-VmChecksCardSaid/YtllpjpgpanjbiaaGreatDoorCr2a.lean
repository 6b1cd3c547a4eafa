/- A part of the proof of VmChecks: what a function of the program or of the reference answers, walked by hand. Each theorem says its own conditions. -/
import Derived.Test.YtllpjpgpanjbiaaGreatDoorCr1
set_option linter.unusedVariables false
set_option linter.unusedSimpArgs false
set_option maxRecDepth 100000
set_option maxHeartbeats 1600000
namespace Go.Ck
open Go Go.RowKit Go.Proofs
theorem stepR_int : StepOKR 1 := by
  intro p F w K lv left s qn N g1 o1 m fc cg co cc xa xb xc xt C H
  obtain ⟨a, c, W2, hW2, hv, hlc, ⟨f0, f2, f6, s0, s1, s2⟩, ⟨i1, i0, im, j1, j0, jm⟩, ⟨pl, ml, gl, cl⟩, ⟨hb2, hz2, hw2, hv2, hk2, hbl⟩, ⟨d0, d1, d2, dz, dl⟩, ⟨k0, k1, k2, k3, k4⟩, pl2, e2, e4, e5, e6, e8, z8⟩ := headR C H
  obtain ⟨h, hs, q1, qb, hin, hdom, hsm, hN, hlen, h0, h1, hx, hts⟩ := H
  obtain ⟨cf, cf1, cm, c0, x0, x1, x2, x3, x4⟩ := C
  simp only at hW2 k0 k1 k2 k3 k4
  have HK2 := Lib.hid hk2
  have HON := Lib.hid (onR_ok (b := true) (q := qn) (takes := 0) (puts := 1) hw2 hv2 hin hdom (hsm.small (by omega)) (by omega) h0 (by omega) (by omega) (by omega) (by omega) (by omega) (by omega) (by omega))
  have HX : Hid (stepX F K left qn ⟨1, xa, xb, xc, xt⟩ s = onP F.code.length F.f K left qn s (0) (1)) := Lib.hid (stepX_on rfl)
  unfold stA at HON
  clear h hv hb2 hw2 hv2 hin hdom hsm hx hts hk2 hs hlc hz2
  go_enter Tryz.func31, Tryz.ntmps31
  go_upto_region 1 with (fail)
  go_region
  rw [← hW2]
  clear hW2 f0 f2 f6 i1 i0 im j1 j0 jm gl cl c0 x0 x1 x2 x3 x4 s0 s1 s2 ml
  go_wp2_with ((go_at_call 53; refine HON.out.mono ?_; rintro e w5 ⟨rfl, hp⟩; have HP := Lib.hid hp; clear hp))
  go_end0
  exact ⟨rfl, by rw [HX.out]; exact HP.out.step.from HK2.out⟩
theorem stepR_str : StepOKR 2 := by
  intro p F w K lv left s qn N g1 o1 m fc cg co cc xa xb xc xt C H
  obtain ⟨a, c, W2, hW2, hv, hlc, ⟨f0, f2, f6, s0, s1, s2⟩, ⟨i1, i0, im, j1, j0, jm⟩, ⟨pl, ml, gl, cl⟩, ⟨hb2, hz2, hw2, hv2, hk2, hbl⟩, ⟨d0, d1, d2, dz, dl⟩, ⟨k0, k1, k2, k3, k4⟩, pl2, e2, e4, e5, e6, e8, z8⟩ := headR C H
  obtain ⟨h, hs, q1, qb, hin, hdom, hsm, hN, hlen, h0, h1, hx, hts⟩ := H
  obtain ⟨cf, cf1, cm, c0, x0, x1, x2, x3, x4⟩ := C
  simp only at hW2 k0 k1 k2 k3 k4
  have HK2 := Lib.hid hk2
  have HON := Lib.hid (onR_ok (b := true) (q := qn) (takes := 0) (puts := 1) hw2 hv2 hin hdom (hsm.small (by omega)) (by omega) h0 (by omega) (by omega) (by omega) (by omega) (by omega) (by omega) (by omega))
  have HX : Hid (stepX F K left qn ⟨2, xa, xb, xc, xt⟩ s = onP F.code.length F.f K left qn s (0) (1)) := Lib.hid (stepX_on rfl)
  unfold stA at HON
  clear h hv hb2 hw2 hv2 hin hdom hsm hx hts hk2 hs hlc hz2
  go_enter Tryz.func31, Tryz.ntmps31
  go_upto_region 1 with (fail)
  go_region
  rw [← hW2]
  clear hW2 f0 f2 f6 i1 i0 im j1 j0 jm gl cl c0 x0 x1 x2 x3 x4 s0 s1 s2 ml
  go_wp2_with ((go_at_call 53; refine HON.out.mono ?_; rintro e w5 ⟨rfl, hp⟩; have HP := Lib.hid hp; clear hp))
  go_end0
  exact ⟨rfl, by rw [HX.out]; exact HP.out.step.from HK2.out⟩
theorem stepR_call : StepOKR 7 := by
  intro p F w K lv left s qn N g1 o1 m fc cg co cc xa xb xc xt C H
  obtain ⟨a, c, W2, hW2, hv, hlc, ⟨f0, f2, f6, s0, s1, s2⟩, ⟨i1, i0, im, j1, j0, jm⟩, ⟨pl, ml, gl, cl⟩, ⟨hb2, hz2, hw2, hv2, hk2, hbl⟩, ⟨d0, d1, d2, dz, dl⟩, ⟨k0, k1, k2, k3, k4⟩, pl2, e2, e4, e5, e6, e8, z8⟩ := headR C H
  obtain ⟨h, hs, q1, qb, hin, hdom, hsm, hN, hlen, h0, h1, hx, hts⟩ := H
  obtain ⟨cf, cf1, cm, c0, x0, x1, x2, x3, x4⟩ := C
  simp only at hW2 k0 k1 k2 k3 k4
  have HK2 := Lib.hid hk2
  have HON := Lib.hid (onR_ok (b := true) (q := qn) (takes := 2) (puts := 1) hw2 hv2 hin hdom (hsm.small (by omega)) (by omega) h0 (by omega) (by omega) (by omega) (by omega) (by omega) (by omega) (by omega))
  have HX : Hid (stepX F K left qn ⟨7, xa, xb, xc, xt⟩ s = onP F.code.length F.f K left qn s (2) (1)) := Lib.hid (stepX_on rfl)
  unfold stA at HON
  clear h hv hb2 hw2 hv2 hin hdom hsm hx hts hk2 hs hlc hz2
  go_enter Tryz.func31, Tryz.ntmps31
  go_upto_region 1 with (fail)
  go_region
  rw [← hW2]
  clear hW2 f0 f2 f6 i1 i0 im j1 j0 jm gl cl c0 x0 x1 x2 x3 x4 s0 s1 s2 ml
  go_wp2_with ((go_at_call 53; refine HON.out.mono ?_; rintro e w5 ⟨rfl, hp⟩; have HP := Lib.hid hp; clear hp))
  go_end0
  exact ⟨rfl, by rw [HX.out]; exact HP.out.step.from HK2.out⟩
end Go.Ck
namespace Go.Ck
open Go Go.RowKit Go.Proofs
theorem stepR_group : StepOKR 6 := by
  intro p F w K lv left s qn N g1 o1 m fc cg co cc xa xb xc xt C H
  obtain ⟨a, c, W2, hW2, hv, hlc, ⟨f0, f2, f6, s0, s1, s2⟩, ⟨i1, i0, im, j1, j0, jm⟩, ⟨pl, ml, gl, cl⟩, ⟨hb2, hz2, hw2, hv2, hk2, hbl⟩, ⟨d0, d1, d2, dz, dl⟩, ⟨k0, k1, k2, k3, k4⟩, pl2, e2, e4, e5, e6, e8, z8⟩ := headR C H
  obtain ⟨h, hs, q1, qb, hin, hdom, hsm, hN, hlen, h0, h1, hx, hts⟩ := H
  obtain ⟨cf, cf1, cm, c0, x0, x1, x2, x3, x4⟩ := C
  simp only at hW2 k0 k1 k2 k3 k4
  have HK2 := Lib.hid hk2
  have HON := Lib.hid (onR_ok (b := true) (q := qn) (takes := xc) (puts := xb) hw2 hv2 hin hdom (hsm.small (by omega)) (by omega) h0 (by omega) (by obtain ⟨y1, y2, y3, y4, y5⟩ := hx; simp only at y1 y2 y3 y4 y5; omega) (by obtain ⟨y1, y2, y3, y4, y5⟩ := hx; simp only at y1 y2 y3 y4 y5; omega) (by obtain ⟨y1, y2, y3, y4, y5⟩ := hx; simp only at y1 y2 y3 y4 y5; omega) (by obtain ⟨y1, y2, y3, y4, y5⟩ := hx; simp only at y1 y2 y3 y4 y5; omega) (by omega) (by omega))
  have HX : Hid (stepX F K left qn ⟨6, xa, xb, xc, xt⟩ s = onP F.code.length F.f K left qn s (xc) (xb)) := Lib.hid (stepX_on rfl)
  unfold stA at HON
  clear h hv hb2 hw2 hv2 hin hdom hsm hx hts hk2 hs hlc hz2
  go_enter Tryz.func31, Tryz.ntmps31
  go_upto_region 1 with (fail)
  go_region
  rw [← hW2]
  clear hW2 f0 f2 f6 i1 i0 im j1 j0 jm gl cl c0 x0 x1 x2 x3 x4 s0 s1 s2 ml
  go_wp2_with ((go_at_call 53; refine HON.out.mono ?_; rintro e w5 ⟨rfl, hp⟩; have HP := Lib.hid hp; clear hp))
  go_end0
  exact ⟨rfl, by rw [HX.out]; exact HP.out.step.from HK2.out⟩
theorem stepR_tuple : StepOKR 11 := by
  intro p F w K lv left s qn N g1 o1 m fc cg co cc xa xb xc xt C H
  obtain ⟨a, c, W2, hW2, hv, hlc, ⟨f0, f2, f6, s0, s1, s2⟩, ⟨i1, i0, im, j1, j0, jm⟩, ⟨pl, ml, gl, cl⟩, ⟨hb2, hz2, hw2, hv2, hk2, hbl⟩, ⟨d0, d1, d2, dz, dl⟩, ⟨k0, k1, k2, k3, k4⟩, pl2, e2, e4, e5, e6, e8, z8⟩ := headR C H
  obtain ⟨h, hs, q1, qb, hin, hdom, hsm, hN, hlen, h0, h1, hx, hts⟩ := H
  obtain ⟨cf, cf1, cm, c0, x0, x1, x2, x3, x4⟩ := C
  simp only at hW2 k0 k1 k2 k3 k4
  have HK2 := Lib.hid hk2
  have HON := Lib.hid (onR_ok (b := true) (q := qn) (takes := xa) (puts := 1) hw2 hv2 hin hdom (hsm.small (by omega)) (by omega) h0 (by omega) (by obtain ⟨y1, y2, y3, y4, y5⟩ := hx; have y6 := y1 (by simp); simp only at y2 y3 y4 y5 y6; omega) (by obtain ⟨y1, y2, y3, y4, y5⟩ := hx; have y6 := y1 (by simp); simp only at y2 y3 y4 y5 y6; omega) (by obtain ⟨y1, y2, y3, y4, y5⟩ := hx; have y6 := y1 (by simp); simp only at y2 y3 y4 y5 y6; omega) (by obtain ⟨y1, y2, y3, y4, y5⟩ := hx; have y6 := y1 (by simp); simp only at y2 y3 y4 y5 y6; omega) (by omega) (by omega))
  have HX : Hid (stepX F K left qn ⟨11, xa, xb, xc, xt⟩ s = onP F.code.length F.f K left qn s (xa) (1)) := Lib.hid (stepX_on rfl)
  unfold stA at HON
  clear h hv hb2 hw2 hv2 hin hdom hsm hx hts hk2 hs hlc hz2
  go_enter Tryz.func31, Tryz.ntmps31
  go_upto_region 1 with (fail)
  go_region
  rw [← hW2]
  clear hW2 f0 f2 f6 i1 i0 im j1 j0 jm gl cl c0 x0 x1 x2 x3 x4 s0 s1 s2 ml
  go_wp2_with ((go_at_call 53; refine HON.out.mono ?_; rintro e w5 ⟨rfl, hp⟩; have HP := Lib.hid hp; clear hp))
  go_end0
  exact ⟨rfl, by rw [HX.out]; exact HP.out.step.from HK2.out⟩
theorem stepR_field : StepOKR 12 := by
  intro p F w K lv left s qn N g1 o1 m fc cg co cc xa xb xc xt C H
  obtain ⟨a, c, W2, hW2, hv, hlc, ⟨f0, f2, f6, s0, s1, s2⟩, ⟨i1, i0, im, j1, j0, jm⟩, ⟨pl, ml, gl, cl⟩, ⟨hb2, hz2, hw2, hv2, hk2, hbl⟩, ⟨d0, d1, d2, dz, dl⟩, ⟨k0, k1, k2, k3, k4⟩, pl2, e2, e4, e5, e6, e8, z8⟩ := headR C H
  obtain ⟨h, hs, q1, qb, hin, hdom, hsm, hN, hlen, h0, h1, hx, hts⟩ := H
  obtain ⟨cf, cf1, cm, c0, x0, x1, x2, x3, x4⟩ := C
  simp only at hW2 k0 k1 k2 k3 k4
  have HK2 := Lib.hid hk2
  have HON := Lib.hid (onR_ok (b := true) (q := qn) (takes := 1) (puts := 1) hw2 hv2 hin hdom (hsm.small (by omega)) (by omega) h0 (by omega) (by omega) (by omega) (by omega) (by omega) (by omega) (by omega))
  have HX : Hid (stepX F K left qn ⟨12, xa, xb, xc, xt⟩ s = onP F.code.length F.f K left qn s (1) (1)) := Lib.hid (stepX_on rfl)
  unfold stA at HON
  clear h hv hb2 hw2 hv2 hin hdom hsm hx hts hk2 hs hlc hz2
  go_enter Tryz.func31, Tryz.ntmps31
  go_upto_region 1 with (fail)
  go_region
  rw [← hW2]
  clear hW2 f0 f2 f6 i1 i0 im j1 j0 jm gl cl c0 x0 x1 x2 x3 x4 s0 s1 s2 ml
  go_wp2_with ((go_at_call 53; refine HON.out.mono ?_; rintro e w5 ⟨rfl, hp⟩; have HP := Lib.hid hp; clear hp))
  go_end0
  exact ⟨rfl, by rw [HX.out]; exact HP.out.step.from HK2.out⟩
end Go.Ck
namespace Go.Ck
open Go Go.RowKit Go.Proofs
theorem stepR_is : StepOKR 14 := by
  intro p F w K lv left s qn N g1 o1 m fc cg co cc xa xb xc xt C H
  obtain ⟨a, c, W2, hW2, hv, hlc, ⟨f0, f2, f6, s0, s1, s2⟩, ⟨i1, i0, im, j1, j0, jm⟩, ⟨pl, ml, gl, cl⟩, ⟨hb2, hz2, hw2, hv2, hk2, hbl⟩, ⟨d0, d1, d2, dz, dl⟩, ⟨k0, k1, k2, k3, k4⟩, pl2, e2, e4, e5, e6, e8, z8⟩ := headR C H
  obtain ⟨h, hs, q1, qb, hin, hdom, hsm, hN, hlen, h0, h1, hx, hts⟩ := H
  obtain ⟨cf, cf1, cm, c0, x0, x1, x2, x3, x4⟩ := C
  simp only at hW2 k0 k1 k2 k3 k4
  have HK2 := Lib.hid hk2
  have HON := Lib.hid (onR_ok (b := true) (q := qn) (takes := 1) (puts := 1) hw2 hv2 hin hdom (hsm.small (by omega)) (by omega) h0 (by omega) (by omega) (by omega) (by omega) (by omega) (by omega) (by omega))
  have HX : Hid (stepX F K left qn ⟨14, xa, xb, xc, xt⟩ s = onP F.code.length F.f K left qn s (1) (1)) := Lib.hid (stepX_on rfl)
  unfold stA at HON
  clear h hv hb2 hw2 hv2 hin hdom hsm hx hts hk2 hs hlc hz2
  go_enter Tryz.func31, Tryz.ntmps31
  go_upto_region 1 with (fail)
  go_region
  rw [← hW2]
  clear hW2 f0 f2 f6 i1 i0 im j1 j0 jm gl cl c0 x0 x1 x2 x3 x4 s0 s1 s2 ml
  go_wp2_with ((go_at_call 53; refine HON.out.mono ?_; rintro e w5 ⟨rfl, hp⟩; have HP := Lib.hid hp; clear hp))
  go_end0
  exact ⟨rfl, by rw [HX.out]; exact HP.out.step.from HK2.out⟩
theorem stepR_pay : StepOKR 15 := by
  intro p F w K lv left s qn N g1 o1 m fc cg co cc xa xb xc xt C H
  obtain ⟨a, c, W2, hW2, hv, hlc, ⟨f0, f2, f6, s0, s1, s2⟩, ⟨i1, i0, im, j1, j0, jm⟩, ⟨pl, ml, gl, cl⟩, ⟨hb2, hz2, hw2, hv2, hk2, hbl⟩, ⟨d0, d1, d2, dz, dl⟩, ⟨k0, k1, k2, k3, k4⟩, pl2, e2, e4, e5, e6, e8, z8⟩ := headR C H
  obtain ⟨h, hs, q1, qb, hin, hdom, hsm, hN, hlen, h0, h1, hx, hts⟩ := H
  obtain ⟨cf, cf1, cm, c0, x0, x1, x2, x3, x4⟩ := C
  simp only at hW2 k0 k1 k2 k3 k4
  have HK2 := Lib.hid hk2
  have HON := Lib.hid (onR_ok (b := true) (q := qn) (takes := 1) (puts := 1) hw2 hv2 hin hdom (hsm.small (by omega)) (by omega) h0 (by omega) (by omega) (by omega) (by omega) (by omega) (by omega) (by omega))
  have HX : Hid (stepX F K left qn ⟨15, xa, xb, xc, xt⟩ s = onP F.code.length F.f K left qn s (1) (1)) := Lib.hid (stepX_on rfl)
  unfold stA at HON
  clear h hv hb2 hw2 hv2 hin hdom hsm hx hts hk2 hs hlc hz2
  go_enter Tryz.func31, Tryz.ntmps31
  go_upto_region 1 with (fail)
  go_region
  rw [← hW2]
  clear hW2 f0 f2 f6 i1 i0 im j1 j0 jm gl cl c0 x0 x1 x2 x3 x4 s0 s1 s2 ml
  go_wp2_with ((go_at_call 53; refine HON.out.mono ?_; rintro e w5 ⟨rfl, hp⟩; have HP := Lib.hid hp; clear hp))
  go_end0
  exact ⟨rfl, by rw [HX.out]; exact HP.out.step.from HK2.out⟩
theorem stepR_con : StepOKR 13 := by
  intro p F w K lv left s qn N g1 o1 m fc cg co cc xa xb xc xt C H
  obtain ⟨a, c, W2, hW2, hv, hlc, ⟨f0, f2, f6, s0, s1, s2⟩, ⟨i1, i0, im, j1, j0, jm⟩, ⟨pl, ml, gl, cl⟩, ⟨hb2, hz2, hw2, hv2, hk2, hbl⟩, ⟨d0, d1, d2, dz, dl⟩, ⟨k0, k1, k2, k3, k4⟩, pl2, e2, e4, e5, e6, e8, z8⟩ := headR C H
  obtain ⟨h, hs, q1, qb, hin, hdom, hsm, hN, hlen, h0, h1, hx, hts⟩ := H
  obtain ⟨cf, cf1, cm, c0, x0, x1, x2, x3, x4⟩ := C
  simp only at hW2 k0 k1 k2 k3 k4
  have HK2 := Lib.hid hk2
  have HON := Lib.hid (onR_ok (b := true) (q := qn) (takes := xb) (puts := 1) hw2 hv2 hin hdom (hsm.small (by omega)) (by omega) h0 (by omega) (by obtain ⟨y1, y2, y3, y4, y5⟩ := hx; simp only at y1 y2 y3 y4 y5; omega) (by obtain ⟨y1, y2, y3, y4, y5⟩ := hx; simp only at y1 y2 y3 y4 y5; omega) (by obtain ⟨y1, y2, y3, y4, y5⟩ := hx; simp only at y1 y2 y3 y4 y5; omega) (by obtain ⟨y1, y2, y3, y4, y5⟩ := hx; simp only at y1 y2 y3 y4 y5; omega) (by omega) (by omega))
  have HX : Hid (stepX F K left qn ⟨13, xa, xb, xc, xt⟩ s = onP F.code.length F.f K left qn s (xb) (1)) := Lib.hid (stepX_on rfl)
  unfold stA at HON
  clear h hv hb2 hw2 hv2 hin hdom hsm hx hts hk2 hs hlc hz2
  go_enter Tryz.func31, Tryz.ntmps31
  go_upto_region 1 with (fail)
  go_region
  rw [← hW2]
  clear hW2 f0 f2 f6 i1 i0 im j1 j0 jm gl cl c0 x0 x1 x2 x3 x4 s0 s1 s2 ml
  go_wp2_with ((go_at_call 53; refine HON.out.mono ?_; rintro e w5 ⟨rfl, hp⟩; have HP := Lib.hid hp; clear hp))
  go_end0
  exact ⟨rfl, by rw [HX.out]; exact HP.out.step.from HK2.out⟩
end Go.Ck
namespace Go.Ck
open Go Go.RowKit Go.Proofs
theorem stepR_exn : StepOKR 22 := by
  intro p F w K lv left s qn N g1 o1 m fc cg co cc xa xb xc xt C H
  obtain ⟨a, c, W2, hW2, hv, hlc, ⟨f0, f2, f6, s0, s1, s2⟩, ⟨i1, i0, im, j1, j0, jm⟩, ⟨pl, ml, gl, cl⟩, ⟨hb2, hz2, hw2, hv2, hk2, hbl⟩, ⟨d0, d1, d2, dz, dl⟩, ⟨k0, k1, k2, k3, k4⟩, pl2, e2, e4, e5, e6, e8, z8⟩ := headR C H
  obtain ⟨h, hs, q1, qb, hin, hdom, hsm, hN, hlen, h0, h1, hx, hts⟩ := H
  obtain ⟨cf, cf1, cm, c0, x0, x1, x2, x3, x4⟩ := C
  simp only at hW2 k0 k1 k2 k3 k4
  have HK2 := Lib.hid hk2
  have HON := Lib.hid (onR_ok (b := true) (q := qn) (takes := xb) (puts := 1) hw2 hv2 hin hdom (hsm.small (by omega)) (by omega) h0 (by omega) (by obtain ⟨y1, y2, y3, y4, y5⟩ := hx; simp only at y1 y2 y3 y4 y5; omega) (by obtain ⟨y1, y2, y3, y4, y5⟩ := hx; simp only at y1 y2 y3 y4 y5; omega) (by obtain ⟨y1, y2, y3, y4, y5⟩ := hx; simp only at y1 y2 y3 y4 y5; omega) (by obtain ⟨y1, y2, y3, y4, y5⟩ := hx; simp only at y1 y2 y3 y4 y5; omega) (by omega) (by omega))
  have HX : Hid (stepX F K left qn ⟨22, xa, xb, xc, xt⟩ s = onP F.code.length F.f K left qn s (xb) (1)) := Lib.hid (stepX_on rfl)
  unfold stA at HON
  clear h hv hb2 hw2 hv2 hin hdom hsm hx hts hk2 hs hlc hz2
  go_enter Tryz.func31, Tryz.ntmps31
  go_upto_region 1 with (fail)
  go_region
  rw [← hW2]
  clear hW2 f0 f2 f6 i1 i0 im j1 j0 jm gl cl c0 x0 x1 x2 x3 x4 s0 s1 s2 ml
  go_wp2_with ((go_at_call 53; refine HON.out.mono ?_; rintro e w5 ⟨rfl, hp⟩; have HP := Lib.hid hp; clear hp))
  go_end0
  exact ⟨rfl, by rw [HX.out]; exact HP.out.step.from HK2.out⟩
theorem stepR_pop : StepOKR 21 := by
  intro p F w K lv left s qn N g1 o1 m fc cg co cc xa xb xc xt C H
  obtain ⟨a, c, W2, hW2, hv, hlc, ⟨f0, f2, f6, s0, s1, s2⟩, ⟨i1, i0, im, j1, j0, jm⟩, ⟨pl, ml, gl, cl⟩, ⟨hb2, hz2, hw2, hv2, hk2, hbl⟩, ⟨d0, d1, d2, dz, dl⟩, ⟨k0, k1, k2, k3, k4⟩, pl2, e2, e4, e5, e6, e8, z8⟩ := headR C H
  obtain ⟨h, hs, q1, qb, hin, hdom, hsm, hN, hlen, h0, h1, hx, hts⟩ := H
  obtain ⟨cf, cf1, cm, c0, x0, x1, x2, x3, x4⟩ := C
  simp only at hW2 k0 k1 k2 k3 k4
  have HK2 := Lib.hid hk2
  have HON := Lib.hid (onR_ok (b := true) (q := qn) (takes := 1) (puts := 0) hw2 hv2 hin hdom (hsm.small (by omega)) (by omega) h0 (by omega) (by omega) (by omega) (by omega) (by omega) (by omega) (by omega))
  have HX : Hid (stepX F K left qn ⟨21, xa, xb, xc, xt⟩ s = onP F.code.length F.f K left qn s (1) (0)) := Lib.hid (stepX_on rfl)
  unfold stA at HON
  clear h hv hb2 hw2 hv2 hin hdom hsm hx hts hk2 hs hlc hz2
  go_enter Tryz.func31, Tryz.ntmps31
  go_upto_region 1 with (fail)
  go_region
  rw [← hW2]
  clear hW2 f0 f2 f6 i1 i0 im j1 j0 jm gl cl c0 x0 x1 x2 x3 x4 s0 s1 s2 ml
  go_wp2_with ((go_at_call 53; refine HON.out.mono ?_; rintro e w5 ⟨rfl, hp⟩; have HP := Lib.hid hp; clear hp))
  go_end0
  exact ⟨rfl, by rw [HX.out]; exact HP.out.step.from HK2.out⟩
theorem stepR_slide : StepOKR 20 := by
  intro p F w K lv left s qn N g1 o1 m fc cg co cc xa xb xc xt C H
  obtain ⟨a, c, W2, hW2, hv, hlc, ⟨f0, f2, f6, s0, s1, s2⟩, ⟨i1, i0, im, j1, j0, jm⟩, ⟨pl, ml, gl, cl⟩, ⟨hb2, hz2, hw2, hv2, hk2, hbl⟩, ⟨d0, d1, d2, dz, dl⟩, ⟨k0, k1, k2, k3, k4⟩, pl2, e2, e4, e5, e6, e8, z8⟩ := headR C H
  obtain ⟨h, hs, q1, qb, hin, hdom, hsm, hN, hlen, h0, h1, hx, hts⟩ := H
  obtain ⟨cf, cf1, cm, c0, x0, x1, x2, x3, x4⟩ := C
  simp only at hW2 k0 k1 k2 k3 k4
  have HK2 := Lib.hid hk2
  have wr1 : IntKind.i64.wrap (xa + 1) = xa + 1 := by obtain ⟨y1, y2, y3, y4, y5⟩ := hx; have y6 := y1 (by simp); simp only at y6; rw [IntKind.wrap_i64]; omega
  have HON := Lib.hid (onR_ok (b := true) (q := qn) (takes := xa + 1) (puts := 1) hw2 hv2 hin hdom (hsm.small (by omega)) (by omega) h0 (by omega) (by obtain ⟨y1, y2, y3, y4, y5⟩ := hx; have y6 := y1 (by simp); simp only at y2 y3 y4 y5 y6; omega) (by obtain ⟨y1, y2, y3, y4, y5⟩ := hx; have y6 := y1 (by simp); simp only at y2 y3 y4 y5 y6; omega) (by obtain ⟨y1, y2, y3, y4, y5⟩ := hx; have y6 := y1 (by simp); simp only at y2 y3 y4 y5 y6; omega) (by obtain ⟨y1, y2, y3, y4, y5⟩ := hx; have y6 := y1 (by simp); simp only at y2 y3 y4 y5 y6; omega) (by omega) (by omega))
  have HX : Hid (stepX F K left qn ⟨20, xa, xb, xc, xt⟩ s = onP F.code.length F.f K left qn s (xa + 1) (1)) := Lib.hid (stepX_on rfl)
  unfold stA at HON
  clear h hv hb2 hw2 hv2 hin hdom hsm hx hts hk2 hs hlc hz2
  go_enter Tryz.func31, Tryz.ntmps31
  go_upto_region 1 with (fail)
  go_region
  rw [← hW2]
  clear hW2 f0 f2 f6 i1 i0 im j1 j0 jm gl cl c0 x0 x1 x2 x3 x4 s0 s1 s2 ml
  go_wp2_with ((go_at_call 53; refine HON.out.mono ?_; rintro e w5 ⟨rfl, hp⟩; have HP := Lib.hid hp; clear hp))
  go_end0
  exact ⟨rfl, by rw [HX.out]; exact HP.out.step.from HK2.out⟩
end Go.Ck
namespace Go.Ck
open Go Go.RowKit Go.Proofs
theorem stepR_prim : StepOKR 16 := by
  intro p F w K lv left s qn N g1 o1 m fc cg co cc xa xb xc xt C H
  obtain ⟨a, c, W2, hW2, hv, hlc, ⟨f0, f2, f6, s0, s1, s2⟩, ⟨i1, i0, im, j1, j0, jm⟩, ⟨pl, ml, gl, cl⟩, ⟨hb2, hz2, hw2, hv2, hk2, hbl⟩, ⟨d0, d1, d2, dz, dl⟩, ⟨k0, k1, k2, k3, k4⟩, pl2, e2, e4, e5, e6, e8, z8⟩ := headR C H
  obtain ⟨h, hs, q1, qb, hin, hdom, hsm, hN, hlen, h0, h1, hx, hts⟩ := H
  obtain ⟨cf, cf1, cm, c0, x0, x1, x2, x3, x4⟩ := C
  simp only at hW2 k0 k1 k2 k3 k4
  have HK2 := Lib.hid hk2
  have ht : 0 ≤ takesN xt ∧ takesN xt ≤ 3 := by unfold takesN; repeat' split <;> omega
  have HTK := Lib.hid (takesR_ok W2 xt)
  have HON := Lib.hid (onR_ok (b := true) (q := qn) (takes := takesN xt) (puts := 1) hw2 hv2 hin hdom (hsm.small (by omega)) (by omega) h0 (by omega) (by omega) (by omega) (by omega) (by omega) (by omega) (by omega))
  have HX : Hid (stepX F K left qn ⟨16, xa, xb, xc, xt⟩ s = onP F.code.length F.f K left qn s (takesN xt) 1) := Lib.hid (stepX_on rfl)
  unfold stA at HON
  clear h hv hb2 hw2 hv2 hin hdom hsm hx hts hk2 hs hlc hz2
  go_enter Tryz.func31, Tryz.ntmps31
  go_upto_region 1 with (fail)
  go_region
  rw [← hW2]
  clear hW2 f0 f2 f6 i1 i0 im j1 j0 jm gl cl c0 x0 x1 x2 x3 x4 s0 s1 s2 ml
  go_wp2_with (first | (go_at_call 53; refine HON.out.mono ?_; rintro e w5 ⟨rfl, hp⟩; have HP := Lib.hid hp; clear hp) | (go_at_call 28; refine HTK.out.mono ?_; rintro e w5 ⟨rfl, rfl⟩))
  go_end0
  exact ⟨rfl, by rw [HX.out]; exact HP.out.step.from HK2.out⟩
theorem stepR_local : StepOKR 3 := by
  intro p F w K lv left s qn N g1 o1 m fc cg co cc xa xb xc xt C H
  obtain ⟨a, c, W2, hW2, hv, hlc, ⟨f0, f2, f6, s0, s1, s2⟩, ⟨i1, i0, im, j1, j0, jm⟩, ⟨pl, ml, gl, cl⟩, ⟨hb2, hz2, hw2, hv2, hk2, hbl⟩, ⟨d0, d1, d2, dz, dl⟩, ⟨k0, k1, k2, k3, k4⟩, pl2, e2, e4, e5, e6, e8, z8⟩ := headR C H
  obtain ⟨h, hs, q1, qb, hin, hdom, hsm, hN, hlen, h0, h1, hx, hts⟩ := H
  obtain ⟨cf, cf1, cm, c0, x0, x1, x2, x3, x4⟩ := C
  simp only at hW2 k0 k1 k2 k3 k4
  have HK2 := Lib.hid hk2
  have HFT : Hid (RK p F (W2.setCell ⟨p.pb, 8, none⟩ (.bool true)) K lv left true ∧ Kept p.toPl lv.ownBlock lv.ownBlock W2 (W2.setCell ⟨p.pb, 8, none⟩ (.bool true))) := Lib.hid (hw2.flag true)
  have HFF : Hid (RK p F (W2.setCell ⟨p.pb, 8, none⟩ (.bool false)) K lv left false ∧ Kept p.toPl lv.ownBlock lv.ownBlock W2 (W2.setCell ⟨p.pb, 8, none⟩ (.bool false))) := Lib.hid (hw2.flag false)
  have HON : Hid (∀ x bd, RK p F x K lv left bd → Kept p.toPl lv.ownBlock lv.ownBlock W2 x → Calls Tryz.prog 53 #[.pointer (some ⟨p.pb, 0, none⟩), .int .i64 qn, .agg #[.bool true, .int .i64 s.h, .slice a s.tr.length c], .int .i64 0, .int .i64 1] x fun e w' => e = .returned (.tuple #[]) ∧ ToPost (onP F.code.length F.f K left qn s 0 1) p F K lv left bd W2 w') := Lib.hid fun x bd hr hk =>
    (onR_ok (b := true) (q := qn) (takes := 0) (puts := 1) hr (hv2.keptR hk hw2) hin hdom (hsm.small (by omega)) (by omega) h0 (by omega) (by omega) (by omega) (by omega) (by omega) (by omega) (by omega)).mono fun e w' ⟨t1, t2⟩ => ⟨t1, t2.from hk⟩
  by_cases hc : xa < s.h
  · have HX : Hid (stepX F K left qn ⟨3, xa, xb, xc, xt⟩ s = onP F.code.length F.f K left qn s 0 1) := Lib.hid (stepX_on (by unfold stepR; rw [if_pos rfl, if_pos hc]))
    have hc' : ¬ s.h ≤ xa := by omega
    have HO2 := Lib.hid (HON.out _ false HFF.out.1 HFF.out.2)
    have HO3 := Lib.hid (HON.out _ false (HFF.out.1.grow (Below.refl _ _).drew) (HFF.out.2.trans (Kept.of_below (Below.refl _ _).drew)))
    clear HON HFT HFF
    clear h hv hb2 hw2 hv2 hin hdom hsm hx hts hk2 hs hlc hz2
    go_enter Tryz.func31, Tryz.ntmps31
    go_upto_region 1 with (fail)
    go_region
    rw [← hW2]
    clear hW2 f0 f2 f6 i1 i0 im j1 j0 jm gl cl c0 x0 x1 x2 x3 x4 s0 s1 s2 ml
    go_wp2_with (go_at_call 53; (first | refine HO2.out.mono ?_ | refine HO3.out.mono ?_); rintro e w5 ⟨rfl, hp⟩; have HP := Lib.hid hp; clear hp)
    all_goals
      go_end0
      exact ⟨rfl, by rw [HX.out]; exact HP.out.step.from HK2.out⟩
  · have HX : Hid (stepX F K left qn ⟨3, xa, xb, xc, xt⟩ s = none) := Lib.hid (stepX_none (by unfold stepR; rw [if_pos rfl, if_neg hc]))
    have hc' : s.h ≤ xa := by omega
    have HO2 := Lib.hid (HON.out _ true HFT.out.1 HFT.out.2)
    have HO3 := Lib.hid (HON.out _ true (HFT.out.1.grow (Below.refl _ _).drew) (HFT.out.2.trans (Kept.of_below (Below.refl _ _).drew)))
    clear HON HFT HFF
    clear h hv hb2 hw2 hv2 hin hdom hsm hx hts hk2 hs hlc hz2
    go_enter Tryz.func31, Tryz.ntmps31
    go_upto_region 1 with (fail)
    go_region
    rw [← hW2]
    clear hW2 f0 f2 f6 i1 i0 im j1 j0 jm gl cl c0 x0 x1 x2 x3 x4 s0 s1 s2 ml
    go_wp2_with (go_at_call 53; (first | refine HO2.out.mono ?_ | refine HO3.out.mono ?_); rintro e w5 ⟨rfl, hp⟩; have HP := Lib.hid hp; clear hp)
    all_goals
      go_end0
      exact ⟨rfl, by rw [HX.out]; exact HP.out.stepNone.from HK2.out⟩
end Go.Ck
