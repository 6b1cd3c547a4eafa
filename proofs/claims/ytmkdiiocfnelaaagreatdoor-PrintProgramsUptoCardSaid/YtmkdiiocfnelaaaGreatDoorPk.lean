/- How many parts a program has; the law PrintPrograms whole, walked by hand. Each says its own conditions. -/
import Derived.Test.YtmkdiiocfnelaaaGreatDoorPg
import Derived.Test.YtmkdiiocfnelaaaGreatDoorPd
import Derived.Test.YtmkdiiocfnelaaaGreatDoorPi
set_option linter.unusedVariables false
set_option linter.unusedSimpArgs false
set_option maxRecDepth 100000
set_option maxHeartbeats 4000000
namespace Go.Pr
open Go Go.RowKit Go.Proofs
theorem S.below' {W W' : World} {nd : Nd} {d : D} {vs : List Value} (h : S W nd d vs) (hb : Below W.heap.size W W') : S W' nd d vs := by
  induction h with
  | ty h1 h2 _ ih => exact .ty h1 (h2.below hb) ih
  | pat h1 h2 _ ih => exact .pat h1 (h2.below hb) ih
  | exp h1 h2 h3 h4 _ _ _ i1 i2 i3 => exact .exp h1 (h2.below hb) (h3.below hb) (h4.below hb) i1 i2 i3
  | rule _ _ i1 i2 => exact .rule i1 i2
  | con _ i1 => exact .con i1
  | fn h1 _ i1 => exact .fn (h1.below hb) i1
  | dec h1 h2 h3 _ _ _ _ i1 i2 i3 i4 => exact .dec (h1.below hb) (h2.below hb) (h3.below hb) i1 i2 i3 i4
theorem Row.below {W W' : World} {nd : Nd} {sz : Nat} {s : Value} {l : List D} {vf : Nat → List Value} (h : Row W nd sz s l vf) (hb : Below W.heap.size W W') : Row W' nd sz s l vf := ⟨h.row.below hb, fun i x hx => (h.kid i x hx).below' hb⟩
theorem row_one {W : World} {e : D} {ve : List Value} {n : Nat} (hn : n = W.heap.size) (h : S W .exp e ve) (hl : ve.length = 7) : Row (W.alloc (.cells ⟨ve⟩ 34)) .exp 7 (.slice (some ⟨n, 0, none⟩) 1 1) [e] (fun _ => ve) := by
  subst hn
  have hb : Below W.heap.size W (W.alloc (.cells ⟨ve⟩ 34)) := (Below.refl _ _).alloc (Nat.le_refl _) _
  refine ⟨⟨_, _, rfl, Nat.le_refl _, fun _ => ⟨_, _, rfl, fun i hi j v hj => ?_⟩⟩, fun i x hx => ?_⟩
  · obtain rfl : i = 0 := Nat.lt_one_iff.1 hi
    rw [cell_of_row _ W.heap.size _ ⟨ve⟩ 34 (0, 0) (heap_alloc_new W _)]
    simpa using hj
  · match i, hx with
    | 0, hx =>
      have hx : e = x := Option.some.inj hx
      subst hx
      exact h.below' hb
def SizeOK (n : Nat) : Prop := ∀ (W w : World) (s : Value) (l : List D) (vf : Nat → List Value), Row W .exp 7 s l vf → wsum l < n → wsum l ≤ 1048576 → Below W.heap.size W w →
  Calls Tryz.prog 5 #[s] w fun e w' => ∃ z : Int, e = .returned (.int .i64 z) ∧ Below w.heap.size w w'
end Go.Pr
namespace Go.Pr
open Go Go.RowKit Go.Proofs
theorem size_step {n : Nat} (ih : SizeOK n) : SizeOK (n + 1) := by
  intro W w0 s l vf hrow hn hw hB
  obtain ⟨a, c, rfl⟩ := hrow.slice
  have hl := len_le hrow.fits
  have hl2 : l.length ≤ 1048576 := by omega
  have HROW := Lib.hid hrow
  have HB := Lib.hid hB
  have HI := Lib.hid ih
  have hxw : ∀ x ∈ l, x.w ≤ n ∧ x.w ≤ 1048576 := fun x hx => by have := w_mem hx; omega
  have HXW := Lib.hid hxw
  clear hrow hB ih hxw
  go_enter Tryz.func5, Tryz.ntmps5
  go_wp2
  go_loopw [3, 4] (fun z j wr => ∃ (m : Nat) (q : Int), m ≤ l.length ∧ j = .int .i64 m ∧ z = .int .i64 q ∧ Hid (Below w0.heap.size w0 wr)) (fun _ j _ => l.length - (intOf j).toNat)
  case atStart => exact ⟨0, _, Nat.zero_le _, rfl, rfl, Lib.hid (Below.refl _ _)⟩
  case round =>
    obtain ⟨m, q, hk, rfl, rfl, hO⟩ := hrel
    by_cases hlt : m < l.length
    · obtain ⟨b, o, rfl, hr⟩ := HROW.out.cells (by omega)
      have hc := hr m hlt
      have hv := HROW.out.kid _ _ (List.getElem?_eq_getElem hlt)
      obtain ⟨hxn, hxm⟩ := HXW.out _ (List.getElem_mem hlt)
      obtain ⟨k, name, num, text, a4, lk, c4, vk, a5, lr, c5, vr, a6, ld, c6, vd, hvv, _, _, _, _, hrk, hrr, hrd, hwt⟩ := hv.exp_parts
      rw [hvv] at hc
      have HC := Lib.hid hc
      have HCW : Hid (∀ w, Below w0.heap.size w0 w → w.cell? ⟨b, o + m * 7 + 3, none⟩ = some (.string text) ∧ w.cell? ⟨b, o + m * 7 + 4, none⟩ = some (.slice a4 lk.length c4) ∧ w.cell? ⟨b, o + m * 7 + 5, none⟩ = some (.slice a5 lr.length c5) ∧ w.cell? ⟨b, o + m * 7 + 6, none⟩ = some (.slice a6 ld.length c6)) := Lib.hid fun w hb => by
        have h := HC.out.below (HB.out.trans (hb.mono HB.out.size))
        exact ⟨h 3 _ rfl, h 4 _ rfl, h 5 _ rfl, h 6 _ rfl⟩
      have HK : Hid (∀ w, Below w0.heap.size w0 w → Calls Tryz.prog 5 #[.slice a4 lk.length c4] w fun e w' => ∃ z : Int, e = .returned (.int .i64 z) ∧ Hid (Below w0.heap.size w0 w')) := Lib.hid fun w hb =>
        (HI.out W w _ lk vk hrk (by omega) (by omega) (HB.out.trans (hb.mono HB.out.size))).mono fun _ _ ⟨z, h1, h2⟩ => ⟨z, h1, Lib.hid (hb.trans (h2.mono hb.size))⟩
      have HRR := Lib.hid hrr
      have HRD := Lib.hid hrd
      have hlr := len_le hrr.fits
      have hld := len_le hrd.fits
      have hlr2 : lr.length ≤ 1048576 := by omega
      have hld2 : ld.length ≤ 1048576 := by omega
      have HWR : Hid (wsum lr < n ∧ wsum lr ≤ 1048576 ∧ wsum ld < n ∧ wsum ld ≤ 1048576) := Lib.hid (by omega)
      have hts : text.size ≤ 1048576 := by omega
      have i1 : (m : Int) < (l.length : Int) := by omega
      have i0 : (0 : Int) ≤ (m : Int) := by omega
      obtain ⟨k3, k4, k5, k6⟩ := HCW.out wr hO.out
      clear hc hv hvv hrk hrr hrd hwt hlr hld hxn hxm hr
      go_wp2
      go_region_held3 (fun w => Hid (Below w0.heap.size w0 w) ∧ w.cell? ⟨b, o + m * 7 + 3, none⟩ = some (.string text) ∧ w.cell? ⟨b, o + m * 7 + 4, none⟩ = some (.slice a4 lk.length c4))
        ((first | (have hh := (HCW.out _ (by exact (by assumption : Hid (Below w0.heap.size w0 _)).out)); exact ⟨by assumption, hh.1, hh.2.1⟩) | (have hh := (HCW.out _ (by exact (‹Hid (Below w0.heap.size w0 _)›).out.drew)); exact ⟨Lib.hid (‹Hid (Below w0.heap.size w0 _)›).out.drew, hh.1, hh.2.1⟩)))
        ((go_at_call 5; refine (HK.out _ ?_).mono ?_; first | exact (by assumption : Hid (Below w0.heap.size w0 _)).out | exact (‹Hid (Below w0.heap.size w0 _) ∧ _›).1.out; rintro e' w' ⟨z, rfl, hb⟩))
      go_wp2
      go_loopw [3, 5] (fun z j wr => ∃ (r : Nat) (q : Int), r ≤ lr.length ∧ j = .int .i64 r ∧ z = .int .i64 q ∧ Hid (Below w0.heap.size w0 wr)) (fun _ j _ => lr.length - (intOf j).toNat)
      case atStart => exact ⟨0, _, Nat.zero_le _, rfl, rfl, by assumption⟩
      case round =>
        obtain ⟨r, q, hk2, rfl, rfl, hO2⟩ := hrel
        obtain ⟨k3, k4, k5, k6⟩ := HCW.out wr hO2.out
        by_cases hlt2 : r < lr.length
        · obtain ⟨b2, o2, rfl, hr2⟩ := HRR.out.cells (by omega)
          have hc2 := hr2 r hlt2
          have hv2 := HRR.out.kid _ _ (List.getElem?_eq_getElem hlt2)
          have hwm := w_mem (List.getElem_mem hlt2)
          obtain ⟨dp, de, vp, ve, hvv2, hpp, hee, _, hwe⟩ := hv2.rule_parts
          obtain ⟨p0, p1, p2, p3a, p3n, p3c, rfl⟩ := hpp.pat_vals
          obtain ⟨x0, x1, x2, x3, x4a, x4n, x4c, x5a, x5n, x5c, x6a, x6n, x6c, rfl⟩ := hee.exp_vals
          rw [hvv2] at hc2
          have hcW := hc2.below (HB.out.trans (hO2.out.mono HB.out.size))
          have e0 := hcW 4 _ rfl
          have e1 := hcW 5 _ rfl
          have e2 := hcW 6 _ rfl
          have e3 := hcW 7 _ rfl
          have e4 := hcW 8 _ rfl
          have e5 := hcW 9 _ rfl
          have e6 := hcW 10 _ rfl
          have j1 : (r : Int) < (lr.length : Int) := by omega
          have j0 : (0 : Int) ≤ (r : Int) := by omega
          have HWB := HB.out.trans (hO2.out.mono HB.out.size)
          have hrow1 := row_one (W := wr) (n := wr.heap.size) rfl (hee.below' HWB) rfl
          have HE : Hid (Calls Tryz.prog 5 #[.slice (some ⟨wr.heap.size, 0, none⟩) 1 1] (wr.alloc (.cells ⟨[.int .u8 x0, .string x1, .int .i64 x2, .string x3, .slice x4a x4n x4c, .slice x5a x5n x5c, .slice x6a x6n x6c]⟩ 34)) fun e w' => ∃ z : Int, e = .returned (.int .i64 z) ∧ Hid (Below w0.heap.size w0 w')) := Lib.hid
            ((HI.out _ _ _ [de] _ hrow1 (by have := HWR.out; simp [wsum]; omega) (by have := HWR.out; simp [wsum]; omega) (Below.refl _ _)).mono fun _ _ ⟨z, h1, h2⟩ => ⟨z, h1, Lib.hid ((hO2.out.alloc hO2.out.size _).trans (h2.mono (Nat.le_trans hO2.out.size (by simp))))⟩)
          clear hrow1 HWB hcW hc2 hv2 hvv2 hee hwe hwm hr2
          go_wp2_with fail
          refine HE.out.mono ?_
          rintro e w2 ⟨z, rfl, hb2⟩
          go_wp2
          go_roundw
          case rel => exact ⟨r + 1, _, by omega, by simp, rfl, hb2⟩
          case measure => simp [intOf]; omega
        · obtain rfl : r = lr.length := by omega
          go_wp2
          clear k3 k4 k5 k6
          go_loopw [3, 6] (fun z j wr => ∃ (r : Nat) (q : Int), r ≤ ld.length ∧ j = .int .i64 r ∧ z = .int .i64 q ∧ Hid (Below w0.heap.size w0 wr)) (fun _ j _ => ld.length - (intOf j).toNat)
          case atStart => exact ⟨0, _, Nat.zero_le _, rfl, rfl, by assumption⟩
          case round =>
            obtain ⟨r, q, hk2, rfl, rfl, hO2⟩ := hrel
            obtain ⟨k3, k4, k5, k6⟩ := HCW.out wr hO2.out
            by_cases hlt2 : r < ld.length
            · obtain ⟨b2, o2, rfl, hr2⟩ := HRD.out.cells (by omega)
              have hc2 := hr2 r hlt2
              have hv2 := HRD.out.kid _ _ (List.getElem?_eq_getElem hlt2)
              have hwm := w_mem (List.getElem_mem hlt2)
              obtain ⟨_, _, _, _, _, _, _, _, _, _, dt, de, vt, ve, hvv2, _, _, _, htt, hee, _, hwe⟩ := hv2.dec_parts
              obtain ⟨p0, p1, p2, p3a, p3n, p3c, rfl⟩ := htt.ty_vals
              obtain ⟨x0, x1, x2, x3, x4a, x4n, x4c, x5a, x5n, x5c, x6a, x6n, x6c, rfl⟩ := hee.exp_vals
              rw [hvv2] at hc2
              have hcW := hc2.below (HB.out.trans (hO2.out.mono HB.out.size))
              have e0 := hcW 9 _ rfl
              have e1 := hcW 10 _ rfl
              have e2 := hcW 11 _ rfl
              have e3 := hcW 12 _ rfl
              have e4 := hcW 13 _ rfl
              have e5 := hcW 14 _ rfl
              have e6 := hcW 15 _ rfl
              have j1 : (r : Int) < (ld.length : Int) := by omega
              have j0 : (0 : Int) ≤ (r : Int) := by omega
              have HWB := HB.out.trans (hO2.out.mono HB.out.size)
              have hrow1 := row_one (W := wr) (n := wr.heap.size) rfl (hee.below' HWB) rfl
              have HE : Hid (Calls Tryz.prog 5 #[.slice (some ⟨wr.heap.size, 0, none⟩) 1 1] (wr.alloc (.cells ⟨[.int .u8 x0, .string x1, .int .i64 x2, .string x3, .slice x4a x4n x4c, .slice x5a x5n x5c, .slice x6a x6n x6c]⟩ 34)) fun e w' => ∃ z : Int, e = .returned (.int .i64 z) ∧ Hid (Below w0.heap.size w0 w')) := Lib.hid
                ((HI.out _ _ _ [de] _ hrow1 (by have := HWR.out; simp [wsum]; omega) (by have := HWR.out; simp [wsum]; omega) (Below.refl _ _)).mono fun _ _ ⟨z, h1, h2⟩ => ⟨z, h1, Lib.hid ((hO2.out.alloc hO2.out.size _).trans (h2.mono (Nat.le_trans hO2.out.size (by simp))))⟩)
              clear hrow1 HWB hcW hc2 hv2 hvv2 hee hwe hwm hr2
              go_wp2_with fail
              refine HE.out.mono ?_
              rintro e w2 ⟨z, rfl, hb2⟩
              go_wp2
              go_roundw
              case rel => exact ⟨r + 1, _, by omega, by simp, rfl, hb2⟩
              case measure => simp [intOf]; omega
            · obtain rfl : r = ld.length := by omega
              go_wp2
              go_roundw
              case rel => exact ⟨m + 1, _, by omega, by simp, rfl, hO2⟩
              case measure => simp [intOf]; omega
    · obtain rfl : m = l.length := by omega
      go_wp2
      go_ret
      exact ⟨_, rfl, hO.out⟩
theorem size_all : ∀ n, SizeOK n
  | 0 => fun W w s l vf _ h => absurd h (Nat.not_lt_zero _)
  | n + 1 => size_step (size_all n)
theorem size_ok {W w : World} {s : Value} {l : List D} {vf : Nat → List Value} (h : Row W .exp 7 s l vf) (hw : wsum l ≤ 1048576) (hB : Below W.heap.size W w) :
    Calls Tryz.prog 5 #[s] w fun e w' => ∃ z : Int, e = .returned (.int .i64 z) ∧ Below w.heap.size w w' := size_all (wsum l + 1) W w s l vf h (Nat.lt_succ_self _) hw hB
end Go.Pr
namespace Go.Pr
open Go Go.RowKit Go.Proofs Go.Eng
def WorksV (W0 : World) : Prop := ∀ w, Below W0.heap.size W0 w → Calls Tryz.prog 4 #[] w fun e w' => e = .returned (.bool true) ∧ Below w.heap.size w w'
theorem S.dec_exp {W : World} {d : D} {v0 v5 v7 v9 v11 : Int} {v1 v6 v10 v12 : ByteArray} {a2 a3 a4 a8 a13 a14 a15 : Option Addr} {n2 c2 n3 c3 n4 c4 n8 c8 n13 c13 n14 c14 n15 c15 : Nat}
    (h : S W .dec d [.int .u8 v0, .string v1, .slice a2 n2 c2, .slice a3 n3 c3, .slice a4 n4 c4, .int .u8 v5, .string v6, .int .i64 v7, .slice a8 n8 c8, .int .u8 v9, .string v10, .int .i64 v11, .string v12, .slice a13 n13 c13, .slice a14 n14 c14, .slice a15 n15 c15]) : (n3 : Int) ≤ d.w ∧ (n4 : Int) ≤ d.w ∧ ∃ e : D, e.w ≤ d.w ∧ S W .exp e [.int .u8 v9, .string v10, .int .i64 v11, .string v12, .slice a13 n13 c13, .slice a14 n14 c14, .slice a15 n15 c15] := by
  obtain ⟨k, name, vars, sv, sc, sf, lc, lf, vc, vf, t, e, vt, ve, hvv, h1, h2, h3, h4, h5, h6, h7⟩ := h.dec_parts
  obtain ⟨t0, t1, t2, t3a, t3n, t3c, rfl⟩ := h4.ty_vals
  obtain ⟨a, c, rfl⟩ := h2.slice
  obtain ⟨a', c', rfl⟩ := h3.slice
  have e2 := len_le h2.fits
  have e3 := len_le h3.fits
  simp only [List.cons_append, List.nil_append, List.cons.injEq, Value.slice.injEq, Value.int.injEq, Value.string.injEq] at hvv
  obtain ⟨_, _, _, ⟨_, g3, _⟩, ⟨_, g4, _⟩, _, _, _, _, hve⟩ := hvv
  refine ⟨by omega, by omega, e, by omega, ?_⟩
  rw [hve]
  exact h5
theorem law_ok {W0 : World} {s : Value} {l : List D} {vf : Nat → List Value} (hTab : TabV W0) (hW : WorksV W0) (hs : Row W0 .dec 16 s l vf) (hw : wsum l ≤ 1048576) :
    Calls Tryz.prog 3 #[s] W0 fun e w' => e = .returned (.bool true) ∧ Below W0.heap.size W0 w' := by
  obtain ⟨a, c, rfl⟩ := hs.slice
  have hl := len_le hs.fits
  have hl2 : l.length ≤ 1048576 := by omega
  have HW : Hid (∀ w, Below W0.heap.size W0 w → Calls Tryz.prog 4 #[] w fun e w' => e = .returned (.bool true) ∧ Hid (Below W0.heap.size W0 w')) := Lib.hid fun w hb =>
    (hW w hb).mono fun _ _ ⟨h1, h2⟩ => ⟨h1, Lib.hid (hb.trans (h2.mono hb.size))⟩
  have HP : Hid (∀ w, Below W0.heap.size W0 w → Calls Tryz.prog 8 #[.slice a l.length c] w fun e w' => e = .returned (.string (progT l)) ∧ Hid (Below W0.heap.size W0 w')) := Lib.hid fun w hb =>
    (program_ok hTab quote_ok hs hw hb).mono fun _ _ ⟨h1, h2⟩ => ⟨h1, Lib.hid (hb.trans (h2.mono hb.size))⟩
  have HR : Hid (∀ w, Below W0.heap.size W0 w → Calls Tryz.prog 9 #[.slice a l.length c] w fun e w' => e = .returned (.string (progT l)) ∧ Hid (Below W0.heap.size W0 w')) := Lib.hid fun w hb =>
    (rprogram_ok num_ok rquote_ok hs hw hb).mono fun _ _ ⟨h1, h2⟩ => ⟨h1, Lib.hid (hb.trans (h2.mono hb.size))⟩
  have HA : Hid (∀ x ∈ l, ∀ w vs, S W0 .dec x vs → Below W0.heap.size W0 w → (Calls Tryz.prog 6 #[.agg ⟨vs⟩] w fun e w' => e = .returned (.string x.t) ∧ Hid (Below W0.heap.size W0 w')) ∧ Calls Tryz.prog 7 #[.agg ⟨vs⟩] w fun e w' => e = .returned (.string x.t) ∧ Hid (Below W0.heap.size W0 w')) := Lib.hid fun x hx w vs hv hb =>
    have hxw : x.w ≤ 1048576 := by have := w_mem hx; omega
    ⟨((printed hTab quote_ok x hxw).dec w vs hv hb).mono fun _ _ ⟨h1, h2⟩ => ⟨h1, Lib.hid (hb.trans (h2.mono hb.size))⟩,
      ((told num_ok rquote_ok x hxw).dec w vs hv hb).mono fun _ _ ⟨h1, h2⟩ => ⟨h1, Lib.hid (hb.trans (h2.mono hb.size))⟩⟩
  have HROW := Lib.hid hs
  have HWS := Lib.hid hw
  clear hs hTab hW
  generalize progT l = jj at *
  go_enter Tryz.func3, Tryz.ntmps3
  by_cases h100 : 100 < l.length
  · have i1 : (100 : Int) < (l.length : Int) := by omega
    go_wp2_with fail
    refine (HW.out _ (Below.refl _ _)).mono ?_
    rintro e w2 ⟨rfl, hb⟩
    go_wp2
    go_ret
    exact ⟨rfl, hb.out⟩
  have i1 : ¬ (100 : Int) < (l.length : Int) := by omega
  go_wp2
  go_loopw [3] (fun j wr => ∃ m : Nat, m ≤ l.length ∧ j = .int .i64 m ∧ Hid (Below W0.heap.size W0 wr)) (fun j _ => l.length - (intOf j).toNat)
  case atStart => exact ⟨0, Nat.zero_le _, rfl, Lib.hid (Below.refl _ _)⟩
  case round =>
    obtain ⟨m, hk, rfl, hO⟩ := hrel
    by_cases hlt : m < l.length
    · obtain ⟨b, o, rfl, hr⟩ := HROW.out.cells (by omega)
      have hc := hr m hlt
      have hv := HROW.out.kid _ _ (List.getElem?_eq_getElem hlt)
      have hxw := w_mem (List.getElem_mem hlt)
      have HAX : Hid (∀ w vs, S W0 .dec l[m] vs → Below W0.heap.size W0 w → _) := Lib.hid fun w vs => HA.out l[m] (List.getElem_mem hlt) w vs
      obtain ⟨v0, v1, a2, n2, c2, a3, n3, c3, a4, n4, c4, v5, v6, v7, a8, n8, c8, v9, v10, v11, v12, a13, n13, c13, a14, n14, c14, a15, n15, c15, hvk⟩ := hv.dec_vals
      rw [hvk] at hc hv
      generalize l[m].t = tx at *
      have HCW : Hid (∀ w, Below W0.heap.size W0 w → w.cell? ⟨b, o + m * 16, none⟩ = some (.int .u8 v0) ∧ w.cell? ⟨b, o + m * 16 + 1, none⟩ = some (.string v1) ∧ w.cell? ⟨b, o + m * 16 + 2, none⟩ = some (.slice a2 n2 c2) ∧ w.cell? ⟨b, o + m * 16 + 3, none⟩ = some (.slice a3 n3 c3) ∧ w.cell? ⟨b, o + m * 16 + 4, none⟩ = some (.slice a4 n4 c4) ∧ w.cell? ⟨b, o + m * 16 + 5, none⟩ = some (.int .u8 v5) ∧ w.cell? ⟨b, o + m * 16 + 6, none⟩ = some (.string v6) ∧ w.cell? ⟨b, o + m * 16 + 7, none⟩ = some (.int .i64 v7) ∧ w.cell? ⟨b, o + m * 16 + 8, none⟩ = some (.slice a8 n8 c8) ∧ w.cell? ⟨b, o + m * 16 + 9, none⟩ = some (.int .u8 v9) ∧ w.cell? ⟨b, o + m * 16 + 10, none⟩ = some (.string v10) ∧ w.cell? ⟨b, o + m * 16 + 11, none⟩ = some (.int .i64 v11) ∧ w.cell? ⟨b, o + m * 16 + 12, none⟩ = some (.string v12) ∧ w.cell? ⟨b, o + m * 16 + 13, none⟩ = some (.slice a13 n13 c13) ∧ w.cell? ⟨b, o + m * 16 + 14, none⟩ = some (.slice a14 n14 c14) ∧ w.cell? ⟨b, o + m * 16 + 15, none⟩ = some (.slice a15 n15 c15)) := Lib.hid fun w hb => by
        have h := hc.below hb
        exact ⟨h 0 _ rfl, h 1 _ rfl, h 2 _ rfl, h 3 _ rfl, h 4 _ rfl, h 5 _ rfl, h 6 _ rfl, h 7 _ rfl, h 8 _ rfl, h 9 _ rfl, h 10 _ rfl, h 11 _ rfl, h 12 _ rfl, h 13 _ rfl, h 14 _ rfl, h 15 _ rfl⟩
      obtain ⟨q3, q4, de, hdw, hde⟩ := hv.dec_exp
      have hrow1 := row_one (W := wr) (n := wr.heap.size) rfl (hde.below' hO.out) rfl
      have HE : Hid (Calls Tryz.prog 5 #[.slice (some ⟨wr.heap.size, 0, none⟩) 1 1] (wr.alloc (.cells ⟨[.int .u8 v9, .string v10, .int .i64 v11, .string v12, .slice a13 n13 c13, .slice a14 n14 c14, .slice a15 n15 c15]⟩ 34)) fun e w' => ∃ z : Int, e = .returned (.int .i64 z) ∧ Hid (Below W0.heap.size W0 w')) := Lib.hid
        ((size_ok hrow1 (by have := HWS.out; simp [wsum]; omega) (Below.refl _ _)).mono fun _ _ ⟨z, h1, h2⟩ => ⟨z, h1, Lib.hid ((hO.out.alloc hO.out.size _).trans (h2.mono (Nat.le_trans hO.out.size (by simp))))⟩)
      have HC6 : Hid (∀ w, Hid (Below W0.heap.size W0 w) → Calls Tryz.prog 6 #[.agg ⟨[.int .u8 v0, .string v1, .slice a2 n2 c2, .slice a3 n3 c3, .slice a4 n4 c4, .int .u8 v5, .string v6, .int .i64 v7, .slice a8 n8 c8, .int .u8 v9, .string v10, .int .i64 v11, .string v12, .slice a13 n13 c13, .slice a14 n14 c14, .slice a15 n15 c15]⟩] w fun e w' => e = .returned (.string tx) ∧ Hid (Below W0.heap.size W0 w')) := Lib.hid fun w hb => (HAX.out w _ hv hb.out).1
      have HC7 : Hid (∀ w, Hid (Below W0.heap.size W0 w) → Calls Tryz.prog 7 #[.agg ⟨[.int .u8 v0, .string v1, .slice a2 n2 c2, .slice a3 n3 c3, .slice a4 n4 c4, .int .u8 v5, .string v6, .int .i64 v7, .slice a8 n8 c8, .int .u8 v9, .string v10, .int .i64 v11, .string v12, .slice a13 n13 c13, .slice a14 n14 c14, .slice a15 n15 c15]⟩] w fun e w' => e = .returned (.string tx) ∧ Hid (Below W0.heap.size W0 w')) := Lib.hid fun w hb => (HAX.out w _ hv hb.out).2
      obtain ⟨k0, k1, k2, k3, k4, k5, k6, k7, k8, k9, k10, k11, k12, k13, k14, k15⟩ := HCW.out wr hO.out
      have j1 : (m : Int) < (l.length : Int) := by omega
      have j0 : (0 : Int) ≤ (m : Int) := by omega
      have hn3 : n3 ≤ 1048576 := by have := HWS.out; omega
      have hn4 : n4 ≤ 1048576 := by have := HWS.out; omega
      clear hc hv hvk hr HAX hrow1 hde hdw q3 q4 hxw HA
      go_wp2_with fail
      refine HE.out.mono ?_
      rintro e w2 ⟨z, rfl, hb2⟩
      clear k0 k1 k2 k3 k4 k5 k6 k7 k8 k9 k10 k11 k12 k13 k14 k15
      obtain ⟨k0, k1, k2, k3, k4, k5, k6, k7, k8, k9, k10, k11, k12, k13, k14, k15⟩ := HCW.out w2 hb2.out
      by_cases hz : 2000 < z
      · go_wp2_with fail
        refine (HW.out _ hb2.out).mono ?_
        rintro e w3 ⟨rfl, hb3⟩
        go_wp2
        go_ret
        exact ⟨rfl, hb3.out⟩
      by_cases hf : (100 : Int) < (n4 : Int)
      · go_wp2_with fail
        refine (HW.out _ hb2.out).mono ?_
        rintro e w3 ⟨rfl, hb3⟩
        go_wp2
        go_ret
        exact ⟨rfl, hb3.out⟩
      by_cases hg : (100 : Int) < (n3 : Int)
      · go_wp2_with fail
        refine (HW.out _ hb2.out).mono ?_
        rintro e w3 ⟨rfl, hb3⟩
        go_wp2
        go_ret
        exact ⟨rfl, hb3.out⟩
      go_wp2
      go_region_held3 (fun w => Hid (Below W0.heap.size W0 w) ∧ w.cell? ⟨b, o + m * 16, none⟩ = some (.int .u8 v0) ∧ w.cell? ⟨b, o + m * 16 + 1, none⟩ = some (.string v1) ∧ w.cell? ⟨b, o + m * 16 + 2, none⟩ = some (.slice a2 n2 c2) ∧ w.cell? ⟨b, o + m * 16 + 3, none⟩ = some (.slice a3 n3 c3) ∧ w.cell? ⟨b, o + m * 16 + 4, none⟩ = some (.slice a4 n4 c4) ∧ w.cell? ⟨b, o + m * 16 + 5, none⟩ = some (.int .u8 v5) ∧ w.cell? ⟨b, o + m * 16 + 6, none⟩ = some (.string v6) ∧ w.cell? ⟨b, o + m * 16 + 7, none⟩ = some (.int .i64 v7) ∧ w.cell? ⟨b, o + m * 16 + 8, none⟩ = some (.slice a8 n8 c8) ∧ w.cell? ⟨b, o + m * 16 + 9, none⟩ = some (.int .u8 v9) ∧ w.cell? ⟨b, o + m * 16 + 10, none⟩ = some (.string v10) ∧ w.cell? ⟨b, o + m * 16 + 11, none⟩ = some (.int .i64 v11) ∧ w.cell? ⟨b, o + m * 16 + 12, none⟩ = some (.string v12) ∧ w.cell? ⟨b, o + m * 16 + 13, none⟩ = some (.slice a13 n13 c13) ∧ w.cell? ⟨b, o + m * 16 + 14, none⟩ = some (.slice a14 n14 c14) ∧ w.cell? ⟨b, o + m * 16 + 15, none⟩ = some (.slice a15 n15 c15))
        ((first | (have hh := (HCW.out _ (by exact (by assumption : Hid (Below W0.heap.size W0 _)).out)); exact ⟨by assumption, hh⟩) | (have hh := (HCW.out _ (by exact (‹Hid (Below W0.heap.size W0 _)›).out.drew)); exact ⟨Lib.hid (‹Hid (Below W0.heap.size W0 _)›).out.drew, hh⟩)))
        ((first
          | (go_at_call 6; refine (HC6.out _ ?_).mono ?_; (first | assumption | exact bl0 | exact bl5 | exact bl1 (by assumption) | exact bl2 (by assumption) | exact bl3 (by assumption)); rintro e w' ⟨rfl, hb⟩)
          | (go_at_call 7; refine (HC7.out _ ?_).mono ?_; (first | assumption | exact bl0 | exact bl5 | exact bl1 (by assumption) | exact bl2 (by assumption) | exact bl3 (by assumption)); rintro e w' ⟨rfl, hb⟩)))
      all_goals go_wp2
      all_goals go_roundw
      case rel => exact ⟨m + 1, by omega, by simp, (‹Hid (Below _ _ _) ∧ _›).1⟩
      case measure => simp [intOf]; omega
    · obtain rfl : m = l.length := by omega
      go_wp2_with fail
      refine (HP.out _ hO.out).mono ?_
      rintro e w2 ⟨rfl, hb2⟩
      go_wp2_with fail
      refine (HR.out _ hb2.out).mono ?_
      rintro e w3 ⟨rfl, hb3⟩
      go_wp2_with fail
      refine (HW.out _ hb3.out).mono ?_
      rintro e w4 ⟨rfl, hb4⟩
      go_wp2
      go_ret
      exact ⟨rfl, hb4.out⟩
end Go.Pr
