/- Proved: for every many and every cleared the law TableLow answers true, and both read afterwards as before; the package variables that the row lists hold at the start what the program lays in them (tied). -/
import Derived.Test.YtaegmbilkodhpaaGreatDoorTbD
import Derived.Test.YtaegmbilkodhpaaGreatDoorRun
import Derived.Test.YtaegmbilkodhpaaGreatDoorRows
import Derived.Test.YtaegmbilkodhpaaGreatDoorCards
import Derived.Test.YtaegmbilkodhpaaGreatDoorTie
import Derived.ChangeArms
import Derived.Lib.SmallJoins
import Derived.Carry
import Derived.Lay
import Derived.LaidMore
import Derived.LaidEql
set_option linter.unusedVariables false
set_option linter.unusedSimpArgs false
set_option maxRecDepth 100000
set_option maxHeartbeats 1600000
namespace Go.Tb
open Go Go.RowKit Go.Proofs Go.Maps
theorem works_all : Works (fun _ => True) := fun w _ =>
  (Eng.run_true (K := Eng.ctxAt Tryz.prog w) (Eng.call7 rfl) Eng.enters8 (by decide) rfl rfl (Eng.globs_of fun g hg => ⟨1, by simp [hg]⟩) (Eng.h0_ok rfl rfl) Eng.VRs.nil Eng.run8).mono fun e w' ⟨h1, h2⟩ => ⟨h1, Lib.hid h2⟩
theorem fours_all : Fours := Eng.fours_calls
section
variable {K : Eng.Ctx} {σ : Eng.Env} {own : Eng.Owns} {h : Eng.AHeap} {w : World}
structure Lone (K : Eng.Ctx) (σ : Eng.Env) (own : Eng.Owns) (h : Eng.AHeap) (w : World) (b : Eng.Pos) (B : Nat) : Prop where
  loc : ∃ l, σ b = some l ∧ l.B = B
  own : own B = some (false, b)
  lo : K.base ≤ B
  lt : B < w.heap.size
theorem lone_at (H : Eng.HR K σ own h w) {b : Eng.Pos} {l : Eng.Loc} (hb : σ b = some l) {r : Eng.Row} (hg : h.get b = some (.cells none false r)) :
    l.o = 0 ∧ Lone K σ own h w b l.B ∧ ∀ off x, h.load1 b off = some x → ∃ v, w.cell? ⟨l.B, off, none⟩ = some v ∧ Eng.VR K σ x v ∧ ∀ o, o ≤ off → w.frozen? ⟨l.B, o, none⟩ = false := by
  have h0 := H.off b l r hb hg
  have hB := H.obj b l hb
  rw [hg] at hB
  obtain ⟨R, hlt, hro, -⟩ := hB
  obtain ⟨hown, hfz⟩ := hro rfl
  refine ⟨h0, ⟨⟨l, hb, rfl⟩, hown, (H.owned _ _ hown).1, hlt⟩, fun off x hx => ?_⟩
  obtain ⟨v, h1, h2⟩ := H.load1 hb hx
  rw [h0, Nat.zero_add] at h1
  refine ⟨v, h1, h2, fun o ho => ?_⟩
  unfold World.cell? at h1
  unfold World.frozen?
  simp only at h1 ⊢
  cases hc : w.heap[l.B]? with
  | none => rfl
  | some ob =>
    cases ob with
    | cells c t lh =>
      obtain ⟨lo, hi⟩ := lh
      rw [hc] at h1
      have h1 : c[off]? = some v := h1
      have hlt : off < c.size := by
        by_cases hh : off < c.size
        · exact hh
        · rw [Array.getElem?_eq_none (by omega)] at h1; cases h1
      have := hfz c t lo hi hc
      show (decide (lo ≤ o) && decide (o < hi)) = false
      simp only [Bool.and_eq_false_iff, decide_eq_false_iff_not]
      omega
    | _ => rfl
theorem map_at (H : Eng.HR K σ own h w) {b : Eng.Pos} {l : Eng.Loc} (hb : σ b = some l) (hg : h.get b = some (.map [] 0)) :
    Lone K σ own h w b l.B ∧ w.ownsMap Tryz.prog 3 heldR l.B 0 (.map []) := by
  have hB := H.obj b l hb
  rw [hg] at hB
  obtain ⟨hown, ces, h2, h3⟩ := hB
  have h3 : ces.toList = [] := h3
  have hc : ces = #[] := by rw [← Array.toList_eq_nil_iff]; exact h3
  subst hc
  exact ⟨⟨⟨l, hb, rfl⟩, hown, (H.owned _ _ hown).1, (H.owned _ _ hown).2⟩, #[], 0, h2, ⟨by simp, Go.MapKept.stamped_empty 0, by simp⟩, Nat.le_refl _, rfl⟩
theorem Lone.ne {b b' : Eng.Pos} {B B' : Nat} (h1 : Lone K σ own h w b B) (h2 : Lone K σ own h w b' B') (hne : b ≠ b') : B ≠ B' := fun e => by
  have := h1.own
  rw [e, h2.own] at this
  injection this with this
  injection this with _ this
  exact hne this.symm
theorem lones_nodup : ∀ l : List (Eng.Pos × Nat), (∀ x ∈ l, Lone K σ own h w x.1 x.2) → (l.map Prod.fst).Nodup → (l.map Prod.snd).Nodup
  | [], _, _ => List.nodup_nil
  | x :: l, hl, hn => by
    rw [List.map_cons, List.nodup_cons] at hn ⊢
    refine ⟨fun hm => ?_, lones_nodup l (fun y hy => hl y (List.mem_cons_of_mem _ hy)) hn.2⟩
    obtain ⟨y, hy, e⟩ := List.mem_map.1 hm
    refine (hl x List.mem_cons_self).ne (hl y (List.mem_cons_of_mem _ hy)) (fun e2 => hn.1 ?_) e.symm
    rw [e2]; exact List.mem_map_of_mem hy
theorem lones9 {p1 p2 p3 p4 p5 p6 p7 p8 p9 : Eng.Pos} {b1 b2 b3 b4 b5 b6 b7 b8 b9 : Nat} (h1 : Lone K σ own h w p1 b1) (h2 : Lone K σ own h w p2 b2) (h3 : Lone K σ own h w p3 b3) (h4 : Lone K σ own h w p4 b4) (h5 : Lone K σ own h w p5 b5) (h6 : Lone K σ own h w p6 b6) (h7 : Lone K σ own h w p7 b7) (h8 : Lone K σ own h w p8 b8) (h9 : Lone K σ own h w p9 b9)
    (hn : [p1, p2, p3, p4, p5, p6, p7, p8, p9].Nodup) : [b1, b2, b3, b4, b5, b6, b7, b8, b9].Nodup := by
  refine lones_nodup (K := K) (σ := σ) (own := own) (h := h) (w := w) [(p1, b1), (p2, b2), (p3, b3), (p4, b4), (p5, b5), (p6, b6), (p7, b7), (p8, b8), (p9, b9)] (fun x hx => ?_) hn
  simp only [List.mem_cons, List.not_mem_nil, or_false] at hx
  rcases hx with rfl | rfl | rfl | rfl | rfl | rfl | rfl | rfl | rfl <;> assumption
theorem ptr_vr {b : Eng.Pos} {v : Value} (hv : Eng.VR K σ (.ptr b 0) v) : ∃ l, σ b = some l ∧ v = .pointer (some ⟨l.B, l.o + 0, none⟩) := hv
theorem map_vr {b : Eng.Pos} {v : Value} (hv : Eng.VR K σ (.map b) v) : ∃ l, σ b = some l ∧ v = .map (some l.B) := hv
end
theorem start_tb {K : Eng.Ctx} {σ : Eng.Env} {own : Eng.Owns} {h : Eng.AHeap} {w : World} (H : Eng.HR K σ own h w) {t e : Eng.AV} {psb : Eng.Pos} (hb : Eng.startB t e (.ptr psb 0) h = true) {tv ev : Value} (htv : Eng.VR K σ t tv) (hev : Eng.VR K σ e ev) {ls : Eng.Loc} (hsl : σ psb = some ls) :
    ∃ tb eb b K', tv = .pointer (some ⟨tb, 0, none⟩) ∧ ev = .int .i64 0 ∧ TbV K.base w tb eb b (.map []) 0 (.map []) 0 (fun _ => 0) K' := by
  unfold Eng.startB at hb
  have hb' := Eng.andB_eq hb
  clear hb
  obtain ⟨a0, hb⟩ := hb'
  have h' := Eng.isI_eq a0
  clear a0
  have a0 := h'
  clear h'
  injection a0 with a0
  subst a0
  have hev : ev = .int .i64 0 := hev
  subst hev
  have hb' := Eng.ptr0_eq hb
  clear hb
  obtain ⟨tb, ht, hb⟩ := hb'
  injection ht with ht
  subst ht
  have hb' := Eng.ptr0_eq hb
  clear hb
  obtain ⟨psb', hs', hb⟩ := hb'
  injection hs' with hs'
  injection hs' with hs' _
  subst hs'
  have hb' := Eng.isMapV_eq hb
  clear hb
  obtain ⟨eb, het, hb⟩ := hb'
  have hb' := Eng.ptr0_eq hb
  clear hb
  obtain ⟨db, hds, hb⟩ := hb'
  have hb' := Eng.ptr0_eq hb
  clear hb
  obtain ⟨cb, hcs, hb⟩ := hb'
  have hb' := Eng.isMapV_eq hb
  clear hb
  obtain ⟨fb, hfc, hb⟩ := hb'
  have hb' := Eng.ptr0_eq hb
  clear hb
  obtain ⟨ob, hos, hb⟩ := hb'
  have hb' := Eng.ptr0_eq hb
  clear hb
  obtain ⟨rb, hrs', hb⟩ := hb'
  have hb' := Eng.ptr0_eq hb
  clear hb
  obtain ⟨kb, hks, hb⟩ := hb'
  have hb' := Eng.andB_eq hb
  clear hb
  obtain ⟨hdiff, hb⟩ := hb'
  have h' := Eng.allDiff_eq hdiff
  clear hdiff
  have hdiff := h'
  clear h'
  have hb' := Eng.andB_eq hb
  clear hb
  obtain ⟨ht0, hb⟩ := hb'
  have h' := Eng.ptr0_eq ht0
  clear ht0
  obtain ⟨p1, ht0, e1⟩ := h'
  have e1 := (Eng.Pos.eqb_iff.1 e1).symm
  subst e1
  have hb' := Eng.andB_eq hb
  clear hb
  obtain ⟨hc0, hb⟩ := hb'
  have h' := Eng.ptr0_eq hc0
  clear hc0
  obtain ⟨p2, hc0, e2⟩ := h'
  have e2 := (Eng.Pos.eqb_iff.1 e2).symm
  subst e2
  have hb' := Eng.andB_eq hb
  clear hb
  obtain ⟨hc1, hb⟩ := hb'
  have h' := Eng.isI_eq hc1
  clear hc1
  have hc1 := h'
  clear h'
  have hb' := Eng.andB_eq hb
  clear hb
  obtain ⟨hc2, hb⟩ := hb'
  have h' := Eng.anyI_eq hc2
  clear hc2
  obtain ⟨ck, hc2⟩ := h'
  have hb' := Eng.andB_eq hb
  clear hb
  obtain ⟨hd0, hb⟩ := hb'
  have h' := Eng.isSl_eq hd0
  clear hd0
  have hd0 := h'
  clear h'
  have hb' := Eng.andB_eq hb
  clear hb
  obtain ⟨hd2, hb⟩ := hb'
  have h' := Eng.isFalse_eq hd2
  clear hd2
  have hd2 := h'
  clear h'
  have hb' := Eng.andB_eq hb
  clear hb
  obtain ⟨hk0, hb⟩ := hb'
  have h' := Eng.isI_eq hk0
  clear hk0
  have hk0 := h'
  clear h'
  have hb' := Eng.andB_eq hb
  clear hb
  obtain ⟨hk1, hb⟩ := hb'
  have h' := Eng.isI_eq hk1
  clear hk1
  have hk1 := h'
  clear h'
  have hb' := Eng.andB_eq hb
  clear hb
  obtain ⟨hs16, hb⟩ := hb'
  have h' := Eng.isSome1_eq hs16
  clear hs16
  obtain ⟨v16, hs16⟩ := h'
  have hb' := Eng.andB_eq hb
  clear hb
  obtain ⟨lt, hb⟩ := hb'
  have h' := Eng.lone_eq lt
  clear lt
  obtain ⟨_, lt⟩ := h'
  have hb' := Eng.andB_eq hb
  clear hb
  obtain ⟨lsb, hb⟩ := hb'
  have h' := Eng.lone_eq lsb
  clear lsb
  obtain ⟨_, lsb⟩ := h'
  have hb' := Eng.andB_eq hb
  clear hb
  obtain ⟨ldb, hb⟩ := hb'
  have h' := Eng.lone_eq ldb
  clear ldb
  obtain ⟨_, ldb⟩ := h'
  have hb' := Eng.andB_eq hb
  clear hb
  obtain ⟨lcb, hb⟩ := hb'
  have h' := Eng.lone_eq lcb
  clear lcb
  obtain ⟨_, lcb⟩ := h'
  have hb' := Eng.andB_eq hb
  clear hb
  obtain ⟨lkb, hb⟩ := hb'
  have h' := Eng.lone_eq lkb
  clear lkb
  obtain ⟨_, lkb⟩ := h'
  have hb' := Eng.andB_eq hb
  clear hb
  obtain ⟨lob, hb⟩ := hb'
  have h' := Eng.noMap_eq lob
  clear lob
  obtain ⟨no, hno, lob⟩ := h'
  have hb' := Eng.andB_eq hb
  clear hb
  obtain ⟨lrb, hb⟩ := hb'
  have h' := Eng.noMap_eq lrb
  clear lrb
  obtain ⟨nr, hnr, lrb⟩ := h'
  have hb' := Eng.andB_eq hb
  clear hb
  obtain ⟨leb, hb⟩ := hb'
  have h' := Eng.noEnt_eq leb
  clear leb
  have leb := h'
  clear h'
  have hb' := Eng.andB_eq hb
  clear hb
  obtain ⟨lfb, hb⟩ := hb'
  have h' := Eng.noEnt_eq lfb
  clear lfb
  have lfb := h'
  clear h'
  have hb' := Eng.andB_eq hb
  clear hb
  obtain ⟨z3, hb⟩ := hb'
  have h' := Eng.isI_eq z3
  clear z3
  have z3 := h'
  clear h'
  have hb' := Eng.andB_eq hb
  clear hb
  obtain ⟨z4, hb⟩ := hb'
  have h' := Eng.isI_eq z4
  clear z4
  have z4 := h'
  clear h'
  have hb' := Eng.andB_eq hb
  clear hb
  obtain ⟨z5, hb⟩ := hb'
  have h' := Eng.isI_eq z5
  clear z5
  have z5 := h'
  clear h'
  have hb' := Eng.andB_eq hb
  clear hb
  obtain ⟨z6, hb⟩ := hb'
  have h' := Eng.isI_eq z6
  clear z6
  have z6 := h'
  clear h'
  have hb' := Eng.andB_eq hb
  clear hb
  obtain ⟨z7, hb⟩ := hb'
  have h' := Eng.isI_eq z7
  clear z7
  have z7 := h'
  clear h'
  have hb' := Eng.andB_eq hb
  clear hb
  obtain ⟨z8, hb⟩ := hb'
  have h' := Eng.isI_eq z8
  clear z8
  have z8 := h'
  clear h'
  have hb' := Eng.andB_eq hb
  clear hb
  obtain ⟨z9, hb⟩ := hb'
  have h' := Eng.isI_eq z9
  clear z9
  have z9 := h'
  clear h'
  obtain ⟨z10, z11⟩ := Eng.andB_eq hb
  have h' := Eng.isI_eq z10
  clear z10
  have z10 := h'
  clear h'
  have h' := Eng.isI_eq z11
  clear z11
  have z11 := h'
  clear h'
  clear hb
  -- the blocks of the world
  obtain ⟨lt', htl, rfl⟩ := ptr_vr htv
  obtain ⟨ot, Lt, At⟩ := lone_at H htl lt
  obtain ⟨osb, Ls, As⟩ := lone_at H hsl lsb
  obtain ⟨v, gt1, xt1, ft1⟩ := At _ _ het
  obtain ⟨le, hel, rfl⟩ := map_vr xt1
  obtain ⟨Le, Oe⟩ := map_at H hel leb
  obtain ⟨v, gs0, xs0, fs0⟩ := As _ _ hds
  obtain ⟨ld, hdl, rfl⟩ := ptr_vr xs0
  obtain ⟨od, Ld, Ad⟩ := lone_at H hdl ldb
  obtain ⟨v, gs1, xs1, fs1⟩ := As _ _ hcs
  obtain ⟨lc, hcl, rfl⟩ := ptr_vr xs1
  obtain ⟨oc, Lc, Ac⟩ := lone_at H hcl lcb
  obtain ⟨v, gc3, xc3, fc3⟩ := Ac _ _ hfc
  obtain ⟨lf, hfl, rfl⟩ := map_vr xc3
  obtain ⟨Lf, Of⟩ := map_at H hfl lfb
  obtain ⟨v, gs14, xs14, fs14⟩ := As _ _ hos
  obtain ⟨lo, hol, rfl⟩ := ptr_vr xs14
  obtain ⟨oo, Lo, Ao⟩ := lone_at H hol lob
  obtain ⟨v, gs13, xs13, fs13⟩ := As _ _ hrs'
  obtain ⟨lr, hrl, rfl⟩ := ptr_vr xs13
  obtain ⟨orr, Lr, Ar⟩ := lone_at H hrl lrb
  obtain ⟨v, gs15, xs15, fs15⟩ := As _ _ hks
  obtain ⟨lk, hkl, rfl⟩ := ptr_vr xs15
  obtain ⟨ok, Lk, Ak⟩ := lone_at H hkl lkb
  have hN := lones9 Ls Ld Lc Lf Lo Lr Lt Le Lk hdiff
  have hnd := hN.sublist (List.sublist_append_left [ls.B, ld.B, lc.B, lf.B, lo.B, lr.B] [lt'.B, le.B, lk.B])
  simp only [List.nodup_cons, List.mem_cons, not_or, List.not_mem_nil, not_false_eq_true, List.nodup_nil, and_true] at hN
  obtain ⟨n1, n2, n3, n4, n5, n6, n7, n8⟩ := hN
  have As' := As
  obtain ⟨v, gt0, xt0, ft0⟩ := At _ _ ht0
  obtain ⟨_, hsl', rfl⟩ := ptr_vr xt0
  obtain rfl := Option.some.inj (hsl.symm.trans hsl')
  obtain ⟨v, gc0, xc0, fc0⟩ := Ac _ _ hc0
  obtain ⟨_, hdl', rfl⟩ := ptr_vr xc0
  obtain rfl := Option.some.inj (hdl.symm.trans hdl')
  obtain ⟨v, gc1, xc1, fc1⟩ := Ac _ _ hc1
  obtain rfl : v = _ := xc1
  obtain ⟨v, gc2, xc2, fc2⟩ := Ac _ _ hc2
  obtain rfl : v = _ := xc2
  obtain ⟨v, gd2, xd2, fd2⟩ := Ad _ _ hd2
  obtain rfl : v = _ := xd2
  obtain ⟨v, gk0, xk0, fk0⟩ := Ak _ _ hk0
  obtain rfl : v = _ := xk0
  obtain ⟨v, gk1, xk1, fk1⟩ := Ak _ _ hk1
  obtain rfl : v = _ := xk1
  have lit0 : (Lit.int .i64 (0 : Nat)).wf = true := by decide
  have emp : ∀ x, Maps.has (.map [] : DataW Value) x = false := fun _ => rfl
  have hM : ∀ {b : Eng.Pos} {l : Eng.Loc} {n : Nat}, 1024 ≤ n → h.get b = some (.cells none false (.wid n 0)) → (∀ off x, h.load1 b off = some x → ∃ v, w.cell? ⟨l.B, off, none⟩ = some v ∧ Eng.VR K σ x v ∧ ∀ o, o ≤ off → w.frozen? ⟨l.B, o, none⟩ = false) → MapV w l.B (fun _ => 0) := by
    intro b l n hn hg A
    have h1 : ∀ i, i < 1024 → w.cell? ⟨l.B, i, none⟩ = some (.int .u16 0) ∧ w.frozen? ⟨l.B, i, none⟩ = false := fun i hi => by
      obtain ⟨v, g, x, f⟩ := A i (.int .u16 0) (by
        show Eng.onSome (h.get b) _ none = _
        rw [hg]
        show (Eng.Row.wid n 0).get i = _
        rw [Eng.Row.get_wid, if_pos (by omega), Eng.widAt_zero]; rfl)
      obtain rfl : v = _ := x
      exact ⟨g, f i (Nat.le_refl i)⟩
    exact ⟨fun i hi => ⟨(h1 i hi).1, by simp⟩, fun i hi => (h1 i hi).2⟩
  have z : ∀ i : Nat, h.load1 psb i = some (.int .i64 0) → w.cell? ⟨ls.B, i, none⟩ = some (.int .i64 0) := fun i hi => by
    obtain ⟨v, g, x, f⟩ := As _ _ hi
    obtain rfl : v = _ := x
    exact g
  obtain ⟨v, gs16, xs16, fs16⟩ := As _ _ hs16
  rw [ot] at *
  rw [osb] at gt0
  rw [od] at gs0 gc0
  rw [oc] at gs1
  rw [oo] at gs14
  rw [orr] at gs13
  rw [ok] at gs15
  refine ⟨lt'.B, le.B, ⟨ls.B, ld.B, lc.B, lf.B, lo.B, lr.B⟩, fun x => x ∈ [ls.B, ld.B, lc.B, lf.B, lo.B, lr.B, lt'.B, le.B], rfl, rfl, ?_⟩
  have cv : CV K.base w lc.B lf.B ld.B (.map []) 0 (fun x => x ∈ [ls.B, ld.B, lc.B, lf.B, lo.B, lr.B, lt'.B, le.B]) :=
    { c0 := gc0, c1 := gc1, c2 := ⟨_, gc2⟩, c3 := gc3, cz := ?_, own := Of, fr := fun x hx => (by rw [emp] at hx; cases hx), kc := by simp, kf := by simp, kd := by simp, ks := ?_, Bc := Lc.lo, Bf := Lf.lo, cf := n3.1 }
  · refine { t0 := gt0, t1 := gt1, ev := ⟨Oe, fun x hx => (by rw [emp] at hx; cases hx)⟩, wf := fun x p q hx => ?_, sp := ?_, kt := by simp, ke := by simp, nt := ?_, Be := Le.lo, cov := fun x hx => (by rw [emp] at hx; cases hx) }
    · have := hx (.map [])
      cases this
    · refine { s0 := gs0, s1 := gs1, sp := fun i hi => ?_, s13 := gs13, s14 := gs14, s15 := ⟨lk.B, gs15, ⟨gk0, gk1, fun o ho => fk1 o (Nat.le_of_lt_succ ho)⟩, Lk.lo, Ne.symm n5.2.2.2, Ne.symm n1.2.2.2.2.2.2.2⟩, s16 := ⟨_, gs16⟩, sz := fun o ho => fs16 o (Nat.le_of_lt_succ ho), d0 := ?_, d2 := gd2, cv := cv, mo := hM hno lob Ao, mr := hM hnr lrb Ar, ks := by simp, ko := by simp, kr := by simp, Bs := Ls.lo, Bo := Lo.lo, nd := hnd, fs := fun p hp => (hp rfl).elim }
      · have hi' : i = 0 ∨ i = 1 ∨ i = 2 ∨ i = 3 ∨ i = 4 ∨ i = 5 ∨ i = 6 ∨ i = 7 ∨ i = 8 := by clear n1 n2 n3 n4 n5 n6 n7 n8 hno hnr; omega
        rcases hi' with rfl | rfl | rfl | rfl | rfl | rfl | rfl | rfl | rfl
        · exact z 3 z3
        · exact z 4 z4
        · exact z 5 z5
        · exact z 6 z6
        · exact z 7 z7
        · exact z 8 z8
        · exact z 9 z9
        · exact z 10 z10
        · exact z 11 z11
      · rcases hd0 with ⟨b, o, zz, hd0⟩ | ⟨b, o, c, zz, hd0⟩
        · obtain ⟨v, g, x, f⟩ := Ad _ _ hd0
          obtain ⟨l, _, rfl⟩ := x
          exact ⟨_, _, g⟩
        · obtain ⟨v, g, x, f⟩ := Ad _ _ hd0
          obtain ⟨l, _, rfl⟩ := x
          exact ⟨_, _, g⟩
    · intro y hy
      simp only [List.mem_cons, List.not_mem_nil, or_false] at hy
      rcases hy with rfl | rfl | rfl | rfl | rfl | rfl
      · exact ⟨n1.2.2.2.2.2.1, n1.2.2.2.2.2.2.1⟩
      · exact ⟨n2.2.2.2.2.1, n2.2.2.2.2.2.1⟩
      · exact ⟨n3.2.2.2.1, n3.2.2.2.2.1⟩
      · exact ⟨n4.2.2.1, n4.2.2.2.1⟩
      · exact ⟨n5.2.1, n5.2.2.1⟩
      · exact ⟨n6.1, n6.2.1⟩
  · exact fun o ho => fc3 o (Nat.le_of_lt_succ ho)
  · intro b hb
    simp only [List.mem_cons, List.not_mem_nil, or_false] at hb
    rcases hb with rfl | rfl | rfl | rfl | rfl | rfl | rfl | rfl
    · exact Ls.lt
    · exact Ld.lt
    · exact Lc.lt
    · exact Lf.lt
    · exact Lo.lt
    · exact Lr.lt
    · exact Lt.lt
    · exact Le.lt
theorem start_all : Start (fun _ => True) := by
  intro w _
  have hK : (Eng.ctxAt Tryz.prog w).codes = Eng.codesOf Tryz.prog := rfl
  have H0 := Eng.h0_ok (K := Eng.ctxAt Tryz.prog w) (w := w) rfl rfl
  have hg0 : Eng.Globs 2 (Eng.envOf fun i => if i < 2 then some ⟨i, 0, 1⟩ else none) := Eng.globs_of fun g hg => ⟨1, by simp [hg]⟩
  obtain ⟨d, s, h1, hr6, hb⟩ := Eng.onTup2_eq Eng.startR_ok
  obtain ⟨hb1, hb⟩ := Eng.andB_eq hb
  obtain ⟨psb, hs, hl1⟩ := Eng.ptr0_eq hb1
  injection hs with hs
  subst hs
  obtain ⟨t, e, h2, hr7, hb⟩ := Eng.onTup2_eq hb
  have C6 := Eng.calls_of Eng.enters6 ((Eng.call7 hK).fn _ _ w Eng.h0 6 [.int .i64 130] #[.int .i64 130] (by decide) hg0 H0 (Eng.VRs.cons rfl Eng.VRs.nil) (by rw [hr6]; intro e; cases e))
  rw [hr6] at C6
  refine C6.mono ?_
  rintro e1 w1 ⟨vc, rfl, σ1, own1, hv, hG1, H1⟩
  obtain ⟨⟨vs⟩, rfl, dv, _, rfl, hdv, sv, _, rfl, hsv, hnil⟩ := hv
  have hnil : _ = [] := hnil
  subst hnil
  obtain ⟨ls, hls, rfl⟩ := ptr_vr hsv
  obtain ⟨rs, hrs⟩ := Eng.lone_eq hl1
  have hls0 := (lone_at H1 hls hrs).1
  rw [hls0]
  refine ⟨dv, ls.B, rfl, Lib.hid ?_⟩
  have C7 := Eng.calls_of Eng.enters7 ((Eng.call7 hK).fn σ1 own1 w1 h1 7 [.ptr psb 0] #[.pointer (some ⟨ls.B, 0, none⟩)] (by decide) (hg0.mono hG1.le) H1 (Eng.VRs.cons ⟨ls, hls, by rw [hls0]⟩ Eng.VRs.nil) (by rw [hr7]; intro e; cases e))
  rw [hr7] at C7
  refine C7.mono ?_
  rintro e2 w2 ⟨vc2, rfl, σ2, own2, hv2, hG2, H2⟩
  obtain ⟨⟨vs2⟩, rfl, tv, _, rfl, htv, ev, _, rfl, hev, hnil2⟩ := hv2
  have hnil2 : _ = [] := hnil2
  subst hnil2
  obtain ⟨tb, eb, b, K', rfl, rfl, hT⟩ := start_tb H2 hb htv hev (hG2.le _ _ hls)
  exact ⟨tb, rfl, Lib.hid ⟨⟨eb, b, .map [], K', hT⟩, H2.below⟩⟩
end Go.Tb
namespace Go.Tb
open Go Go.RowKit Go.Proofs Go.Maps Go.WideShapes Go.Proofs.YtaegmbilkodhpaaGreatDoor
theorem tableLow_calls {w : World} {many : Nat} (hm : many < 256) {cv : Value} {bs : List Nat} (hc : RdB w cv bs) :
    Calls Tryz.prog 3 #[.int .u8 (many : Int), cv] w fun e w' => e = .returned (.bool true) ∧ Below w.heap.size w w' :=
  low_law (fun _ => True) (fun _ _ _ _ => trivial) fours_all putC start_all works_all trivial hm hc
section
variable {H : Type} {enc : TypeId × Value → H} {W : World} {sp : Nat → Bool}
theorem cellsOf5 : Tryz.prog.cellsOf 5 = 1 := by kernel_rfl
theorem cells_get {a : Addr} {n : Nat} {cs : List Value} (h : W.cells? 0 a n = some cs) (hn : 0 < n) : a.spot = none ∧ ∀ j v, cs[j]? = some v → W.cell? ⟨a.block, a.off + j, none⟩ = some v := by
  unfold World.cells? at h
  rw [if_pos (Nat.zero_le _)] at h
  have hl := mapM_some_length h
  rw [List.length_range] at hl
  have hg : ∀ j v, cs[j]? = some v → W.cell? (a.add j) = some v := fun j v hj => by
    have hjl : j < n := by rw [← hl]; exact (List.getElem?_eq_some_iff.1 hj).1
    have := mapM_some_get h j j (by simp [hjl])
    rw [this]; exact hj
  obtain ⟨b, o, s⟩ := a
  have hs : s = none := by
    obtain ⟨v, hv⟩ : ∃ v, cs[0]? = some v := ⟨cs[0]'(by omega), List.getElem?_eq_getElem (by omega)⟩
    have h0 := hg 0 v hv
    cases s with
    | none => rfl
    | some k =>
      unfold World.cell? at h0
      simp only [Addr.add] at h0
      split at h0 <;> simp at h0
  subst hs
  refine ⟨rfl, fun j v hj => ?_⟩
  have := hg j v hj
  rw [show (⟨b, o, none⟩ : Addr).add j = ⟨b, o + j, none⟩ by unfold Addr.add; split <;> simp_all] at this
  exact this
def CellsAt (W : World) (b o : Nat) (vs : List Value) : Prop := ∀ j v, vs[j]? = some v → W.cell? ⟨b, o + j, none⟩ = some v
theorem rows_read {α : Type} {e : TypeId} {k : Nat} {E : α → List Value → Prop} {n : Nat} (hk : Tryz.prog.cellsOf e = k) (h0 : 0 < k)
    (hE : ∀ cs (y : DataW H × List MemPlace), DataW.trod enc Tryz.prog W 0 sp true n e cs = some y → ∃ x : α, E x cs) {a : Addr} {elems : List (DataW H × List MemPlace)} :
    ∀ m, m ≤ elems.length → (∀ i, i < elems.length → (W.cells? 0 (a.add (i * Tryz.prog.cellsOf e)) (Tryz.prog.cellsOf e)).bind (DataW.trod enc Tryz.prog W 0 sp true n e) = elems[i]?) →
    ∃ l : List α, l.length = m ∧ (0 < m → a.spot = none) ∧ ∀ i x, l[i]? = some x → ∃ vs, CellsAt W a.block (a.off + i * k) vs ∧ E x vs
  | 0, _, _ => ⟨[], rfl, fun h => absurd h (Nat.lt_irrefl _), fun i x hx => by simp at hx⟩
  | m + 1, hm, hel => by
    obtain ⟨l, h1, h2, h3⟩ := rows_read hk h0 hE m (by omega) hel
    obtain ⟨y, hy⟩ : ∃ y, elems[m]? = some y := ⟨elems[m]'(by omega), List.getElem?_eq_getElem (by omega)⟩
    have h := hel m (by omega)
    rw [hy, hk] at h
    obtain ⟨cs, hc, ht⟩ := Option.bind_eq_some_iff.1 h
    obtain ⟨x, hx⟩ := hE cs y ht
    obtain ⟨hs, hg⟩ := cells_get hc h0
    have hab : (a.add (m * k)).block = a.block ∧ (a.add (m * k)).off = a.off + m * k ∧ a.spot = none := by
      by_cases e0 : m * k = 0
      · have em : m = 0 := by
          rcases Nat.mul_eq_zero.1 e0 with e | e
          · exact e
          · omega
        unfold Addr.add at hs ⊢
        rw [if_pos e0] at hs ⊢
        exact ⟨rfl, by rw [e0]; rfl, hs⟩
      · unfold Addr.add
        rw [if_neg e0]
        exact ⟨rfl, rfl, h2 (Nat.pos_of_ne_zero fun e => e0 (by rw [e, Nat.zero_mul]))⟩
    refine ⟨l ++ [x], by rw [List.length_append, h1]; rfl, fun _ => hab.2.2, fun i x' hx' => ?_⟩
    by_cases hi : i < m
    · rw [List.getElem?_append_left (by omega)] at hx'
      exact h3 i x' hx'
    · rw [List.getElem?_append_right (by omega), h1] at hx'
      have : i = m := by
        have := (List.getElem?_eq_some_iff.1 hx').1
        simp at this
        omega
      subst this
      rw [Nat.sub_self] at hx'
      injection hx' with hx'
      subst hx'
      refine ⟨cs, fun j v hj => ?_, hx⟩
      have := hg j v hj
      rw [hab.1, hab.2.1] at this
      exact this
theorem u8_wf {z : Int} (h : (Lit.int .u8 z).wf = true) : ∃ n : Nat, z = n ∧ n < 256 := by
  have : 0 ≤ z ∧ z ≤ 255 := by simpa [Lit.wf, IntKind.min, IntKind.max, IntKind.signed, IntKind.bits] using h
  exact ⟨z.toNat, by omega, by omega⟩
def ByE (x : Nat) (cs : List Value) : Prop := cs = [.int .u8 (x : Int)] ∧ x < 256
theorem open_by (n : Nat) (cs : List Value) (y : DataW H × List MemPlace) (h : DataW.trod enc Tryz.prog W 0 sp true n 5 cs = some y) : ∃ x : Nat, ByE x cs := by
  obtain ⟨z, rfl, _, hz⟩ := DataW.trod_int Tryz.underlying5 h
  obtain ⟨m, rfl, hm⟩ := u8_wf hz
  exact ⟨m, rfl, hm⟩
theorem open_bytes {v : Value} {d : DataW H} {p : List MemPlace} {base : Nat} (hv : Value.okWide Tryz.prog W .any base 22 v) (h : DataW.Trod enc Tryz.prog W 0 sp true 22 v d p) : ∃ bs, RdB W v bs := by
  obtain ⟨n, h⟩ := h
  obtain ⟨a0, n0, c0, rfl⟩ := okWide_slice Tryz.underlying22 hv
  have h : DataW.trod enc Tryz.prog W 0 sp true n 22 [.slice a0 n0 c0] = some (d, p) := h
  cases n with
  | zero => simp [DataW.trod] at h
  | succ n =>
    rcases DataW.trod_slice Tryz.underlying22 h with ⟨e, _⟩ | ⟨a, len, cap, elems, rest, n', hn, e, _, _, hlc, hcm, hel, hget, _, _⟩
    · injection e with e _
      injection e with e1 e2 e3
      subst e1 e2 e3
      exact ⟨[], none, 0, rfl, fun j x hj => by simp at hj⟩
    · injection e with e _
      injection e with e1 e2 e3
      subst e1 e2 e3
      obtain rfl : n' = n := by omega
      obtain ⟨l, h1, h2, h3⟩ := rows_read cellsOf5 (by decide) (open_by n') elems.length (Nat.le_refl _) (by rw [hel]; exact hget)
      refine ⟨l, some a, c0, by rw [h1, hel], fun j x hj => ?_⟩
      obtain ⟨vs, g1, g2, g3⟩ := h3 j x hj
      subst g2
      refine ⟨g3, a, rfl, ?_⟩
      have hs := h2 (by have := (List.getElem?_eq_some_iff.1 hj).1; omega)
      have := g1 0 _ rfl
      obtain ⟨b, o, s⟩ := a
      simp only at hs
      subst hs
      rw [show (⟨b, o, none⟩ : Addr).add j = ⟨b, o + j, none⟩ by unfold Addr.add; split <;> simp_all]
      simpa using this
end
end Go.Tb
namespace Go.Proofs.YtaegmbilkodhpaaGreatDoor
open Go.ChangeShapes Go.WideShapes Go.ChangeAt Go.RowKit Go.Tb
theorem own : ownKnob Tryz.prog.godebug = none := by kernel_rfl
theorem laidOut : laidOutB Tryz.prog = true := by kernel_rfl
theorem read22 : Tryz.prog.readableRec 22 = true := by kernel_rfl
theorem lt22 : 22 < Tryz.prog.types.size := of_decide_eq_true (by kernel_rfl)
noncomputable def wit (os : Os) : World := World.laidAll Tryz.prog os Rows.tableLowRow.laid
theorem wit_os (os : Os) : (wit os).os = os := World.laidAll_os _ _ _
theorem laid_met (os : Os) (args : Array Value) : laidMetH Tryz.prog Rows.tableLowRow.laid ((wit os).forCall (fun _ _ => 0) ⟨#[], args, []⟩).memory := by
  rw [MakeChecks.laidMetH_plain _ _ _ (by kernel_rfl)]
  have h : laidMet Tryz.prog Rows.tableLowRow.laid (wit os) := laidMet_of_run' 8 (by kernel_rfl) (by kernel_rfl)
  exact h.of_heap (by simp [World.memory, World.forCall, Input.heap])
theorem tableLow_lifted (os : Os) (started : os.Started) (H : Type) (enc : TypeId × Value → H) :
    ReturnsInHanded {} Tryz.checked os 3 .any (fun w args => (Rows.tableLowSpec.pre enc Tryz.prog Tryz.f3 Rows.tableLowRow.domain false w args ∧ laidMetH Tryz.prog Rows.tableLowRow.laid w) ∧ sizedMet enc Tryz.prog Tryz.f3 (OpenSpec.ofChange Rows.tableLowSpec) false w args)
      (Rows.tableLowSpec.post enc Tryz.prog Tryz.f3 false true false false) := by
  refine returnsInHanded_of_change_and (C := Tryz.checked) (X := fun w _ => laidMetH Tryz.prog Rows.tableLowRow.laid w) (fun _ _ _ hh h => h.of_heap hh) own started (by kernel_rfl) Tryz.func3
    (ChangeSpec.witness_shaped (enc := enc) (C := Tryz.checked) (os := os) (X := fun w _ => laidMetH Tryz.prog Rows.tableLowRow.laid w) false (wit os) #[.int .u8 0, .slice none 0 0] 8 (wit_os os)
      (World.shaped_of_ZipB (by kernel_rfl) (by kernel_rfl)) (by kernel_rfl) (by kernel_rfl) (by kernel_rfl) (laid_met os _)) ?_
  intro W base args ds gs before hval0 hW hc _ hL _
  have hval : ∀ (j : Nat) t v, Tryz.f3.params[j]? = some t → args[j]? = some v → Value.okWide Tryz.prog W .any base t v := hval0
  have hW' := hW
  obtain ⟨p, q, hA0, hV, rfl, _, _⟩ := hW
  have hA : DataW.TrodAll enc Tryz.prog W 0 (fun _ => true) true Tryz.f3.params.toList args.toList ds p := hA0
  rw [Tryz.params3] at hA hval
  obtain ⟨v0, vs0, d0, ds0, p0, q0, hargs, rfl, rfl, h0, r0⟩ := trodAll_cons hA
  obtain ⟨v1, vs1, d1, ds1, p1, q1, hargs1, rfl, rfl, h1, r1⟩ := trodAll_cons r0
  obtain ⟨rfl, rfl, rfl⟩ := trodAll_nil r1
  subst hargs1
  obtain rfl : args = #[v0, v1] := by cases args; simp_all
  obtain ⟨x, rfl, rfl, rfl, wx⟩ := open_int Tryz.underlying5 (hval 0 5 v0 rfl rfl) h0
  obtain ⟨rfl, rfl⟩ := trodVars_none hV
  simp only [List.append_nil, List.nil_append] at hW'
  have hlt : ∀ y ∈ p1, y.block < W.heap.size := fun y hy => by simpa using hW'.lt y hy
  obtain ⟨many, rfl, hm⟩ := u8_wf wx
  obtain ⟨bs, hb⟩ := open_bytes (hval 1 22 v1 rfl rfl) h1
  refine (tableLow_calls hm hb).mono fun e W' ⟨he, hbl⟩ => ?_
  subst he
  exact ⟨_, rfl, [.lit (.int .u8 (many : Int)), d1], [], _, [], _, [], hW', trodAll_mk1 (shut_bool Tryz.underlying4 _),
    trodAll_cons_mk (shut_int Tryz.underlying5 wx) (trodAll_cons_mk (Below.trod laidOut read22 lt22 h1 hbl hlt) trodAll_mk0), rfl, hbl.frame _, fun h => by cases h⟩
theorem tableLow_row : Rows.TableLowSaid :=
  OpenClaim.holds_of_wide 3 Tryz.f3 rfl rfl rfl rfl rfl rfl rfl ⟨rfl, rfl, rfl, rfl, rfl⟩ rfl rfl rfl rfl rfl (by kernel_rfl) Tryz.func3 (by kernel_rfl)
    (of_decide_eq_true (by kernel_rfl)) (by unfold Func.isWrapper; first | (rw [if_pos (by decide +kernel)]; kernel_rfl) | (rw [if_neg (by decide +kernel)]; exact ⟨rfl, rfl⟩))
    (fun os started H enc _ => tableLow_lifted os started H enc)
theorem tableLow_holds : Rows.TableLowCardSaid :=
  Claim7.holds_tied_plain_at .later [] _ _ _ _ tableLow_row (fun _ h => by cases h) (by kernel_rfl) (fun _ h => by cases h) tableLow_row_tie rfl ⟨rfl, rfl⟩ (by kernel_rfl) rfl
    (fun f fn hf hfn => by
      obtain rfl : f = 3 := Option.some.inj ((show Tryz.prog.funcNamed "aumbry/aumbrylaw11.TableLow" = some 3 by kernel_rfl).symm.trans hf) |>.symm
      obtain rfl : fn = Tryz.f3 := (Option.some.inj (Tryz.func3.symm.trans hfn)).symm
      exact ⟨by kernel_rfl, fun j t ht => by
        rw [Tryz.params3] at ht
        have hm : t ∈ [5, 22] := by simpa using Array.mem_of_getElem? ht
        have hall : ([5, 22].all fun u => !Tryz.prog.wantsStandIn u) = true := by kernel_rfl
        exact (show Tryz.prog.wantsStandIn t = false by simpa using List.all_eq_true.1 hall t hm)⟩)
    (by kernel_rfl)
end Go.Proofs.YtaegmbilkodhpaaGreatDoor
