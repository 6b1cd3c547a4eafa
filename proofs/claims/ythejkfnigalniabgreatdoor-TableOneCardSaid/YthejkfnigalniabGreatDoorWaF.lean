/- A part of a proof about the table over the shadow space: what a function of the program answers, walked by hand. Each theorem says its own conditions. -/
import Derived.Test.YthejkfnigalniabGreatDoorWaE
set_option linter.unusedVariables false
set_option linter.unusedSimpArgs false
set_option maxRecDepth 100000
set_option maxHeartbeats 1600000
namespace Go.Tb
open Go Go.RowKit Go.Proofs Go.Maps Go.Sp
theorem bd_up {s sk : Sp} {j k m : Nat} (h : s.Bd j) (hi : Ca.In s.c sk.c k) (hk : k + m ≤ j) : sk.Bd m := ⟨by have := h.clk; have := hi.clk; omega, by have := h.P; have := hi.P; omega⟩
theorem commit_on {γ : Gh} {w : World} {sb db : Nat} {s : Sp} (H : SpV γ w sb db s) (hok : s.Ok) (hbd : s.Bd 5000) (h0 : γ.lim ≤ w.heap.size) (hn : s.on = 0) (hN2 : 2 ≤ s.c.d.N ∧ s.c.d.N ≤ 4096) (hat6 : ∀ i, s.r.at' i < 65536) {mt : Bs} {v : Value} (hv : RA γ w v mt) (hml : mt.length ≤ 1000000) :
    Calls Tryz.prog 14 #[.pointer (some ⟨sb, 0, none⟩), v] w fun e w' => e = .returned (.int .i64 (((s.commit mt).1 : Nat) : Int)) ∧ Hid (SpV γ w' sb db (s.commit mt).2 ∧ Step γ spS w w') := by
  obtain ⟨cb, rb, ob, kb, HU, HK⟩ := id H
  have ON := HU.on
  rw [hn] at ON
  have HS : Hid (∀ W, Below w.heap.size w W → W.cell? ⟨sb, 2, none⟩ = some (.int .u32 (s.r.ep : Int)) ∧ W.cell? ⟨sb, 14, none⟩ = some (.pointer (some ⟨ob, 0, none⟩))) := Lib.hid fun W hW => ⟨cells_below hW _ _ HU.s2.1, cells_below hW _ _ HU.s14⟩
  have SC : Hid (∀ (W : World) (b i : Nat) (u : Value), w.heap.size ≤ b → W.cell? ⟨sb, 2, none⟩ = some (.int .u32 (s.r.ep : Int)) ∧ W.cell? ⟨sb, 14, none⟩ = some (.pointer (some ⟨ob, 0, none⟩)) → (W.setCell ⟨b, i, none⟩ u).cell? ⟨sb, 2, none⟩ = some (.int .u32 (s.r.ep : Int)) ∧ (W.setCell ⟨b, i, none⟩ u).cell? ⟨sb, 14, none⟩ = some (.pointer (some ⟨ob, 0, none⟩))) := Lib.hid fun W b i u hb h => (have hl := HU.lt; ⟨(World.cell?_setCell_other _ _ _ _ (fun hh => by injection hh with hh; omega)).trans h.1, (World.cell?_setCell_other _ _ _ _ (fun hh => by injection hh with hh; omega)).trans h.2⟩)
  have CM := Lib.hid (fun (W : World) (hW : Below w.heap.size w W) => clone_x (hv.keep (Step.below (S := fun _ => false) hW h0) rfl rfl).rv (by omega))
  have CP := Lib.hid (fun (W : World) (hW : Below w.heap.size w W) => copy_ok (γ := γ) (HU.below hW h0).mo (Nat.le_trans h0 hW.size))
  have hst := HS.out w (Below.refl _ _)
  obtain ⟨st1, st2⟩ := hst
  have lsb := HU.lt
  obtain ⟨va, vc, rfl⟩ := hv.rv.len
  obtain ⟨q, hq⟩ : ∃ q, s.commit mt = q := ⟨_, rfl⟩
  rw [hq]
  have HQ := Lib.hid hq
  have HH := Lib.hid (show SpK γ w sb db cb rb ob kb s from ⟨HU, HK⟩)
  have HOB := Lib.hid HU.mo.lt
  have hepl := HU.s2.2
  have hwr : Hid (IntKind.u32.wrap ((s.r.ep : Int) + 1) = (((s.r.ep + 1) % 4294967296 : Nat) : Int)) := Lib.hid (by rw [IntKind.wrap_u32]; omega)
  clear H HU HK hv hq
  go_enter Tryz.func14, Tryz.ntmps14
  go_upto_region 4 with (go_at_call 28; refine ON.mono ?_; rintro e w5 ⟨rfl, rfl⟩)
  apply cut_tail5 (fun nb mb a c W => Hid (CmI γ w5 W sb db cb rb ob kb nb mb s ((s.r.ep + 1) % 4294967296) (fun _ => 0) mt s.own))
  · intro hk
    go_region_held3 (fun W => W.cell? ⟨sb, 2, none⟩ = some (.int .u32 (s.r.ep : Int)) ∧ W.cell? ⟨sb, 14, none⟩ = some (.pointer (some ⟨ob, 0, none⟩)))
      ((first | (with_reducible refine HS.out _ ?_; (repeat (first | with_reducible exact Below.refl _ _ | with_reducible assumption | with_reducible refine Below.drew ?_ | with_reducible refine Below.allocs ?_ _)); done) | ((repeat (with_reducible refine SC.out _ _ _ _ (by first | omega | (simp; omega)) ?_)); with_reducible refine HS.out _ ?_; (repeat (first | with_reducible exact Below.refl _ _ | with_reducible assumption | with_reducible refine Below.drew ?_ | with_reducible refine Below.allocs ?_ _)); done)))
      ((first
        | (go_at_call 29; refine (CM.out _ ?_).mono ?_; (repeat (first | with_reducible exact Below.refl _ _ | with_reducible assumption | with_reducible refine Below.drew ?_ | with_reducible refine Below.allocs ?_ _)); rintro e w6 ⟨⟨v6, rfl, hr6⟩, hb6⟩; have HR6 := Lib.hid (hr6.mono (base' := w5.heap.size) (by first | exact Nat.le_refl _ | (simp; done) | (simp; omega))); have hb06 : Below w5.heap.size w5 w6 := Below.up (by (repeat (first | with_reducible exact Below.refl _ _ | with_reducible assumption | with_reducible refine Below.drew ?_ | with_reducible refine Below.allocs ?_ _)); done) hb6; have hs6 : w5.heap.size ≤ w6.heap.size := hb06.size; clear hr6; (try have n6 : w6.heap[w5.heap.size]? = some (.cells z12 70 (0, 0)) := (hb6.block _ (by simp)).trans (Go.MapKept.heap_alloc w5 (.cells z12 70)).1); obtain ⟨a6, c6, rfl⟩ := HR6.out.rv.len)
        | (go_at_call 30; refine (CP.out _ ?_).mono ?_; (repeat (first | with_reducible exact Below.refl _ _ | with_reducible assumption | with_reducible refine Below.drew ?_ | with_reducible refine Below.allocs ?_ _)); rintro e w7 ⟨rfl, hq7⟩; have hb07 : Below w5.heap.size w5 w7 := Below.up (by (repeat (first | with_reducible exact Below.refl _ _ | with_reducible assumption | with_reducible refine Below.drew ?_ | with_reducible refine Below.allocs ?_ _)); done) hq7.out.2; have hs7 : w5.heap.size ≤ w7.heap.size := hb07.size; have hb67 : Below w6.heap.size w6 w7 := Below.up (by (repeat (first | with_reducible exact Below.refl _ _ | with_reducible assumption | with_reducible refine Below.drew ?_ | with_reducible refine Below.allocs ?_ _)); done) hq7.out.2; (first | (have n7 : w7.heap[w5.heap.size]? = some (.cells z12 70 (0, 0)) := (hq7.out.2.block w5.heap.size (Array.getElem?_eq_some_iff.1 n6).1).trans n6; obtain ⟨k0, k1, k2, k3, k4, k5, k6, k7, k8, k9, k10, k11, f0, f1, f2, f3, f4, f5, f6, f7, f8, f9, f10, f11⟩ := z12_cells n7) | (have n7 : w7.heap[w6.heap.size]? = some (.cells z12 70 (0, 0)) := (hq7.out.2.block _ (by simp)).trans (Go.MapKept.heap_alloc w6 (.cells z12 70)).1; obtain ⟨k0, k1, k2, k3, k4, k5, k6, k7, k8, k9, k10, k11, f0, f1, f2, f3, f4, f5, f6, f7, f8, f9, f10, f11⟩ := z12_cells n7) | skip))))
    · refine take_last ?_
      intro W hW
      rw [hwr.out] at hW
      have hP : Hid (CmI γ w5 W sb db cb rb ob kb (w7.heap.size) (w6.heap.size) s ((s.r.ep + 1) % 4294967296) (fun _ => 0) mt s.own) := by
        subst hW
        have hmlt := hq7.out.1.lt
        exact Lib.hid (CmI.make h0 (HH.out.below hb07 h0) (Step.below hb07 h0) hs7 hs6 (by omega) hq7.out.1 ((HR6.out.keep hb67).rb h0) (Go.MapKept.heap_alloc w7 _).1 (Step.below (Below.alloc (Below.refl _ _) (Nat.le_refl _) _) (Nat.le_trans h0 hs7)) (fun k hk1 hk2 => (Below.alloc (Below.refl _ _) (Nat.le_refl _) _ : Below w7.heap.size w7 _).block k hk1))
      clear hW
      generalize hmb : w6.heap.size = mb at hP ⊢
      generalize hnb : w7.heap.size = nb at hP ⊢
      exact hk nb mb a6 c6 W hP
    · refine take_last ?_
      intro W hW
      rw [hwr.out] at hW
      have hP : Hid (CmI γ w5 W sb db cb rb ob kb (w6.heap.size) (w6.heap.size + 1) s ((s.r.ep + 1) % 4294967296) (fun _ => 0) mt s.own) := by
        have hm := hq7.out.1
        have hsz : ∀ o, (w6.alloc o).heap.size = w6.heap.size + 1 := fun o => by simp
        rw [hsz] at hm
        have hW2 : w7.setCells w6.heap.size 0 [.int .u32 (((s.r.ep + 1) % 4294967296 : Nat) : Int), .int .i64 0, .int .i64 0, .int .i64 0, .int .i64 0, .int .i64 0, .int .i64 0, .int .i64 0, .int .i64 0, .int .i64 0, .slice a6 mt.length c6, .pointer (some ⟨w6.heap.size + 1, 0, none⟩)] = W := hW
        have h12 := set12 (l := [.int .u32 (((s.r.ep + 1) % 4294967296 : Nat) : Int), .int .i64 0, .int .i64 0, .int .i64 0, .int .i64 0, .int .i64 0, .int .i64 0, .int .i64 0, .int .i64 0, .int .i64 0, .slice a6 mt.length c6, .pointer (some ⟨w6.heap.size + 1, 0, none⟩)]) n7 rfl rfl
        have hst := Step.sets12 (γ := γ) (l := [.int .u32 (((s.r.ep + 1) % 4294967296 : Nat) : Int), .int .i64 0, .int .i64 0, .int .i64 0, .int .i64 0, .int .i64 0, .int .i64 0, .int .i64 0, .int .i64 0, .int .i64 0, .slice a6 mt.length c6, .pointer (some ⟨w6.heap.size + 1, 0, none⟩)]) n7 (Nat.le_trans h0 hs6) rfl rfl
        have hoth := fun k (hk1 : k < w7.heap.size) (hk2 : k ≠ w6.heap.size) => setCells_other (b := w6.heap.size) [.int .u32 (((s.r.ep + 1) % 4294967296 : Nat) : Int), .int .i64 0, .int .i64 0, .int .i64 0, .int .i64 0, .int .i64 0, .int .i64 0, .int .i64 0, .int .i64 0, .int .i64 0, .slice a6 mt.length c6, .pointer (some ⟨w6.heap.size + 1, 0, none⟩)] 0 w7 k hk2
        rw [hW2] at h12 hst hoth
        exact Lib.hid (CmI.make h0 (HH.out.below hb07 h0) (Step.below hb07 h0) hs6 (by omega) (by omega) hm ((HR6.out.keep hb67).rb h0) h12 hst hoth)
      clear hW
      generalize hmb : w6.heap.size + 1 = mb at hP ⊢
      generalize hnb : w6.heap.size = nb at hP ⊢
      exact hk nb mb a6 c6 W hP
    · refine take_last ?_
      intro W hW
      rw [hwr.out] at hW
      have hP : Hid (CmI γ w5 W sb db cb rb ob kb (w5.heap.size) (w6.heap.size) s ((s.r.ep + 1) % 4294967296) (fun _ => 0) mt s.own) := by
        have hlt : w5.heap.size < w6.heap.size := (Array.getElem?_eq_some_iff.1 n6).1
        have hW2 : w7.setCells w5.heap.size 0 [.int .u32 (((s.r.ep + 1) % 4294967296 : Nat) : Int), .int .i64 0, .int .i64 0, .int .i64 0, .int .i64 0, .int .i64 0, .int .i64 0, .int .i64 0, .int .i64 0, .int .i64 0, .slice a6 mt.length c6, .pointer (some ⟨w6.heap.size, 0, none⟩)] = W := hW
        have h12 := set12 (l := [.int .u32 (((s.r.ep + 1) % 4294967296 : Nat) : Int), .int .i64 0, .int .i64 0, .int .i64 0, .int .i64 0, .int .i64 0, .int .i64 0, .int .i64 0, .int .i64 0, .int .i64 0, .slice a6 mt.length c6, .pointer (some ⟨w6.heap.size, 0, none⟩)]) n7 rfl rfl
        have hst := Step.sets12 (γ := γ) (l := [.int .u32 (((s.r.ep + 1) % 4294967296 : Nat) : Int), .int .i64 0, .int .i64 0, .int .i64 0, .int .i64 0, .int .i64 0, .int .i64 0, .int .i64 0, .int .i64 0, .int .i64 0, .slice a6 mt.length c6, .pointer (some ⟨w6.heap.size, 0, none⟩)]) n7 h0 rfl rfl
        have hoth := fun k (hk1 : k < w7.heap.size) (hk2 : k ≠ w5.heap.size) => setCells_other (b := w5.heap.size) [.int .u32 (((s.r.ep + 1) % 4294967296 : Nat) : Int), .int .i64 0, .int .i64 0, .int .i64 0, .int .i64 0, .int .i64 0, .int .i64 0, .int .i64 0, .int .i64 0, .int .i64 0, .slice a6 mt.length c6, .pointer (some ⟨w6.heap.size, 0, none⟩)] 0 w7 k hk2
        rw [hW2] at h12 hst hoth
        exact Lib.hid (CmI.make h0 (HH.out.below hb07 h0) (Step.below hb07 h0) (Nat.le_refl _) hs6 (by omega) hq7.out.1 ((HR6.out.keep hb67).rb h0) h12 hst hoth)
      clear hW
      generalize hmb : w6.heap.size = mb at hP ⊢
      generalize hnb : w5.heap.size = nb at hP ⊢
      exact hk nb mb a6 c6 W hP
  · intro nb mb a c W hP
    clear HS SC CM CP st1 st2 HH ON
    have hob := HOB.out
    obtain ⟨k0, k1, k2, k3, k4, k5, k6, k7, k8, k9, k11⟩ := hP.out.cells
    have lnb := hP.out.nlt
    have hfin1 : ∀ {x : Nat}, s.commit mt = (x, s) → q = (x, s) := fun h => HQ.out.symm.trans h
    by_cases hm : 200 < mt.length
    · have hq1 := Lib.hid (hfin1 (x := 1) (by unfold Sp.commit; rw [if_neg (by omega), if_pos hm]))
      have i1 : (200 : Int) < (mt.length : Int) := by omega
      have hend := Lib.hid (show SpV γ W sb db s ∧ Step γ spS w5 W from ⟨hP.out.sp.in, hP.out.st⟩)
      clear hP
      go_wp2_with fail
      go_ret
      rw [hq1.out]
      exact ⟨rfl, hend⟩
    have i1 : ¬ (200 : Int) < (mt.length : Int) := by omega
    by_cases hz : (s.r.ep + 1) % 4294967296 = 0
    · have hq1 := Lib.hid (hfin1 (x := 6) (by unfold Sp.commit; rw [if_neg (by omega), if_neg hm, if_pos hz]))
      have hend := Lib.hid (show SpV γ W sb db s ∧ Step γ spS w5 W from ⟨hP.out.sp.in, hP.out.st⟩)
      rw [hz] at k0
      clear hP
      go_wp2_with fail
      go_ret
      rw [hq1.out]
      exact ⟨rfl, hend⟩
    have hep1 : (s.r.ep + 1) % 4294967296 = s.r.ep + 1 := by omega
    rw [hep1] at hP
    rw [hep1] at k0
    have i2 : ¬ ((s.r.ep + 1 : Nat) : Int) = 0 := by omega
    have hpi := parts_in s
    have PA := hP.out.parts hok (bd_up hbd (Ca.In.refl _ 0) (by omega)) h0
    have HM : Hid (s.commit mt = if s.parts.1 ≠ 0 then (s.parts.1, s.parts.2.2) else if s.parts.2.2.c.flush.1 ≠ 0 then (s.parts.2.2.c.flush.1, s.parts.2.2.withC s.parts.2.2.c.flush.2) else if (s.parts.2.2.c.flush.2.d.write ((s.r.ep + 1) % 2) (sealed 1 (bodyR ⟨s.r.ep + 1, s.parts.2.1, mt, s.own⟩))).1 ≠ 0 then ((s.parts.2.2.c.flush.2.d.write ((s.r.ep + 1) % 2) (sealed 1 (bodyR ⟨s.r.ep + 1, s.parts.2.1, mt, s.own⟩))).1, s.withC { s.parts.2.2.c.flush.2 with d := (s.parts.2.2.c.flush.2.d.write ((s.r.ep + 1) % 2) (sealed 1 (bodyR ⟨s.r.ep + 1, s.parts.2.1, mt, s.own⟩))).2 }) else if (s.parts.2.2.c.flush.2.d.write ((s.r.ep + 1) % 2) (sealed 1 (bodyR ⟨s.r.ep + 1, s.parts.2.1, mt, s.own⟩))).2.barrier.1 ≠ 0 then ((s.parts.2.2.c.flush.2.d.write ((s.r.ep + 1) % 2) (sealed 1 (bodyR ⟨s.r.ep + 1, s.parts.2.1, mt, s.own⟩))).2.barrier.1, s.withC { s.parts.2.2.c.flush.2 with d := (s.parts.2.2.c.flush.2.d.write ((s.r.ep + 1) % 2) (sealed 1 (bodyR ⟨s.r.ep + 1, s.parts.2.1, mt, s.own⟩))).2.barrier.2 }) else (0, { c := { s.parts.2.2.c.flush.2 with d := (s.parts.2.2.c.flush.2.d.write ((s.r.ep + 1) % 2) (sealed 1 (bodyR ⟨s.r.ep + 1, s.parts.2.1, mt, s.own⟩))).2.barrier.2 }, r := ⟨s.r.ep + 1, s.parts.2.1, mt, s.own⟩, own := s.own })) := Lib.hid (by
      have hsb : (sealB 1 (bodyR (s.next s.parts.2.1 mt))).2 = sealed 1 (bodyR (s.next s.parts.2.1 mt)) := sealB_sealed (by decide) (by rw [Sp.bodyR_len]; show 26 + mt.length ≤ 248; omega)
      unfold Sp.commit
      rw [if_neg (by omega), if_neg hm, if_neg hz]
      dsimp only
      rw [hsb]
      rfl)
    have hatp : ∀ i, s.parts.2.1 i < 65536 := fun i => by have := Sp.parts_at hok (by omega) i; omega
    obtain ⟨s1, hs1⟩ : ∃ s1, s.parts.2.2 = s1 := ⟨_, rfl⟩
    obtain ⟨at1, ha1⟩ : ∃ at1, s.parts.2.1 = at1 := ⟨_, rfl⟩
    obtain ⟨e1, he1⟩ : ∃ e1, s.parts.1 = e1 := ⟨_, rfl⟩
    rw [hs1, ha1, he1] at HM PA
    rw [hs1] at hpi
    rw [ha1] at hatp
    rw [c9_arr] at PA
    have HPI := Lib.hid (And.intro hpi hatp)
    clear hpi hatp hs1 ha1 he1
    by_cases he : e1 = 0
    case neg =>
      have hb := neq0 he
      have hq1 := Lib.hid (show q = (e1, s1) from HQ.out.symm.trans (HM.out.trans (if_pos he)))
      clear hP
      go_wp2_with (go_at_call 31; refine PA.mono ?_; rintro e w8 ⟨rfl, hq8⟩)
      go_ret
      rw [hq1.out]
      have h8 := hq8.out.below (Below.allocs (Below.refl _ _) (.cells #[Value.int IntKind.i64 (at1 0 : Int), Value.int IntKind.i64 (at1 1 : Int), Value.int IntKind.i64 (at1 2 : Int), Value.int IntKind.i64 (at1 3 : Int), Value.int IntKind.i64 (at1 4 : Int), Value.int IntKind.i64 (at1 5 : Int), Value.int IntKind.i64 (at1 6 : Int), Value.int IntKind.i64 (at1 7 : Int), Value.int IntKind.i64 (at1 8 : Int)] 67)) h0
      exact ⟨rfl, Lib.hid ⟨h8.sp.in, h8.st⟩⟩
    subst he
    have HM2 := Lib.hid (HM.out.trans (if_neg (by simp)))
    clear hP HM
    go_upto_region 13 with (go_at_call 31; refine PA.mono ?_; rintro e w8 ⟨rfl, hq8⟩; obtain ⟨k0, k1, k2, k3, k4, k5, k6, k7, k8, k9, k11⟩ := hq8.out.cells; have lnb := hq8.out.nlt; have z1 := hq8.out.z 1 (by decide); have z2 := hq8.out.z 2 (by decide); have z3 := hq8.out.z 3 (by decide); have z4 := hq8.out.z 4 (by decide); have z5 := hq8.out.z 5 (by decide); have z6 := hq8.out.z 6 (by decide); have z7 := hq8.out.z 7 (by decide); have z8 := hq8.out.z 8 (by decide); have z9 := hq8.out.z 9 (by decide))
    refine take_last ?_
    intro W9 hW9
    have hW9' : (w8.setCells nb 1 (c9 at1)).alloc _ = W9 := hW9
    have C9 : Hid (CmI γ w5 W9 sb db cb rb ob kb nb mb s1 (s.r.ep + 1) at1 mt s.own) := by
      rw [← hW9']
      exact Lib.hid ((hq8.out.lay h0 at1).below (Below.allocs (Below.refl _ _) _) h0)
    clear hW9 hW9' hq8 k0 k1 k2 k3 k4 k5 k6 k7 k8 k9 k11 lnb z1 z2 z3 z4 z5 z6 z7 z8 z9 PA
    have hok1 : Hid (s1.Ok) := Lib.hid (by rw [sp_eta HPI.out.1.2.1 HPI.out.1.2.2]; exact hok.withC HPI.out.1.1)
    have hbd1 : Hid (s1.Bd 4900) := Lib.hid (bd_up hbd HPI.out.1.1 (by omega))
    have FL := C9.out.flush hok1.out (bd_up hbd1.out (Ca.In.refl _ 0) (by omega)) h0
    have hFI := Lib.hid (Ca.flush_in s1.c)
    have hFR := Lib.hid (fun (hd : s1.c.d.dead = false) => Ca.flush_res hok1.out.c hd)
    have hFD := Lib.hid (fun (hd : s1.c.d.dead = true) => show s1.c.flush.1 = 4 from by unfold Ca.flush; rw [if_pos hd])
    obtain ⟨c2, hc2⟩ : ∃ c2, s1.c.flush.2 = c2 := ⟨_, rfl⟩
    obtain ⟨e2, he2⟩ : ∃ e2, s1.c.flush.1 = e2 := ⟨_, rfl⟩
    rw [hc2, he2] at HM2 FL
    rw [hc2] at hFI
    rw [hc2, he2] at hFR
    rw [he2] at hFD
    have hs2 : Hid (s1.withC c2 = s.withC c2) := Lib.hid (by rw [sp_eta HPI.out.1.2.1 HPI.out.1.2.2]; rfl)
    clear hc2 he2
    have j1 := C9.out.sp.1.s1
    have lsb2 := cell_lt' j1
    by_cases he : e2 = 0
    case neg =>
      have hb := neq0 he
      have hq1 := Lib.hid (show q = (e2, s1.withC c2) from HQ.out.symm.trans (HM2.out.trans (if_pos he)))
      clear C9
      go_wp2_with (go_at_call 32; refine FL.mono ?_; rintro e w10 ⟨rfl, hq10⟩)
      go_ret
      rw [hq1.out]
      exact ⟨rfl, Lib.hid ⟨hq10.out.sp.in, hq10.out.st⟩⟩
    subst he
    have HM3 := Lib.hid (HM2.out.trans (if_neg (by simp)))
    clear C9 HM2
    obtain ⟨B, hB⟩ : ∃ B, bodyR ⟨s.r.ep + 1, at1, mt, s.own⟩ = B := ⟨_, rfl⟩
    have hBl : Hid (B.length ≤ 248) := Lib.hid (by rw [← hB, Sp.bodyR_len]; show 26 + mt.length ≤ 248; omega)
    have BO := Lib.hid (fun (w10 : World) (h : CmI γ w5 w10 sb db cb rb ob kb nb mb (s1.withC c2) (s.r.ep + 1) at1 mt s.own) => h.body h0 (by omega) (fun i _ => HPI.out.2 i) (by omega))
    rw [hB] at BO HM3
    have SE := Lib.hid (fun (W : World) (v : Value) (h : RV W v B) => seal_x h (k := 1) (by decide) hBl.out)
    clear hB
    go_upto_region 17 with (first
      | (go_at_call 32; refine FL.mono ?_; rintro e w10 ⟨rfl, hq10⟩)
      | (go_at_call 34; refine (BO.out _ hq10.out).mono ?_; rintro e w11 ⟨v11, rfl, hq11⟩; obtain ⟨a11, c11, hv11⟩ := hq11.out.1.rv.len; subst hv11)
      | (go_at_call 33; refine (SE.out _ _ hq11.out.1.rv).mono ?_; rintro e w12 ⟨⟨v12, rfl, h12⟩, hb12⟩; have H12 := Lib.hid h12; have HB12 := Lib.hid hb12; obtain ⟨a12, c12, hv12⟩ := h12.rv.len; subst hv12; clear h12 hb12))
    have C12 := Lib.hid ((hq10.out.below hq11.out.2 h0).below HB12.out h0)
    have hsl : (sealed 1 B).length = 256 := Sp.sealed_length hBl.out
    have hRA : Hid (RA γ w12 (.slice a12 (sealed 1 B).length c12) (sealed 1 B)) := Lib.hid ((H12.out.rb (Nat.le_trans (hq10.out.lim h0) hq11.out.2.size)).ra)
    clear hq10 hq11 H12 HB12 BO SE FL j1 lsb2
    obtain ⟨SB, hSB⟩ : ∃ SB, sealed 1 B = SB := ⟨_, rfl⟩
    rw [hSB] at hRA HM3 hsl ⊢
    have hSL := Lib.hid hsl
    clear hSB hsl
    have ALv : Hid (c2.d.dead = false) := Lib.hid (by
      cases e : s1.c.d.dead with
      | true =>
        have h4 := hFD.out e
        cases h4
      | false =>
        rcases hFR.out e with ⟨_, h⟩ | ⟨h, _⟩
        · exact h
        · cases h)
    have hNs : c2.d.N = s.c.d.N := hFI.out.N.trans HPI.out.1.1.N
    have HNs := Lib.hid hNs
    have bd2 : Hid ((s1.withC c2).Bd 100) := Lib.hid (bd_up (sk := s1.withC c2) hbd1.out hFI.out (by have := HPI.out.1.1.N; omega))
    have WR := C12.out.write ALv.out (bd_up bd2.out (Ca.In.refl _ 0) (by omega)) h0 (x := (s.r.ep + 1) % 2) (by show _ < c2.d.N; omega) hRA.out (by rw [hSL.out]; decide)
    have HS17 : Hid (∀ W, Below w12.heap.size w12 W → W.cell? ⟨sb, 0, none⟩ = some (.pointer (some ⟨db, 0, none⟩)) ∧ W.cell? ⟨nb, 0, none⟩ = some (.int .u32 ((s.r.ep + 1 : Nat) : Int))) := Lib.hid fun W hW => by
      have h := C12.out.below hW h0
      exact ⟨h.sp.1.s0, h.c0⟩
    have WRb := Lib.hid (fun (W : World) (hW : Below w12.heap.size w12 W) => (C12.out.below hW h0).write ALv.out (bd_up bd2.out (Ca.In.refl _ 0) (by omega)) h0 (x := (s.r.ep + 1) % 2) (by show _ < c2.d.N; omega) (hRA.out.keep (Step.below (S := fun _ => false) hW (C12.out.lim h0)) rfl rfl) (by rw [hSL.out]; decide))
    obtain ⟨g0, g1⟩ := HS17.out w12 (Below.refl _ _)
    clear hNs WR
    obtain ⟨x, hx⟩ : ∃ x, (s.r.ep + 1) % 2 = x := ⟨_, rfl⟩
    have hx17 : Hid (IntKind.i64.wrap (((s.r.ep : Int) + 1).tmod 2) = (x : Int)) := Lib.hid (by rw [Int.tmod_eq_emod_of_nonneg (by omega), IntKind.wrap_i64]; omega)
    rw [hx] at WRb HM3
    obtain ⟨r3, hr3⟩ : ∃ r3, c2.d.write x SB = r3 := ⟨_, rfl⟩
    have hw3 := Lib.hid (show r3.2.N = c2.d.N ∧ r3.2.P.length ≤ c2.d.P.length + 1 from hr3 ▸ ⟨Dk.write_N _ _ _, Dk.write_P _ _ _⟩)
    rw [show (s1.withC c2).c.d.write x SB = r3 from hr3] at WRb
    rw [hr3] at HM3
    clear hr3 hx
    go_region_held3 (fun W => W.cell? ⟨sb, 0, none⟩ = some (.pointer (some ⟨db, 0, none⟩)) ∧ W.cell? ⟨nb, 0, none⟩ = some (.int .u32 ((s.r.ep + 1 : Nat) : Int)))
      ((first | (with_reducible refine HS17.out _ ?_; (repeat (first | with_reducible exact Below.refl _ _ | with_reducible assumption | with_reducible refine Below.drew ?_ | with_reducible refine Below.allocs ?_ _)); done) | (with_reducible exact hq13.out.both)))
      ((go_at_call 35; rw [hx17.out]; refine (WRb.out _ ?_).mono ?_; (repeat (first | with_reducible exact Below.refl _ _ | with_reducible assumption | with_reducible refine Below.drew ?_ | with_reducible refine Below.allocs ?_ _)); rintro e w13 ⟨rfl, hq13⟩))
    clear HS17 WRb hx17 g0 g1 C12 hRA hSL
    obtain ⟨e3, d3⟩ := r3
    dsimp only at hw3 HM3 hq13
    have j0 := hq13.out.sp.1.s0
    have lj0 := cell_lt' j0
    have hww : Hid ((s1.withC c2).withC { (s1.withC c2).c with d := d3 } = s.withC { c2 with d := d3 }) := Lib.hid (by
      have := hs2.out
      rw [this]; rfl)
    by_cases he : e3 = 0
    case neg =>
      have hb := neq0 he
      have hq1 := Lib.hid (show q = (e3, s.withC { c2 with d := d3 }) from HQ.out.symm.trans (HM3.out.trans (if_pos he)))
      go_wp2_with fail
      go_ret
      rw [hq1.out, ← hww.out]
      exact ⟨rfl, Lib.hid ⟨hq13.out.sp.in, hq13.out.st⟩⟩
    subst he
    have HM4 := Lib.hid (HM3.out.trans (if_neg (by simp)))
    have BR := hq13.out.barrier ⟨by have h : c2.clk + 100 < 1000000000 := bd2.out.clk; show c2.clk + 0 < _; omega, by have h : c2.d.P.length + 100 < 900000 := bd2.out.P; have := hw3.out.2; show d3.P.length + 0 < _; omega⟩ h0
    rw [show ((s1.withC c2).withC { (s1.withC c2).c with d := d3 }).c.d.barrier = d3.barrier from rfl] at BR
    obtain ⟨r4, hr4⟩ : ∃ r4, d3.barrier = r4 := ⟨_, rfl⟩
    rw [hr4] at BR HM4
    clear hr4 HM3
    obtain ⟨e4, d4⟩ := r4
    dsimp only at HM4 BR
    have hww4 : Hid ((((s1.withC c2).withC { (s1.withC c2).c with d := d3 }).withC { ((s1.withC c2).withC { (s1.withC c2).c with d := d3 }).c with d := d4 }) = s.withC { c2 with d := d4 }) := Lib.hid (by
      rw [hww.out]; rfl)
    by_cases he : e4 = 0
    case neg =>
      have hb := neq0 he
      have hq1 := Lib.hid (show q = (e4, s.withC { c2 with d := d4 }) from HQ.out.symm.trans (HM4.out.trans (if_pos he)))
      clear hq13
      go_wp2_with (go_at_call 36; refine BR.mono ?_; rintro e w14 ⟨rfl, hq14⟩)
      go_ret
      rw [hq1.out, ← hww4.out]
      exact ⟨rfl, Lib.hid ⟨hq14.out.sp.in, hq14.out.st⟩⟩
    subst he
    have hq1 : Hid (q = (0, { c := { c2 with d := d4 }, r := ⟨s.r.ep + 1, at1, mt, s.own⟩, own := s.own })) := Lib.hid (HQ.out.symm.trans (HM4.out.trans (if_neg (by simp))))
    clear HM4 hq13
    go_upto_region 23 with (go_at_call 36; refine BR.mono ?_; rintro e w14 ⟨rfl, hq14⟩)
    obtain ⟨v, ⟨av, cv, rfl⟩, v1, TU⟩ := hq14.out.done h0 hob (by omega) HPI.out.2 (by omega)
    obtain ⟨k0, k1, k2, k3, k4, k5, k6, k7, k8, k9, k11⟩ := hq14.out.cells
    have lnb := hq14.out.nlt
    have U := hq14.out.sp.1
    have y2 := U.s2.1
    have y3 := (U.sp 0 (by decide)).1
    have y4 := (U.sp 1 (by decide)).1
    have y5 := (U.sp 2 (by decide)).1
    have y6 := (U.sp 3 (by decide)).1
    have y7 := (U.sp 4 (by decide)).1
    have y8 := (U.sp 5 (by decide)).1
    have y9 := (U.sp 6 (by decide)).1
    have y10 := (U.sp 7 (by decide)).1
    have y11 := (U.sp 8 (by decide)).1
    obtain ⟨y12v, y12, _⟩ := U.s12
    have y13 := U.s13
    have z2 := U.sz 2 (by decide)
    have z3 := U.sz 3 (by decide)
    have z4 := U.sz 4 (by decide)
    have z5 := U.sz 5 (by decide)
    have z6 := U.sz 6 (by decide)
    have z7 := U.sz 7 (by decide)
    have z8 := U.sz 8 (by decide)
    have z9 := U.sz 9 (by decide)
    have z10 := U.sz 10 (by decide)
    have z11 := U.sz 11 (by decide)
    have z12 := U.sz 12 (by decide)
    have z13 := U.sz 13 (by decide)
    clear U
    go_upto_region 24 with fail
    have hcast : ((s.r.ep + 1 : Nat) : Int) = (s.r.ep : Int) + 1 := by omega
    refine take_last ?_
    intro W15 hW15
    unfold r12 at TU
    dsimp only at TU
    rw [hcast] at TU
    have hW16 : w14.setCells sb 2 [.int .u32 ((s.r.ep : Int) + 1), .int .i64 (at1 0 : Int), .int .i64 (at1 1 : Int), .int .i64 (at1 2 : Int), .int .i64 (at1 3 : Int), .int .i64 (at1 4 : Int), .int .i64 (at1 5 : Int), .int .i64 (at1 6 : Int), .int .i64 (at1 7 : Int), .int .i64 (at1 8 : Int), .slice av mt.length cv, .pointer (some ⟨mb, 0, none⟩)] = W15 := hW15
    rw [hW16] at TU
    clear hW15 hW16 hq14 k0 k1 k2 k3 k4 k5 k6 k7 k8 k9 k11 y2 y3 y4 y5 y6 y7 y8 y9 y10 y11 y12 y13 z2 z3 z4 z5 z6 z7 z8 z9 z10 z11 z12 z13 v1 BR
    go_wp2_with (go_at_call 37; refine TU.mono ?_; rintro e w16 ⟨rfl, hq16⟩)
    go_ret
    rw [hq1.out]
    refine ⟨rfl, ?_⟩
    have h16 := hq16.out
    rw [hww4.out] at h16
    exact Lib.hid h16
end Go.Tb
namespace Go.Tb
open Go Go.RowKit Go.Proofs Go.Maps Go.Sp
theorem commit_s {γ : Gh} {w : World} {sb db : Nat} {s : Sp} (H : SpV γ w sb db s) (hok : s.Ok) (hbd : s.Bd 5000) (h0 : γ.lim ≤ w.heap.size) (hN2 : 2 ≤ s.c.d.N ∧ s.c.d.N ≤ 4096) {mt : Bs} {v : Value} (hv : RA γ w v mt) (hml : mt.length ≤ 1000000) :
    Calls Tryz.prog 14 #[.pointer (some ⟨sb, 0, none⟩), v] w fun e w' => e = .returned (.int .i64 (((s.commit mt).1 : Nat) : Int)) ∧ Hid (SpV γ w' sb db (s.commit mt).2 ∧ Step γ spS w w') := by
  by_cases hn : s.on = 0
  · exact commit_on H hok hbd h0 hn hN2 (fun i => by have := hok.at' i; omega) hv hml
  · exact commit_off H hn
end Go.Tb
