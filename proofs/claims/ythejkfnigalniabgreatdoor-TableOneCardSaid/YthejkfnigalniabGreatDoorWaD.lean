/- A part of a proof about the table over the shadow space: what a function of the program answers, walked by hand. Each theorem says its own conditions. -/
import Derived.Test.YthejkfnigalniabGreatDoorWaC
import Derived.Lib.SliceRun
set_option linter.unusedVariables false
set_option linter.unusedSimpArgs false
set_option maxRecDepth 100000
set_option maxHeartbeats 1600000
namespace Go.Tb
open Go Go.RowKit Go.Proofs Go.Maps Go.Sp
theorem NR.get {γ : Gh} {w : World} {a : Option Addr} {n c : Nat} {l : List Nat} (h : NR γ w (.slice a n c) l) : n = l.length ∧ l.length ≤ c ∧ (0 < l.length → ∃ g o, a = some ⟨g, o, none⟩ ∧ g < w.heap.size ∧ ∀ (j x : Nat), l[j]? = some x → w.cell? ⟨g, o + j, none⟩ = some (.int .i64 (x : Int))) := by
  obtain ⟨a', c', e, hc, h⟩ := h
  injection e with e1 e2 e3
  subst e1 e2 e3
  exact ⟨rfl, hc, fun hp => by obtain ⟨g, o, ea, hg, _, hx⟩ := h hp; exact ⟨g, o, ea, hg, hx⟩⟩
theorem NR.tag3 {γ : Gh} {w : World} {g o n c : Nat} {l : List Nat} (h : NR γ w (.slice (some ⟨g, o, none⟩) n c) l) (hp : 0 < n) : Tag γ w g 3 := by
  obtain ⟨a', c', e, hc, h⟩ := h
  injection e with e1 e2 e3
  subst e2
  obtain ⟨g', o', ea, hg, ht, hx⟩ := h hp
  rw [← e1] at ea
  injection ea with ea
  injection ea with ea
  rw [ea]; exact ht
theorem neq0 {n : Nat} (h : n ≠ 0) : ((n : Int) != 0) = true := by simp only [bne_iff_ne, ne_eq]; omega
theorem eq0 {n : Nat} (h : n ≠ 0) : ((n : Int) == 0) = false := by simp; omega
theorem write_s {γ : Gh} {w : World} {sb db : Nat} {s : Sp} (H : SpV γ w sb db s) (hok : s.Ok) (hbd : s.Bd 0) (h0 : γ.lim ≤ w.heap.size) (p : Int) {v : Value} {bs : Bs} (hv : RA γ w v bs) :
    Calls Tryz.prog 23 #[.pointer (some ⟨sb, 0, none⟩), .int .i64 p, v] w fun e w' => e = .returned (.int .i64 ((s.write p bs).1 : Nat)) ∧ Hid (SpV γ w' sb db (s.write p bs).2 ∧ Step γ spS w w') := by
  obtain ⟨cb, rb, ob, kb, HK⟩ := id H
  have HU := HK.1
  have MY := HU.may p
  have hsame : Hid (SpV γ w sb db s ∧ Step γ spS w w) := Lib.hid ⟨H, Step.refl _ _ _⟩
  have s14 := HU.s14
  have hl := HU.lt
  obtain ⟨va, vc, hve⟩ := hv.rv.len
  subst hve
  by_cases hm : s.may p ≠ 0
  · have e1 : s.write p bs = (s.may p, s) := by unfold Sp.write; rw [if_pos hm]
    rw [e1]
    have hb := neq0 hm
    clear H HU HK e1 hv
    generalize s.may p = m at *
    generalize bs.length = len at *
    go_enter Tryz.func23, Tryz.ntmps23
    go_wp2_with (go_at_call 42; refine MY.mono ?_; rintro e w5 ⟨rfl, rfl⟩)
    go_ret
    exact ⟨rfl, hsame⟩
  have hm : s.may p = 0 := by omega
  obtain ⟨n, rfl, hn, hd⟩ := may_lt hm
  rw [hm] at MY
  by_cases hlen : 248 < bs.length
  · have e1 : s.write (n : Int) bs = (1, s) := by unfold Sp.write; rw [if_neg (by omega), if_pos hlen]
    rw [e1]
    have hb : decide (248 < ((bs.length : Nat) : Int)) = true := by simp; omega
    clear H HU HK e1 hv
    generalize bs.length = len at *
    go_enter Tryz.func23, Tryz.ntmps23
    go_wp2_with (go_at_call 42; refine MY.mono ?_; rintro e w5 ⟨rfl, rfl⟩)
    go_ret
    exact ⟨rfl, hsame⟩
  have hb : decide (248 < ((bs.length : Nat) : Int)) = false := by simp; omega
  have TN := turned_ok HU hn
  cases ht : s.turned n with
  | true =>
    have e1 : s.write (n : Int) bs = s.put (s.own n) 3 bs := by unfold Sp.write; rw [if_neg (by omega), if_neg hlen]; simp [ht]
    have PU := put_s HK hok hbd h0 (s.own n) (k := 3) (by decide) hv.rv (by omega)
    rw [e1]
    rw [ht] at TN
    clear H HU HK e1 hv hsame
    generalize s.put (s.own n) 3 bs = q at *
    generalize s.own n = x at *
    generalize bs.length = len at *
    go_enter Tryz.func23, Tryz.ntmps23
    go_wp2_with (first
      | (go_at_call 42; refine MY.mono ?_; rintro e w5 ⟨rfl, rfl⟩)
      | (go_at_call 50; refine TN.mono ?_; rintro e w5 ⟨rfl, rfl⟩)
      | (go_at_call 52; refine PU.mono ?_; rintro e w5 ⟨rfl, hq⟩))
    go_ret
    exact ⟨rfl, Lib.hid ⟨hq.out.1.in, hq.out.2.mono spRS⟩⟩
  | false =>
    rw [ht] at TN
    have RM := rooms_s HK.1 HK.2 h0
    by_cases h18 : s.rooms.length ≤ 18
    · have e1 : s.write (n : Int) bs = (6, s) := by unfold Sp.write; rw [if_neg (by omega), if_neg hlen]; simp [ht, h18]
      rw [e1]
      have hb2 : decide (((s.rooms.length : Nat) : Int) ≤ 18) = true := by simp; omega
      clear H HU e1 hv hsame
      have HK := Lib.hid HK
      generalize s.rooms.length = rl at *
      generalize bs.length = len at *
      generalize s.own n = x at *
      go_enter Tryz.func23, Tryz.ntmps23
      go_wp2_with (first
        | (go_at_call 42; refine MY.mono ?_; rintro e w5 ⟨rfl, rfl⟩)
        | (go_at_call 50; refine TN.mono ?_; rintro e w5 ⟨rfl, rfl⟩)
        | (go_at_call 53; refine RM.mono ?_; rintro e w5 ⟨a, c, rfl, hq⟩))
      go_ret
      exact ⟨rfl, Lib.hid ⟨⟨cb, rb, ob, kb, hq.out.2.1, hq.out.2.2.1⟩, hq.out.2.2.2.mono spRS⟩⟩
    · obtain ⟨x, l, hxl⟩ : ∃ x l, s.rooms = x :: l := by
        cases h : s.rooms with
        | nil => rw [h] at h18; simp at h18
        | cons x l => exact ⟨x, l, rfl⟩
      have hrl : 18 < s.rooms.length := by omega
      have hrl0 : (0 : Int) < ((s.rooms.length : Nat) : Int) := by omega
      have hb2 : decide (((s.rooms.length : Nat) : Int) ≤ 18) = false := by simp; omega
      have hx2 := rooms_two (s := s) (x := x) (by rw [hxl]; simp)
      have hxN := (mem_rooms.1 (show x ∈ s.rooms by rw [hxl]; simp)).1
      obtain ⟨fb, D, β, CH⟩ := id HU.ca
      have hN := CH.dk.hN
      have hxb : 1 ≤ x ∧ x < 65536 := by omega
      clear CH
      have e1 : s.write (n : Int) bs = if (s.put x 3 bs).1 ≠ 0 then s.put x 3 bs else (0, (s.put x 3 bs).2.setOwn n x) := by
        unfold Sp.write; rw [if_neg (by omega), if_neg hlen, if_neg (by show ¬ s.turned n = true; rw [ht]; simp), if_neg h18, hxl]; rfl
      rw [e1]
      have PU := Lib.hid (fun (w1 : World) (HK1 : SpK γ w1 sb db cb rb ob kb s) (hs : Step γ spR w w1) => put_s HK1 hok hbd (Nat.le_trans h0 hs.size) x (k := 3) (by decide) (hv.keep hs rfl rfl).rv (by omega))
      have hq0 : (s.put x 3 bs).2.own = s.own := Sp.put_same.1
      generalize s.put x 3 bs = q at *
      have GE := Lib.hid (fun (w1 : World) (a : Option Addr) (c : Nat) (h : NR γ w1 (.slice a s.rooms.length c) s.rooms) => show ∃ g o, a = some ⟨g, o, none⟩ ∧ g < w1.heap.size ∧ w1.cell? ⟨g, o, none⟩ = some (.int .i64 (x : Int)) from by
        obtain ⟨_, _, h3⟩ := h.get
        obtain ⟨g, o, h4, h5, h6⟩ := h3 (by omega)
        exact ⟨g, o, h4, h5, by have := h6 0 x (by rw [hxl]; rfl); rwa [Nat.add_zero] at this⟩)
      by_cases hq1 : q.1 ≠ 0
      · rw [if_pos hq1]
        have hb3 := eq0 hq1
        clear H HU e1 hv hsame HK hxl h18
        generalize s.rooms.length = rl at *
        generalize bs.length = len at *
        generalize s.own n = y at *
        go_enter Tryz.func23, Tryz.ntmps23
        go_wp2_with (first
          | (go_at_call 42; refine MY.mono ?_; rintro e w5 ⟨rfl, rfl⟩)
          | (go_at_call 50; refine TN.mono ?_; rintro e w5 ⟨rfl, rfl⟩)
          | (go_at_call 53; refine RM.mono ?_; rintro e w1 ⟨a, c, rfl, hr⟩; obtain ⟨g, o, rfl, hg, hc⟩ := GE.out _ _ _ hr.out.1)
          | (go_at_call 52; refine (PU.out _ ⟨hr.out.2.1, hr.out.2.2.1⟩ hr.out.2.2.2).mono ?_; rintro e w2 ⟨rfl, hq⟩))
        go_ret
        exact ⟨rfl, Lib.hid ⟨hq.out.1.in, (hr.out.2.2.2.trans hq.out.2).mono spRS⟩⟩
      · have hq2 : q.1 = 0 := by omega
        rw [if_neg hq1]
        simp only [hq2] at PU
        have TU := Lib.hid (fun (w1 w2 : World) (hs1 : Step γ spR w w1) (HK2 : SpK γ w2 sb db cb rb ob kb q.2 ∧ Step γ spR w1 w2) => (turn_ok (HK2.1.1.setOwn hn hxb.2).1 (Nat.le_trans h0 (Nat.le_trans hs1.size (Nat.le_trans HK2.2.size (HK2.1.1.setOwn hn hxb.2).2.size)))).mono (R' := fun e w' => e = .returned (.tuple #[]) ∧ Hid (SpV γ w' sb db (q.2.setOwn n x) ∧ Step γ spS w w')) fun e w' ⟨h1, h2⟩ => ⟨h1, Lib.hid ⟨h2.out.1, ((hs1.trans HK2.2).mono spRS).trans ((HK2.1.1.setOwn hn hxb.2).2.trans h2.out.2)⟩⟩)
        have NK := Lib.hid (fun (w1 w2 : World) (g o : Nat) (c : Nat) (h : NR γ w1 (.slice (some ⟨g, o, none⟩) s.rooms.length c) s.rooms) (hs : Step γ spR w1 w2) => h.keep hs rfl)
        generalize q.2.setOwn n x = q' at *
        clear H HU e1 hsame HK h18 hxl hq0 hx2 hxN
        generalize s.rooms.length = rl at *
        generalize bs.length = len at *
        generalize s.own n = y at *
        go_enter Tryz.func23, Tryz.ntmps23
        go_upto_region 14 with (first
          | (go_at_call 42; refine MY.mono ?_; rintro e w5 ⟨rfl, rfl⟩)
          | (go_at_call 50; refine TN.mono ?_; rintro e w5 ⟨rfl, rfl⟩)
          | (go_at_call 53; refine RM.mono ?_; rintro e w1 ⟨a, c, rfl, hr⟩; obtain ⟨g, o, rfl, hg, hc⟩ := GE.out _ _ _ hr.out.1)
          | (go_at_call 52; refine (PU.out _ ⟨hr.out.2.1, hr.out.2.2.1⟩ hr.out.2.2.2).mono ?_; rintro e w2 ⟨rfl, hq⟩))
        have n2 := NK.out _ _ _ _ _ hr.out.1 hq.out.2
        obtain ⟨g', o', eg, hg2, hc2⟩ := GE.out _ _ _ n2
        injection eg with eg
        injection eg with eg1 eg2
        subst eg1 eg2
        have h02 : γ.lim ≤ w2.heap.size := Nat.le_trans h0 (Nat.le_trans hr.out.2.2.2.size hq.out.2.size)
        have HS : Hid (∀ W, Below w2.heap.size w2 W → W.cell? ⟨sb, 14, none⟩ = some (.pointer (some ⟨ob, 0, none⟩)) ∧ W.cell? ⟨g, o, none⟩ = some (.int .i64 (x : Int))) :=
          Lib.hid fun W hW => ⟨cells_below hW _ _ hq.out.1.1.s14, cells_below hW _ _ hc2⟩
        have hls := hq.out.1.1.lt
        have nso : ob ≠ sb := fun e => by have h := hq.out.1.1.mo.tg; rw [e] at h; cases h.uniq hq.out.1.1.tg
        have ngo : g ≠ ob := fun e => by have h := n2.tag3 (by omega); rw [e] at h; cases h.uniq hq.out.1.1.mo.tg
        have HD : Hid (∀ W, Below w2.heap.size w2 W → (W.setCell ⟨ob, n, none⟩ (.int .u16 x)).cell? ⟨sb, 14, none⟩ = some (.pointer (some ⟨ob, 0, none⟩)) ∧ (W.setCell ⟨ob, n, none⟩ (.int .u16 x)).cell? ⟨g, o, none⟩ = some (.int .i64 (x : Int))) :=
          Lib.hid fun W hW => ⟨(cell_of_heap (a := ⟨sb, 14, none⟩) (heap_setCell_other W ⟨ob, n, none⟩ sb _ nso.symm)).1.trans (HS.out W hW).1, (cell_of_heap (a := ⟨g, o, none⟩) (heap_setCell_other W ⟨ob, n, none⟩ g _ ngo)).1.trans (HS.out W hW).2⟩
        have SE := Lib.hid (fun (W : World) (hW : Below w2.heap.size w2 W) => set_ok (hq.out.1.below hW h02).1.mo.v hn hxb)
        have TU2 := Lib.hid (fun (W : World) (hW : Below w2.heap.size w2 W) => TU.out w1 W hr.out.2.2.2 ⟨hq.out.1.below hW h02, hq.out.2.trans (Step.below hW h02)⟩)
        have HH := HS.out w2 (Below.refl _ _)
        clear n2 hc2 hg2 hc hg TU NK GE PU TN RM MY
        obtain ⟨hc14, hcg⟩ := HH
        have hrl1 : 0 < rl := by omega
        have hrl2 : (0 : Int) < (rl : Int) := by omega
        have hrl3 : (0 : Int) ≤ (rl : Int) := by omega
        go_region_held3 (fun W => W.cell? ⟨sb, 14, none⟩ = some (.pointer (some ⟨ob, 0, none⟩)) ∧ W.cell? ⟨g, o, none⟩ = some (.int .i64 (x : Int)))
          ((first | (refine HS.out _ ?_; (repeat (first | exact Below.refl _ _ | assumption | refine Below.drew ?_ | refine Below.allocs ?_ _)); done) | (refine HD.out _ ?_; (repeat (first | exact Below.refl _ _ | assumption | refine Below.drew ?_ | refine Below.allocs ?_ _)); done)))
          ((go_at_call 54; refine (SE.out _ ?_).mono ?_; (repeat (first | exact Below.refl _ _ | assumption | refine Below.drew ?_ | refine Below.allocs ?_ _)); rintro e w3 ⟨rfl, rfl⟩))
        all_goals
          go_wp2_with (go_at_call 37; refine (TU2.out w2.drew (Below.drew (Below.refl _ _))).mono ?_; rintro e w5 ⟨rfl, hq5⟩)
          go_ret
          exact ⟨rfl, hq5⟩
end Go.Tb
namespace Go.Tb
open Go Go.RowKit Go.Proofs Go.Maps Go.Sp
theorem Aft.nil {γ : Gh} {S : TypeId → Bool} {P : World → Prop} {w w' : World} (hP : P w') (hs : Step γ S w w') : Aft γ S P w w' (.slice none 0 0) [] := ⟨w', hP, hs, Below.refl _ _, RN.nil _ _ _ _⟩
theorem read_s {γ : Gh} {w : World} {sb db : Nat} {s : Sp} (H : SpV γ w sb db s) (hok : s.Ok) (hbd : s.Bd 0) (h0 : γ.lim ≤ w.heap.size) (p : Int) :
    Calls Tryz.prog 16 #[.pointer (some ⟨sb, 0, none⟩), .int .i64 p] w fun e w' => ∃ a n c, e = .returned (.tuple #[.slice a n c, .int .i64 ((s.read p).1 : Nat)]) ∧ Hid (Aft γ spS (fun w1 => SpV γ w1 sb db (s.read p).2.2) w w' (.slice a n c) (s.read p).2.1) := by
  obtain ⟨cb, rb, ob, kb, HK⟩ := id H
  have HU := HK.1
  have MY := HU.may p
  have s14 := HU.s14
  have s1 := HU.s1
  have hl := HU.lt
  by_cases hm : s.may p ≠ 0
  · have e1 : s.read p = (s.may p, [], s) := by unfold Sp.read; rw [if_pos hm]
    rw [e1]
    have hb := neq0 hm
    have hsame : Hid (Aft γ spS (fun w1 => SpV γ w1 sb db s) w w (.slice none 0 0) []) := Lib.hid (Aft.nil H (Step.refl _ _ _))
    clear H HU HK e1
    generalize s.may p = m at *
    go_enter Tryz.func16, Tryz.ntmps16
    go_wp2_with (go_at_call 42; refine MY.mono ?_; rintro e w5 ⟨rfl, rfl⟩)
    go_ret2
    exact ⟨_, _, _, rfl, hsame⟩
  have hm : s.may p = 0 := by omega
  obtain ⟨n, rfl, hn, hd⟩ := may_lt hm
  rw [hm] at MY
  have GE := get_ok HU.mo.v hn
  by_cases hz : s.own n = 0
  · have e1 : s.read (n : Int) = (7, [], s) := (if_neg (by omega)).trans (if_pos hz)
    rw [e1]
    have hsame : Hid (Aft γ spS (fun w1 => SpV γ w1 sb db s) w w (.slice none 0 0) []) := Lib.hid (Aft.nil H (Step.refl _ _ _))
    rw [hz] at GE
    rw [show decide (0 < 0) = false from rfl] at GE
    clear H HU HK e1
    go_enter Tryz.func16, Tryz.ntmps16
    go_wp2_with (first
      | (go_at_call 42; refine MY.mono ?_; rintro e w5 ⟨rfl, rfl⟩)
      | (go_at_call 43; refine GE.mono ?_; rintro e w5 ⟨rfl, rfl⟩))
    go_ret2
    exact ⟨_, _, _, rfl, hsame⟩
  · have RE := cread_ok HU.ca hok.c hok.M h0 (by have := hbd.P; omega) (by have := hbd.clk; omega) (s.own n)
    rw [show decide (0 < s.own n) = true by simp; omega] at GE
    have hIn := Ca.read_in s.c (s.own n)
    have AF := Lib.hid (fun (w' : World) (v : Value) (h : Aft γ caS (fun w1 => CaV γ w1 cb db (s.c.read (s.own n)).2.2) w w' v (s.c.read (s.own n)).2.1) => show Aft γ spS (fun w1 => SpV γ w1 sb db (s.withC (s.c.read (s.own n)).2.2)) w w' v (s.c.read (s.own n)).2.1 from by
      obtain ⟨w1, h1, h2, h3, h4⟩ := h
      exact ⟨w1, ⟨cb, rb, ob, kb, SpV.cache HK.1 HK.2 h2 h1 hIn.N⟩, h2.mono casp, h3, h4⟩)
    by_cases hr : (s.c.read (s.own n)).1 ≠ 0
    · have e1 : s.read (n : Int) = ((s.c.read (s.own n)).1, [], s.withC (s.c.read (s.own n)).2.2) := (if_neg (by omega)).trans ((if_neg hz).trans (if_pos hr))
      rw [e1]
      have hb := neq0 hr
      clear H HU HK e1 hIn
      generalize s.withC (s.c.read (s.own n)).2.2 = s' at *
      generalize s.c.read (s.own n) = q at *
      generalize s.own n = x at *
      go_enter Tryz.func16, Tryz.ntmps16
      go_wp2_with (first
        | (go_at_call 42; refine MY.mono ?_; rintro e w5 ⟨rfl, rfl⟩)
        | (go_at_call 43; refine GE.mono ?_; rintro e w5 ⟨rfl, rfl⟩)
        | (go_at_call 44; refine RE.mono ?_; rintro e w5 ⟨a, n, k, rfl, hq⟩))
      go_ret2
      obtain ⟨w1, h1, h2, h3, h4⟩ := AF.out _ _ hq.out
      exact ⟨_, _, _, rfl, Lib.hid ⟨w1, h1, h2, h3, RN.nil _ _ _ _⟩⟩
    · have e1 : s.read (n : Int) = ((openB (s.c.read (s.own n)).2.1).2.2, (openB (s.c.read (s.own n)).2.1).2.1, s.withC (s.c.read (s.own n)).2.2) := (if_neg (by omega)).trans ((if_neg hz).trans (if_neg hr))
      have hr : (s.c.read (s.own n)).1 = 0 := by omega
      have hlen : (s.c.read (s.own n)).2.1.length = 256 := Ca.read_len hok.c hr
      have OP := Lib.hid (fun (w' : World) (v : Value) (h : RV w' v (s.c.read (s.own n)).2.1) => open_x h hlen)
      rw [e1]
      rw [hr] at RE
      clear H HU HK e1 hIn
      generalize s.withC (s.c.read (s.own n)).2.2 = s' at *
      generalize s.c.read (s.own n) = q at *
      generalize s.own n = x at *
      go_enter Tryz.func16, Tryz.ntmps16
      go_wp2_with (first
        | (go_at_call 42; refine MY.mono ?_; rintro e w5 ⟨rfl, rfl⟩)
        | (go_at_call 43; refine GE.mono ?_; rintro e w5 ⟨rfl, rfl⟩)
        | (go_at_call 44; refine RE.mono ?_; rintro e w5 ⟨a, n, k, rfl, hq⟩)
        | (go_at_call 45; refine (OP.out _ _ hq.out.choose_spec.2.2.2.rv).mono ?_; rintro e w6 ⟨v', rfl, hr, hb⟩))
      go_ret2
      obtain ⟨w1, h1, h2, h3, h4⟩ := AF.out _ _ hq.out
      obtain ⟨a', c', he⟩ := hr.rv.len
      subst he
      exact ⟨_, _, _, rfl, Lib.hid ⟨w1, h1, h2, Below.up h3 hb, hr.mono h3.size⟩⟩
end Go.Tb
namespace Go.Tb
open Go Go.RowKit Go.Proofs Go.Maps Go.Sp
def turnK (f g : Nat → Nat) (k : Nat) : List Nat := (List.range k).filter fun i => decide (pgPart f i ≠ pgPart g i)
theorem turnK_le (f g : Nat → Nat) (k : Nat) : (turnK f g k).length ≤ k := by
  have := List.length_filter_le (fun i => decide (pgPart f i ≠ pgPart g i)) (List.range k)
  simpa [turnK] using this
theorem turnK_eq {f g : Nat → Nat} {k : Nat} (h : pgPart f k = pgPart g k) : turnK f g (k + 1) = turnK f g k := by
  unfold turnK; rw [List.range_succ, List.filter_append]; simp [h]
theorem turnK_ne {f g : Nat → Nat} {k : Nat} (h : pgPart f k ≠ pgPart g k) : turnK f g (k + 1) = turnK f g k ++ [k] := by
  unfold turnK; rw [List.range_succ, List.filter_append]; simp [h]
theorem tset_ok {w : World} {mb nb : Nat} {f g : Nat → Nat} (h1 : MapV w mb f) (h2 : MapV w nb g) :
    Calls Tryz.prog 60 #[.pointer (some ⟨mb, 0, none⟩), .pointer (some ⟨nb, 0, none⟩)] w fun e w' => ∃ v, e = .returned v ∧ w'.ownsRow w.heap.size 3 1 v (turnedP f g).length ((turnedP f g).map encI) ∧ Below w.heap.size w w' := by
  have hml : mb < w.heap.size := cell_lt' (h1.at (i := 0) (by decide)).1
  have hnl : nb < w.heap.size := cell_lt' (h2.at (i := 0) (by decide)).1
  obtain ⟨i, hi, i1, i2, i3⟩ := i3'
  have HI := Lib.hid hi
  have PM := Lib.hid (fun (W : World) (hW : Below w.heap.size w W) (k : Nat) (hk : k < 9) => part_ok (w := W) (mb := mb) (i := k) (Nat.lt_of_lt_of_le hml hW.size) hk)
  have PN := Lib.hid (fun (W : World) (hW : Below w.heap.size w W) (k : Nat) (hk : k < 9) => part_ok (w := W) (mb := nb) (i := k) (Nat.lt_of_lt_of_le hnl hW.size) hk)
  have EQ := Lib.hid (fun (W : World) (hW : Below w.heap.size w W) (k : Nat) (hk : k < 9) => equal_ok (w := W) (c := 1024 - k * 124) (d := 1024 - k * 124) hk (h1.keep (hW.block mb hml)) (h2.keep (hW.block nb hnl)))
  clear h1 h2 hi
  rw [show turnedP f g = turnK f g 9 from rfl]
  go_enter Tryz.func60, Tryz.ntmps60
  go_wp2_with fail
  go_loopw [5, 13] (fun u v wr => ∃ k : Nat, v = .int .i64 k ∧ k ≤ 9 ∧ Hid (wr.ownsRow w.heap.size 3 1 u (turnK f g k).length ((turnK f g k).map encI) ∧ Below w.heap.size w wr)) (fun _ v _ => 9 - (Go.RowKit.intOf v).toNat)
  case atStart => exact ⟨0, rfl, Nat.zero_le _, Lib.hid ⟨⟨rfl, .inl ⟨rfl, rfl⟩⟩, Below.refl _ _⟩⟩
  case round =>
    obtain ⟨k, rfl, hk, hI⟩ := hrel
    by_cases e : k < 9
    · have i1' : (k : Int) < 9 := by omega
      have PM1 := PM.out wr hI.out.2 k e
      have PN1 := PN.out wr hI.out.2 k e
      have EQ1 := EQ.out wr hI.out.2 k e
      obtain ⟨a0, c0, rfl⟩ := own_slice hI.out.1
      by_cases hq : pgPart f k = pgPart g k
      · rw [decide_eq_true hq] at EQ1
        have HT := Lib.hid (turnK_eq hq)
        clear hq
        go_wp2_with (first
          | (go_at_call_of 99 (Value.pointer (some ⟨mb, 0, none⟩)); refine PM1.mono ?_; rintro e w5 ⟨rfl, rfl⟩)
          | (go_at_call_of 99 (Value.pointer (some ⟨nb, 0, none⟩)); refine PN1.mono ?_; rintro e w5 ⟨rfl, rfl⟩)
          | (go_at_call 98; refine EQ1.mono ?_; rintro e w5 ⟨rfl, nd, rfl⟩))
        have HK := Lib.hid hI.out
        refine ⟨⟨k + 1, rfl, by omega, Lib.hid ⟨?_, below_dr _ HK.out.2⟩⟩, measT e⟩
        rw [HT.out]; exact HK.out.1
      · rw [decide_eq_false hq] at EQ1
        have HT := Lib.hid (turnK_ne hq)
        have hle := turnK_le f g k
        clear hq
        have HO := Lib.hid hI.out.1
        have HB := Lib.hid hI.out.2
        have HS : Hid ((turnK f g (k + 1)).length = (turnK f g k).length + 1 ∧ (turnK f g (k + 1)).map encI = (turnK f g k).map encI ++ [.int .i64 (k : Int)]) := Lib.hid (by rw [HT.out]; simp [encI])
        clear hI HT
        generalize (turnK f g k).length = len at *
        generalize (turnK f g k).map encI = xs at *
        go_wp2_with (first
          | (go_at_call_of 99 (Value.pointer (some ⟨mb, 0, none⟩)); refine PM1.mono ?_; rintro e w5 ⟨rfl, rfl⟩)
          | (go_at_call_of 99 (Value.pointer (some ⟨nb, 0, none⟩)); refine PN1.mono ?_; rintro e w5 ⟨rfl, rfl⟩)
          | (go_at_call 98; refine EQ1.mono ?_; rintro e w6 ⟨rfl, nd, rfl⟩)
          | (at_builtin; go_loud (refine wpList_append_own _ rfl _ _ 51 rfl w.heap.size 3 i (.int .i64 0) 1 8 Tryz.underlying51 HI.out i3 i1 i2 rfl (by decide) _ _ _ rfl ((show World.ownsRow (w5.drewN nd) _ _ _ _ _ _ from HO.out).alloc _) ⟨(w5.drewN nd).heap.size, 0, none⟩ 1 1 [.int .i64 (k : Int)] rfl rfl (cell_one_new _ _ _) (by simp [Value.oneCell']) (Nat.le_trans (show len + 1 ≤ 1024 by omega) (by decide)) (by omega) (by have := HB.out.size; simp; omega) ?_; intro v' w3 hown' hg3 hnil3)))
        refine ⟨⟨k + 1, rfl, by omega, Lib.hid ⟨?_, ?_⟩⟩, measT e⟩
        · rw [HS.out.1, HS.out.2]; exact hown'
        · exact ((below_dr nd HB.out).alloc (show w.heap.size ≤ (w5.drewN nd).heap.size from HB.out.size) _).grown hg3 (by have := HB.out.size; simp; omega) (fun j ej => (HO.out.lt j ej).1)
    · have ek : k = 9 := by omega
      have i1' : ¬ (k : Int) < 9 := by omega
      subst ek
      have HK := Lib.hid hI.out
      clear hI
      obtain ⟨a0, c0, rfl⟩ := own_slice HK.out.1
      go_wp2_with fail
      go_ret
      exact ⟨.slice a0 (turnK f g 9).length c0, rfl, HK.out.1, HK.out.2⟩
end Go.Tb
namespace Go.Tb
open Go Go.RowKit Go.Proofs Go.Maps Go.Sp
theorem trim0_zero (l : List Nat) : trim0 (l ++ [0]) = trim0 l := by simp [trim0]
theorem trim0_pos {l : List Nat} {x : Nat} (h : x ≠ 0) : trim0 (l ++ [x]) = l ++ [x] := by simp [trim0, h]
theorem take_succ_get {l : List Nat} {m x : Nat} (h : l[m]? = some x) : l.take (m + 1) = l.take m ++ [x] := by rw [List.take_add_one, h]; rfl
def le2 (l : List Nat) : Bs := l.flatMap fun s => le s 2
theorem le2_len (l : List Nat) : (le2 l).length = 2 * l.length := by
  induction l with
  | nil => rfl
  | cons x l ih => simp only [le2, List.flatMap_cons, List.length_append, le_len] at ih ⊢; rw [ih]; simp; omega
theorem le2_snoc (l : List Nat) (x : Nat) : le2 (l ++ [x]) = le2 l ++ le x 2 := by simp [le2]
theorem part_bytes {w : World} {mb : Nat} {f : Nat → Nat} (h : MapV w mb f) {i : Nat} (hi : i < 9) :
    Calls Tryz.prog 62 #[.pointer (some ⟨mb, 0, none⟩), .int .i64 (i : Int)] w fun e w' => ∃ v, e = .returned v ∧ RN w.heap.size w' v (Go.Sp.part f i) ∧ Below w.heap.size w w' := by
  have hml : mb < w.heap.size := cell_lt' (h.at (i := 0) (by decide)).1
  have PA := part_ok (w := w) (mb := mb) hml hi
  have hp := partN_le hi
  have hcell : Hid (∀ (j x : Nat), j < partN i → (pgPart f i)[j]? = some x → ∀ W, Below w.heap.size w W → W.cell? ⟨mb, i * 124 + j, none⟩ = some (.int .u16 (x : Int)) ∧ x < 65536) := Lib.hid fun j x hj hx W hW => by
    rw [pgPart_get f hi hj] at hx
    injection hx with hx; subst hx
    exact ⟨((h.keep (hW.block mb hml)).at (by omega)).1, (h.at (by omega)).2.2⟩
  have hpl := Lib.hid (pgPart_len f hi)
  rw [show Go.Sp.part f i = le2 (trim0 (pgPart f i)) from rfl]
  generalize pgPart f i = p at *
  have hcap : partN i ≤ 1024 - i * 124 := by omega
  have hcap1 : 1 ≤ 1024 - i * 124 := by omega
  have hn := hp.2.1
  generalize 1024 - i * 124 = c at *
  generalize partN i = n at *
  generalize i * 124 = b at *
  clear h hp
  go_enter Tryz.func62, Tryz.ntmps62
  go_upto_region 2 with (go_at_call 99; refine PA.mono ?_; rintro e w5 ⟨rfl, rfl⟩)
  go_loopw [5] (fun u wr => ∃ m : Nat, u = .slice (some ⟨mb, b, none⟩) m c ∧ m ≤ n ∧ Hid (trim0 (p.take m) = trim0 p) ∧ wr = w5) (fun u _ => match u with | .slice _ m _ => m | _ => 0)
  case atStart => exact ⟨n, rfl, Nat.le_refl _, Lib.hid (by rw [List.take_of_length_le (by have := hpl.out; omega)]), rfl⟩
  case round =>
    obtain ⟨m, rfl, hm, hT, rfl⟩ := hrel
    have hcase : m = 0 ∨ (∃ k, m = k + 1 ∧ p[k]? = some 0) ∨ (∃ k x, m = k + 1 ∧ p[k]? = some x ∧ x ≠ 0) := by
      cases m with
      | zero => exact .inl rfl
      | succ k =>
        have hk : k < p.length := by have := hpl.out; omega
        by_cases hx : p[k] = 0
        · exact .inr (.inl ⟨k, rfl, by rw [List.getElem?_eq_getElem hk, hx]⟩)
        · exact .inr (.inr ⟨k, p[k], rfl, List.getElem?_eq_getElem hk, hx⟩)
    rcases hcase with rfl | ⟨k, rfl, hx⟩ | ⟨k, x, rfl, hx, hne⟩
    case inr.inl =>
      have hT2 := Lib.hid ((trim0_zero (p.take k)).symm.trans ((congrArg trim0 (take_succ_get hx)).symm.trans hT.out))
      have hc := (hcell.out k 0 (by omega) hx wr (Below.refl _ _)).1
      have i0 : ((k + 1 : Nat) : Int) - 1 = (k : Int) := by omega
      have i1 : (0 : Int) < ((k + 1 : Nat) : Int) := by omega
      have i2 : (k : Int) < ((k + 1 : Nat) : Int) := by omega
      have i3 : (0 : Int) ≤ (k : Int) := by omega
      have i4 : (k : Int) ≤ (c : Int) := by omega
      have i5 : IntKind.i64.wrap (((k + 1 : Nat) : Int) - 1) = (k : Int) := by rw [i0, IntKind.wrap_i64]; omega
      have i6 : ¬ c = 0 := by omega
      clear hcell hT hx
      generalize hk1 : ((k + 1 : Nat) : Int) = k1 at *
      go_wp2_with fail
      exact ⟨⟨k, rfl, by omega, hT2, trivial⟩, Nat.lt_succ_self k⟩
    case inl =>
      have hTe : trim0 p = [] := by rw [← hT.out]; simp [trim0]
      have HTE := Lib.hid hTe
      clear hT hcell hpl hTe
      go_upto_region 6 with fail
      go_loopw [6, 31] (fun u v wr' => u = .slice none 0 0 ∧ v = .int .i64 0 ∧ wr' = wr) (fun _ _ _ => 0)
      case atStart => exact ⟨rfl, rfl, rfl⟩
      case round =>
        obtain ⟨rfl, rfl, rfl⟩ := hrel
        go_wp2_with fail
        go_ret
        exact ⟨.slice none 0 0, rfl, by rw [HTE.out]; exact RN.nil _ _ _ _, Below.refl _ _⟩
    case inr.inr =>
      obtain ⟨T, hTt⟩ : ∃ T, trim0 p = T := ⟨_, rfl⟩
      have hTe : T = p.take (k + 1) := by have := hT.out; rw [hTt] at this; rw [← this, take_succ_get hx, trim0_pos hne]
      have hTl : Hid (T.length = k + 1 ∧ ∀ (j x : Nat), T[j]? = some x → ∀ W, Below wr.heap.size wr W → W.cell? ⟨mb, b + j, none⟩ = some (.int .u16 (x : Int)) ∧ x < 65536) := Lib.hid ⟨by rw [hTe, List.length_take]; have := hpl.out; omega, fun j x h => by
        rw [hTe] at h
        have hj : j < k + 1 := by
          by_cases hj : j < k + 1
          · exact hj
          · rw [List.getElem?_eq_none (by rw [List.length_take]; omega)] at h; cases h
        rw [List.getElem?_take_of_lt hj] at h
        exact hcell.out j x (by omega) h⟩
      have hc := (hcell.out k x (by omega) hx wr (Below.refl _ _)).1
      have i0 : ((k + 1 : Nat) : Int) - 1 = (k : Int) := by omega
      have i1 : (0 : Int) < ((k + 1 : Nat) : Int) := by omega
      have i2 : (k : Int) < ((k + 1 : Nat) : Int) := by omega
      have i3 : (0 : Int) ≤ (k : Int) := by omega
      have i4 : (k : Int) ≤ (c : Int) := by omega
      have i5 : IntKind.i64.wrap (((k + 1 : Nat) : Int) - 1) = (k : Int) := by rw [i0, IntKind.wrap_i64]; omega
      have i6 : ((x : Int) == 0) = false := eq0 hne
      have hTT := Lib.hid hTt
      clear hTe hTt hT hcell hpl hx i0
      rw [hTT.out]
      generalize hlen : k + 1 = len at *
      have hm124 : len ≤ 124 := by omega
      go_upto_region 6 with fail
      go_loopw [6, 31] (fun u v wr' => ∃ k : Nat, v = .int .i64 k ∧ k ≤ len ∧ Hid (RN wr.heap.size wr' u (le2 (T.take k)) ∧ Below wr.heap.size wr wr')) (fun _ v _ => len - (Go.RowKit.intOf v).toNat)
      case atStart => exact ⟨0, rfl, Nat.zero_le _, Lib.hid ⟨RN.nil _ _ _ _, Below.refl _ _⟩⟩
      case round =>
        obtain ⟨q, rfl, hq, hI⟩ := hrel
        by_cases e : q < len
        · have i1' : (q : Int) < (len : Int) := by omega
          have i0' : (0 : Int) ≤ (q : Int) := by omega
          obtain ⟨y, hy⟩ : ∃ y, T[q]? = some y := ⟨_, List.getElem?_eq_getElem (by rw [hTl.out.1]; exact e)⟩
          obtain ⟨hcy, hy6⟩ := hTl.out.2 q y hy _ hI.out.2
          have hst := Lib.hid ((congrArg le2 (take_succ_get hy)).trans (le2_snoc _ _))
          have PU := put_x (x := y) (m := 2) hI.out.1.rv (by rw [le2_len, List.length_take]; omega) (.inl rfl) (by omega)
          have HB := Lib.hid hI.out.2
          have hlt := cell_lt' hcy
          have hw : IntKind.u64.wrap (y : Int) = (y : Int) := by rw [IntKind.wrap_u64]; omega
          clear hI hTl hy hTT hc i5 i6
          generalize le2 (T.take q) = bq at *
          go_wp2_with (go_at_call 56; refine PU.mono ?_; rintro e w6 ⟨⟨v', rfl, hr⟩, hb⟩)
          exact ⟨⟨q + 1, rfl, by omega, Lib.hid ⟨by rw [hst.out]; exact hr.mono HB.out.size, Below.up HB.out hb⟩⟩, measT e⟩
        · have ek : q = len := by omega
          have i1' : ¬ (q : Int) < (len : Int) := by omega
          have h1 := hI.out.1
          rw [ek, List.take_of_length_le (by rw [hTl.out.1]; exact Nat.le_refl _)] at h1
          have hI2 := Lib.hid (And.intro h1 hI.out.2)
          clear h1
          obtain ⟨a6, c6, rfl⟩ := hI2.out.1.rv.len
          clear hI hTl hc i5 i6
          go_wp2_with fail
          go_ret
          exact ⟨.slice a6 (le2 T).length c6, rfl, by rw [hTT.out]; exact hI2.out.1, hI2.out.2⟩
end Go.Tb
namespace Go.Tb
open Go Go.RowKit Go.Proofs Go.Maps Go.Sp
def Says (w0 : World) (g : Nat) (lb : Array Value) (P : Nat → Bool) (b : Nat) : Prop :=
  ∀ (W : World) (x : Nat), Below w0.heap.size w0 W → x < b → Calls Tryz.prog g (#[.int .i64 (x : Int)] ++ lb) W fun e W' => e = .returned (.bool (P x)) ∧ Below W.heap.size W W'
def firstI (P : Nat → Bool) (l : List Nat) : Int := match l.findIdx? P with | none => -1 | some j => (j : Int)
theorem first_none {P : Nat → Bool} {l : List Nat} (h : ∀ (j x : Nat), l[j]? = some x → P x = false) : firstI P l = -1 := by
  have : l.findIdx? P = none := List.findIdx?_eq_none_iff.2 fun x hx => by
    obtain ⟨j, hj⟩ := List.mem_iff_getElem?.1 hx
    exact h j x hj
  unfold firstI; rw [this]
theorem first_some {P : Nat → Bool} {l : List Nat} {k x : Nat} (hk : l[k]? = some x) (hx : P x = true) (h : ∀ (j x : Nat), j < k → l[j]? = some x → P x = false) : firstI P l = (k : Int) := by
  have hlt : k < l.length := (List.getElem?_eq_some_iff.1 hk).1
  have : l.findIdx? P = some k := List.findIdx?_eq_some_iff_getElem.2 ⟨hlt, by rw [← (List.getElem?_eq_some_iff.1 hk).2] at hx; exact hx, fun j hj => by
    have := h j l[j] hj (List.getElem?_eq_getElem (by omega)); simpa using this⟩
  unfold firstI; rw [this]
theorem indexF_ok {w0 w : World} {g : Nat} {lb : Array Value} {P : Nat → Bool} {b : Nat} (hs : Says w0 g lb P b) (hb : Below w0.heap.size w0 w) (eg : ∀ args w, (callFunc g args).run Tryz.prog w = .ok (.enter g args) w) {r n c : Nat} {l : List Nat} (hn : l.length = n) (hn9 : n ≤ 9)
    (hl : ∀ (j x : Nat), l[j]? = some x → w.cell? ⟨r, j, none⟩ = some (.int .i64 (x : Int)) ∧ x < b) :
    Calls Tryz.prog 100 #[.slice (some ⟨r, 0, none⟩) n c, .func (.func g) #[] lb] w fun e w' => e = .returned (.int .i64 (firstI P l)) ∧ Below w.heap.size w w' := by
  have HS := Lib.hid hs
  have HB := Lib.hid hb
  have HL := Lib.hid hl
  have HN := Lib.hid hn
  clear hs hb hl hn
  obtain ⟨R, hR⟩ : ∃ R, firstI P l = R := ⟨_, rfl⟩
  have HR := Lib.hid hR
  rw [hR]
  clear hR
  go_enter Tryz.func100, Tryz.ntmps100
  go_wp2_with fail
  go_loopw [8] (fun v wr => ∃ k : Nat, v = .int .i64 k ∧ k ≤ n ∧ Hid ((∀ (j x : Nat), j < k → l[j]? = some x → P x = false) ∧ Below w.heap.size w wr)) (fun v _ => n - (Go.RowKit.intOf v).toNat)
  case atStart => exact ⟨0, rfl, Nat.zero_le _, Lib.hid ⟨fun j x hj => by omega, Below.refl _ _⟩⟩
  case round =>
    obtain ⟨k, rfl, hk, hI⟩ := hrel
    by_cases e : k < n
    · have i1 : (k : Int) < (n : Int) := by omega
      have i0 : (0 : Int) ≤ (k : Int) := by omega
      obtain ⟨x, hx⟩ : ∃ x, l[k]? = some x := ⟨_, List.getElem?_eq_getElem (by rw [HN.out]; exact e)⟩
      have hc := cells_below hI.out.2 _ _ (HL.out k x hx).1
      have hlt := cell_lt' hc
      have CA := HS.out wr x (Below.up HB.out hI.out.2) (HL.out k x hx).2
      have HX := Lib.hid hx
      clear hx
      cases hP : P x with
      | true =>
        rw [hP] at CA
        have HF : Hid (R = (k : Int)) := Lib.hid (HR.out.symm.trans (first_some HX.out hP hI.out.1))
        clear hP
        go_wp2_with fail
        refine CA.mono ?_
        rintro e w6 ⟨rfl, hb6⟩
        go_wp2_with fail
        go_ret
        exact ⟨by rw [HF.out]; rfl, Below.up hI.out.2 hb6⟩
      | false =>
        rw [hP] at CA
        have HF : Hid (∀ (j y : Nat), j < k + 1 → l[j]? = some y → P y = false) := Lib.hid fun j y hj hy => by
          by_cases ej : j = k
          · rw [ej, HX.out] at hy; injection hy with hy; rw [← hy]; exact hP
          · exact hI.out.1 j y (by omega) hy
        have HB2 := Lib.hid hI.out.2
        clear hP hI
        go_wp2_with fail
        refine CA.mono ?_
        rintro e w6 ⟨rfl, hb6⟩
        go_wp2_with fail
        exact ⟨⟨k + 1, rfl, by omega, Lib.hid ⟨HF.out, Below.up HB2.out hb6⟩⟩, measT e⟩
    · have ek : k = n := by omega
      have i1 : ¬ (k : Int) < (n : Int) := by omega
      have HF : Hid (R = -1 ∧ Below w.heap.size w wr) := Lib.hid ⟨HR.out.symm.trans (first_none fun j x hj => hI.out.1 j x (by rw [ek, ← HN.out]; exact (List.getElem?_eq_some_iff.1 hj).1) hj), hI.out.2⟩
      clear hI
      go_wp2_with fail
      go_ret
      exact ⟨by rw [HF.out.1]; rfl, HF.out.2⟩
end Go.Tb
namespace Go.Tb
open Go Go.RowKit Go.Proofs Go.Maps Go.Sp
structure DelI (w0 W : World) (r n i : Nat) (l K : List Nat) : Prop where
  kp : ∀ (q x : Nat), K[q]? = some x → W.cell? ⟨r, q, none⟩ = some (.int .i64 (x : Int))
  rs : ∀ (q x : Nat), i ≤ q → l[q]? = some x → W.cell? ⟨r, q, none⟩ = some (.int .i64 (x : Int))
  is : ∀ q, q < n → ∃ v, W.cell? ⟨r, q, none⟩ = some v
  fz : ∀ q, q < n → W.frozen? ⟨r, q, none⟩ = false
  kd : kindOf W r = some 3
  be : Below w0.heap.size w0 W
theorem DelI.below {w0 W W' : World} {r n i : Nat} {l K : List Nat} (h : DelI w0 W r n i l K) (hb : Below W.heap.size W W') (hr : r < W.heap.size) : DelI w0 W' r n i l K :=
  ⟨fun q x hq => cells_below hb _ _ (h.kp q x hq), fun q x hi hq => cells_below hb _ _ (h.rs q x hi hq), fun q hq => (h.is q hq).imp fun v hv => cells_below hb _ _ hv, fun q hq => (cell_of_heap (a := ⟨r, q, none⟩) (hb.block r hr)).2.trans (h.fz q hq), (kindOf_same (hb.block r hr)).trans h.kd, Below.up h.be hb⟩
theorem DelI.lt {w0 W : World} {r n i : Nat} {l K : List Nat} (h : DelI w0 W r n i l K) : r < W.heap.size := by
  have hk := h.kd
  unfold kindOf at hk
  by_cases h : r < W.heap.size
  · exact h
  · rw [Array.getElem?_eq_none (by omega)] at hk; cases hk
theorem DelI.skip {w0 W : World} {r n i : Nat} {l K : List Nat} (h : DelI w0 W r n i l K) : DelI w0 W r n (i + 1) l K := ⟨h.kp, fun q x hi hq => h.rs q x (by omega) hq, h.is, h.fz, h.kd, h.be⟩
theorem DelI.take {w0 W : World} {r n i x : Nat} {l K : List Nat} (h : DelI w0 W r n i l K) (hK : K.length ≤ i) (hi : i < n) (hr : w0.heap.size ≤ r) : DelI w0 (W.setCell ⟨r, K.length, none⟩ (.int .i64 (x : Int))) r n (i + 1) l (K ++ [x]) := by
  obtain ⟨v0, hv0⟩ := h.is K.length (by omega)
  have ho : ∀ q u, q ≠ K.length → W.cell? ⟨r, q, none⟩ = some u → (W.setCell ⟨r, K.length, none⟩ (.int .i64 (x : Int))).cell? ⟨r, q, none⟩ = some u := fun q u hq hu => (World.cell?_setCell_other W ⟨r, K.length, none⟩ ⟨r, q, none⟩ _ (fun e => hq (by injection e with _ e; exact e.symm))).trans hu
  have hs := World.cell?_setCell_same W ⟨r, K.length, none⟩ (.int .i64 (x : Int)) hv0
  refine ⟨fun q y hq => ?_, fun q y hi' hq => ho q _ (by omega) (h.rs q y (by omega) hq), fun q hq => ?_, fun q hq => (World.frozen?_setCell _ _ _ _).trans (h.fz q hq), (kindOf_set hv0).trans h.kd, ⟨h.be.os, h.be.tape, h.be.output, by have := h.be.size; simpa [World.setCell] using this, fun k hk => (heap_setCell_other W ⟨r, K.length, none⟩ k _ (by show k ≠ r; omega)).trans (h.be.block k hk)⟩⟩
  · by_cases e : q < K.length
    · rw [List.getElem?_append_left e] at hq
      exact ho q _ (by omega) (h.kp q y hq)
    · have hlt := (List.getElem?_eq_some_iff.1 hq).1
      rw [List.length_append, List.length_singleton] at hlt
      have e2 : q = K.length := by omega
      subst e2
      rw [List.getElem?_append_right (Nat.le_refl _)] at hq
      simp at hq
      rw [← hq]; exact hs
  · by_cases e : q = K.length
    · subst e; exact ⟨_, hs⟩
    · obtain ⟨v, hv⟩ := h.is q hq
      exact ⟨v, ho q v e hv⟩
theorem DelI.clear {w0 W : World} {r n i m : Nat} {l K : List Nat} (h : DelI w0 W r n i l K) (hm : K.length + m = n) (hr : w0.heap.size ≤ r) :
    DelI w0 (W.setCells r K.length (List.replicate m (.int .i64 0))) r n n [] K := by
  have hsome : ∀ j, j < (List.replicate m (Value.int .i64 0)).length → (W.cell? ⟨r, K.length + j, none⟩).isSome = true := fun j hj => by
    rw [List.length_replicate] at hj
    obtain ⟨v, hv⟩ := h.is (K.length + j) (by omega)
    rw [hv]; rfl
  have hout : ∀ q, q < K.length → (W.setCells r K.length (List.replicate m (.int .i64 0))).cell? ⟨r, q, none⟩ = W.cell? ⟨r, q, none⟩ := fun q hq => World.cell?_setCells_out r _ _ _ _ fun _ _ => .inl hq
  refine ⟨fun q x hq => (hout q (List.getElem?_eq_some_iff.1 hq).1).trans (h.kp q x hq), fun q x hi hq => ?_, fun q hq => ?_, fun q hq => ?_, (setCells_kind _ _ _ hsome _).trans h.kd, ⟨(setCells_os _ _ _).1.trans h.be.os, (setCells_os _ _ _).2.1.trans h.be.tape, (setCells_os _ _ _).2.2.trans h.be.output, by rw [setCells_size]; exact h.be.size, fun k hk => (setCells_other _ _ _ _ (by omega)).trans (h.be.block k hk)⟩⟩
  · simp at hq
  · by_cases e : q < K.length
    · obtain ⟨v, hv⟩ := h.is q hq; exact ⟨v, (hout q e).trans hv⟩
    · have := World.cell?_setCells_in r (List.replicate m (Value.int .i64 0)) K.length W hsome (q - K.length) (by rw [List.length_replicate]; omega)
      rw [show K.length + (q - K.length) = q by omega] at this
      exact ⟨_, this⟩
  · rw [World.frozen?_setCells]; exact h.fz q hq
def kept (P : Nat → Bool) (l : List Nat) : List Nat := l.filter fun x => !P x
theorem kept_take {P : Nat → Bool} {l : List Nat} {i x : Nat} (h : l[i]? = some x) : kept P (l.take (i + 1)) = kept P (l.take i) ++ (if P x then [] else [x]) := by
  unfold kept
  rw [take_succ_get h, List.filter_append]
  cases hP : P x <;> simp [hP]
theorem kept_le (P : Nat → Bool) (l : List Nat) (i : Nat) : (kept P (l.take i)).length ≤ i := by
  have h1 := List.length_filter_le (fun x => !P x) (l.take i)
  have h2 := List.length_take_le i l
  unfold kept; omega
theorem kept_none {P : Nat → Bool} {l : List Nat} (h : ∀ (j x : Nat), l[j]? = some x → P x = false) : kept P l = l := by
  unfold kept
  refine List.filter_eq_self.2 fun x hx => ?_
  obtain ⟨j, hj⟩ := List.mem_iff_getElem?.1 hx
  simp [h j x hj]
theorem first_cases (P : Nat → Bool) (l : List Nat) : (firstI P l = -1 ∧ kept P l = l) ∨ ∃ (k x : Nat), firstI P l = (k : Int) ∧ l[k]? = some x ∧ P x = true ∧ kept P (l.take k) = l.take k := by
  cases h : l.findIdx? P with
  | none =>
    refine .inl ⟨by unfold firstI; rw [h], kept_none fun j x hj => ?_⟩
    have := List.findIdx?_eq_none_iff.1 h x (List.mem_of_getElem? hj)
    simpa using this
  | some k =>
    obtain ⟨hlt, hk, hb⟩ := List.findIdx?_eq_some_iff_getElem.1 h
    refine .inr ⟨k, l[k], by unfold firstI; rw [h], List.getElem?_eq_getElem hlt, hk, kept_none fun j x hj => ?_⟩
    have hjk : j < k := by
      have := (List.getElem?_eq_some_iff.1 hj).1
      rw [List.length_take] at this; omega
    rw [List.getElem?_take_of_lt hjk] at hj
    have := hb j hjk
    rw [← (List.getElem?_eq_some_iff.1 hj).2]
    simpa using this
theorem run_clear42 (w : World) {r n c o : Nat} (hn : 0 < n) (hc : ∀ j, j < n → (w.cell? ⟨r, o + j, none⟩).isSome = true) (hf : ∀ j, j < n → w.frozen? ⟨r, o + j, none⟩ = false) (ty : TypeId) :
    (Builtin.clear_ #[51] ty #[.slice (some ⟨r, o, none⟩) n c]).run Tryz.prog w = .ok (.tuple #[]) (w.setCells r o (List.replicate n (.int .i64 0))) :=
  Lib.run_clear_slice w 51 3 ty (.int .i64 0) Tryz.underlying51 (fun w => Tryz.zeroValue3 w) rfl rfl r o n c hn hc hf
theorem del_ok {w0 w : World} {g : Nat} {lb : Array Value} {P : Nat → Bool} {b : Nat} (hs : Says w0 g lb P b) (eg : ∀ args w, (callFunc g args).run Tryz.prog w = .ok (.enter g args) w) {r n c : Nat} {l : List Nat} (hn : l.length = n) (hn9 : n ≤ 9) (hnc : n ≤ c) (hr : w0.heap.size ≤ r)
    (D : DelI w0 w r n 0 l []) (hlb : ∀ x ∈ l, x < b) :
    Calls Tryz.prog 63 #[.slice (some ⟨r, 0, none⟩) n c, .func (.func g) #[] lb] w fun e w' => e = .returned (.slice (some ⟨r, 0, none⟩) (kept P l).length c) ∧ DelI w0 w' r n n [] (kept P l) := by
  have hrl : r < w.heap.size := D.lt
  have IX := indexF_ok hs D.be eg hn hn9 (r := r) (c := c) fun j x hj => ⟨D.rs j x (Nat.zero_le _) hj, hlb x (List.mem_of_getElem? hj)⟩
  rcases first_cases P l with ⟨h1, h2⟩ | ⟨k, x, h1, h2, h3, h4⟩
  · rw [h1] at IX
    rw [h2, hn]
    have HF : Hid (∀ w', Below w.heap.size w w' → DelI w0 w' r n n [] l) := Lib.hid fun w' hb => by
      have D' := D.below hb hrl
      exact ⟨fun q x hq => D'.rs q x (Nat.zero_le _) hq, fun q x _ hq => by simp at hq, D'.is, D'.fz, D'.kd, D'.be⟩
    clear D hlb hs h1 h2 hn
    go_enter Tryz.func63, Tryz.ntmps63
    go_wp2_with (go_at_call 100; refine IX.mono ?_; rintro e w5 ⟨rfl, hb5⟩; have HB5 := Lib.hid hb5; clear hb5)
    go_ret
    exact ⟨rfl, HF.out _ HB5.out⟩
  · rw [h1] at IX
    have hkn : k < n := by rw [← hn]; exact (List.getElem?_eq_some_iff.1 h2).1
    have D0 : Hid (∀ w', Below w.heap.size w w' → DelI w0 w' r n (k + 1) l (kept P (l.take (k + 1)))) := Lib.hid fun w' hb => by
      have D' := D.below hb hrl
      rw [kept_take h2, h3, h4, if_pos rfl, List.append_nil]
      refine ⟨fun q y hq => ?_, fun q y hi hq => D'.rs q y (Nat.zero_le _) hq, D'.is, D'.fz, D'.kd, D'.be⟩
      have hqk : q < k := by have := (List.getElem?_eq_some_iff.1 hq).1; rw [List.length_take] at this; omega
      rw [List.getElem?_take_of_lt hqk] at hq
      exact D'.rs q y (Nat.zero_le _) hq
    have L0 : Hid ((kept P (l.take (k + 1))).length = k) := Lib.hid (by rw [kept_take h2, h3, h4, if_pos rfl, List.append_nil, List.length_take]; omega)
    have HS := Lib.hid hs
    have HL := Lib.hid hlb
    have HN := Lib.hid hn
    have j1 : ¬ (k : Int) = -1 := by omega
    have j2 : ((k : Int) == -1) = false := by simp
    clear D hlb hs h1 h2 h3 h4 hn
    go_enter Tryz.func63, Tryz.ntmps63
    go_wp2_with (go_at_call 100; refine IX.mono ?_; rintro e w5 ⟨rfl, hb5⟩; have HB5 := Lib.hid hb5; clear hb5)
    go_loopw [5, 6] (fun u v wr => ∃ i m : Nat, u = .int .i64 m ∧ v = .int .i64 i ∧ i ≤ n ∧ m < i ∧ Hid ((kept P (l.take i)).length = m ∧ DelI w0 wr r n i l (kept P (l.take i)))) (fun _ v _ => n - (Go.RowKit.intOf v).toNat)
    case atStart => exact ⟨k + 1, k, rfl, by simp, by omega, by omega, Lib.hid ⟨L0.out, D0.out _ HB5.out⟩⟩
    case round =>
      obtain ⟨i, m, rfl, rfl, hi, hm, hI⟩ := hrel
      have hwl : r < wr.heap.size := hI.out.2.lt
      by_cases e : i < n
      · have i1 : (i : Int) < (n : Int) := by omega
        have i0 : (0 : Int) ≤ (i : Int) := by omega
        have m0 : (0 : Int) ≤ (m : Int) := by omega
        have m1 : (m : Int) < (n : Int) := by omega
        obtain ⟨x, hx⟩ : ∃ x, l[i]? = some x := ⟨_, List.getElem?_eq_getElem (by rw [HN.out]; exact e)⟩
        have hc := hI.out.2.rs i x (Nat.le_refl _) hx
        have CA := HS.out wr x hI.out.2.be (HL.out x (List.mem_of_getElem? hx))
        have HK := Lib.hid (kept_take (P := P) hx)
        have HD := Lib.hid (fun W (hb : Below wr.heap.size wr W) => hI.out.2.below hb hwl)
        have HM := Lib.hid hI.out.1
        clear hI hx IX
        cases hP : P x with
        | true =>
          rw [hP] at CA
          rw [hP, if_pos rfl, List.append_nil] at HK
          clear hP
          go_wp2_with fail
          refine CA.mono ?_
          rintro e w6 ⟨rfl, hb6⟩
          go_wp2_with fail
          exact ⟨⟨i + 1, m, rfl, by simp, by omega, by omega, Lib.hid ⟨by rw [HK.out]; exact HM.out, by rw [HK.out]; exact (HD.out _ hb6).skip⟩⟩, measT e⟩
        | false =>
          rw [hP] at CA
          rw [hP, if_neg (by simp)] at HK
          clear hP
          go_wp2_with fail
          refine CA.mono ?_
          rintro e w6 ⟨rfl, hb6⟩
          have D6 := HD.out _ hb6
          obtain ⟨v0, cv0⟩ := D6.is m (by omega)
          have cz0 := D6.fz m (by omega)
          have cl0 := cell_lt' cv0
          have HD6 := Lib.hid (show DelI w0 (w6.setCell ⟨r, m, none⟩ (.int .i64 (x : Int))) r n (i + 1) l (kept P (l.take i) ++ [x]) from by
            have := D6.take (x := x) (by rw [HM.out]; omega) e hr
            rwa [HM.out] at this)
          clear D6 hb6 HD
          go_wp2_with fail
          refine ⟨⟨i + 1, m + 1, by simp, by simp, by omega, by omega, Lib.hid ⟨by rw [HK.out, List.length_append, HM.out]; rfl, by rw [HK.out]; exact HD6.out⟩⟩, measT e⟩
      · have ek : i = n := by omega
        subst ek
        have i1 : ¬ (i : Int) < (i : Int) := by omega
        have hK : kept P (l.take i) = kept P l := by rw [List.take_of_length_le (by rw [HN.out]; exact Nat.le_refl _)]
        rw [hK] at hI
        have m0 : (0 : Int) ≤ (m : Int) := by omega
        have m1 : (m : Int) ≤ (i : Int) := by omega
        have m2 : (i : Int) ≤ (c : Int) := by omega
        have m3 : (m : Int) ≤ (c : Int) := by omega
        have m4 : ¬ c = m := by omega
        have CL := run_clear42 wr (r := r) (n := i - m) (c := c - m) (o := m) (by omega) (fun j hj => by obtain ⟨v, hv⟩ := hI.out.2.is (m + j) (by omega); rw [hv]; rfl) (fun j hj => hI.out.2.fz (m + j) (by omega))
        have HF : Hid (DelI w0 (wr.setCells r m (List.replicate (i - m) (.int .i64 0))) r i i [] (kept P l)) := Lib.hid (by
          have := hI.out.2.clear (m := i - m) (by rw [hI.out.1]; omega) hr
          rwa [hI.out.1] at this)
        have HM := Lib.hid hI.out.1
        clear hI hK IX
        go_wp2_with fail
        go_ret
        exact ⟨by rw [HM.out]; rfl, HF.out⟩
end Go.Tb
namespace Go.Tb
open Go Go.RowKit Go.Proofs Go.Maps Go.Sp
theorem eql42_nil (c : Nat) (w : World) : (binOp .eql 51 (.slice none 0 c) (.slice none 0 0)).run Tryz.prog w = .ok (.bool true) w := by
  have := run_equal_slice_nil (P := Tryz.prog) w 51 3 none 0 c Tryz.underlying51
  simp [binOp, this]
theorem eql42_some (a : Addr) (n c : Nat) (w : World) : (binOp .eql 51 (.slice (some a) n c) (.slice none 0 0)).run Tryz.prog w = .ok (.bool false) w := by
  have := run_equal_slice_nil (P := Tryz.prog) w 51 3 (some a) n c Tryz.underlying51
  simp [binOp, this]
theorem encI_one {l : List Nat} : ∀ u ∈ l.map encI, u.oneCell' = true := fun u hu => by obtain ⟨x, _, rfl⟩ := List.mem_map.1 hu; rfl
theorem cloneI_ok {w : World} {base n : Nat} {v : Value} {xs : List Value} (h : w.ownsRow base 3 1 v n xs) (hone : ∀ u ∈ xs, u.oneCell' = true) (hn : n ≤ 1024) :
    Calls Tryz.prog 64 #[v] w fun e w' => ∃ v', e = .returned v' ∧ w'.ownsRow w.heap.size 3 1 v' n xs ∧ Below w.heap.size w w' := by
  obtain ⟨i, hi, i1, i2, i3⟩ := i3'
  rcases h.2 with ⟨rfl, rfl⟩ | ⟨g, cap, cur, rfl, hg, hh, hc⟩
  · have hx : xs = [] := List.length_eq_zero_iff.1 (by have := h.1; omega)
    subst hx
    have E := eql42_nil 0 w
    clear h
    go_enter Tryz.func64, Tryz.ntmps64
    go_wp2
    go_ret
    exact ⟨.slice none 0 0, rfl, World.ownsRow_nil _ _ _ _, Below.refl _ _⟩
  · have hbel : Below w.heap.size w (w.alloc (.cells #[] 3)) := Below.alloc (Below.refl _ _) (Nat.le_refl _) _
    have hnews : ∀ j u, xs[j]? = some u → (w.alloc (.cells #[] 3)).cell? ((⟨g, 0, none⟩ : Addr).add j) = some u := fun j u hu => cells_below hbel _ _ (h.cells rfl j u hu)
    have hmade : (w.alloc (.cells #[] 3)).ownsRow w.heap.size 3 1 (.slice (some ⟨w.heap.size, 0, none⟩) 0 0) 0 [] := World.ownsRow_made w #[] 0 (Nat.le_refl _) (by decide) rfl
    have hsz : w.heap.size ≤ (w.alloc (.cells #[] 3)).heap.size := hbel.size
    have hlen : xs.length = n * 1 := h.1
    generalize hW : w.alloc (.cells #[] 3) = W at hnews hmade hbel hsz
    have HN := Lib.hid hnews
    have HM := Lib.hid hmade
    have HL := Lib.hid hlen
    have HB := Lib.hid hbel
    have HS := Lib.hid hsz
    have HI := Lib.hid hi
    have HX : Hid (n ≤ 1024) := Lib.hid hn
    have HO := Lib.hid hone
    clear hnews hmade hlen hbel hsz hi hn h hh hone hc
    have E := eql42_some ⟨g, 0, none⟩ n cap w
    go_enter Tryz.func64, Tryz.ntmps64
    go_wp2_with (at_builtin; go_loud (refine wpList_append_own _ rfl _ _ 51 rfl w.heap.size 3 i (.int .i64 0) 1 8 Tryz.underlying51 HI.out i3 i1 i2 rfl (by decide) _ 0 [] rfl HM.out _ n _ _ rfl HL.out HN.out HO.out (Nat.le_trans (by simpa using HX.out) (by decide)) (by have := HX.out; omega) HS.out ?_; intro v' w' q1 q2 q3))
    go_ret
    refine ⟨v', rfl, ?_, HB.out.grown q2 HS.out ?_⟩
    · simpa using q1
    · intro k hk; cases hk; exact Nat.le_refl _
theorem index0_ok {w : World} {fv : Value} {a : Option Addr} {c : Nat} : Calls Tryz.prog 100 #[.slice a 0 c, fv] w fun e w' => e = .returned (.int .i64 (-1)) ∧ w' = w := by
  go_enter Tryz.func100, Tryz.ntmps100
  go_wp2_with fail
  go_loopw [8] (fun v wr => v = .int .i64 0 ∧ wr = w) (fun _ _ => 0)
  case atStart => exact ⟨rfl, rfl⟩
  case round =>
    obtain ⟨rfl, rfl⟩ := hrel
    go_wp2_with fail
    go_ret
    exact ⟨rfl, rfl⟩
theorem del0_ok {w : World} {fv : Value} {a : Option Addr} {c : Nat} : Calls Tryz.prog 63 #[.slice a 0 c, fv] w fun e w' => e = .returned (.slice a 0 c) ∧ w' = w := by
  have H := @index0_ok w fv a c
  go_enter Tryz.func63, Tryz.ntmps63
  go_wp2_with (go_at_call 100; refine H.mono ?_; rintro e w5 ⟨rfl, rfl⟩)
  go_ret
  exact ⟨rfl, rfl⟩
def RowN (base : Nat) (W : World) (v : Value) (l : List Nat) : Prop :=
  ∃ a c, v = .slice a l.length c ∧ l.length ≤ c ∧ (0 < l.length → ∃ r, a = some ⟨r, 0, none⟩ ∧ base ≤ r ∧ r < W.heap.size ∧ kindOf W r = some 3 ∧ ∀ (j x : Nat), l[j]? = some x → W.cell? ⟨r, j, none⟩ = some (.int .i64 (x : Int)))
theorem RowN.nr {γ : Gh} {base : Nat} {W : World} {v : Value} {l : List Nat} (h : RowN base W v l) (h0 : γ.lim ≤ base) : NR γ W v l := by
  obtain ⟨a, c, e, hc, h⟩ := h
  refine ⟨a, c, e, hc, fun hp => ?_⟩
  obtain ⟨r, ea, hb, hr, hk, hx⟩ := h hp
  refine ⟨r, 0, ea, hr, ?_, fun j x hj => by rw [Nat.zero_add]; exact hx j x hj⟩
  unfold Tag Gh.kind
  rw [hk, γ.new (Nat.le_trans h0 hb), if_neg (by decide)]; rfl
theorem del_row {w0 w : World} {g : Nat} {lb : Array Value} {P : Nat → Bool} {b : Nat} (hs : Says w0 g lb P b) (eg : ∀ args w, (callFunc g args).run Tryz.prog w = .ok (.enter g args) w) {n : Nat} {l : List Nat} {v : Value} (hb : Below w0.heap.size w0 w) (ho : w.ownsRow w0.heap.size 3 1 v n (l.map encI)) (hn9 : n ≤ 9) (hlb : ∀ x ∈ l, x < b) :
    Calls Tryz.prog 63 #[v, .func (.func g) #[] lb] w fun e w' => ∃ v', e = .returned v' ∧ RowN w0.heap.size w' v' (kept P l) ∧ Below w0.heap.size w0 w' := by
  have hln : l.length = n := by have := ho.1; rw [List.length_map] at this; omega
  by_cases hz : n = 0
  · subst hz
    have hx : l = [] := List.length_eq_zero_iff.1 hln
    subst hx
    obtain ⟨a, c, rfl⟩ := own_slice ho
    refine del0_ok.mono ?_
    rintro e w' ⟨rfl, rfl⟩
    exact ⟨_, rfl, ⟨a, c, rfl, Nat.zero_le _, fun h => absurd h (by simp [kept])⟩, hb⟩
  · rcases id ho.2 with ⟨_, h0⟩ | ⟨r, cap, cur, rfl, hr, hh, hcap, _, hcur, _⟩
    · exact absurd h0 hz
    · have D : DelI w0 w r n 0 l [] := by
        refine ⟨fun q x hq => by simp at hq, fun q x _ hq => ?_, fun q hq => ?_, fun q hq => ?_, by simp [kindOf, hh], hb⟩
        · have := ho.cells rfl q (encI x) (by simp [hq])
          rwa [add_cell, Nat.zero_add] at this
        · obtain ⟨x, hx⟩ : ∃ x, l[q]? = some x := ⟨_, List.getElem?_eq_getElem (by omega)⟩
          have := ho.cells rfl q (encI x) (by simp [hx])
          rw [add_cell, Nat.zero_add] at this
          exact ⟨_, this⟩
        · simp [World.frozen?, hh]
      refine (del_ok hs eg hln hn9 hcap hr D hlb).mono ?_
      rintro e w' ⟨rfl, D'⟩
      refine ⟨_, rfl, ⟨_, _, rfl, Nat.le_trans ?_ hcap, fun _ => ⟨r, rfl, hr, D'.lt, D'.kd, D'.kp⟩⟩, D'.be⟩
      have := kept_le P l l.length
      rw [List.take_length] at this; omega
def emptyP (f : Nat → Nat) (i : Nat) : Bool := decide ((Go.Sp.part f i).length = 0)
theorem empty_says {w0 : World} {qb sb ob : Nat} {f : Nat → Nat} (hq : w0.cell? ⟨qb, 0, none⟩ = some (.pointer (some ⟨sb, 0, none⟩))) (h14 : w0.cell? ⟨sb, 14, none⟩ = some (.pointer (some ⟨ob, 0, none⟩))) (hm : MapV w0 ob f) : Says w0 61 #[.pointer (some ⟨qb, 0, none⟩)] (emptyP f) 9 := by
  intro W x hW hx
  have hml : ob < w0.heap.size := cell_lt' (hm.at (i := 0) (by decide)).1
  have PB := part_bytes (hm.keep (hW.block ob hml)) hx
  have cq := cells_below hW _ _ hq
  have c14 := cells_below hW _ _ h14
  have lq := cell_lt' cq
  have ls := cell_lt' c14
  have hbq : ((((Go.Sp.part f x).length : Nat) : Int) == 0) = emptyP f x := by
    unfold emptyP
    by_cases h : (Go.Sp.part f x).length = 0
    · simp [h]
    · simp [h]
  generalize emptyP f x = r at *
  generalize Go.Sp.part f x = p at *
  clear hq h14 hm hW
  show Calls Tryz.prog 61 #[.int .i64 (x : Int), .pointer (some ⟨qb, 0, none⟩)] W _
  go_enter Tryz.func61, Tryz.ntmps61
  go_wp2_with (go_at_call 62; refine PB.mono ?_; rintro e w5 ⟨v, rfl, hr, hb⟩; obtain ⟨va, vc, rfl⟩ := hr.rv.len)
  go_ret
  exact ⟨rfl, hb⟩
theorem kept_full (s : Sp) : kept (emptyP s.own) (turnedP s.own s.r.pg) = s.full := by
  unfold kept Sp.full emptyP
  refine List.filter_congr fun x _ => ?_
  by_cases h : (Go.Sp.part s.own x).length = 0 <;> simp [h]
theorem turned_lt {f g : Nat → Nat} : ∀ x ∈ turnedP f g, x < 9 := fun x hx => List.mem_range.1 (List.mem_filter.1 hx).1
theorem turned_len (f g : Nat → Nat) : (turnedP f g).length ≤ 9 := turnK_le f g 9
theorem full_lt {s : Sp} : ∀ x ∈ s.full, x < 9 := fun x hx => turned_lt x (List.mem_filter.1 hx).1
theorem full_len (s : Sp) : s.full.length ≤ 9 := Nat.le_trans (List.length_filter_le _ _) (turned_len _ _)
theorem enters61 : ∀ args w, (callFunc 61 args).run Tryz.prog w = .ok (.enter 61 args) w := enters_of' Tryz.func61 (by kernel_rfl) (by kernel_rfl)
end Go.Tb
namespace Go.Tb
open Go Go.RowKit Go.Proofs Go.Maps Go.Sp
def c9 (f : Nat → Nat) : List Value := (List.range 9).map fun i => .int .i64 (f i : Int)
theorem c9_len (f : Nat → Nat) : (c9 f).length = 9 := by simp [c9]
theorem c9_one {f : Nat → Nat} : ∀ v ∈ c9 f, v.oneCell' = true := fun v hv => by obtain ⟨i, _, rfl⟩ := List.mem_map.1 hv; rfl
theorem c9_get {f : Nat → Nat} {j : Nat} {v : Value} (h : (c9 f)[j]? = some v) : j < 9 ∧ v = .int .i64 (f j : Int) := by
  have hj : j < 9 := by have := (List.getElem?_eq_some_iff.1 h).1; rwa [c9_len] at this
  refine ⟨hj, ?_⟩
  unfold c9 at h
  rw [List.getElem?_map, List.getElem?_range hj] at h
  injection h with h
  exact h.symm
theorem c9_at {f : Nat → Nat} {j : Nat} (h : j < 9) : (c9 f)[j]? = some (.int .i64 (f j : Int)) := by
  unfold c9
  rw [List.getElem?_map, List.getElem?_range h]; rfl
structure N9 (γ : Gh) (w W : World) (b : Nat) (f : Nat → Nat) : Prop where
  tg : Tag γ W b 67
  past : w.heap.size ≤ b
  c : ∀ i, i < 9 → W.cell? ⟨b, i, none⟩ = some (.int .i64 (f i : Int))
  z : ∀ i, i < 9 → W.frozen? ⟨b, i, none⟩ = false
theorem N9.lt {γ : Gh} {w W : World} {b : Nat} {f : Nat → Nat} (h : N9 γ w W b f) : b < W.heap.size := cell_lt' (h.c 0 (by decide))
theorem N9.keep {γ : Gh} {S : TypeId → Bool} {w W W' : World} {b : Nat} {f : Nat → Nat} (h : N9 γ w W b f) (hs : Step γ S W W') (hS : S 67 = false) : N9 γ w W' b f :=
  ⟨hs.tg _ _ (by decide) h.lt h.tg, h.past, fun i hi => cell_keep hs h.tg hS (h.c i hi), fun i hi => fz_keep hs h.tg hS h.lt (h.z i hi)⟩
theorem N9.set {γ : Gh} {w W : World} {b : Nat} {f : Nat → Nat} (h : N9 γ w W b f) {i x : Nat} (hi : i < 9) : N9 γ w (W.setCell ⟨b, i, none⟩ (.int .i64 (x : Int))) b (upd f i x) := by
  refine ⟨h.tg.set (h.c i hi), h.past, fun j hj => ?_, fun j hj => (World.frozen?_setCell _ _ _ _).trans (h.z j hj)⟩
  by_cases e : j = i
  · subst e; rw [upd_same]; exact World.cell?_setCell_same W _ _ (h.c j hj)
  · rw [upd_other _ e, World.cell?_setCell_other W ⟨b, i, none⟩ ⟨b, j, none⟩ _ (fun q => e (by injection q with _ q; exact q.symm))]
    exact h.c j hj
theorem N9.other {γ : Gh} {w W : World} {b k i : Nat} {f : Nat → Nat} {v v0 : Value} (h : N9 γ w W b f) (hk : b ≠ k) (hc : W.cell? ⟨k, i, none⟩ = some v0) : N9 γ w (W.setCell ⟨k, i, none⟩ v) b f :=
  have hb := heap_setCell_other W ⟨k, i, none⟩ b v hk
  ⟨h.tg.set hc, h.past, fun j hj => (cell_of_heap (a := ⟨b, j, none⟩) hb).1.trans (h.c j hj), fun j hj => (cell_of_heap (a := ⟨b, j, none⟩) hb).2.trans (h.z j hj)⟩
theorem N9.range {γ : Gh} {w W : World} {b : Nat} {f : Nat → Nat} (h : N9 γ w W b f) : W.rangeAt b 0 (c9 f) := fun j v hv => by
  obtain ⟨h1, rfl⟩ := c9_get hv
  rw [Nat.zero_add]; exact h.c j h1
theorem N9.there {γ : Gh} {w W : World} {b : Nat} {f : Nat → Nat} (h : N9 γ w W b f) (g : Nat → Nat) : W.there b 0 (c9 g).toArray.size := fun j hj => by
  have hj : j < 9 := by simpa [c9_len] using hj
  rw [Nat.zero_add]
  exact ⟨by rw [h.c j hj]; rfl, h.z j hj⟩
theorem Step.past {γ : Gh} {S : TypeId → Bool} {w W : World} (h : Step γ S w W) (h0 : γ.lim ≤ w.heap.size) {b o : Nat} {v v0 : Value} (hb : w.heap.size ≤ b) (hc : W.cell? ⟨b, o, none⟩ = some v0) : Step γ S w (W.setCell ⟨b, o, none⟩ v) :=
  ⟨⟨h.be.os, h.be.tape, h.be.output, by have := h.be.size; simpa [World.setCell] using this, fun k hk => (heap_setCell_other W ⟨b, o, none⟩ k v (by show k ≠ b; have := γ.hB; omega)).trans (h.be.block k hk)⟩, fun k hk hT => (heap_setCell_other W ⟨b, o, none⟩ k v (by show k ≠ b; omega)).trans (h.on k hk hT), fun k T hn hk ht => (h.tg k T hn hk ht).set hc⟩
theorem N9.sets {γ : Gh} {w W : World} {b : Nat} {f : Nat → Nat} (h : N9 γ w W b f) (g : Nat → Nat) : N9 γ w (W.setCells b 0 (c9 g)) b g ∧ ∀ k, k ≠ b → (W.setCells b 0 (c9 g)).heap[k]? = W.heap[k]? := by
  have hsome : ∀ j, j < (c9 g).length → (W.cell? ⟨b, 0 + j, none⟩).isSome = true := fun j hj => by rw [c9_len] at hj; rw [Nat.zero_add, h.c j hj]; rfl
  refine ⟨⟨(Gh.kind_of (setCells_kind _ _ _ hsome _)).trans h.tg, h.past, fun i hi => ?_, fun i hi => ?_⟩, fun k hk => setCells_other _ _ _ _ hk⟩
  · have := World.cell?_setCells_in b (c9 g) 0 W hsome i (by rw [c9_len]; exact hi)
    rw [Nat.zero_add] at this
    rw [this]
    exact (List.getElem?_eq_getElem (by rw [c9_len]; exact hi)).symm.trans (c9_at hi)
  · rw [World.frozen?_setCells]; exact h.z i hi
theorem Step.sets {γ : Gh} {S : TypeId → Bool} {w W : World} (h : Step γ S w W) (h0 : γ.lim ≤ w.heap.size) {b : Nat} {f : Nat → Nat} (hN : N9 γ w W b f) (g : Nat → Nat) : Step γ S w (W.setCells b 0 (c9 g)) := by
  have ho := (hN.sets g).2
  have hB := γ.hB
  have hp := hN.past
  exact ⟨⟨(setCells_os _ _ _).1.trans h.be.os, (setCells_os _ _ _).2.1.trans h.be.tape, (setCells_os _ _ _).2.2.trans h.be.output, by rw [setCells_size]; exact h.be.size, fun k hk => (ho k (by omega)).trans (h.be.block k hk)⟩, fun k hk hT => (ho k (by omega)).trans (h.on k hk hT), fun k T hn hk ht => (h.tg k T hn hk ht).same (ho k (by omega))⟩
structure PaI (γ : Gh) (w W : World) (sb db cb rb ob kb qb bb eb : Nat) (s : Sp) (f : Nat → Nat) : Prop where
  sp : SpK γ W sb db cb rb ob kb s
  st : Step γ spR w W
  qt : Tag γ W qb 26
  qc : W.cell? ⟨qb, 0, none⟩ = some (.pointer (some ⟨sb, 0, none⟩))
  b9 : N9 γ w W bb f
  e9 : ∃ g, N9 γ w W eb g
  be : bb ≠ eb
theorem PaI.step {γ : Gh} {S : TypeId → Bool} {w W W' : World} {sb db cb rb ob kb qb bb eb : Nat} {s s' : Sp} {f : Nat → Nat} (h : PaI γ w W sb db cb rb ob kb qb bb eb s f) (hs : Step γ S W W') (h27 : S 26 = false) (h89 : S 67 = false) (hS : ∀ T, spR T = false → S T = false) (hsp : SpK γ W' sb db cb rb ob kb s') : PaI γ w W' sb db cb rb ob kb qb bb eb s' f :=
  ⟨hsp, h.st.trans (hs.mono hS), hs.tg _ _ (by decide) (cell_lt' h.qc) h.qt, cell_keep hs h.qt h27 h.qc, h.b9.keep hs h89, h.e9.imp fun g hg => hg.keep hs h89, h.be⟩
theorem PaI.below {γ : Gh} {w W W' : World} {sb db cb rb ob kb qb bb eb : Nat} {s : Sp} {f : Nat → Nat} (h : PaI γ w W sb db cb rb ob kb qb bb eb s f) (hb : Below W.heap.size W W') (h0 : γ.lim ≤ w.heap.size) : PaI γ w W' sb db cb rb ob kb qb bb eb s f :=
  h.step (S := fun _ => false) (Step.below hb (Nat.le_trans h0 h.st.size)) rfl rfl (fun _ _ => rfl) (h.sp.below hb (Nat.le_trans h0 h.st.size))
theorem PaI.set {γ : Gh} {w W : World} {sb db cb rb ob kb qb bb eb : Nat} {s : Sp} {f : Nat → Nat} (h : PaI γ w W sb db cb rb ob kb qb bb eb s f) (h0 : γ.lim ≤ w.heap.size) {i x : Nat} (hi : i < 9) :
    PaI γ w (W.setCell ⟨bb, i, none⟩ (.int .i64 (x : Int))) sb db cb rb ob kb qb bb eb s (upd f i x) ∧ Step γ (fun T => T == 67) W (W.setCell ⟨bb, i, none⟩ (.int .i64 (x : Int))) := by
  have hc := h.b9.c i hi
  have hB := γ.hB
  have hp := h.b9.past
  have hs : Step γ (fun T => T == 67) W (W.setCell ⟨bb, i, none⟩ (.int .i64 (x : Int))) := Step.set h.b9.tg rfl (by omega) hc
  refine ⟨⟨⟨h.sp.1.keep hs (h.sp.1.ca.keep hs ⟨rfl, rfl, rfl, rfl⟩ ⟨rfl, rfl, rfl⟩) rfl rfl rfl, h.sp.2.keep h.sp.1.tg hs rfl rfl rfl⟩, h.st.past h0 h.b9.past hc, h.qt.set hc, cell_keep hs h.qt rfl h.qc, h.b9.set hi, ?_, h.be⟩, hs⟩
  obtain ⟨g, hg⟩ := h.e9
  exact ⟨g, hg.other h.be.symm hc⟩
end Go.Tb
