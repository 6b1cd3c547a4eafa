/- ShadowDrops: pages that are dropped, and published, give their sectors back: for every number of sectors and of pages. -/
import Derived.Test.YthejkfnigalniaaGreatDoorWaI
import Derived.Test.YthejkfnigalniaaGreatDoorWaF
import Derived.Test.YthejkfnigalniaaGreatDoorPlb
import Derived.Test.YthejkfnigalniaaGreatDoorRows
import Derived.Test.YthejkfnigalniaaGreatDoorCards
import Derived.Test.YthejkfnigalniaaGreatDoorTie
import Derived.ProofKit
import Derived.OpenShut
import Derived.LaidMore
import Derived.Lay
import Derived.SevenTiedAt
import Derived.Stop.Joined
import Derived.Carry
import Derived.ChangeArms
import Derived.Lib.SmallJoins
import Derived.LaidEql
set_option linter.unusedVariables false
set_option linter.unusedSimpArgs false
set_option maxRecDepth 100000
set_option maxHeartbeats 1600000
namespace Go.Tb
open Go Go.RowKit Go.Proofs Go.Maps Go.Sp
theorem same_ok {w : World} {v u : Value} {a b : Bs} (ha : RV w v a) (hb : RV w u b) : Calls Tryz.prog 26 #[v, u] w fun e w' => e = .returned (.bool (decide (a = b))) ∧ w' = w := by
  have key : ∀ {v : Value} {a : Bs}, RV w v a → (convert 37 9 v).run Tryz.prog w = .ok (.string (txt a)) w := fun {v a} h => by
    obtain ⟨ad, c, rfl, ⟨hx, hc⟩, hr⟩ := h
    by_cases hz : 0 < a.length
    · obtain ⟨g, o, rfl, hg, hcell⟩ := hr hz
      exact conv_txt hcell _ rfl
    · have h0 : a = [] := List.length_eq_zero_iff.1 (by omega)
      subst h0
      rw [run_convert_bytes_string w 37 9 5 _ _ c Tryz.underlying37 Tryz.underlying5 (by kernel_rfl)]
      cases ad <;> simp [Conv.bytesToString, loadCells] <;> rfl
  have ca := key ha
  have cb := key hb
  have hti : ((txt a).toList == (txt b).toList) = decide (a = b) := by
    have := txt_is (l := a) (m := b) (fun x hm => ha.byte x hm) (fun x hm => hb.byte x hm)
    rw [← txt_list (l := b) []] at this
    exact this
  obtain ⟨D, hD⟩ : ∃ D, decide (a = b) = D := ⟨_, rfl⟩
  rw [hD] at hti ⊢
  generalize txt a = A at *
  generalize txt b = B at *
  obtain ⟨av, ac, rfl⟩ := ha.len
  obtain ⟨bv, bc, rfl⟩ := hb.len
  clear ha hb hD key
  go_enter Tryz.func26, Tryz.ntmps26
  go_wp2_with fail
  go_ret
  exact ⟨rfl, rfl⟩
def WS (w W : World) (db sb : Nat) (s : Sp) : Prop := ∃ γ : Gh, γ.B = w.heap.size ∧ γ.lim ≤ W.heap.size ∧ SpV γ W sb db s ∧ Below w.heap.size w W
section
variable {w W : World} {db sb : Nat} {s : Sp}
theorem WS.below {W' : World} (h : WS w W db sb s) (hb : Below W.heap.size W W') : WS w W' db sb s := by
  obtain ⟨γ, g1, g2, g3, g4⟩ := h
  exact ⟨γ, g1, Nat.le_trans g2 hb.size, g3.below hb g2, g4.trans (hb.mono g4.size)⟩
theorem WS.be (h : WS w W db sb s) : Below w.heap.size w W := by obtain ⟨γ, g1, g2, g3, g4⟩ := h; exact g4
theorem WS.act {γ : Gh} {W' : World} {s' : Sp} (g1 : γ.B = w.heap.size) (g2 : γ.lim ≤ W.heap.size) (g4 : Below w.heap.size w W) (h : SpV γ W' sb db s') (hs : Step γ spS W W') : WS w W' db sb s' :=
  ⟨γ, g1, Nat.le_trans g2 hs.size, h, g4.trans (g1 ▸ hs.be)⟩
theorem row1 {γ : Gh} {W0 : World} {x : Nat} {r : Nat × Nat} (h0 : γ.lim ≤ W0.heap.size) (hx : x < 256) : RA γ (W0.alloc (.cells #[.int .u8 (x : Int)] 5 r)) (.slice (some ⟨W0.heap.size, 0, none⟩) 1 1) [x] := by
  have hk := (Go.MapKept.heap_alloc W0 (.cells #[.int .u8 (x : Int)] 5 r)).1
  generalize W0.alloc (.cells #[.int .u8 (x : Int)] 5 r) = W at hk ⊢
  refine ⟨_, _, rfl, ⟨fun y hy => by rw [List.mem_singleton.1 hy]; exact hx, by simp⟩, fun _ => ⟨_, 0, rfl, (Array.getElem?_eq_some_iff.1 hk).1, .inl (Tag.new h0 hk), fun j y hj => ?_⟩⟩
  have hj0 : j = 0 := by have := (List.getElem?_eq_some_iff.1 hj).1; simp at this; omega
  subst hj0
  simp at hj
  subst hj
  simp [World.cell?, hk]
theorem WS.wr1 {r : Nat × Nat} (h : WS w W db sb s) (hok : s.Ok) (hbd : s.Bd 5000) (p : Int) {x : Nat} (hx : x < 256) :
    Calls Tryz.prog 11 #[.pointer (some ⟨sb, 0, none⟩), .int .i64 p, .slice (some ⟨W.heap.size, 0, none⟩) 1 1] (W.alloc (.cells #[.int .u8 (x : Int)] 5 r)) fun e W' => e = .returned (.int .i64 ((s.write p [x]).1 : Nat)) ∧ Hid (WS w W' db sb (s.write p [x]).2) := by
  obtain ⟨γ, g1, g2, g3, g4⟩ := h
  have hb : Below W.heap.size W (W.alloc (.cells #[.int .u8 (x : Int)] 5 r)) := Below.alloc (Below.refl _ _) (Nat.le_refl _) _
  exact (write_s (g3.below hb g2) hok (bd_up hbd (Ca.In.refl _ 0) (by omega)) (Nat.le_trans g2 hb.size) p (row1 g2 hx)).mono fun e W' ⟨h1, h2⟩ => ⟨h1, Lib.hid (WS.act (W := W.alloc (.cells #[.int .u8 (x : Int)] 5 r)) g1 (Nat.le_trans g2 hb.size) (g4.trans (hb.mono g4.size)) h2.out.1 h2.out.2)⟩
theorem WS.cm1 {r : Nat × Nat} (h : WS w W db sb s) (hok : s.Ok) (hbd : s.Bd 5000) (hN : 2 ≤ s.c.d.N ∧ s.c.d.N ≤ 4096) {x : Nat} (hx : x < 256) :
    Calls Tryz.prog 12 #[.pointer (some ⟨sb, 0, none⟩), .slice (some ⟨W.heap.size, 0, none⟩) 1 1] (W.alloc (.cells #[.int .u8 (x : Int)] 5 r)) fun e W' => e = .returned (.int .i64 ((s.commit [x]).1 : Nat)) ∧ Hid (WS w W' db sb (s.commit [x]).2) := by
  obtain ⟨γ, g1, g2, g3, g4⟩ := h
  have hb : Below W.heap.size W (W.alloc (.cells #[.int .u8 (x : Int)] 5 r)) := Below.alloc (Below.refl _ _) (Nat.le_refl _) _
  exact (commit_s (g3.below hb g2) hok hbd (Nat.le_trans g2 hb.size) hN (row1 g2 hx) (by simp)).mono fun e W' ⟨h1, h2⟩ => ⟨h1, Lib.hid (WS.act (W := W.alloc (.cells #[.int .u8 (x : Int)] 5 r)) g1 (Nat.le_trans g2 hb.size) (g4.trans (hb.mono g4.size)) h2.out.1 h2.out.2)⟩
theorem WS.cm0 (h : WS w W db sb s) (hok : s.Ok) (hbd : s.Bd 5000) (hN : 2 ≤ s.c.d.N ∧ s.c.d.N ≤ 4096) :
    Calls Tryz.prog 12 #[.pointer (some ⟨sb, 0, none⟩), .slice none 0 0] W fun e W' => e = .returned (.int .i64 ((s.commit []).1 : Nat)) ∧ Hid (WS w W' db sb (s.commit []).2) := by
  obtain ⟨γ, g1, g2, g3, g4⟩ := h
  exact (commit_s g3 hok hbd g2 hN (RA.nil _ _ _ _) (by decide)).mono fun e W' ⟨h1, h2⟩ => ⟨h1, Lib.hid (WS.act g1 g2 g4 h2.out.1 h2.out.2)⟩
theorem WS.room (h : WS w W db sb s) : Calls Tryz.prog 10 #[.pointer (some ⟨sb, 0, none⟩)] W fun e W' => e = .returned (.int .i64 (s.room : Nat)) ∧ Hid (WS w W' db sb s) := by
  obtain ⟨γ, g1, g2, g3, g4⟩ := h
  exact (room_s g3 g2).mono fun e W' ⟨h1, h2⟩ => ⟨h1, Lib.hid (WS.act g1 g2 g4 h2.out.1 h2.out.2)⟩
theorem WS.epoch (h : WS w W db sb s) : Calls Tryz.prog 29 #[.pointer (some ⟨sb, 0, none⟩)] W fun e W' => e = .returned (.int .u32 (s.r.ep : Nat)) ∧ W' = W := by
  obtain ⟨γ, g1, g2, g3, g4⟩ := h
  exact epoch_s g3
theorem WS.abort (h : WS w W db sb s) (hok : s.Ok) : Calls Tryz.prog 66 #[.pointer (some ⟨sb, 0, none⟩)] W fun e W' => e = .returned (.int .i64 (s.abort.1 : Nat)) ∧ Hid (WS w W' db sb s.abort.2) := by
  obtain ⟨γ, g1, g2, g3, g4⟩ := h
  exact (abort_s g3 hok g2).mono fun e W' ⟨h1, h2⟩ => ⟨h1, Lib.hid (WS.act g1 g2 g4 h2.out.1 h2.out.2)⟩
theorem WS.drop (h : WS w W db sb s) (p : Int) : Calls Tryz.prog 14 #[.pointer (some ⟨sb, 0, none⟩), .int .i64 p] W fun e W' => e = .returned (.int .i64 ((s.drop p).1 : Nat)) ∧ Hid (WS w W' db sb (s.drop p).2) := by
  obtain ⟨γ, g1, g2, g3, g4⟩ := h
  exact (drop_s g3 g2 p).mono fun e W' ⟨h1, h2⟩ => ⟨h1, Lib.hid (WS.act g1 g2 g4 h2.out.1 h2.out.2)⟩
theorem WS.pages (h : WS w W db sb s) : Calls Tryz.prog 15 #[.pointer (some ⟨sb, 0, none⟩)] W fun e W' => ∃ a c, e = .returned (.slice a (pgs s.own).length c) ∧ Hid (WS w W' db sb s) := by
  obtain ⟨γ, g1, g2, g3, g4⟩ := h
  refine (pages_s g3 g2).mono ?_
  rintro e W' ⟨⟨v, rfl, hn⟩, hb⟩
  obtain ⟨a, c, rfl⟩ := hn.shape
  exact ⟨a, c, rfl, Lib.hid (WS.below ⟨γ, g1, g2, g3, g4⟩ hb)⟩
theorem WS.meta (h : WS w W db sb s) : Calls Tryz.prog 27 #[.pointer (some ⟨sb, 0, none⟩)] W fun e W' => ∃ v, e = .returned v ∧ Hid (WS w W' db sb s ∧ RV W' v s.r.mt) := by
  obtain ⟨γ, g1, g2, g3, g4⟩ := h
  refine (meta_s g3).mono ?_
  rintro e W' ⟨⟨v, rfl, hn⟩, hb⟩
  exact ⟨v, rfl, Lib.hid ⟨WS.below ⟨γ, g1, g2, g3, g4⟩ hb, hn.rv⟩⟩
theorem WS.read (h : WS w W db sb s) (hok : s.Ok) (hbd : s.Bd 5000) (p : Int) : Calls Tryz.prog 32 #[.pointer (some ⟨sb, 0, none⟩), .int .i64 p] W fun e W' => ∃ a n c, e = .returned (.tuple #[.slice a n c, .int .i64 ((s.read p).1 : Nat)]) ∧ Hid (WS w W' db sb (s.read p).2.2 ∧ RV W' (.slice a n c) (s.read p).2.1) := by
  obtain ⟨γ, g1, g2, g3, g4⟩ := h
  refine (read_s g3 hok (bd_up hbd (Ca.In.refl _ 0) (by omega)) g2 p).mono ?_
  rintro e W' ⟨a, n, c, rfl, hq⟩
  obtain ⟨W1, h1, h2, h3, h4⟩ := hq.out
  exact ⟨a, n, c, rfl, Lib.hid ⟨(WS.act g1 g2 g4 h1 h2).below h3, h4.rv⟩⟩
end
theorem WS.open2 {w W : World} {db sb : Nat} (h : WS w W db sb wk5) : Calls Tryz.prog 19 #[.pointer (some ⟨db, 0, none⟩), .int .i64 2] W fun e W' => ∃ tb, e = .returned (.tuple #[.pointer (some ⟨tb, 0, none⟩), .int .i64 0]) ∧ Hid (WS w W' db tb wk6) := by
  obtain ⟨γ, g1, g2, g3, g4⟩ := h
  obtain ⟨cb, rb, ob, kb, HU, HK⟩ := g3
  obtain ⟨o1, ⟨ra, o2, o3⟩, o4⟩ := wk_open
  have hdk := HU.ca.dk'
  refine (open_c (F := 2) (r := wk5.r.bare) (ra := ra) (r' := wk5.r) hdk g2 wk_in.2.2.2.2.1.c.d (by rw [wk_d.2.1]; decide) (by rw [wk_in.2.2.2.2.2.2.2.2.2.2.1]; decide) wk_d.1 (by decide) (fun _ _ => wk_f.2.1) (fun _ _ => wk_f.2.2) o1 o2 (Nat.le_of_lt o3) (by show wk5.r.mt.length ≤ 200; rw [wk_d.2.2.2]; decide) o4 rfl).mono ?_
  rintro e W' ⟨tb, rfl, hq⟩
  exact ⟨tb, rfl, Lib.hid ⟨γ, g1, Nat.le_trans g2 hq.out.2.1.size, hq.out.1, g4.trans (g1 ▸ hq.out.2.1.be)⟩⟩
end Go.Tb
set_option maxHeartbeats 600000
namespace Go.Tb
open Go Go.RowKit Go.Proofs Go.Maps Go.Sp
theorem cv37 (x : Int) (w : World) : (convert 37 37 (.slice (some ⟨w.heap.size, 0, none⟩) 1 1)).run Tryz.prog (w.alloc (.cells #[.int .u8 x] 5)) = .ok (.slice (some ⟨w.heap.size, 0, none⟩) 1 1) (w.alloc (.cells #[.int .u8 x] 5 (1, 2))) :=
  Lib.run_convert_bytes_const (P := Tryz.prog) w 37 5 #[.int .u8 x] 1 1 Tryz.underlying37 Tryz.underlying5
theorem works_ok (w : World) : Calls Tryz.prog 13 #[] w fun e w' => e = .returned (.bool true) ∧ Hid (Below w.heap.size w w') := by
  have DN := dnew_ok (w := w) 32 (by decide)
  have FM := Lib.hid (fun (W : World) (h : ∃ v us, NewJ w W 32 v us) => show Calls Tryz.prog 50 #[.pointer (some ⟨w.heap.size, 0, none⟩)] W (fun e w' => e = .returned (.int .i64 0) ∧ Hid (∃ γ' : Gh, γ'.B = w.heap.size ∧ γ'.lim ≤ w'.heap.size ∧ DkV γ' w' w.heap.size (fmtDk 32) ∧ Below w.heap.size w w')) from by
    obtain ⟨v, us, h⟩ := h
    exact (Go.Tb.fmt_ok (h.dk (by decide)) h.be.size (by decide)).mono fun e w' ⟨h1, γ', g1, g2, g3, g4⟩ => ⟨h1, Lib.hid ⟨γ', g1, g2, g3, h.be.trans g4⟩⟩)
  have OP := Lib.hid (fun (W : World) (h : ∃ γ' : Gh, γ'.B = w.heap.size ∧ γ'.lim ≤ W.heap.size ∧ DkV γ' W w.heap.size (fmtDk 32) ∧ Below w.heap.size w W) => show Calls Tryz.prog 19 #[.pointer (some ⟨w.heap.size, 0, none⟩), .int .i64 4] W (fun e w' => ∃ sb, e = .returned (.tuple #[.pointer (some ⟨sb, 0, none⟩), .int .i64 0]) ∧ Hid (WS w w' w.heap.size sb wk0)) from by
    obtain ⟨γ', g1, g2, g3, g4⟩ := h
    have hr0 := rd_fmt0 32 (by decide) 1
    have hr1 := rd_fmt1 32 (by decide)
    refine (open_b (F := 4) (r := root0) (ra := root0) (r' := root0) g3 g2 (Go.Sp.fmt_ok 32) (by show (0 : Nat) < 2000000; decide) (by decide) rfl (by decide) (fun h => by rw [hr0] at h; cases h) (fun _ _ => by rw [hr1, rootOf0]; decide) (cand_fmt 32 (by decide)).1 (cand_fmt 32 (by decide)).2 (by decide) (whole_fmt 32) rfl).mono fun e w' ⟨sb, h1, h2⟩ => ⟨sb, h1, Lib.hid ⟨γ', g1, Nat.le_trans g2 h2.out.2.1.size, h2.out.1, g4.trans (g1 ▸ h2.out.2.1.be)⟩⟩)
  obtain ⟨o1, o2, o3, o4, o5, b1, b2, b3, b4, b5, n5, n2⟩ := wk_in
  obtain ⟨a1, a2, a3, a4⟩ := wk_a
  have bb := wk_b
  obtain ⟨c1, c2⟩ := wk_c
  obtain ⟨e1, e2, e3⟩ := wk_e
  have d3 := wk_d.2.2
  have o0 : wk0.Ok := sp0_ok 32 4 (by decide) (by decide)
  have b0 : wk0.Bd 5000 := ⟨by decide, by decide⟩
  have O6 := wk6_ok
  have E0 := Lib.hid (fun (W : World) (sb : Nat) (h : WS w W w.heap.size sb wk0) => h.epoch)
  have R0 := Lib.hid (fun (W : World) (sb : Nat) (h : WS w W w.heap.size sb wk0) => h.room)
  have W1 := Lib.hid (fun (W : World) (sb : Nat) (h : WS w W w.heap.size sb wk0) => show Calls Tryz.prog 11 #[.pointer (some ⟨sb, 0, none⟩), .int .i64 7, .slice (some ⟨W.heap.size, 0, none⟩) 1 1] (W.alloc (.cells #[.int .u8 97] 5 (1, 2))) (fun e W' => e = .returned (.int .i64 ((wk0.write 7 [97]).1 : Nat)) ∧ Hid (WS w W' w.heap.size sb wk1)) from h.wr1 (r := (1, 2)) o0 b0 7 (x := 97) (by decide))
  have W2 := Lib.hid (fun (W : World) (sb : Nat) (h : WS w W w.heap.size sb wk1) => show Calls Tryz.prog 11 #[.pointer (some ⟨sb, 0, none⟩), .int .i64 7, .slice (some ⟨W.heap.size, 0, none⟩) 1 1] (W.alloc (.cells #[.int .u8 98] 5 (1, 2))) (fun e W' => e = .returned (.int .i64 ((wk1.write 7 [98]).1 : Nat)) ∧ Hid (WS w W' w.heap.size sb wk2)) from h.wr1 (r := (1, 2)) o1 b1 7 (x := 98) (by decide))
  have R2 := Lib.hid (fun (W : World) (sb : Nat) (h : WS w W w.heap.size sb wk2) => h.room)
  have C3 := Lib.hid (fun (W : World) (sb : Nat) (h : WS w W w.heap.size sb wk2) => show Calls Tryz.prog 12 #[.pointer (some ⟨sb, 0, none⟩), .slice (some ⟨W.heap.size, 0, none⟩) 1 1] (W.alloc (.cells #[.int .u8 109] 5 (1, 2))) (fun e W' => e = .returned (.int .i64 ((wk2.commit [109]).1 : Nat)) ∧ Hid (WS w W' w.heap.size sb wk3)) from h.cm1 (r := (1, 2)) o2 b2 (by rw [n2]; decide) (x := 109) (by decide))
  have W4 := Lib.hid (fun (W : World) (sb : Nat) (h : WS w W w.heap.size sb wk3) => show Calls Tryz.prog 11 #[.pointer (some ⟨sb, 0, none⟩), .int .i64 7, .slice (some ⟨W.heap.size, 0, none⟩) 1 1] (W.alloc (.cells #[.int .u8 99] 5 (1, 2))) (fun e W' => e = .returned (.int .i64 ((wk3.write 7 [99]).1 : Nat)) ∧ Hid (WS w W' w.heap.size sb wk4)) from h.wr1 (r := (1, 2)) o3 b3 7 (x := 99) (by decide))
  have A5 := Lib.hid (fun (W : World) (sb : Nat) (h : WS w W w.heap.size sb wk4) => show Calls Tryz.prog 66 #[.pointer (some ⟨sb, 0, none⟩)] W (fun e W' => e = .returned (.int .i64 (wk4.abort.1 : Nat)) ∧ Hid (WS w W' w.heap.size sb wk5)) from h.abort o4)
  have O2 := Lib.hid (fun (W : World) (sb : Nat) (h : WS w W w.heap.size sb wk5) => h.open2)
  have P6 := Lib.hid (fun (W : World) (sb : Nat) (h : WS w W w.heap.size sb wk6) => h.pages)
  have M6 := Lib.hid (fun (W : World) (sb : Nat) (h : WS w W w.heap.size sb wk6) => h.meta)
  have E6 := Lib.hid (fun (W : World) (sb : Nat) (h : WS w W w.heap.size sb wk6) => h.epoch)
  have D6 := Lib.hid (fun (W : World) (sb : Nat) (h : WS w W w.heap.size sb wk6) => show Calls Tryz.prog 32 #[.pointer (some ⟨sb, 0, none⟩), .int .i64 7] W (fun e W' => ∃ a n c, e = .returned (.tuple #[.slice a n c, .int .i64 ((wk6.read 7).1 : Nat)]) ∧ Hid (RV W' (.slice a n c) (wk6.read 7).2.1 ∧ Below w.heap.size w W')) from (h.read O6.1 O6.2 7).mono fun e W' ⟨a, n, c, h1, h2⟩ => ⟨a, n, c, h1, Lib.hid ⟨h2.out.2, h2.out.1.be⟩⟩)
  rw [show wk0.r.ep = 1 from rfl] at E0
  rw [a4] at R0
  rw [a1] at W1
  rw [a2] at W2
  rw [a3] at R2
  rw [bb] at C3
  rw [c1] at W4
  rw [c2] at A5
  rw [e1] at P6
  rw [show wk6.r.mt = [109] from d3.2] at M6
  rw [show wk6.r.ep = 2 from d3.1] at E6
  rw [e2, e3] at D6
  have SM := Lib.hid (fun (W : World) (v u : Value) (a : Bs) (ha : RV W v a) (hb : RV W u a) => same_ok ha hb)
  clear o1 o2 o3 o4 o5 b1 b2 b3 b4 b5 n5 n2 a1 a2 a3 a4 bb c1 c2 e1 e2 e3 d3 o0 b0 O6
  generalize wk0 = s0 at E0 R0 W1 OP
  generalize wk1 = s1 at W1 W2
  generalize wk2 = s2 at W2 R2 C3
  generalize wk3 = s3 at C3 W4
  generalize wk4 = s4 at W4 A5
  generalize wk5 = s5 at A5 O2
  generalize wk6 = s6 at O2 P6 M6 E6 D6
  have CV := cv37
  go_enter Tryz.func13, Tryz.ntmps13
  go_upto_region 7 with (first
    | (go_at_call 49; refine DN.mono ?_; rintro e w6 ⟨rfl, hq6⟩; have Q6 := Lib.hid hq6; clear hq6)
    | (go_at_call 50; refine (FM.out _ Q6.out).mono ?_; rintro e w7 ⟨rfl, hq7⟩)
    | (go_at_call 19; refine (OP.out _ hq7.out).mono ?_; rintro e w8 ⟨sb, rfl, hq8⟩)
    | (go_at_call 29; refine (E0.out _ _ hq8.out).mono ?_; rintro e w9 ⟨rfl, rfl⟩; clear E0)
    | (go_at_call 10; refine (R0.out _ _ hq8.out).mono ?_; rintro e w10 ⟨rfl, hq10⟩; clear R0)
    | (go_at_call 11; refine (W1.out _ _ hq10.out).mono ?_; rintro e w11 ⟨rfl, hq11⟩; clear W1)
    | (go_at_call 11; refine (W2.out _ _ hq11.out).mono ?_; rintro e w12 ⟨rfl, hq12⟩; clear W2)
    | (go_at_call 10; refine (R2.out _ _ hq12.out).mono ?_; rintro e w13 ⟨rfl, hq13⟩; clear R2)
    | (go_at_call 12; refine (C3.out _ _ hq13.out).mono ?_; rintro e w14 ⟨rfl, hq14⟩; clear C3)
    | (go_at_call 11; refine (W4.out _ _ hq14.out).mono ?_; rintro e w15 ⟨rfl, hq15⟩; clear W4)
    | (go_at_call 66; refine (A5.out _ _ hq15.out).mono ?_; rintro e w16 ⟨rfl, hq16⟩; clear A5))
  clear DN FM OP
  go_upto_region 10 with (first
    | (go_at_call 19; refine (O2.out _ _ hq16.out).mono ?_; rintro e w17 ⟨tb, rfl, hq17⟩; clear O2)
    | (go_at_call 15; refine (P6.out _ _ hq17.out).mono ?_; rintro e w18 ⟨a18, c18, rfl, hq18⟩; clear P6)
    | (go_at_call 27; refine (M6.out _ _ hq18.out).mono ?_; rintro e w19 ⟨v19, rfl, hq19⟩; obtain ⟨a19, c19, hv19⟩ := hq19.out.2.len; subst hv19)
    | (go_at_call 26; refine (SM.out _ _ _ [109] (hq19.out.2.keep (Below.alloc (Below.refl _ _) (Nat.le_refl _) _)) (row1 (r := (1, 2)) (γ := gh0 w19.heap.size) (Nat.le_refl _) (by decide)).rv).mono ?_; rintro e w20 ⟨rfl, rfl⟩)
    | (go_at_call 29; refine (E6.out _ _ (hq19.out.1.below (Below.alloc (Below.refl _ _) (Nat.le_refl _) _))).mono ?_; rintro e w21 ⟨rfl, rfl⟩))
  have W21 : Hid (WS w (w19.alloc (.cells #[.int .u8 109] 5 (1, 2))) w.heap.size tb s6) := Lib.hid (hq19.out.1.below (Below.alloc (Below.refl _ _) (Nat.le_refl _) _))
  have RD := D6.out _ _ W21.out
  clear M6 E6 D6 hq16 hq17 hq18 hq19
  go_wp2_with (first
    | (go_at_call 32; refine RD.mono ?_; rintro e w22 ⟨a22, n22, c22, rfl, hq22⟩)
    | (go_at_call 26; refine (SM.out _ _ _ [98] (hq22.out.1.keep (Below.alloc (Below.refl _ _) (Nat.le_refl _) _)) (row1 (r := (1, 2)) (γ := gh0 w22.heap.size) (Nat.le_refl _) (by decide)).rv).mono ?_; rintro e w23 ⟨rfl, rfl⟩))
  go_ret
  exact ⟨rfl, Lib.hid (hq22.out.2.trans ((Below.alloc (Below.refl _ _) (Nat.le_refl _) _ : Below w22.heap.size w22 _).mono hq22.out.2.size))⟩
end Go.Tb
set_option maxHeartbeats 800000
namespace Go.Tb
open Go Go.RowKit Go.Proofs Go.Maps Go.Sp
def WT (w W : World) (db sb wb : Nat) (s : Sp) : Prop := ∃ γ : Gh, (γ.B = w.heap.size ∧ γ.lim ≤ W.heap.size ∧ Below w.heap.size w W) ∧ SpV γ W sb db s ∧ Tag γ W wb 33 ∧ W.cell? ⟨wb, 1, none⟩ = some (.pointer (some ⟨sb, 0, none⟩))
section
variable {w W : World} {db sb wb : Nat} {s : Sp}
theorem WT.cell (h : WT w W db sb wb s) : W.cell? ⟨wb, 1, none⟩ = some (.pointer (some ⟨sb, 0, none⟩)) := by obtain ⟨γ, _, _, _, h⟩ := h; exact h
theorem WT.be (h : WT w W db sb wb s) : Below w.heap.size w W := by obtain ⟨γ, h, _⟩ := h; exact h.2.2
theorem WT.step {γ : Gh} {W' : World} {s' : Sp} (g : γ.B = w.heap.size ∧ γ.lim ≤ W.heap.size ∧ Below w.heap.size w W) (ht : Tag γ W wb 33) (hc : W.cell? ⟨wb, 1, none⟩ = some (.pointer (some ⟨sb, 0, none⟩))) (h : SpV γ W' sb db s') (hs : Step γ spS W W') : WT w W' db sb wb s' :=
  ⟨γ, ⟨g.1, Nat.le_trans g.2.1 hs.size, g.2.2.trans (g.1 ▸ hs.be)⟩, h, hs.tg _ _ (by decide) (cell_lt' hc) ht, cell_keep hs ht rfl hc⟩
theorem WT.below {W' : World} (h : WT w W db sb wb s) (hb : Below W.heap.size W W') : WT w W' db sb wb s := by
  obtain ⟨γ, g, g3, ht, hc⟩ := h
  exact WT.step g ht hc (g3.below hb g.2.1) (Step.below hb g.2.1)
theorem WT.wr1 {r : Nat × Nat} (h : WT w W db sb wb s) (hok : s.Ok) (hbd : s.Bd 0) (p : Int) {x : Nat} (hx : x < 256) :
    Calls Tryz.prog 11 #[.pointer (some ⟨sb, 0, none⟩), .int .i64 p, .slice (some ⟨W.heap.size, 0, none⟩) 1 1] (W.alloc (.cells #[.int .u8 (x : Int)] 5 r)) fun e W' => e = .returned (.int .i64 ((s.write p [x]).1 : Nat)) ∧ Hid (WT w W' db sb wb (s.write p [x]).2) := by
  have hb : Below W.heap.size W (W.alloc (.cells #[.int .u8 (x : Int)] 5 r)) := Below.alloc (Below.refl _ _) (Nat.le_refl _) _
  have h0 : ∃ γ : Gh, γ.lim ≤ W.heap.size ∧ (γ.B = w.heap.size ∧ γ.lim ≤ (W.alloc (.cells #[.int .u8 (x : Int)] 5 r)).heap.size ∧ Below w.heap.size w (W.alloc (.cells #[.int .u8 (x : Int)] 5 r))) ∧ SpV γ (W.alloc (.cells #[.int .u8 (x : Int)] 5 r)) sb db s ∧ Tag γ (W.alloc (.cells #[.int .u8 (x : Int)] 5 r)) wb 33 ∧ (W.alloc (.cells #[.int .u8 (x : Int)] 5 r)).cell? ⟨wb, 1, none⟩ = some (.pointer (some ⟨sb, 0, none⟩)) := by
    obtain ⟨γ, g, g3, ht, hc⟩ := h
    have hs : Step γ spS W _ := Step.below hb g.2.1
    exact ⟨γ, g.2.1, ⟨g.1, Nat.le_trans g.2.1 hb.size, g.2.2.trans (g.1 ▸ hs.be)⟩, g3.below hb g.2.1, hs.tg _ _ (by decide) (cell_lt' hc) ht, cell_keep hs ht rfl hc⟩
  obtain ⟨γ, g2, g, g3, ht, hc⟩ := h0
  exact (write_s g3 hok hbd g.2.1 p (row1 g2 hx)).mono fun e W' ⟨h1, h2⟩ => ⟨h1, Lib.hid (WT.step g ht hc h2.out.1 h2.out.2)⟩
theorem WT.cm1 {r : Nat × Nat} (h : WT w W db sb wb s) (hok : s.Ok) (hbd : s.Bd 5000) (hN : 2 ≤ s.c.d.N ∧ s.c.d.N ≤ 4096) {x : Nat} (hx : x < 256) :
    Calls Tryz.prog 12 #[.pointer (some ⟨sb, 0, none⟩), .slice (some ⟨W.heap.size, 0, none⟩) 1 1] (W.alloc (.cells #[.int .u8 (x : Int)] 5 r)) fun e W' => e = .returned (.int .i64 ((s.commit [x]).1 : Nat)) ∧ Hid (WT w W' db sb wb (s.commit [x]).2) := by
  have hb : Below W.heap.size W (W.alloc (.cells #[.int .u8 (x : Int)] 5 r)) := Below.alloc (Below.refl _ _) (Nat.le_refl _) _
  have h0 : ∃ γ : Gh, γ.lim ≤ W.heap.size ∧ (γ.B = w.heap.size ∧ γ.lim ≤ (W.alloc (.cells #[.int .u8 (x : Int)] 5 r)).heap.size ∧ Below w.heap.size w (W.alloc (.cells #[.int .u8 (x : Int)] 5 r))) ∧ SpV γ (W.alloc (.cells #[.int .u8 (x : Int)] 5 r)) sb db s ∧ Tag γ (W.alloc (.cells #[.int .u8 (x : Int)] 5 r)) wb 33 ∧ (W.alloc (.cells #[.int .u8 (x : Int)] 5 r)).cell? ⟨wb, 1, none⟩ = some (.pointer (some ⟨sb, 0, none⟩)) := by
    obtain ⟨γ, g, g3, ht, hc⟩ := h
    have hs : Step γ spS W _ := Step.below hb g.2.1
    exact ⟨γ, g.2.1, ⟨g.1, Nat.le_trans g.2.1 hb.size, g.2.2.trans (g.1 ▸ hs.be)⟩, g3.below hb g.2.1, hs.tg _ _ (by decide) (cell_lt' hc) ht, cell_keep hs ht rfl hc⟩
  obtain ⟨γ, g2, g, g3, ht, hc⟩ := h0
  exact (commit_s g3 hok hbd g.2.1 hN (row1 g2 hx) (by simp)).mono fun e W' ⟨h1, h2⟩ => ⟨h1, Lib.hid (WT.step g ht hc h2.out.1 h2.out.2)⟩
theorem WT.cm0 (h : WT w W db sb wb s) (hok : s.Ok) (hbd : s.Bd 5000) (hN : 2 ≤ s.c.d.N ∧ s.c.d.N ≤ 4096) :
    Calls Tryz.prog 12 #[.pointer (some ⟨sb, 0, none⟩), .slice none 0 0] W fun e W' => e = .returned (.int .i64 ((s.commit []).1 : Nat)) ∧ Hid (WT w W' db sb wb (s.commit []).2) := by
  obtain ⟨γ, g, g3, ht, hc⟩ := h
  exact (commit_s g3 hok hbd g.2.1 hN (RA.nil _ _ _ _) (by decide)).mono fun e W' ⟨h1, h2⟩ => ⟨h1, Lib.hid (WT.step g ht hc h2.out.1 h2.out.2)⟩
theorem WT.room (h : WT w W db sb wb s) : Calls Tryz.prog 10 #[.pointer (some ⟨sb, 0, none⟩)] W fun e W' => e = .returned (.int .i64 (s.room : Nat)) ∧ Hid (WT w W' db sb wb s) := by
  obtain ⟨γ, g, g3, ht, hc⟩ := h
  exact (room_s g3 g.2.1).mono fun e W' ⟨h1, h2⟩ => ⟨h1, Lib.hid (WT.step g ht hc h2.out.1 h2.out.2)⟩
theorem WT.drop (h : WT w W db sb wb s) (p : Int) : Calls Tryz.prog 14 #[.pointer (some ⟨sb, 0, none⟩), .int .i64 p] W fun e W' => e = .returned (.int .i64 ((s.drop p).1 : Nat)) ∧ Hid (WT w W' db sb wb (s.drop p).2) := by
  obtain ⟨γ, g, g3, ht, hc⟩ := h
  exact (drop_s g3 g.2.1 p).mono fun e W' ⟨h1, h2⟩ => ⟨h1, Lib.hid (WT.step g ht hc h2.out.1 h2.out.2)⟩
theorem WT.pages (h : WT w W db sb wb s) : Calls Tryz.prog 15 #[.pointer (some ⟨sb, 0, none⟩)] W fun e W' => ∃ a c, e = .returned (.slice a (pgs s.own).length c) ∧ Hid (WT w W' db sb wb s) := by
  obtain ⟨γ, g, g3, ht, hc⟩ := h
  refine (pages_s g3 g.2.1).mono ?_
  rintro e W' ⟨⟨v, rfl, hn⟩, hb⟩
  obtain ⟨a, c, rfl⟩ := hn.shape
  exact ⟨a, c, rfl, Lib.hid (WT.below ⟨γ, g, g3, ht, hc⟩ hb)⟩
end
theorem WT.start {w : World} {N F : Nat} (hN : 16 ≤ N ∧ N ≤ 4096) (hF : 2 ≤ F ∧ F ≤ 1024) :
    Calls Tryz.prog 9 #[.int .i64 (N : Int), .int .i64 (F : Int)] w fun e w' => ∃ wb, e = .returned (.pointer (some ⟨wb, 0, none⟩)) ∧ Hid (∃ db sb, WT w w' db sb wb (sp0 N F)) := by
  refine (start_ok hN hF).mono ?_
  rintro e w' ⟨wb, rfl, hq⟩
  obtain ⟨γ, db, sb, g1, g2, g3, g4, g5, g6⟩ := hq.out
  exact ⟨wb, rfl, Lib.hid ⟨db, sb, γ, ⟨g1, g2, g6⟩, g3, Tag.new g5 g4, by simp [World.cell?, g4, W33]⟩⟩
theorem WT.works {w W : World} {db sb wb : Nat} {s : Sp} (h : WT w W db sb wb s) : Calls Tryz.prog 13 #[] W fun e W' => e = .returned (.bool true) ∧ Hid (Below w.heap.size w W') :=
  (works_ok W).mono fun e W' ⟨h1, h2⟩ => ⟨h1, Lib.hid (h.be.trans (h2.out.mono h.be.size))⟩
end Go.Tb
namespace Go.Tb
open Go Go.RowKit Go.Proofs Go.Maps Go.Sp
theorem drops_ok (w : World) (a b : Nat) (ha : a < 256) (hb : b < 256) :
    Calls Tryz.prog 4 #[.int .u8 (a : Int), .int .u8 (b : Int)] w fun e w' => e = .returned (.bool true) ∧ Hid (Below w.heap.size w w') := by
  obtain ⟨N, hN⟩ : ∃ N, 32 + a % 109 = N := ⟨_, rfl⟩
  have hN2 : 32 ≤ N ∧ N ≤ 140 := by omega
  have ST := WT.start (w := w) (N := N) (F := 5) (by omega) (by decide)
  have f1 : 32 + (a : Int) % 109 = (N : Int) := by omega
  have hroom : (sp0 N 5).room = N - 20 := by unfold Sp.room; rw [rooms_sp0 N 5 (by omega)]; omega
  obtain ⟨R, hR⟩ : ∃ R, N - 20 = R := ⟨_, rfl⟩
  rw [hR] at hroom
  obtain ⟨n, hn⟩ : ∃ n, b % (R + 1) = n := ⟨_, rfl⟩
  have f2 : (b : Int) % ((R : Int) + 1) = (n : Int) := by rw [← hn]; simp
  have hnR : n ≤ R := by have := Nat.mod_lt b (show 0 < R + 1 by omega); omega
  have RM := Lib.hid (fun (W : World) (db sb wb : Nat) (h : WT w W db sb wb (sp0 N 5)) => h.room)
  rw [hroom] at RM
  have D0 := Lib.hid (DrA.start N 5 (by omega) (by decide))
  have f3 : ¬ ((R : Int) + 1) = 0 := by omega
  have f4 : ((R : Int) + 1 == 0) = false := by rw [beq_eq_false_iff_ne]; omega
  have f6 : wrap64 ((R : Int) + 1) = (R : Int) + 1 := wrapS (show R < 2000001 by omega)
  have f5 : ((R : Int) + 1 != 0) = true := by rw [bne_iff_ne]; omega
  generalize sp0 N 5 = s0 at *
  have HNR := Lib.hid (And.intro hN2 (And.intro hR hnR))
  clear hn hN hroom hR
  go_enter Tryz.func4, Tryz.ntmps4
  go_upto_region 7 with (first
    | (go_at_call 9; refine ST.mono ?_; rintro e w6 ⟨wb, rfl, hq6⟩; obtain ⟨db, sb, T6⟩ := hq6.out; have T6 := Lib.hid T6; have c6 := T6.out.cell; have l6 := cell_lt' c6)
    | (go_at_call 10; refine (RM.out _ _ _ _ T6.out).mono ?_; rintro e w7 ⟨rfl, hq7⟩))
  have HI0 : Hid (∃ s, DrA N 5 0 s ∧ WT w w7 db sb wb s) := Lib.hid ⟨_, D0.out, hq7.out⟩
  simp only [f6, f2]
  clear D0 hq7 hq6 T6 RM ST f1 f2 f3 f4 f5 f6 c6 l6
  go_loopw [8] (fun u wr => ∃ k : Nat, u = .int .i64 (k : Int) ∧ k ≤ n ∧ Hid (∃ s, DrA N 5 k s ∧ WT w wr db sb wb s)) (fun u _ => n - (Go.RowKit.intOf u).toNat)
  case atStart => exact ⟨0, rfl, Nat.zero_le _, HI0⟩
  case round =>
    obtain ⟨k, rfl, hk, hI⟩ := hrel
    obtain ⟨s, hD, hT⟩ := hI.out
    by_cases e : k < n
    · have j1 : (k : Int) < (n : Int) := by omega
      have hwr : wrap64 ((k : Int) + 1) = (k : Int) + 1 := wrapS (show k < 2000001 by have := HNR.out; omega)
      have hkN : k < N - 20 := by have := HNR.out; omega
      have hk1 : k < 1024 := by have := HNR.out; omega
      obtain ⟨q1, q2⟩ := hD.next hkN hk1 [1] (by decide)
      have hbd : s.Bd 0 := ⟨by have := hD.clk; omega, by have := hD.P; omega⟩
      have WR := hT.wr1 (r := (0, 0)) hD.al.ok hbd (k : Int) (x := 1) (by decide)
      rw [q1] at WR
      have HQ := Lib.hid q2
      have cw := hT.cell
      have lw := cell_lt' cw
      clear hI hD hT q1 q2 hbd
      go_wp2_with (go_at_call 11; refine WR.mono ?_; rintro e w9 ⟨rfl, hq9⟩)
      exact ⟨⟨k + 1, rfl, by omega, Lib.hid ⟨_, HQ.out, hq9.out⟩⟩, measT e⟩
    · have ek : k = n := by omega
      subst ek
      have j1 : ¬ (k : Int) < (k : Int) := by omega
      obtain ⟨q1, q2⟩ := hD.commit (by have := HNR.out; omega) (by have := HNR.out; omega)
      have hbd : s.Bd 5000 := ⟨by have := hD.clk; have := HNR.out; omega, by have := hD.P; have := HNR.out; omega⟩
      have CM := hT.cm0 hD.al.ok hbd (by have := hD.hN; have := HNR.out; omega)
      rw [q1] at CM
      have HQ := Lib.hid q2
      have cw := hT.cell
      have lw := cell_lt' cw
      clear hI hD hT q1 q2 hbd
      go_upto_region 14 with (go_at_call 12; refine CM.mono ?_; rintro e w10 ⟨rfl, hq10⟩)
      have HI1 : Hid (∃ s, DrB N 5 k 0 s ∧ WT w w10 db sb wb s) := Lib.hid ⟨_, HQ.out, hq10.out⟩
      clear HQ hq10 CM cw lw
      generalize k = n at *
      go_loopw [9] (fun u wr => ∃ k : Nat, u = .int .i64 (k : Int) ∧ k ≤ n ∧ Hid (∃ s, DrB N 5 n k s ∧ WT w wr db sb wb s)) (fun u _ => n - (Go.RowKit.intOf u).toNat)
      case atStart => exact ⟨0, rfl, Nat.zero_le _, HI1⟩
      case round =>
        obtain ⟨k, rfl, hk, hI⟩ := hrel
        obtain ⟨s, hD, hT⟩ := hI.out
        by_cases e : k < n
        · have j1 : (k : Int) < (n : Int) := by omega
          have hwr : wrap64 ((k : Int) + 1) = (k : Int) + 1 := wrapS (show k < 2000001 by have := HNR.out; omega)
          have hk1 : k < 1024 := by have := HNR.out; omega
          obtain ⟨q1, q2, q3⟩ := hD.next e hk1
          have DA := hT.drop (k : Int)
          rw [q1] at DA
          have DB := Lib.hid (fun (W : World) (h : WT w W db sb wb (s.setOwn k 0)) => h.drop (k : Int))
          rw [q2] at DB
          have HQ := Lib.hid q3
          have cw := hT.cell
          have lw := cell_lt' cw
          generalize s.setOwn k 0 = s2 at *
          clear hI hD hT q1 q2 q3
          go_wp2_with (first
            | (go_at_call 14; refine DA.mono ?_; rintro e w9 ⟨rfl, hq9⟩; clear DA; have cw9 := hq9.out.cell; have lw9 := cell_lt' cw9)
            | (go_at_call 14; refine (DB.out _ hq9.out).mono ?_; rintro e w10 ⟨rfl, hq10⟩))
          exact ⟨⟨k + 1, rfl, by omega, Lib.hid ⟨_, HQ.out, hq10.out⟩⟩, measT e⟩
        · have ek : k = n := by omega
          subst ek
          have j1 : ¬ (k : Int) < (k : Int) := by omega
          obtain ⟨q1, q2, q3, q4, q5⟩ := hD.end (by have := HNR.out; omega) [120] (by decide)
          have hbd : s.Bd 5000 := ⟨by have := hD.clk; have := HNR.out; omega, by have := hD.P; have := HNR.out; omega⟩
          have CM := hT.cm1 (r := (1, 2)) hD.al.ok hbd (by have := hD.hN; have := HNR.out; omega) (x := 120) (by decide)
          rw [q1] at CM
          generalize (s.commit [120]).2 = s2 at *
          have PG := Lib.hid (fun (W : World) (h : WT w W db sb wb s2) => h.pages)
          rw [q3] at PG
          obtain ⟨r1, hr1⟩ : ∃ r1, s2.room = r1 := ⟨_, rfl⟩
          have RM := Lib.hid (fun (W : World) (h : WT w W db sb wb s2) => h.room)
          rw [hr1] at RM q4 q5
          have g1 : decide ((r1 : Int) ≤ (R : Int)) = true := by rw [decide_eq_true_iff]; have := HNR.out; omega
          have g2 : decide ((R : Int) - 9 ≤ (r1 : Int)) = true := by rw [decide_eq_true_iff]; have := HNR.out; omega
          have g3 : r1 ≤ R := by have := HNR.out; omega
          have g4 : (R : Int) - 9 ≤ (r1 : Int) := by have := HNR.out; omega
          have g5 : wrap64 ((R : Int) - 9) = (R : Int) - 9 := by have := HNR.out; simp [wrap64]; omega
          have WK := Lib.hid (fun (W : World) (h : WT w W db sb wb s2) => h.works)
          have CV := cv37
          have cw := hT.cell
          have lw := cell_lt' cw
          clear hI hD hT q1 q2 q3 q4 q5 hbd hr1 HI1
          go_wp2_with (first
            | (go_at_call 12; refine CM.mono ?_; rintro e w11 ⟨rfl, hq11⟩; have cw11 := hq11.out.cell; have lw11 := cell_lt' cw11)
            | (go_at_call 15; refine (PG.out _ hq11.out).mono ?_; rintro e w12 ⟨a12, c12, rfl, hq12⟩; have cw12 := hq12.out.cell; have lw12 := cell_lt' cw12)
            | (go_at_call 10; refine (RM.out _ hq12.out).mono ?_; rintro e w13 ⟨rfl, hq13⟩; clear hq12; have cw13 := hq13.out.cell; have lw13 := cell_lt' cw13)
            | (go_at_call 10; refine (RM.out _ hq13.out).mono ?_; rintro e w14 ⟨rfl, hq14⟩; clear RM)
            | (go_at_call 13; refine (WK.out _ hq14.out).mono ?_; rintro e w15 ⟨rfl, hq15⟩))
          go_ret
          exact ⟨rfl, hq15⟩
end Go.Tb
set_option maxHeartbeats 1600000
namespace Go.Proofs.YthejkfnigalniaaGreatDoor
open Go.ChangeShapes Go.WideShapes Go.ChangeAt Go.RowKit Go.Tb
theorem own : ownKnob Tryz.prog.godebug = none := by kernel_rfl
theorem u8_wf {z : Int} (h : (Lit.int .u8 z).wf = true) : ∃ n : Nat, z = n ∧ n < 256 := by
  have : 0 ≤ z ∧ z ≤ 255 := by simpa [Lit.wf, IntKind.min, IntKind.max, IntKind.signed, IntKind.bits] using h
  exact ⟨z.toNat, by omega, by omega⟩
noncomputable def wit (os : Os) : World := World.laidAll Tryz.prog os Rows.shadowDropsRow.laid
theorem wit_os (os : Os) : (wit os).os = os := World.laidAll_os _ _ _
theorem laid_met (os : Os) (args : Array Value) : laidMetH Tryz.prog Rows.shadowDropsRow.laid ((wit os).forCall (fun _ _ => 0) ⟨#[], args, []⟩).memory := by
  rw [MakeChecks.laidMetH_plain _ _ _ (by kernel_rfl)]
  have h : laidMet Tryz.prog Rows.shadowDropsRow.laid (wit os) := laidMet_of_run' 8 (by kernel_rfl) (by kernel_rfl)
  exact h.of_heap (by simp [World.memory, World.forCall, Input.heap])
theorem shadowDrops_lifted (os : Os) (started : os.Started) (H : Type) (enc : TypeId × Value → H) :
    ReturnsInHanded {} Tryz.checked os 4 .any (fun w args => (Rows.shadowDropsSpec.pre enc Tryz.prog Tryz.f4 Rows.shadowDropsRow.domain false w args ∧ laidMetH Tryz.prog Rows.shadowDropsRow.laid w) ∧ sizedMet enc Tryz.prog Tryz.f4 (OpenSpec.ofChange Rows.shadowDropsSpec) false w args)
      (Rows.shadowDropsSpec.post enc Tryz.prog Tryz.f4 false true false false) := by
  refine returnsInHanded_of_change_and (C := Tryz.checked) (X := fun w _ => laidMetH Tryz.prog Rows.shadowDropsRow.laid w) (fun _ _ _ hh h => h.of_heap hh) own started (by kernel_rfl) Tryz.func4
    (ChangeSpec.witness_shaped (enc := enc) (C := Tryz.checked) (os := os) (X := fun w _ => laidMetH Tryz.prog Rows.shadowDropsRow.laid w) false (wit os) #[.int .u8 0, .int .u8 0] 8 (wit_os os)
      (World.shaped_of_ZipB (by kernel_rfl) (by kernel_rfl)) (by kernel_rfl) (by kernel_rfl) (by kernel_rfl) (laid_met os _)) ?_
  intro W base args ds gs before hval0 hW hc _ hL _
  have hval : ∀ (j : Nat) t v, Tryz.f4.params[j]? = some t → args[j]? = some v → Value.okWide Tryz.prog W .any base t v := hval0
  have hW' := hW
  obtain ⟨p, q, hA0, hV, rfl, _, _⟩ := hW
  have hA : DataW.TrodAll enc Tryz.prog W 0 (fun _ => true) true Tryz.f4.params.toList args.toList ds p := hA0
  rw [Tryz.params4] at hA hval
  obtain ⟨v0, vs0, d0, ds0, p0, q0, hargs, rfl, rfl, h0, r0⟩ := trodAll_cons hA
  obtain ⟨v1, vs1, d1, ds1, p1, q1, ha1, rfl, rfl, h1, r1⟩ := trodAll_cons r0
  obtain ⟨rfl, rfl, rfl⟩ := trodAll_nil r1
  subst ha1
  obtain rfl : args = #[v0, v1] := by cases args; simp_all
  obtain ⟨x0, rfl, rfl, rfl, w0⟩ := open_int Tryz.underlying5 (hval 0 5 v0 rfl rfl) h0
  obtain ⟨x1, rfl, rfl, rfl, w1⟩ := open_int Tryz.underlying5 (hval 1 5 v1 rfl rfl) h1
  obtain ⟨rfl, rfl⟩ := trodVars_none hV
  simp only [List.append_nil, List.nil_append] at hW'
  obtain ⟨a, rfl, hl0⟩ := u8_wf w0
  obtain ⟨b, rfl, hl1⟩ := u8_wf w1
  refine (drops_ok W a b hl0 hl1).mono fun e W' ⟨he, hb⟩ => ?_
  subst he
  exact ⟨_, rfl, [.lit (.int .u8 (a : Int)), .lit (.int .u8 (b : Int))], [], _, [], _, [], hW', trodAll_mk1 (shut_bool Tryz.underlying4 _), (trodAll_cons_mk (shut_int Tryz.underlying5 w0) (trodAll_cons_mk (shut_int Tryz.underlying5 w1) trodAll_mk0)), rfl, hb.out.frame _, fun h => by cases h⟩
theorem shadowDrops_row : Rows.ShadowDropsSaid :=
  OpenClaim.holds_of_wide 4 Tryz.f4 rfl rfl rfl rfl rfl rfl rfl ⟨rfl, rfl, rfl, rfl, rfl⟩ rfl rfl rfl rfl rfl (by kernel_rfl) Tryz.func4 (by kernel_rfl)
    (of_decide_eq_true (by kernel_rfl)) (by unfold Func.isWrapper; first | (rw [if_pos (by decide +kernel)]; kernel_rfl) | (rw [if_neg (by decide +kernel)]; exact ⟨rfl, rfl⟩))
    (fun os started H enc _ => shadowDrops_lifted os started H enc)
theorem shadowDrops_holds : Rows.ShadowDropsCardSaid :=
  Claim7.holds_tied_plain_at .later [] _ _ _ _ shadowDrops_row (fun _ h => by cases h) (by kernel_rfl) (fun _ h => by cases h) shadowDrops_row_tie rfl ⟨rfl, rfl⟩ (by kernel_rfl) rfl
    (fun f fn hf hfn => by
      obtain rfl : f = 4 := Option.some.inj ((show Tryz.prog.funcNamed "aumbry/aumbrylaw08.ShadowDrops" = some 4 by kernel_rfl).symm.trans hf) |>.symm
      obtain rfl : fn = Tryz.f4 := (Option.some.inj (Tryz.func4.symm.trans hfn)).symm
      exact ⟨by kernel_rfl, fun j t ht => by
        rw [Tryz.params4] at ht
        have hm : t ∈ [5, 5] := by simpa using Array.mem_of_getElem? ht
        have hall : ([5, 5].all fun u => !Tryz.prog.wantsStandIn u) = true := by kernel_rfl
        exact (show Tryz.prog.wantsStandIn t = false by simpa using List.all_eq_true.1 hall t hm)⟩)
    (by kernel_rfl)
end Go.Proofs.YthejkfnigalniaaGreatDoor
