/- ShadowRoom: as many pages may be written as Room tells, and a Commit is never refused for want of room: for every number of sectors, every first page, every step, every rhythm of commits. -/
import Derived.Test.YthejkfnigalniaaGreatDoorWaI
import Derived.Test.YthejkfnigalniaaGreatDoorWaF
import Derived.Test.YthejkfnigalniaaGreatDoorWaG
import Derived.Test.YthejkfnigalniaaGreatDoorPlb
import Derived.Test.YthejkfnigalniaaGreatDoorRows
import Derived.Test.YthejkfnigalniaaGreatDoorCards
import Derived.Test.YthejkfnigalniaaGreatDoorTie
import Derived.ProofKit
import Derived.OpenShut
import Derived.LaidMore
import Derived.Lay
import Derived.SevenTiedAt
import Derived.Stop.Joined
import Derived.Carry
import Derived.ChangeArms
import Derived.Lib.SmallJoins
import Derived.LaidEql
set_option linter.unusedVariables false
set_option linter.unusedSimpArgs false
set_option maxRecDepth 100000
set_option maxHeartbeats 1600000
namespace Go.Tb
open Go Go.RowKit Go.Proofs Go.Maps Go.Sp
theorem same_ok {w : World} {v u : Value} {a b : Bs} (ha : RV w v a) (hb : RV w u b) : Calls Tryz.prog 26 #[v, u] w fun e w' => e = .returned (.bool (decide (a = b))) ∧ w' = w := by
  have key : ∀ {v : Value} {a : Bs}, RV w v a → (convert 37 9 v).run Tryz.prog w = .ok (.string (txt a)) w := fun {v a} h => by
    obtain ⟨ad, c, rfl, ⟨hx, hc⟩, hr⟩ := h
    by_cases hz : 0 < a.length
    · obtain ⟨g, o, rfl, hg, hcell⟩ := hr hz
      exact conv_txt hcell _ rfl
    · have h0 : a = [] := List.length_eq_zero_iff.1 (by omega)
      subst h0
      rw [run_convert_bytes_string w 37 9 5 _ _ c Tryz.underlying37 Tryz.underlying5 (by kernel_rfl)]
      cases ad <;> simp [Conv.bytesToString, loadCells] <;> rfl
  have ca := key ha
  have cb := key hb
  have hti : ((txt a).toList == (txt b).toList) = decide (a = b) := by
    have := txt_is (l := a) (m := b) (fun x hm => ha.byte x hm) (fun x hm => hb.byte x hm)
    rw [← txt_list (l := b) []] at this
    exact this
  obtain ⟨D, hD⟩ : ∃ D, decide (a = b) = D := ⟨_, rfl⟩
  rw [hD] at hti ⊢
  generalize txt a = A at *
  generalize txt b = B at *
  obtain ⟨av, ac, rfl⟩ := ha.len
  obtain ⟨bv, bc, rfl⟩ := hb.len
  clear ha hb hD key
  go_enter Tryz.func26, Tryz.ntmps26
  go_wp2_with fail
  go_ret
  exact ⟨rfl, rfl⟩
def WS (w W : World) (db sb : Nat) (s : Sp) : Prop := ∃ γ : Gh, γ.B = w.heap.size ∧ γ.lim ≤ W.heap.size ∧ SpV γ W sb db s ∧ Below w.heap.size w W
section
variable {w W : World} {db sb : Nat} {s : Sp}
theorem WS.below {W' : World} (h : WS w W db sb s) (hb : Below W.heap.size W W') : WS w W' db sb s := by
  obtain ⟨γ, g1, g2, g3, g4⟩ := h
  exact ⟨γ, g1, Nat.le_trans g2 hb.size, g3.below hb g2, g4.trans (hb.mono g4.size)⟩
theorem WS.be (h : WS w W db sb s) : Below w.heap.size w W := by obtain ⟨γ, g1, g2, g3, g4⟩ := h; exact g4
theorem WS.act {γ : Gh} {W' : World} {s' : Sp} (g1 : γ.B = w.heap.size) (g2 : γ.lim ≤ W.heap.size) (g4 : Below w.heap.size w W) (h : SpV γ W' sb db s') (hs : Step γ spS W W') : WS w W' db sb s' :=
  ⟨γ, g1, Nat.le_trans g2 hs.size, h, g4.trans (g1 ▸ hs.be)⟩
theorem row1 {γ : Gh} {W0 : World} {x : Nat} {r : Nat × Nat} (h0 : γ.lim ≤ W0.heap.size) (hx : x < 256) : RA γ (W0.alloc (.cells #[.int .u8 (x : Int)] 5 r)) (.slice (some ⟨W0.heap.size, 0, none⟩) 1 1) [x] := by
  have hk := (Go.MapKept.heap_alloc W0 (.cells #[.int .u8 (x : Int)] 5 r)).1
  generalize W0.alloc (.cells #[.int .u8 (x : Int)] 5 r) = W at hk ⊢
  refine ⟨_, _, rfl, ⟨fun y hy => by rw [List.mem_singleton.1 hy]; exact hx, by simp⟩, fun _ => ⟨_, 0, rfl, (Array.getElem?_eq_some_iff.1 hk).1, .inl (Tag.new h0 hk), fun j y hj => ?_⟩⟩
  have hj0 : j = 0 := by have := (List.getElem?_eq_some_iff.1 hj).1; simp at this; omega
  subst hj0
  simp at hj
  subst hj
  simp [World.cell?, hk]
theorem WS.wr1 {r : Nat × Nat} (h : WS w W db sb s) (hok : s.Ok) (hbd : s.Bd 5000) (p : Int) {x : Nat} (hx : x < 256) :
    Calls Tryz.prog 11 #[.pointer (some ⟨sb, 0, none⟩), .int .i64 p, .slice (some ⟨W.heap.size, 0, none⟩) 1 1] (W.alloc (.cells #[.int .u8 (x : Int)] 5 r)) fun e W' => e = .returned (.int .i64 ((s.write p [x]).1 : Nat)) ∧ Hid (WS w W' db sb (s.write p [x]).2) := by
  obtain ⟨γ, g1, g2, g3, g4⟩ := h
  have hb : Below W.heap.size W (W.alloc (.cells #[.int .u8 (x : Int)] 5 r)) := Below.alloc (Below.refl _ _) (Nat.le_refl _) _
  exact (write_s (g3.below hb g2) hok (bd_up hbd (Ca.In.refl _ 0) (by omega)) (Nat.le_trans g2 hb.size) p (row1 g2 hx)).mono fun e W' ⟨h1, h2⟩ => ⟨h1, Lib.hid (WS.act (W := W.alloc (.cells #[.int .u8 (x : Int)] 5 r)) g1 (Nat.le_trans g2 hb.size) (g4.trans (hb.mono g4.size)) h2.out.1 h2.out.2)⟩
theorem WS.cm1 {r : Nat × Nat} (h : WS w W db sb s) (hok : s.Ok) (hbd : s.Bd 5000) (hN : 2 ≤ s.c.d.N ∧ s.c.d.N ≤ 4096) {x : Nat} (hx : x < 256) :
    Calls Tryz.prog 12 #[.pointer (some ⟨sb, 0, none⟩), .slice (some ⟨W.heap.size, 0, none⟩) 1 1] (W.alloc (.cells #[.int .u8 (x : Int)] 5 r)) fun e W' => e = .returned (.int .i64 ((s.commit [x]).1 : Nat)) ∧ Hid (WS w W' db sb (s.commit [x]).2) := by
  obtain ⟨γ, g1, g2, g3, g4⟩ := h
  have hb : Below W.heap.size W (W.alloc (.cells #[.int .u8 (x : Int)] 5 r)) := Below.alloc (Below.refl _ _) (Nat.le_refl _) _
  exact (commit_s (g3.below hb g2) hok hbd (Nat.le_trans g2 hb.size) hN (row1 g2 hx) (by simp)).mono fun e W' ⟨h1, h2⟩ => ⟨h1, Lib.hid (WS.act (W := W.alloc (.cells #[.int .u8 (x : Int)] 5 r)) g1 (Nat.le_trans g2 hb.size) (g4.trans (hb.mono g4.size)) h2.out.1 h2.out.2)⟩
theorem WS.cm0 (h : WS w W db sb s) (hok : s.Ok) (hbd : s.Bd 5000) (hN : 2 ≤ s.c.d.N ∧ s.c.d.N ≤ 4096) :
    Calls Tryz.prog 12 #[.pointer (some ⟨sb, 0, none⟩), .slice none 0 0] W fun e W' => e = .returned (.int .i64 ((s.commit []).1 : Nat)) ∧ Hid (WS w W' db sb (s.commit []).2) := by
  obtain ⟨γ, g1, g2, g3, g4⟩ := h
  exact (commit_s g3 hok hbd g2 hN (RA.nil _ _ _ _) (by decide)).mono fun e W' ⟨h1, h2⟩ => ⟨h1, Lib.hid (WS.act g1 g2 g4 h2.out.1 h2.out.2)⟩
theorem WS.room (h : WS w W db sb s) : Calls Tryz.prog 10 #[.pointer (some ⟨sb, 0, none⟩)] W fun e W' => e = .returned (.int .i64 (s.room : Nat)) ∧ Hid (WS w W' db sb s) := by
  obtain ⟨γ, g1, g2, g3, g4⟩ := h
  exact (room_s g3 g2).mono fun e W' ⟨h1, h2⟩ => ⟨h1, Lib.hid (WS.act g1 g2 g4 h2.out.1 h2.out.2)⟩
theorem WS.epoch (h : WS w W db sb s) : Calls Tryz.prog 29 #[.pointer (some ⟨sb, 0, none⟩)] W fun e W' => e = .returned (.int .u32 (s.r.ep : Nat)) ∧ W' = W := by
  obtain ⟨γ, g1, g2, g3, g4⟩ := h
  exact epoch_s g3
theorem WS.abort (h : WS w W db sb s) (hok : s.Ok) : Calls Tryz.prog 66 #[.pointer (some ⟨sb, 0, none⟩)] W fun e W' => e = .returned (.int .i64 (s.abort.1 : Nat)) ∧ Hid (WS w W' db sb s.abort.2) := by
  obtain ⟨γ, g1, g2, g3, g4⟩ := h
  exact (abort_s g3 hok g2).mono fun e W' ⟨h1, h2⟩ => ⟨h1, Lib.hid (WS.act g1 g2 g4 h2.out.1 h2.out.2)⟩
theorem WS.drop (h : WS w W db sb s) (p : Int) : Calls Tryz.prog 14 #[.pointer (some ⟨sb, 0, none⟩), .int .i64 p] W fun e W' => e = .returned (.int .i64 ((s.drop p).1 : Nat)) ∧ Hid (WS w W' db sb (s.drop p).2) := by
  obtain ⟨γ, g1, g2, g3, g4⟩ := h
  exact (drop_s g3 g2 p).mono fun e W' ⟨h1, h2⟩ => ⟨h1, Lib.hid (WS.act g1 g2 g4 h2.out.1 h2.out.2)⟩
theorem WS.pages (h : WS w W db sb s) : Calls Tryz.prog 15 #[.pointer (some ⟨sb, 0, none⟩)] W fun e W' => ∃ a c, e = .returned (.slice a (pgs s.own).length c) ∧ Hid (WS w W' db sb s) := by
  obtain ⟨γ, g1, g2, g3, g4⟩ := h
  refine (pages_s g3 g2).mono ?_
  rintro e W' ⟨⟨v, rfl, hn⟩, hb⟩
  obtain ⟨a, c, rfl⟩ := hn.shape
  exact ⟨a, c, rfl, Lib.hid (WS.below ⟨γ, g1, g2, g3, g4⟩ hb)⟩
theorem WS.meta (h : WS w W db sb s) : Calls Tryz.prog 27 #[.pointer (some ⟨sb, 0, none⟩)] W fun e W' => ∃ v, e = .returned v ∧ Hid (WS w W' db sb s ∧ RV W' v s.r.mt) := by
  obtain ⟨γ, g1, g2, g3, g4⟩ := h
  refine (meta_s g3).mono ?_
  rintro e W' ⟨⟨v, rfl, hn⟩, hb⟩
  exact ⟨v, rfl, Lib.hid ⟨WS.below ⟨γ, g1, g2, g3, g4⟩ hb, hn.rv⟩⟩
theorem WS.read (h : WS w W db sb s) (hok : s.Ok) (hbd : s.Bd 5000) (p : Int) : Calls Tryz.prog 32 #[.pointer (some ⟨sb, 0, none⟩), .int .i64 p] W fun e W' => ∃ a n c, e = .returned (.tuple #[.slice a n c, .int .i64 ((s.read p).1 : Nat)]) ∧ Hid (WS w W' db sb (s.read p).2.2 ∧ RV W' (.slice a n c) (s.read p).2.1) := by
  obtain ⟨γ, g1, g2, g3, g4⟩ := h
  refine (read_s g3 hok (bd_up hbd (Ca.In.refl _ 0) (by omega)) g2 p).mono ?_
  rintro e W' ⟨a, n, c, rfl, hq⟩
  obtain ⟨W1, h1, h2, h3, h4⟩ := hq.out
  exact ⟨a, n, c, rfl, Lib.hid ⟨(WS.act g1 g2 g4 h1 h2).below h3, h4.rv⟩⟩
end
theorem WS.open2 {w W : World} {db sb : Nat} (h : WS w W db sb wk5) : Calls Tryz.prog 19 #[.pointer (some ⟨db, 0, none⟩), .int .i64 2] W fun e W' => ∃ tb, e = .returned (.tuple #[.pointer (some ⟨tb, 0, none⟩), .int .i64 0]) ∧ Hid (WS w W' db tb wk6) := by
  obtain ⟨γ, g1, g2, g3, g4⟩ := h
  obtain ⟨cb, rb, ob, kb, HU, HK⟩ := g3
  obtain ⟨o1, ⟨ra, o2, o3⟩, o4⟩ := wk_open
  have hdk := HU.ca.dk'
  refine (open_c (F := 2) (r := wk5.r.bare) (ra := ra) (r' := wk5.r) hdk g2 wk_in.2.2.2.2.1.c.d (by rw [wk_d.2.1]; decide) (by rw [wk_in.2.2.2.2.2.2.2.2.2.2.1]; decide) wk_d.1 (by decide) (fun _ _ => wk_f.2.1) (fun _ _ => wk_f.2.2) o1 o2 (Nat.le_of_lt o3) (by show wk5.r.mt.length ≤ 200; rw [wk_d.2.2.2]; decide) o4 rfl).mono ?_
  rintro e W' ⟨tb, rfl, hq⟩
  exact ⟨tb, rfl, Lib.hid ⟨γ, g1, Nat.le_trans g2 hq.out.2.1.size, hq.out.1, g4.trans (g1 ▸ hq.out.2.1.be)⟩⟩
end Go.Tb
set_option maxHeartbeats 600000
namespace Go.Tb
open Go Go.RowKit Go.Proofs Go.Maps Go.Sp
theorem cv37 (x : Int) (w : World) : (convert 37 37 (.slice (some ⟨w.heap.size, 0, none⟩) 1 1)).run Tryz.prog (w.alloc (.cells #[.int .u8 x] 5)) = .ok (.slice (some ⟨w.heap.size, 0, none⟩) 1 1) (w.alloc (.cells #[.int .u8 x] 5 (1, 2))) :=
  Lib.run_convert_bytes_const (P := Tryz.prog) w 37 5 #[.int .u8 x] 1 1 Tryz.underlying37 Tryz.underlying5
theorem works_ok (w : World) : Calls Tryz.prog 13 #[] w fun e w' => e = .returned (.bool true) ∧ Hid (Below w.heap.size w w') := by
  have DN := dnew_ok (w := w) 32 (by decide)
  have FM := Lib.hid (fun (W : World) (h : ∃ v us, NewJ w W 32 v us) => show Calls Tryz.prog 50 #[.pointer (some ⟨w.heap.size, 0, none⟩)] W (fun e w' => e = .returned (.int .i64 0) ∧ Hid (∃ γ' : Gh, γ'.B = w.heap.size ∧ γ'.lim ≤ w'.heap.size ∧ DkV γ' w' w.heap.size (fmtDk 32) ∧ Below w.heap.size w w')) from by
    obtain ⟨v, us, h⟩ := h
    exact (Go.Tb.fmt_ok (h.dk (by decide)) h.be.size (by decide)).mono fun e w' ⟨h1, γ', g1, g2, g3, g4⟩ => ⟨h1, Lib.hid ⟨γ', g1, g2, g3, h.be.trans g4⟩⟩)
  have OP := Lib.hid (fun (W : World) (h : ∃ γ' : Gh, γ'.B = w.heap.size ∧ γ'.lim ≤ W.heap.size ∧ DkV γ' W w.heap.size (fmtDk 32) ∧ Below w.heap.size w W) => show Calls Tryz.prog 19 #[.pointer (some ⟨w.heap.size, 0, none⟩), .int .i64 4] W (fun e w' => ∃ sb, e = .returned (.tuple #[.pointer (some ⟨sb, 0, none⟩), .int .i64 0]) ∧ Hid (WS w w' w.heap.size sb wk0)) from by
    obtain ⟨γ', g1, g2, g3, g4⟩ := h
    have hr0 := rd_fmt0 32 (by decide) 1
    have hr1 := rd_fmt1 32 (by decide)
    refine (open_b (F := 4) (r := root0) (ra := root0) (r' := root0) g3 g2 (Go.Sp.fmt_ok 32) (by show (0 : Nat) < 2000000; decide) (by decide) rfl (by decide) (fun h => by rw [hr0] at h; cases h) (fun _ _ => by rw [hr1, rootOf0]; decide) (cand_fmt 32 (by decide)).1 (cand_fmt 32 (by decide)).2 (by decide) (whole_fmt 32) rfl).mono fun e w' ⟨sb, h1, h2⟩ => ⟨sb, h1, Lib.hid ⟨γ', g1, Nat.le_trans g2 h2.out.2.1.size, h2.out.1, g4.trans (g1 ▸ h2.out.2.1.be)⟩⟩)
  obtain ⟨o1, o2, o3, o4, o5, b1, b2, b3, b4, b5, n5, n2⟩ := wk_in
  obtain ⟨a1, a2, a3, a4⟩ := wk_a
  have bb := wk_b
  obtain ⟨c1, c2⟩ := wk_c
  obtain ⟨e1, e2, e3⟩ := wk_e
  have d3 := wk_d.2.2
  have o0 : wk0.Ok := sp0_ok 32 4 (by decide) (by decide)
  have b0 : wk0.Bd 5000 := ⟨by decide, by decide⟩
  have O6 := wk6_ok
  have E0 := Lib.hid (fun (W : World) (sb : Nat) (h : WS w W w.heap.size sb wk0) => h.epoch)
  have R0 := Lib.hid (fun (W : World) (sb : Nat) (h : WS w W w.heap.size sb wk0) => h.room)
  have W1 := Lib.hid (fun (W : World) (sb : Nat) (h : WS w W w.heap.size sb wk0) => show Calls Tryz.prog 11 #[.pointer (some ⟨sb, 0, none⟩), .int .i64 7, .slice (some ⟨W.heap.size, 0, none⟩) 1 1] (W.alloc (.cells #[.int .u8 97] 5 (1, 2))) (fun e W' => e = .returned (.int .i64 ((wk0.write 7 [97]).1 : Nat)) ∧ Hid (WS w W' w.heap.size sb wk1)) from h.wr1 (r := (1, 2)) o0 b0 7 (x := 97) (by decide))
  have W2 := Lib.hid (fun (W : World) (sb : Nat) (h : WS w W w.heap.size sb wk1) => show Calls Tryz.prog 11 #[.pointer (some ⟨sb, 0, none⟩), .int .i64 7, .slice (some ⟨W.heap.size, 0, none⟩) 1 1] (W.alloc (.cells #[.int .u8 98] 5 (1, 2))) (fun e W' => e = .returned (.int .i64 ((wk1.write 7 [98]).1 : Nat)) ∧ Hid (WS w W' w.heap.size sb wk2)) from h.wr1 (r := (1, 2)) o1 b1 7 (x := 98) (by decide))
  have R2 := Lib.hid (fun (W : World) (sb : Nat) (h : WS w W w.heap.size sb wk2) => h.room)
  have C3 := Lib.hid (fun (W : World) (sb : Nat) (h : WS w W w.heap.size sb wk2) => show Calls Tryz.prog 12 #[.pointer (some ⟨sb, 0, none⟩), .slice (some ⟨W.heap.size, 0, none⟩) 1 1] (W.alloc (.cells #[.int .u8 109] 5 (1, 2))) (fun e W' => e = .returned (.int .i64 ((wk2.commit [109]).1 : Nat)) ∧ Hid (WS w W' w.heap.size sb wk3)) from h.cm1 (r := (1, 2)) o2 b2 (by rw [n2]; decide) (x := 109) (by decide))
  have W4 := Lib.hid (fun (W : World) (sb : Nat) (h : WS w W w.heap.size sb wk3) => show Calls Tryz.prog 11 #[.pointer (some ⟨sb, 0, none⟩), .int .i64 7, .slice (some ⟨W.heap.size, 0, none⟩) 1 1] (W.alloc (.cells #[.int .u8 99] 5 (1, 2))) (fun e W' => e = .returned (.int .i64 ((wk3.write 7 [99]).1 : Nat)) ∧ Hid (WS w W' w.heap.size sb wk4)) from h.wr1 (r := (1, 2)) o3 b3 7 (x := 99) (by decide))
  have A5 := Lib.hid (fun (W : World) (sb : Nat) (h : WS w W w.heap.size sb wk4) => show Calls Tryz.prog 66 #[.pointer (some ⟨sb, 0, none⟩)] W (fun e W' => e = .returned (.int .i64 (wk4.abort.1 : Nat)) ∧ Hid (WS w W' w.heap.size sb wk5)) from h.abort o4)
  have O2 := Lib.hid (fun (W : World) (sb : Nat) (h : WS w W w.heap.size sb wk5) => h.open2)
  have P6 := Lib.hid (fun (W : World) (sb : Nat) (h : WS w W w.heap.size sb wk6) => h.pages)
  have M6 := Lib.hid (fun (W : World) (sb : Nat) (h : WS w W w.heap.size sb wk6) => h.meta)
  have E6 := Lib.hid (fun (W : World) (sb : Nat) (h : WS w W w.heap.size sb wk6) => h.epoch)
  have D6 := Lib.hid (fun (W : World) (sb : Nat) (h : WS w W w.heap.size sb wk6) => show Calls Tryz.prog 32 #[.pointer (some ⟨sb, 0, none⟩), .int .i64 7] W (fun e W' => ∃ a n c, e = .returned (.tuple #[.slice a n c, .int .i64 ((wk6.read 7).1 : Nat)]) ∧ Hid (RV W' (.slice a n c) (wk6.read 7).2.1 ∧ Below w.heap.size w W')) from (h.read O6.1 O6.2 7).mono fun e W' ⟨a, n, c, h1, h2⟩ => ⟨a, n, c, h1, Lib.hid ⟨h2.out.2, h2.out.1.be⟩⟩)
  rw [show wk0.r.ep = 1 from rfl] at E0
  rw [a4] at R0
  rw [a1] at W1
  rw [a2] at W2
  rw [a3] at R2
  rw [bb] at C3
  rw [c1] at W4
  rw [c2] at A5
  rw [e1] at P6
  rw [show wk6.r.mt = [109] from d3.2] at M6
  rw [show wk6.r.ep = 2 from d3.1] at E6
  rw [e2, e3] at D6
  have SM := Lib.hid (fun (W : World) (v u : Value) (a : Bs) (ha : RV W v a) (hb : RV W u a) => same_ok ha hb)
  clear o1 o2 o3 o4 o5 b1 b2 b3 b4 b5 n5 n2 a1 a2 a3 a4 bb c1 c2 e1 e2 e3 d3 o0 b0 O6
  generalize wk0 = s0 at E0 R0 W1 OP
  generalize wk1 = s1 at W1 W2
  generalize wk2 = s2 at W2 R2 C3
  generalize wk3 = s3 at C3 W4
  generalize wk4 = s4 at W4 A5
  generalize wk5 = s5 at A5 O2
  generalize wk6 = s6 at O2 P6 M6 E6 D6
  have CV := cv37
  go_enter Tryz.func13, Tryz.ntmps13
  go_upto_region 7 with (first
    | (go_at_call 49; refine DN.mono ?_; rintro e w6 ⟨rfl, hq6⟩; have Q6 := Lib.hid hq6; clear hq6)
    | (go_at_call 50; refine (FM.out _ Q6.out).mono ?_; rintro e w7 ⟨rfl, hq7⟩)
    | (go_at_call 19; refine (OP.out _ hq7.out).mono ?_; rintro e w8 ⟨sb, rfl, hq8⟩)
    | (go_at_call 29; refine (E0.out _ _ hq8.out).mono ?_; rintro e w9 ⟨rfl, rfl⟩; clear E0)
    | (go_at_call 10; refine (R0.out _ _ hq8.out).mono ?_; rintro e w10 ⟨rfl, hq10⟩; clear R0)
    | (go_at_call 11; refine (W1.out _ _ hq10.out).mono ?_; rintro e w11 ⟨rfl, hq11⟩; clear W1)
    | (go_at_call 11; refine (W2.out _ _ hq11.out).mono ?_; rintro e w12 ⟨rfl, hq12⟩; clear W2)
    | (go_at_call 10; refine (R2.out _ _ hq12.out).mono ?_; rintro e w13 ⟨rfl, hq13⟩; clear R2)
    | (go_at_call 12; refine (C3.out _ _ hq13.out).mono ?_; rintro e w14 ⟨rfl, hq14⟩; clear C3)
    | (go_at_call 11; refine (W4.out _ _ hq14.out).mono ?_; rintro e w15 ⟨rfl, hq15⟩; clear W4)
    | (go_at_call 66; refine (A5.out _ _ hq15.out).mono ?_; rintro e w16 ⟨rfl, hq16⟩; clear A5))
  clear DN FM OP
  go_upto_region 10 with (first
    | (go_at_call 19; refine (O2.out _ _ hq16.out).mono ?_; rintro e w17 ⟨tb, rfl, hq17⟩; clear O2)
    | (go_at_call 15; refine (P6.out _ _ hq17.out).mono ?_; rintro e w18 ⟨a18, c18, rfl, hq18⟩; clear P6)
    | (go_at_call 27; refine (M6.out _ _ hq18.out).mono ?_; rintro e w19 ⟨v19, rfl, hq19⟩; obtain ⟨a19, c19, hv19⟩ := hq19.out.2.len; subst hv19)
    | (go_at_call 26; refine (SM.out _ _ _ [109] (hq19.out.2.keep (Below.alloc (Below.refl _ _) (Nat.le_refl _) _)) (row1 (r := (1, 2)) (γ := gh0 w19.heap.size) (Nat.le_refl _) (by decide)).rv).mono ?_; rintro e w20 ⟨rfl, rfl⟩)
    | (go_at_call 29; refine (E6.out _ _ (hq19.out.1.below (Below.alloc (Below.refl _ _) (Nat.le_refl _) _))).mono ?_; rintro e w21 ⟨rfl, rfl⟩))
  have W21 : Hid (WS w (w19.alloc (.cells #[.int .u8 109] 5 (1, 2))) w.heap.size tb s6) := Lib.hid (hq19.out.1.below (Below.alloc (Below.refl _ _) (Nat.le_refl _) _))
  have RD := D6.out _ _ W21.out
  clear M6 E6 D6 hq16 hq17 hq18 hq19
  go_wp2_with (first
    | (go_at_call 32; refine RD.mono ?_; rintro e w22 ⟨a22, n22, c22, rfl, hq22⟩)
    | (go_at_call 26; refine (SM.out _ _ _ [98] (hq22.out.1.keep (Below.alloc (Below.refl _ _) (Nat.le_refl _) _)) (row1 (r := (1, 2)) (γ := gh0 w22.heap.size) (Nat.le_refl _) (by decide)).rv).mono ?_; rintro e w23 ⟨rfl, rfl⟩))
  go_ret
  exact ⟨rfl, Lib.hid (hq22.out.2.trans ((Below.alloc (Below.refl _ _) (Nat.le_refl _) _ : Below w22.heap.size w22 _).mono hq22.out.2.size))⟩
end Go.Tb
set_option maxHeartbeats 800000
namespace Go.Tb
open Go Go.RowKit Go.Proofs Go.Maps Go.Sp
def WT (w W : World) (db sb wb : Nat) (s : Sp) : Prop := ∃ γ : Gh, (γ.B = w.heap.size ∧ γ.lim ≤ W.heap.size ∧ Below w.heap.size w W) ∧ SpV γ W sb db s ∧ Tag γ W wb 33 ∧ W.cell? ⟨wb, 1, none⟩ = some (.pointer (some ⟨sb, 0, none⟩))
section
variable {w W : World} {db sb wb : Nat} {s : Sp}
theorem WT.cell (h : WT w W db sb wb s) : W.cell? ⟨wb, 1, none⟩ = some (.pointer (some ⟨sb, 0, none⟩)) := by obtain ⟨γ, _, _, _, h⟩ := h; exact h
theorem WT.be (h : WT w W db sb wb s) : Below w.heap.size w W := by obtain ⟨γ, h, _⟩ := h; exact h.2.2
theorem WT.step {γ : Gh} {W' : World} {s' : Sp} (g : γ.B = w.heap.size ∧ γ.lim ≤ W.heap.size ∧ Below w.heap.size w W) (ht : Tag γ W wb 33) (hc : W.cell? ⟨wb, 1, none⟩ = some (.pointer (some ⟨sb, 0, none⟩))) (h : SpV γ W' sb db s') (hs : Step γ spS W W') : WT w W' db sb wb s' :=
  ⟨γ, ⟨g.1, Nat.le_trans g.2.1 hs.size, g.2.2.trans (g.1 ▸ hs.be)⟩, h, hs.tg _ _ (by decide) (cell_lt' hc) ht, cell_keep hs ht rfl hc⟩
theorem WT.below {W' : World} (h : WT w W db sb wb s) (hb : Below W.heap.size W W') : WT w W' db sb wb s := by
  obtain ⟨γ, g, g3, ht, hc⟩ := h
  exact WT.step g ht hc (g3.below hb g.2.1) (Step.below hb g.2.1)
theorem WT.wr1 {r : Nat × Nat} (h : WT w W db sb wb s) (hok : s.Ok) (hbd : s.Bd 0) (p : Int) {x : Nat} (hx : x < 256) :
    Calls Tryz.prog 11 #[.pointer (some ⟨sb, 0, none⟩), .int .i64 p, .slice (some ⟨W.heap.size, 0, none⟩) 1 1] (W.alloc (.cells #[.int .u8 (x : Int)] 5 r)) fun e W' => e = .returned (.int .i64 ((s.write p [x]).1 : Nat)) ∧ Hid (WT w W' db sb wb (s.write p [x]).2) := by
  have hb : Below W.heap.size W (W.alloc (.cells #[.int .u8 (x : Int)] 5 r)) := Below.alloc (Below.refl _ _) (Nat.le_refl _) _
  have h0 : ∃ γ : Gh, γ.lim ≤ W.heap.size ∧ (γ.B = w.heap.size ∧ γ.lim ≤ (W.alloc (.cells #[.int .u8 (x : Int)] 5 r)).heap.size ∧ Below w.heap.size w (W.alloc (.cells #[.int .u8 (x : Int)] 5 r))) ∧ SpV γ (W.alloc (.cells #[.int .u8 (x : Int)] 5 r)) sb db s ∧ Tag γ (W.alloc (.cells #[.int .u8 (x : Int)] 5 r)) wb 33 ∧ (W.alloc (.cells #[.int .u8 (x : Int)] 5 r)).cell? ⟨wb, 1, none⟩ = some (.pointer (some ⟨sb, 0, none⟩)) := by
    obtain ⟨γ, g, g3, ht, hc⟩ := h
    have hs : Step γ spS W _ := Step.below hb g.2.1
    exact ⟨γ, g.2.1, ⟨g.1, Nat.le_trans g.2.1 hb.size, g.2.2.trans (g.1 ▸ hs.be)⟩, g3.below hb g.2.1, hs.tg _ _ (by decide) (cell_lt' hc) ht, cell_keep hs ht rfl hc⟩
  obtain ⟨γ, g2, g, g3, ht, hc⟩ := h0
  exact (write_s g3 hok hbd g.2.1 p (row1 g2 hx)).mono fun e W' ⟨h1, h2⟩ => ⟨h1, Lib.hid (WT.step g ht hc h2.out.1 h2.out.2)⟩
theorem WT.cm1 {r : Nat × Nat} (h : WT w W db sb wb s) (hok : s.Ok) (hbd : s.Bd 5000) (hN : 2 ≤ s.c.d.N ∧ s.c.d.N ≤ 4096) {x : Nat} (hx : x < 256) :
    Calls Tryz.prog 12 #[.pointer (some ⟨sb, 0, none⟩), .slice (some ⟨W.heap.size, 0, none⟩) 1 1] (W.alloc (.cells #[.int .u8 (x : Int)] 5 r)) fun e W' => e = .returned (.int .i64 ((s.commit [x]).1 : Nat)) ∧ Hid (WT w W' db sb wb (s.commit [x]).2) := by
  have hb : Below W.heap.size W (W.alloc (.cells #[.int .u8 (x : Int)] 5 r)) := Below.alloc (Below.refl _ _) (Nat.le_refl _) _
  have h0 : ∃ γ : Gh, γ.lim ≤ W.heap.size ∧ (γ.B = w.heap.size ∧ γ.lim ≤ (W.alloc (.cells #[.int .u8 (x : Int)] 5 r)).heap.size ∧ Below w.heap.size w (W.alloc (.cells #[.int .u8 (x : Int)] 5 r))) ∧ SpV γ (W.alloc (.cells #[.int .u8 (x : Int)] 5 r)) sb db s ∧ Tag γ (W.alloc (.cells #[.int .u8 (x : Int)] 5 r)) wb 33 ∧ (W.alloc (.cells #[.int .u8 (x : Int)] 5 r)).cell? ⟨wb, 1, none⟩ = some (.pointer (some ⟨sb, 0, none⟩)) := by
    obtain ⟨γ, g, g3, ht, hc⟩ := h
    have hs : Step γ spS W _ := Step.below hb g.2.1
    exact ⟨γ, g.2.1, ⟨g.1, Nat.le_trans g.2.1 hb.size, g.2.2.trans (g.1 ▸ hs.be)⟩, g3.below hb g.2.1, hs.tg _ _ (by decide) (cell_lt' hc) ht, cell_keep hs ht rfl hc⟩
  obtain ⟨γ, g2, g, g3, ht, hc⟩ := h0
  exact (commit_s g3 hok hbd g.2.1 hN (row1 g2 hx) (by simp)).mono fun e W' ⟨h1, h2⟩ => ⟨h1, Lib.hid (WT.step g ht hc h2.out.1 h2.out.2)⟩
theorem WT.cm0 (h : WT w W db sb wb s) (hok : s.Ok) (hbd : s.Bd 5000) (hN : 2 ≤ s.c.d.N ∧ s.c.d.N ≤ 4096) :
    Calls Tryz.prog 12 #[.pointer (some ⟨sb, 0, none⟩), .slice none 0 0] W fun e W' => e = .returned (.int .i64 ((s.commit []).1 : Nat)) ∧ Hid (WT w W' db sb wb (s.commit []).2) := by
  obtain ⟨γ, g, g3, ht, hc⟩ := h
  exact (commit_s g3 hok hbd g.2.1 hN (RA.nil _ _ _ _) (by decide)).mono fun e W' ⟨h1, h2⟩ => ⟨h1, Lib.hid (WT.step g ht hc h2.out.1 h2.out.2)⟩
theorem WT.room (h : WT w W db sb wb s) : Calls Tryz.prog 10 #[.pointer (some ⟨sb, 0, none⟩)] W fun e W' => e = .returned (.int .i64 (s.room : Nat)) ∧ Hid (WT w W' db sb wb s) := by
  obtain ⟨γ, g, g3, ht, hc⟩ := h
  exact (room_s g3 g.2.1).mono fun e W' ⟨h1, h2⟩ => ⟨h1, Lib.hid (WT.step g ht hc h2.out.1 h2.out.2)⟩
theorem WT.drop (h : WT w W db sb wb s) (p : Int) : Calls Tryz.prog 14 #[.pointer (some ⟨sb, 0, none⟩), .int .i64 p] W fun e W' => e = .returned (.int .i64 ((s.drop p).1 : Nat)) ∧ Hid (WT w W' db sb wb (s.drop p).2) := by
  obtain ⟨γ, g, g3, ht, hc⟩ := h
  exact (drop_s g3 g.2.1 p).mono fun e W' ⟨h1, h2⟩ => ⟨h1, Lib.hid (WT.step g ht hc h2.out.1 h2.out.2)⟩
theorem WT.pages (h : WT w W db sb wb s) : Calls Tryz.prog 15 #[.pointer (some ⟨sb, 0, none⟩)] W fun e W' => ∃ a c, e = .returned (.slice a (pgs s.own).length c) ∧ Hid (WT w W' db sb wb s) := by
  obtain ⟨γ, g, g3, ht, hc⟩ := h
  refine (pages_s g3 g.2.1).mono ?_
  rintro e W' ⟨⟨v, rfl, hn⟩, hb⟩
  obtain ⟨a, c, rfl⟩ := hn.shape
  exact ⟨a, c, rfl, Lib.hid (WT.below ⟨γ, g, g3, ht, hc⟩ hb)⟩
end
theorem WT.start {w : World} {N F : Nat} (hN : 16 ≤ N ∧ N ≤ 4096) (hF : 2 ≤ F ∧ F ≤ 1024) :
    Calls Tryz.prog 9 #[.int .i64 (N : Int), .int .i64 (F : Int)] w fun e w' => ∃ wb, e = .returned (.pointer (some ⟨wb, 0, none⟩)) ∧ Hid (∃ db sb, WT w w' db sb wb (sp0 N F)) := by
  refine (start_ok hN hF).mono ?_
  rintro e w' ⟨wb, rfl, hq⟩
  obtain ⟨γ, db, sb, g1, g2, g3, g4, g5, g6⟩ := hq.out
  exact ⟨wb, rfl, Lib.hid ⟨db, sb, γ, ⟨g1, g2, g6⟩, g3, Tag.new g5 g4, by simp [World.cell?, g4, W33]⟩⟩
theorem WT.works {w W : World} {db sb wb : Nat} {s : Sp} (h : WT w W db sb wb s) : Calls Tryz.prog 13 #[] W fun e W' => e = .returned (.bool true) ∧ Hid (Below w.heap.size w W') :=
  (works_ok W).mono fun e W' ⟨h1, h2⟩ => ⟨h1, Lib.hid (h.be.trans (h2.out.mono h.be.size))⟩
end Go.Tb
namespace Go.Tb
open Go Go.RowKit Go.Proofs Go.Maps Go.Sp
theorem i4b : (Tryz.prog.info? 4).map (fun i => (i.size, i.bytes, i.zero)) = some (1, 1, some (.bool false)) := by kernel_rfl
theorem mk25 (w : World) : (Instr.makeSlice 25 (.int .i64 (1024 : Int)) (.int .i64 (1024 : Int))).run Tryz.prog w = .ok (.slice (some ⟨w.heap.size, 0, none⟩) 1024 1024) (w.alloc (.cells (Array.replicate 1024 (.bool false)) 4)) := by
  obtain ⟨i, hi, hi2⟩ := Option.map_eq_some_iff.1 i4b
  injection hi2 with h1 h2
  injection h2 with h2 h3
  have := run_makeSlice (P := Tryz.prog) w 25 4 i _ Tryz.underlying25 hi h3 .i64 .i64 (1024 : Int) (1024 : Int) (by omega) (by omega) (by rw [h1]; simp [maxLen]) (by rw [h2]; simp [maxLen]) (by omega)
  rw [this, h1]
  have e1 : madeCells (Value.bool false).cells ((1024 : Int).toNat * 1) = Array.replicate 1024 (.bool false) := by
    simp [madeCells, Value.cells]
    apply Array.ext
    · simp
    · intro i h1 h2; simp [Nat.mod_one]
  rw [e1]
  rfl
def RowV (W : World) (tb : Nat) (seen : Nat → Bool) : Prop := ∃ c : Array Value, W.heap[tb]? = some (.cells c 4 (0, 0)) ∧ c.size = 1024 ∧ ∀ i, i < 1024 → c[i]? = some (.bool (seen i))
theorem RowV.cell {W : World} {tb : Nat} {seen : Nat → Bool} (h : RowV W tb seen) {p : Nat} (hp : p < 1024) : W.cell? ⟨tb, p, none⟩ = some (.bool (seen p)) ∧ W.frozen? ⟨tb, p, none⟩ = false := by
  obtain ⟨c, h1, h2, h3⟩ := h
  exact ⟨by simp [World.cell?, h1, h3 p hp], by simp [World.frozen?, h1]⟩
theorem RowV.new (W : World) : RowV (W.alloc (.cells (Array.replicate 1024 (.bool false)) 4)) W.heap.size (fun _ => false) :=
  ⟨_, (Go.MapKept.heap_alloc W _).1, by simp, fun i hi => by simp [hi]⟩
theorem RowV.set {W : World} {tb : Nat} {seen : Nat → Bool} (h : RowV W tb seen) {p : Nat} (hp : p < 1024) : RowV (W.setCell ⟨tb, p, none⟩ (.bool true)) tb (fun q => if q = p then true else seen q) := by
  obtain ⟨c0, T, r, h1, h2, h3⟩ := heap_set_same (v := .bool true) W (h.cell hp).1
  obtain ⟨c, g1, g2, g3⟩ := h
  rw [g1] at h1
  injection h1 with h1
  injection h1 with e1 e2 e3
  subst e1 e2 e3
  refine ⟨_, h3, by simp [g2], fun i hi => ?_⟩
  rw [Array.getElem?_setIfInBounds]
  by_cases e : i = p
  · subst e
    simp [g2, hp]
  · simp [e, Ne.symm e, g3 i hi]
def WR (w W : World) (db sb wb tb : Nat) (s : Sp) (seen : Nat → Bool) : Prop := ∃ γ : Gh, (γ.B = w.heap.size ∧ γ.lim ≤ W.heap.size ∧ Below w.heap.size w W) ∧ SpV γ W sb db s ∧ (Tag γ W wb 33 ∧ W.cell? ⟨wb, 1, none⟩ = some (.pointer (some ⟨sb, 0, none⟩))) ∧ (γ.B ≤ tb ∧ Tag γ W tb 4) ∧ RowV W tb seen
section
variable {w W : World} {db sb wb tb : Nat} {s : Sp} {seen : Nat → Bool}
theorem WR.wt (h : WR w W db sb wb tb s seen) : WT w W db sb wb s := by
  obtain ⟨γ, g, g3, ⟨ht, hc⟩, _⟩ := h
  exact ⟨γ, g, g3, ht, hc⟩
theorem WR.row (h : WR w W db sb wb tb s seen) : RowV W tb seen := by obtain ⟨γ, _, _, _, _, h⟩ := h; exact h
theorem WR.step {γ : Gh} {W' : World} {s' : Sp} (g : γ.B = w.heap.size ∧ γ.lim ≤ W.heap.size ∧ Below w.heap.size w W) (ht : Tag γ W wb 33 ∧ W.cell? ⟨wb, 1, none⟩ = some (.pointer (some ⟨sb, 0, none⟩))) (hr : γ.B ≤ tb ∧ Tag γ W tb 4) (hv : RowV W tb seen) (h : SpV γ W' sb db s') (hs : Step γ spS W W') : WR w W' db sb wb tb s' seen := by
  have lt : tb < W.heap.size := cell_lt' (hv.cell (p := 0) (by omega)).1
  refine ⟨γ, ⟨g.1, Nat.le_trans g.2.1 hs.size, g.2.2.trans (g.1 ▸ hs.be)⟩, h, ⟨hs.tg _ _ (by decide) (cell_lt' ht.2) ht.1, cell_keep hs ht.1 rfl ht.2⟩, ⟨hr.1, hs.tg _ _ (by decide) lt hr.2⟩, ?_⟩
  obtain ⟨c, h1, h2, h3⟩ := hv
  exact ⟨c, (hs.heap hr.2 rfl lt).trans h1, h2, h3⟩
theorem WR.wr1 {r : Nat × Nat} (h : WR w W db sb wb tb s seen) (hok : s.Ok) (hbd : s.Bd 0) (p : Int) {x : Nat} (hx : x < 256) :
    Calls Tryz.prog 11 #[.pointer (some ⟨sb, 0, none⟩), .int .i64 p, .slice (some ⟨W.heap.size, 0, none⟩) 1 1] (W.alloc (.cells #[.int .u8 (x : Int)] 5 r)) fun e W' => e = .returned (.int .i64 ((s.write p [x]).1 : Nat)) ∧ Hid (WR w W' db sb wb tb (s.write p [x]).2 seen) := by
  have hb : Below W.heap.size W (W.alloc (.cells #[.int .u8 (x : Int)] 5 r)) := Below.alloc (Below.refl _ _) (Nat.le_refl _) _
  have h0 : ∃ γ : Gh, γ.lim ≤ W.heap.size ∧ SpV γ (W.alloc (.cells #[.int .u8 (x : Int)] 5 r)) sb db s ∧ WR w (W.alloc (.cells #[.int .u8 (x : Int)] 5 r)) db sb wb tb s seen ∧ (γ.B = w.heap.size ∧ γ.lim ≤ (W.alloc (.cells #[.int .u8 (x : Int)] 5 r)).heap.size ∧ Below w.heap.size w (W.alloc (.cells #[.int .u8 (x : Int)] 5 r))) ∧ (Tag γ (W.alloc (.cells #[.int .u8 (x : Int)] 5 r)) wb 33 ∧ (W.alloc (.cells #[.int .u8 (x : Int)] 5 r)).cell? ⟨wb, 1, none⟩ = some (.pointer (some ⟨sb, 0, none⟩))) ∧ (γ.B ≤ tb ∧ Tag γ (W.alloc (.cells #[.int .u8 (x : Int)] 5 r)) tb 4) ∧ RowV (W.alloc (.cells #[.int .u8 (x : Int)] 5 r)) tb seen := by
    obtain ⟨γ, g, g3, ht, hr, hv⟩ := h
    have hs : Step γ spS W _ := Step.below hb g.2.1
    have lt : tb < W.heap.size := cell_lt' (hv.cell (p := 0) (by omega)).1
    have k := WR.step g ht hr hv (g3.below hb g.2.1) hs
    refine ⟨γ, g.2.1, g3.below hb g.2.1, k, ⟨g.1, Nat.le_trans g.2.1 hb.size, g.2.2.trans (g.1 ▸ hs.be)⟩, ⟨hs.tg _ _ (by decide) (cell_lt' ht.2) ht.1, cell_keep hs ht.1 rfl ht.2⟩, ⟨hr.1, hs.tg _ _ (by decide) lt hr.2⟩, k.row⟩
  obtain ⟨γ, g2, g3, _, g, ht, hr, hv⟩ := h0
  exact (write_s g3 hok hbd g.2.1 p (row1 g2 hx)).mono fun e W' ⟨h1, h2⟩ => ⟨h1, Lib.hid (WR.step g ht hr hv h2.out.1 h2.out.2)⟩
theorem WR.cm0 (h : WR w W db sb wb tb s seen) (hok : s.Ok) (hbd : s.Bd 5000) (hN : 2 ≤ s.c.d.N ∧ s.c.d.N ≤ 4096) :
    Calls Tryz.prog 12 #[.pointer (some ⟨sb, 0, none⟩), .slice none 0 0] W fun e W' => e = .returned (.int .i64 ((s.commit []).1 : Nat)) ∧ Hid (WT w W' db sb wb (s.commit []).2) := h.wt.cm0 hok hbd hN
theorem WR.room (h : WR w W db sb wb tb s seen) : Calls Tryz.prog 10 #[.pointer (some ⟨sb, 0, none⟩)] W fun e W' => e = .returned (.int .i64 (s.room : Nat)) ∧ Hid (WR w W' db sb wb tb s seen) := by
  obtain ⟨γ, g, g3, ht, hr, hv⟩ := h
  exact (room_s g3 g.2.1).mono fun e W' ⟨h1, h2⟩ => ⟨h1, Lib.hid (WR.step g ht hr hv h2.out.1 h2.out.2)⟩
theorem WR.set (h : WR w W db sb wb tb s seen) {p : Nat} (hp : p < 1024) : WR w (W.setCell ⟨tb, p, none⟩ (.bool true)) db sb wb tb s (fun q => if q = p then true else seen q) := by
  obtain ⟨γ, g, g3, ht, hr, hv⟩ := h
  have hs : Step γ (fun T => T == 4) W (W.setCell ⟨tb, p, none⟩ (.bool true)) := Step.set hr.2 rfl hr.1 (hv.cell hp).1
  have lt : tb < W.heap.size := cell_lt' (hv.cell (p := 0) (by omega)).1
  obtain ⟨cb, rb, ob, kb, H, K⟩ := g3
  have H' := H.keep hs (H.ca.keep hs ⟨rfl, rfl, rfl, rfl⟩ ⟨rfl, rfl, rfl⟩) rfl rfl rfl
  exact ⟨γ, ⟨g.1, Nat.le_trans g.2.1 hs.size, g.2.2.trans (g.1 ▸ hs.be)⟩, ⟨cb, rb, ob, kb, H', K.keep H.tg hs rfl rfl rfl⟩, ⟨hs.tg _ _ (by decide) (cell_lt' ht.2) ht.1, cell_keep hs ht.1 rfl ht.2⟩, ⟨hr.1, hs.tg _ _ (by decide) lt hr.2⟩, hv.set hp⟩
theorem WT.newRow (h : WT w W db sb wb s) : WR w (W.alloc (.cells (Array.replicate 1024 (.bool false)) 4)) db sb wb W.heap.size s (fun _ => false) := by
  obtain ⟨γ, g, g3, ht, hc⟩ := h
  have hb : Below W.heap.size W (W.alloc (.cells (Array.replicate 1024 (.bool false)) 4)) := Below.alloc (Below.refl _ _) (Nat.le_refl _) _
  have hs : Step γ spS W _ := Step.below hb g.2.1
  exact ⟨γ, ⟨g.1, Nat.le_trans g.2.1 hs.size, g.2.2.trans (g.1 ▸ hs.be)⟩, g3.below hb g.2.1, ⟨hs.tg _ _ (by decide) (cell_lt' hc) ht, cell_keep hs ht rfl hc⟩, ⟨Nat.le_trans γ.hB g.2.1, Tag.new g.2.1 (Go.MapKept.heap_alloc W _).1⟩, RowV.new W⟩
end
end Go.Tb
namespace Go.Tb
open Go Go.RowKit Go.Proofs Go.Maps Go.Sp
theorem rmI_write {N F k : Nat} {s : Sp} {seen : Nat → Bool} (h : RmI N F k s seen) {p : Nat} (hp : p < 1024) {b : Bs} (hb : b.length ≤ 248) :
    (seen p = false ∧ (s.write (p : Int) b).1 = 0 ∧ (∃ r, s.room = r + 1 ∧ (s.write (p : Int) b).2.room = r) ∧ RmI N F (k + 1) (s.write (p : Int) b).2 (fun q => if q = p then true else seen q)) ∨
    (seen p = false ∧ (s.write (p : Int) b).1 = 6 ∧ s.room = 0 ∧ RmI N F (k + 1) (s.write (p : Int) b).2 seen) ∨
    (seen p = true ∧ (s.write (p : Int) b).1 = 0 ∧ RmI N F (k + 1) (s.write (p : Int) b).2 (fun q => if q = p then true else seen q)) := by
  cases e : seen p with
  | true =>
    obtain ⟨h1, h2⟩ := h.again hp e hb
    exact .inr (.inr ⟨rfl, h1, h2⟩)
  | false =>
    rcases h.fresh hp e hb with ⟨h1, h2, h3, h4⟩ | ⟨h1, h2, h3⟩
    · exact .inl ⟨rfl, h2, ⟨s.room - 1, by omega, by omega⟩, h4⟩
    · exact .inr (.inl ⟨rfl, by rw [h2], h1, by rw [h2]; exact h3⟩)
theorem rmI_bd {N F m : Nat} {s : Sp} {seen : Nat → Bool} (h : RmI N F m s seen) (hm : m ≤ 401) : s.Bd 0 ∧ s.Bd 5000 :=
  ⟨⟨by have := h.clk; omega, by have := h.P; omega⟩, ⟨by have := h.clk; omega, by have := h.P; omega⟩⟩
theorem wrapA {b x : Nat} (h1 : b < 65536) (h2 : x ≤ 8000) : wrap64 ((b : Int) + (x : Int)) = (b : Int) + (x : Int) := by simp [wrap64]; omega
theorem wrapX {x : Nat} (h2 : x ≤ 8000) : wrap64 (x : Int) = (x : Int) := by simp [wrap64]; omega
theorem pageE {b k q x y p : Nat} (hx : k * q = x) (hx2 : x ≤ 8000) (hy : b + x = y) (hb : b < 65536) (hp : y % 1024 = p) : (wrap64 ((b : Int) + wrap64 ((k : Int) * (q : Int)))).tmod 1024 = (p : Int) := by
  have g1 : (k : Int) * (q : Int) = (x : Int) := by rw [← hx]; simp
  rw [g1, wrapX hx2, wrapA hb hx2, show (b : Int) + (x : Int) = (y : Int) by rw [← hy]; simp, Int.tmod_eq_emod_of_nonneg (by omega), ← hp]
  simp
theorem roomE {R r : Nat} (h : R = r + 1) (hR : R ≤ 4096) : wrap64 ((R : Int) - 1) = (r : Int) := by simp [wrap64]; omega
theorem law3_ok (w : World) (a b c d : Nat) (ha : a < 256) (hb : b < 65536) (hc : c < 65536) (hd : d < 256) :
    Calls Tryz.prog 3 #[.int .u8 (a : Int), .int .u16 (b : Int), .int .u16 (c : Int), .int .u8 (d : Int)] w fun e w' => e = .returned (.bool true) ∧ Hid (Below w.heap.size w w') := by
  obtain ⟨N, hN⟩ : ∃ N, 16 + a % 125 = N := ⟨_, rfl⟩
  have hN2 : 16 ≤ N ∧ N ≤ 140 := by omega
  have ST := WT.start (w := w) (N := N) (F := 9) (by omega) (by decide)
  have f1 : 16 + (a : Int) % 125 = (N : Int) := by omega
  obtain ⟨q, hq⟩ : ∃ q, 1 + c % 40 = q := ⟨_, rfl⟩
  have f2 : 1 + (c : Int) % 40 = (q : Int) := by omega
  have hq2 : 1 ≤ q ∧ q ≤ 40 := by omega
  obtain ⟨D, hD⟩ : ∃ D, 1 + d % 20 = D := ⟨_, rfl⟩
  have f3 : 1 + (d : Int) % 20 = (D : Int) := by omega
  have hD2 : 1 ≤ D ∧ D ≤ 20 := by omega
  have D0 := Lib.hid (RmI.start N 9 (by omega) (by decide))
  obtain ⟨C, hC⟩ : ∃ C, Array.replicate 1024 (Value.bool false) = C := ⟨_, rfl⟩
  have MK := mk25
  have NR := Lib.hid (fun (W : World) (db sb wb : Nat) (s : Sp) (h : WT w W db sb wb s) => h.newRow)
  rw [hC] at NR
  simp only [hC] at MK
  clear hC
  generalize sp0 N 9 = s0 at *
  have HN := Lib.hid (And.intro hN2 (And.intro hq2 hD2))
  clear hN hq hD
  go_enter Tryz.func3, Tryz.ntmps3
  go_upto_region 7 with (go_at_call 9; refine ST.mono ?_; rintro e w6 ⟨wb, rfl, hq6⟩; obtain ⟨db, sb, T6⟩ := hq6.out; have T6 := Lib.hid T6)
  have HI0 : Hid (∃ tb m s seen, WR w (w6.alloc (.cells C 4)) db sb wb tb s seen ∧ RmI N 9 m s seen ∧ m ≤ 2 * 0 ∧ Value.slice (some ⟨w6.heap.size, 0, none⟩) 1024 1024 = .slice (some ⟨tb, 0, none⟩) 1024 1024) := Lib.hid ⟨_, _, _, _, NR.out _ _ _ _ _ T6.out, D0.out, Nat.le_refl _, rfl⟩
  clear D0 hq6 T6 ST f1 f2
  go_loopw [11, 12] (fun u v wr => ∃ k : Nat, v = .int .i64 (k : Int) ∧ k ≤ 200 ∧ Hid (∃ tb m s seen, WR w wr db sb wb tb s seen ∧ RmI N 9 m s seen ∧ m ≤ 2 * k ∧ u = .slice (some ⟨tb, 0, none⟩) 1024 1024)) (fun _ v _ => 200 - (Go.RowKit.intOf v).toNat)
  case atStart => exact ⟨0, rfl, Nat.zero_le _, HI0⟩
  case round =>
    obtain ⟨k, rfl, hk, hI⟩ := hrel
    obtain ⟨tb, m, s, seen, hT, hR, hm, rfl⟩ := hI.out
    by_cases e : k < 200
    · have j1 : (k : Int) < 200 := by omega
      obtain ⟨x, hx⟩ : ∃ x, k * q = x := ⟨_, rfl⟩
      have hx2 : x ≤ 8000 := by have h := Nat.mul_le_mul (show k ≤ 200 by omega) (show q ≤ 40 by omega); rw [hx] at h; exact h
      obtain ⟨y, hy⟩ : ∃ y, b + x = y := ⟨_, rfl⟩
      obtain ⟨p, hp⟩ : ∃ p, y % 1024 = p := ⟨_, rfl⟩
      have hp2 : p < 1024 := hp ▸ Nat.mod_lt _ (by decide)
      obtain ⟨r, hr⟩ : ∃ r, k % D = r := ⟨_, rfl⟩
      have g5 : (k : Int) % (D : Int) = (r : Int) := by rw [← hr]; simp
      have g6 : ¬ (D : Int) = 0 := by omega
      have g7 : ((D : Int) == 0) = false := by rw [beq_eq_false_iff_ne]; omega
      have g8 : ((D : Int) != 0) = true := by rw [bne_iff_ne]; omega
      have HPE := Lib.hid (pageE hx hx2 hy hb hp)
      have HG5 := Lib.hid g5
      clear g5
      clear hr hp hx hy
      have hcw := hT.wt.cell
      have hk1 : k < 1024 := by omega
      have hbd : s.Bd 0 := (rmI_bd hR (Nat.le_trans hm (by omega))).1
      have hk2 : k < 2000001 := Nat.lt_trans e (by decide)
      have hp3 : (p : Int) < 1024 := by omega
      have hp4 : (0 : Int) ≤ (p : Int) := by omega
      obtain ⟨R, hRm⟩ : ∃ R, s.room = R := ⟨_, rfl⟩
      have hRle : R ≤ 4096 := by rw [← hRm]; have h1 := rooms_high s (by have := hR.hN; have := HN.out; omega); have h2 := hR.hN; have h3 := HN.out; unfold Sp.room; omega
      have RM := Lib.hid (fun (W : World) (h : WR w W db sb wb tb s seen) => h.room)
      have WT1 := Lib.hid (fun (W : World) (h : WR w W db sb wb tb s seen) => h.wr1 (r := (0, 0)) hR.al.ok hbd (p : Int) (x := k) (Nat.lt_trans e (by decide)))
      rw [hRm] at RM
      have hT0 := Lib.hid hT
      rcases rmI_write hR hp2 (b := [k]) (by simp) with ⟨c1, c2, ⟨r1, c3, c4⟩, c5⟩ | ⟨c1, c2, c3, c5⟩ | ⟨c1, c2, c5⟩
      · rw [c2] at WT1
        rw [hRm] at c3
        have RM2 := Lib.hid (fun (W : World) (h : WR w W db sb wb tb (s.write (p : Int) [k]).2 seen) => h.room)
        rw [c4] at RM2
        have i1 : decide ((0 : Int) < (R : Int)) = true := by rw [decide_eq_true_iff]; omega
        have i2 : (0 : Int) < (R : Int) := by omega
        have i2n : 0 < R := by omega
        generalize (s.write (p : Int) [k]).2 = s2 at *
        have HR2 := Lib.hid c5
        have HRR := Lib.hid c3
        clear hI hT hR hbd c3 c4 c5 hRm
        go_upto_region 10 with fail
        simp only [HPE.out]
        generalize wrap64 ((b : Int) + wrap64 ((k : Int) * (q : Int))) = j1
        generalize wrap64 ((k : Int) * (q : Int)) = j2
        go_upto_region 11 with (go_at_call 10; refine (RM.out _ hT0.out).mono ?_; rintro e w7 ⟨rfl, hq7⟩; have hc7 := hq7.out.wt.cell)
        clear hcw
        go_upto_region 12 with (go_at_call 11; refine (WT1.out _ hq7.out).mono ?_; rintro e w8 ⟨rfl, hq8⟩; have hc8 := hq8.out.wt.cell)
        obtain ⟨ld8, fz8⟩ := hq8.out.row.cell hp2
        rw [c1] at ld8
        have l8 := cell_lt' ld8
        clear WT1 hc7 RM hq7 hT0
        go_upto_region 14 with fail
        have SU : (R : Int) - 1 = (r1 : Int) := by have := HRR.out; omega
        go_upto_region 16 with (go_at_call 10; refine (RM2.out _ hq8.out).mono ?_; rintro e w9 ⟨rfl, hq9⟩)
        obtain ⟨ld9, fz9⟩ := hq9.out.row.cell hp2
        have l9 := cell_lt' ld9
        clear RM2 ld8 fz8 l8 hc8 SU
        have hS := Lib.hid (hq9.out.set hp2)
        go_upto_region 18 with fail
        refine take_last ?_
        intro W10 hW10
        rw [hW10] at hS
        clear hW10 hq9 hq8 ld9 fz9 l9
        have hR2 := HR2.out
        have CMI := hR2.commit (by have := HN.out; omega) (by have := HN.out; omega) (by omega)
        have hbd5 := (rmI_bd hR2 (by omega)).2
        have hN5 : 2 ≤ s2.c.d.N ∧ s2.c.d.N ≤ 4096 := by have := hR2.hN; have := HN.out; omega
        have CM := Lib.hid (fun (W : World) (h : WR w W db sb wb tb s2 (fun q => if q = p then true else seen q)) => h.cm0 hR2.al.ok hbd5 hN5)
        rw [CMI.1] at CM
        have HC2 := Lib.hid CMI.2
        have HRM := Lib.hid hR2
        clear CMI hR2 hbd5 hN5
        have hcT := hS.out.wt.cell
        have hlT := cell_lt' hcT
        have g6n : ¬ D = 0 := by omega
        iterate 20 go_step
        simp only [HG5.out]
        clear g6n
        by_cases hr0 : r = 0
        · simp only [hr0]
          clear HG5
          repeat go_step
          refine (CM.out _ hS.out).mono ?_
          rintro e w20 ⟨rfl, hq20⟩
          try dsimp only
          repeat go_step
          exact ⟨⟨k + 1, rfl, Nat.succ_le_of_lt e, Lib.hid ⟨_, _, _, _, NR.out _ _ _ _ _ hq20.out, HC2.out, by omega, rfl⟩⟩, measT e⟩
        · have g51 : ¬ (r : Int) = 0 := by omega
          have g52 : ((r : Int) == 0) = false := by rw [beq_eq_false_iff_ne]; exact g51
          repeat go_step
          exact ⟨⟨k + 1, rfl, Nat.succ_le_of_lt e, Lib.hid ⟨_, _, _, _, hS.out, HRM.out, by omega, rfl⟩⟩, measT e⟩
      · rw [c2] at WT1
        rw [hRm] at c3
        generalize (s.write (p : Int) [k]).2 = s2 at *
        have HR2 := Lib.hid c5
        subst c3
        clear hI hT hR hbd c5 hRm
        go_upto_region 10 with fail
        simp only [HPE.out]
        generalize wrap64 ((b : Int) + wrap64 ((k : Int) * (q : Int))) = j1
        generalize wrap64 ((k : Int) * (q : Int)) = j2
        go_upto_region 11 with (go_at_call 10; refine (RM.out _ hT0.out).mono ?_; rintro e w7 ⟨rfl, hq7⟩; have hc7 := hq7.out.wt.cell)
        clear hcw
        go_upto_region 12 with (go_at_call 11; refine (WT1.out _ hq7.out).mono ?_; rintro e w8 ⟨rfl, hq8⟩; have hc8 := hq8.out.wt.cell)
        obtain ⟨ld8, fz8⟩ := hq8.out.row.cell hp2
        rw [c1] at ld8
        have l8 := cell_lt' ld8
        clear WT1 hc7 RM hq7 hT0
        go_upto_region 18 with fail
        have hR2 := HR2.out
        have hS := Lib.hid hq8.out
        clear ld8 fz8 l8 hc8
        have CMI := hR2.commit (by have := HN.out; omega) (by have := HN.out; omega) (by omega)
        have hbd5 := (rmI_bd hR2 (by omega)).2
        have hN5 : 2 ≤ s2.c.d.N ∧ s2.c.d.N ≤ 4096 := by have := hR2.hN; have := HN.out; omega
        have CM := Lib.hid (fun (W : World) (h : WR w W db sb wb tb s2 (seen)) => h.cm0 hR2.al.ok hbd5 hN5)
        rw [CMI.1] at CM
        have HC2 := Lib.hid CMI.2
        have HRM := Lib.hid hR2
        clear CMI hR2 hbd5 hN5
        have hcT := hS.out.wt.cell
        have hlT := cell_lt' hcT
        have g6n : ¬ D = 0 := by omega
        iterate 20 go_step
        simp only [HG5.out]
        clear g6n
        by_cases hr0 : r = 0
        · simp only [hr0]
          clear HG5
          repeat go_step
          refine (CM.out _ hS.out).mono ?_
          rintro e w20 ⟨rfl, hq20⟩
          try dsimp only
          repeat go_step
          exact ⟨⟨k + 1, rfl, Nat.succ_le_of_lt e, Lib.hid ⟨_, _, _, _, NR.out _ _ _ _ _ hq20.out, HC2.out, by omega, rfl⟩⟩, measT e⟩
        · have g51 : ¬ (r : Int) = 0 := by omega
          have g52 : ((r : Int) == 0) = false := by rw [beq_eq_false_iff_ne]; exact g51
          repeat go_step
          exact ⟨⟨k + 1, rfl, Nat.succ_le_of_lt e, Lib.hid ⟨_, _, _, _, hS.out, HRM.out, by omega, rfl⟩⟩, measT e⟩
      · rw [c2] at WT1
        generalize (s.write (p : Int) [k]).2 = s2 at *
        have HR2 := Lib.hid c5
        clear hI hT hR hbd c5 hRm
        go_upto_region 10 with fail
        simp only [HPE.out]
        generalize wrap64 ((b : Int) + wrap64 ((k : Int) * (q : Int))) = j1
        generalize wrap64 ((k : Int) * (q : Int)) = j2
        go_upto_region 11 with (go_at_call 10; refine (RM.out _ hT0.out).mono ?_; rintro e w7 ⟨rfl, hq7⟩; have hc7 := hq7.out.wt.cell)
        clear hcw
        go_upto_region 12 with (go_at_call 11; refine (WT1.out _ hq7.out).mono ?_; rintro e w8 ⟨rfl, hq8⟩; have hc8 := hq8.out.wt.cell)
        obtain ⟨ld8, fz8⟩ := hq8.out.row.cell hp2
        rw [c1] at ld8
        have l8 := cell_lt' ld8
        clear WT1 hc7 RM hq7 hT0
        have hS := Lib.hid (hq8.out.set hp2)
        go_upto_region 18 with fail
        refine take_last ?_
        intro W10 hW10
        rw [hW10] at hS
        clear hW10 hq8 ld8 fz8 l8
        have hR2 := HR2.out
        have CMI := hR2.commit (by have := HN.out; omega) (by have := HN.out; omega) (by omega)
        have hbd5 := (rmI_bd hR2 (by omega)).2
        have hN5 : 2 ≤ s2.c.d.N ∧ s2.c.d.N ≤ 4096 := by have := hR2.hN; have := HN.out; omega
        have CM := Lib.hid (fun (W : World) (h : WR w W db sb wb tb s2 (fun q => if q = p then true else seen q)) => h.cm0 hR2.al.ok hbd5 hN5)
        rw [CMI.1] at CM
        have HC2 := Lib.hid CMI.2
        have HRM := Lib.hid hR2
        clear CMI hR2 hbd5 hN5
        have hcT := hS.out.wt.cell
        have hlT := cell_lt' hcT
        have g6n : ¬ D = 0 := by omega
        iterate 20 go_step
        simp only [HG5.out]
        clear g6n
        by_cases hr0 : r = 0
        · simp only [hr0]
          clear HG5
          repeat go_step
          refine (CM.out _ hS.out).mono ?_
          rintro e w20 ⟨rfl, hq20⟩
          try dsimp only
          repeat go_step
          exact ⟨⟨k + 1, rfl, Nat.succ_le_of_lt e, Lib.hid ⟨_, _, _, _, NR.out _ _ _ _ _ hq20.out, HC2.out, by omega, rfl⟩⟩, measT e⟩
        · have g51 : ¬ (r : Int) = 0 := by omega
          have g52 : ((r : Int) == 0) = false := by rw [beq_eq_false_iff_ne]; exact g51
          repeat go_step
          exact ⟨⟨k + 1, rfl, Nat.succ_le_of_lt e, Lib.hid ⟨_, _, _, _, hS.out, HRM.out, by omega, rfl⟩⟩, measT e⟩
    · have ek : k = 200 := by omega
      subst ek
      have WK := hT.wt.works
      clear hI hT hR HN NR
      go_wp2_with (go_at_call 13; refine WK.mono ?_; rintro e w15 ⟨rfl, hq15⟩)
      go_ret
      exact ⟨rfl, hq15⟩
end Go.Tb
set_option maxHeartbeats 1600000
namespace Go.Proofs.YthejkfnigalniaaGreatDoor
open Go.ChangeShapes Go.WideShapes Go.ChangeAt Go.RowKit Go.Tb
theorem own : ownKnob Tryz.prog.godebug = none := by kernel_rfl
theorem u8_wf {z : Int} (h : (Lit.int .u8 z).wf = true) : ∃ n : Nat, z = n ∧ n < 256 := by
  have : 0 ≤ z ∧ z ≤ 255 := by simpa [Lit.wf, IntKind.min, IntKind.max, IntKind.signed, IntKind.bits] using h
  exact ⟨z.toNat, by omega, by omega⟩
theorem u16_wf {z : Int} (h : (Lit.int .u16 z).wf = true) : ∃ n : Nat, z = n ∧ n < 65536 := by
  have : 0 ≤ z ∧ z ≤ 65535 := by simpa [Lit.wf, IntKind.min, IntKind.max, IntKind.signed, IntKind.bits] using h
  exact ⟨z.toNat, by omega, by omega⟩
noncomputable def wit (os : Os) : World := World.laidAll Tryz.prog os Rows.shadowRoomRow.laid
theorem wit_os (os : Os) : (wit os).os = os := World.laidAll_os _ _ _
theorem laid_met (os : Os) (args : Array Value) : laidMetH Tryz.prog Rows.shadowRoomRow.laid ((wit os).forCall (fun _ _ => 0) ⟨#[], args, []⟩).memory := by
  rw [MakeChecks.laidMetH_plain _ _ _ (by kernel_rfl)]
  have h : laidMet Tryz.prog Rows.shadowRoomRow.laid (wit os) := laidMet_of_run' 8 (by kernel_rfl) (by kernel_rfl)
  exact h.of_heap (by simp [World.memory, World.forCall, Input.heap])
theorem shadowRoom_lifted (os : Os) (started : os.Started) (H : Type) (enc : TypeId × Value → H) :
    ReturnsInHanded {} Tryz.checked os 3 .any (fun w args => (Rows.shadowRoomSpec.pre enc Tryz.prog Tryz.f3 Rows.shadowRoomRow.domain false w args ∧ laidMetH Tryz.prog Rows.shadowRoomRow.laid w) ∧ sizedMet enc Tryz.prog Tryz.f3 (OpenSpec.ofChange Rows.shadowRoomSpec) false w args)
      (Rows.shadowRoomSpec.post enc Tryz.prog Tryz.f3 false true false false) := by
  refine returnsInHanded_of_change_and (C := Tryz.checked) (X := fun w _ => laidMetH Tryz.prog Rows.shadowRoomRow.laid w) (fun _ _ _ hh h => h.of_heap hh) own started (by kernel_rfl) Tryz.func3
    (ChangeSpec.witness_shaped (enc := enc) (C := Tryz.checked) (os := os) (X := fun w _ => laidMetH Tryz.prog Rows.shadowRoomRow.laid w) false (wit os) #[.int .u8 0, .int .u16 0, .int .u16 0, .int .u8 0] 8 (wit_os os)
      (World.shaped_of_ZipB (by kernel_rfl) (by kernel_rfl)) (by kernel_rfl) (by kernel_rfl) (by kernel_rfl) (laid_met os _)) ?_
  intro W base args ds gs before hval0 hW hc _ hL _
  have hval : ∀ (j : Nat) t v, Tryz.f3.params[j]? = some t → args[j]? = some v → Value.okWide Tryz.prog W .any base t v := hval0
  have hW' := hW
  obtain ⟨p, q, hA0, hV, rfl, _, _⟩ := hW
  have hA : DataW.TrodAll enc Tryz.prog W 0 (fun _ => true) true Tryz.f3.params.toList args.toList ds p := hA0
  rw [Tryz.params3] at hA hval
  obtain ⟨v0, vs0, d0, ds0, p0, q0, hargs, rfl, rfl, h0, r0⟩ := trodAll_cons hA
  obtain ⟨v1, vs1, d1, ds1, p1, q1, ha1, rfl, rfl, h1, r1⟩ := trodAll_cons r0
  obtain ⟨v2, vs2, d2, ds2, p2, q2, ha2, rfl, rfl, h2, r2⟩ := trodAll_cons r1
  obtain ⟨v3, vs3, d3, ds3, p3, q3, ha3, rfl, rfl, h3, r3⟩ := trodAll_cons r2
  obtain ⟨rfl, rfl, rfl⟩ := trodAll_nil r3
  subst ha3
  subst ha2
  subst ha1
  obtain rfl : args = #[v0, v1, v2, v3] := by cases args; simp_all
  obtain ⟨x0, rfl, rfl, rfl, w0⟩ := open_int Tryz.underlying5 (hval 0 5 v0 rfl rfl) h0
  obtain ⟨x1, rfl, rfl, rfl, w1⟩ := open_int Tryz.underlying22 (hval 1 22 v1 rfl rfl) h1
  obtain ⟨x2, rfl, rfl, rfl, w2⟩ := open_int Tryz.underlying22 (hval 2 22 v2 rfl rfl) h2
  obtain ⟨x3, rfl, rfl, rfl, w3⟩ := open_int Tryz.underlying5 (hval 3 5 v3 rfl rfl) h3
  obtain ⟨rfl, rfl⟩ := trodVars_none hV
  simp only [List.append_nil, List.nil_append] at hW'
  obtain ⟨a, rfl, hl0⟩ := u8_wf w0
  obtain ⟨b, rfl, hl1⟩ := u16_wf w1
  obtain ⟨c, rfl, hl2⟩ := u16_wf w2
  obtain ⟨d, rfl, hl3⟩ := u8_wf w3
  refine (law3_ok W a b c d hl0 hl1 hl2 hl3).mono fun e W' ⟨he, hb⟩ => ?_
  subst he
  exact ⟨_, rfl, [.lit (.int .u8 (a : Int)), .lit (.int .u16 (b : Int)), .lit (.int .u16 (c : Int)), .lit (.int .u8 (d : Int))], [], _, [], _, [], hW', trodAll_mk1 (shut_bool Tryz.underlying4 _), (trodAll_cons_mk (shut_int Tryz.underlying5 w0) (trodAll_cons_mk (shut_int Tryz.underlying22 w1) (trodAll_cons_mk (shut_int Tryz.underlying22 w2) (trodAll_cons_mk (shut_int Tryz.underlying5 w3) trodAll_mk0)))), rfl, hb.out.frame _, fun h => by cases h⟩
theorem shadowRoom_row : Rows.ShadowRoomSaid :=
  OpenClaim.holds_of_wide 3 Tryz.f3 rfl rfl rfl rfl rfl rfl rfl ⟨rfl, rfl, rfl, rfl, rfl⟩ rfl rfl rfl rfl rfl (by kernel_rfl) Tryz.func3 (by kernel_rfl)
    (of_decide_eq_true (by kernel_rfl)) (by unfold Func.isWrapper; first | (rw [if_pos (by decide +kernel)]; kernel_rfl) | (rw [if_neg (by decide +kernel)]; exact ⟨rfl, rfl⟩))
    (fun os started H enc _ => shadowRoom_lifted os started H enc)
theorem shadowRoom_holds : Rows.ShadowRoomCardSaid :=
  Claim7.holds_tied_plain_at .later [] _ _ _ _ shadowRoom_row (fun _ h => by cases h) (by kernel_rfl) (fun _ h => by cases h) shadowRoom_row_tie rfl ⟨rfl, rfl⟩ (by kernel_rfl) rfl
    (fun f fn hf hfn => by
      obtain rfl : f = 3 := Option.some.inj ((show Tryz.prog.funcNamed "aumbry/aumbrylaw08.ShadowRoom" = some 3 by kernel_rfl).symm.trans hf) |>.symm
      obtain rfl : fn = Tryz.f3 := (Option.some.inj (Tryz.func3.symm.trans hfn)).symm
      exact ⟨by kernel_rfl, fun j t ht => by
        rw [Tryz.params3] at ht
        have hm : t ∈ [5, 22, 22, 5] := by simpa using Array.mem_of_getElem? ht
        have hall : ([5, 22, 22, 5].all fun u => !Tryz.prog.wantsStandIn u) = true := by kernel_rfl
        exact (show Tryz.prog.wantsStandIn t = false by simpa using List.all_eq_true.1 hall t hm)⟩)
    (by kernel_rfl)
end Go.Proofs.YthejkfnigalniaaGreatDoor
