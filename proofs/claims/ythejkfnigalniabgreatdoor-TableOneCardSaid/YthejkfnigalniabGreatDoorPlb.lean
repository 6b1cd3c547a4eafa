/- Plain Lean: a model of the shadow space: what is published, what a cache does, what a table over it says. Each theorem says its own conditions. -/
import Derived.Test.YthejkfnigalniabGreatDoorPla
set_option linter.unusedVariables false
set_option linter.unusedSimpArgs false
set_option maxRecDepth 100000
namespace Go.Sp
structure Dk.Al (d : Dk) : Prop where
  dead : d.dead = false
  ar : d.ar = 0
theorem Dk.tick_al {d : Dk} (h : d.Al) : d.tick.Al := ⟨by simp [Dk.tick, h.1, h.2], by simp [Dk.tick, h.2]⟩
theorem Dk.write_al {d : Dk} (h : d.Al) {s : Nat} {b : Bs} (hs : s < d.N) (hb : b.length ≤ 256) : d.write s b = (0, (d.push s b).tick) := by
  have h1 : ¬ (d.N ≤ s ∨ 256 < b.length) := by omega
  have h2 : (d.push s b).tick.dead = false := (Dk.tick_al (d := d.push s b) ⟨h.1, h.2⟩).1
  unfold Dk.write
  simp only [h.1, h1, if_false, Dk.pw, h2]
  simp
theorem Dk.push_al {d : Dk} (h : d.Al) (s : Nat) (b : Bs) : (d.push s b).tick.Al := Dk.tick_al ⟨h.1, h.2⟩
theorem Dk.barrier_al {d : Dk} (h : d.Al) : d.barrier = (0, d.tick.flat) := by
  unfold Dk.barrier
  simp [h.1, (Dk.tick_al h).1]
theorem Ca.cw_al {c : Ca} (hok : c.Ok) (h : c.d.Al) (s : Nat) : (c.cw s).1 = 0 ∧ (c.cw s).2.d.Al := by
  unfold Ca.cw
  split
  · exact ⟨rfl, h⟩
  · rename_i f hf
    obtain ⟨h1, _, h3⟩ := hok.dom s f hf
    split
    · rw [Dk.write_al h h1 (by omega)]; exact ⟨rfl, Dk.push_al h _ _⟩
    · exact ⟨rfl, h⟩
theorem Ca.out_al {c : Ca} (hok : c.Ok) (h : c.d.Al) (s : Nat) : (c.out s).1 = 0 ∧ (c.out s).2.d.Al := by
  obtain ⟨h1, h2⟩ := Ca.cw_al hok h s
  unfold Ca.out
  rw [if_pos h1]
  exact ⟨rfl, h2⟩
theorem Ca.room_al {c : Ca} (hok : c.Ok) (h : c.d.Al) (hM : 1 ≤ c.M) : c.room.1 = 0 ∧ c.room.2.d.Al := by
  unfold Ca.room
  split
  · exact ⟨rfl, h⟩
  · rename_i hk
    obtain ⟨k, e, _⟩ := Ca.oldest_spec hok (by intro e; rw [e] at hk; simp at hk; omega)
    rw [e]
    exact Ca.out_al hok h k
theorem Ca.write_al {c : Ca} (hok : c.Ok) (h : c.d.Al) (hM : 1 ≤ c.M) {s : Nat} {b : Bs} (hs : s < c.d.N) (hb : b.length ≤ 256) : (c.write s b).1 = 0 ∧ (c.write s b).2.d.Al := by
  obtain ⟨h1, h2⟩ := Ca.room_al hok h hM
  unfold Ca.write
  have hm : c.may s = 0 := by unfold Ca.may; rw [h.1]; simp; omega
  have h3 : ¬ 256 < b.length := by omega
  have h0 : ¬ (0 : Nat) ≠ 0 := fun h => h rfl
  simp only [hm, h0, if_false, h3, h1]
  split
  · exact ⟨rfl, h⟩
  · exact ⟨rfl, h2⟩
theorem Ca.flushL_al : ∀ (l : List Nat) {c : Ca}, c.Ok → c.d.Al → (c.flushL l).1 = 0 ∧ (c.flushL l).2.d.Al
  | [], c, _, h => ⟨rfl, h⟩
  | s :: l, c, hok, h => by
    obtain ⟨h1, h2⟩ := Ca.cw_al hok h s
    unfold Ca.flushL
    rw [if_neg (by omega)]
    exact Ca.flushL_al l ((hok.cw s).clean s) h2
theorem Ca.flush_al {c : Ca} (hok : c.Ok) (h : c.d.Al) : c.flush.1 = 0 ∧ c.flush.2.d.Al ∧ c.flush.2.d.P = [] := by
  obtain ⟨h1, h2⟩ := Ca.flushL_al c.keys hok h
  have e : c.flush = (0, { (c.flushL c.keys).2 with d := (c.flushL c.keys).2.d.tick.flat }) := by
    unfold Ca.flush
    rw [if_neg (by rw [h.1]; decide), if_neg (by omega), Dk.barrier_al h2]
  rw [e]
  exact ⟨rfl, ⟨(Dk.tick_al h2).1, (Dk.tick_al h2).2⟩, rfl⟩
structure Sp.Al (s : Sp) : Prop where
  ok : s.Ok
  al : s.c.d.Al
theorem Sp.put_al {s : Sp} (h : s.Al) {x k : Nat} {b : Bs} (hk : 0 < k) (hx : x < s.c.d.N) (hb : b.length ≤ 248) : (s.put x k b).1 = 0 ∧ (s.put x k b).2.Al := by
  have hl : (sealed k b).length ≤ 256 := by
    unfold sealed
    have : ∀ x n, (le x n).length = n := fun x n => by induction n generalizing x with | zero => rfl | succ n ih => simp [le, ih]
    rw [List.length_append, this, pad_len (by simp [front]; omega)]
    decide
  obtain ⟨h1, h2⟩ := Ca.write_al h.ok.c h.al h.ok.M hx hl
  have hok := Sp.Ok.put h.ok (x := x) (k := k) (b := b)
  rw [Sp.put_eq hk hb] at hok ⊢
  exact ⟨h1, hok, h2⟩
theorem Sp.put_rooms {s : Sp} {x k : Nat} {b : Bs} : (s.put x k b).2.rooms = s.rooms := by
  unfold Sp.rooms
  have hN : (s.put x k b).2.c.d.N = s.c.d.N := (Sp.put_in).N
  rw [hN]
  refine List.filter_congr fun y _ => ?_
  unfold Sp.taken
  rw [(Sp.put_same).1, (Sp.put_same).2]
theorem mem_pgs {f : Nat → Nat} {p : Nat} : p ∈ pgs f ↔ p < 1024 ∧ 0 < f p := by simp [pgs]
theorem mem_secs {f : Nat → Nat} {y : Nat} : y ∈ secs f ↔ ∃ p, p < 1024 ∧ 0 < f p ∧ f p = y := by
  unfold secs
  rw [List.mem_map]
  constructor
  · rintro ⟨p, h, e⟩; exact ⟨p, (mem_pgs.1 h).1, (mem_pgs.1 h).2, e⟩
  · rintro ⟨p, h1, h2, e⟩; exact ⟨p, mem_pgs.2 ⟨h1, h2⟩, e⟩
theorem Sp.room_get {s : Sp} (h : 0 < s.rooms.length) : s.rooms.getD 0 0 ∈ s.rooms := by
  cases e : s.rooms with
  | nil => rw [e] at h; cases h
  | cons a l => simp
theorem rooms_setOwn {s : Sp} {p x : Nat} (hp : p < 1024) (ht : s.turned p = false) (hx : x ∈ s.rooms) : (s.setOwn p x).rooms.length + 1 = s.rooms.length := by
  have hx1 := mem_rooms.1 hx
  have hx2 := rooms_two hx
  have key : ((List.range s.c.d.N).filter fun x => !s.taken x).length = ((List.range s.c.d.N).filter fun y => !(s.setOwn p x).taken y).length + 1 := by
   refine filter_add (s := x) ?_ ?_ (fun y hy => ?_) _ List.nodup_range (List.mem_range.2 hx1.1)
   · have : x ∈ secs (s.setOwn p x).own := mem_secs.2 ⟨p, hp, by show 0 < upd s.own p x p; rw [upd_same]; omega, upd_same _ _ _⟩
     simp [Sp.taken, this]
   · simp [hx1.2]
   · congr 1
     have hiff : y ∈ secs (s.setOwn p x).own ∨ y ∈ secs s.r.pg ↔ y ∈ secs s.own ∨ y ∈ secs s.r.pg := by
       constructor
       · rintro (h | h)
         · obtain ⟨q, h1, h2, h3⟩ := mem_secs.1 h
           by_cases e : q = p
           · subst e; rw [show (s.setOwn q x).own q = x from upd_same _ _ _] at h3; exact absurd h3.symm hy
           · rw [show (s.setOwn p x).own q = s.own q from upd_other _ e _] at h2 h3
             exact .inl (mem_secs.2 ⟨q, h1, h2, h3⟩)
         · exact .inr h
       · rintro (h | h)
         · obtain ⟨q, h1, h2, h3⟩ := mem_secs.1 h
           by_cases e : q = p
           · subst e
             have : s.own q = s.r.pg q := by
               unfold Sp.turned at ht
               rw [decide_eq_false_iff_not] at ht
               by_cases hh : s.own q = s.r.pg q
               · exact hh
               · exact absurd ⟨h2, hh⟩ ht
             exact .inr (mem_secs.2 ⟨q, h1, this ▸ h2, this ▸ h3⟩)
           · exact .inl (mem_secs.2 ⟨q, h1, by rw [show (s.setOwn p x).own q = s.own q from upd_other _ e _]; exact h2, by rw [show (s.setOwn p x).own q = s.own q from upd_other _ e _]; exact h3⟩)
         · exact .inr h
     have hb : (decide (y ∈ secs (s.setOwn p x).own) || decide (y ∈ secs s.r.pg)) = (decide (y ∈ secs s.own) || decide (y ∈ secs s.r.pg)) := by
       rw [← Bool.decide_or, ← Bool.decide_or]; exact decide_eq_decide.2 hiff
     unfold Sp.taken
     have hr : (s.setOwn p x).r = s.r := rfl
     rw [hr]
     have e1 : ∀ (l : List Nat), l.contains y = decide (y ∈ l) := fun l => by simp
     rw [e1, e1, e1]
     have sw : ∀ a b c d : Bool, (a || b || c || d) = (a || (c || b) || d) := by decide
     rw [sw, sw (decide (y < 2)) (decide (y ∈ secs s.r.pg)), hb]
  exact key.symm
theorem Sp.write_fresh {s : Sp} (h : s.Al) {p : Nat} (hp : p < 1024) (ht : s.turned p = false) (hr : 18 < s.rooms.length) {b : Bs} (hb : b.length ≤ 248) :
    (s.write (p : Int) b).1 = 0 ∧ (s.write (p : Int) b).2.Al ∧ (s.write (p : Int) b).2.r = s.r ∧ (s.write (p : Int) b).2.own = upd s.own p (s.rooms.getD 0 0) ∧ 2 ≤ s.rooms.getD 0 0 ∧ (s.write (p : Int) b).2.rooms.length + 1 = s.rooms.length ∧ Ca.In s.c (s.write (p : Int) b).2.c 2 := by
  have hx := Sp.room_get (s := s) (by omega)
  have hx1 := (mem_rooms.1 hx).1
  obtain ⟨h1, h2⟩ := Sp.put_al h (x := s.rooms.getD 0 0) (k := 3) (b := b) (by decide) hx1 hb
  have hm : s.may (p : Int) = 0 := by unfold Sp.may; rw [h.al.1]; simp; omega
  have e : s.write (p : Int) b = (0, (s.put (s.rooms.getD 0 0) 3 b).2.setOwn p (s.rooms.getD 0 0)) := by
    unfold Sp.write
    rw [if_neg (by omega), if_neg (by omega), if_neg (by simp [ht]), if_neg (by omega), if_neg (by omega)]
    rfl
  have hN : (s.put (s.rooms.getD 0 0) 3 b).2.c.d.N = s.c.d.N := (Sp.put_in).N
  rw [e]
  refine ⟨rfl, ⟨⟨h2.ok.c, h2.ok.M, fun q => ?_, h2.ok.pg, h2.ok.at'⟩, h2.al⟩, (Sp.put_same).2, ?_, rooms_two hx, ?_, Sp.put_in⟩
  · show upd (s.put (s.rooms.getD 0 0) 3 b).2.own p (s.rooms.getD 0 0) q < (s.put (s.rooms.getD 0 0) 3 b).2.c.d.N
    unfold upd
    split
    · rw [hN]; exact hx1
    · exact h2.ok.own q
  · show upd (s.put (s.rooms.getD 0 0) 3 b).2.own p (s.rooms.getD 0 0) = _
    rw [(Sp.put_same).1]
  · have hr2 := Sp.put_rooms (s := s) (x := s.rooms.getD 0 0) (k := 3) (b := b)
    have ht2 : (s.put (s.rooms.getD 0 0) 3 b).2.turned p = false := by
      unfold Sp.turned; rw [(Sp.put_same).1, (Sp.put_same).2]; exact ht
    have := rooms_setOwn (s := (s.put (s.rooms.getD 0 0) 3 b).2) (p := p) (x := s.rooms.getD 0 0) hp ht2 (by rw [hr2]; exact hx)
    rw [hr2] at this
    exact this
theorem Sp.write_full {s : Sp} (h : s.Al) {p : Nat} (hp : p < 1024) (ht : s.turned p = false) (hr : s.rooms.length ≤ 18) {b : Bs} (hb : b.length ≤ 248) : s.write (p : Int) b = (6, s) := by
  have hm : s.may (p : Int) = 0 := by unfold Sp.may; rw [h.al.1]; simp; omega
  unfold Sp.write
  rw [if_neg (by omega), if_neg (by omega), if_neg (by simp [ht]), if_pos hr]
theorem Sp.write_again {s : Sp} (h : s.Al) {p : Nat} (hp : p < 1024) (ht : s.turned p = true) {b : Bs} (hb : b.length ≤ 248) :
    (s.write (p : Int) b).1 = 0 ∧ (s.write (p : Int) b).2.Al ∧ (s.write (p : Int) b).2.r = s.r ∧ (s.write (p : Int) b).2.own = s.own ∧ (s.write (p : Int) b).2.rooms = s.rooms ∧ Ca.In s.c (s.write (p : Int) b).2.c 2 := by
  have hm : s.may (p : Int) = 0 := by unfold Sp.may; rw [h.al.1]; simp; omega
  obtain ⟨h1, h2⟩ := Sp.put_al h (x := s.own p) (k := 3) (b := b) (by decide) (h.ok.own p) hb
  have e : s.write (p : Int) b = s.put (s.own p) 3 b := by
    unfold Sp.write
    rw [if_neg (by omega), if_neg (by omega), if_pos (by simp [ht])]
    rfl
  rw [e]
  exact ⟨h1, h2, (Sp.put_same).2, (Sp.put_same).1, Sp.put_rooms, Sp.put_in⟩
theorem Sp.putL_al : ∀ (l : List (Nat × Nat)) {s : Sp} (f : Nat → Nat), s.Al → (∀ q ∈ l, q.1 < s.c.d.N ∧ (part s.own q.2).length ≤ 248) →
    (s.putL f l).1 = 0 ∧ (s.putL f l).2.2.Al ∧ (s.putL f l).2.2.r = s.r ∧ (s.putL f l).2.2.own = s.own ∧ Ca.In s.c (s.putL f l).2.2.c (2 * l.length)
  | [], s, f, h, _ => ⟨rfl, h, rfl, rfl, Ca.In.refl _ _⟩
  | (x, i) :: l, s, f, h, hl => by
    obtain ⟨h1, h2⟩ := hl (x, i) List.mem_cons_self
    obtain ⟨h3, h4⟩ := Sp.put_al h (x := x) (k := 2) (b := part s.own i) (by decide) h1 h2
    have hN : (s.put x 2 (part s.own i)).2.c.d.N = s.c.d.N := (Sp.put_in).N
    obtain ⟨g1, g2, g3, g4, g5⟩ := Sp.putL_al l (s := (s.put x 2 (part s.own i)).2) (upd f i x) h4 (fun q hq => by rw [hN, (Sp.put_same).1]; exact hl q (List.mem_cons_of_mem _ hq))
    unfold Sp.putL
    rw [if_neg (by omega)]
    exact ⟨g1, g2, g3.trans (Sp.put_same).2, g4.trans (Sp.put_same).1, ((Sp.put_in).trans g5).mono (by simp; omega)⟩
theorem trim0_le (l : List Nat) : (trim0 l).length ≤ l.length := by
  unfold trim0
  rw [List.length_reverse]
  have := (List.dropWhile_sublist (fun x : Nat => x == 0) (l := l.reverse)).length_le
  simpa using this
theorem le_two (x : Nat) : (le x 2).length = 2 := rfl
theorem flat_two : ∀ l : List Nat, (l.flatMap fun s => le s 2).length = 2 * l.length
  | [] => rfl
  | a :: l => by rw [List.flatMap_cons, List.length_append, flat_two l, le_two]; simp; omega
theorem part_le (f : Nat → Nat) (i : Nat) : (part f i).length ≤ 248 := by
  unfold part
  rw [flat_two]
  have h1 := trim0_le (pgPart f i)
  have h2 : (pgPart f i).length ≤ 124 := by unfold pgPart; simp; omega
  omega
theorem turnedP_le (f g : Nat → Nat) : (turnedP f g).length ≤ 9 := by
  have := List.length_filter_le (fun i => decide (pgPart f i ≠ pgPart g i)) (List.range 9)
  simpa [turnedP] using this
theorem full_le (s : Sp) : s.full.length ≤ 9 := Nat.le_trans (List.length_filter_le _ _) (turnedP_le _ _)
theorem full_same {s : Sp} (h : s.own = s.r.pg) : s.full = [] := by
  unfold Sp.full turnedP
  rw [h]
  simp
theorem Sp.parts_al {s : Sp} (h : s.Al) (hr : s.full.length ≤ s.rooms.length) :
    s.parts.1 = 0 ∧ s.parts.2.2.Al ∧ s.parts.2.2.r = s.r ∧ s.parts.2.2.own = s.own ∧ Ca.In s.c s.parts.2.2.c 18 := by
  unfold Sp.parts
  rw [if_neg (by omega)]
  obtain ⟨h1, h2, h3, h4, h5⟩ := Sp.putL_al (s.rooms.zip s.full) (s := s) s.at0 h (fun q hq => ⟨(mem_rooms.1 (List.of_mem_zip (show (q.1, q.2) ∈ _ from hq)).1).1, part_le _ _⟩)
  exact ⟨h1, h2, h3, h4, h5.mono (by rw [List.length_zip]; have := full_le s; omega)⟩
theorem putL_at : ∀ (l : List (Nat × Nat)) (s : Sp) (f : Nat → Nat), ∀ i, (s.putL f l).2.1 i = f i ∨ ∃ q ∈ l, (s.putL f l).2.1 i = q.1
  | [], s, f, i => .inl rfl
  | (x, j) :: l, s, f, i => by
    have hu : upd f j x i = f i ∨ ∃ q ∈ (x, j) :: l, upd f j x i = q.1 := by
      unfold upd; split
      · exact .inr ⟨(x, j), List.mem_cons_self, rfl⟩
      · exact .inl rfl
    unfold Sp.putL
    split
    · exact hu
    · rcases putL_at l (s.put x 2 (part s.own j)).2 (upd f j x) i with h | ⟨q, h1, h2⟩
      · rw [h]; exact hu
      · exact .inr ⟨q, List.mem_cons_of_mem _ h1, h2⟩
theorem Sp.parts_at {s : Sp} (h : s.Ok) (hN : 0 < s.c.d.N) (i : Nat) : s.parts.2.1 i < s.c.d.N := by
  unfold Sp.parts
  split
  · exact h.at' i
  · rcases putL_at (s.rooms.zip s.full) s s.at0 i with e | ⟨q, h1, e⟩
    · rw [e]; unfold Sp.at0; split
      · exact hN
      · exact h.at' i
    · rw [e]; exact (mem_rooms.1 (List.of_mem_zip (show (q.1, q.2) ∈ _ from h1)).1).1
theorem sealB_len (k : Nat) (b : Bs) : (sealB k b).2.length ≤ 256 := by
  unfold sealB
  split
  · simp
  · unfold sealed
    have : ∀ x n, (le x n).length = n := fun x n => by induction n generalizing x with | zero => rfl | succ n ih => simp [le, ih]
    rw [List.length_append, this, pad_len (by simp [front]; omega)]
    decide
theorem Sp.commit_al {s : Sp} (h : s.Al) (hr : s.full.length ≤ s.rooms.length) (hN : 2 ≤ s.c.d.N) {mt : Bs} (hm : mt.length ≤ 200) (he : s.r.ep < 4000000000) :
    (s.commit mt).1 = 0 ∧ (s.commit mt).2.Al ∧ (s.commit mt).2.r = ⟨s.r.ep + 1, s.parts.2.1, mt, s.own⟩ ∧ (s.commit mt).2.own = s.own ∧ Ca.In s.c (s.commit mt).2.c (s.c.d.N + 20) := by
  obtain ⟨p1, p2, p3, p4, p5⟩ := Sp.parts_al h hr
  obtain ⟨f1, f2, f3⟩ := Ca.flush_al p2.ok.c p2.al
  have fi := Ca.flush_in s.parts.2.2.c
  have hon : s.on = 0 := by unfold Sp.on; rw [h.al.1]; rfl
  have he2 : ¬ (s.r.ep + 1) % 4294967296 = 0 := by omega
  have hN2 : s.parts.2.2.c.flush.2.d.N = s.c.d.N := fi.N.trans p5.N
  have hm2 : ¬ 200 < mt.length := by omega
  have hw := Dk.write_al f2 (s := (s.r.ep + 1) % 2) (b := (sealB 1 (bodyR (s.next s.parts.2.1 mt))).2) (by rw [hN2]; omega) (sealB_len _ _)
  have hw' := Dk.push_al f2 ((s.r.ep + 1) % 2) (sealB 1 (bodyR (s.next s.parts.2.1 mt))).2
  obtain ⟨d', hd'⟩ : ∃ d', (s.parts.2.2.c.flush.2.d.push ((s.r.ep + 1) % 2) (sealB 1 (bodyR (s.next s.parts.2.1 mt))).2).tick = d' := ⟨_, rfl⟩
  rw [hd'] at hw hw'
  have e : s.commit mt = (0, { c := { s.parts.2.2.c.flush.2 with d := d'.tick.flat }, r := s.next s.parts.2.1 mt, own := s.own }) := by
    unfold Sp.commit
    rw [if_neg (by omega), if_neg hm2, if_neg he2, if_neg (by omega), if_neg (by omega)]
    dsimp only
    rw [show (s.next s.parts.2.1 mt).ep = s.r.ep + 1 from rfl, hw, if_neg (by simp), Dk.barrier_al hw', if_neg (by simp)]
  have hin : Ca.In s.c { s.parts.2.2.c.flush.2 with d := d'.tick.flat } (s.c.d.N + 20) := by
    refine ((p5.trans fi).trans (?_ : Ca.In _ _ 1)).mono (by rw [p5.N]; omega)
    refine ⟨⟨by rw [← hd']; rfl, rfl, Nat.le_succ _, by simp [Dk.flat]⟩, fun hk => ⟨?_, fun t f hf => ?_, hk.inj⟩⟩
    · rw [← hd']; exact (Dk.Ok.tick (hk.d.push (by rw [hN2]; omega) (sealB_len _ _))).flat
    · have := hk.dom t f hf
      rw [← hd']; exact this
  have hN3 : d'.tick.flat.N = s.c.d.N := by rw [← hd']; exact hN2
  rw [e]
  refine ⟨rfl, ⟨⟨hin.ok h.ok.c, by show 1 ≤ s.parts.2.2.c.flush.2.M; rw [fi.M]; exact p2.ok.M, fun p => ?_, fun p => ?_, fun i => ?_⟩, ⟨(Dk.tick_al hw').1, (Dk.tick_al hw').2⟩⟩, rfl, rfl, hin⟩
  · show s.own p < d'.tick.flat.N; rw [hN3]; exact h.ok.own p
  · show s.own p < d'.tick.flat.N; rw [hN3]; exact h.ok.own p
  · show s.parts.2.1 i < d'.tick.flat.N; rw [hN3]; exact Sp.parts_at h.ok (by omega) i
end Go.Sp
namespace Go.Sp
theorem two_range : ∀ N, 2 ≤ N → ((List.range N).filter fun x => !decide (x < 2)).length = N - 2
  | 0, h => by omega
  | 1, h => by omega
  | 2, _ => rfl
  | N + 3, _ => by
    have ih := two_range (N + 2) (by omega)
    rw [List.range_succ, List.filter_append, List.length_append, ih]
    have : ¬ N + 2 < 2 := by omega
    simp [this]
theorem del_le (p : Nat → Bool) : ∀ (L l : List Nat), l.Nodup → (l.filter p).length ≤ (l.filter fun x => p x && !L.contains x).length + L.length
  | [], l, _ => by simp
  | a :: L, l, hn => by
    have ih := del_le p L l hn
    by_cases ha : a ∈ l ∧ (p a && !L.contains a) = true
    · have := filter_add (s := a) (p := fun x => p x && !(a :: L).contains x) (q := fun x => p x && !L.contains x) (by simp) ha.2 (fun t ht => by
        have hh : (t == a) = false := by simpa using ht
        simp only [List.contains_cons, hh, Bool.false_or]) l hn ha.1
      simp only [List.length_cons]
      omega
    · have : l.filter (fun x => p x && !(a :: L).contains x) = l.filter (fun x => p x && !L.contains x) := by
        refine List.filter_congr fun t ht => ?_
        by_cases e : t = a
        · subst e
          have : (p t && !L.contains t) = false := by
            cases h : (p t && !L.contains t) with
            | false => rfl
            | true => exact absurd ⟨ht, h⟩ ha
          rw [this]
          simp
        · have hh : (t == a) = false := by simpa using e
          simp only [List.contains_cons, hh, Bool.false_or]
      rw [this]
      simp only [List.length_cons]
      omega
theorem rooms_low {s : Sp} (h1 : ∀ p, p < 1024 → s.own p = 0) (h2 : ∀ p, p < 1024 → s.r.pg p = 0) (hN : 2 ≤ s.c.d.N) : s.c.d.N ≤ s.rooms.length + 11 := by
  have hn : ∀ f : Nat → Nat, (∀ p, p < 1024 → f p = 0) → secs f = [] := fun f hf => by
    cases e : secs f with
    | nil => rfl
    | cons a l =>
      obtain ⟨p, h1, h2, _⟩ := mem_secs.1 (show a ∈ secs f by rw [e]; exact List.mem_cons_self)
      have := hf p h1; omega
  have e : s.rooms = (List.range s.c.d.N).filter fun x => !decide (x < 2) && !((List.range 9).map s.r.at').contains x := by
    unfold Sp.rooms
    refine List.filter_congr fun x _ => ?_
    unfold Sp.taken
    rw [hn _ h1, hn _ h2]
    have : ((List.range 9).any fun i => s.r.at' i == x) = ((List.range 9).map s.r.at').contains x := by
      rw [Bool.eq_iff_iff, List.any_eq_true, List.contains_iff_mem, List.mem_map]
      constructor
      · rintro ⟨i, h, e⟩; exact ⟨i, h, by simpa using e⟩
      · rintro ⟨i, h, e⟩; exact ⟨i, h, by simpa using e⟩
    rw [this]
    simp
  have := del_le (fun x => !decide (x < 2)) ((List.range 9).map s.r.at') (List.range s.c.d.N) List.nodup_range
  rw [two_range _ hN, ← e] at this
  simp at this
  omega
theorem filter_mono {p q : Nat → Bool} (h : ∀ x, p x = true → q x = true) : ∀ l : List Nat, (l.filter p).length ≤ (l.filter q).length
  | [] => Nat.le_refl _
  | a :: l => by
    have ih := filter_mono h l
    by_cases hp : p a = true
    · simp [List.filter_cons, hp, h a hp, ih]
    · by_cases hq : q a = true
      · simp [List.filter_cons, hp, hq]; omega
      · simp [List.filter_cons, hp, hq, ih]
theorem rooms_high (s : Sp) (hN : 2 ≤ s.c.d.N) : s.rooms.length + 2 ≤ s.c.d.N := by
  have h := filter_mono (p := fun x => !s.taken x) (q := fun x => !decide (x < 2)) (fun x hx => by
    have : s.taken x = false := by simpa using hx
    unfold Sp.taken at this
    simp only [Bool.or_eq_false_iff] at this
    rw [this.1.1.1]; rfl) (List.range s.c.d.N)
  rw [two_range _ hN] at h
  have : s.rooms.length ≤ s.c.d.N - 2 := h
  omega
theorem rooms_sp0 (N F : Nat) (h : 16 ≤ N) : (sp0 N F).rooms.length = N - 2 := by
  have e : (sp0 N F).rooms = (List.range N).filter fun x => !decide (x < 2) := by
    unfold Sp.rooms
    refine List.filter_congr fun x _ => ?_
    unfold Sp.taken
    rw [show (sp0 N F).r.pg = fun _ => 0 from rfl, show (sp0 N F).own = fun _ => 0 from rfl, secs_zero]
    have : ∀ i, (sp0 N F).r.at' i = 0 := fun _ => rfl
    simp only [this]
    by_cases hx : x < 2
    · simp [hx]
    · have : ¬ 0 = x := by omega
      simp [hx, this]
  rw [e]
  exact two_range N (by omega)
theorem sp0_al (N F : Nat) (h : 16 ≤ N) (hF : 1 ≤ F) : (sp0 N F).Al := ⟨sp0_ok N F h hF, ⟨rfl, rfl⟩⟩
theorem Sp.drop_on {s : Sp} (h : s.Al) {p : Nat} (hp : p < 1024) (h0 : s.own p ≠ 0) : s.drop (p : Int) = (0, s.setOwn p 0) ∧ (s.setOwn p 0).drop (p : Int) = (7, s.setOwn p 0) ∧ (s.setOwn p 0).Al := by
  have hm : s.may (p : Int) = 0 := by unfold Sp.may; rw [h.al.1]; simp; omega
  have hm2 : (s.setOwn p 0).may (p : Int) = 0 := hm
  have h2 : (s.setOwn p 0).own p = 0 := upd_same _ _ _
  have hN : 0 < s.c.d.N := Nat.lt_of_le_of_lt (Nat.zero_le _) (h.ok.own p)
  refine ⟨?_, ?_, ⟨⟨h.ok.c, h.ok.M, fun q => ?_, h.ok.pg, h.ok.at'⟩, h.al⟩⟩
  · unfold Sp.drop; rw [if_neg (by omega), if_neg (by simpa using h0)]; rfl
  · unfold Sp.drop; rw [if_neg (by omega), if_pos (by simpa using h2)]
  · show upd s.own p 0 q < s.c.d.N
    unfold upd; split
    · exact hN
    · exact h.ok.own q
theorem part_zero {f : Nat → Nat} (h : ∀ p, p < 1024 → f p = 0) {i : Nat} (hi : i < 9) : part f i = [] := by
  have e : pgPart f i = pgPart (fun _ => 0) i := by
    unfold pgPart
    rw [List.map_congr_left (g := fun _ => 0) fun p hp => h p (List.mem_range.1 hp)]
  unfold part
  rw [e]
  have : ∀ i, i < 9 → trim0 (pgPart (fun _ => 0) i) = [] := by decide +kernel
  rw [this i hi]
  rfl
theorem full_zero {s : Sp} (h : ∀ p, p < 1024 → s.own p = 0) : s.full = [] := by
  unfold Sp.full
  rw [List.filter_eq_nil_iff]
  intro i hi
  have : i < 9 := by unfold turnedP at hi; simp at hi; exact hi.1
  rw [part_zero h this]
  simp
theorem pgs_none {f : Nat → Nat} (h : ∀ p, p < 1024 → f p = 0) : pgs f = [] := by
  unfold pgs
  rw [List.filter_eq_nil_iff]
  intro p hp
  rw [h p (List.mem_range.1 hp)]
  simp
structure DrA (N F i : Nat) (s : Sp) : Prop where
  al : s.Al
  hN : s.c.d.N = N
  hM : s.c.M = F
  clk : s.c.clk ≤ 2 * i
  P : s.c.d.P.length ≤ 2 * i
  r : s.r = root0
  own : ∀ p, p < 1024 → (s.own p ≠ 0 ↔ p < i)
  room : s.rooms.length + i = N - 2
theorem DrA.start (N F : Nat) (h : 16 ≤ N) (hF : 1 ≤ F) : DrA N F 0 (sp0 N F) :=
  ⟨sp0_al N F h hF, rfl, rfl, Nat.zero_le _, Nat.zero_le _, rfl, fun p _ => ⟨fun h => absurd rfl h, fun h => by omega⟩, rooms_sp0 N F h⟩
theorem DrA.next {N F i : Nat} {s : Sp} (h : DrA N F i s) (hi : i < N - 20) (hi2 : i < 1024) (b : Bs) (hb : b.length ≤ 248) : (s.write (i : Int) b).1 = 0 ∧ DrA N F (i + 1) (s.write (i : Int) b).2 := by
  have ht : s.turned i = false := by
    have := (h.own i hi2)
    have h0 : s.own i = 0 := by
      by_cases e : s.own i = 0
      · exact e
      · have := this.1 e; omega
    unfold Sp.turned; simp [h0]
  have hr := h.room
  obtain ⟨h1, h2, h3, h4, h5, h6, h7⟩ := Sp.write_fresh h.al hi2 ht (by omega) hb
  refine ⟨h1, h2, h7.N.trans h.hN, h7.M.trans h.hM, by have := h7.clk; have := h.clk; omega, by have := h7.P; have := h.P; omega, h3.trans h.r, fun p hp => ?_, by omega⟩
  rw [h4]
  unfold upd
  split
  · rename_i e; subst e; exact ⟨fun _ => by omega, fun _ => by omega⟩
  · rw [h.own p hp]; omega
structure DrB (N F n i : Nat) (s : Sp) : Prop where
  al : s.Al
  hN : s.c.d.N = N
  hM : s.c.M = F
  clk : s.c.clk ≤ 2 * n + N + 20
  P : s.c.d.P.length ≤ 2 * n + N + 20
  ep : s.r.ep = 2
  own : ∀ p, p < 1024 → (s.own p ≠ 0 ↔ i ≤ p ∧ p < n)
theorem DrA.commit {N F n : Nat} {s : Sp} (h : DrA N F n s) (hn : n ≤ N - 20) (hN : 32 ≤ N) : (s.commit []).1 = 0 ∧ DrB N F n 0 (s.commit []).2 := by
  have hr := h.room
  have hf := full_le s
  obtain ⟨h1, h2, h3, h4, h5⟩ := Sp.commit_al h.al (by omega) (by rw [h.hN]; omega) (mt := []) (by simp) (by rw [h.r]; decide)
  have hNN := h.hN
  refine ⟨h1, h2, h5.N.trans h.hN, h5.M.trans h.hM, by have := h5.clk; have := h.clk; omega, by have := h5.P; have := h.P; omega, by rw [h3, h.r]; rfl, fun p hp => ?_⟩
  rw [h4, h.own p hp]; omega
theorem DrB.next {N F n i : Nat} {s : Sp} (h : DrB N F n i s) (hi : i < n) (hi2 : i < 1024) : s.drop (i : Int) = (0, s.setOwn i 0) ∧ (s.setOwn i 0).drop (i : Int) = (7, s.setOwn i 0) ∧ DrB N F n (i + 1) (s.setOwn i 0) := by
  obtain ⟨h1, h2, h3⟩ := Sp.drop_on h.al hi2 ((h.own i hi2).2 ⟨Nat.le_refl _, hi⟩)
  refine ⟨h1, h2, h3, h.hN, h.hM, h.clk, h.P, h.ep, fun p hp => ?_⟩
  show upd s.own i 0 p ≠ 0 ↔ _
  unfold upd
  split
  · rename_i e; subst e; exact ⟨fun h => absurd rfl h, fun h => by omega⟩
  · rw [h.own p hp]; omega
theorem DrB.end {N F n : Nat} {s : Sp} (h : DrB N F n n s) (hN : 32 ≤ N) (mt : Bs) (hm : mt.length ≤ 200) :
    (s.commit mt).1 = 0 ∧ (s.commit mt).2.Al ∧ pgs (s.commit mt).2.own = [] ∧ (s.commit mt).2.room ≤ N - 20 ∧ N - 20 ≤ (s.commit mt).2.room + 9 := by
  have h0 : ∀ p, p < 1024 → s.own p = 0 := fun p hp => by
    by_cases e : s.own p = 0
    · exact e
    · have := (h.own p hp).1 e; omega
  obtain ⟨h1, h2, h3, h4, h5⟩ := Sp.commit_al h.al (by rw [full_zero h0]; exact Nat.zero_le _) (by rw [h.hN]; omega) (mt := mt) hm (by rw [h.ep]; decide)
  have hNN : (s.commit mt).2.c.d.N = N := h5.N.trans h.hN
  have hh := rooms_high (s.commit mt).2 (by omega)
  have hl := rooms_low (s := (s.commit mt).2) (fun p hp => by rw [h4]; exact h0 p hp) (fun p hp => by rw [h3]; exact h0 p hp) (by omega)
  refine ⟨h1, h2, ?_, ?_, ?_⟩
  · rw [h4]; exact pgs_none h0
  · unfold Sp.room; omega
  · unfold Sp.room; omega
structure RmI (N F k : Nat) (s : Sp) (seen : Nat → Bool) : Prop where
  al : s.Al
  hN : s.c.d.N = N
  hM : s.c.M = F
  clk : s.c.clk ≤ k * 1000
  P : s.c.d.P.length ≤ k * 1000
  ep : s.r.ep ≤ 1 + k
  own : ∀ p, p < 1024 → seen p = s.turned p
  rm : s.own = s.r.pg ∨ 18 ≤ s.rooms.length
theorem RmI.start (N F : Nat) (h : 16 ≤ N) (hF : 1 ≤ F) : RmI N F 0 (sp0 N F) (fun _ => false) :=
  ⟨sp0_al N F h hF, rfl, rfl, Nat.le_refl _, Nat.le_refl _, Nat.le_refl _, fun p _ => by simp [Sp.turned, sp0, opened, root0], .inl rfl⟩
theorem RmI.fresh {N F k : Nat} {s : Sp} {seen : Nat → Bool} (h : RmI N F k s seen) {p : Nat} (hp : p < 1024) (hs : seen p = false) {b : Bs} (hb : b.length ≤ 248) :
    (0 < s.room ∧ (s.write (p : Int) b).1 = 0 ∧ (s.write (p : Int) b).2.room + 1 = s.room ∧ RmI N F (k + 1) (s.write (p : Int) b).2 (fun q => if q = p then true else seen q)) ∨ (s.room = 0 ∧ s.write (p : Int) b = (6, s) ∧ RmI N F (k + 1) s seen) := by
  have ht : s.turned p = false := (h.own p hp).symm.trans hs
  by_cases hr : 18 < s.rooms.length
  · obtain ⟨h1, h2, h3, h4, h5, h6, h7⟩ := Sp.write_fresh h.al hp ht hr hb
    refine .inl ⟨by unfold Sp.room; omega, h1, by unfold Sp.room; omega, h2, h7.N.trans h.hN, h7.M.trans h.hM, by have := h7.clk; have := h.clk; omega, by have := h7.P; have := h.P; omega, by rw [h3]; have := h.ep; omega, fun q hq => ?_, .inr (by omega)⟩
    have hx := Sp.room_get (s := s) (by omega)
    have hne : s.rooms.getD 0 0 ≠ s.r.pg p := fun e => by
      have := (mem_rooms.1 hx).2
      unfold Sp.taken at this
      simp only [Bool.or_eq_false_iff] at this
      have hm : s.rooms.getD 0 0 ∈ secs s.r.pg := mem_secs.2 ⟨p, hp, by omega, e.symm⟩
      have h9 := this.1.1.2
      rw [List.contains_iff_mem.2 hm] at h9
      cases h9
    show (if q = p then true else seen q) = decide (0 < (s.write (p : Int) b).2.own q ∧ (s.write (p : Int) b).2.own q ≠ (s.write (p : Int) b).2.r.pg q)
    rw [h4, h3]
    unfold upd
    split
    · rename_i e; subst e; symm; rw [decide_eq_true_eq]; exact ⟨by omega, hne⟩
    · exact h.own q hq
  · exact .inr ⟨by unfold Sp.room; omega, Sp.write_full h.al hp ht (by omega) hb, h.al, h.hN, h.hM, by have := h.clk; omega, by have := h.P; omega, by have := h.ep; omega, h.own, h.rm⟩
theorem RmI.again {N F k : Nat} {s : Sp} {seen : Nat → Bool} (h : RmI N F k s seen) {p : Nat} (hp : p < 1024) (hs : seen p = true) {b : Bs} (hb : b.length ≤ 248) :
    (s.write (p : Int) b).1 = 0 ∧ RmI N F (k + 1) (s.write (p : Int) b).2 (fun q => if q = p then true else seen q) := by
  have ht : s.turned p = true := (h.own p hp).symm.trans hs
  obtain ⟨h1, h2, h3, h4, h5, h7⟩ := Sp.write_again h.al hp ht hb
  refine ⟨h1, h2, h7.N.trans h.hN, h7.M.trans h.hM, by have := h7.clk; have := h.clk; omega, by have := h7.P; have := h.P; omega, by rw [h3]; have := h.ep; omega, fun q hq => ?_, ?_⟩
  · show (if q = p then true else seen q) = decide (0 < (s.write (p : Int) b).2.own q ∧ (s.write (p : Int) b).2.own q ≠ (s.write (p : Int) b).2.r.pg q)
    rw [h4, h3]
    split
    · rename_i e; subst e; exact ht.symm
    · exact h.own q hq
  · rw [h3, h4, h5]; exact h.rm
theorem RmI.commit {N F k : Nat} {s : Sp} {seen : Nat → Bool} (h : RmI N F k s seen) (hN : 16 ≤ N) (hN2 : N ≤ 500) (hk : k ≤ 1000) : (s.commit []).1 = 0 ∧ RmI N F (k + 1) (s.commit []).2 (fun _ => false) := by
  have hr : s.full.length ≤ s.rooms.length := by
    rcases h.rm with e | e
    · rw [full_same e]; exact Nat.zero_le _
    · have := full_le s; omega
  have hep := h.ep
  obtain ⟨h1, h2, h3, h4, h5⟩ := Sp.commit_al h.al hr (by rw [h.hN]; omega) (mt := []) (by simp) (by omega)
  have hNN := h.hN
  refine ⟨h1, h2, h5.N.trans h.hN, h5.M.trans h.hM, by have := h5.clk; have := h.clk; omega, by have := h5.P; have := h.P; omega, by rw [h3]; show s.r.ep + 1 ≤ _; omega, fun p hp => ?_, .inl (by rw [h4, h3])⟩
  unfold Sp.turned; rw [h4, h3]; simp
end Go.Sp
namespace Go.Sp
theorem len_le : ∀ (n x : Nat), (le x n).length = n
  | 0, _ => rfl
  | n + 1, x => by rw [le, List.length_cons, len_le n]
theorem num_le : ∀ (n x : Nat), num (le x n) = x % 256 ^ n
  | 0, x => by simp [le, num, Nat.mod_one]
  | n + 1, x => by
    rw [le, num, num_le n, Nat.pow_succ, Nat.mul_comm (256 ^ n) 256]
    have := Nat.mod_mul (x := x) (a := 256) (b := 256 ^ n)
    omega
theorem num_le' {n x : Nat} (h : x < 256 ^ n) : num (le x n) = x := by rw [num_le, Nat.mod_eq_of_lt h]
theorem tabN_lt' (k : Nat) : tabN k < 4294967296 := Nat.mod_lt _ (by decide)
theorem nib_lt' {x : Nat} (h : x < 4294967296) : nib x < 4294967296 := Nat.xor_lt_two_pow (n := 32) (show x / 16 < _ by omega) (tabN_lt' _)
theorem crcR_lt' : ∀ (bs : Bs) (r : Nat), r < 4294967296 → (∀ x ∈ bs, x < 256) → crcR r bs < 4294967296
  | [], r, h, _ => h
  | c :: bs, r, h, hb => by
    have hc := hb c List.mem_cons_self
    exact crcR_lt' bs (crcStep r c) (nib_lt' (nib_lt' (Nat.xor_lt_two_pow (n := 32) h (by omega)))) fun x hx => hb x (List.mem_cons_of_mem _ hx)
theorem crc_lt' {bs : Bs} (h : ∀ x ∈ bs, x < 256) : crc bs < 4294967296 := Nat.xor_lt_two_pow (n := 32) (by decide) (crcR_lt' bs 4294967295 (by decide) h)
def bytes (b : Bs) : Prop := ∀ x ∈ b, x < 256
theorem le_bytes : ∀ (n x : Nat), bytes (le x n)
  | 0, _ => fun _ h => by cases h
  | n + 1, x => fun y hy => by
    rcases List.mem_cons.1 hy with e | e
    · omega
    · exact le_bytes n _ y e
theorem bytes_app {a b : Bs} (ha : bytes a) (hb : bytes b) : bytes (a ++ b) := fun x hx => (List.mem_append.1 hx).elim (ha x) (hb x)
theorem front_len (k n : Nat) : (front k n).length = 4 := rfl
theorem sealed_length {k : Nat} {b : Bs} (h : b.length ≤ 248) : (sealed k b).length = 256 := by
  unfold sealed
  rw [List.length_append, len_le, pad_len (by rw [List.length_append, front_len]; omega)]
theorem open_sealed {k : Nat} {b : Bs} (hk : 0 < k ∧ k < 256) (hb : b.length ≤ 248) (hx : bytes b) : openB (sealed k b) = (k, b, 0) := by
  have hl : (pad 252 (front k b.length ++ b)).length = 252 := pad_len (by rw [List.length_append, front_len]; omega)
  have hP : pad 252 (front k b.length ++ b) = front k b.length ++ b ++ List.replicate (252 - (front k b.length ++ b).length) 0 := rfl
  have e1 : (sealed k b).take 252 = pad 252 (front k b.length ++ b) := List.take_left' hl
  have e2 : (sealed k b).drop 252 = le (crc (pad 252 (front k b.length ++ b))) 4 := List.drop_left' hl
  have hpb : bytes (pad 252 (front k b.length ++ b)) := by
    rw [hP]
    refine bytes_app (bytes_app ?_ hx) fun x hx => by rw [(List.mem_replicate.1 hx).2]; decide
    intro x hx
    simp [front] at hx
    omega
  have es : sealed k b = k :: 0 :: (b.length % 256) :: (b.length / 256 % 256) :: (b ++ (List.replicate (252 - (front k b.length ++ b).length) 0 ++ le (crc (pad 252 (front k b.length ++ b))) 4)) := by
    unfold sealed
    rw [hP]
    simp [front]
  have g0 : (sealed k b).getD 0 0 = k := by rw [es]; rfl
  have g2 : num (((sealed k b).drop 2).take 2) = b.length := by
    rw [es]
    simp [num]
    omega
  have g4 : (sealed k b).take 4 = front k b.length := by rw [es]; rfl
  have gb : ((sealed k b).drop 4).take b.length = b := by rw [es]; simp
  have gz : ((pad 252 (front k b.length ++ b)).drop (4 + b.length)) = List.replicate (252 - (front k b.length ++ b).length) 0 := by
    rw [hP]
    have : 4 + b.length = (front k b.length ++ b).length := by rw [List.length_append, front_len]
    rw [this, List.drop_left]
  unfold openB
  rw [if_neg (by rw [sealed_length hb]; omega), e1, e2, g0, g2, g4, gb, gz, num_le' (crc_lt' hpb), if_neg (by omega), if_neg (by simp), if_neg]
  simp
theorem sealB_sealed {k : Nat} {b : Bs} (hk : 0 < k) (hb : b.length ≤ 248) : (sealB k b).2 = sealed k b := by rw [sealB_eq hk hb]
theorem flat9 (f : Nat → Nat) : (List.range 9).flatMap (fun i => le (f i) 2) = le (f 0) 2 ++ le (f 1) 2 ++ le (f 2) 2 ++ le (f 3) 2 ++ le (f 4) 2 ++ le (f 5) 2 ++ le (f 6) 2 ++ le (f 7) 2 ++ le (f 8) 2 := by
  simp [List.range_succ]
theorem two_eq (x : Nat) : le x 2 = [x % 256, x / 256 % 256] := rfl
theorem four_eq (x : Nat) : le x 4 = [x % 256, x / 256 % 256, x / 256 / 256 % 256, x / 256 / 256 / 256 % 256] := rfl
theorem bodyR_eq (r : Rt) : bodyR r = [97, 117, 109, 49, r.ep % 256, r.ep / 256 % 256, r.ep / 256 / 256 % 256, r.ep / 256 / 256 / 256 % 256,
    r.at' 0 % 256, r.at' 0 / 256 % 256, r.at' 1 % 256, r.at' 1 / 256 % 256, r.at' 2 % 256, r.at' 2 / 256 % 256, r.at' 3 % 256, r.at' 3 / 256 % 256, r.at' 4 % 256, r.at' 4 / 256 % 256, r.at' 5 % 256, r.at' 5 / 256 % 256, r.at' 6 % 256, r.at' 6 / 256 % 256, r.at' 7 % 256, r.at' 7 / 256 % 256, r.at' 8 % 256, r.at' 8 / 256 % 256] ++ r.mt := by
  unfold bodyR
  rw [flat9]
  simp [two_eq, four_eq]
theorem bodyR_len (r : Rt) : (bodyR r).length = 26 + r.mt.length := by rw [bodyR_eq]; simp; omega
theorem bodyR_bytes {r : Rt} (h : bytes r.mt) : bytes (bodyR r) := by
  rw [bodyR_eq]
  refine bytes_app (fun x hx => ?_) h
  simp only [List.mem_cons, List.not_mem_nil, or_false] at hx
  omega
structure Rt.Norm (r : Rt) : Prop where
  ep : 0 < r.ep ∧ r.ep < 4294967296
  at' : ∀ i, r.at' i < 65536
  at9 : ∀ i, 9 ≤ i → r.at' i = 0
  pg : ∀ p, 1024 ≤ p → r.pg p = 0
  mt : r.mt.length ≤ 200
  mb : bytes r.mt
def Rt.bare (r : Rt) : Rt := { r with pg := fun _ => 0 }
theorem rootOf_body {r : Rt} (h : r.Norm) : rootOf (bodyR r) = r.bare := by
  have e1 : num (((bodyR r).drop 4).take 4) = r.ep := by
    have := h.ep
    rw [bodyR_eq]
    simp [num]
    omega
  have e2 : (bodyR r).drop 26 = r.mt := by rw [bodyR_eq]; simp
  have e3 : ∀ i, i < 9 → num (((bodyR r).drop (8 + 2 * i)).take 2) = r.at' i := by
    intro i hi
    have ha := h.at' i
    have h9 : i = 0 ∨ i = 1 ∨ i = 2 ∨ i = 3 ∨ i = 4 ∨ i = 5 ∨ i = 6 ∨ i = 7 ∨ i = 8 := by omega
    rw [bodyR_eq]
    rcases h9 with rfl | rfl | rfl | rfl | rfl | rfl | rfl | rfl | rfl <;> (simp [num]; omega)
  unfold rootOf
  rw [e1, e2]
  unfold Rt.bare
  congr 1
  funext i
  by_cases hi : i < 9
  · rw [if_pos hi, e3 i hi]
  · rw [if_neg hi, h.at9 i (by omega)]
theorem rootMay_body (r : Rt) : rootMay (bodyR r) = true := by
  unfold rootMay
  rw [bodyR_len]
  have : (bodyR r).take 4 = [97, 117, 109, 49] := by rw [bodyR_eq]; simp
  rw [this]
  simp
theorem trim0_app (l : List Nat) : ∃ k, l = trim0 l ++ List.replicate k 0 := by
  refine ⟨(l.reverse.takeWhile (· == 0)).length, ?_⟩
  have h := List.takeWhile_append_dropWhile (p := fun x : Nat => x == 0) (l := l.reverse)
  have hz : l.reverse.takeWhile (· == 0) = List.replicate (l.reverse.takeWhile (· == 0)).length 0 := by
    refine List.eq_replicate_iff.2 ⟨rfl, fun x hx => ?_⟩
    have hp : ∀ (l : List Nat) x, x ∈ l.takeWhile (· == 0) → x = 0 := by
      intro l
      induction l with
      | nil => intro x hx; cases hx
      | cons a l ih =>
        intro x hx
        rw [List.takeWhile_cons] at hx
        split at hx
        · rename_i ha
          rcases List.mem_cons.1 hx with e | e
          · rw [e]; simpa using ha
          · exact ih x e
        · cases hx
    exact hp _ x hx
  have h2 := congrArg List.reverse h
  rw [List.reverse_append, List.reverse_reverse] at h2
  unfold trim0
  rw [hz, List.reverse_replicate] at h2
  exact h2.symm
theorem trim0_last (l : List Nat) (h : trim0 l ≠ []) : (trim0 l).getLast h ≠ 0 := by
  unfold trim0 at h ⊢
  rw [List.getLast_reverse]
  have hd : ∀ (l : List Nat) (h : l.dropWhile (· == 0) ≠ []), (l.dropWhile (· == 0)).head h ≠ 0 := by
    intro l
    induction l with
    | nil => intro h; exact absurd rfl h
    | cons a l ih =>
      intro h
      by_cases ha : a = 0
      · subst ha
        have : (0 :: l).dropWhile (· == 0) = l.dropWhile (· == 0) := rfl
        simp only [this] at h ⊢
        exact ih h
      · have hb : (a == 0) = false := by simpa using ha
        have : (a :: l).dropWhile (· == 0) = a :: l := by rw [List.dropWhile_cons, hb]; rfl
        simp only [this]
        exact ha
  exact hd _ _
theorem flat_at : ∀ (l : List Nat) (j : Nat), ((l.flatMap fun s => le s 2).drop (2 * j)).take 2 = match l[j]? with | some x => le x 2 | none => []
  | [], j => by simp
  | a :: l, 0 => by rw [List.flatMap_cons, two_eq]; simp [two_eq]
  | a :: l, j + 1 => by
    have ih := flat_at l j
    rw [List.flatMap_cons, two_eq, show 2 * (j + 1) = 2 * j + 2 by omega]
    simpa using ih
theorem pgPart_get (g : Nat → Nat) {i j : Nat} (hi : i < 9) (hj : j < partN i) : (pgPart g i)[j]? = some (g (i * 124 + j)) := by
  unfold partN at hj
  unfold pgPart
  rw [List.getElem?_take_of_lt (by omega), List.getElem?_drop, List.getElem?_map, List.getElem?_range (by omega)]
  rfl
theorem pgPart_len (g : Nat → Nat) {i : Nat} (hi : i < 9) : (pgPart g i).length = partN i := by
  unfold pgPart partN
  simp
theorem lay_part {f g : Nat → Nat} {i : Nat} (hi : i < 9) (hg : ∀ p, g p < 65536) (p : Nat) : layP f i (part g i) p = if i * 124 ≤ p ∧ p < (i + 1) * 124 ∧ p < 1024 then g p else f p := by
  unfold layP
  split
  · rename_i h
    unfold part
    rw [flat_at]
    have hj : p - i * 124 < partN i := by unfold partN; omega
    have hget := pgPart_get g hi hj
    rw [show i * 124 + (p - i * 124) = p by omega] at hget
    obtain ⟨k, hk⟩ := trim0_app (pgPart g i)
    rw [hk] at hget
    by_cases hlt : p - i * 124 < (trim0 (pgPart g i)).length
    · rw [List.getElem?_append_left hlt] at hget
      rw [hget]
      exact num_le' (hg p)
    · rw [List.getElem?_append_right (by omega)] at hget
      have hz := List.mem_of_getElem? hget
      have hz := (List.mem_replicate.1 hz).2
      rw [List.getElem?_eq_none (by omega)]
      exact hz.symm
  · rfl
theorem flat_getD (l : List Nat) (hl : l ≠ []) : ((l.flatMap fun s => le s 2).getD ((l.flatMap fun s => le s 2).length - 2) 0) = l.getLast hl % 256 ∧ ((l.flatMap fun s => le s 2).getD ((l.flatMap fun s => le s 2).length - 1) 0) = l.getLast hl / 256 % 256 := by
  obtain ⟨m, x, rfl⟩ : ∃ m x, l = m ++ [x] := ⟨l.dropLast, l.getLast hl, (List.dropLast_concat_getLast hl).symm⟩
  have e : ((m ++ [x]).flatMap fun s => le s 2) = (m.flatMap fun s => le s 2) ++ [x % 256, x / 256 % 256] := by rw [List.flatMap_append]; simp [two_eq]
  rw [e]
  have hlen : ((m.flatMap fun s => le s 2) ++ [x % 256, x / 256 % 256]).length = (m.flatMap fun s => le s 2).length + 2 := by simp
  rw [hlen, List.getLast_concat]
  constructor
  · rw [show (m.flatMap fun s => le s 2).length + 2 - 2 = (m.flatMap fun s => le s 2).length by omega]
    simp [List.getD]
  · rw [show (m.flatMap fun s => le s 2).length + 2 - 1 = (m.flatMap fun s => le s 2).length + 1 by omega]
    simp [List.getD]
theorem layOk_part {g : Nat → Nat} {i : Nat} (hi : i < 9) (hg : ∀ p, g p < 65536) : layOk i (part g i) = true := by
  have hl : (part g i).length = 2 * (trim0 (pgPart g i)).length := by unfold part; exact flat_two _
  have h1 := trim0_le (pgPart g i)
  rw [pgPart_len g hi] at h1
  unfold layOk
  have a1 : (part g i).length % 2 = 0 := by omega
  have a2 : (part g i).length ≤ 2 * partN i := by omega
  simp only [a1, a2, decide_true, Bool.true_and, Bool.not_eq_true']
  by_cases hz : 0 < (part g i).length
  · have hne : trim0 (pgPart g i) ≠ [] := fun e => by rw [e, List.length_nil] at hl; omega
    obtain ⟨q1, q2⟩ := flat_getD _ hne
    have hq := trim0_last _ hne
    have hin : ∀ x, x ∈ trim0 (pgPart g i) → x < 65536 := fun x hx => by
      obtain ⟨k, hk⟩ := trim0_app (pgPart g i)
      have h2 : x ∈ trim0 (pgPart g i) ++ List.replicate k 0 := List.mem_append_left _ hx
      rw [← hk] at h2
      unfold pgPart at h2
      obtain ⟨p, _, e⟩ := List.mem_map.1 (List.mem_of_mem_drop (List.mem_of_mem_take h2))
      rw [← e]; exact hg p
    have hm := hin _ (List.getLast_mem hne)
    have w1 : (part g i).getD ((part g i).length - 2) 0 = _ := q1
    have w2 : (part g i).getD ((part g i).length - 1) 0 = _ := q2
    rw [w1, w2]
    simp only [hz, decide_true, Bool.true_and, Bool.and_eq_false_iff, decide_eq_false_iff_not]
    omega
  · simp [hz]
theorem part_bytes' {g : Nat → Nat} {i : Nat} : bytes (part g i) := by
  unfold part
  intro x hx
  obtain ⟨s, _, h⟩ := List.mem_flatMap.1 hx
  exact le_bytes 2 s x h
end Go.Sp
namespace Go.Sp
def rdB (b : Bs) (k : Nat) : Bs × Bool := if b = [] then ([], false) else ((openB b).2.1, decide ((openB b).2.2 = 0) && decide ((openB b).1 = k))
def candB (b : Bs) (s : Nat) : Option Rt :=
  if (rdB b 1).2 = true ∧ rootMay (rdB b 1).1 = true ∧ 0 < (rootOf (rdB b 1).1).ep ∧ (rootOf (rdB b 1).1).ep % 2 = s then some (rootOf (rdB b 1).1) else none
theorem rd_flat {d : Dk} (hd : d.dead = false) (hP : d.P = []) {s : Nat} (hs : s < d.N) (k : Nat) : d.rd s k = rdB (d.S s) k := by
  have hn : ¬ d.N ≤ s := by omega
  have hsay : d.says s = d.S s := by unfold Dk.says; rw [hP]; rfl
  unfold Dk.rd Dk.read rdB
  simp only [hd, hn, hsay]
  by_cases e : d.S s = []
  · simp [e]
  · simp [e]
theorem cand_flat {d : Dk} (hd : d.dead = false) (hP : d.P = []) {s : Nat} (hs : s < d.N) : d.cand s = candB (d.S s) s := by
  unfold Dk.cand candB; rw [rd_flat hd hP hs]
theorem rdB_sealed {k : Nat} {b : Bs} (hk : 0 < k ∧ k < 256) (hb : b.length ≤ 248) (hx : bytes b) (j : Nat) : rdB (sealed k b) j = (b, decide (k = j)) := by
  have hl := sealed_length (k := k) hb
  have : sealed k b ≠ [] := fun e => by rw [e] at hl; cases hl
  unfold rdB
  rw [if_neg this, open_sealed hk hb hx]
  simp
theorem candB_root {r : Rt} (h : r.Norm) {s : Nat} (hs : r.ep % 2 = s) : candB (sealed 1 (bodyR r)) s = some r.bare := by
  unfold candB
  rw [rdB_sealed (by decide) (by rw [bodyR_len]; have := h.mt; omega) (bodyR_bytes h.mb), rootOf_body h]
  exact if_pos ⟨rfl, rootMay_body r, h.ep.1, hs⟩
structure Pub (S : Nat → Bs) (N : Nat) (r : Rt) (body : Nat → Bs) : Prop where
  nm : r.Norm
  slot : S (r.ep % 2) = sealed 1 (bodyR r)
  at1 : ∀ i, i < 9 → r.at' i ≠ 0 → (2 ≤ r.at' i ∧ r.at' i < N) ∧ S (r.at' i) = sealed 2 (part r.pg i) ∧ part r.pg i ≠ []
  at0 : ∀ i, i < 9 → r.at' i = 0 → part r.pg i = []
  pg1 : ∀ p, r.pg p ≠ 0 → (2 ≤ r.pg p ∧ r.pg p < N) ∧ S (r.pg p) = sealed 3 (body p) ∧ (body p).length ≤ 248 ∧ bytes (body p)
  dat : ∀ i j, i < 9 → j < 9 → r.at' i ≠ 0 → r.at' i = r.at' j → i = j
  dpg : ∀ p q, r.pg p ≠ 0 → r.pg p = r.pg q → p = q
  dap : ∀ i p, i < 9 → r.at' i ≠ 0 → r.at' i ≠ r.pg p
  other : ∀ x, candB (S (1 - r.ep % 2)) (1 - r.ep % 2) = some x → x.ep < r.ep
  hN : 2 ≤ N ∧ N < 65536
theorem Pub.pg64 {S : Nat → Bs} {N : Nat} {r : Rt} {body : Nat → Bs} (h : Pub S N r body) (p : Nat) : r.pg p < 65536 := by
  by_cases e : r.pg p = 0
  · omega
  · have := (h.pg1 p e).1; have := h.hN; omega
def prot (r : Rt) (x : Nat) : Prop := x < 2 ∨ (x ≠ 0 ∧ ∃ i, i < 9 ∧ r.at' i = x) ∨ (x ≠ 0 ∧ ∃ p, r.pg p = x)
theorem Pub.surv {S S' : Nat → Bs} {N : Nat} {r : Rt} {body : Nat → Bs} (h : Pub S N r body) (hs : ∀ x, prot r x → S' x = S x) : Pub S' N r body :=
  { nm := h.nm, slot := (hs _ (.inl (by omega))).trans h.slot,
    at1 := fun i hi h0 => ⟨(h.at1 i hi h0).1, (hs _ (.inr (.inl ⟨h0, i, hi, rfl⟩))).trans (h.at1 i hi h0).2.1, (h.at1 i hi h0).2.2⟩,
    at0 := h.at0, pg1 := fun p h0 => ⟨(h.pg1 p h0).1, (hs _ (.inr (.inr ⟨h0, p, rfl⟩))).trans (h.pg1 p h0).2.1, (h.pg1 p h0).2.2⟩,
    dat := h.dat, dpg := h.dpg, dap := h.dap, other := fun x hx => h.other x (by rw [← hs _ (.inl (by omega))]; exact hx), hN := h.hN }
theorem upK_out (tn kp : Nat → Bool) (S : Nat → Bs) (P : List (Nat × Bs)) {x : Nat} (h : ∀ q ∈ P, q.1 ≠ x) : ∀ k, upK tn kp S P k x = S x
  | 0 => rfl
  | k + 1 => by
    have ih := upK_out tn kp S P h k
    unfold upK
    cases e : P[k]? with
    | none => exact ih
    | some p =>
      have hp := h p (List.mem_of_getElem? e)
      have hx : ¬ x = p.1 := fun e => hp e.symm
      simp only [setK]
      split
      · simp only [setS, hx, if_false]; exact ih
      · split
        · simp only [setS, hx, if_false]; exact ih
        · exact ih
theorem fold_out (P : List (Nat × Bs)) : ∀ (S : Nat → Bs) {x : Nat}, (∀ q ∈ P, q.1 ≠ x) → P.foldl setS S x = S x := by
  induction P with
  | nil => intro S x _; rfl
  | cons p P ih =>
    intro S x h
    rw [List.foldl_cons, ih _ fun q hq => h q (List.mem_cons_of_mem _ hq)]
    have hx : ¬ x = p.1 := fun e => h p List.mem_cons_self e.symm
    simp only [setS, hx, if_false]
theorem wparts_pub {d : Dk} {r : Rt} {body : Nat → Bs} (hd : d.dead = false) (hP : d.P = []) (h : Pub d.S d.N r body) : ∀ k, k ≤ 9 → ∃ seen f, d.wparts r.bare k = some (seen, f) ∧ (∀ x, x ∈ seen ↔ ∃ i, i < k ∧ r.at' i ≠ 0 ∧ r.at' i = x) ∧ ∀ p, f p = if p < k * 124 then r.pg p else 0
  | 0, _ => ⟨[], fun _ => 0, rfl, fun x => by simp, fun p => by simp⟩
  | k + 1, hk => by
    obtain ⟨seen, f, h1, h2, h3⟩ := wparts_pub hd hP h k (by omega)
    have h124 : ∀ p, (k * 124 ≤ p ∧ p < (k + 1) * 124 ∧ p < 1024) ∨ ¬ (k * 124 ≤ p ∧ p < (k + 1) * 124 ∧ p < 1024) := fun p => Classical.em _
    have hlay := fun p => lay_part (f := f) (i := k) (by omega) h.pg64 p
    have hfin : ∀ p, layP f k (part r.pg k) p = if p < (k + 1) * 124 then r.pg p else 0 := fun p => by
      rw [hlay, h3]
      have hp := h.nm.pg p
      by_cases e1 : k * 124 ≤ p ∧ p < (k + 1) * 124 ∧ p < 1024
      · rw [if_pos e1, if_pos e1.2.1]
      · rw [if_neg e1]
        by_cases e2 : p < k * 124
        · rw [if_pos e2, if_pos (by omega)]
        · rw [if_neg e2]
          by_cases e3 : p < (k + 1) * 124
          · rw [if_pos e3, hp (by omega)]
          · rw [if_neg e3]
    show ∃ seen f, (d.wparts r.bare k).bind (d.wpart r.bare k) = some (seen, f) ∧ _
    rw [h1, Option.bind_some]
    unfold Dk.wpart
    by_cases e : r.at' k = 0
    · have hp := h.at0 k (by omega) e
      rw [hp] at hfin
      have hsame : layP f k [] = fun p => if p < (k + 1) * 124 then r.pg p else 0 := funext hfin
      refine ⟨seen, f, if_pos e, fun x => ?_, fun p => ?_⟩
      · rw [h2]
        constructor
        · rintro ⟨i, a, b⟩; exact ⟨i, by omega, b⟩
        · rintro ⟨i, a, b, c⟩
          by_cases ei : i = k
          · subst ei; exact absurd e b
          · exact ⟨i, by omega, b, c⟩
      · have e0 : layP f k [] p = f p := by
          unfold layP
          by_cases hc : k * 124 ≤ p ∧ p < (k + 1) * 124 ∧ p < 1024
          · rw [if_pos hc, h3, if_neg (by omega)]; simp [num]
          · rw [if_neg hc]
        rw [← hfin p, e0]
    · obtain ⟨⟨q0, q1⟩, q2, q3⟩ := h.at1 k (by omega) e
      have hrd : d.rd (r.at' k) 2 = (part r.pg k, true) := by
        rw [rd_flat hd hP q1, q2, rdB_sealed (by decide) (part_le _ _) part_bytes']; rfl
      have hfr : fresh d.N seen (r.at' k) = true := by
        unfold fresh
        have : r.at' k ∉ seen := fun hm => by
          obtain ⟨i, a, b, c⟩ := (h2 _).1 hm
          have := h.dat i k (by omega) (by omega) b c
          omega
        simp [q0, q1, this]
      refine ⟨r.at' k :: seen, layP f k (part r.pg k), ?_, fun x => ?_, hfin⟩
      · rw [if_neg (show ¬ r.bare.at' k = 0 from e), if_pos]
        · show some (r.at' k :: seen, layP f k (d.rd (r.at' k) 2).1) = _
          rw [hrd]
        · show fresh d.N seen (r.at' k) = true ∧ (d.rd (r.at' k) 2).2 = true ∧ (d.rd (r.at' k) 2).1 ≠ [] ∧ layOk k (d.rd (r.at' k) 2).1 = true
          rw [hrd]
          exact ⟨hfr, rfl, q3, layOk_part (by omega) h.pg64⟩
      · rw [List.mem_cons, h2]
        constructor
        · rintro (rfl | ⟨i, a, b⟩)
          · exact ⟨k, by omega, e, rfl⟩
          · exact ⟨i, by omega, b⟩
        · rintro ⟨i, a, b, c⟩
          by_cases ei : i = k
          · subst ei; exact .inl c.symm
          · exact .inr ⟨i, by omega, b, c⟩
theorem wpages_ok {d : Dk} : ∀ (l seen : List Nat), l.Nodup → (∀ s ∈ l, s ∉ seen ∧ 2 ≤ s ∧ s < d.N ∧ (d.rd s 3).2 = true) → d.wpages seen l = true
  | [], _, _, _ => rfl
  | s :: l, seen, hn, h => by
    obtain ⟨h1, h2, h3, h4⟩ := h s List.mem_cons_self
    rw [List.nodup_cons] at hn
    unfold Dk.wpages
    rw [wpages_ok l (s :: seen) hn.2 fun t ht => by
      obtain ⟨g1, g2⟩ := h t (List.mem_cons_of_mem _ ht)
      refine ⟨fun hm => ?_, g2⟩
      rcases List.mem_cons.1 hm with e | e
      · exact hn.1 (e ▸ ht)
      · exact g1 e]
    simp [fresh, h1, h2, h3, h4]
theorem secs_nodup {f : Nat → Nat} (h : ∀ p q, f p ≠ 0 → f p = f q → p = q) : (secs f).Nodup := by
  unfold secs List.Nodup
  rw [List.pairwise_map]
  refine List.Pairwise.imp_of_mem (fun {a b} ha hb hne he => hne (h a b ?_ he)) (List.nodup_range.filter _ : (pgs f).Nodup)
  have := (mem_pgs.1 ha).2; omega
theorem open_pub {d : Dk} {r : Rt} {body : Nat → Bs} (hd : d.dead = false) (hP : d.P = []) (h : Pub d.S d.N r body) {F : Nat} (hF : 2 ≤ F) (hF2 : F ≤ 1024) : d.open (F : Int) = (0, some (opened d F r)) := by
  have hN := h.hN
  have c0 := cand_flat hd hP (s := 0) (by omega)
  have c1 := cand_flat hd hP (s := 1) (by omega)
  have hb : d.best = some r.bare := by
    have hs := h.slot
    have ho := h.other
    have hm : r.ep % 2 = 0 ∨ r.ep % 2 = 1 := by omega
    unfold Dk.best
    rcases hm with e | e
    · rw [e] at hs ho
      rw [hs, candB_root h.nm e] at c0
      rw [c0, c1]
      cases e1 : candB (d.S 1) 1 with
      | none => rfl
      | some x =>
        have := ho x e1
        show (if r.bare.ep < x.ep then some x else some r.bare) = some r.bare
        exact if_neg (by show ¬ r.ep < x.ep; omega)
    · rw [e] at hs ho
      rw [hs, candB_root h.nm e] at c1
      rw [c0, c1]
      cases e1 : candB (d.S 0) 0 with
      | none => rfl
      | some x =>
        have := ho x e1
        show (if x.ep < r.bare.ep then some r.bare else some x) = some r.bare
        exact if_pos this
  obtain ⟨seen, f, h1, h2, h3⟩ := wparts_pub hd hP h 9 (Nat.le_refl _)
  have hf : f = r.pg := funext fun p => by
    rw [h3]
    by_cases e : p < 9 * 124
    · rw [if_pos e]
    · rw [if_neg e, h.nm.pg p (by omega)]
  have hw : d.wpages seen (secs f) = true := by
    rw [hf]
    refine wpages_ok _ _ (secs_nodup h.dpg) fun s hs => ?_
    obtain ⟨p, p1, p2, p3⟩ := mem_secs.1 hs
    subst p3
    obtain ⟨⟨a1, a2⟩, a3, a4, a5⟩ := h.pg1 p (by omega)
    refine ⟨fun hm => ?_, a1, a2, ?_⟩
    · obtain ⟨i, b1, b2, b3⟩ := (h2 _).1 hm
      exact h.dap i p b1 b2 b3
    · rw [rd_flat hd hP a2, a3, rdB_sealed (by decide) a4 a5]; rfl
  have hwh : d.whole r.bare = some r := by
    unfold Dk.whole
    have := h.nm.mt
    rw [if_neg (show ¬ 200 < r.bare.mt.length by show ¬ 200 < r.mt.length; omega), h1]
    simp only [hw, if_true]
    rw [hf]; rfl
  unfold Dk.open
  have h1 : ¬ ((F : Int) < 2 ∨ (1024 : Int) < (F : Int)) := by omega
  rw [hb]
  simp only [hwh, h1, if_false, hd]
  simp
end Go.Sp
namespace Go.Sp
def Ca.lg (c : Ca) (x : Nat) : Bs := match c.F x with | some f => f.b | none => c.d.says x
def Ca.dirty (c : Ca) (x : Nat) : Prop := ∃ f, c.F x = some f ∧ f.dirty = true
def Ca.Cl (c : Ca) : Prop := ∀ x f, 2 ≤ x → c.F x = some f → f.dirty = false → f.b = c.d.says x
structure Ca.Act (c c' : Ca) (U : Nat → Prop) : Prop where
  S : c'.d.S = c.d.S
  N : c'.d.N = c.d.N
  lg : ∀ x, 2 ≤ x → ¬ U x → c'.lg x = c.lg x
  P : ∀ q ∈ c'.d.P, q ∈ c.d.P ∨ c.dirty q.1 ∨ U q.1
  dirty : ∀ x, c'.dirty x → c.dirty x ∨ U x
  cl : c'.Cl
def no (_ : Nat) : Prop := False
theorem Ca.Act.refl {c : Ca} (h : c.Cl) (U : Nat → Prop) : Ca.Act c c U := ⟨rfl, rfl, fun _ _ _ => rfl, fun _ h => .inl h, fun _ h => .inl h, h⟩
theorem Ca.Act.mono {c c' : Ca} {U V : Nat → Prop} (h : Ca.Act c c' U) (hv : ∀ x, U x → V x) : Ca.Act c c' V :=
  ⟨h.S, h.N, fun x h2 hx => h.lg x h2 fun hu => hx (hv x hu), fun q hq => (h.P q hq).imp_right (Or.imp_right (hv _)), fun x hx => (h.dirty x hx).imp_right (hv _), h.cl⟩
theorem Ca.Act.to {c c' : Ca} (h : Ca.Act c c' no) (V : Nat → Prop) : Ca.Act c c' V := h.mono fun _ h => h.elim
theorem Ca.Act.trans {a b c : Ca} {U : Nat → Prop} (h : Ca.Act a b U) (g : Ca.Act b c U) : Ca.Act a c U :=
  ⟨g.S.trans h.S, g.N.trans h.N, fun x h2 hx => (g.lg x h2 hx).trans (h.lg x h2 hx), fun q hq => by
    rcases g.P q hq with h1 | h1 | h1
    · exact h.P q h1
    · exact .inr (h.dirty _ h1)
    · exact .inr (.inr h1), fun x hx => by
    rcases g.dirty x hx with h1 | h1
    · exact h.dirty x h1
    · exact .inr h1, g.cl⟩
theorem pad_self {b : Bs} (h : b.length = 256) : pad 256 b = b := by unfold pad; rw [h]; simp
theorem says_push (d : Dk) (s : Nat) (b : Bs) (x : Nat) : (d.push s b).tick.says x = if x = s then pad 256 b else d.says x := by
  unfold Dk.says Dk.push Dk.tick
  simp only [List.foldl_append, List.foldl_cons, List.foldl_nil]
  rfl
theorem write_cases (d : Dk) (s : Nat) (b : Bs) : (d.write s b).2 = d ∧ (d.write s b).1 ≠ 0 ∨ (d.write s b).2 = (d.push s b).tick ∧ (d.write s b).1 = (d.push s b).tick.pw := by
  unfold Dk.write
  split
  · exact .inl ⟨rfl, Nat.succ_ne_zero _⟩
  · split
    · exact .inl ⟨rfl, Nat.succ_ne_zero _⟩
    · exact .inr ⟨rfl, rfl⟩
theorem Ca.cw_act {c : Ca} (hok : c.Ok) (hcl : c.Cl) (s : Nat) : Ca.Act c (c.cw s).2 no ∧ ((c.cw s).1 = 0 → 2 ≤ s → ∀ f, c.F s = some f → (c.cw s).2.d.says s = f.b) := by
  have hF := (Ca.cw_F c s).1
  unfold Ca.cw at hF ⊢
  cases e : c.F s with
  | none => simp only [e] at hF ⊢; exact ⟨Ca.Act.refl hcl _, fun _ _ f h => by cases h⟩
  | some f =>
    simp only [e] at hF ⊢
    by_cases hd : f.dirty = true
    · simp only [hd, if_true] at hF ⊢
      have hlen := (hok.dom s f e).2.2
      rcases write_cases c.d s f.b with ⟨h1, h2⟩ | ⟨h1, h2⟩
      · rw [h1]
        exact ⟨⟨rfl, rfl, fun _ _ _ => rfl, fun _ h => .inl h, fun _ h => .inl h, hcl⟩, fun h => absurd h h2⟩
      · rw [h1]
        have hs : ∀ x, (c.d.push s f.b).tick.says x = if x = s then f.b else c.d.says x := fun x => by rw [says_push, pad_self hlen]
        refine ⟨⟨rfl, rfl, fun x _ _ => ?_, fun q hq => ?_, fun x hx => .inl hx, fun x g h2x hg hgd => ?_⟩, fun _ _ g hg => ?_⟩
        · show (match c.F x with | some f => f.b | none => (c.d.push s f.b).tick.says x) = (match c.F x with | some f => f.b | none => c.d.says x)
          cases ex : c.F x with
          | some g => rfl
          | none =>
            have : ¬ x = s := fun q => by rw [q, e] at ex; cases ex
            show (c.d.push s f.b).tick.says x = c.d.says x
            rw [hs, if_neg this]
        · have hq : q ∈ c.d.P ++ [(s, pad 256 f.b)] := hq
          rcases List.mem_append.1 hq with h | h
          · exact .inl h
          · rw [List.mem_singleton.1 h]; exact .inr (.inl ⟨f, e, hd⟩)
        · have hg : c.F x = some g := hg
          have : ¬ x = s := fun q => by rw [q, e] at hg; injection hg with hg; rw [← hg, hd] at hgd; cases hgd
          show g.b = (c.d.push s f.b).tick.says x
          rw [hs, if_neg this]
          exact hcl x g h2x hg hgd
        · injection hg with hg
          subst hg
          rw [hs, if_pos rfl]
    · simp only [hd] at hF ⊢
      refine ⟨⟨rfl, rfl, fun _ _ _ => rfl, fun _ h => .inl h, fun _ h => .inl h, hcl⟩, fun _ h2s g hg => ?_⟩
      injection hg with hg
      subst hg
      exact (hcl s f h2s e (by simpa using hd)).symm
theorem Ca.out_act {c : Ca} (hok : c.Ok) (hcl : c.Cl) (s : Nat) : Ca.Act c (c.out s).2 no := by
  obtain ⟨h1, h2⟩ := Ca.cw_act hok hcl s
  have hF := (Ca.cw_F c s).1
  unfold Ca.out
  by_cases e : (c.cw s).1 = 0
  · rw [if_pos e]
    have hf : ∀ x, ((c.cw s).2.drop s).F x = if x = s then none else c.F x := fun x => by rw [← hF]; rfl
    refine ⟨h1.S, h1.N, fun x h2x hx => ?_, h1.P, fun x hx => ?_, fun x f h2x hf' hd => ?_⟩
    · show (match ((c.cw s).2.drop s).F x with | some f => f.b | none => (c.cw s).2.d.says x) = _
      rw [hf]
      by_cases ex : x = s
      · subst ex
        simp only [if_true]
        cases ef : c.F x with
        | none =>
          have := h1.lg x h2x hx
          unfold Ca.lg at this
          rw [hF, ef] at this
          unfold Ca.lg
          rw [ef]
          exact this
        | some f => rw [h2 e h2x f ef]; unfold Ca.lg; rw [ef]
      · rw [if_neg ex]
        have := h1.lg x h2x hx
        unfold Ca.lg at this
        rw [hF] at this
        exact this
    · obtain ⟨f, h3, h4⟩ := hx
      rw [hf] at h3
      split at h3
      · cases h3
      · exact .inl ⟨f, h3, h4⟩
    · rw [hf] at hf'
      split at hf'
      · cases hf'
      · exact h1.cl x f h2x (by rw [hF]; exact hf') hd
  · rw [if_neg e]; exact h1
theorem Ca.room_act {c : Ca} (hok : c.Ok) (hcl : c.Cl) : Ca.Act c c.room.2 no := by
  unfold Ca.room
  split
  · exact Ca.Act.refl hcl _
  · split
    · exact Ca.Act.refl hcl _
    · exact Ca.out_act hok hcl _
theorem Ca.fresh_act {c : Ca} (hcl : c.Cl) {s : Nat} {b : Bs} {dr : Bool} (h : dr = false → b = c.d.says s ∧ c.lg s = b) {U : Nat → Prop} (hU : dr = true → U s) : Ca.Act c (c.fresh s b dr) U := by
  have hF : ∀ t, (c.fresh s b dr).F t = if t = s then some ⟨b, c.clk + 1, dr⟩ else c.F t := fun t => rfl
  refine ⟨rfl, rfl, fun x _ hx => ?_, fun q hq => .inl hq, fun x hx => ?_, fun x f h2x hf hd => ?_⟩
  · unfold Ca.lg
    rw [hF]
    by_cases e : x = s
    · subst e
      rw [if_pos rfl]
      cases hdr : dr with
      | true => exact absurd (hU hdr) hx
      | false => exact (h hdr).2.symm
    · rw [if_neg e]; rfl
  · obtain ⟨f, h1, h2⟩ := hx
    rw [hF] at h1
    split at h1
    · rename_i e; injection h1 with h1; subst h1; subst e; exact .inr (hU h2)
    · exact .inl ⟨f, h1, h2⟩
  · rw [hF] at hf
    split at hf
    · rename_i e; injection hf with hf; subst hf; subst e; exact (h hd).1
    · exact hcl x f h2x hf hd
theorem Ca.use_act {c : Ca} (hcl : c.Cl) (s : Nat) : Ca.Act c (c.use s) no := by
  cases e : c.F s with
  | none => unfold Ca.use; rw [e]; exact Ca.Act.refl hcl _
  | some f =>
    rw [Ca.use_eq e]
    have hF : ∀ t, (c.fresh s f.b f.dirty).F t = if t = s then some ⟨f.b, c.clk + 1, f.dirty⟩ else c.F t := fun t => rfl
    refine ⟨rfl, rfl, fun x _ hx => ?_, fun q hq => .inl hq, fun x hx => ?_, fun x g h2x hg hd => ?_⟩
    · unfold Ca.lg
      rw [hF]
      by_cases ex : x = s
      · subst ex; rw [if_pos rfl, e]
      · rw [if_neg ex]; rfl
    · obtain ⟨g, h1, h2⟩ := hx
      rw [hF] at h1
      split at h1
      · rename_i ex; injection h1 with h1; subst h1; subst ex; exact .inl ⟨f, e, h2⟩
      · exact .inl ⟨g, h1, h2⟩
    · rw [hF] at hg
      split at hg
      · rename_i ex; injection hg with hg; subst hg; subst ex; exact hcl x f h2x e hd
      · exact hcl x g h2x hg hd
theorem Dk.read_says {d : Dk} {s : Nat} (h : (d.read s).1 = 0) : (d.read s).2 = d.says s := by
  unfold Dk.read at h ⊢
  split
  · rename_i h1; rw [if_pos h1] at h; cases h
  · rename_i h1; rw [if_neg h1] at h
    split
    · rename_i h2; rw [if_pos h2] at h; cases h
    · rename_i h2; rw [if_neg h2] at h
      split
      · rename_i h3; exact h3.symm
      · rfl
theorem Ca.room_none {c : Ca} {s : Nat} (h : c.F s = none) : c.room.2.F s = none := by
  rcases (Ca.room_F c).1 s with e | e
  · rw [e]; exact h
  · exact e
theorem Ca.bring_act {c : Ca} (hok : c.Ok) (hcl : c.Cl) (s : Nat) : Ca.Act c (c.bring s).2 no := by
  have hr := Ca.room_act hok hcl
  unfold Ca.bring
  split
  · exact Ca.Act.refl hcl _
  · split
    · exact Ca.use_act hcl s
    · rename_i hn
      have hn : c.F s = none := by cases e : c.F s with | none => rfl | some f => rw [e] at hn; exact absurd rfl hn
      split
      · exact hr
      · split
        · exact hr
        · rename_i h4
          rw [Ca.lay_use]
          have h4 : (c.room.2.d.read s).1 = 0 := by omega
          refine hr.trans (Ca.fresh_act hr.cl (fun _ => ⟨Dk.read_says h4, ?_⟩) (fun h => by cases h))
          unfold Ca.lg
          rw [Ca.room_none hn, Dk.read_says h4]
theorem Ca.read_act {c : Ca} (hok : c.Ok) (hcl : c.Cl) (s : Nat) : Ca.Act c (c.read s).2.2 no := by
  have := Ca.bring_act hok hcl s
  unfold Ca.read; split <;> exact this
theorem Ca.read_lg {c : Ca} (hok : c.Ok) (hcl : c.Cl) {s : Nat} (h2s : 2 ≤ s) (h : (c.read s).1 = 0) : (c.read s).2.1 = c.lg s := by
  unfold Ca.read at h ⊢
  by_cases hb : (c.bring s).1 ≠ 0
  · rw [if_pos hb] at h; exact absurd h hb
  · rw [if_neg hb]
    obtain ⟨f, hf⟩ := Option.isSome_iff_exists.1 (Ca.bring_some (c := c) (s := s) (by omega))
    have := (Ca.bring_act hok hcl s).lg s h2s (fun h => h)
    rw [← this]
    show (c.bring s).2.bytes s = _
    unfold Ca.bytes Ca.lg
    rw [hf]
theorem Ca.fill_act {c : Ca} (hcl : c.Cl) (s : Nat) (b : Bs) : Ca.Act c (c.fill s b) (· = s) := by
  rw [Ca.fill_eq]; exact Ca.fresh_act hcl (fun h => by cases h) (fun _ => rfl)
theorem Ca.write_act {c : Ca} (hok : c.Ok) (hcl : c.Cl) (s : Nat) (b : Bs) : Ca.Act c (c.write s b).2 (· = s) := by
  have hr := (Ca.room_act hok hcl).to (· = s)
  unfold Ca.write
  split
  · exact Ca.Act.refl hcl _
  · split
    · exact Ca.Act.refl hcl _
    · split
      · exact Ca.fill_act hcl s b
      · split
        · exact hr
        · exact hr.trans (Ca.fill_act hr.cl s b)
theorem Ca.write_lg {c : Ca} {s : Nat} {b : Bs} (h : (c.write s b).1 = 0) : (c.write s b).2.lg s = pad 256 b := by
  have hf : ∀ c : Ca, (c.fill s b).lg s = pad 256 b := fun c => by
    unfold Ca.lg Ca.fill
    simp only [upd_same]
  unfold Ca.write at h ⊢
  split
  · rename_i h1; rw [if_pos h1] at h; exact absurd h h1
  · rename_i h1; rw [if_neg h1] at h
    split
    · rename_i h2; rw [if_pos h2] at h; cases h
    · rename_i h2; rw [if_neg h2] at h
      split
      · exact hf c
      · rename_i h3; rw [if_neg h3] at h
        split
        · rename_i h4; rw [if_pos h4] at h; exact absurd h h4
        · exact hf _
theorem Ca.evict_act {c : Ca} (hok : c.Ok) (hcl : c.Cl) (k : Int) : Ca.Act c (c.evict k).2.2 no := by
  unfold Ca.evict
  split
  · exact Ca.Act.refl hcl _
  · split
    · exact Ca.Act.refl hcl _
    · exact Ca.out_act hok hcl _
theorem Ca.drop_act {c : Ca} (hcl : c.Cl) (s : Nat) : Ca.Act c (c.drop s) (· = s) := by
  have hf : ∀ x, (c.drop s).F x = if x = s then none else c.F x := fun x => rfl
  refine ⟨rfl, rfl, fun x _ hx => ?_, fun q hq => .inl hq, fun x hx => ?_, fun x f h2x h hd => ?_⟩
  · unfold Ca.lg; rw [hf, if_neg hx]; rfl
  · obtain ⟨f, h1, h2⟩ := hx; rw [hf] at h1; split at h1
    · cases h1
    · exact .inl ⟨f, h1, h2⟩
  · rw [hf] at h; split at h
    · cases h
    · exact hcl x f h2x h hd
theorem Ca.forget_act {c : Ca} (hcl : c.Cl) (s : Nat) : Ca.Act c (c.forget s) (· = s) := by
  unfold Ca.forget; split
  · exact Ca.Act.refl hcl _
  · exact Ca.drop_act hcl s
theorem Ca.clean_act {c : Ca} (hcl : c.Cl) {s : Nat} (h : 2 ≤ s → ∀ f, c.F s = some f → c.d.says s = f.b) : Ca.Act c (c.clean s) no ∧ ¬ (c.clean s).dirty s := by
  have hf : ∀ x, (c.clean s).F x = if x = s then (c.F s).map (fun f => { f with dirty := false }) else c.F x := fun x => rfl
  refine ⟨⟨rfl, rfl, fun x _ _ => ?_, fun q hq => .inl hq, fun x hx => ?_, fun x f h2x h1 hd => ?_⟩, fun hx => ?_⟩
  · unfold Ca.lg; rw [hf]
    by_cases e : x = s
    · subst e; rw [if_pos rfl]; cases e2 : c.F x <;> rfl
    · rw [if_neg e]; rfl
  · obtain ⟨f, h1, h2⟩ := hx; rw [hf] at h1; split at h1
    · cases e2 : c.F s with
      | none => rw [e2] at h1; cases h1
      | some g => rw [e2] at h1; injection h1 with h1; subst h1; cases h2
    · exact .inl ⟨f, h1, h2⟩
  · rw [hf] at h1; split at h1
    · rename_i e; subst e
      cases e2 : c.F x with
      | none => rw [e2] at h1; cases h1
      | some g => rw [e2] at h1; injection h1 with h1; subst h1; exact (h h2x g e2).symm
    · exact hcl x f h2x h1 hd
  · obtain ⟨f, h1, h2⟩ := hx; rw [hf, if_pos rfl] at h1
    cases e2 : c.F s with
    | none => rw [e2] at h1; cases h1
    | some g => rw [e2] at h1; injection h1 with h1; subst h1; cases h2
theorem Ca.flushL_act : ∀ (l : List Nat) {c : Ca}, c.Ok → c.Cl → Ca.Act c (c.flushL l).2 no ∧ ((c.flushL l).1 = 0 → ∀ x ∈ l, ¬ (c.flushL l).2.dirty x)
  | [], c, _, hcl => ⟨Ca.Act.refl hcl _, fun _ x h => by cases h⟩
  | s :: l, c, hok, hcl => by
    obtain ⟨h1, h2⟩ := Ca.cw_act hok hcl s
    have hF := (Ca.cw_F c s).1
    unfold Ca.flushL
    by_cases e : (c.cw s).1 ≠ 0
    · rw [if_pos e]; exact ⟨h1, fun h => absurd h e⟩
    · rw [if_neg e]
      obtain ⟨h3, h4⟩ := Ca.clean_act h1.cl (s := s) fun h2s f hf => by rw [hF] at hf; exact h2 (by omega) h2s f hf
      obtain ⟨h5, h6⟩ := Ca.flushL_act l ((hok.cw s).clean s) h3.cl
      refine ⟨(h1.trans h3).trans h5, fun h x hx => ?_⟩
      rcases List.mem_cons.1 hx with rfl | hx
      · exact fun hd => (h5.dirty x hd).elim h4 fun h => h
      · exact h6 h x hx
theorem Ca.flush_act {c : Ca} (hok : c.Ok) (hcl : c.Cl) : (Ca.Act c c.flush.2 no ∧ c.flush.1 ≠ 0) ∨
    (c.flush.1 = 0 ∧ ∃ c1 : Ca, Ca.Act c c1 no ∧ c.flush.2 = { c1 with d := c1.d.tick.flat } ∧ ∀ x, ¬ c1.dirty x) := by
  obtain ⟨h1, h2⟩ := Ca.flushL_act c.keys hok hcl
  unfold Ca.flush
  split
  · exact .inl ⟨Ca.Act.refl hcl _, Nat.succ_ne_zero _⟩
  · split
    · rename_i h; exact .inl ⟨h1, h⟩
    · rename_i h
      have hd : ∀ x, ¬ (c.flushL c.keys).2.dirty x := fun x hx => by
        rcases h1.dirty x hx with h3 | h3
        · obtain ⟨f, h4, h5⟩ := h3
          exact h2 (by omega) x (Ca.mem_keys.2 ⟨(hok.dom x f h4).1, by rw [h4]; rfl⟩) hx
        · exact h3
      unfold Dk.barrier
      split
      · exact .inl ⟨⟨h1.S, h1.N, h1.lg, h1.P, h1.dirty, h1.cl⟩, Nat.succ_ne_zero _⟩
      · split
        · exact .inl ⟨⟨h1.S, h1.N, h1.lg, h1.P, h1.dirty, h1.cl⟩, Nat.succ_ne_zero _⟩
        · exact .inr ⟨rfl, _, h1, rfl, hd⟩
end Go.Sp
namespace Go.Sp
def Res (e : Nat) (d : Dk) : Prop := (e = 0 ∧ d.dead = false) ∨ (e = 4 ∧ d.dead = true)
theorem Dk.write_res {d : Dk} (h : d.dead = false) {s : Nat} {b : Bs} (hs : s < d.N) (hb : b.length ≤ 256) : (d.write s b).2 = (d.push s b).tick ∧ Res (d.write s b).1 (d.write s b).2 := by
  have h1 : ¬ (d.N ≤ s ∨ 256 < b.length) := by omega
  unfold Dk.write
  rw [if_neg (by rw [h]; decide), if_neg h1]
  refine ⟨rfl, ?_⟩
  unfold Dk.pw Res
  cases e : (d.push s b).tick.dead with
  | true => exact .inr ⟨by simp, rfl⟩
  | false => exact .inl ⟨by simp, rfl⟩
theorem Ca.cw_res {c : Ca} (hok : c.Ok) (h : c.d.dead = false) (s : Nat) : Res (c.cw s).1 (c.cw s).2.d := by
  unfold Ca.cw
  split
  · exact .inl ⟨rfl, h⟩
  · rename_i f hf
    split
    · exact (Dk.write_res h (hok.dom s f hf).1 (by have := (hok.dom s f hf).2.2; omega)).2
    · exact .inl ⟨rfl, h⟩
theorem Ca.out_res {c : Ca} (hok : c.Ok) (h : c.d.dead = false) (s : Nat) : Res (c.out s).1 (c.out s).2.d := by
  have hr := Ca.cw_res hok h s
  unfold Ca.out
  split
  · rename_i e
    rcases hr with ⟨h1, h2⟩ | ⟨h1, h2⟩
    · exact .inl ⟨rfl, h2⟩
    · omega
  · exact hr
theorem Ca.room_res {c : Ca} (hok : c.Ok) (h : c.d.dead = false) (hM : 1 ≤ c.M) : Res c.room.1 c.room.2.d := by
  unfold Ca.room
  split
  · exact .inl ⟨rfl, h⟩
  · rename_i hk
    obtain ⟨k, e, _⟩ := Ca.oldest_spec hok (by intro e; rw [e] at hk; simp at hk; omega)
    rw [e]
    exact Ca.out_res hok h k
theorem Ca.write_res {c : Ca} (hok : c.Ok) (h : c.d.dead = false) (hM : 1 ≤ c.M) {s : Nat} {b : Bs} (hs : s < c.d.N) (hb : b.length ≤ 256) : Res (c.write s b).1 (c.write s b).2.d := by
  have hr := Ca.room_res hok h hM
  have hm : c.may s = 0 := by unfold Ca.may; rw [h]; simp; omega
  unfold Ca.write
  rw [if_neg (by omega), if_neg (by omega)]
  split
  · exact .inl ⟨rfl, h⟩
  · split
    · exact hr
    · rename_i e
      rcases hr with ⟨h1, h2⟩ | ⟨h1, h2⟩
      · exact .inl ⟨rfl, h2⟩
      · omega
theorem Ca.read_res {c : Ca} (hok : c.Ok) (hcl : c.Cl) (h : c.d.dead = false) (hM : 1 ≤ c.M) {s : Nat} (h2s : 2 ≤ s) (hs : s < c.d.N) (hl : c.lg s ≠ []) : Res (c.read s).1 (c.read s).2.2.d := by
  have hr := Ca.room_res hok h hM
  have ha := Ca.room_act hok hcl
  have hm : c.may s = 0 := by unfold Ca.may; rw [h]; simp; omega
  have hb : Res (c.bring s).1 (c.bring s).2.d := by
    unfold Ca.bring
    rw [if_neg (by omega)]
    split
    · refine .inl ⟨rfl, ?_⟩
      unfold Ca.use
      split
      · exact h
      · exact h
    · rename_i hn
      have hn : c.F s = none := by cases e : c.F s with | none => rfl | some f => rw [e] at hn; exact absurd rfl hn
      split
      · exact hr
      · rename_i e
        rcases hr with ⟨h1, h2⟩ | ⟨h1, h2⟩
        · have hl2 := ha.lg s h2s (fun h => h)
          have e2 : c.room.2.d.read s = (0, c.room.2.d.says s) := by
            have : c.room.2.d.says s ≠ [] := by
              unfold Ca.lg at hl2 hl
              rw [Ca.room_none hn] at hl2
              intro e3
              rw [e3] at hl2
              exact hl hl2.symm
            unfold Dk.read
            rw [if_neg (by rw [h2]; decide), if_neg (by rw [ha.N]; omega), if_neg this]
          rw [e2, if_neg (by simp), Ca.lay_use]
          exact .inl ⟨rfl, h2⟩
        · omega
  unfold Ca.read
  split
  · exact hb
  · rename_i e
    rcases hb with ⟨h1, h2⟩ | ⟨h1, h2⟩
    · exact .inl ⟨rfl, h2⟩
    · omega
theorem Ca.evict_res {c : Ca} (hok : c.Ok) (h : c.d.dead = false) (k : Int) : Res (c.evict k).2.1 (c.evict k).2.2.d := by
  unfold Ca.evict
  rw [if_neg (by rw [h]; decide)]
  split
  · exact .inl ⟨rfl, h⟩
  · exact Ca.out_res hok h _
theorem Ca.flushL_res : ∀ (l : List Nat) {c : Ca}, c.Ok → c.d.dead = false → Res (c.flushL l).1 (c.flushL l).2.d
  | [], c, _, h => .inl ⟨rfl, h⟩
  | s :: l, c, hok, h => by
    have hr := Ca.cw_res hok h s
    unfold Ca.flushL
    split
    · exact hr
    · rename_i e
      rcases hr with ⟨h1, h2⟩ | ⟨h1, h2⟩
      · exact Ca.flushL_res l ((hok.cw s).clean s) h2
      · omega
theorem Dk.barrier_res {d : Dk} (h : d.dead = false) : Res d.barrier.1 d.barrier.2 := by
  unfold Dk.barrier
  rw [if_neg (by rw [h]; decide)]
  split
  · rename_i e; exact .inr ⟨rfl, e⟩
  · rename_i e; exact .inl ⟨rfl, by simpa [Dk.flat] using e⟩
theorem Ca.flush_res {c : Ca} (hok : c.Ok) (h : c.d.dead = false) : Res c.flush.1 c.flush.2.d := by
  have hr := Ca.flushL_res c.keys hok h
  unfold Ca.flush
  rw [if_neg (by rw [h]; decide)]
  split
  · exact hr
  · rename_i e
    rcases hr with ⟨h1, h2⟩ | ⟨h1, h2⟩
    · exact Dk.barrier_res h2
    · omega
structure Sp.Inv (s : Sp) (last now : Nat → Bs) : Prop where
  ok : s.Ok
  pub : Pub s.c.d.S s.c.d.N s.r last
  np : ∀ q ∈ s.c.d.P, ¬ prot s.r q.1
  cl : s.c.Cl
  nd : ∀ x, s.c.dirty x → ¬ prot s.r x
  own1 : ∀ p, s.own p ≠ 0 → 2 ≤ s.own p ∧ s.c.lg (s.own p) = sealed 3 (now p) ∧ (now p).length ≤ 248 ∧ bytes (now p)
  ownn : ∀ p, 1024 ≤ p → s.own p = 0
  odis : ∀ p q, s.own p ≠ 0 → s.own p = s.own q → p = q
  onew : ∀ p, s.own p ≠ 0 → s.own p ≠ s.r.pg p → ¬ prot s.r (s.own p)
def Dk.Stay (d : Dk) (r : Rt) (b : Nat → Bs) : Prop := ∀ tn kp, Pub (upK tn kp d.S d.P d.P.length) d.N r b
theorem Pub.stay {d : Dk} {r : Rt} {b : Nat → Bs} (h : Pub d.S d.N r b) (hp : ∀ q ∈ d.P, ¬ prot r q.1) : d.Stay r b :=
  fun tn kp => h.surv fun x hx => upK_out tn kp d.S d.P (fun q hq e => hp q hq (e ▸ hx)) _
theorem Sp.Inv.stay {s : Sp} {last now : Nat → Bs} (h : s.Inv last now) : s.c.d.Stay s.r last := h.pub.stay h.np
theorem Sp.Inv.act_stay {s : Sp} {last now : Nat → Bs} (h : s.Inv last now) {c' : Ca} {U : Nat → Prop} (ha : Ca.Act s.c c' U) (hU : ∀ x, U x → ¬ prot s.r x) : Pub c'.d.S c'.d.N s.r last ∧ (∀ q ∈ c'.d.P, ¬ prot s.r q.1) ∧ c'.d.Stay s.r last := by
  have h1 : Pub c'.d.S c'.d.N s.r last := by rw [ha.S, ha.N]; exact h.pub
  have h2 : ∀ q ∈ c'.d.P, ¬ prot s.r q.1 := fun q hq => by
    rcases ha.P q hq with e | e | e
    · exact h.np q e
    · exact h.nd _ e
    · exact hU _ e
  exact ⟨h1, h2, h1.stay h2⟩
theorem Sp.Inv.act {s : Sp} {last now : Nat → Bs} (h : s.Inv last now) {c' : Ca} {k : Nat} (ha : Ca.Act s.c c' no) (hi : Ca.In s.c c' k) : (s.withC c').Inv last now := by
  obtain ⟨h1, h2, _⟩ := h.act_stay ha (fun _ h => h.elim)
  exact ⟨h.ok.withC hi, h1, h2, ha.cl, fun x hx => (ha.dirty x hx).elim (h.nd x) fun h => h.elim, fun p hp => ⟨(h.own1 p hp).1, (ha.lg _ (h.own1 p hp).1 (fun h => h)).trans (h.own1 p hp).2.1, (h.own1 p hp).2.2⟩, h.ownn, h.odis, h.onew⟩
theorem Sp.Inv.own_prot {s : Sp} {last now : Nat → Bs} (h : s.Inv last now) {x : Nat} (hx : x ∈ s.rooms) : ¬ prot s.r x ∧ ∀ p, s.own p ≠ x := by
  have h2 := rooms_two hx
  have ht := (mem_rooms.1 hx).2
  unfold Sp.taken at ht
  simp only [Bool.or_eq_false_iff] at ht
  obtain ⟨⟨⟨_, t1⟩, t2⟩, t3⟩ := ht
  refine ⟨?_, fun p e => ?_⟩
  · rintro (h3 | ⟨_, i, hi, e⟩ | ⟨_, p, e⟩)
    · omega
    · rw [List.any_eq_false] at t3
      exact t3 i (List.mem_range.2 hi) (by simpa using e)
    · have hp : p < 1024 := by
        by_cases hp : p < 1024
        · exact hp
        · have := h.pub.nm.pg p (by omega); omega
      rw [List.contains_iff_mem.2 (mem_secs.2 ⟨p, hp, by omega, e⟩)] at t1
      cases t1
  · have hp : p < 1024 := by
      by_cases hp : p < 1024
      · exact hp
      · have := h.ownn p (by omega); omega
    rw [List.contains_iff_mem.2 (mem_secs.2 ⟨p, hp, by omega, e⟩)] at t2
    cases t2
theorem Sp.Inv.read {s : Sp} {last now : Nat → Bs} (h : s.Inv last now) (hd : s.c.d.dead = false) (p : Int) :
    (∃ n : Nat, p = (n : Int) ∧ n < 1024 ∧ s.own n ≠ 0 ∧ Res (s.read p).1 (s.read p).2.2.c.d ∧ ((s.read p).1 = 0 → (s.read p).2.1 = now n) ∧ (s.read p).2.2.Inv last now ∧ (s.read p).2.2.own = s.own ∧ (s.read p).2.2.r = s.r) ∨ (((s.read p).1 = 1 ∨ (s.read p).1 = 7) ∧ (s.read p).2.2 = s ∧ (0 ≤ p → p < 1024 → s.own p.toNat = 0)) := by
  by_cases hr : p < 0 ∨ 1024 ≤ p
  · have hm : s.may p = 1 := by unfold Sp.may; rw [if_neg (by rw [hd]; decide), if_pos hr]
    refine .inr ?_
    unfold Sp.read
    rw [if_pos (by omega)]
    exact ⟨.inl hm, rfl, fun h1 h2 => by omega⟩
  · obtain ⟨n, rfl⟩ : ∃ n : Nat, p = (n : Int) := ⟨p.toNat, by omega⟩
    have hm : s.may (n : Int) = 0 := by unfold Sp.may; rw [if_neg (by rw [hd]; decide), if_neg hr]
    by_cases ho : s.own n = 0
    · refine .inr ?_
      unfold Sp.read
      rw [if_neg (by omega), if_pos (show s.own (n : Int).toNat = 0 from ho)]
      exact ⟨.inr rfl, rfl, fun _ _ => ho⟩
    · obtain ⟨o1, o2, o3, o4⟩ := h.own1 n ho
      have hne : s.c.lg (s.own n) ≠ [] := by
        rw [o2]; intro e; have := sealed_length (k := 3) o3; rw [e] at this; cases this
      have hres := Ca.read_res h.ok.c h.cl hd h.ok.M o1 (h.ok.own n) hne
      have hi := h.act (Ca.read_act h.ok.c h.cl (s.own n)) (Ca.read_in s.c (s.own n))
      have hq : s.read (n : Int) = if (s.c.read (s.own n)).1 ≠ 0 then ((s.c.read (s.own n)).1, [], s.withC (s.c.read (s.own n)).2.2) else ((openB (s.c.read (s.own n)).2.1).2.2, (openB (s.c.read (s.own n)).2.1).2.1, s.withC (s.c.read (s.own n)).2.2) := by
        unfold Sp.read
        rw [if_neg (by omega), if_neg (show ¬ s.own (n : Int).toNat = 0 from ho)]
        rfl
      refine .inl ⟨n, rfl, by omega, ho, ?_⟩
      rw [hq]
      by_cases he : (s.c.read (s.own n)).1 = 0
      · have hb := Ca.read_lg h.ok.c h.cl o1 he
        rw [o2] at hb
        have hop : openB (s.c.read (s.own n)).2.1 = (3, now n, 0) := by rw [hb, open_sealed (by decide) o3 o4]
        rw [if_neg (by simpa using he), hop]
        rcases hres with ⟨r1, r2⟩ | ⟨r1, r2⟩
        · exact ⟨.inl ⟨rfl, r2⟩, fun _ => rfl, hi, rfl, rfl⟩
        · omega
      · rw [if_pos he]
        exact ⟨hres, fun h => absurd h he, hi, rfl, rfl⟩
theorem Sp.Inv.evict {s : Sp} {last now : Nat → Bs} (h : s.Inv last now) (hd : s.c.d.dead = false) (k : Int) : Res (s.c.evict k).2.1 (s.withC (s.c.evict k).2.2).c.d ∧ (s.withC (s.c.evict k).2.2).Inv last now := by
  have hin : Ca.In s.c (s.c.evict k).2.2 1 := by
    unfold Ca.evict
    split
    · exact Ca.In.refl _ _
    · split
      · exact Ca.In.refl _ _
      · exact Ca.out_in _ _
  exact ⟨Ca.evict_res h.ok.c hd k, h.act (Ca.evict_act h.ok.c h.cl k) hin⟩
theorem Sp.Inv.drop {s : Sp} {last now : Nat → Bs} (h : s.Inv last now) (hd : s.c.d.dead = false) (p : Int) :
    (∃ n : Nat, p = (n : Int) ∧ n < 1024 ∧ s.own n ≠ 0 ∧ s.drop p = (0, s.setOwn n 0) ∧ (s.setOwn n 0).Inv last now) ∨ (((s.drop p).1 = 1 ∨ (s.drop p).1 = 7) ∧ (s.drop p).2 = s) := by
  by_cases hr : p < 0 ∨ 1024 ≤ p
  · have hm : s.may p = 1 := by unfold Sp.may; rw [if_neg (by rw [hd]; decide), if_pos hr]
    refine .inr ?_
    unfold Sp.drop
    rw [if_pos (by omega)]
    exact ⟨.inl hm, rfl⟩
  · obtain ⟨n, rfl⟩ : ∃ n : Nat, p = (n : Int) := ⟨p.toNat, by omega⟩
    have hm : s.may (n : Int) = 0 := by unfold Sp.may; rw [if_neg (by rw [hd]; decide), if_neg hr]
    by_cases ho : s.own n = 0
    · refine .inr ?_
      unfold Sp.drop
      rw [if_neg (by omega), if_pos (show s.own (n : Int).toNat = 0 from ho)]
      exact ⟨.inr rfl, rfl⟩
    · have hown : ∀ q, (s.setOwn n 0).own q ≠ 0 → q ≠ n ∧ (s.setOwn n 0).own q = s.own q := fun q hq => by
        have hu : (s.setOwn n 0).own q = if q = n then 0 else s.own q := rfl
        by_cases e : q = n
        · rw [hu, if_pos e] at hq; exact absurd rfl hq
        · exact ⟨e, by rw [hu, if_neg e]⟩
      refine .inl ⟨n, rfl, by omega, ho, ?_, ⟨⟨h.ok.c, h.ok.M, fun q => ?_, h.ok.pg, h.ok.at'⟩, h.pub, h.np, h.cl, h.nd, fun q hq => ?_, fun q hq => ?_, fun p q hp he => ?_, fun q hq hn => ?_⟩⟩
      · unfold Sp.drop
        rw [if_neg (by omega), if_neg (show ¬ s.own (n : Int).toNat = 0 from ho)]
        rfl
      · have := h.ok.own q; have := h.ok.own n
        show upd s.own n 0 q < s.c.d.N
        unfold upd; split <;> omega
      · obtain ⟨_, e⟩ := hown q hq; rw [e] at hq ⊢; exact h.own1 q hq
      · show upd s.own n 0 q = 0
        unfold upd; split
        · rfl
        · exact h.ownn q hq
      · obtain ⟨_, e⟩ := hown p hp
        obtain ⟨_, e2⟩ := hown q (he ▸ hp)
        rw [e] at hp he; rw [e2] at he
        exact h.odis p q hp he
      · obtain ⟨_, e⟩ := hown q hq; rw [e] at hq hn ⊢; exact h.onew q hq hn
end Go.Sp
namespace Go.Sp
theorem Sp.put_res {s : Sp} {last now : Nat → Bs} (h : s.Inv last now) (hd : s.c.d.dead = false) {x k : Nat} {b : Bs} (hk : 0 < k) (hx : x < s.c.d.N) (hb : b.length ≤ 248) :
    Res (s.put x k b).1 (s.put x k b).2.c.d ∧ Ca.Act s.c (s.put x k b).2.c (· = x) ∧ ((s.put x k b).1 = 0 → (s.put x k b).2.c.lg x = sealed k b) := by
  have hl := sealed_length (k := k) hb
  rw [Sp.put_eq hk hb]
  exact ⟨Ca.write_res h.ok.c hd h.ok.M hx (by omega), Ca.write_act h.ok.c h.cl x _, fun he => (Ca.write_lg he).trans (pad_self hl)⟩
theorem Sp.Inv.put_set {s : Sp} {last now : Nat → Bs} (h : s.Inv last now) {x n : Nat} {b : Bs} (hn : n < 1024) (hx : 2 ≤ x ∧ x < s.c.d.N) (hp : ¬ prot s.r x) (ho : ∀ q, q ≠ n → s.own q ≠ x) (hb : b.length ≤ 248) (hbb : bytes b) {c' : Ca}
    (ha : Ca.Act s.c c' (· = x)) (hi : Ca.In s.c c' 2) (hl : c'.lg x = sealed 3 b) : ((s.withC c').setOwn n x).Inv last (upd now n b) := by
  obtain ⟨h1, h2, _⟩ := h.act_stay ha (fun y hy => hy ▸ hp)
  have hok := h.ok.withC hi
  have hown : ∀ q, ((s.withC c').setOwn n x).own q = if q = n then x else s.own q := fun q => rfl
  refine ⟨⟨hok.c, hok.M, fun q => ?_, hok.pg, hok.at'⟩, h1, h2, ha.cl, fun y hy => (ha.dirty y hy).elim (h.nd y) fun e => e ▸ hp, fun q hq => ?_, fun q hq => ?_, fun q q' hq he => ?_, fun q hq hne => ?_⟩
  · rw [hown]
    split
    · show x < c'.d.N; rw [ha.N]; exact hx.2
    · exact hok.own q
  · rw [hown] at hq ⊢
    by_cases e : q = n
    · rw [if_pos e, e, upd_same]; exact ⟨hx.1, hl, hb, hbb⟩
    · rw [if_neg e] at hq ⊢
      rw [upd_other _ e]
      obtain ⟨o1, o2, o3⟩ := h.own1 q hq
      exact ⟨o1, (ha.lg _ o1 (ho q e)).trans o2, o3⟩
  · rw [hown, if_neg (by omega)]; exact h.ownn q hq
  · rw [hown] at hq he
    rw [hown] at he
    by_cases e : q = n <;> by_cases e' : q' = n
    · rw [e, e']
    · rw [if_pos e, if_neg e'] at he; exact absurd he.symm (ho q' e')
    · rw [if_neg e, if_pos e'] at he; exact absurd he (ho q e)
    · rw [if_neg e] at hq he; rw [if_neg e'] at he; exact h.odis q q' hq he
  · rw [hown] at hq hne ⊢
    by_cases e : q = n
    · rw [if_pos e]; exact hp
    · rw [if_neg e] at hq hne ⊢; exact h.onew q hq hne
theorem Sp.Inv.write {s : Sp} {last now : Nat → Bs} (h : s.Inv last now) (hd : s.c.d.dead = false) (p : Int) {b : Bs} (hbb : bytes b) :
    (∃ n : Nat, p = (n : Int) ∧ n < 1024 ∧ (s.write p b).1 = 0 ∧ (s.write p b).2.c.d.dead = false ∧ (s.write p b).2.Inv last (upd now n b) ∧ (s.write p b).2.r = s.r ∧ (s.write p b).2.own n ≠ 0 ∧ ∀ q, q ≠ n → (s.write p b).2.own q = s.own q) ∨
    ((s.write p b).1 ≠ 0 ∧ (s.write p b).1 ≠ 4 ∧ (s.write p b).2 = s) ∨
    ((s.write p b).1 = 4 ∧ (s.write p b).2.c.d.dead = true ∧ (s.write p b).2.c.d.N = s.c.d.N ∧ (s.write p b).2.c.d.Ok ∧ (s.write p b).2.c.d.Stay s.r last) := by
  by_cases hr : p < 0 ∨ 1024 ≤ p
  · have hm : s.may p = 1 := by unfold Sp.may; rw [if_neg (by rw [hd]; decide), if_pos hr]
    have e : s.write p b = (1, s) := by unfold Sp.write; rw [if_pos (by omega), hm]
    rw [e]; exact .inr (.inl ⟨Nat.succ_ne_zero _, fun h => by simp at h, rfl⟩)
  · obtain ⟨n, rfl⟩ : ∃ n : Nat, p = (n : Int) := ⟨p.toNat, by omega⟩
    have hm : s.may (n : Int) = 0 := by unfold Sp.may; rw [if_neg (by rw [hd]; decide), if_neg hr]
    by_cases hb : 248 < b.length
    · have e : s.write (n : Int) b = (1, s) := by unfold Sp.write; rw [if_neg (by omega), if_pos hb]
      rw [e]; exact .inr (.inl ⟨Nat.succ_ne_zero _, fun h => by simp at h, rfl⟩)
    have hb : b.length ≤ 248 := by omega
    -- one act for both ways
    have key : ∀ x, (2 ≤ x ∧ x < s.c.d.N) → ¬ prot s.r x → (∀ q, q ≠ n → s.own q ≠ x) → s.write (n : Int) b = (if (s.put x 3 b).1 ≠ 0 then s.put x 3 b else (0, (s.put x 3 b).2.setOwn n x)) →
        (∃ m : Nat, (n : Int) = (m : Int) ∧ m < 1024 ∧ (s.write (n : Int) b).1 = 0 ∧ (s.write (n : Int) b).2.c.d.dead = false ∧ (s.write (n : Int) b).2.Inv last (upd now m b) ∧ (s.write (n : Int) b).2.r = s.r ∧ (s.write (n : Int) b).2.own m ≠ 0 ∧ ∀ q, q ≠ m → (s.write (n : Int) b).2.own q = s.own q) ∨
        ((s.write (n : Int) b).1 ≠ 0 ∧ (s.write (n : Int) b).1 ≠ 4 ∧ (s.write (n : Int) b).2 = s) ∨
        ((s.write (n : Int) b).1 = 4 ∧ (s.write (n : Int) b).2.c.d.dead = true ∧ (s.write (n : Int) b).2.c.d.N = s.c.d.N ∧ (s.write (n : Int) b).2.c.d.Ok ∧ (s.write (n : Int) b).2.c.d.Stay s.r last) := by
      intro x hx hp ho e
      obtain ⟨p1, p2, p3⟩ := Sp.put_res h hd (k := 3) (b := b) (by decide) hx.2 hb
      have hin : Ca.In s.c (s.put x 3 b).2.c 2 := Sp.put_in
      have hst := h.act_stay p2 (fun y hy => hy ▸ hp)
      have hsame := Sp.put_same (s := s) (x := x) (k := 3) (b := b)
      have hsp : (s.put x 3 b).2 = s.withC (s.put x 3 b).2.c := by rw [Sp.put_eq (by decide) hb]; rfl
      rw [e]
      rcases p1 with ⟨r1, r2⟩ | ⟨r1, r2⟩
      · rw [if_neg (by omega)]
        refine .inl ⟨n, rfl, by omega, rfl, r2, ?_, hsame.2, ?_, fun q hq => ?_⟩
        · show ((s.put x 3 b).2.setOwn n x).Inv last (upd now n b)
          rw [hsp]
          exact h.put_set (by omega) hx hp ho hb hbb p2 hin (p3 r1)
        · show upd (s.put x 3 b).2.own n x n ≠ 0
          rw [upd_same]; omega
        · show upd (s.put x 3 b).2.own n x q = _
          rw [upd_other _ hq, hsame.1]
      · rw [if_pos (by omega)]
        exact .inr (.inr ⟨r1, r2, hin.N, (hin.ok h.ok.c).d, hst.2.2⟩)
    by_cases ht : s.turned n = true
    · have ht' : 0 < s.own n ∧ s.own n ≠ s.r.pg n := by unfold Sp.turned at ht; simpa using ht
      refine key (s.own n) ⟨(h.own1 n (by omega)).1, h.ok.own n⟩ (h.onew n (by omega) ht'.2) (fun q hq e => hq (h.odis q n (by omega) e)) ?_
      have e : s.write (n : Int) b = s.put (s.own n) 3 b := by
        unfold Sp.write
        rw [if_neg (by omega), if_neg (by omega), if_pos (show s.turned (n : Int).toNat = true from ht)]
        rfl
      rw [e]
      split
      · rfl
      · rename_i h0
        have h0 : (s.put (s.own n) 3 b).1 = 0 := by omega
        have : (s.put (s.own n) 3 b).2.setOwn n (s.own n) = (s.put (s.own n) 3 b).2 := by
          unfold Sp.setOwn
          have : upd (s.put (s.own n) 3 b).2.own n (s.own n) = (s.put (s.own n) 3 b).2.own := by
            funext q; unfold upd; split
            · rename_i e; subst e; rw [(Sp.put_same).1]
            · rfl
          rw [this]
        rw [this, ← h0]
    · by_cases hf : s.rooms.length ≤ 18
      · have e : s.write (n : Int) b = (6, s) := by
          unfold Sp.write
          rw [if_neg (by omega), if_neg (by omega), if_neg (show ¬ s.turned (n : Int).toNat = true from ht), if_pos hf]
        rw [e]; exact .inr (.inl ⟨Nat.succ_ne_zero _, fun h => by simp at h, rfl⟩)
      · have hx := Sp.room_get (s := s) (by omega)
        obtain ⟨g1, g2⟩ := h.own_prot hx
        refine key (s.rooms.getD 0 0) ⟨rooms_two hx, (mem_rooms.1 hx).1⟩ g1 (fun q _ => g2 q) ?_
        unfold Sp.write
        rw [if_neg (by omega), if_neg (by omega), if_neg (show ¬ s.turned (n : Int).toNat = true from ht), if_neg hf]
        rfl
theorem Sp.Inv.lg_prot {s : Sp} {last now : Nat → Bs} (h : s.Inv last now) {x : Nat} (h2x : 2 ≤ x) (hx : prot s.r x) : s.c.lg x = s.c.d.S x := by
  have hs : s.c.d.says x = s.c.d.S x := fold_out _ _ fun q hq e => h.np q hq (e ▸ hx)
  unfold Ca.lg
  cases e : s.c.F x with
  | none => exact hs
  | some f =>
    have : f.dirty = false := by
      cases hd : f.dirty with
      | false => rfl
      | true => exact absurd hx (h.nd x ⟨f, e, hd⟩)
    show f.b = _
    rw [h.cl x f h2x e this, hs]
theorem forgets_act {s : Sp} : ∀ (l : List Nat) {c : Ca}, c.Cl → Ca.Act c (l.foldl (fun c p => c.forget (s.own p)) c) (fun x => ∃ p ∈ l, s.own p = x) ∧ Ca.In c (l.foldl (fun c p => c.forget (s.own p)) c) 0
  | [], c, hcl => ⟨Ca.Act.refl hcl _, Ca.In.refl _ _⟩
  | p :: l, c, hcl => by
    have h1 := (Ca.forget_act hcl (s.own p)).mono (V := fun x => ∃ q ∈ p :: l, s.own q = x) fun x hx => ⟨p, List.mem_cons_self, hx.symm⟩
    obtain ⟨h2, h3⟩ := forgets_act (s := s) l h1.cl
    exact ⟨h1.trans (h2.mono fun x ⟨q, hq, e⟩ => ⟨q, List.mem_cons_of_mem _ hq, e⟩), ((Ca.forget_in c _).trans h3).mono (by omega)⟩
theorem Sp.Inv.abort {s : Sp} {last now : Nat → Bs} (h : s.Inv last now) (hd : s.c.d.dead = false) :
    s.abort.1 = 0 ∧ s.abort.2.c.d.dead = false ∧ s.abort.2.Inv last last ∧ s.abort.2.own = s.r.pg ∧ s.abort.2.r = s.r := by
  obtain ⟨ha, hi⟩ := forgets_act (s := s) ((pgs s.own).filter s.turned) h.cl
  have hU : ∀ x, (∃ p ∈ (pgs s.own).filter s.turned, s.own p = x) → ¬ prot s.r x := by
    rintro x ⟨p, hp, rfl⟩
    have ht := (List.mem_filter.1 hp).2
    unfold Sp.turned at ht
    have ht : 0 < s.own p ∧ s.own p ≠ s.r.pg p := by simpa using ht
    exact h.onew p (by omega) ht.2
  obtain ⟨h1, h2, _⟩ := h.act_stay ha hU
  have hon : s.on = 0 := by unfold Sp.on; rw [hd]; rfl
  have hdd : ∀ (l : List Nat) (c : Ca), c.d.dead = false → (l.foldl (fun c p => c.forget (s.own p)) c).d.dead = false := by
    intro l
    induction l with
    | nil => intro c h; exact h
    | cons p l ih =>
      intro c h
      refine ih _ ?_
      show (c.forget (s.own p)).d.dead = false
      unfold Ca.forget; split <;> exact h
  have hok := h.ok.withC hi
  unfold Sp.abort
  rw [if_neg (by omega)]
  refine ⟨rfl, hdd _ _ hd, ⟨⟨hok.c, hok.M, hok.pg, hok.pg, hok.at'⟩, h1, h2, ha.cl, fun x hx => (ha.dirty x hx).elim (h.nd x) (hU x), fun p hp => ?_, h.pub.nm.pg, h.pub.dpg, fun p _ hne => absurd rfl hne⟩, rfl, rfl⟩
  obtain ⟨⟨o1, o2⟩, o3, o4, o5⟩ := h.pub.pg1 p hp
  have hpr : prot s.r (s.r.pg p) := .inr (.inr ⟨hp, p, rfl⟩)
  exact ⟨o1, (ha.lg _ o1 fun hx => hU _ hx hpr).trans ((h.lg_prot o1 hpr).trans o3), o4, o5⟩
end Go.Sp
namespace Go.Sp
theorem put_go {s : Sp} (hok : s.Ok) (hcl : s.c.Cl) (hd : s.c.d.dead = false) {x k : Nat} {b : Bs} (hk : 0 < k) (hx : x < s.c.d.N) (hb : b.length ≤ 248) :
    Res (s.put x k b).1 (s.put x k b).2.c.d ∧ Ca.Act s.c (s.put x k b).2.c (· = x) ∧ ((s.put x k b).1 = 0 → (s.put x k b).2.c.lg x = sealed k b) := by
  have hl := sealed_length (k := k) hb
  rw [Sp.put_eq hk hb]
  exact ⟨Ca.write_res hok.c hd hok.M hx (by omega), Ca.write_act hok.c hcl x _, fun he => (Ca.write_lg he).trans (pad_self hl)⟩
theorem putL_go : ∀ (l : List (Nat × Nat)) (s : Sp) (f : Nat → Nat), s.Ok → s.c.Cl → s.c.d.dead = false → (∀ q ∈ l, 2 ≤ q.1 ∧ q.1 < s.c.d.N) → (l.map Prod.fst).Nodup → (l.map Prod.snd).Nodup →
    Ca.Act s.c (s.putL f l).2.2.c (fun x => ∃ q ∈ l, q.1 = x) ∧ Ca.In s.c (s.putL f l).2.2.c (2 * l.length) ∧ (s.putL f l).2.2.own = s.own ∧ (s.putL f l).2.2.r = s.r ∧ Res (s.putL f l).1 (s.putL f l).2.2.c.d ∧
    ((s.putL f l).1 = 0 → (∀ z ∈ l, (s.putL f l).2.2.c.lg z.1 = sealed 2 (part s.own z.2)) ∧ (∀ i, (∀ z ∈ l, z.2 ≠ i) → (s.putL f l).2.1 i = f i) ∧ ∀ z ∈ l, (s.putL f l).2.1 z.2 = z.1)
  | [], s, f, _, hcl, hd, _, _, _ => ⟨Ca.Act.refl hcl _, Ca.In.refl _ _, rfl, rfl, .inl ⟨rfl, hd⟩, fun _ => ⟨fun z h => by simp at h, fun i _ => rfl, fun z h => by simp at h⟩⟩
  | (x, i) :: l, s, f, hok, hcl, hd, hl, hn1, hn2 => by
    obtain ⟨p1, p2, p3⟩ := put_go hok hcl hd (k := 2) (b := part s.own i) (by decide) (hl (x, i) List.mem_cons_self).2 (part_le _ _)
    have hin : Ca.In s.c (s.put x 2 (part s.own i)).2.c 2 := Sp.put_in
    obtain ⟨hs1, hs2⟩ := Sp.put_same (s := s) (x := x) (k := 2) (b := part s.own i)
    rw [List.map_cons, List.nodup_cons] at hn1 hn2
    unfold Sp.putL
    rcases p1 with ⟨r1, r2⟩ | ⟨r1, r2⟩
    · rw [if_neg (fun h => h r1)]
      obtain ⟨g1, g2, g3, g4, g5, g6⟩ := putL_go l (s.put x 2 (part s.own i)).2 (upd f i x) hok.put p2.cl r2 (fun q hq => by rw [hin.N]; exact hl q (List.mem_cons_of_mem _ hq)) hn1.2 hn2.2
      refine ⟨(p2.mono fun y hy => ⟨(x, i), List.mem_cons_self, hy.symm⟩).trans (g1.mono fun y ⟨q, hq, e⟩ => ⟨q, List.mem_cons_of_mem _ hq, e⟩), (hin.trans g2).mono (by simp; omega), g3.trans hs1, g4.trans hs2, g5, fun he => ?_⟩
      obtain ⟨a1, a2, a3⟩ := g6 he
      refine ⟨fun z hz => ?_, fun j hj => ?_, fun z hz => ?_⟩
      · rcases List.mem_cons.1 hz with rfl | hz
        · rw [g1.lg x (hl (x, i) List.mem_cons_self).1 (fun ⟨q, hq, e⟩ => hn1.1 (List.mem_map.2 ⟨q, hq, e⟩))]; exact p3 r1
        · rw [a1 z hz, hs1]
      · rw [a2 j fun z hz => hj z (List.mem_cons_of_mem _ hz), upd_other _ (fun e => hj (x, i) List.mem_cons_self e.symm)]
      · rcases List.mem_cons.1 hz with rfl | hz
        · rw [a2 i fun z hz e => hn2.1 (List.mem_map.2 ⟨z, hz, e⟩), upd_same]
        · exact a3 z hz
    · have r1' : (s.put x 2 (Go.Sp.part s.own i)).1 ≠ 0 := by rw [r1]; decide
      rw [if_pos r1']
      exact ⟨p2.mono fun y hy => ⟨(x, i), List.mem_cons_self, hy.symm⟩, hin.mono (by simp; omega), hs1, hs2, .inr ⟨r1, r2⟩, fun he => absurd he r1'⟩
theorem zip_fst_nodup : ∀ (l m : List Nat), l.Nodup → ((l.zip m).map Prod.fst).Nodup
  | [], _, _ => by simp
  | _ :: _, [], _ => by simp
  | a :: l, b :: m, h => by
    rw [List.nodup_cons] at h
    rw [List.zip_cons_cons, List.map_cons, List.nodup_cons]
    refine ⟨fun hm => ?_, zip_fst_nodup l m h.2⟩
    obtain ⟨⟨x, y⟩, hq, e⟩ := List.mem_map.1 hm
    have e : x = a := e
    exact h.1 (e ▸ (List.of_mem_zip hq).1)
theorem nodup_fst : ∀ (L : List (Nat × Nat)), (L.map Prod.fst).Nodup → ∀ {x i j}, (x, i) ∈ L → (x, j) ∈ L → i = j
  | [], _, _, _, _, h, _ => by simp at h
  | (a, b) :: L, hn, x, i, j, h1, h2 => by
    rw [List.map_cons, List.nodup_cons] at hn
    rcases List.mem_cons.1 h1 with e1 | e1 <;> rcases List.mem_cons.1 h2 with e2 | e2
    · injection e1 with _ e1; injection e2 with _ e2; rw [e1, e2]
    · injection e1 with e1 _; exact absurd (List.mem_map.2 ⟨_, e2, e1⟩) hn.1
    · injection e2 with e2 _; exact absurd (List.mem_map.2 ⟨_, e1, e2⟩) hn.1
    · exact nodup_fst L hn.2 e1 e2
theorem rooms_nodup (s : Sp) : s.rooms.Nodup := List.nodup_range.filter _
theorem turnedP_nodup (f g : Nat → Nat) : (turnedP f g).Nodup := List.nodup_range.filter _
theorem full_nodup (s : Sp) : s.full.Nodup := (turnedP_nodup _ _).filter _
theorem mem_turnedP {f g : Nat → Nat} {i : Nat} : i ∈ turnedP f g ↔ i < 9 ∧ pgPart f i ≠ pgPart g i := by simp [turnedP]
structure Laid (s : Sp) (f : Nat → Nat) (lg : Nat → Bs) : Prop where
  on : ∀ i, i < 9 → f i ≠ 0 → (f i ∈ s.rooms ∧ lg (f i) = sealed 2 (part s.own i) ∧ part s.own i ≠ []) ∨ (f i = s.r.at' i ∧ part s.own i = part s.r.pg i)
  off : ∀ i, i < 9 → f i = 0 → part s.own i = []
  out : ∀ i, 9 ≤ i → f i = 0
  dis : ∀ i j, i < 9 → j < 9 → f i ≠ 0 → f i = f j → i = j
theorem Sp.Inv.parts {s : Sp} {last now : Nat → Bs} (h : s.Inv last now) (hd : s.c.d.dead = false) : s.parts = (6, s.r.at', s) ∨
    (Ca.Act s.c s.parts.2.2.c (· ∈ s.rooms) ∧ Ca.In s.c s.parts.2.2.c 18 ∧ s.parts.2.2.own = s.own ∧ s.parts.2.2.r = s.r ∧ Res s.parts.1 s.parts.2.2.c.d ∧ (s.parts.1 = 0 → Laid s s.parts.2.1 s.parts.2.2.c.lg)) := by
  by_cases hlt : s.rooms.length < s.full.length
  · exact .inl (if_pos hlt)
  · refine .inr ?_
    have hz2 : ((s.rooms.zip s.full).map Prod.snd) = s.full := List.map_snd_zip (by omega)
    have hn1 := zip_fst_nodup s.rooms s.full (rooms_nodup s)
    obtain ⟨g1, g2, g3, g4, g5, g6⟩ := putL_go (s.rooms.zip s.full) s s.at0 h.ok h.cl hd (fun q hq => ⟨rooms_two (List.of_mem_zip (show (q.1, q.2) ∈ _ from hq)).1, (mem_rooms.1 (List.of_mem_zip (show (q.1, q.2) ∈ _ from hq)).1).1⟩) hn1 (by rw [hz2]; exact full_nodup s)
    have e : s.parts = s.putL s.at0 (s.rooms.zip s.full) := if_neg hlt
    rw [e]
    refine ⟨g1.mono fun x ⟨q, hq, e⟩ => e ▸ (List.of_mem_zip (show (q.1, q.2) ∈ _ from hq)).1, g2.mono (by rw [List.length_zip]; have := full_le s; omega), g3, g4, g5, fun he => ?_⟩
    obtain ⟨a1, a2, a3⟩ := g6 he
    have hin : ∀ i, i ∈ s.full → ∃ x, (x, i) ∈ s.rooms.zip s.full ∧ (s.putL s.at0 (s.rooms.zip s.full)).2.1 i = x := fun i hi => by
      rw [← hz2] at hi
      obtain ⟨⟨x, j⟩, hq, e⟩ := List.mem_map.1 hi
      have e : j = i := e
      subst e
      exact ⟨x, hq, a3 (x, j) hq⟩
    have hout : ∀ i, i ∉ s.full → (s.putL s.at0 (s.rooms.zip s.full)).2.1 i = if i ∈ turnedP s.own s.r.pg then 0 else s.r.at' i := fun i hi => by
      rw [a2 i fun z hz e => hi (e ▸ (List.of_mem_zip (show (z.1, z.2) ∈ _ from hz)).2)]
      unfold Sp.at0
      by_cases hm : i ∈ turnedP s.own s.r.pg
      · rw [if_pos hm, if_pos (List.contains_iff_mem.2 hm)]
      · rw [if_neg hm, if_neg (fun hc => hm (List.contains_iff_mem.1 hc))]
    have hfull : ∀ i, i ∈ s.full ↔ i ∈ turnedP s.own s.r.pg ∧ part s.own i ≠ [] := fun i => by
      unfold Sp.full
      rw [List.mem_filter, decide_eq_true_eq]
      refine and_congr Iff.rfl ⟨fun h e => h (by rw [e]; rfl), fun h e => h (List.length_eq_zero_iff.1 e)⟩
    have hun : ∀ i, i < 9 → i ∉ turnedP s.own s.r.pg → part s.own i = part s.r.pg i := fun i hi hm => by
      unfold Go.Sp.part
      rw [show pgPart s.own i = pgPart s.r.pg i from by
        by_cases e : pgPart s.own i = pgPart s.r.pg i
        · exact e
        · exact absurd (mem_turnedP.2 ⟨hi, e⟩) hm]
    refine ⟨fun i hi hne => ?_, fun i hi h0 => ?_, fun i hi => ?_, fun i j hi hj hne he2 => ?_⟩
    · by_cases hf : i ∈ s.full
      · obtain ⟨x, hx, e⟩ := hin i hf
        refine .inl ⟨by rw [e]; exact (List.of_mem_zip hx).1, ?_, ((hfull i).1 hf).2⟩
        rw [e]; exact a1 (x, i) hx
      · have e := hout i hf
        by_cases hm : i ∈ turnedP s.own s.r.pg
        · rw [if_pos hm] at e; exact absurd e hne
        · rw [if_neg hm] at e; exact .inr ⟨e, hun i hi hm⟩
    · by_cases hf : i ∈ s.full
      · obtain ⟨x, hx, e⟩ := hin i hf
        have := rooms_two (List.of_mem_zip hx).1
        omega
      · have e := hout i hf
        by_cases hm : i ∈ turnedP s.own s.r.pg
        · by_cases hp : part s.own i = []
          · exact hp
          · exact absurd ((hfull i).2 ⟨hm, hp⟩) hf
        · rw [if_neg hm] at e
          rw [hun i hi hm]
          exact h.pub.at0 i hi (by omega)
    · have hm : i ∉ turnedP s.own s.r.pg := fun hm => by have := (mem_turnedP.1 hm).1; omega
      rw [hout i fun hf => hm ((hfull i).1 hf).1, if_neg hm]
      exact h.pub.nm.at9 i hi
    · have hcase : ∀ i, i < 9 → (s.putL s.at0 (s.rooms.zip s.full)).2.1 i ≠ 0 → (∃ x, (x, i) ∈ s.rooms.zip s.full ∧ (s.putL s.at0 (s.rooms.zip s.full)).2.1 i = x) ∨ (s.putL s.at0 (s.rooms.zip s.full)).2.1 i = s.r.at' i := fun i hi hne => by
        by_cases hf : i ∈ s.full
        · exact .inl (hin i hf)
        · have e := hout i hf
          by_cases hm : i ∈ turnedP s.own s.r.pg
          · rw [if_pos hm] at e; exact absurd e hne
          · rw [if_neg hm] at e; exact .inr e
      have hno : ∀ x i j, (x, i) ∈ s.rooms.zip s.full → j < 9 → x ≠ s.r.at' j := fun x i j hx hj e => by
        have h2 := rooms_two (List.of_mem_zip hx).1
        exact (h.own_prot (List.of_mem_zip hx).1).1 (.inr (.inl ⟨by omega, j, hj, e.symm⟩))
      rcases hcase i hi hne with ⟨x, x1, x2⟩ | x1 <;> rcases hcase j hj (he2 ▸ hne) with ⟨y, y1, y2⟩ | y1
      · have : x = y := by rw [← x2, ← y2, he2]
        subst this
        exact nodup_fst _ hn1 x1 y1
      · exact absurd (by rw [← x2, he2, y1]) (hno x i j x1 hj)
      · exact absurd (by rw [← y2, ← he2, x1]) (hno y j i y1 hi)
      · exact h.pub.dat i j hi hj (x1 ▸ hne) (by rw [← x1, ← y1, he2])
end Go.Sp
namespace Go.Sp
theorem Pub.torn {S : Nat → Bs} {N : Nat} {r : Rt} {body : Nat → Bs} (h : Pub S N r body) {o : Nat} (ho : o = 1 - r.ep % 2) : Pub (setS S (o, [])) N r body := by
  have hs : ∀ x, x ≠ o → setS S (o, []) x = S x := fun x hx => if_neg hx
  have hm : r.ep % 2 ≠ o := by omega
  refine { nm := h.nm, slot := (hs _ hm).trans h.slot, at1 := fun i hi h0 => ⟨(h.at1 i hi h0).1, (hs _ (by have := (h.at1 i hi h0).1; omega)).trans (h.at1 i hi h0).2.1, (h.at1 i hi h0).2.2⟩, at0 := h.at0, pg1 := fun p h0 => ⟨(h.pg1 p h0).1, (hs _ (by have := (h.pg1 p h0).1; omega)).trans (h.pg1 p h0).2.1, (h.pg1 p h0).2.2⟩, dat := h.dat, dpg := h.dpg, dap := h.dap, other := fun x hx => ?_, hN := h.hN }
  rw [← ho, show setS S (o, []) o = [] from if_pos rfl] at hx
  have : candB [] o = none := by unfold candB rdB; simp
  rw [this] at hx; cases hx
theorem upK_one (tn kp : Nat → Bool) (S : Nat → Bs) (q : Nat × Bs) : upK tn kp S [q] 1 = if tn 0 then setS S (q.1, []) else if kp 0 then setS S q else S := rfl
theorem Sp.Inv.commit {s : Sp} {last now : Nat → Bs} (h : s.Inv last now) (hd : s.c.d.dead = false) {mt : Bs} (hmb : bytes mt) :
    ((s.commit mt).1 = 0 ∧ (s.commit mt).2.c.d.dead = false ∧ (s.commit mt).2.Inv now now ∧ (s.commit mt).2.r.mt = mt ∧ (s.commit mt).2.r.pg = s.own ∧ (s.commit mt).2.own = s.own) ∨
    ((s.commit mt).1 ≠ 0 ∧ (s.commit mt).1 ≠ 4 ∧ (s.commit mt).2 = s) ∨
    ((s.commit mt).1 = 4 ∧ (s.commit mt).2.c.d.dead = true ∧ (s.commit mt).2.c.d.N = s.c.d.N ∧ (s.commit mt).2.c.d.Ok ∧
      ∀ tn kp, Pub (upK tn kp (s.commit mt).2.c.d.S (s.commit mt).2.c.d.P (s.commit mt).2.c.d.P.length) s.c.d.N s.r last ∨ ∃ r : Rt, r.mt = mt ∧ r.pg = s.own ∧ Pub (upK tn kp (s.commit mt).2.c.d.S (s.commit mt).2.c.d.P (s.commit mt).2.c.d.P.length) s.c.d.N r now) := by
  have hon : s.on = 0 := by unfold Sp.on; rw [hd]; rfl
  by_cases hm : 200 < mt.length
  · have e : s.commit mt = (1, s) := by unfold Sp.commit; rw [if_neg (by omega), if_pos hm]
    rw [e]; exact .inr (.inl ⟨Nat.succ_ne_zero _, fun h => by simp at h, rfl⟩)
  by_cases hep : (s.r.ep + 1) % 4294967296 = 0
  · have e : s.commit mt = (6, s) := by unfold Sp.commit; rw [if_neg (by omega), if_neg hm, if_pos hep]
    rw [e]; exact .inr (.inl ⟨Nat.succ_ne_zero _, fun h => by simp at h, rfl⟩)
  rcases h.parts hd with e | ⟨p1, p2, p3, p4, p5, p6⟩
  · have e : s.commit mt = (6, s) := by unfold Sp.commit; rw [if_neg (by omega), if_neg hm, if_neg hep, e, if_pos (by simp)]
    rw [e]; exact .inr (.inl ⟨Nat.succ_ne_zero _, fun h => by simp at h, rfl⟩)
  have hunp : ∀ x, x ∈ s.rooms → ¬ prot s.r x := fun x hx => (h.own_prot hx).1
  have hep0 := h.pub.nm.ep
  rcases p5 with ⟨r1, r2⟩ | ⟨r1, r2⟩
  case inr =>
    have e : s.commit mt = (s.parts.1, s.parts.2.2) := by unfold Sp.commit; rw [if_neg (by omega), if_neg hm, if_neg hep, if_pos (by omega)]
    rw [e]
    have hst := (h.act_stay p1 hunp).2.2
    exact .inr (.inr ⟨r1, r2, p2.N, (p2.ok h.ok.c).d, fun tn kp => .inl (by have := hst tn kp; rwa [p2.N] at this)⟩)
  have hL := p6 r1
  have fok := p2.ok h.ok.c
  have fin := Ca.flush_in s.parts.2.2.c
  have hres := Ca.flush_res fok r2
  rcases Ca.flush_act fok p1.cl with ⟨f1, f2⟩ | ⟨f1, c1, f2, f3, f4⟩
  · have e : s.commit mt = (s.parts.2.2.c.flush.1, s.parts.2.2.withC s.parts.2.2.c.flush.2) := by unfold Sp.commit; rw [if_neg (by omega), if_neg hm, if_neg hep, if_neg (by omega), if_pos f2]
    rw [e]
    have hst := (h.act_stay (p1.trans (f1.to _)) hunp).2.2
    have hNN : s.parts.2.2.c.flush.2.d.N = s.c.d.N := fin.N.trans p2.N
    rcases hres with ⟨q1, q2⟩ | ⟨q1, q2⟩
    · exact absurd q1 f2
    · exact .inr (.inr ⟨q1, q2, hNN, (fin.ok fok).d, fun tn kp => .inl (by have := hst tn kp; rwa [hNN] at this)⟩)
  -- all is flushed
  have had : s.parts.2.2.c.flush.2.d.dead = false := by
    rcases hres with ⟨q1, q2⟩ | ⟨q1, q2⟩
    · exact q2
    · omega
  have hfok := fin.ok fok
  have hcM : s.parts.2.2.c.flush.2.M = s.c.M := fin.M.trans p2.M
  have hNN : s.parts.2.2.c.flush.2.d.N = s.c.d.N := fin.N.trans p2.N
  obtain ⟨hst1, hst2, _⟩ := h.act_stay (p1.trans (f2.to _)) hunp
  have hcd : s.parts.2.2.c.flush.2.d = c1.d.tick.flat := by rw [f3]
  have hcF : s.parts.2.2.c.flush.2.F = c1.F := by rw [f3]
  obtain ⟨c2, hc2⟩ : ∃ c2, s.parts.2.2.c.flush.2 = c2 := ⟨_, rfl⟩
  rw [hc2] at had hfok hcM hNN hcd hcF
  have hP2 : c2.d.P = [] := by rw [hcd]; rfl
  have hS2 : ∀ x, c2.d.S x = c1.d.says x := fun x => by rw [hcd]; rfl
  have hlg : ∀ x, 2 ≤ x → c2.d.S x = s.parts.2.2.c.lg x := fun x h2 => by
    rw [hS2, ← f2.lg x h2 (fun h => h)]
    unfold Ca.lg
    cases e : c1.F x with
    | none => rfl
    | some f =>
      have : f.dirty = false := by
        cases hdd : f.dirty with
        | false => rfl
        | true => exact absurd ⟨f, e, hdd⟩ (f4 x)
      exact (f2.cl x f h2 e this).symm
  have hpr : ∀ x, prot s.r x → c2.d.S x = s.c.d.S x := fun x hx => by
    rw [hS2]
    have e1 : c1.d.says x = c1.d.S x := fold_out _ _ fun q hq e => hst2 q hq (e ▸ hx)
    rw [e1, f2.S, p1.S]
  have hpub2 : Pub c2.d.S s.c.d.N s.r last := h.pub.surv hpr
  -- the new root
  obtain ⟨r', hr'⟩ : ∃ r', s.next s.parts.2.1 mt = r' := ⟨_, rfl⟩
  have hrep : r'.ep = s.r.ep + 1 := by rw [← hr']; rfl
  have hrat : r'.at' = s.parts.2.1 := by rw [← hr']; rfl
  have hrmt : r'.mt = mt := by rw [← hr']; rfl
  have hrpg : r'.pg = s.own := by rw [← hr']; rfl
  have hNb := h.pub.hN
  have hat : ∀ i, s.parts.2.1 i ≠ 0 → i < 9 := fun i hi => by
    by_cases e : i < 9
    · exact e
    · exact absurd (hL.out i (by omega)) hi
  have hat2 : ∀ i, s.parts.2.1 i ≠ 0 → (2 ≤ s.parts.2.1 i ∧ s.parts.2.1 i < s.c.d.N) ∧ s.parts.2.2.c.lg (s.parts.2.1 i) = sealed 2 (part s.own i) ∧ part s.own i ≠ [] := fun i hi => by
    rcases hL.on i (hat i hi) hi with ⟨g1, g2, g3⟩ | ⟨g1, g2⟩
    · exact ⟨⟨rooms_two g1, (mem_rooms.1 g1).1⟩, g2, g3⟩
    · rw [g1] at hi ⊢
      obtain ⟨g3, g4, g5⟩ := h.pub.at1 i (hat i (by rw [g1]; exact hi)) hi
      have hp : prot s.r (s.r.at' i) := .inr (.inl ⟨hi, i, hat i (by rw [g1]; exact hi), rfl⟩)
      refine ⟨g3, ?_, by rw [g2]; exact g5⟩
      rw [← hlg _ g3.1, hpr _ hp, g4, g2]
  have hnorm : r'.Norm := ⟨by rw [hrep]; omega, fun i => by
    rw [hrat]
    by_cases e : s.parts.2.1 i = 0
    · omega
    · have := (hat2 i e).1; omega, fun i hi => by rw [hrat]; exact hL.out i hi, fun p hp => by rw [hrpg]; exact h.ownn p hp, by rw [hrmt]; omega, by rw [hrmt]; exact hmb⟩
  have hblen : (bodyR r').length ≤ 248 := by rw [bodyR_len, hrmt]; omega
  have hrb : (sealB 1 (bodyR r')).2 = sealed 1 (bodyR r') := sealB_sealed (by decide) hblen
  have hrl := sealed_length (k := 1) hblen
  have hslot : (s.r.ep + 1) % 2 = 1 - s.r.ep % 2 := by omega
  have hset : ∀ b x, 2 ≤ x → setS c2.d.S ((s.r.ep + 1) % 2, b) x = c2.d.S x := fun b x hx => if_neg (by show ¬ x = (s.r.ep + 1) % 2; omega)
  have hpub3 : Pub (setS c2.d.S ((s.r.ep + 1) % 2, sealed 1 (bodyR r'))) s.c.d.N r' now := by
    refine { nm := hnorm, slot := ?_, at1 := fun i hi h0 => ?_, at0 := fun i hi h0 => ?_, pg1 := fun p h0 => ?_, dat := fun i j hi hj h0 he => ?_, dpg := ?_, dap := fun i p hi h0 he => ?_, other := fun x hx => ?_, hN := hNb }
    · rw [hrep]; exact if_pos rfl
    · rw [hrat] at h0 ⊢
      obtain ⟨g1, g2, g3⟩ := hat2 i h0
      rw [hrpg]
      exact ⟨g1, (hset _ _ g1.1).trans ((hlg _ g1.1).trans g2), g3⟩
    · rw [hrat] at h0; rw [hrpg]; exact hL.off i hi h0
    · rw [hrpg] at h0 ⊢
      obtain ⟨o1, o2, o3⟩ := h.own1 p h0
      refine ⟨⟨o1, h.ok.own p⟩, (hset _ _ o1).trans ((hlg _ o1).trans ((p1.lg _ o1 fun hx => (h.own_prot hx).2 p rfl).trans o2)), o3⟩
    · rw [hrat] at h0 he; exact hL.dis i j hi hj h0 he
    · rw [hrpg]; exact h.odis
    · rw [hrat] at h0 he
      rw [hrpg] at he
      rcases hL.on i hi h0 with ⟨g1, _, _⟩ | ⟨g1, _⟩
      · exact (h.own_prot g1).2 p he.symm
      · rw [g1] at h0 he
        by_cases e : s.own p = s.r.pg p
        · exact h.pub.dap i p hi h0 (he.trans e)
        · exact h.onew p (by omega) e (.inr (.inl ⟨by omega, i, hi, he⟩))
    · rw [hrep] at hx
      have ho : 1 - (s.r.ep + 1) % 2 = s.r.ep % 2 := by omega
      rw [ho] at hx
      have e1 : setS c2.d.S ((s.r.ep + 1) % 2, sealed 1 (bodyR r')) (s.r.ep % 2) = sealed 1 (bodyR s.r) := by
        rw [show setS c2.d.S ((s.r.ep + 1) % 2, sealed 1 (bodyR r')) (s.r.ep % 2) = c2.d.S (s.r.ep % 2) from if_neg (by show ¬ s.r.ep % 2 = (s.r.ep + 1) % 2; omega)]
        rw [hpr _ (.inl (by omega))]
        exact h.pub.slot
      rw [e1, candB_root h.pub.nm rfl] at hx
      injection hx with hx
      rw [← hx, hrep]
      show s.r.ep < s.r.ep + 1
      omega
  obtain ⟨w1, w2⟩ := Dk.write_res had (s := (s.r.ep + 1) % 2) (b := sealed 1 (bodyR r')) (by rw [hNN]; omega) (by omega)
  obtain ⟨w, hw⟩ : ∃ w, c2.d.write ((s.r.ep + 1) % 2) (sealed 1 (bodyR r')) = w := ⟨_, rfl⟩
  have hwok : w.2.Ok := hw ▸ hfok.d.write _ _
  have hwN : w.2.N = s.c.d.N := by rw [← hw, Dk.write_N]; exact hNN
  rw [hw] at w1 w2
  have hwS : w.2.S = c2.d.S := by rw [w1]; rfl
  have hwP : w.2.P = [((s.r.ep + 1) % 2, sealed 1 (bodyR r'))] := by
    rw [w1]
    show c2.d.P ++ [((s.r.ep + 1) % 2, pad 256 (sealed 1 (bodyR r')))] = _
    rw [hP2, pad_self hrl]; rfl
  have hdead : ∀ d : Dk, d.S = w.2.S → d.P = w.2.P → ∀ tn kp, Pub (upK tn kp d.S d.P d.P.length) s.c.d.N s.r last ∨ ∃ r : Rt, r.mt = mt ∧ r.pg = s.own ∧ Pub (upK tn kp d.S d.P d.P.length) s.c.d.N r now := fun d e1 e2 tn kp => by
    rw [e1, e2, hwS, hwP]
    show Pub (upK tn kp c2.d.S [((s.r.ep + 1) % 2, sealed 1 (bodyR r'))] 1) _ _ _ ∨ ∃ r : Rt, r.mt = mt ∧ r.pg = s.own ∧ Pub (upK tn kp c2.d.S [((s.r.ep + 1) % 2, sealed 1 (bodyR r'))] 1) _ _ _
    rw [upK_one]
    split
    · exact .inl (hpub2.torn hslot)
    · split
      · exact .inr ⟨r', hrmt, hrpg, hpub3⟩
      · exact .inl hpub2
  have hcm : s.commit mt = if w.1 ≠ 0 then (w.1, s.withC { c2 with d := w.2 }) else if w.2.barrier.1 ≠ 0 then (w.2.barrier.1, s.withC { c2 with d := w.2.barrier.2 }) else (0, { c := { c2 with d := w.2.barrier.2 }, r := r', own := s.own }) := by
    unfold Sp.commit
    rw [if_neg (by omega), if_neg hm, if_neg hep, if_neg (by omega), if_neg (by omega)]
    dsimp only
    rw [hr', hrep, hrb, hc2, hw]
  rw [hcm]
  rcases w2 with ⟨q1, q2⟩ | ⟨q1, q2⟩
  · rw [if_neg (by omega)]
    rcases Dk.barrier_res q2 with ⟨b1, b2⟩ | ⟨b1, b2⟩
    · rw [if_neg (by omega)]
      have hbd : w.2.barrier.2 = w.2.tick.flat := by
        unfold Dk.barrier at b1 ⊢
        rw [if_neg (by rw [q2]; decide)] at b1 ⊢
        split
        · rename_i e; rw [if_pos e] at b1; cases b1
        · rfl
      have hbS : w.2.barrier.2.S = setS c2.d.S ((s.r.ep + 1) % 2, sealed 1 (bodyR r')) := by
        rw [hbd]
        show w.2.P.foldl setS w.2.S = _
        rw [hwS, hwP]; rfl
      have hbP : w.2.barrier.2.P = [] := by rw [hbd]; rfl
      have hbN : w.2.barrier.2.N = s.c.d.N := (Dk.barrier_N _).trans hwN
      refine .inl ⟨rfl, b2, ?_, hrmt, hrpg, rfl⟩
      have hcok : ({ c2 with d := w.2.barrier.2 } : Ca).Ok := ⟨hwok.barrier, fun t f hf => by
        have := hfok.dom t f hf
        rw [hNN] at this
        show t < w.2.barrier.2.N ∧ _
        rw [hbN]; exact this, hfok.inj⟩
      have hnd : ∀ x, ¬ ({ c2 with d := w.2.barrier.2 } : Ca).dirty x := fun x ⟨f, e, hdd⟩ => f4 x ⟨f, by rw [← hcF]; exact e, hdd⟩
      have hcl : ({ c2 with d := w.2.barrier.2 } : Ca).Cl := fun x f h2 hf hdd => by
        have hf : c2.F x = some f := hf
        rw [hcF] at hf
        show f.b = w.2.barrier.2.says x
        unfold Dk.says
        rw [hbP, hbS]
        show f.b = setS c2.d.S ((s.r.ep + 1) % 2, sealed 1 (bodyR r')) x
        rw [hset _ _ h2, hS2]
        exact f2.cl x f h2 hf hdd
      refine { ok := ⟨hcok, by show 1 ≤ c2.M; rw [hcM]; exact h.ok.M, fun p => ?_, fun p => ?_, fun i => ?_⟩, pub := ?_, np := fun q hq => ?_, cl := hcl, nd := fun x hx => absurd hx (hnd x), own1 := fun p hp => ?_, ownn := h.ownn, odis := h.odis, onew := fun p hp hne => absurd ?_ hne }
      · show s.own p < w.2.barrier.2.N; rw [hbN]; exact h.ok.own p
      · show r'.pg p < w.2.barrier.2.N; rw [hbN, hrpg]; exact h.ok.own p
      · show r'.at' i < w.2.barrier.2.N
        rw [hbN, hrat]
        by_cases e : s.parts.2.1 i = 0
        · omega
        · exact (hat2 i e).1.2
      · show Pub w.2.barrier.2.S w.2.barrier.2.N r' now
        rw [hbS, hbN]; exact hpub3
      · rw [show ({ c2 with d := w.2.barrier.2 } : Ca).d.P = [] from hbP] at hq; cases hq
      · obtain ⟨o1, o2, o3⟩ := h.own1 p hp
        refine ⟨o1, ?_, o3⟩
        have hl1 : ({ c2 with d := w.2.barrier.2 } : Ca).lg (s.own p) = setS c2.d.S ((s.r.ep + 1) % 2, sealed 1 (bodyR r')) (s.own p) := by
          have hsay : w.2.barrier.2.says (s.own p) = setS c2.d.S ((s.r.ep + 1) % 2, sealed 1 (bodyR r')) (s.own p) := by
            unfold Dk.says; rw [hbP, hbS]; rfl
          unfold Ca.lg
          show (match c2.F (s.own p) with | some f => f.b | none => w.2.barrier.2.says (s.own p)) = _
          cases e : c2.F (s.own p) with
          | none => exact hsay
          | some f =>
            have : f.dirty = false := by
              cases hdd : f.dirty with
              | false => rfl
              | true => exact absurd ⟨f, e, hdd⟩ (hnd (s.own p))
            show f.b = _
            rw [← hsay]
            exact hcl _ f o1 e this
        show ({ c2 with d := w.2.barrier.2 } : Ca).lg (s.own p) = _
        rw [hl1, hset _ _ o1, hlg _ o1]
        exact (p1.lg _ o1 fun hx => (h.own_prot hx).2 p rfl).trans o2
      · show s.own p = r'.pg p; rw [hrpg]
    · rw [if_pos (by omega)]
      refine .inr (.inr ⟨b1, b2, (Dk.barrier_N _).trans hwN, hwok.barrier, hdead _ ?_ ?_⟩)
      · show w.2.barrier.2.S = w.2.S
        unfold Dk.barrier at b1 ⊢
        rw [if_neg (by rw [q2]; decide)] at b1 ⊢
        split
        · rfl
        · rename_i e; rw [if_neg e] at b1; cases b1
      · show w.2.barrier.2.P = w.2.P
        unfold Dk.barrier at b1 ⊢
        rw [if_neg (by rw [q2]; decide)] at b1 ⊢
        split
        · rfl
        · rename_i e; rw [if_neg e] at b1; cases b1
  · rw [if_pos (by omega)]
    exact .inr (.inr ⟨q1, q2, hwN, hwok, hdead _ rfl rfl⟩)
end Go.Sp
namespace Go.Sp
theorem sp_eta {s t : Sp} (h1 : t.own = s.own) (h2 : t.r = s.r) : t = s.withC t.c := by cases t; cases s; simp only at h1 h2; subst h1; subst h2; rfl
theorem putL_in : ∀ (l : List (Nat × Nat)) (s : Sp) (f : Nat → Nat), Ca.In s.c (s.putL f l).2.2.c (2 * l.length) ∧ (s.putL f l).2.2.own = s.own ∧ (s.putL f l).2.2.r = s.r
  | [], s, f => ⟨Ca.In.refl _ _, rfl, rfl⟩
  | (x, i) :: l, s, f => by
    have hin : Ca.In s.c (s.put x 2 (part s.own i)).2.c 2 := Sp.put_in
    obtain ⟨hs1, hs2⟩ := Sp.put_same (s := s) (x := x) (k := 2) (b := part s.own i)
    obtain ⟨g1, g2, g3⟩ := putL_in l (s.put x 2 (part s.own i)).2 (upd f i x)
    unfold Sp.putL
    split
    · exact ⟨hin.mono (by simp; omega), hs1, hs2⟩
    · exact ⟨(hin.trans g1).mono (by simp; omega), g2.trans hs1, g3.trans hs2⟩
theorem parts_in (s : Sp) : Ca.In s.c s.parts.2.2.c 18 ∧ s.parts.2.2.own = s.own ∧ s.parts.2.2.r = s.r := by
  unfold Sp.parts
  split
  · exact ⟨Ca.In.refl _ _, rfl, rfl⟩
  · obtain ⟨h1, h2⟩ := putL_in (s.rooms.zip s.full) s s.at0
    exact ⟨h1.mono (by rw [List.length_zip]; have := full_le s; omega), h2⟩
theorem Dk.write_in {c : Ca} {x : Nat} {b : Bs} : Ca.In c { c with d := (c.d.write x b).2 } 1 :=
  ⟨⟨Dk.write_N _ _ _, rfl, Nat.le_succ _, Dk.write_P _ _ _⟩, fun h => ⟨h.d.write _ _, fun t f hf => by
    have := h.dom t f hf
    show t < (c.d.write x b).2.N ∧ _
    rw [Dk.write_N]; exact this, h.inj⟩⟩
theorem Dk.barrier_in {c : Ca} : Ca.In c { c with d := c.d.barrier.2 } 0 :=
  ⟨⟨Dk.barrier_N _, rfl, Nat.le_refl _, Dk.barrier_P _⟩, fun h => ⟨h.d.barrier, fun t f hf => by
    have := h.dom t f hf
    show t < c.d.barrier.2.N ∧ _
    rw [Dk.barrier_N]; exact this, h.inj⟩⟩
theorem commit_in {s : Sp} (hok : s.Ok) (hN : 0 < s.c.d.N) (mt : Bs) : Ca.In s.c (s.commit mt).2.c (s.c.d.N + 20) ∧ (s.commit mt).2.Ok := by
  obtain ⟨p1, p2, p3⟩ := parts_in s
  have fin := Ca.flush_in s.parts.2.2.c
  have hp : s.parts.2.2 = s.withC s.parts.2.2.c := sp_eta p2 p3
  have h18 : s.parts.2.2.c.d.N = s.c.d.N := p1.N
  rw [h18] at fin
  have hf := p1.trans fin
  unfold Sp.commit
  split
  · exact ⟨Ca.In.refl _ _, hok⟩
  · split
    · exact ⟨Ca.In.refl _ _, hok⟩
    · split
      · exact ⟨Ca.In.refl _ _, hok⟩
      · split
        · refine ⟨p1.mono (by omega), ?_⟩
          show s.parts.2.2.Ok
          rw [hp]; exact hok.withC p1
        · split
          · refine ⟨hf.mono (by omega), ?_⟩
            show (s.parts.2.2.withC s.parts.2.2.c.flush.2).Ok
            rw [show s.parts.2.2.withC s.parts.2.2.c.flush.2 = s.withC s.parts.2.2.c.flush.2 by rw [hp]; rfl]
            exact hok.withC hf
          · dsimp only
            obtain ⟨x, hx⟩ : ∃ x, (s.next s.parts.2.1 mt).ep % 2 = x := ⟨_, rfl⟩
            obtain ⟨b, hb⟩ : ∃ b, (sealB 1 (bodyR (s.next s.parts.2.1 mt))).2 = b := ⟨_, rfl⟩
            rw [hx, hb]
            have hw := hf.trans (Dk.write_in (x := x) (b := b))
            split
            · exact ⟨hw.mono (by omega), hok.withC hw⟩
            · have hbb := hw.trans Dk.barrier_in
              split
              · exact ⟨hbb.mono (by omega), hok.withC hbb⟩
              · have ho := hok.withC hbb
                refine ⟨hbb.mono (by omega), ho.c, ho.M, ho.own, ho.own, fun i => ?_⟩
                exact Nat.lt_of_lt_of_le (Sp.parts_at hok hN i) (Nat.le_of_eq hbb.N.symm)
theorem write_in {s : Sp} (hok : s.Ok) (p : Int) (b : Bs) : Ca.In s.c (s.write p b).2.c 2 ∧ (s.write p b).2.Ok := by
  unfold Sp.write
  split
  · exact ⟨Ca.In.refl _ _, hok⟩
  · split
    · exact ⟨Ca.In.refl _ _, hok⟩
    · split
      · exact ⟨Sp.put_in, hok.put⟩
      · split
        · exact ⟨Ca.In.refl _ _, hok⟩
        · rename_i hr
          split
          · exact ⟨Sp.put_in, hok.put⟩
          · have ho := hok.put (x := s.rooms.getD 0 0) (k := 3) (b := b)
            refine ⟨Sp.put_in, ho.c, ho.M, fun q => ?_, ho.pg, ho.at'⟩
            show upd (s.put (s.rooms.getD 0 0) 3 b).2.own p.toNat (s.rooms.getD 0 0) q < (s.put (s.rooms.getD 0 0) 3 b).2.c.d.N
            unfold upd
            split
            · rw [(Sp.put_in (s := s)).N]; exact (mem_rooms.1 (Sp.room_get (s := s) (by omega))).1
            · exact ho.own q
theorem read_in {s : Sp} (hok : s.Ok) (p : Int) : Ca.In s.c (s.read p).2.2.c 2 ∧ (s.read p).2.2.Ok ∧ (s.read p).2.2.own = s.own ∧ (s.read p).2.2.r = s.r := by
  unfold Sp.read
  split
  · exact ⟨Ca.In.refl _ _, hok, rfl, rfl⟩
  · split
    · exact ⟨Ca.In.refl _ _, hok, rfl, rfl⟩
    · have h := Ca.read_in s.c (s.own p.toNat)
      split
      · exact ⟨h, hok.withC h, rfl, rfl⟩
      · exact ⟨h, hok.withC h, rfl, rfl⟩
theorem drop_in {s : Sp} (hok : s.Ok) (hN : 0 < s.c.d.N) (p : Int) : Ca.In s.c (s.drop p).2.c 0 ∧ (s.drop p).2.Ok := by
  unfold Sp.drop
  split
  · exact ⟨Ca.In.refl _ _, hok⟩
  · split
    · exact ⟨Ca.In.refl _ _, hok⟩
    · refine ⟨Ca.In.refl _ _, hok.c, hok.M, fun q => ?_, hok.pg, hok.at'⟩
      show upd s.own p.toNat 0 q < s.c.d.N
      unfold upd; split
      · exact hN
      · exact hok.own q
theorem foldf_in (s : Sp) : ∀ (l : List Nat) (c : Ca), Ca.In c (l.foldl (fun c p => c.forget (s.own p)) c) 0
  | [], c => Ca.In.refl _ _
  | p :: l, c => ((Ca.forget_in c _).trans (foldf_in s l _)).mono (by omega)
theorem abort_in {s : Sp} (hok : s.Ok) : Ca.In s.c s.abort.2.c 0 ∧ s.abort.2.Ok := by
  unfold Sp.abort
  split
  · exact ⟨Ca.In.refl _ _, hok⟩
  · have h := foldf_in s ((pgs s.own).filter s.turned) s.c
    have ho := hok.withC h
    exact ⟨h, ho.c, ho.M, ho.pg, ho.pg, ho.at'⟩
theorem evict_in (c : Ca) (k : Int) : Ca.In c (c.evict k).2.2 1 := by
  unfold Ca.evict
  split
  · exact Ca.In.refl _ _
  · split
    · exact Ca.In.refl _ _
    · exact Ca.out_in _ _
theorem write_off {s : Sp} (h : s.c.d.dead = true) (p : Int) (b : Bs) : s.write p b = (4, s) := by
  have hm : s.may p = 4 := by unfold Sp.may; rw [if_pos h]
  unfold Sp.write; rw [if_pos (by omega), hm]
theorem read_off {s : Sp} (h : s.c.d.dead = true) (p : Int) : s.read p = (4, [], s) := by
  have hm : s.may p = 4 := by unfold Sp.may; rw [if_pos h]
  unfold Sp.read; rw [if_pos (by omega), hm]
theorem drop_off {s : Sp} (h : s.c.d.dead = true) (p : Int) : s.drop p = (4, s) := by
  have hm : s.may p = 4 := by unfold Sp.may; rw [if_pos h]
  unfold Sp.drop; rw [if_pos (by omega), hm]
theorem commit_off' {s : Sp} (h : s.c.d.dead = true) (mt : Bs) : s.commit mt = (4, s) := by
  have hm : s.on = 4 := by unfold Sp.on; rw [if_pos h]
  unfold Sp.commit; rw [if_pos (by omega), hm]
theorem abort_off {s : Sp} (h : s.c.d.dead = true) : s.abort = (4, s) := by
  have hm : s.on = 4 := by unfold Sp.on; rw [if_pos h]
  unfold Sp.abort; rw [if_pos (by omega), hm]
theorem evict_off {c : Ca} (h : c.d.dead = true) (k : Int) : c.evict k = (false, 4, c) := by
  unfold Ca.evict; rw [if_pos h]
structure St where
  on : Nat → Bool
  b : Nat → Bs
  mt : Bs
def Fits (r : Rt) (x : St) : Prop := r.mt = x.mt ∧ ∀ p, p < 1024 → (x.on p = true ↔ r.pg p ≠ 0)
def readAll (x : St) : List Nat → Sp → Bool × Sp
  | [], s => (true, s)
  | p :: l, s => if (s.read (p : Int)).1 ≠ 0 ∨ x.on p = false ∨ x.b p ≠ (s.read (p : Int)).2.1 then (false, (s.read (p : Int)).2.2) else readAll x l (s.read (p : Int)).2.2
def St.count (x : St) : Nat := ((List.range 1024).filter fun p => x.on p).length
def St.holds (x : St) (s : Sp) : Bool × Sp :=
  if s.r.mt ≠ x.mt then (false, s) else if (pgs s.own).length ≠ x.count then (false, s) else readAll x (pgs s.own) s
theorem Ca.read_al {c : Ca} (hok : c.Ok) (h : c.d.Al) (hM : 1 ≤ c.M) (s : Nat) : (c.read s).2.2.d.Al := by
  have hr := (Ca.room_al hok h hM).2
  have hb : (c.bring s).2.d.Al := by
    unfold Ca.bring
    split
    · exact h
    · split
      · unfold Ca.use; split <;> exact h
      · split
        · exact hr
        · split
          · exact hr
          · rw [Ca.lay_use]; exact hr
  unfold Ca.read; split <;> exact hb
theorem Sp.read_al {s : Sp} (hok : s.Ok) (h : s.c.d.Al) (p : Int) : (s.read p).2.2.c.d.Al := by
  have hr := Ca.read_al hok.c h hok.M (s.own p.toNat)
  unfold Sp.read
  split
  · exact h
  · split
    · exact h
    · split <;> exact hr
theorem read_page {s : Sp} {last now : Nat → Bs} (h : s.Inv last now) (hd : s.c.d.Al) {p : Nat} (hp : p < 1024) (ho : s.own p ≠ 0) :
    (s.read (p : Int)).1 = 0 ∧ (s.read (p : Int)).2.1 = now p ∧ (s.read (p : Int)).2.2.Inv last now ∧ (s.read (p : Int)).2.2.own = s.own ∧ (s.read (p : Int)).2.2.r = s.r ∧ (s.read (p : Int)).2.2.c.d.Al := by
  have hal := Sp.read_al h.ok hd (p : Int)
  rcases h.read hd.1 (p : Int) with ⟨n, e, h1, h2, h3, h4, h5, h6, h7⟩ | ⟨h1, h2, h3⟩
  · have e : p = n := by omega
    subst e
    rcases h3 with ⟨r1, r2⟩ | ⟨r1, r2⟩
    · exact ⟨r1, h4 r1, h5, h6, h7, hal⟩
    · rw [hal.1] at r2; cases r2
  · exact absurd (h3 (by omega) (by omega)) ho
theorem readAll_inv (x : St) : ∀ (l : List Nat) {s : Sp} {last now : Nat → Bs}, s.Inv last now → s.c.d.Al → (∀ p ∈ l, p < 1024 ∧ s.own p ≠ 0) →
    (readAll x l s).2.Inv last now ∧ (readAll x l s).2.own = s.own ∧ (readAll x l s).2.r = s.r ∧ (readAll x l s).2.c.d.Al ∧ Ca.In s.c (readAll x l s).2.c (2 * l.length) ∧ ((readAll x l s).1 = true ↔ ∀ p ∈ l, x.on p = true ∧ x.b p = now p)
  | [], s, last, now, h, hd, _ => ⟨h, rfl, rfl, hd, Ca.In.refl _ _, ⟨fun _ p hp => by simp at hp, fun _ => rfl⟩⟩
  | p :: l, s, last, now, h, hd, hl => by
    obtain ⟨h1, h2, h3, h4, h5, h6⟩ := read_page h hd (hl p List.mem_cons_self).1 (hl p List.mem_cons_self).2
    have hin := (read_in h.ok (p : Int)).1
    unfold readAll
    by_cases hc : (s.read (p : Int)).1 ≠ 0 ∨ x.on p = false ∨ x.b p ≠ (s.read (p : Int)).2.1
    · rw [if_pos hc]
      refine ⟨h3, h4, h5, h6, hin.mono (by simp; omega), ⟨fun h => by simp at h, fun hall => ?_⟩⟩
      obtain ⟨a1, a2⟩ := hall p List.mem_cons_self
      rcases hc with hc | hc | hc
      · exact absurd h1 hc
      · rw [a1] at hc; cases hc
      · exact absurd (a2.trans h2.symm) hc
    · rw [if_neg hc]
      obtain ⟨g1, g2, g3, g4, g5, g6⟩ := readAll_inv x l h3 h6 (fun q hq => by rw [h4]; exact hl q (List.mem_cons_of_mem _ hq))
      refine ⟨g1, g2.trans h4, g3.trans h5, g4, (hin.trans g5).mono (by simp; omega), g6.trans ⟨fun hall q hq => ?_, fun hall q hq => hall q (List.mem_cons_of_mem _ hq)⟩⟩
      have hc1 : ¬ x.on p = false := fun e => hc (.inr (.inl e))
      have hc2 : x.b p = (s.read (p : Int)).2.1 := by
        by_cases e : x.b p = (s.read (p : Int)).2.1
        · exact e
        · exact absurd (.inr (.inr e)) hc
      rcases List.mem_cons.1 hq with rfl | hq
      · exact ⟨by simpa using hc1, hc2.trans h2⟩
      · exact hall q hq
theorem filter_eq_of_len {p q : Nat → Bool} (h : ∀ x, p x = true → q x = true) : ∀ l : List Nat, (l.filter p).length = (l.filter q).length → ∀ x ∈ l, q x = true → p x = true
  | [], _, x, hx, _ => by simp at hx
  | a :: l, he, x, hx, hq => by
    have hm := filter_mono h l
    by_cases hp : p a = true
    · simp only [List.filter_cons, hp, h a hp, if_true, List.length_cons] at he
      rcases List.mem_cons.1 hx with rfl | hx
      · exact hp
      · exact filter_eq_of_len h l (by omega) x hx hq
    · by_cases hqa : q a = true
      · simp only [List.filter_cons, hp, hqa, if_true, List.length_cons] at he
        simp only [Bool.false_eq_true, if_false] at he
        omega
      · simp only [List.filter_cons, hp, hqa] at he
        rcases List.mem_cons.1 hx with rfl | hx
        · exact absurd hq hqa
        · exact filter_eq_of_len h l he x hx hq
theorem holds_inv (x : St) {s : Sp} {last now : Nat → Bs} (h : s.Inv last now) (hd : s.c.d.Al) :
    (x.holds s).2.Inv last now ∧ (x.holds s).2.own = s.own ∧ (x.holds s).2.r = s.r ∧ (x.holds s).2.c.d.Al ∧ Ca.In s.c (x.holds s).2.c 2048 ∧
    ((x.holds s).1 = true ↔ s.r.mt = x.mt ∧ ∀ p, p < 1024 → (x.on p = true ↔ s.own p ≠ 0) ∧ (s.own p ≠ 0 → x.b p = now p)) := by
  have hlen : (pgs s.own).length ≤ 1024 := by
    have := List.length_filter_le (fun p => decide (0 < s.own p)) (List.range 1024)
    simpa [pgs] using this
  obtain ⟨g1, g2, g3, g4, g5, g6⟩ := readAll_inv x (pgs s.own) h hd (fun p hp => ⟨(mem_pgs.1 hp).1, by have := (mem_pgs.1 hp).2; omega⟩)
  unfold St.holds
  by_cases hm : s.r.mt = x.mt
  · rw [if_neg (fun h => h hm)]
    by_cases hc : (pgs s.own).length = x.count
    · rw [if_neg (fun h => h hc)]
      refine ⟨g1, g2, g3, g4, g5.mono (by omega), g6.trans ⟨fun hall => ⟨hm, fun p hp => ?_⟩, fun ⟨_, hall⟩ p hp => ?_⟩⟩
      · have hon : ∀ q, decide (0 < s.own q) = true → q < 1024 → x.on q = true := fun q hq h4 => (hall q (mem_pgs.2 ⟨h4, by simpa using hq⟩)).1
        have heq := filter_eq_of_len (p := fun q => decide (0 < s.own q) && decide (q < 1024)) (q := fun q => x.on q) (fun q hq => by
          simp only [Bool.and_eq_true, decide_eq_true_eq] at hq
          exact hon q (by simpa using hq.1) hq.2) (List.range 1024) (by
          have : (List.range 1024).filter (fun q => decide (0 < s.own q) && decide (q < 1024)) = pgs s.own := by
            unfold pgs
            refine List.filter_congr fun q hq => ?_
            have := List.mem_range.1 hq
            simp [this]
          rw [this]; exact hc) p (List.mem_range.2 hp)
        simp only [Bool.and_eq_true, decide_eq_true_eq] at heq
        exact ⟨⟨fun e => by have := (heq e).1; omega, fun e => hon p (by simp; omega) hp⟩, fun e => (hall p (mem_pgs.2 ⟨hp, by omega⟩)).2⟩
      · obtain ⟨h1, h2⟩ := mem_pgs.1 hp
        obtain ⟨h3, h4⟩ := hall p h1
        exact ⟨h3.2 (by omega), h4 (by omega)⟩
    · rw [if_pos hc]
      refine ⟨h, rfl, rfl, hd, Ca.In.refl _ _, ⟨fun h => by simp at h, fun ⟨_, hall⟩ => ?_⟩⟩
      refine absurd ?_ hc
      unfold pgs St.count
      congr 1
      refine List.filter_congr fun p hp => ?_
      obtain ⟨h3, _⟩ := hall p (List.mem_range.1 hp)
      cases e : x.on p with
      | true => simpa [Nat.pos_iff_ne_zero] using h3.1 e
      | false =>
        have : ¬ s.own p ≠ 0 := fun h => by rw [h3.2 h] at e; cases e
        simp only [decide_eq_false_iff_not]; omega
  · rw [if_pos hm]
    exact ⟨h, rfl, rfl, hd, Ca.In.refl _ _, ⟨fun h => by simp at h, fun ⟨e, _⟩ => absurd e hm⟩⟩
end Go.Sp
namespace Go.Sp
def Lasts (d : Dk) (N : Nat) (x : St) (tn kp : Nat → Bool) : Prop := ∃ r, Fits r x ∧ Pub (upK tn kp d.S d.P d.P.length) N r x.b
def DeadI (d : Dk) (N : Nat) (last wanted : St) (torn : Bool) : Prop := ∀ tn kp, Lasts d N last tn kp ∨ (torn = true ∧ Lasts d N wanted tn kp)
structure WI (N k : Nat) (s : Sp) (now last wanted : St) (torn : Bool) : Prop where
  hN : s.c.d.N = N
  hN2 : 16 ≤ N ∧ N ≤ 500
  ok : s.Ok
  clk : s.c.clk ≤ k * 5000
  P : s.c.d.P.length ≤ k * 5000
  dead : s.c.d.dead = true → DeadI s.c.d N last wanted torn
  live : s.c.d.dead = false → s.Inv last.b now.b ∧ Fits s.r last ∧ ∀ p, p < 1024 → (now.on p = true ↔ s.own p ≠ 0)
def St.put (x : St) (n : Nat) (b : Bs) : St := ⟨upd x.on n true, upd x.b n b, x.mt⟩
def St.del (x : St) (n : Nat) : St := ⟨upd x.on n false, upd x.b n [], x.mt⟩
def St.named (x : St) (mt : Bs) : St := { x with mt := mt }
def st0 : St := ⟨fun _ => false, fun _ => [], []⟩
theorem Pub.congr {S : Nat → Bs} {N : Nat} {r : Rt} {b b' : Nat → Bs} (h : Pub S N r b) (hb : ∀ p, r.pg p ≠ 0 → b' p = b p) : Pub S N r b' :=
  { nm := h.nm, slot := h.slot, at1 := h.at1, at0 := h.at0, pg1 := fun p hp => by rw [hb p hp]; exact h.pg1 p hp, dat := h.dat, dpg := h.dpg, dap := h.dap, other := h.other, hN := h.hN }
theorem Sp.Inv.congr {s : Sp} {l n l' n' : Nat → Bs} (h : s.Inv l n) (h1 : ∀ p, s.r.pg p ≠ 0 → l' p = l p) (h2 : ∀ p, s.own p ≠ 0 → n' p = n p) : s.Inv l' n' :=
  { ok := h.ok, pub := h.pub.congr h1, np := h.np, cl := h.cl, nd := h.nd, own1 := fun p hp => by rw [h2 p hp]; exact h.own1 p hp, ownn := h.ownn, odis := h.odis, onew := h.onew }
theorem WI.more {N k : Nat} {s : Sp} {now last wanted : St} {torn : Bool} (h : WI N k s now last wanted torn) : WI N (k + 1) s now last wanted torn :=
  { hN := h.hN, hN2 := h.hN2, ok := h.ok, clk := by have := h.clk; omega, P := by have := h.P; omega, dead := h.dead, live := h.live }
theorem WI.step {N k j : Nat} {s s' : Sp} {now last wanted now' last' wanted' : St} {torn torn' : Bool} (h : WI N k s now last wanted torn) (hi : Ca.In s.c s'.c j) (hj : j ≤ 5000) (hok : s'.Ok)
    (hd : s'.c.d.dead = true → DeadI s'.c.d N last' wanted' torn') (hl : s'.c.d.dead = false → s'.Inv last'.b now'.b ∧ Fits s'.r last' ∧ ∀ p, p < 1024 → (now'.on p = true ↔ s'.own p ≠ 0)) : WI N (k + 1) s' now' last' wanted' torn' :=
  { hN := hi.N.trans h.hN, hN2 := h.hN2, ok := hok, clk := by have := hi.clk; have := h.clk; omega, P := by have := hi.P; have := h.P; omega, dead := hd, live := hl }
theorem stay_dead {d : Dk} {N : Nat} {r : Rt} {x : St} (hN : d.N = N) (h : d.Stay r x.b) (hf : Fits r x) (w : St) (t : Bool) : DeadI d N x w t := fun tn kp => .inl ⟨r, hf, by rw [← hN]; exact h tn kp⟩
theorem WI.read {N k : Nat} {s : Sp} {now last wanted : St} {torn : Bool} (h : WI N k s now last wanted torn) (p : Int) :
    (s.c.d.dead = true → (s.read p).1 = 4) ∧ (s.c.d.dead = false → (s.read p).1 = 0 → 0 ≤ p ∧ p < 1024 ∧ now.on p.toNat = true ∧ now.b p.toNat = (s.read p).2.1) ∧ WI N (k + 1) (s.read p).2.2 now last wanted torn := by
  obtain ⟨i1, i2, i3, i4⟩ := read_in h.ok p
  cases hd : s.c.d.dead with
  | true =>
    rw [read_off hd p]
    exact ⟨fun _ => rfl, fun e => by simp at e, h.more⟩
  | false =>
    obtain ⟨hI, hF, hO⟩ := h.live hd
    refine ⟨fun e => by simp at e, fun _ he => ?_, ?_⟩
    · rcases hI.read hd p with ⟨n, rfl, h1, h2, h3, h4, h5, h6, h7⟩ | ⟨h1, h2, h3⟩
      · exact ⟨by omega, by omega, (hO n h1).2 h2, (h4 he).symm⟩
      · rcases h1 with h1 | h1 <;> omega
    · rcases hI.read hd p with ⟨n, rfl, h1, h2, h3, h4, h5, h6, h7⟩ | ⟨h1, h2, h3⟩
      · refine h.step i1 (by omega) i2 (fun hdd => stay_dead (i1.N.trans h.hN) h5.stay (by rw [h7]; exact hF) _ _) (fun hl => ⟨h5, by rw [h7]; exact hF, fun q hq => by rw [h6]; exact hO q hq⟩)
      · rw [h2]; exact h.more
theorem WI.evict {N k : Nat} {s : Sp} {now last wanted : St} {torn : Bool} (h : WI N k s now last wanted torn) (j : Int) :
    (s.c.d.dead = true → (s.c.evict j).2.1 = 4) ∧ WI N (k + 1) (s.withC (s.c.evict j).2.2) now last wanted torn := by
  have i1 := evict_in s.c j
  cases hd : s.c.d.dead with
  | true =>
    rw [evict_off hd j]
    exact ⟨fun _ => rfl, h.more⟩
  | false =>
    obtain ⟨hI, hF, hO⟩ := h.live hd
    obtain ⟨_, h5⟩ := hI.evict hd j
    exact ⟨fun e => by simp at e, h.step i1 (by omega) (h.ok.withC i1) (fun hdd => stay_dead (i1.N.trans h.hN) h5.stay hF _ _) (fun hl => ⟨h5, hF, hO⟩)⟩
theorem WI.write {N k : Nat} {s : Sp} {now last wanted : St} {torn : Bool} (h : WI N k s now last wanted torn) (p : Int) {b : Bs} (hb : bytes b) :
    (s.c.d.dead = true → (s.write p b).1 = 4) ∧ (s.c.d.dead = false → (s.write p b).1 = 0 → 0 ≤ p ∧ p < 1024) ∧
    WI N (k + 1) (s.write p b).2 (if s.c.d.dead = false ∧ (s.write p b).1 = 0 then now.put p.toNat b else now) last wanted torn := by
  obtain ⟨i1, i2⟩ := write_in h.ok p b
  cases hd : s.c.d.dead with
  | true =>
    rw [write_off hd p b]
    exact ⟨fun _ => rfl, fun e => by simp at e, by rw [if_neg (fun e => by simp at e)]; exact h.more⟩
  | false =>
    obtain ⟨hI, hF, hO⟩ := h.live hd
    rcases hI.write hd p hb with ⟨n, rfl, h1, h2, h3, h4, h5, h6, h7⟩ | ⟨h1, h2, h3⟩ | ⟨h1, h2, h3, h4, h5⟩
    · refine ⟨fun e => by simp at e, fun _ _ => by omega, ?_⟩
      rw [if_pos ⟨rfl, h2⟩]
      refine h.step i1 (by omega) i2 (fun hdd => by rw [h3] at hdd; cases hdd) (fun hl => ⟨h4, by rw [h5]; exact hF, fun q hq => ?_⟩)
      show upd now.on n true q = true ↔ _
      by_cases e : q = n
      · subst e; rw [upd_same]; exact ⟨fun _ => h6, fun _ => rfl⟩
      · rw [upd_other _ e, h7 q e]; exact hO q hq
    · refine ⟨fun e => by simp at e, fun _ e => absurd e h1, ?_⟩
      rw [if_neg (fun e => h1 e.2), h3]; exact h.more
    · refine ⟨fun e => by simp at e, fun _ e => by omega, ?_⟩
      rw [if_neg (fun e => by omega)]
      exact h.step i1 (by omega) i2 (fun hdd => stay_dead (h3.trans h.hN) h5 hF _ _) (fun hl => by rw [h2] at hl; cases hl)
theorem WI.drop {N k : Nat} {s : Sp} {now last wanted : St} {torn : Bool} (h : WI N k s now last wanted torn) (p : Int) :
    (s.c.d.dead = true → (s.drop p).1 = 4) ∧ (s.c.d.dead = false → (s.drop p).1 = 0 → 0 ≤ p ∧ p < 1024) ∧
    WI N (k + 1) (s.drop p).2 (if s.c.d.dead = false ∧ (s.drop p).1 = 0 then now.del p.toNat else now) last wanted torn := by
  obtain ⟨i1, i2⟩ := drop_in h.ok (by have := h.hN; have := h.hN2; omega) p
  cases hd : s.c.d.dead with
  | true =>
    rw [drop_off hd p]
    exact ⟨fun _ => rfl, fun e => by simp at e, by rw [if_neg (fun e => by simp at e)]; exact h.more⟩
  | false =>
    obtain ⟨hI, hF, hO⟩ := h.live hd
    rcases hI.drop hd p with ⟨n, rfl, h1, h2, h3, h4⟩ | ⟨h1, h2⟩
    · rw [h3]
      refine ⟨fun e => by simp at e, fun _ _ => by omega, ?_⟩
      rw [if_pos ⟨rfl, rfl⟩]
      have hpn : ((n : Int).toNat) = n := by omega
      refine h.step (j := 0) (by rw [h3] at i1; exact i1) (by omega) (by rw [h3] at i2; exact i2) (fun hdd => by rw [show (s.setOwn n 0).c.d.dead = s.c.d.dead from rfl, hd] at hdd; cases hdd) (fun hl => ⟨h4.congr (fun _ _ => rfl) fun q hq => ?_, hF, fun q hq => ?_⟩)
      · show upd now.b n [] q = now.b q
        refine upd_other _ (fun e => ?_) _
        have : (s.setOwn n 0).own q = upd s.own n 0 q := rfl
        rw [this, e, upd_same] at hq
        exact hq rfl
      · show upd now.on n false q = true ↔ upd s.own n 0 q ≠ 0
        by_cases e : q = n
        · subst e; rw [upd_same, upd_same]; simp
        · rw [upd_other _ e, upd_other _ e]; exact hO q hq
    · refine ⟨fun e => by simp at e, fun _ e => by omega, ?_⟩
      rw [if_neg (fun e => by omega), h2]; exact h.more
theorem WI.commit {N k : Nat} {s : Sp} {now last wanted : St} {torn : Bool} (h : WI N k s now last wanted torn) {mt : Bs} (hb : bytes mt) :
    (s.c.d.dead = true → (s.commit mt).1 = 4) ∧
    (s.c.d.dead = false → WI N (k + 1) (s.commit mt).2 (if (s.commit mt).1 = 0 then now.named mt else now) (if (s.commit mt).1 = 0 then now.named mt else last) (if (s.commit mt).1 = 4 then now.named mt else wanted) (if (s.commit mt).1 = 4 then true else torn)) ∧
    (s.c.d.dead = true → WI N (k + 1) (s.commit mt).2 now last wanted torn) := by
  have hNN := h.hN
  have hN2 := h.hN2
  obtain ⟨i1, i2⟩ := commit_in h.ok (by omega) mt
  cases hd : s.c.d.dead with
  | true =>
    rw [commit_off' hd]
    exact ⟨fun _ => rfl, fun e => by simp at e, fun _ => h.more⟩
  | false =>
    obtain ⟨hI, hF, hO⟩ := h.live hd
    refine ⟨fun e => by simp at e, fun _ => ?_, fun e => by simp at e⟩
    rcases hI.commit hd hb with ⟨h1, h2, h3, h4, h5, h6⟩ | ⟨h1, h2, h3⟩ | ⟨h1, h2, h3, h4, h5⟩
    · rw [h1, if_pos rfl, if_pos rfl, if_neg (by decide), if_neg (by decide)]
      exact h.step i1 (by omega) i2 (fun hdd => by rw [h2] at hdd; cases hdd) (fun hl => ⟨h3, ⟨h4, fun p hp => by rw [h5]; exact hO p hp⟩, fun p hp => by rw [h6]; exact hO p hp⟩)
    · rw [if_neg h1, if_neg h1, if_neg h2, if_neg h2, h3]; exact h.more
    · rw [h1, if_neg (by decide), if_neg (by decide), if_pos rfl, if_pos rfl]
      refine h.step i1 (by omega) i2 (fun _ tn kp => ?_) (fun hl => by rw [h2] at hl; cases hl)
      rcases h5 tn kp with h6 | ⟨r, g1, g2, g3⟩
      · exact .inl ⟨s.r, hF, by rw [← hNN]; exact h6⟩
      · exact .inr ⟨rfl, r, ⟨g1, fun p hp => by rw [g2]; exact hO p hp⟩, by rw [← hNN]; exact g3⟩
theorem WI.abort {N k : Nat} {s : Sp} {now last wanted : St} {torn : Bool} (h : WI N k s now last wanted torn) :
    (s.c.d.dead = true → s.abort.1 = 4) ∧ WI N (k + 1) s.abort.2 (if s.c.d.dead = false ∧ s.abort.1 = 0 then last else now) last wanted torn := by
  obtain ⟨i1, i2⟩ := abort_in h.ok
  cases hd : s.c.d.dead with
  | true =>
    rw [abort_off hd]
    exact ⟨fun _ => rfl, by rw [if_neg (fun e => by simp at e)]; exact h.more⟩
  | false =>
    obtain ⟨hI, hF, hO⟩ := h.live hd
    obtain ⟨h1, h2, h3, h4, h5⟩ := hI.abort hd
    refine ⟨fun e => by simp at e, ?_⟩
    rw [if_pos ⟨rfl, h1⟩]
    exact h.step i1 (by omega) i2 (fun hdd => by rw [h2] at hdd; cases hdd) (fun hl => ⟨h3, by rw [h5]; exact hF, fun p hp => by rw [h4]; exact hF.2 p hp⟩)
theorem opened_inv {d : Dk} {r : Rt} {b : Nat → Bs} {F : Nat} (hok : d.Ok) (hP : d.P = []) (hF : 1 ≤ F) (h : Pub d.S d.N r b) : (opened d F r).Inv b b := by
  have hN := h.hN
  have hpg : ∀ p, r.pg p < d.N := fun p => by
    by_cases e : r.pg p = 0
    · omega
    · exact (h.pg1 p e).1.2
  have hlg : ∀ x, (opened d F r).c.lg x = d.S x := fun x => by
    show d.says x = _
    unfold Dk.says; rw [hP]; rfl
  refine { ok := ⟨⟨hok, (fun s f e => nomatch e), (fun s t f g e => nomatch e)⟩, hF, hpg, hpg, fun i => ?_⟩, pub := h, np := fun q hq => by rw [show (opened d F r).c.d.P = [] from hP] at hq; simp at hq, cl := (fun x f _ e => nomatch e), nd := (fun x ⟨f, e, _⟩ => nomatch e), own1 := fun p hp => ?_, ownn := h.nm.pg, odis := h.dpg, onew := fun p _ e => absurd rfl e }
  · by_cases e : r.at' i = 0
    · show r.at' i < d.N; omega
    · have hi : i < 9 := by
        by_cases hi : i < 9
        · exact hi
        · exact absurd (h.nm.at9 i (by omega)) e
      exact (h.at1 i hi e).1.2
  · obtain ⟨g1, g2, g3⟩ := h.pg1 p hp
    exact ⟨g1.1, by rw [hlg]; exact g2, g3⟩
theorem settle_ok {d : Dk} (h : d.Ok) (tn kp : Nat → Bool) : ∀ k s, (upK tn kp d.S d.P k s).length = 256 ∨ upK tn kp d.S d.P k s = []
  | 0, s => h.S s
  | k + 1, s => by
    have ih := settle_ok h tn kp k
    unfold upK
    cases e : d.P[k]? with
    | none => exact ih s
    | some p =>
      have hp := (h.P p (List.mem_of_getElem? e)).2
      simp only [setK]
      split
      · unfold setS; split
        · exact .inr rfl
        · exact ih s
      · split
        · unfold setS; split
          · exact .inl hp
          · exact ih s
        · exact ih s
theorem WI.opens {N k : Nat} {s : Sp} {now last wanted : St} {torn : Bool} (h : WI N k s now last wanted torn) (tn kp : Nat → Bool) {F : Nat} (hF : 2 ≤ F) (hF2 : F ≤ 1024) :
    ∃ r, (s.c.d.on tn kp).open (F : Int) = (0, some (opened (s.c.d.on tn kp) F r)) ∧ (opened (s.c.d.on tn kp) F r).Ok ∧
      (((last.holds (opened (s.c.d.on tn kp) F r)).1 = true ∧ WI N (k + 1) (last.holds (opened (s.c.d.on tn kp) F r)).2 last last last false) ∨
       ((last.holds (opened (s.c.d.on tn kp) F r)).1 = false ∧ torn = true ∧ (wanted.holds (last.holds (opened (s.c.d.on tn kp) F r)).2).1 = true ∧ WI N (k + 1) (wanted.holds (last.holds (opened (s.c.d.on tn kp) F r)).2).2 wanted wanted wanted false)) := by
  obtain ⟨d, hd⟩ : ∃ d, s.c.d.on tn kp = d := ⟨_, rfl⟩
  have hdN : d.N = N := by rw [← hd]; exact h.hN
  have hdd : d.dead = false := by rw [← hd]; rfl
  have hda : d.ar = 0 := by rw [← hd]; rfl
  have hdP : d.P = [] := by rw [← hd]; rfl
  have hdS : d.S = upK tn kp s.c.d.S s.c.d.P s.c.d.P.length := by rw [← hd]; rfl
  have hdok : d.Ok := ⟨fun x => by rw [hdS]; exact settle_ok h.ok.c.d tn kp _ x, fun p hp => by rw [hdP] at hp; simp at hp⟩
  have hD : DeadI s.c.d N last wanted torn := by
    cases e : s.c.d.dead with
    | true => exact h.dead e
    | false =>
      obtain ⟨hI, hF, hO⟩ := h.live e
      exact stay_dead h.hN hI.stay hF _ _
  rw [hd]
  have go : ∀ (r : Rt) (x : St), Fits r x → Pub d.S d.N r x.b → d.open (F : Int) = (0, some (opened d F r)) ∧ (opened d F r).Inv x.b x.b ∧ (opened d F r).c.d.Al := fun r x hf hp => ⟨open_pub hdd hdP hp hF hF2, opened_inv hdok hdP (by omega) hp, ⟨hdd, hda⟩⟩
  -- the world of a space that holds a state
  have fin : ∀ (r : Rt) (x y : St) (s1 : Sp) (k1 : Nat), s1.Inv y.b y.b → s1.own = r.pg → s1.r = r → s1.c.d.Al → Ca.In (opened d F r).c s1.c k1 → k1 ≤ 4096 → r.mt = x.mt → (∀ p, p < 1024 → (x.on p = true ↔ r.pg p ≠ 0) ∧ (r.pg p ≠ 0 → x.b p = y.b p)) → WI N (k + 1) s1 x x x false := by
    intro r x y s1 k1 hI ho hr hal hi hk hm hall
    have hlt : ∀ p, r.pg p ≠ 0 → p < 1024 := fun p hp => by
      by_cases e : p < 1024
      · exact e
      · exact absurd (by have := hI.pub.nm.pg p (by omega); rwa [hr] at this) hp
    refine { hN := hi.N.trans hdN, hN2 := h.hN2, ok := hI.ok, clk := ?_, P := ?_, dead := (fun e => by rw [hal.1] at e; cases e), live := fun _ => ⟨hI.congr (fun p hp => ?_) (fun p hp => ?_), ⟨by rw [hr]; exact hm, fun p hp => by rw [hr]; exact (hall p hp).1⟩, fun p hp => by rw [ho]; exact (hall p hp).1⟩ }
    · have h1 : s1.c.clk ≤ 0 + k1 := hi.clk; omega
    · have h1 : s1.c.d.P.length ≤ (opened d F r).c.d.P.length + k1 := hi.P
      rw [show (opened d F r).c.d.P = [] from hdP] at h1
      simp at h1; omega
    · rw [hr] at hp; exact (hall p (hlt p hp)).2 hp
    · rw [ho] at hp; exact (hall p (hlt p hp)).2 hp
  rcases hD tn kp with ⟨r, hf, hp⟩ | ⟨ht, r, hf, hp⟩
  · rw [← hdS, ← hdN] at hp
    obtain ⟨g1, g2, g3⟩ := go r last hf hp
    obtain ⟨a1, a2, a3, a4, a5, a6⟩ := holds_inv last g2 g3
    have hall : r.mt = last.mt ∧ ∀ p, p < 1024 → (last.on p = true ↔ r.pg p ≠ 0) ∧ (r.pg p ≠ 0 → last.b p = last.b p) := ⟨hf.1, fun p hp => ⟨hf.2 p hp, fun _ => rfl⟩⟩
    exact ⟨r, g1, g2.ok, .inl ⟨a6.2 hall, fin r last last _ 2048 a1 a2 a3 a4 a5 (by omega) hall.1 hall.2⟩⟩
  · rw [← hdS, ← hdN] at hp
    obtain ⟨g1, g2, g3⟩ := go r wanted hf hp
    obtain ⟨a1, a2, a3, a4, a5, a6⟩ := holds_inv last g2 g3
    refine ⟨r, g1, g2.ok, ?_⟩
    cases hb : (last.holds (opened d F r)).1 with
    | true =>
      have hall := a6.1 hb
      exact .inl ⟨rfl, fin r last wanted _ 2048 a1 a2 a3 a4 a5 (by omega) hall.1 hall.2⟩
    | false =>
      obtain ⟨b1, b2, b3, b4, b5, b6⟩ := holds_inv wanted a1 a4
      have hall : r.mt = wanted.mt ∧ ∀ p, p < 1024 → (wanted.on p = true ↔ r.pg p ≠ 0) ∧ (r.pg p ≠ 0 → wanted.b p = wanted.b p) := ⟨hf.1, fun p hp => ⟨hf.2 p hp, fun _ => rfl⟩⟩
      refine .inr ⟨rfl, ht, b6.2 ?_, fin r wanted wanted _ 4096 b1 (b2.trans a2) (b3.trans a3) b4 ((a5.trans b5).mono (by omega)) (by omega) hall.1 hall.2⟩
      rw [a3, a2]
      exact hall
theorem WI.start (N F : Nat) (h : 16 ≤ N ∧ N ≤ 500) (hF : 1 ≤ F) : WI N 0 (sp0 N F) st0 st0 st0 false := by
  have hpub : Pub (fmtDk N).S (fmtDk N).N root0 (fun _ => []) := by
    refine { nm := ⟨by decide, fun i => (by decide : (0 : Nat) < 65536), fun i _ => rfl, fun p _ => rfl, by decide, fun x hx => by simp [root0] at hx⟩, slot := ?_, at1 := fun i _ h0 => absurd rfl h0, at0 := fun i hi _ => part_zero (fun _ _ => rfl) hi, pg1 := fun p h0 => absurd rfl h0, dat := fun i j _ _ h0 => absurd rfl h0, dpg := fun p q h0 => absurd rfl h0, dap := fun i p _ h0 => absurd rfl h0, other := fun x hx => ?_, hN := by show 2 ≤ N ∧ N < 65536; omega }
    · rfl
    · have e : (fmtDk N).S (1 - root0.ep % 2) = zero256 := rfl
      rw [e] at hx
      have : candB zero256 (1 - root0.ep % 2) = none := by
        unfold candB rdB
        rw [open_zero]
        have hne : ¬ zero256 = [] := by decide +kernel
        rw [if_neg hne]
        exact if_neg (fun h => by simp at h)
      rw [this] at hx; cases hx
  have hI := opened_inv (F := F) (fmt_ok N) rfl hF hpub
  exact { hN := rfl, hN2 := h, ok := sp0_ok N F h.1 hF, clk := Nat.le_refl _, P := Nat.le_refl _, dead := (fun e => nomatch e), live := fun _ => ⟨hI, ⟨rfl, fun p _ => ⟨(fun e => nomatch e), fun e => absurd rfl e⟩⟩, fun p _ => ⟨(fun e => nomatch e), fun e => absurd rfl e⟩⟩ }
end Go.Sp
namespace Go.Sp
theorem Dk.write_k {d : Dk} (h : d.Al) (s : Nat) (b : Bs) : (d.write s b).2.Al := by
  unfold Dk.write
  split
  · exact h
  · split
    · exact h
    · exact Dk.push_al h s b
theorem Dk.barrier_k {d : Dk} (h : d.Al) : d.barrier.2.Al := by
  rw [Dk.barrier_al h]
  exact ⟨(Dk.tick_al h).1, (Dk.tick_al h).2⟩
theorem Ca.cw_k {c : Ca} (h : c.d.Al) (s : Nat) : (c.cw s).2.d.Al := by
  unfold Ca.cw
  split
  · exact h
  · split
    · exact Dk.write_k h _ _
    · exact h
theorem Ca.out_k {c : Ca} (h : c.d.Al) (s : Nat) : (c.out s).2.d.Al := by
  have h2 := Ca.cw_k h s
  unfold Ca.out
  split <;> exact h2
theorem Ca.room_k {c : Ca} (h : c.d.Al) : c.room.2.d.Al := by
  unfold Ca.room
  split
  · exact h
  · split
    · exact h
    · exact Ca.out_k h _
theorem Ca.write_k {c : Ca} (h : c.d.Al) (s : Nat) (b : Bs) : (c.write s b).2.d.Al := by
  have h2 := Ca.room_k h
  unfold Ca.write
  split
  · exact h
  · split
    · exact h
    · split
      · exact h
      · split <;> exact h2
theorem Ca.evict_k {c : Ca} (h : c.d.Al) (k : Int) : (c.evict k).2.2.d.Al := by
  unfold Ca.evict
  split
  · exact h
  · split
    · exact h
    · exact Ca.out_k h _
theorem Ca.flushL_k : ∀ (l : List Nat) {c : Ca}, c.d.Al → (c.flushL l).2.d.Al
  | [], c, h => h
  | s :: l, c, h => by
    have h2 := Ca.cw_k h s
    unfold Ca.flushL
    split
    · exact h2
    · exact Ca.flushL_k l (c := (c.cw s).2.clean s) h2
theorem Ca.flush_k {c : Ca} (h : c.d.Al) : c.flush.2.d.Al := by
  have h2 := Ca.flushL_k c.keys h
  unfold Ca.flush
  split
  · exact h
  · split
    · exact h2
    · exact Dk.barrier_k h2
theorem Sp.put_k {s : Sp} (h : s.c.d.Al) (x k : Nat) (b : Bs) : (s.put x k b).2.c.d.Al := by
  unfold Sp.put
  split
  · exact h
  · exact Ca.write_k h _ _
theorem Sp.write_k {s : Sp} (h : s.c.d.Al) (p : Int) (b : Bs) : (s.write p b).2.c.d.Al := by
  unfold Sp.write
  repeat' split
  all_goals first | exact h | exact Sp.put_k h _ _ _
theorem Sp.drop_k {s : Sp} (h : s.c.d.Al) (p : Int) : (s.drop p).2.c.d.Al := by
  unfold Sp.drop
  repeat' split
  all_goals exact h
theorem Sp.putL_k : ∀ (l : List (Nat × Nat)) {s : Sp} (f : Nat → Nat), s.c.d.Al → (s.putL f l).2.2.c.d.Al
  | [], s, f, h => h
  | (x, i) :: l, s, f, h => by
    have h2 := Sp.put_k h x 2 (part s.own i)
    unfold Sp.putL
    split
    · exact h2
    · exact Sp.putL_k l _ h2
theorem Sp.parts_k {s : Sp} (h : s.c.d.Al) : s.parts.2.2.c.d.Al := by
  unfold Sp.parts
  split
  · exact h
  · exact Sp.putL_k _ _ h
theorem Sp.commit_k {s : Sp} (h : s.c.d.Al) (mt : Bs) : (s.commit mt).2.c.d.Al := by
  have h1 := Sp.parts_k h
  have h2 := Ca.flush_k h1
  unfold Sp.commit
  split
  · exact h
  split
  · exact h
  split
  · exact h
  split
  · exact h1
  split
  · exact h2
  dsimp only
  split
  · exact Dk.write_k h2 _ _
  split
  · exact Dk.barrier_k (Dk.write_k h2 _ _)
  · exact Dk.barrier_k (Dk.write_k h2 _ _)
theorem Ca.forget_k {c : Ca} (h : c.d.Al) (s : Nat) : (c.forget s).d.Al := by
  unfold Ca.forget
  split <;> exact h
theorem foldf_k (s : Sp) : ∀ (l : List Nat) (c : Ca), c.d.Al → (l.foldl (fun c p => c.forget (s.own p)) c).d.Al
  | [], c, h => h
  | p :: l, c, h => foldf_k s l _ (Ca.forget_k h _)
theorem Sp.abort_k {s : Sp} (h : s.c.d.Al) : s.abort.2.c.d.Al := by
  unfold Sp.abort
  split
  · exact h
  · exact foldf_k s _ _ h
def imgDk (N : Nat) (S : Nat → Bs) : Dk := ⟨N, S, [], false, 0, 0⟩
theorem WI.publishes {N k : Nat} {s : Sp} {now last wanted : St} {torn : Bool} (h : WI N k s now last wanted torn) (ha : s.c.d.Al) {F : Nat} (hF : 2 ≤ F) (hF2 : F ≤ 1024) :
    (imgDk N s.c.d.S).open (F : Int) = (0, some (opened (imgDk N s.c.d.S) F s.r)) ∧ (opened (imgDk N s.c.d.S) F s.r).Ok ∧ (last.holds (opened (imgDk N s.c.d.S) F s.r)).1 = true := by
  obtain ⟨hI, hf, hO⟩ := h.live ha.1
  have hp : Pub (imgDk N s.c.d.S).S (imgDk N s.c.d.S).N s.r last.b := by
    have := hI.pub
    rw [h.hN] at this
    exact this
  have hok : (imgDk N s.c.d.S).Ok := ⟨h.ok.c.d.S, fun p hp => by simp [imgDk] at hp⟩
  have g1 := open_pub (d := imgDk N s.c.d.S) rfl rfl hp hF hF2
  have g2 := opened_inv (F := F) hok rfl (by omega) hp
  have g3 : (opened (imgDk N s.c.d.S) F s.r).c.d.Al := ⟨rfl, rfl⟩
  obtain ⟨a1, a2, a3, a4, a5, a6⟩ := holds_inv last g2 g3
  refine ⟨g1, g2.ok, a6.2 ⟨hf.1, fun p hp => ⟨hf.2 p hp, fun _ => rfl⟩⟩⟩
theorem WI.ended {N k : Nat} {s : Sp} {now last wanted : St} {torn : Bool} (h : WI N k s now last wanted torn) (ha : s.c.d.Al) :
    ((now.named last.mt).holds s).1 = true := by
  obtain ⟨hI, hf, hO⟩ := h.live ha.1
  obtain ⟨a1, a2, a3, a4, a5, a6⟩ := holds_inv (now.named last.mt) hI ha
  exact a6.2 ⟨hf.1, fun p hp => ⟨hO p hp, fun _ => rfl⟩⟩
end Go.Sp
namespace Go.Sp
abbrev En := Nat → Option (Nat × Nat)
def ent (x : Option (Nat × Nat)) : Bs := match x with | none => [0, 0, 0, 0] | some x => le x.1 2 ++ le x.2 2
def layB (E : En) (q : Nat) : Nat → Bs
  | 0 => []
  | k + 1 => match E (q * 62 + 1 + k) with | none => layB E q k | some x => pad (4 * k) (layB E q k) ++ ent (some x)
structure Chunks (E : En) (q k : Nat) (b : Bs) (m : Nat) : Prop where
  le : m ≤ k
  len : b.length = 4 * m
  at' : ∀ j, j < m → (b.drop (4 * j)).take 4 = ent (E (q * 62 + 1 + j))
  out : ∀ j, m ≤ j → j < k → E (q * 62 + 1 + j) = none
  last : ∀ j, m = j + 1 → E (q * 62 + 1 + j) ≠ none
theorem ent_len (x : Option (Nat × Nat)) : (ent x).length = 4 := by cases x <;> rfl
theorem drop_zeros (n k : Nat) (h : k + 4 ≤ n) (t : Bs) : ((List.replicate n 0 ++ t).drop k).take 4 = [0, 0, 0, 0] := by
  obtain ⟨c, rfl⟩ : ∃ c, n = k + (4 + c) := ⟨n - k - 4, by omega⟩
  rw [List.drop_append_of_le_length (by simp), List.drop_replicate, show k + (4 + c) - k = 4 + c by omega, List.take_append_of_le_length (by simp), List.take_replicate, show min 4 (4 + c) = 4 by omega]
  rfl
theorem layB_chunks (E : En) (q : Nat) : ∀ k, ∃ m, Chunks E q k (layB E q k) m
  | 0 => ⟨0, Nat.le_refl _, rfl, fun j h => absurd h (by omega), fun j _ h => absurd h (by omega), fun j h => by omega⟩
  | k + 1 => by
    obtain ⟨m, h⟩ := layB_chunks E q k
    unfold layB
    cases hx : E (q * 62 + 1 + k) with
    | none =>
      exact ⟨m, Nat.le_succ_of_le h.le, h.len, h.at', fun j h1 h2 => by
        by_cases e : j = k
        · rw [e]; exact hx
        · exact h.out j h1 (by omega), h.last⟩
    | some x =>
      have hl := h.len
      have hm := h.le
      have hp : (pad (4 * k) (layB E q k)).length = 4 * k := pad_len (by omega)
      refine ⟨k + 1, Nat.le_refl _, ?_, fun j hj => ?_, fun j h1 h2 => absurd h2 (by omega), fun j e => ?_⟩
      · rw [List.length_append, hp, ent_len]; omega
      · by_cases e : j = k
        · subst e
          rw [hx, List.drop_append_of_le_length (by omega), List.drop_of_length_le (by omega), List.nil_append, List.take_of_length_le (by rw [ent_len]; omega)]
        · have hjk : j < k := by omega
          show ((pad (4 * k) (layB E q k) ++ ent (some x)).drop (4 * j)).take 4 = _
          unfold pad
          by_cases hjm : j < m
          · rw [List.append_assoc, List.drop_append_of_le_length (by omega), List.take_append_of_le_length (by rw [List.length_drop]; omega)]
            exact h.at' j hjm
          · rw [h.out j (by omega) hjk, List.append_assoc, List.drop_append, List.drop_of_length_le (by omega), List.nil_append, hl]
            exact drop_zeros _ _ (by omega) _
      · have : j = k := by omega
        rw [this, hx]; simp
theorem layB_bytes (E : En) (q : Nat) : ∀ k, bytes (layB E q k)
  | 0 => fun y hy => by cases hy
  | k + 1 => by
    have ih := layB_bytes E q k
    unfold layB
    cases E (q * 62 + 1 + k) with
    | none => exact ih
    | some x =>
      intro y hy
      rcases List.mem_append.1 hy with e | e
      · rcases List.mem_append.1 e with e | e
        · exact ih y e
        · rw [(List.mem_replicate.1 e).2]; decide
      · rcases List.mem_append.1 e with e | e
        · exact le_bytes _ _ y e
        · exact le_bytes _ _ y e
theorem layB_congr {E E' : En} {q : Nat} : ∀ k, (∀ j, j < k → E (q * 62 + 1 + j) = E' (q * 62 + 1 + j)) → layB E q k = layB E' q k
  | 0, _ => rfl
  | k + 1, h => by
    have ih := layB_congr k fun j hj => h j (by omega)
    unfold layB
    rw [h k (by omega), ih]
theorem layB_nil {E : En} {q k : Nat} : layB E q k = [] ↔ ∀ j, j < k → E (q * 62 + 1 + j) = none := by
  obtain ⟨m, h⟩ := layB_chunks E q k
  constructor
  · intro e j hj
    have h0 : m = 0 := by have := h.len; rw [e] at this; simp at this; omega
    exact h.out j (by omega) hj
  · intro e
    cases m with
    | zero => exact List.length_eq_zero_iff.1 (by have := h.len; omega)
    | succ m => exact absurd (e m (by have := h.le; omega)) (h.last m rfl)
theorem layB_len (E : En) (q k : Nat) : (layB E q k).length ≤ 4 * k := by
  obtain ⟨m, h⟩ := layB_chunks E q k
  have := h.len; have := h.le; omega
structure EnOk (E : En) : Prop where
  ok : ∀ o p s, E o = some (p, s) → 1 ≤ o ∧ o ≤ 16384 ∧ 265 ≤ p ∧ p < 1024 ∧ s ≤ 65535
structure Says (x : St) (E : En) : Prop where
  on : ∀ q, q < 265 → (x.on q = true ↔ layB E q 62 ≠ [])
  b : ∀ q, q < 265 → x.on q = true → x.b q = layB E q 62
  hi : ∀ q, 265 ≤ q → q < 1024 → x.on q = false
theorem layB_other {E : En} {o q : Nat} {x : Option (Nat × Nat)} (ho : 1 ≤ o) (hq : q ≠ (o - 1) / 62) : layB (upd E o x) q 62 = layB E q 62 :=
  layB_congr 62 fun j hj => upd_other _ (by omega) _
theorem EnOk.upd {E : En} (h : EnOk E) {o : Nat} {x : Option (Nat × Nat)} (hx : ∀ p s, x = some (p, s) → 1 ≤ o ∧ o ≤ 16384 ∧ 265 ≤ p ∧ p < 1024 ∧ s ≤ 65535) : EnOk (upd E o x) :=
  ⟨fun k p s e => by
    by_cases hk : k = o
    · subst hk; rw [upd_same] at e; exact hx p s e
    · rw [upd_other _ hk] at e; exact h.ok k p s e⟩
theorem Says.put {x : St} {E : En} (h : Says x E) {o : Nat} {y : Option (Nat × Nat)} (ho : 1 ≤ o ∧ o ≤ 16384) (hb : layB (upd E o y) ((o - 1) / 62) 62 ≠ []) : Says (x.put ((o - 1) / 62) (layB (upd E o y) ((o - 1) / 62) 62)) (upd E o y) :=
  ⟨fun q hq => by
    by_cases e : q = (o - 1) / 62
    · subst e; show upd x.on _ true _ = true ↔ _; rw [upd_same]; exact ⟨fun _ => hb, fun _ => rfl⟩
    · show upd x.on _ true _ = true ↔ _; rw [upd_other _ e, layB_other ho.1 e]; exact h.on q hq,
  fun q hq hon => by
    by_cases e : q = (o - 1) / 62
    · subst e; show upd x.b _ _ _ = _; rw [upd_same]
    · have hon : upd x.on _ true _ = true := hon
      rw [upd_other _ e] at hon
      show upd x.b _ _ _ = _; rw [upd_other _ e, layB_other ho.1 e]; exact h.b q hq hon,
  fun q hq hq2 => by show upd x.on _ true _ = false; rw [upd_other _ (by omega)]; exact h.hi q hq hq2⟩
theorem Says.del {x : St} {E : En} (h : Says x E) {o : Nat} {y : Option (Nat × Nat)} (ho : 1 ≤ o ∧ o ≤ 16384) (hb : layB (upd E o y) ((o - 1) / 62) 62 = []) : Says (x.del ((o - 1) / 62)) (upd E o y) :=
  ⟨fun q hq => by
    by_cases e : q = (o - 1) / 62
    · subst e; show upd x.on _ false _ = true ↔ _; rw [upd_same]; exact ⟨(fun e => by cases e), fun e => absurd hb e⟩
    · show upd x.on _ false _ = true ↔ _; rw [upd_other _ e, layB_other ho.1 e]; exact h.on q hq,
  fun q hq hon => by
    have hon : upd x.on _ false _ = true := hon
    by_cases e : q = (o - 1) / 62
    · rw [e, upd_same] at hon; cases hon
    · rw [upd_other _ e] at hon
      show upd x.b _ _ _ = _; rw [upd_other _ e, layB_other ho.1 e]; exact h.b q hq hon,
  fun q hq hq2 => by show upd x.on _ false _ = false; rw [upd_other _ (by omega)]; exact h.hi q hq hq2⟩
def Sp.wide (s : Sp) : Nat := ((List.range s.c.d.N).filter fun x => !(decide (x < 2) || (secs s.r.pg).contains x || (secs s.own).contains x)).length
theorem rooms_wide (s : Sp) : s.wide ≤ s.rooms.length + 9 := by
  have h := del_le (fun x => !(decide (x < 2) || (secs s.r.pg).contains x || (secs s.own).contains x)) ((List.range 9).map s.r.at') (List.range s.c.d.N) List.nodup_range
  have h2 : (List.filter (fun x => !(decide (x < 2) || (secs s.r.pg).contains x || (secs s.own).contains x) && !((List.range 9).map s.r.at').contains x) (List.range s.c.d.N)).length ≤ s.rooms.length := by
    refine filter_mono (fun x hx => ?_) _
    unfold Sp.taken
    simp only [Bool.and_eq_true, Bool.not_eq_true', Bool.or_eq_false_iff] at hx ⊢
    refine ⟨⟨⟨hx.1.1.1, hx.1.1.2⟩, hx.1.2⟩, ?_⟩
    rw [List.any_eq_false]
    intro i hi e
    have hm : x ∈ (List.range 9).map s.r.at' := List.mem_map.2 ⟨i, hi, by simpa using e⟩
    have := hx.2
    rw [List.contains_iff_mem.2 hm] at this
    cases this
  simp only [List.length_map, List.length_range] at h
  exact Nat.le_trans h (Nat.add_le_add_right h2 9)
theorem wide_rooms (s : Sp) : s.rooms.length ≤ s.wide := by
  refine filter_mono (fun x hx => ?_) _
  unfold Sp.taken at hx
  simp only [Bool.not_eq_true', Bool.or_eq_false_iff] at hx ⊢
  exact hx.1
theorem wide_mono {s t : Sp} (hN : t.c.d.N = s.c.d.N) (h : ∀ p, p < 1024 → (0 < t.r.pg p → ∃ q, q < 1024 ∧ (s.r.pg q = t.r.pg p ∨ s.own q = t.r.pg p)) ∧ (0 < t.own p → ∃ q, q < 1024 ∧ (s.r.pg q = t.own p ∨ s.own q = t.own p))) : s.wide ≤ t.wide := by
  unfold Sp.wide
  rw [hN]
  refine filter_mono (fun x hx => ?_) _
  simp only [Bool.not_eq_true', Bool.or_eq_false_iff] at hx ⊢
  obtain ⟨⟨h1, h2⟩, h3⟩ := hx
  have key : ∀ q, q < 1024 → 0 < x → ¬ (s.r.pg q = x ∨ s.own q = x) := fun q hq h0 e => by
    rcases e with e | e
    · rw [List.contains_iff_mem.2 (mem_secs.2 ⟨q, hq, by omega, e⟩)] at h2; cases h2
    · rw [List.contains_iff_mem.2 (mem_secs.2 ⟨q, hq, by omega, e⟩)] at h3; cases h3
  refine ⟨⟨h1, ?_⟩, ?_⟩
  · cases e : (secs t.r.pg).contains x with
    | false => rfl
    | true =>
      obtain ⟨p, hp, h0, rfl⟩ := mem_secs.1 (List.contains_iff_mem.1 e)
      obtain ⟨q, hq, hh⟩ := (h p hp).1 h0
      exact absurd hh (key q hq h0)
  · cases e : (secs t.own).contains x with
    | false => rfl
    | true =>
      obtain ⟨p, hp, h0, rfl⟩ := mem_secs.1 (List.contains_iff_mem.1 e)
      obtain ⟨q, hq, hh⟩ := (h p hp).2 h0
      exact absurd hh (key q hq h0)
theorem commit_P {s : Sp} {mt : Bs} (h : (s.commit mt).1 = 0) : (s.commit mt).2.c.d.P = [] := by
  unfold Sp.commit at h ⊢
  split at h
  · rename_i e; exact absurd h e
  split at h
  · simp at h
  split at h
  · simp at h
  split at h
  · rename_i e; exact absurd h e
  split at h
  · rename_i e; exact absurd h e
  dsimp only at h ⊢
  split at h
  · rename_i e; exact absurd h e
  split at h
  · rename_i e; exact absurd h e
  rename_i a1 a2 a3 a4 a5 a6 a7
  rw [if_neg a1, if_neg a2, if_neg a3, if_neg a4, if_neg a5, if_neg a6, if_neg a7]
  have hb := Classical.not_not.1 a7
  show (Dk.barrier _).2.P = []
  generalize (s.parts.2.2.c.flush.2.d.write ((s.next s.parts.2.1 mt).ep % 2) (sealB 1 (bodyR (s.next s.parts.2.1 mt))).2).2 = d at hb ⊢
  unfold Dk.barrier at hb ⊢
  split at hb
  · simp at hb
  split at hb
  · simp at hb
  rename_i b1 b2
  rw [if_neg b1, if_neg b2]
  rfl
structure TI (N c : Nat) (s : Sp) (now last : St) (E L : En) : Prop where
  hN : s.c.d.N = N
  hN2 : 32 ≤ N ∧ N ≤ 500
  clk : s.c.clk ≤ c
  P : s.c.d.P.length ≤ c
  ep : s.r.ep ≤ 1 + c
  al : s.c.d.Al
  inv : s.Inv last.b now.b
  fit : Fits s.r last
  own : ∀ p, p < 1024 → (now.on p = true ↔ s.own p ≠ 0)
  wide : 18 ≤ s.wide
  e : EnOk E
  l : EnOk L
  se : Says now E
  sl : Says last L
section
variable {N c : Nat} {s : Sp} {now last : St} {E L : En}
theorem TI.more (h : TI N c s now last E L) {c' : Nat} (hc : c ≤ c') : TI N c' s now last E L :=
  { h with clk := Nat.le_trans h.clk hc, P := Nat.le_trans h.P hc, ep := Nat.le_trans h.ep (Nat.add_le_add_left hc 1) }
theorem TI.alive (h : TI N c s now last E L) : s.Al := ⟨h.inv.ok, h.al⟩
def pgE (E : En) : List Nat := (List.range 1024).filter fun q => decide (q < 265 ∧ layB E q 62 ≠ [])
theorem pgs_says {x : St} {f : Nat → Nat} (hs : Says x E) (ho : ∀ p, p < 1024 → (x.on p = true ↔ f p ≠ 0)) : pgs f = pgE E := by
  unfold pgs pgE
  refine List.filter_congr fun p hp => ?_
  have hp := List.mem_range.1 hp
  rw [decide_eq_decide]
  have h1 := ho p hp
  constructor
  · intro h
    have hon := h1.2 (by omega)
    by_cases hq : p < 265
    · exact ⟨hq, (hs.on p hq).1 hon⟩
    · rw [hs.hi p (by omega) hp] at hon; cases hon
  · rintro ⟨hq, hl⟩
    have := h1.1 ((hs.on p hq).2 hl)
    omega
theorem TI.pages (h : TI N c s now last E L) : pgs s.own = pgE E := pgs_says h.se h.own
theorem TI.lpages (h : TI N c s now last E L) : pgs s.r.pg = pgE L := pgs_says h.sl h.fit.2
theorem TI.roomy (h : TI N c s now last E L) : N ≤ s.rooms.length + 11 + (pgE E).length + (pgE L).length := by
  have h0 := rooms_wide s
  have h1 := del_le (fun x => !decide (x < 2)) (secs s.r.pg ++ secs s.own) (List.range s.c.d.N) List.nodup_range
  rw [two_range _ (by rw [h.hN]; have := h.hN2; omega)] at h1
  have h2 : (List.filter (fun x => !decide (x < 2) && !(secs s.r.pg ++ secs s.own).contains x) (List.range s.c.d.N)).length ≤ s.wide := by
    refine filter_mono (fun x hx => ?_) _
    simp only [Bool.and_eq_true, Bool.not_eq_true', Bool.or_eq_false_iff] at hx ⊢
    obtain ⟨g1, g2⟩ := hx
    have hc : ∀ l : List Nat, (∀ y ∈ l, y ∈ secs s.r.pg ++ secs s.own) → l.contains x = false := fun l hl => by
      cases e : l.contains x with
      | false => rfl
      | true =>
        rw [List.contains_iff_mem.2 (hl x (List.contains_iff_mem.1 e))] at g2
        cases g2
    exact ⟨⟨g1, hc _ fun y hy => List.mem_append.2 (.inl hy)⟩, hc _ fun y hy => List.mem_append.2 (.inr hy)⟩
  have l1 : (secs s.own).length = (pgE E).length := by unfold secs; rw [List.length_map, h.pages]
  have l2 : (secs s.r.pg).length = (pgE L).length := by unfold secs; rw [List.length_map, h.lpages]
  rw [List.length_append, l1, l2] at h1
  have := h.hN
  have := h.hN2
  omega
theorem TI.read (h : TI N c s now last E L) {q : Nat} (hq : q < 265) (hb : s.own q ≠ 0) : (s.read (q : Int)).1 = 0 ∧ (s.read (q : Int)).2.1 = layB E q 62 ∧ layB E q 62 ≠ [] ∧ TI N (c + 2) (s.read (q : Int)).2.2 now last E L ∧ (s.read (q : Int)).2.2.own = s.own := by
  obtain ⟨i1, i2, _, _⟩ := read_in h.inv.ok (q : Int)
  obtain ⟨r1, r2, r3, r4, r5, r6⟩ := read_page h.inv h.al (by omega) hb
  have hon := (h.own q (by omega)).2 hb
  exact ⟨r1, r2.trans (h.se.b q hq hon), (h.se.on q hq).1 hon, { hN := i1.N.trans h.hN, hN2 := h.hN2, clk := by have := i1.clk; have := h.clk; omega, P := by have := i1.P; have := h.P; omega, ep := by rw [r5]; have := h.ep; omega, al := r6, inv := r3, fit := by rw [r5]; exact h.fit, own := by rw [r4]; exact h.own, wide := Nat.le_trans h.wide (wide_mono i1.N fun p hp => by rw [r4, r5]; exact ⟨fun _ => ⟨p, hp, .inl rfl⟩, fun _ => ⟨p, hp, .inr rfl⟩⟩), e := h.e, l := h.l, se := h.se, sl := h.sl }, r4⟩
theorem TI.write (h : TI N c s now last E L) {o : Nat} {y : Option (Nat × Nat)} (ho : 1 ≤ o ∧ o ≤ 16384) (hy : ∀ p t, y = some (p, t) → 265 ≤ p ∧ p < 1024 ∧ t ≤ 65535) (hb : layB (upd E o y) ((o - 1) / 62) 62 ≠ []) :
    ((s.write (((o - 1) / 62 : Nat) : Int) (layB (upd E o y) ((o - 1) / 62) 62)).1 = 0 ∧ TI N (c + 2) (s.write (((o - 1) / 62 : Nat) : Int) (layB (upd E o y) ((o - 1) / 62) 62)).2 (now.put ((o - 1) / 62) (layB (upd E o y) ((o - 1) / 62) 62)) last (upd E o y) L) ∨
    (s.write (((o - 1) / 62 : Nat) : Int) (layB (upd E o y) ((o - 1) / 62) 62) = (6, s) ∧ N ≤ 29 + (pgE E).length + (pgE L).length) := by
  obtain ⟨b, hbb⟩ : ∃ b, layB (upd E o y) ((o - 1) / 62) 62 = b := ⟨_, rfl⟩
  have hbl : b.length ≤ 248 := hbb ▸ layB_len _ _ _
  have hby : bytes b := hbb ▸ layB_bytes _ _ _
  have hs := h.se.put ho hb
  rw [hbb] at hs ⊢
  have hq : (o - 1) / 62 < 1024 := by omega
  generalize (o - 1) / 62 = q at *
  have fin : (s.write (q : Int) b).1 = 0 → (s.write (q : Int) b).2.Al → 18 ≤ (s.write (q : Int) b).2.wide → TI N (c + 2) (s.write (q : Int) b).2 (now.put q b) last (upd E o y) L := fun h0 hal hw => by
    obtain ⟨i1, i2⟩ := write_in h.inv.ok (q : Int) b
    rcases h.inv.write h.al.1 (q : Int) hby with ⟨n, e, h1, h2, h3, h4, h5, h6, h7⟩ | ⟨h1, h2, h3⟩ | ⟨h1, h2, h3, h4, h5⟩
    · have : q = n := by omega
      subst this
      exact { hN := i1.N.trans h.hN, hN2 := h.hN2, clk := by have := i1.clk; have := h.clk; omega, P := by have := i1.P; have := h.P; omega, ep := by rw [h5]; have := h.ep; omega, al := hal.al, inv := h4, fit := by rw [h5]; exact h.fit, own := fun p hp => (by
        show upd now.on q true p = true ↔ _
        by_cases e : p = q
        · subst e; rw [upd_same]; exact ⟨fun _ => h6, fun _ => rfl⟩
        · rw [upd_other _ e, h7 p e]; exact h.own p hp), wide := hw, e := h.e.upd fun p t e => ⟨ho.1, ho.2, hy p t e⟩, l := h.l, se := hs, sl := h.sl }
    · exact absurd h0 h1
    · omega
  cases ht : s.turned q with
  | true =>
    obtain ⟨h1, h2, h3, h4, h5, h6⟩ := Sp.write_again h.alive hq ht hbl
    exact .inl ⟨h1, fin h1 h2 (Nat.le_trans h.wide (wide_mono h6.N fun p hp => by rw [h3, h4]; exact ⟨fun _ => ⟨p, hp, .inl rfl⟩, fun _ => ⟨p, hp, .inr rfl⟩⟩))⟩
  | false =>
    by_cases hr : 18 < s.rooms.length
    · obtain ⟨h1, h2, h3, h4, h5, h6, h7⟩ := Sp.write_fresh h.alive hq ht hr hbl
      exact .inl ⟨h1, fin h1 h2 (Nat.le_trans (by omega) (wide_rooms _))⟩
    · exact .inr ⟨Sp.write_full h.alive hq ht (by omega) hbl, by have := h.roomy; omega⟩
theorem TI.drop (h : TI N c s now last E L) {o : Nat} {y : Option (Nat × Nat)} (ho : 1 ≤ o ∧ o ≤ 16384) (hy : ∀ p t, y = some (p, t) → 265 ≤ p ∧ p < 1024 ∧ t ≤ 65535) (hE : E o ≠ none) (hb : layB (upd E o y) ((o - 1) / 62) 62 = []) :
    (s.drop (((o - 1) / 62 : Nat) : Int)).1 = 0 ∧ TI N c (s.drop (((o - 1) / 62 : Nat) : Int)).2 (now.del ((o - 1) / 62)) last (upd E o y) L := by
  have hs := h.se.del ho hb
  have hq : (o - 1) / 62 < 265 := by omega
  have hon : now.on ((o - 1) / 62) = true := (h.se.on _ hq).2 fun e => hE (by
    have := layB_nil.1 e ((o - 1) % 62) (by omega)
    rw [show (o - 1) / 62 * 62 + 1 + (o - 1) % 62 = o by omega] at this
    exact this)
  have h0 := (h.own _ (by omega)).1 hon
  generalize (o - 1) / 62 = q at *
  rcases h.inv.drop h.al.1 (q : Int) with ⟨n, e, h1, h2, h3, h4⟩ | ⟨h1, h2⟩
  · have : q = n := by omega
    subst this
    rw [h3]
    refine ⟨rfl, { hN := h.hN, hN2 := h.hN2, clk := h.clk, P := h.P, ep := h.ep, al := h.al, inv := h4.congr (fun _ _ => rfl) fun p hp => ?_, fit := h.fit, own := fun p hp => ?_, wide := Nat.le_trans h.wide (wide_mono rfl fun p hp => ⟨fun _ => ⟨p, hp, .inl rfl⟩, fun h0 => ?_⟩), e := h.e.upd fun p t e => ⟨ho.1, ho.2, hy p t e⟩, l := h.l, se := hs, sl := h.sl }⟩
    · show upd now.b q [] p = now.b p
      refine upd_other _ (fun e => ?_) _
      have : (s.setOwn q 0).own p = upd s.own q 0 p := rfl
      rw [this, e, upd_same] at hp
      exact hp rfl
    · show upd now.on q false p = true ↔ upd s.own q 0 p ≠ 0
      by_cases e : p = q
      · subst e; rw [upd_same, upd_same]; simp
      · rw [upd_other _ e, upd_other _ e]; exact h.own p hp
    · refine ⟨p, hp, .inr ?_⟩
      have hu : (s.setOwn q 0).own p = upd s.own q 0 p := rfl
      by_cases e : p = q
      · rw [hu, e, upd_same] at h0; exact absurd h0 (by decide)
      · rw [hu, upd_other _ e]
  · exact absurd (by
      have : s.drop (q : Int) = (0, s.setOwn q 0) := (Sp.drop_on h.alive (by omega) h0).1
      rw [this] at h1
      exact h1) (fun h => by simp at h)
theorem TI.commit (h : TI N c s now last E L) (hc : c ≤ 1000000) : (s.commit []).1 = 0 ∧ TI N (c + 600) (s.commit []).2 (now.named []) (now.named []) E E ∧ (s.commit []).2.c.d.P = [] := by
  have hr : s.full.length ≤ s.rooms.length := by
    have := full_le s
    have := rooms_wide s
    have := h.wide
    omega
  have hep := h.ep
  obtain ⟨h1, h2, h3, h4, h5⟩ := Sp.commit_al h.alive hr (by rw [h.hN]; have := h.hN2; omega) (mt := []) (by simp) (by omega)
  obtain ⟨i1, i2⟩ := commit_in h.inv.ok (by rw [h.hN]; have := h.hN2; omega) []
  have hN := h.hN
  have hN2 := h.hN2
  rcases h.inv.commit h.al.1 (mt := []) (fun x hx => by simp at hx) with ⟨g1, g2, g3, g4, g5, g6⟩ | ⟨g1, g2, g3⟩ | ⟨g1, _⟩
  · refine ⟨h1, { hN := i1.N.trans h.hN, hN2 := h.hN2, clk := by have := i1.clk; have := h.clk; omega, P := by have := i1.P; have := h.P; omega, ep := by rw [h3]; show s.r.ep + 1 ≤ _; omega, al := h2.al, inv := g3, fit := ⟨g4, fun p hp => by rw [g5]; exact h.own p hp⟩, own := fun p hp => by rw [g6]; exact h.own p hp, wide := Nat.le_trans h.wide (wide_mono i1.N fun p hp => by rw [g5, g6]; exact ⟨fun _ => ⟨p, hp, .inr rfl⟩, fun _ => ⟨p, hp, .inr rfl⟩⟩), e := h.e, l := h.e, se := ⟨h.se.on, h.se.b, h.se.hi⟩, sl := ⟨h.se.on, h.se.b, h.se.hi⟩ }, commit_P h1⟩
  · exact absurd h1 g1
  · omega
theorem TI.abort (h : TI N c s now last E L) : s.abort.1 = 0 ∧ TI N c s.abort.2 last last L L := by
  obtain ⟨i1, i2⟩ := abort_in h.inv.ok
  obtain ⟨h1, h2, h3, h4, h5⟩ := h.inv.abort h.al.1
  exact ⟨h1, { hN := i1.N.trans h.hN, hN2 := h.hN2, clk := by have := i1.clk; have := h.clk; omega, P := by have := i1.P; have := h.P; omega, ep := by rw [h5]; exact h.ep, al := Sp.abort_k h.al, inv := h3, fit := by rw [h5]; exact h.fit, own := fun p hp => by rw [h4]; exact h.fit.2 p hp, wide := Nat.le_trans h.wide (wide_mono i1.N fun p hp => by rw [h4, h5]; exact ⟨fun _ => ⟨p, hp, .inl rfl⟩, fun _ => ⟨p, hp, .inl rfl⟩⟩), e := h.l, l := h.l, se := h.sl, sl := h.sl }⟩
theorem TI.opens (h : TI N c s last last L L) (hP : s.c.d.P = []) {F : Nat} (hF : 2 ≤ F) (hF2 : F ≤ 1024) : s.c.d.open (F : Int) = (0, some (opened s.c.d F s.r)) ∧ TI N c (opened s.c.d F s.r) last last L L := by
  have g1 := open_pub h.al.1 hP h.inv.pub hF hF2
  have g2 := opened_inv (F := F) h.inv.ok.c.d hP (by omega) h.inv.pub
  exact ⟨g1, { hN := h.hN, hN2 := h.hN2, clk := Nat.zero_le _, P := h.P, ep := h.ep, al := h.al, inv := g2, fit := h.fit, own := fun p hp => h.fit.2 p hp, wide := Nat.le_trans h.wide (wide_mono rfl fun p hp => ⟨fun _ => ⟨p, hp, .inl rfl⟩, fun _ => ⟨p, hp, .inl rfl⟩⟩), e := h.l, l := h.l, se := h.sl, sl := h.sl }⟩
end
theorem Says.none : Says st0 (fun _ => none) :=
  ⟨fun q _ => ⟨(fun e => nomatch e), fun e => absurd (layB_nil.2 fun _ _ => rfl) e⟩, fun q _ e => (nomatch e), fun _ _ _ => rfl⟩
theorem TI.start (N F : Nat) (h : 32 ≤ N ∧ N ≤ 500) (hF : 1 ≤ F) : TI N 0 (sp0 N F) st0 st0 (fun _ => none) (fun _ => none) := by
  have hw := WI.start N F (by omega) hF
  obtain ⟨h1, h2, h3⟩ := hw.live rfl
  exact { hN := hw.hN, hN2 := h, clk := Nat.le_refl _, P := Nat.le_refl _, ep := Nat.le_refl _, al := ⟨rfl, rfl⟩, inv := h1, fit := h2, own := h3, wide := Nat.le_trans (by rw [rooms_sp0 N F (by omega)]; omega) (wide_rooms _), e := ⟨fun _ _ _ e => nomatch e⟩, l := ⟨fun _ _ _ e => nomatch e⟩, se := Says.none, sl := Says.none }
end Go.Sp
