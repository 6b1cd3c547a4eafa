/- StoreNil's does with no store, and Vast of one Op, walked by hand; each says its own conditions. -/
import Derived.Test.YtaamiedjgfopiaaGreatDoorSort
import Derived.WalkKit
import Derived.Handy
import Derived.LoopTactic
import Derived.Deep.RegionWith
set_option linter.unusedVariables false
set_option linter.unusedSimpArgs false
set_option maxRecDepth 100000
set_option maxHeartbeats 800000
namespace Go.Eng
open Go.RowKit Go.Proofs
theorem i86s : (Tryz.prog.info? 86).map (fun i => (i.size, i.bytes, i.zero)) = some (2, 16, some (.agg #[.int .u8 0, .int .i64 0])) := by kernel_rfl
/-- a row of words of the call's own -/
def Words (w : World) (base : Nat) (v : Value) (n : Nat) : Prop :=
  (v = .slice none 0 0 ∧ n = 0) ∨ ∃ g cap, v = .slice (some ⟨g, 0, none⟩) n cap ∧ base ≤ g ∧ g < w.heap.size ∧ ∀ j, j < 2 * n → (∃ u, w.cell? ⟨g, j, none⟩ = some u) ∧ w.frozen? ⟨g, j, none⟩ = false
theorem Words.below {w w' : World} {base : Nat} {v : Value} {n : Nat} (h : Words w base v n) (hb : Below w.heap.size w w') : Words w' base v n := by
  rcases h with h | ⟨g, cap, h1, h2, h3, h4⟩
  · exact .inl h
  · refine .inr ⟨g, cap, h1, h2, Nat.lt_of_lt_of_le h3 hb.size, fun j hj => ?_⟩
    rw [hb.cell (by exact h3), hb.frozen (by exact h3)]
    exact h4 j hj
/-- what o's words are -/
def Given (w : World) (a : Option Addr) (n : Nat) : Prop :=
  (a = none → n = 0) ∧ ∀ p, a = some p → ∀ j, j < 2 * n → ∃ x : Value, w.cell? (p.add j) = some x ∧ x.oneCell' = true
theorem add_block (p : Addr) (j : Nat) : (p.add j).block = p.block := by unfold Addr.add; split <;> rfl
theorem Given.below {w w' : World} {B : Nat} {a : Option Addr} {n : Nat} (h : Given w a n) (hb : Below w.heap.size w w') : Given w' a n :=
  ⟨h.1, fun p hp j hj => by
    obtain ⟨x, h1, h2⟩ := h.2 p hp j hj
    refine ⟨x, ?_, h2⟩
    rw [hb.cell]
    · exact h1
    · rcases Nat.lt_or_ge (p.add j).block w.heap.size with h | h
      · exact h
      · have : w.heap[(p.add j).block]? = none := Array.getElem?_eq_none h
        simp [World.cell?, this] at h1⟩
theorem ownsNil (w : World) (base e size : Nat) : w.ownsRow base e size (.slice none 0 0) 0 [] := ⟨by simp, .inl ⟨rfl, rfl⟩⟩
theorem news_ok {w W : World} {p : Addr} {n : Nat} {x : Nat → Value} (hb : Below w.heap.size w W) (hx : ∀ j, j < 2 * n → w.cell? (p.add j) = some (x j) ∧ (x j).oneCell' = true) (hlt : ∀ j, j < 2 * n → (p.add j).block < w.heap.size) :
    ∀ j u, ((List.range (2 * n)).map x)[j]? = some u → W.cell? (p.add j) = some u := fun j u hu => by
  rw [List.getElem?_map] at hu
  obtain ⟨k, hk, rfl⟩ := Option.map_eq_some_iff.1 hu
  obtain ⟨hk1, hk2⟩ := List.getElem?_eq_some_iff.1 hk
  rw [List.getElem_range] at hk2
  subst hk2
  have hj : j < 2 * n := by simpa using hk1
  rw [hb.cell (hlt j hj)]
  exact (hx j hj).1
theorem news_one {w : World} {p : Addr} {n : Nat} {x : Nat → Value} (hx : ∀ j, j < 2 * n → w.cell? (p.add j) = some (x j) ∧ (x j).oneCell' = true) : ∀ u ∈ (List.range (2 * n)).map x, u.oneCell' = true := fun u hu => by
  obtain ⟨j, hj, rfl⟩ := List.mem_map.1 hu
  exact (hx j (by simpa using hj)).2
theorem words_of {w' : World} {base : Nat} {v' : Value} {n : Nat} {xs : List Value} (ho : w'.ownsRow base 86 2 v' (0 + n) ([] ++ xs)) :
    (v' = .slice none 0 0 ∧ n = 0) ∨ ∃ g cap, v' = .slice (some ⟨g, 0, none⟩) n cap ∧ base ≤ g ∧ g < w'.heap.size ∧ ∀ j, j < 2 * n → (∃ u, w'.cell? ⟨g, j, none⟩ = some u) ∧ w'.frozen? ⟨g, j, none⟩ = false := by
  rw [Nat.zero_add] at ho
  rcases ho.2 with ⟨rfl, h0⟩ | ⟨g, cap, cur, rfl, hbg, hg, hnc, _, hcs, _⟩
  · exact .inl ⟨rfl, h0⟩
  · refine .inr ⟨g, cap, rfl, hbg, (Array.getElem?_eq_some_iff.1 hg).1, fun j hj => ?_⟩
    have hjc : j < cur.size := by omega
    exact ⟨⟨cur[j], by simp [World.cell?, hg, Array.getElem?_eq_getElem hjc]⟩, by simp [World.frozen?, hg]⟩
/-- the cells that are read and written behind the append -/
structure CI (w wr : World) (kd tg : Int) (tx : ByteArray) : Prop where
  below : Below w.heap.size w wr
  c0 : wr.cell? ⟨w.heap.size + 1 + 1, 0, none⟩ = some (.int .u8 kd)
  c1 : wr.cell? ⟨w.heap.size + 1 + 1, 1, none⟩ = some (.int .i64 tg)
  c2 : wr.cell? ⟨w.heap.size + 1 + 1, 2, none⟩ = some (.slice none 0 0)
  c3 : wr.cell? ⟨w.heap.size + 1 + 1, 3, none⟩ = some (.string tx)
  f2 : wr.frozen? ⟨w.heap.size + 1 + 1, 2, none⟩ = false
  d0 : wr.cell? ⟨w.heap.size + 1, 0, none⟩ = some (.int .u8 0)
  d1 : wr.cell? ⟨w.heap.size + 1, 1, none⟩ = some (.int .i64 0)
  d2 : wr.cell? ⟨w.heap.size + 1, 2, none⟩ = some (.slice none 0 0)
  d3 : wr.cell? ⟨w.heap.size + 1, 3, none⟩ = some (.string { data := #[] })
  e0 : wr.frozen? ⟨w.heap.size + 1, 0, none⟩ = false
  e1 : wr.frozen? ⟨w.heap.size + 1, 1, none⟩ = false
  e2 : wr.frozen? ⟨w.heap.size + 1, 2, none⟩ = false
  e3 : wr.frozen? ⟨w.heap.size + 1, 3, none⟩ = false
theorem CI.of {w w' : World} {kd tg : Int} {tx : ByteArray} {v : Value} (hg : (((w.alloc (.cells #[.int .u8 kd, .int .i64 tg, v, .string tx] 58)).alloc (.cells #[.int .u8 0, .int .i64 0, .slice none 0 0, .string { data := #[] }] 58)).alloc (.cells #[.int .u8 kd, .int .i64 tg, .slice none 0 0, .string tx] 58)).grownBy w' none) : CI w w' kd tg tx := by
  have hb := (Below.refl _ _).grown hg (Nat.le_refl _) (fun k hk => by cases hk)
  have hs : (((w.alloc (.cells #[.int .u8 kd, .int .i64 tg, v, .string tx] 58)).alloc (.cells #[.int .u8 0, .int .i64 0, .slice none 0 0, .string { data := #[] }] 58)).alloc (.cells #[.int .u8 kd, .int .i64 tg, .slice none 0 0, .string tx] 58)).heap.size = w.heap.size + 3 := by simp
  have h2 : w.heap.size + 1 + 1 < (((w.alloc (.cells #[.int .u8 kd, .int .i64 tg, v, .string tx] 58)).alloc (.cells #[.int .u8 0, .int .i64 0, .slice none 0 0, .string { data := #[] }] 58)).alloc (.cells #[.int .u8 kd, .int .i64 tg, .slice none 0 0, .string tx] 58)).heap.size := by omega
  have h1 : w.heap.size + 1 < (((w.alloc (.cells #[.int .u8 kd, .int .i64 tg, v, .string tx] 58)).alloc (.cells #[.int .u8 0, .int .i64 0, .slice none 0 0, .string { data := #[] }] 58)).alloc (.cells #[.int .u8 kd, .int .i64 tg, .slice none 0 0, .string tx] 58)).heap.size := by omega
  refine ⟨((((Below.refl _ _).alloc (Nat.le_refl _) _).alloc (by simp) _).alloc (by simp; omega) _).trans (hb.mono (by omega)), ?_, ?_, ?_, ?_, ?_, ?_, ?_, ?_, ?_, ?_, ?_, ?_, ?_⟩
  all_goals first | (rw [hb.cell (by first | exact h2 | exact h1)]; simp [go_sem]; done) | (rw [hb.frozen (by first | exact h2 | exact h1)]; simp [go_sem]; done)
theorem _root_.Go.RowKit.Below.sc {B : Nat} {a w : World} (h : Below B a w) {b o : Nat} (hb : B ≤ b) (u : Value) : Below B a (w.setCell ⟨b, o, none⟩ u) := h.setCell hb u
def WC (w : World) (g n : Nat) : Prop := g < w.heap.size ∧ ∀ j, j < 2 * n → (∃ u, w.cell? ⟨g, j, none⟩ = some u) ∧ w.frozen? ⟨g, j, none⟩ = false
theorem WC.set {w : World} {g n : Nat} (h : WC w g n) (a : Addr) (v : Value) : WC (w.setCell a v) g n :=
  ⟨by simpa using h.1, fun j hj => by
    obtain ⟨⟨u, hu⟩, hf⟩ := h.2 j hj
    exact ⟨cell?_setCell_some hu, by rw [World.frozen?_setCell]; exact hf⟩⟩
theorem copy_none {w : World} {kd tg : Int} {tx : ByteArray} {c : Nat} :
    Calls Tryz.prog 159 #[.agg #[.int .u8 kd, .int .i64 tg, .slice none 0 c, .string tx]] w fun e w' => ∃ v, e = .returned (.agg #[.int .u8 kd, .int .i64 tg, v, .string tx]) ∧ Words w' w.heap.size v 0 ∧ Below w.heap.size w w' := by
  go_enter Tryz.func159, Tryz.ntmps159
  go_wp2
  exact bodyPost_ret (v := .agg #[.int .u8 kd, .int .i64 tg, .slice none 0 0, .string tx]) (by simp [results, Tryz.results159, go_sem]) rfl ⟨_, rfl, .inl ⟨rfl, rfl⟩, (((Below.refl _ _).alloc (Nat.le_refl _) _).alloc (by simp) _).alloc (by simp; omega) _⟩
theorem copy_some {w : World} {kd tg : Int} {tx : ByteArray} {p : Addr} {n c : Nat} (hn : n ≤ 8192) (hg : Given w (some p) n) :
    Calls Tryz.prog 159 #[.agg #[.int .u8 kd, .int .i64 tg, .slice (some p) n c, .string tx]] w fun e w' => ∃ v, e = .returned (.agg #[.int .u8 kd, .int .i64 tg, v, .string tx]) ∧ Words w' w.heap.size v n ∧ Below w.heap.size w w' := by
  obtain ⟨i, hi, hi2⟩ := Option.map_eq_some_iff.1 i86s
  have hz1 : i.size = 2 := congrArg Prod.fst hi2
  have hz2 : i.bytes = 16 := congrArg (fun x => x.2.1) hi2
  have hz0 : i.zero = some (.agg #[.int .u8 0, .int .i64 0]) := congrArg (fun x => x.2.2) hi2
  have hx : ∃ x : Nat → Value, ∀ j, j < 2 * n → w.cell? (p.add j) = some (x j) ∧ (x j).oneCell' = true := by
    have : ∀ j, ∃ y : Value, j < 2 * n → w.cell? (p.add j) = some y ∧ y.oneCell' = true := fun j => by
      by_cases h : j < 2 * n
      · obtain ⟨y, hy⟩ := hg.2 p rfl j h
        exact ⟨y, fun _ => hy⟩
      · exact ⟨.nilIface, fun h' => absurd h' h⟩
    exact ⟨fun j => (this j).choose, fun j hj => (this j).choose_spec hj⟩
  obtain ⟨x, hx⟩ := hx
  have hlt : ∀ j, j < 2 * n → (p.add j).block < w.heap.size := fun j hj => by
    rcases Nat.lt_or_ge (p.add j).block w.heap.size with h | h
    · exact h
    · have : w.heap[(p.add j).block]? = none := Array.getElem?_eq_none h
      have := (hx j hj).1
      simp [World.cell?, *] at this
  go_enter Tryz.func159, Tryz.ntmps159
  go_wp2_with (first
    | (at_builtin; refine wpList_append_own _ rfl _ _ 56 rfl w.heap.size 86 i (.agg #[.int .u8 0, .int .i64 0]) 2 16 Tryz.underlying56 hi hz0 hz1 hz2 rfl (by decide) (.slice none 0 0) 0 [] rfl (ownsNil _ _ _ _) p n c ((List.range (2 * n)).map x) rfl (by simp; omega) (news_ok ((((Below.refl _ _).alloc (Nat.le_refl _) _).alloc (by simp) _).alloc (by simp; omega) _) hx hlt) (news_one hx) (by simp only [maxLen]; omega) (by omega) (by simp; omega) ?_; intro v' w' ho hgr hnil
       obtain ⟨hbl, c0, c1, c2, c3, f2, d0, d1, d2, d3, e0, e1, e2, e3⟩ := CI.of hgr
       have hwo := words_of ho
       clear ho hgr hnil
       rcases hwo with ⟨rfl, hn0⟩ | ⟨g, cap, rfl, hg1, hg2, hg3⟩))
  · exact bodyPost_ret (v := .agg #[.int .u8 kd, .int .i64 tg, .slice none 0 0, .string tx]) (by simp [results, Tryz.results159, go_sem, d0, d1, d2, d3]) rfl ⟨_, rfl, .inl ⟨rfl, hn0⟩,
      ((((hbl.sc (by omega) _).sc (by omega) _).sc (by omega) _).sc (by omega) _).sc (by omega) _⟩
  · have hwc := (((((show WC w' g n from ⟨hg2, hg3⟩).set ⟨w.heap.size + 1 + 1, 2, none⟩ (.slice (some ⟨g, 0, none⟩) n cap)).set ⟨w.heap.size + 1, 0, none⟩ (.int .u8 kd)).set ⟨w.heap.size + 1, 1, none⟩ (.int .i64 tg)).set ⟨w.heap.size + 1, 2, none⟩ (.slice (some ⟨g, 0, none⟩) n cap)).set ⟨w.heap.size + 1, 3, none⟩ (.string tx)
    exact bodyPost_ret (v := .agg #[.int .u8 kd, .int .i64 tg, .slice (some ⟨g, 0, none⟩) n cap, .string tx]) (by simp [results, Tryz.results159, go_sem, d0, d1, d2, d3]) rfl ⟨_, rfl, .inr ⟨g, cap, rfl, hg1, hwc.1, hwc.2⟩,
      ((((hbl.sc (by omega) _).sc (by omega) _).sc (by omega) _).sc (by omega) _).sc (by omega) _⟩
theorem copy_calls {w : World} {kd tg : Int} {tx : ByteArray} {a : Option Addr} {n c : Nat} (hn : n ≤ 8192) (hg : Given w a n) :
    Calls Tryz.prog 159 #[.agg #[.int .u8 kd, .int .i64 tg, .slice a n c, .string tx]] w fun e w' => ∃ v, e = .returned (.agg #[.int .u8 kd, .int .i64 tg, v, .string tx]) ∧ Words w' w.heap.size v n ∧ Below w.heap.size w w' := by
  cases a with
  | none => obtain rfl := hg.1 rfl; exact copy_none
  | some p => exact copy_some hn hg
structure TwI (w wr : World) : Prop where
  d0 : wr.cell? ⟨w.heap.size + 1, 0, none⟩ = some (.int .u8 0)
  d1 : wr.cell? ⟨w.heap.size + 1, 1, none⟩ = some (.int .i64 0)
  d2 : wr.cell? ⟨w.heap.size + 1, 2, none⟩ = some (.slice none 0 0)
  d3 : wr.cell? ⟨w.heap.size + 1, 3, none⟩ = some (.string { data := #[] })
  e0 : wr.frozen? ⟨w.heap.size + 1, 0, none⟩ = false
  e1 : wr.frozen? ⟨w.heap.size + 1, 1, none⟩ = false
  e2 : wr.frozen? ⟨w.heap.size + 1, 2, none⟩ = false
  e3 : wr.frozen? ⟨w.heap.size + 1, 3, none⟩ = false
theorem TwI.of {w w' : World} {cs : Array Value} (hb : Below ((w.alloc (.cells cs 58)).alloc (.cells #[.int .u8 0, .int .i64 0, .slice none 0 0, .string { data := #[] }] 58)).heap.size ((w.alloc (.cells cs 58)).alloc (.cells #[.int .u8 0, .int .i64 0, .slice none 0 0, .string { data := #[] }] 58)) w') : TwI w w' := by
  have h1 : w.heap.size + 1 < ((w.alloc (.cells cs 58)).alloc (.cells #[.int .u8 0, .int .i64 0, .slice none 0 0, .string { data := #[] }] 58)).heap.size := by simp
  refine ⟨?_, ?_, ?_, ?_, ?_, ?_, ?_, ?_⟩
  all_goals first | (rw [hb.cell (by exact h1)]; simp [go_sem]; done) | (rw [hb.frozen (by exact h1)]; simp [go_sem]; done)
theorem twin_calls2 {w : World} {kd tg : Int} {tx : ByteArray} {a : Option Addr} {n c : Nat} (hn : n ≤ 8192) (hg : Given w a n) :
    Calls Tryz.prog 82 #[.agg #[.int .u8 kd, .int .i64 tg, .slice a n c, .string tx]] w fun e w' => ∃ v, e = .returned (.agg #[.int .u8 kd, .int .i64 tg, v, .string tx]) ∧ Words w' w.heap.size v n ∧ Below w.heap.size w w' := by
  have hB := ((Below.refl w.heap.size w).alloc (Nat.le_refl _) (.cells #[.int .u8 kd, .int .i64 tg, .slice a n c, .string tx] 58)).alloc (by simp) (.cells #[.int .u8 0, .int .i64 0, .slice none 0 0, .string { data := #[] }] 58)
  go_enter Tryz.func82, Tryz.ntmps82
  go_wp2_with fail
  refine (copy_calls hn (hg.below (B := 0) hB)).mono ?_
  rintro e w1 ⟨v, rfl, hw, hb⟩
  obtain ⟨d0, d1, d2, d3, e0, e1, e2, e3⟩ := TwI.of hb
  have hbl := hB.trans (hb.mono hB.size)
  have hsz : w.heap.size ≤ ((w.alloc (.cells #[.int .u8 kd, .int .i64 tg, .slice a n c, .string tx] 58)).alloc (.cells #[.int .u8 0, .int .i64 0, .slice none 0 0, .string { data := #[] }] 58)).heap.size := hB.size
  clear hb hB
  rcases hw with ⟨rfl, rfl⟩ | ⟨g, cap, rfl, hg1, hg2, hg3⟩
  · go_wp2
    exact bodyPost_ret (v := .agg #[.int .u8 kd, .int .i64 tg, .slice none 0 0, .string tx]) (by simp [results, Tryz.results82, go_sem, d0, d1, d2, d3]) rfl ⟨_, rfl, .inl ⟨rfl, rfl⟩, (((hbl.sc (by omega) _).sc (by omega) _).sc (by omega) _).sc (by omega) _⟩
  · have hwc := ((((show WC w1 g n from ⟨hg2, hg3⟩).set ⟨w.heap.size + 1, 0, none⟩ (.int .u8 kd)).set ⟨w.heap.size + 1, 1, none⟩ (.int .i64 tg)).set ⟨w.heap.size + 1, 2, none⟩ (.slice (some ⟨g, 0, none⟩) n cap)).set ⟨w.heap.size + 1, 3, none⟩ (.string tx)
    have hg4 : w.heap.size ≤ g := Nat.le_trans hsz hg1
    clear hg1 hg2 hg3 hsz
    go_wp2
    exact bodyPost_ret (v := .agg #[.int .u8 kd, .int .i64 tg, .slice (some ⟨g, 0, none⟩) n cap, .string tx]) (by simp [results, Tryz.results82, go_sem, d0, d1, d2, d3]) rfl ⟨_, rfl, .inr ⟨g, cap, rfl, hg4, hwc.1, hwc.2⟩, (((hbl.sc (by omega) _).sc (by omega) _).sc (by omega) _).sc (by omega) _⟩
theorem num_calls (w : World) (x : Int) : Calls Tryz.prog 75 #[.int .i64 x] w fun e w' => e = .returned (.agg #[.int .u8 1, .int .i64 x]) ∧ w' = w.alloc (.cells #[.int .u8 1, .int .i64 x] 86) := by
  go_enter Tryz.func75, Tryz.ntmps75
  go_wp2
  exact bodyPost_ret (v := .agg #[.int .u8 1, .int .i64 x]) (by simp [results, Tryz.results75, go_sem]) rfl ⟨rfl, rfl⟩
theorem spoil_nil {w : World} {kd tg : Int} {tx : ByteArray} : Calls Tryz.prog 83 #[.agg #[.int .u8 kd, .int .i64 tg, .slice none 0 0, .string tx]] w fun e w' => (∃ v, e = .returned v) ∧ Below w.heap.size w w' := by
  go_enter Tryz.func83, Tryz.ntmps83
  go_wp2
  refine wp_loop_rounds 1 ?_
  rw [rounds_succ]
  go_wp2
  go_end0
  exact ⟨⟨_, rfl⟩, (Below.refl _ _).alloc (Nat.le_refl _) _⟩
/-- what holds at each round -/
structure SI (w : World) (base : Nat) (g n cap : Nat) (wr : World) : Prop where
  below : Below base w wr
  wc : WC wr g n
  c2 : wr.cell? ⟨w.heap.size, 2, none⟩ = some (.slice (some ⟨g, 0, none⟩) n cap)
  sz : w.heap.size < wr.heap.size
theorem WC.alloc {w : World} {g n : Nat} (h : WC w g n) (o : Obj) : WC (w.alloc o) g n := by
  have hb := (Below.refl w.heap.size w).alloc (Nat.le_refl _) o
  refine ⟨by simp; have := h.1; omega, fun j hj => ?_⟩
  rw [hb.cell (by exact h.1), hb.frozen (by exact h.1)]
  exact h.2 j hj
theorem SI.set {w wr : World} {base g n cap : Nat} (h : SI w base g n cap wr) (hg : base ≤ g) (hgw : g < w.heap.size) (j : Nat) (v : Value) : SI w base g n cap (wr.setCell ⟨g, j, none⟩ v) :=
  ⟨h.below.sc hg v, h.wc.set _ v, by
    rw [World.cell?_setCell_other _ _ _ _ (fun e => by have := congrArg Addr.block e; simp only at this; omega)]; exact h.c2, by simpa using h.sz⟩
theorem SI.alloc {w wr : World} {base g n cap : Nat} (h : SI w base g n cap wr) (hb : base ≤ w.heap.size) (o : Obj) : SI w base g n cap (wr.alloc o) :=
  ⟨h.below.alloc (by have := h.sz; omega) o, h.wc.alloc o, by
    rw [((Below.refl wr.heap.size wr).alloc (Nat.le_refl _) o).cell (by exact h.sz)]; exact h.c2, by simp; have := h.sz; omega⟩
theorem SI.drew {w wr : World} {base g n cap : Nat} (h : SI w base g n cap wr) : SI w base g n cap wr.drew := ⟨h.below.drew, h.wc, h.c2, h.sz⟩
theorem spoil_some {w : World} {base g cap n : Nat} {kd tg : Int} {tx : ByteArray} (hn : n ≤ 8192) (hg : base ≤ g) (hwc : WC w g n) (hb : base ≤ w.heap.size) :
    Calls Tryz.prog 83 #[.agg #[.int .u8 kd, .int .i64 tg, .slice (some ⟨g, 0, none⟩) n cap, .string tx]] w fun e w' => (∃ v, e = .returned v) ∧ Below base w w' := by
  have h0 : SI w base g n cap (w.alloc (.cells #[.int .u8 kd, .int .i64 tg, .slice (some ⟨g, 0, none⟩) n cap, .string tx] 58)) := by
    refine ⟨(Below.refl _ _).alloc hb _, ⟨by simp; have := hwc.1; omega, fun j hj => ?_⟩, by simp [go_sem], by simp⟩
    have h := ((Below.refl w.heap.size w).alloc (Nat.le_refl _) (.cells #[.int .u8 kd, .int .i64 tg, .slice (some ⟨g, 0, none⟩) n cap, .string tx] 58))
    rw [h.cell (by exact hwc.1), h.frozen (by exact hwc.1)]
    exact hwc.2 j hj
  have hgs := hwc.1
  go_enter Tryz.func83, Tryz.ntmps83
  go_wp2
  go_loopw [2] (fun i wr => ∃ k : Nat, k ≤ n ∧ i = .int .i64 k ∧ SI w base g n cap wr) (fun i _ => n - (intOf i).toNat)
  case atStart => exact ⟨0, Nat.zero_le _, rfl, h0⟩
  case round =>
    obtain ⟨k, hk, rfl, hI⟩ := hrel
    have hc2 := hI.c2
    by_cases hkn : k < n
    · obtain ⟨⟨u0, hu0⟩, hf0⟩ := hI.wc.2 (k * 2) (by omega)
      obtain ⟨⟨u1, hu1⟩, hf1⟩ := hI.wc.2 (k * 2 + 1) (by omega)
      have hgw := hI.wc.1
      have hgne : g ≠ wr.heap.size := by omega
      have hww := hI.sz
      have hwne : w.heap.size ≠ wr.heap.size := by omega
      go_wp2
      go_region_with (go_at_call 75; refine (num_calls _ _).mono ?_; rintro e w' ⟨rfl, rfl⟩)
      all_goals
        go_wp2
        go_roundw
        case rel => exact ⟨k + 1, by omega, by simp, (((hI.set hg hgs _ _).set hg hgs _ _).alloc hb _).drew⟩
        case measure => simp [intOf]; omega
    · obtain rfl : k = n := by omega
      have hbl := hI.below
      go_wp2
      go_end0
      exact ⟨⟨_, rfl⟩, hbl⟩
end Go.Eng
set_option linter.unusedVariables false
set_option linter.unusedSimpArgs false
set_option maxRecDepth 100000
set_option maxHeartbeats 1600000
namespace Go.Eng
open Go.RowKit Go.Proofs
theorem Words.to {w : World} {base : Nat} {v : Value} {n : Nat} (h : Words w base v n) : (v = .slice none 0 0 ∧ n = 0) ∨ ∃ g cap, v = .slice (some ⟨g, 0, none⟩) n cap ∧ base ≤ g ∧ WC w g n := by
  rcases h with h | ⟨g, cap, h1, h2, h3, h4⟩
  · exact .inl h
  · exact .inr ⟨g, cap, h1, h2, h3, h4⟩
theorem Words.slice {w : World} {base : Nat} {v : Value} {n : Nat} (h : Words w base v n) : ∃ a c, v = .slice a n c := by
  rcases h with ⟨rfl, rfl⟩ | ⟨g, cap, rfl, _⟩
  · exact ⟨_, _, rfl⟩
  · exact ⟨_, _, rfl⟩
theorem Words.grow {w w' : World} {base B : Nat} {v : Value} {n : Nat} (h : Words w base v n) (hb : Below B w w') (hB : w.heap.size ≤ B) : Words w' base v n := h.below (hb.mono hB)
theorem Words.set {w : World} {base : Nat} {v : Value} {n : Nat} (h : Words w base v n) (a : Addr) (x : Value) : Words (w.setCell a x) base v n := by
  rcases h with h | ⟨g, cap, h1, h2, h3, h4⟩
  · exact .inl h
  · have := (show WC w g n from ⟨h3, h4⟩).set a x
    exact .inr ⟨g, cap, h1, h2, this.1, this.2⟩
theorem spoil_calls {w : World} {base : Nat} {kd tg : Int} {tx : ByteArray} {v : Value} {n : Nat} (hn : n ≤ 8192) (hw : Words w base v n) (hb : base ≤ w.heap.size) :
    Calls Tryz.prog 83 #[.agg #[.int .u8 kd, .int .i64 tg, v, .string tx]] w fun e w' => (∃ v, e = .returned v) ∧ Below base w w' := by
  rcases hw.to with ⟨rfl, rfl⟩ | ⟨g, cap, rfl, hg, hwc⟩
  · exact spoil_nil.mono fun e w' ⟨h1, h2⟩ => ⟨h1, h2.mono hb⟩
  · exact spoil_some hn hg hwc hb
/-! ## Calls with no store -/
noncomputable def errV : AV := .int .i64 (.ofNat 2)
theorem run74 : isV (.tup [.int .i64 (.ofNat 0), errV]) (c0 74 [.nilPtr, .agg [.opq 0, .opq 1, .opq 2, .opq 3]] h0) = true := by kernel_rfl
theorem run84 : isV errV (c0 84 [.nilPtr, .opq 4, .agg [.opq 0, .opq 1, .opq 2, .opq 3]] h0) = true := by kernel_rfl
theorem enters74 : Enters Tryz.prog 74 := enters_of Tryz.func74 (by kernel_rfl) (by kernel_rfl)
theorem enters84 : Enters Tryz.prog 84 := enters_of Tryz.func84 (by kernel_rfl) (by kernel_rfl)
def Scal (v : Value) : Prop := v.cells = #[v] ∧ ∀ x, v ≠ .tuple x
def opqD (a b c d e : Value) : Nat → Value
  | 0 => a
  | 1 => b
  | 2 => c
  | 3 => d
  | _ => e
theorem opqD_scal {a b c d e : Value} (ha : Scal a) (hb : Scal b) (hc : Scal c) (hd : Scal d) (he : Scal e) : ∀ i, (opqD a b c d e i).cells = #[opqD a b c d e i] ∧ ∀ x, opqD a b c d e i ≠ .tuple x
  | 0 => ha
  | 1 => hb
  | 2 => hc
  | 3 => hd
  | _ + 4 => he
noncomputable def ctxD (w : World) {a b c d e : Value} (ha : Scal a) (hb : Scal b) (hc : Scal c) (hd : Scal d) (he : Scal e) : Ctx :=
  ⟨w.heap.size, w, opqD a b c d e, fun i => (opqD_scal ha hb hc hd he i).1, fun i => (opqD_scal ha hb hc hd he i).2, codesOf Tryz.prog, fun _ => ([], 0)⟩
theorem scal_int (k : IntKind) (x : Int) : Scal (.int k x) := ⟨rfl, fun x h => by cases h⟩
theorem scal_str (x : ByteArray) : Scal (.string x) := ⟨rfl, fun x h => by cases h⟩
theorem scal_sl (a : Option Addr) (n c : Nat) : Scal (.slice a n c) := ⟨rfl, fun x h => by cases h⟩
theorem alloc_nil (w : World) {a b c d : Value} (ha : Scal a) (hb : Scal b) (hc : Scal c) (hd : Scal d) : Calls Tryz.prog 74 #[.pointer none, .agg #[a, b, c, d]] w fun e w' => e = .returned (.tuple #[.int .i64 0, .int .i64 2]) ∧ Below w.heap.size w w' := by
  refine (run_isV (K := ctxD w ha hb hc hd (scal_int .i64 0)) (call0 rfl) enters74 (by decide) rfl rfl (globs_of fun g hg => ⟨1, by simp [hg]⟩) (h0_ok rfl rfl)
    (VRs.cons (x := .nilPtr) rfl (VRs.cons (x := .agg [.opq 0, .opq 1, .opq 2, .opq 3]) ⟨_, rfl, VRs.cons (x := .opq 0) rfl (VRs.cons (x := .opq 1) rfl (VRs.cons (x := .opq 2) rfl (VRs.cons (x := .opq 3) rfl VRs.nil)))⟩ VRs.nil)) run74).mono ?_
  rintro e w' ⟨⟨vc, σ', rfl, h1⟩, hb⟩
  obtain ⟨cs, rfl, x, _, e1, h2, y, _, e2, h3, h4⟩ := h1
  have h4 : _ = [] := h4
  have h2 : x = .int .i64 0 := h2
  have h3 : y = .int .i64 2 := h3
  subst h4 h2 h3 e2
  exact ⟨by obtain ⟨cs⟩ := cs; simp only at e1; subst e1; rfl, hb⟩
theorem update_nil (w : World) {a b c d x : Value} (ha : Scal a) (hb : Scal b) (hc : Scal c) (hd : Scal d) (hx : Scal x) : Calls Tryz.prog 84 #[.pointer none, x, .agg #[a, b, c, d]] w fun e w' => e = .returned (.int .i64 2) ∧ Below w.heap.size w w' := by
  refine (run_isV (K := ctxD w ha hb hc hd hx) (call0 rfl) enters84 (by decide) rfl rfl (globs_of fun g hg => ⟨1, by simp [hg]⟩) (h0_ok rfl rfl)
    (VRs.cons (x := .nilPtr) rfl (VRs.cons (x := .opq 4) rfl (VRs.cons (x := .agg [.opq 0, .opq 1, .opq 2, .opq 3]) ⟨_, rfl, VRs.cons (x := .opq 0) rfl (VRs.cons (x := .opq 1) rfl (VRs.cons (x := .opq 2) rfl (VRs.cons (x := .opq 3) rfl VRs.nil)))⟩ VRs.nil))) run84).mono ?_
  rintro e w' ⟨⟨vc, σ', rfl, h1⟩, hb⟩
  have h1 : vc = .int .i64 2 := h1
  subst h1
  exact ⟨rfl, hb⟩
structure DI2 (w wr : World) (cs : Nat → Value) : Prop where
  below : Below w.heap.size w wr
  c : ∀ i, i < 8 → wr.cell? ⟨w.heap.size + 1 + 1, i, none⟩ = some (cs i)
  f : ∀ i, i < 8 → wr.frozen? ⟨w.heap.size + 1 + 1, i, none⟩ = false
  d : ∀ i, i < 8 → ∃ u, wr.cell? ⟨w.heap.size + 1, i, none⟩ = some u
  e : ∀ i, i < 8 → wr.frozen? ⟨w.heap.size + 1, i, none⟩ = false
  sz : w.heap.size + 3 ≤ wr.heap.size
theorem DI2.grow {w wr w2 : World} {cs : Nat → Value} {B : Nat} (h : DI2 w wr cs) (hb : Below B wr w2) (hB : w.heap.size + 3 ≤ B) : DI2 w w2 cs :=
  ⟨h.below.trans (hb.mono (by omega)), fun i hi => by rw [hb.cell (by show w.heap.size + 1 + 1 < _; omega)]; exact h.c i hi, fun i hi => by rw [hb.frozen (by show w.heap.size + 1 + 1 < _; omega)]; exact h.f i hi,
    fun i hi => by rw [hb.cell (by show w.heap.size + 1 < _; omega)]; exact h.d i hi, fun i hi => by rw [hb.frozen (by show w.heap.size + 1 < _; omega)]; exact h.e i hi, by have := hb.size; have := h.sz; omega⟩
theorem DI2.set {w wr : World} {cs : Nat → Value} (h : DI2 w wr cs) {i : Nat} (hi : i < 8) (x : Value) : DI2 w (wr.setCell ⟨w.heap.size + 1 + 1, i, none⟩ x) (fun j => if j = i then x else cs j) := by
  refine ⟨h.below.sc (by omega) _, fun j hj => ?_, fun j hj => by rw [World.frozen?_setCell]; exact h.f j hj, fun j hj => ?_, fun j hj => by rw [World.frozen?_setCell]; exact h.e j hj, by simpa using h.sz⟩
  · by_cases e : j = i
    · subst e; rw [if_pos rfl]; exact World.cell?_setCell_same _ _ _ (h.c j hj)
    · rw [if_neg e, World.cell?_setCell_other _ _ _ _ (fun h' => e (by have := congrArg Addr.off h'; simpa using this.symm))]; exact h.c j hj
  · obtain ⟨u, hu⟩ := h.d j hj
    exact cell?_setCell_some hu
def zeroT : Nat → Value
  | 0 => .int .i64 0
  | 1 => .int .u8 0
  | 2 => .int .i64 0
  | 3 => .slice none 0 0
  | 4 => .string { data := #[] }
  | 5 => .string { data := #[] }
  | 6 => .bool false
  | _ => .int .i64 0
theorem i65 : (Tryz.prog.info? 65).map (fun i => (i.size, i.zero)) = some (8, some (.agg #[.int .i64 0, .int .u8 0, .int .i64 0, .slice none 0 0, .string { data := #[] }, .string { data := #[] }, .bool false, .int .i64 0])) := by kernel_rfl
theorem cells60 : Tryz.prog.cellsOf 60 = 10 := by kernel_rfl
theorem does_alloc {w : World} {oid torn kd tg : Int} {a : Option Addr} {n c : Nat} {tx nm st : ByteArray} {kp : Value} (hn : n ≤ 8192) (hg : Given w a n) (hkp : Scal kp) :
    Calls Tryz.prog 27 #[.pointer none, .agg #[.int .i64 0, .int .i64 oid, .int .i64 torn, .int .u8 kd, .int .i64 tg, .slice a n c, .string tx, .string nm, .string st, kp]] w fun e w' => e = .returned (.agg #[.int .i64 0, .int .u8 0, .int .i64 0, .slice none 0 0, .string { data := #[] }, .string { data := #[] }, .bool false, .int .i64 2]) ∧ Below w.heap.size w w' := by
  have hB3 := (((Below.refl w.heap.size w).alloc (Nat.le_refl _) (.cells #[.int .i64 0, .int .i64 oid, .int .i64 torn, .int .u8 kd, .int .i64 tg, .slice a n c, .string tx, .string nm, .string st, kp] 60)).alloc (by simp) (.cells #[.int .i64 0, .int .u8 0, .int .i64 0, .slice none 0 0, .string { data := #[] }, .string { data := #[] }, .bool false, .int .i64 0] 65)).alloc (by simp; omega) (.cells #[.int .i64 0, .int .u8 0, .int .i64 0, .slice none 0 0, .string { data := #[] }, .string { data := #[] }, .bool false, .int .i64 0] 65)
  have hI0 : DI2 w (((w.alloc (.cells #[.int .i64 0, .int .i64 oid, .int .i64 torn, .int .u8 kd, .int .i64 tg, .slice a n c, .string tx, .string nm, .string st, kp] 60)).alloc (.cells #[.int .i64 0, .int .u8 0, .int .i64 0, .slice none 0 0, .string { data := #[] }, .string { data := #[] }, .bool false, .int .i64 0] 65)).alloc (.cells #[.int .i64 0, .int .u8 0, .int .i64 0, .slice none 0 0, .string { data := #[] }, .string { data := #[] }, .bool false, .int .i64 0] 65)) zeroT := by
    refine ⟨hB3, fun i hi => ?_, fun i hi => ?_, fun i hi => ?_, fun i hi => ?_, by simp⟩
    all_goals (have hi' : i = 0 ∨ i = 1 ∨ i = 2 ∨ i = 3 ∨ i = 4 ∨ i = 5 ∨ i = 6 ∨ i = 7 := by omega)
    all_goals (rcases hi' with rfl | rfl | rfl | rfl | rfl | rfl | rfl | rfl <;> simp [go_sem, zeroT])
  go_enter Tryz.func27, Tryz.ntmps27
  go_wp2_with fail
  refine (twin_calls2 hn (hg.below (B := 0) hB3)).mono ?_
  rintro e w1 ⟨v, rfl, hw, hb1⟩
  obtain ⟨a', c', rfl⟩ := hw.slice
  have hI1 := hI0.grow hb1 (by simp)
  clear hB3 hI0 hb1
  go_wp2_with fail
  refine (alloc_nil _ (scal_int _ _) (scal_int _ _) (scal_sl _ _ _) (scal_str _)).mono ?_
  rintro e w2 ⟨rfl, hb2⟩
  have hI2 := (hI1.grow ((Below.refl w1.heap.size w1).alloc (Nat.le_refl _) (.cells #[.int .u8 kd, .int .i64 tg, .slice a' n c', .string tx] 58)) hI1.sz).grow hb2 (by simp; have := hI1.sz; omega)
  have hw2 := (hw.grow ((Below.refl w1.heap.size w1).alloc (Nat.le_refl _) (.cells #[.int .u8 kd, .int .i64 tg, .slice a' n c', .string tx] 58)) (Nat.le_refl _)).grow hb2 (Nat.le_refl _)
  have q0 : w2.cell? ⟨w1.heap.size, 0, none⟩ = some (.int .u8 kd) := by rw [hb2.cell (by simp)]; simp [go_sem]
  have q1 : w2.cell? ⟨w1.heap.size, 1, none⟩ = some (.int .i64 tg) := by rw [hb2.cell (by simp)]; simp [go_sem]
  have q2 : w2.cell? ⟨w1.heap.size, 2, none⟩ = some (.slice a' n c') := by rw [hb2.cell (by simp)]; simp [go_sem]
  have q3 : w2.cell? ⟨w1.heap.size, 3, none⟩ = some (.string tx) := by rw [hb2.cell (by simp)]; simp [go_sem]
  have hne : ¬ w1.heap.size = w.heap.size + 1 + 1 := by have := hI1.sz; omega
  have hne' : ¬ w.heap.size + 1 + 1 = w1.heap.size := by omega
  have hI3 := (hI2.set (i := 0) (by omega) (.int .i64 0)).set (i := 7) (by omega) (.int .i64 2)
  have hw3 := (hw2.set ⟨w.heap.size + 1 + 1, 0, none⟩ (.int .i64 0)).set ⟨w.heap.size + 1 + 1, 7, none⟩ (.int .i64 2)
  have c0 := hI2.c 0 (by omega)
  have c7 := hI2.c 7 (by omega)
  have f0 := hI2.f 0 (by omega)
  have f7 := hI2.f 7 (by omega)
  have hs3 := hI3.sz
  simp only [zeroT] at c0 c7
  clear hb2 hw hw2 hI1 hI2
  go_wp2_with fail
  refine (spoil_calls hn hw3 (by simp at hs3 ⊢; omega)).mono ?_
  rintro e w4 ⟨⟨v4, rfl⟩, hb4⟩
  have hI4 := hI3.grow hb4 (by simp)
  have k0 : w4.cell? ⟨w.heap.size + 1 + 1, 0, none⟩ = some (.int .i64 0) := hI4.c 0 (by omega)
  have k1 : w4.cell? ⟨w.heap.size + 1 + 1, 1, none⟩ = some (.int .u8 0) := hI4.c 1 (by omega)
  have k2 : w4.cell? ⟨w.heap.size + 1 + 1, 2, none⟩ = some (.int .i64 0) := hI4.c 2 (by omega)
  have k3 : w4.cell? ⟨w.heap.size + 1 + 1, 3, none⟩ = some (.slice none 0 0) := hI4.c 3 (by omega)
  have k4 : w4.cell? ⟨w.heap.size + 1 + 1, 4, none⟩ = some (.string { data := #[] }) := hI4.c 4 (by omega)
  have k5 : w4.cell? ⟨w.heap.size + 1 + 1, 5, none⟩ = some (.string { data := #[] }) := hI4.c 5 (by omega)
  have k6 : w4.cell? ⟨w.heap.size + 1 + 1, 6, none⟩ = some (.bool false) := hI4.c 6 (by omega)
  have k7 : w4.cell? ⟨w.heap.size + 1 + 1, 7, none⟩ = some (.int .i64 2) := hI4.c 7 (by omega)
  obtain ⟨u0, d0⟩ := hI4.d 0 (by omega)
  obtain ⟨u1, d1⟩ := hI4.d 1 (by omega)
  obtain ⟨u2, d2⟩ := hI4.d 2 (by omega)
  obtain ⟨u3, d3⟩ := hI4.d 3 (by omega)
  obtain ⟨u4, d4⟩ := hI4.d 4 (by omega)
  obtain ⟨u5, d5⟩ := hI4.d 5 (by omega)
  obtain ⟨u6, d6⟩ := hI4.d 6 (by omega)
  obtain ⟨u7, d7⟩ := hI4.d 7 (by omega)
  have e0 := hI4.e 0 (by omega)
  have e1 := hI4.e 1 (by omega)
  have e2 := hI4.e 2 (by omega)
  have e3 := hI4.e 3 (by omega)
  have e4 := hI4.e 4 (by omega)
  have e5 := hI4.e 5 (by omega)
  have e6 := hI4.e 6 (by omega)
  have e7 := hI4.e 7 (by omega)
  have hbl := hI4.below
  clear hI4 hI3 hb4 hw3 c0 c7 f0 f7 q0 q1 q2 q3 hne hne' hs3
  go_wp2
  exact bodyPost_ret (v := .agg #[.int .i64 0, .int .u8 0, .int .i64 0, .slice none 0 0, .string { data := #[] }, .string { data := #[] }, .bool false, .int .i64 2])
    (by simp [results, Tryz.results27, go_sem, d0, d1, d2, d3, d4, d5, d6, d7]) rfl
    ⟨rfl, (((((((hbl.sc (by omega) _).sc (by omega) _).sc (by omega) _).sc (by omega) _).sc (by omega) _).sc (by omega) _).sc (by omega) _).sc (by omega) _⟩
theorem does_update {w : World} {oid torn kd tg : Int} {a : Option Addr} {n c : Nat} {tx nm st : ByteArray} {kp : Value} (hn : n ≤ 8192) (hg : Given w a n) (hkp : Scal kp) :
    Calls Tryz.prog 27 #[.pointer none, .agg #[.int .i64 2, .int .i64 oid, .int .i64 torn, .int .u8 kd, .int .i64 tg, .slice a n c, .string tx, .string nm, .string st, kp]] w fun e w' => e = .returned (.agg #[.int .i64 0, .int .u8 0, .int .i64 0, .slice none 0 0, .string { data := #[] }, .string { data := #[] }, .bool false, .int .i64 2]) ∧ Below w.heap.size w w' := by
  have hB3 := (((Below.refl w.heap.size w).alloc (Nat.le_refl _) (.cells #[.int .i64 2, .int .i64 oid, .int .i64 torn, .int .u8 kd, .int .i64 tg, .slice a n c, .string tx, .string nm, .string st, kp] 60)).alloc (by simp) (.cells #[.int .i64 0, .int .u8 0, .int .i64 0, .slice none 0 0, .string { data := #[] }, .string { data := #[] }, .bool false, .int .i64 0] 65)).alloc (by simp; omega) (.cells #[.int .i64 0, .int .u8 0, .int .i64 0, .slice none 0 0, .string { data := #[] }, .string { data := #[] }, .bool false, .int .i64 0] 65)
  have hI0 : DI2 w (((w.alloc (.cells #[.int .i64 2, .int .i64 oid, .int .i64 torn, .int .u8 kd, .int .i64 tg, .slice a n c, .string tx, .string nm, .string st, kp] 60)).alloc (.cells #[.int .i64 0, .int .u8 0, .int .i64 0, .slice none 0 0, .string { data := #[] }, .string { data := #[] }, .bool false, .int .i64 0] 65)).alloc (.cells #[.int .i64 0, .int .u8 0, .int .i64 0, .slice none 0 0, .string { data := #[] }, .string { data := #[] }, .bool false, .int .i64 0] 65)) zeroT := by
    refine ⟨hB3, fun i hi => ?_, fun i hi => ?_, fun i hi => ?_, fun i hi => ?_, by simp⟩
    all_goals (have hi' : i = 0 ∨ i = 1 ∨ i = 2 ∨ i = 3 ∨ i = 4 ∨ i = 5 ∨ i = 6 ∨ i = 7 := by omega)
    all_goals (rcases hi' with rfl | rfl | rfl | rfl | rfl | rfl | rfl | rfl <;> simp [go_sem, zeroT])
  go_enter Tryz.func27, Tryz.ntmps27
  go_wp2_with fail
  refine (twin_calls2 hn (hg.below (B := 0) hB3)).mono ?_
  rintro e w1 ⟨v, rfl, hw, hb1⟩
  obtain ⟨a', c', rfl⟩ := hw.slice
  have hI1 := hI0.grow hb1 (by simp)
  have hp1 : w1.cell? ⟨w.heap.size, 1, none⟩ = some (.int .i64 oid) := by
    rw [hb1.cell (by show w.heap.size < _; simp; omega)]; simp [go_sem]
  have hlt1 : w.heap.size < w1.heap.size := by have := hI1.sz; omega
  have hne1 : ¬ w.heap.size = w1.heap.size := by omega
  clear hB3 hI0 hb1
  go_wp2_with fail
  refine (update_nil _ (scal_int _ _) (scal_int _ _) (scal_sl _ _ _) (scal_str _) (scal_int _ _)).mono ?_
  rintro e w2 ⟨rfl, hb2⟩
  have hI2 := (hI1.grow ((Below.refl w1.heap.size w1).alloc (Nat.le_refl _) (.cells #[.int .u8 kd, .int .i64 tg, .slice a' n c', .string tx] 58)) hI1.sz).grow hb2 (by simp; have := hI1.sz; omega)
  have hw2 := (hw.grow ((Below.refl w1.heap.size w1).alloc (Nat.le_refl _) (.cells #[.int .u8 kd, .int .i64 tg, .slice a' n c', .string tx] 58)) (Nat.le_refl _)).grow hb2 (Nat.le_refl _)
  have q0 : w2.cell? ⟨w1.heap.size, 0, none⟩ = some (.int .u8 kd) := by rw [hb2.cell (by simp)]; simp [go_sem]
  have q1 : w2.cell? ⟨w1.heap.size, 1, none⟩ = some (.int .i64 tg) := by rw [hb2.cell (by simp)]; simp [go_sem]
  have q2 : w2.cell? ⟨w1.heap.size, 2, none⟩ = some (.slice a' n c') := by rw [hb2.cell (by simp)]; simp [go_sem]
  have q3 : w2.cell? ⟨w1.heap.size, 3, none⟩ = some (.string tx) := by rw [hb2.cell (by simp)]; simp [go_sem]
  have hne : ¬ w1.heap.size = w.heap.size + 1 + 1 := by have := hI1.sz; omega
  have hne' : ¬ w.heap.size + 1 + 1 = w1.heap.size := by omega
  have hI3 := hI2.set (i := 7) (by omega) (.int .i64 2)
  have hw3 := hw2.set ⟨w.heap.size + 1 + 1, 7, none⟩ (.int .i64 2)
  have c7 := hI2.c 7 (by omega)
  have f7 := hI2.f 7 (by omega)
  have hs3 := hI3.sz
  simp only [zeroT] at c7
  clear hb2 hw hw2 hI1 hI2
  go_wp2_with fail
  refine (spoil_calls hn hw3 (by simp at hs3 ⊢; omega)).mono ?_
  rintro e w4 ⟨⟨v4, rfl⟩, hb4⟩
  have hI4 := hI3.grow hb4 (by simp)
  have k0 : w4.cell? ⟨w.heap.size + 1 + 1, 0, none⟩ = some (.int .i64 0) := hI4.c 0 (by omega)
  have k1 : w4.cell? ⟨w.heap.size + 1 + 1, 1, none⟩ = some (.int .u8 0) := hI4.c 1 (by omega)
  have k2 : w4.cell? ⟨w.heap.size + 1 + 1, 2, none⟩ = some (.int .i64 0) := hI4.c 2 (by omega)
  have k3 : w4.cell? ⟨w.heap.size + 1 + 1, 3, none⟩ = some (.slice none 0 0) := hI4.c 3 (by omega)
  have k4 : w4.cell? ⟨w.heap.size + 1 + 1, 4, none⟩ = some (.string { data := #[] }) := hI4.c 4 (by omega)
  have k5 : w4.cell? ⟨w.heap.size + 1 + 1, 5, none⟩ = some (.string { data := #[] }) := hI4.c 5 (by omega)
  have k6 : w4.cell? ⟨w.heap.size + 1 + 1, 6, none⟩ = some (.bool false) := hI4.c 6 (by omega)
  have k7 : w4.cell? ⟨w.heap.size + 1 + 1, 7, none⟩ = some (.int .i64 2) := hI4.c 7 (by omega)
  obtain ⟨u0, d0⟩ := hI4.d 0 (by omega)
  obtain ⟨u1, d1⟩ := hI4.d 1 (by omega)
  obtain ⟨u2, d2⟩ := hI4.d 2 (by omega)
  obtain ⟨u3, d3⟩ := hI4.d 3 (by omega)
  obtain ⟨u4, d4⟩ := hI4.d 4 (by omega)
  obtain ⟨u5, d5⟩ := hI4.d 5 (by omega)
  obtain ⟨u6, d6⟩ := hI4.d 6 (by omega)
  obtain ⟨u7, d7⟩ := hI4.d 7 (by omega)
  have e0 := hI4.e 0 (by omega)
  have e1 := hI4.e 1 (by omega)
  have e2 := hI4.e 2 (by omega)
  have e3 := hI4.e 3 (by omega)
  have e4 := hI4.e 4 (by omega)
  have e5 := hI4.e 5 (by omega)
  have e6 := hI4.e 6 (by omega)
  have e7 := hI4.e 7 (by omega)
  have hbl := hI4.below
  clear hI4 hI3 hb4 hw3 c7 f7 hp1 hlt1 hne1 q0 q1 q2 q3 hne hne' hs3
  go_wp2
  exact bodyPost_ret (v := .agg #[.int .i64 0, .int .u8 0, .int .i64 0, .slice none 0 0, .string { data := #[] }, .string { data := #[] }, .bool false, .int .i64 2])
    (by simp [results, Tryz.results27, go_sem, d0, d1, d2, d3, d4, d5, d6, d7]) rfl
    ⟨rfl, (((((((hbl.sc (by omega) _).sc (by omega) _).sc (by omega) _).sc (by omega) _).sc (by omega) _).sc (by omega) _).sc (by omega) _).sc (by omega) _⟩
end Go.Eng
set_option linter.unusedVariables false
set_option linter.unusedSimpArgs false
set_option maxRecDepth 100000
set_option maxHeartbeats 1600000
namespace Go.Eng
open Go.RowKit Go.Proofs
/-! ## Vast of one Op -/
def vastB (n tx n' nm st : Nat) : Bool := decide (8192 < (if n < 65536 then n else 65536) + (if tx < 131072 then tx else 131072) / 8 + n') || decide (1024 < nm) || decide (1024 < st)
theorem vastB_le {n tx n' nm st : Nat} (h : vastB n tx n' nm st = false) : n ≤ 8192 := by
  unfold vastB at h
  simp only [Bool.or_eq_false_iff, decide_eq_false_iff_not] at h
  have := h.1.1
  split at this <;> split at this <;> omega
def VastP (n tx n' nm st : Nat) (e : Ending) : Prop := e = .returned (.bool (vastB n tx n' nm st))
theorem vastP_of {n tx n' nm st : Nat} {v : Bool} (h : vastB n tx n' nm st = v) : VastP n tx n' nm st (.returned (.bool v)) := by unfold VastP; rw [h]
theorem vast_walk {w : World} {B o : Nat} {c : Nat} {k oid torn kd tg : Int} {a a' : Option Addr} {n c1 n' c2 : Nat} {tx nm st : ByteArray} (h1 : n ≤ 9223372036854775807) (h2 : tx.size ≤ 9223372036854775807) (h3 : n' ≤ 140737488355328) (h4 : nm.size ≤ 9223372036854775807) (h5 : st.size ≤ 9223372036854775807)
    (c0 : w.cell? ⟨B, o, none⟩ = some (.int .i64 k)) (c1' : w.cell? ⟨B, o + 1, none⟩ = some (.int .i64 oid)) (c2' : w.cell? ⟨B, o + 2, none⟩ = some (.int .i64 torn)) (c3 : w.cell? ⟨B, o + 3, none⟩ = some (.int .u8 kd)) (c4 : w.cell? ⟨B, o + 4, none⟩ = some (.int .i64 tg))
    (c5 : w.cell? ⟨B, o + 5, none⟩ = some (.slice a n c1)) (c6 : w.cell? ⟨B, o + 6, none⟩ = some (.string tx)) (c7 : w.cell? ⟨B, o + 7, none⟩ = some (.string nm)) (c8 : w.cell? ⟨B, o + 8, none⟩ = some (.string st)) (c9 : w.cell? ⟨B, o + 9, none⟩ = some (.slice a' n' c2)) :
    Calls Tryz.prog 25 #[.slice (some ⟨B, o, none⟩) 1 c] w fun e w' => VastP n tx.size n' nm.size st.size e ∧ Below w.heap.size w w' := by
  go_enter Tryz.func25, Tryz.ntmps25
  go_wp2
  refine wp_loop_rounds 2 ?_
  rw [rounds_succ]
  go_wp2
  all_goals first
    | (go_ret; exact ⟨vastP_of (by unfold vastB; simp only [Bool.or_eq_true, decide_eq_true_eq]; (repeat' split) <;> omega), (Below.refl _ _).alloc (Nat.le_refl _) _⟩)
    | skip
  rw [rounds_succ]
  go_wp2
  go_ret
  exact ⟨vastP_of (by unfold vastB; simp only [Bool.or_eq_false_iff, decide_eq_false_iff_not]; (repeat' split) <;> omega), (Below.refl _ _).alloc (Nat.le_refl _) _⟩
end Go.Eng
