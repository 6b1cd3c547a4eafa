/- The law GenDeep, walked by hand, and what Check looks at: roots, words of instructions, groups. Each says its own conditions. -/
import Derived.Test.YtbiicdcjecgieaaGreatGenA
set_option linter.unusedVariables false
set_option linter.unusedSimpArgs false
set_option maxRecDepth 100000
set_option maxHeartbeats 4000000
namespace Go.Gen
open Go Go.RowKit Go.Proofs
def zeroCore : List Value := [.int .u8 0, .int .i64 0, .string { data := #[] }, .slice none 0 0]
theorem i25 : (Tryz.prog.info? 25).map (fun i => (i.size, i.bytes, i.zero)) = some (4, 56, some (.agg ⟨zeroCore⟩)) := by kernel_rfl
/-- one kid's cells -/
def kidC (k : Int) : List Value := [.int .u8 1, .int .i64 k, .string { data := #[] }, .slice none 0 0]
theorem kid_one (k : Int) : ∀ u ∈ kidC k, u.oneCell' = true := by simp [kidC, Value.oneCell']
def kidsL : Nat → List Value
  | 0 => []
  | k + 1 => kidsL k ++ kidC k
theorem kidsL_len : ∀ N, (kidsL N).length = N * 4
  | 0 => rfl
  | N + 1 => by simp [kidsL, kidsL_len N, kidC]; omega
theorem kidsL_get (i j : Nat) (hj : j < 4) : ∀ N, i < N → (kidsL N)[i * 4 + j]? = (kidC i)[j]?
  | 0, h => by omega
  | N + 1, h => by
    rw [kidsL]
    rcases Nat.lt_or_ge i N with h' | h'
    · rw [List.getElem?_append_left (by rw [kidsL_len]; omega)]; exact kidsL_get i j hj N h'
    · obtain rfl : i = N := by omega
      rw [List.getElem?_append_right (by rw [kidsL_len]; omega), kidsL_len]
      congr 1; omega
theorem kids_V {w : World} {base g N cap : Nat} (h : w.ownsRow base 25 4 (.slice (some ⟨g, 0, none⟩) N cap) N (kidsL N)) : KidsV w g 0 N := by
  intro i hi
  have a := fun j (hj : j < 4) => (h.cellAt (i * 4 + j) (by omega)).trans (kidsL_get i j hj N hi)
  have e : 0 + i * 4 = i * 4 := by omega
  rw [e]
  exact ⟨a 0 (by decide), a 1 (by decide), a 2 (by decide), a 3 (by decide)⟩
/-- what holds while the law makes its kids -/
def KidsI (W wr : World) (k : Nat) : Prop :=
  Below W.heap.size W wr ∧ ∃ ca cc, wr.heap[W.heap.size]? = some (.cells #[.int .u8 9, .int .i64 0, .string { data := #[] }, .slice ca k cc] 25 (0, 0)) ∧ wr.ownsRow (W.heap.size + 1) 25 4 (.slice ca k cc) k (kidsL k)
/-- what Check is to answer over the one function -/
def CheckOK : Prop := ∀ (B : Nat) (w : World) (q N : Nat) (code' : Value), B ≤ w.heap.size → 2 ≤ N → N ≤ 59000 → w.heap[q]? = some (.cells #[code'] 43 (0, 0)) → w.ownsRow B 50 5 code' (N + 3) (insL N ++ ins 11 N 0 0 { data := #[] } ++ ins 21 0 0 0 { data := #[] } ++ ins 25 0 0 0 { data := #[] }) →
  Calls Tryz.prog 6 #[.agg #[.slice (some ⟨q, 0, none⟩) 1 1, .slice none 0 0]] w fun e w' => e = .returned (.int .i64 0) ∧ Below w.heap.size w w'
theorem gen_ok (HCK : Hid CheckOK) (HWK : Hid (∀ w, Calls Tryz.prog 5 #[] w fun e w' => e = .returned (.bool true) ∧ Below w.heap.size w w')) (many : Nat) (hm : many < 65536) (W : World) : Calls Tryz.prog 3 #[.int .u16 many] W fun e w' => e = .returned (.bool true) ∧ Below W.heap.size W w' := by
  have fin : ∀ {X Y : World}, Below W.heap.size W X → Below X.heap.size X Y → Below W.heap.size W Y := fun h1 h2 => h1.trans (h2.mono h1.size)
  obtain ⟨i, hi, hi2⟩ := Option.map_eq_some_iff.1 i25
  have HI := Lib.hid hi
  have HZ1 := Lib.hid (congrArg Prod.fst hi2 : i.size = 4)
  have HZ2 := Lib.hid (congrArg (fun x => x.2.1) hi2 : i.bytes = 56)
  have HZ0 := Lib.hid (congrArg (fun x => x.2.2) hi2 : i.zero = some (.agg ⟨zeroCore⟩))
  clear hi hi2
  have HS0 : Hid (KidsI W (W.alloc (.cells #[.int .u8 9, .int .i64 0, .string { data := #[] }, .slice none 0 0] 25)) 0) :=
    Lib.hid ⟨(Below.refl _ _).alloc (Nat.le_refl _) _, none, 0, heap_alloc_new W _, World.ownsRow_nil _ _ _ _⟩
  go_enter Tryz.func3, Tryz.ntmps3
  go_wp2
  obtain ⟨N, hN, hNc⟩ : ∃ N : Nat, N = 2 + many % 65000 ∧ (2 + (many : Int) % 65000) = (N : Int) := ⟨_, rfl, by omega⟩
  have hN2 : 2 ≤ N := by omega
  have hN3 : N ≤ 65001 := by omega
  rw [hNc]
  have HNN := Lib.hid hN
  clear hN hNc
  generalize hw1 : (W.alloc (.cells #[.int .u8 9, .int .i64 0, .string { data := #[] }, .slice none 0 0] 25)) = w1 at *
  go_loopw [5] (fun j wr => ∃ k : Nat, k ≤ N ∧ j = .int .i64 k ∧ Hid (KidsI W wr k)) (fun j _ => N - (intOf j).toNat)
  case atStart => exact ⟨0, Nat.zero_le _, rfl, HS0⟩
  case round =>
    obtain ⟨k, hk, rfl, hS⟩ := hrel
    obtain ⟨hB, ca, cc, hbw, hrow⟩ := hS.out
    have t3 : wr.cell? ⟨W.heap.size, 3, none⟩ = some (.slice ca k cc) := by simp [World.cell?, hbw]
    have t0 : wr.cell? ⟨W.heap.size, 0, none⟩ = some (.int .u8 9) := by simp [World.cell?, hbw]
    have t1 : wr.cell? ⟨W.heap.size, 1, none⟩ = some (.int .i64 0) := by simp [World.cell?, hbw]
    have t2 : wr.cell? ⟨W.heap.size, 2, none⟩ = some (.string { data := #[] }) := by simp [World.cell?, hbw]
    have tz : wr.frozen? ⟨W.heap.size, 3, none⟩ = false := by simp [World.frozen?, hbw]
    have hbl := cell_lt t3
    have HB := Lib.hid hB
    have HBW := Lib.hid hbw
    have HROW := Lib.hid hrow
    clear hS hB hbw hrow
    by_cases hlt : k < N
    · have hsz := HB.out.size
      go_wp2_with (at_builtin; refine wpList_append_own _ rfl _ _ 23 rfl (W.heap.size + 1) 25 i (.agg ⟨zeroCore⟩) 4 56 Tryz.underlying23 HI.out HZ0.out HZ1.out HZ2.out rfl (by decide) _ k (kidsL k) rfl (ownsRow_below HROW.out (by repeat (first | exact Below.refl _ _ | refine Below.drew ?_ | refine Below.alloc ?_ (by first | (simp; done) | (simp; omega)) _))) ⟨wr.heap.size, 0, none⟩ 1 1 (kidC k) rfl rfl (cells_new' _ _ _ _ (by rfl)) (kid_one _) (by simp only [maxLen]; omega) (by omega) (by simp; omega) ?_)
      intro v' w' ho hgr hnil
      obtain ⟨g, cap, rfl, hgg, hgl⟩ := row_form ho
      have hbw' : w'.heap[W.heap.size]? = some (.cells #[.int .u8 9, .int .i64 0, .string { data := #[] }, .slice ca k cc] 25 (0, 0)) := keepH (w := wr) (by repeat (first | exact Below.refl _ _ | refine Below.drew ?_ | refine Below.alloc ?_ (by first | (simp; done) | (simp; omega)) _)) hgr HBW.out (by
        rcases HROW.out.2 with ⟨e', _⟩ | ⟨g', cap', cur, e', h4, h5, _⟩
        · cases e'; simp [Value.ownBlock]
        · cases e'; simp [Value.ownBlock]; omega)
      have hB' : Below W.heap.size W w' := (by
        refine Below.grown (w := _) ?_ hgr (by simp; omega) ?_
        · repeat (first | exact HB.out | refine Below.drew ?_ | refine Below.alloc ?_ (by first | omega | (simp; omega)) _)
        · intro q hq
          rcases HROW.out.2 with ⟨e', _⟩ | ⟨g', cap', cur, e', h4, h5, _⟩
          · cases e'; simp [Value.ownBlock] at hq
          · cases e'; simp [Value.ownBlock] at hq; omega)
      have s3 : w'.cell? ⟨W.heap.size, 3, none⟩ = some (.slice ca k cc) := by simp [World.cell?, hbw']
      have sz : w'.frozen? ⟨W.heap.size, 3, none⟩ = false := by simp [World.frozen?, hbw']
      have HN : Hid (KidsI W (w'.setCell ⟨W.heap.size, 3, none⟩ (.slice (some ⟨g, 0, none⟩) (k + 1) cap)) (k + 1)) := Lib.hid ⟨hB'.setCell (Nat.le_refl _) _, _, _, Go.Joins.block_setCell (cs := #[.int .u8 9, .int .i64 0, .string { data := #[] }, .slice ca k cc]) hbw' _, row_setCell ho (by intro e; injection e with e; simp at e; omega)⟩
      clear ho hgr hnil hbw' hB'
      go_wp2
      go_round
      case rel => exact ⟨k + 1, by omega, by simp, HN⟩
      case measure => simp [intOf]; omega
    · obtain rfl : k = N := by omega
      obtain ⟨g, rfl⟩ : ∃ g, ca = some ⟨g, 0, none⟩ := by
        rcases HROW.out.2 with ⟨_, h0⟩ | ⟨g, cap, cur, e, _⟩
        · omega
        · injection e with e1 e2; exact ⟨g, e1⟩
      have HP : Hid (Calls Tryz.prog 4 #[.slice (some ⟨wr.heap.size, 0, none⟩) 1 1] (wr.alloc (.cells #[.int .u8 4, .string { data := #[] }, .string { data := #[] }, .int .u8 9, .int .i64 0, .string { data := #[] }, .slice (some ⟨g, 0, none⟩) k cc] 34)) fun e w' => ProgP (wr.alloc (.cells #[.int .u8 4, .string { data := #[] }, .string { data := #[] }, .int .u8 9, .int .i64 0, .string { data := #[] }, .slice (some ⟨g, 0, none⟩) k cc] 34)) k e w') := Lib.hid (by
        have cn := cells_new wr [.int .u8 4, .string { data := #[] }, .string { data := #[] }, .int .u8 9, .int .i64 0, .string { data := #[] }, .slice (some ⟨g, 0, none⟩) k cc] 34
        exact program_ok (kids_V (ownsRow_below HROW.out ((Below.refl _ _).alloc (Nat.le_refl _) _))) hN3 hN2 (cn 0 _ rfl) (cn 1 _ rfl) (cn 2 _ rfl) (cn 3 _ rfl) (cn 4 _ rfl) (cn 5 _ rfl) (cn 6 _ rfl))
      clear HROW HBW
      go_wp2_with fail
      refine HP.out.mono ?_
      intro e w4 hp
      obtain ⟨hb4, hp⟩ := hp
      have HW4 : Hid (Below W.heap.size W w4) := Lib.hid (fin (HB.out.alloc HB.out.size _) hb4)
      have hsz4 := HW4.out.size
      rcases hp with ⟨hd, rfl⟩ | ⟨hd, q, code', hq, rfl, hqc, hqr⟩
      · have hk6 : 60000 < k := by unfold laid at hd; omega
        have hk59 : ¬ (k : Int) ≤ 60000 := by omega
        have hk59' : 59000 < (k : Int) := by omega
        go_wp2_with fail
        refine (HWK.out _).mono ?_
        rintro e w5 ⟨rfl, hb5⟩
        have HW5 : Hid (Below W.heap.size W w5) := Lib.hid (fin (by repeat (first | exact HW4.out | refine Below.drew ?_ | refine Below.alloc ?_ (by first | omega | (simp; done) | (simp; omega)) _)) hb5)
        clear hb5
        go_wp2
        exact bodyPost_ret (v := .bool true) (by simp [results, Tryz.results3, go_sem]) rfl ⟨rfl, by repeat (first | exact HW5.out | refine Below.drew ?_)⟩
      · have hk6 : ¬ 60000 < (k : Int) := by unfold laid at hd; omega
        by_cases h59 : 59000 < (k : Int)
        · go_wp2_with fail
          refine (HWK.out _).mono ?_
          rintro e w5 ⟨rfl, hb5⟩
          have HW5 : Hid (Below W.heap.size W w5) := Lib.hid (fin (by repeat (first | exact HW4.out | refine Below.drew ?_ | refine Below.alloc ?_ (by first | omega | (simp; done) | (simp; omega)) _)) hb5)
          clear hb5
          go_wp2
          exact bodyPost_ret (v := .bool true) (by simp [results, Tryz.results3, go_sem]) rfl ⟨rfl, by repeat (first | exact HW5.out | refine Below.drew ?_)⟩
        · have HC : Hid (∀ obj, Calls Tryz.prog 6 #[.agg #[.slice (some ⟨q, 0, none⟩) 1 1, .slice none 0 0]] (w4.alloc obj) fun e w' => e = .returned (.int .i64 0) ∧ Below (w4.alloc obj).heap.size (w4.alloc obj) w') := Lib.hid fun obj => HCK.out _ _ q k code' (by have := hb4.size; simp at this ⊢; omega) hN2 (by omega) ((Below.heap_alloc w4 obj q (Array.getElem?_eq_some_iff.1 hqc).1).trans hqc) (ownsRow_below hqr ((Below.refl _ _).alloc (Nat.le_refl _) _))
          clear hqr hqc
          go_wp2_with fail
          refine (HC.out _).mono ?_
          rintro e w5 ⟨rfl, hb5⟩
          have HW5 : Hid (Below W.heap.size W w5) := Lib.hid (fin (HW4.out.alloc HW4.out.size _) hb5)
          have hsz5 := HW5.out.size
          clear hb5
          go_wp2_with fail
          refine (HWK.out _).mono ?_
          rintro e w6 ⟨rfl, hb6⟩
          have HW6 : Hid (Below W.heap.size W w6) := Lib.hid (fin (by repeat (first | exact HW5.out | refine Below.drew ?_ | refine Below.alloc ?_ (by first | omega | (simp; done) | (simp; omega)) _)) hb6)
          clear hb6
          go_wp2
          exact bodyPost_ret (v := .bool true) (by simp [results, Tryz.results3, go_sem]) rfl ⟨rfl, by repeat (first | exact HW6.out | refine Below.drew ?_)⟩
end Go.Gen
set_option linter.unusedVariables false
set_option linter.unusedSimpArgs false
set_option maxRecDepth 100000
set_option maxHeartbeats 4000000
namespace Go.Gen
open Go Go.RowKit Go.Proofs
/-- no roots are well rooted -/
theorem rooted_nil (w : World) : Calls Tryz.prog 10 #[.slice none 0 0] w fun e w' => e = .returned (.bool true) ∧ Below w.heap.size w w' := by
  go_enter Tryz.func10, Tryz.ntmps10
  go_wp2
  refine wp_loop_rounds 1 ?_
  rw [rounds_succ]
  go_wp2
  exact bodyPost_ret (v := .bool true) (by simp [results, Tryz.results10, go_sem]) rfl ⟨rfl, by repeat (first | exact Below.refl _ _ | refine Below.drew ?_)⟩
/-- a number lies within two others -/
theorem within_ok (w : World) (x lo hi : Int) : Calls Tryz.prog 21 #[.int .i64 x, .int .i64 lo, .int .i64 hi] w fun e w' => e = .returned (.bool (decide (lo ≤ x) && decide (x ≤ hi))) ∧ Below w.heap.size w w' := by
  go_enter Tryz.func21, Tryz.ntmps21
  go_wp2
  · rename_i h
    exact bodyPost_ret (v := .bool (decide (x ≤ hi))) (by simp [results, Tryz.results21, go_sem]) rfl ⟨by simp [h], by repeat (first | exact Below.refl _ _ | refine Below.drew ?_)⟩
  · rename_i h
    exact bodyPost_ret (v := .bool false) (by simp [results, Tryz.results21, go_sem]) rfl ⟨by rw [decide_eq_false (show ¬ lo ≤ x by omega), Bool.false_and], by repeat (first | exact Below.refl _ _ | refine Below.drew ?_)⟩
/-- an instruction's words are in order: a number, and one of the three ends -/
theorem operands_int {B : Nat} {w : World} {q : Nat} {a : Option Addr} {n cap : Nat} (hq : w.cell? ⟨q, 0, none⟩ = some (.slice a n cap)) (k : Nat) (hk : k < 65001) :
    Calls Tryz.prog 11 #[.agg #[.slice (some ⟨q, 0, none⟩) 1 1, .slice none 0 0], .int .i64 0, .agg #[.int .u8 1, .int .i64 k, .int .i64 0, .int .i64 0, .string { data := #[] }]] w fun e w' => e = .returned (.bool true) ∧ Below w.heap.size w w' := by
  have hql := cell_lt hq
  have cn := cells_new' (w.alloc (.cells #[.slice (some ⟨q, 0, none⟩) 1 1, .slice none 0 0] 29)) [.int .u8 1, .int .i64 k, .int .i64 0, .int .i64 0, .string { data := #[] }] 50 (w.heap.size + 1) (by simp)
  have hs : ((w.alloc (.cells #[.slice (some ⟨q, 0, none⟩) 1 1, .slice none 0 0] 29)).alloc (.cells #[.int .u8 1, .int .i64 k, .int .i64 0, .int .i64 0, .string { data := #[] }] 50)).heap.size = w.heap.size + 2 := by simp
  have hb1 : Below w.heap.size w ((w.alloc (.cells #[.slice (some ⟨q, 0, none⟩) 1 1, .slice none 0 0] 29)).alloc (.cells #[.int .u8 1, .int .i64 k, .int .i64 0, .int .i64 0, .string { data := #[] }] 50)) := ((Below.refl _ _).alloc (Nat.le_refl _) _).alloc (by simp) _
  have CN := Lib.hid cn
  have HB1 := Lib.hid hb1
  clear cn hb1
  go_enter Tryz.func11, Tryz.ntmps11
  go_wp2_with fail
  generalize hw1 : ((w.alloc (.cells #[.slice (some ⟨q, 0, none⟩) 1 1, .slice none 0 0] 29)).alloc (.cells #[.int .u8 1, .int .i64 k, .int .i64 0, .int .i64 0, .string { data := #[] }] 50)) = w1 at *
  refine (within_ok _ _ _ _).mono ?_
  rintro e w2 ⟨rfl, h2⟩
  rw [decide_eq_true (show (-4611686018427387904 : Int) ≤ k by omega), decide_eq_true (show (k : Int) ≤ 4611686018427387903 by omega), Bool.and_self]
  have b2 : w2.cell? ⟨w.heap.size + 1, 2, none⟩ = some (.int .i64 0) := (h2.cell (p := ⟨w.heap.size + 1, 2, none⟩) (by simp; omega)).trans (CN.out 2 _ rfl)
  go_wp2_with fail
  refine (within_ok _ _ _ _).mono ?_
  rintro e w3 ⟨rfl, h3⟩
  have hz2 := h2.size
  have b3 : w3.cell? ⟨w.heap.size + 1, 3, none⟩ = some (.int .i64 0) := (h3.cell (p := ⟨w.heap.size + 1, 3, none⟩) (by simp; omega)).trans ((h2.cell (p := ⟨w.heap.size + 1, 3, none⟩) (by simp; omega)).trans (CN.out 3 _ rfl))
  go_wp2_with fail
  refine (within_ok _ _ _ _).mono ?_
  rintro e w4 ⟨rfl, h4⟩
  have hz3 := h3.size
  have b4 : w4.cell? ⟨w.heap.size + 1, 4, none⟩ = some (.string { data := #[] }) := (h4.cell (p := ⟨w.heap.size + 1, 4, none⟩) (by simp; omega)).trans ((h3.cell (p := ⟨w.heap.size + 1, 4, none⟩) (by simp; omega)).trans ((h2.cell (p := ⟨w.heap.size + 1, 4, none⟩) (by simp; omega)).trans (CN.out 4 _ rfl)))
  have hz4 := h4.size
  have HB4 : Hid (Below w.heap.size w w4) := Lib.hid (((HB1.out.trans (h2.mono (by omega))).trans (h3.mono (by omega))).trans (h4.mono (by omega)))
  go_wp2_with fail
  exact bodyPost_ret (v := .bool true) (by simp [results, Tryz.results11, go_sem]) rfl ⟨rfl, by repeat (first | exact HB4.out | refine Below.drew ?_)⟩
theorem operands_tuple {B : Nat} {w : World} {q : Nat} {a : Option Addr} {n cap : Nat} (hq : w.cell? ⟨q, 0, none⟩ = some (.slice a n cap)) (k : Nat) (hk : k < 65001) (h2 : 2 ≤ k) :
    Calls Tryz.prog 11 #[.agg #[.slice (some ⟨q, 0, none⟩) 1 1, .slice none 0 0], .int .i64 0, .agg #[.int .u8 11, .int .i64 k, .int .i64 0, .int .i64 0, .string { data := #[] }]] w fun e w' => e = .returned (.bool true) ∧ Below w.heap.size w w' := by
  have hql := cell_lt hq
  have cn := cells_new' (w.alloc (.cells #[.slice (some ⟨q, 0, none⟩) 1 1, .slice none 0 0] 29)) [.int .u8 11, .int .i64 k, .int .i64 0, .int .i64 0, .string { data := #[] }] 50 (w.heap.size + 1) (by simp)
  have hs : ((w.alloc (.cells #[.slice (some ⟨q, 0, none⟩) 1 1, .slice none 0 0] 29)).alloc (.cells #[.int .u8 11, .int .i64 k, .int .i64 0, .int .i64 0, .string { data := #[] }] 50)).heap.size = w.heap.size + 2 := by simp
  have hb1 : Below w.heap.size w ((w.alloc (.cells #[.slice (some ⟨q, 0, none⟩) 1 1, .slice none 0 0] 29)).alloc (.cells #[.int .u8 11, .int .i64 k, .int .i64 0, .int .i64 0, .string { data := #[] }] 50)) := ((Below.refl _ _).alloc (Nat.le_refl _) _).alloc (by simp) _
  have CN := Lib.hid cn
  have HB1 := Lib.hid hb1
  clear cn hb1
  go_enter Tryz.func11, Tryz.ntmps11
  go_wp2_with fail
  generalize hw1 : ((w.alloc (.cells #[.slice (some ⟨q, 0, none⟩) 1 1, .slice none 0 0] 29)).alloc (.cells #[.int .u8 11, .int .i64 k, .int .i64 0, .int .i64 0, .string { data := #[] }] 50)) = w1 at *
  refine (within_ok _ _ _ _).mono ?_
  rintro e w2 ⟨rfl, h2⟩
  rw [decide_eq_true (show (2 : Int) ≤ k by omega), decide_eq_true (show (k : Int) ≤ 65535 by omega), Bool.and_self]
  have b2 : w2.cell? ⟨w.heap.size + 1, 2, none⟩ = some (.int .i64 0) := (h2.cell (p := ⟨w.heap.size + 1, 2, none⟩) (by simp; omega)).trans (CN.out 2 _ rfl)
  go_wp2_with fail
  refine (within_ok _ _ _ _).mono ?_
  rintro e w3 ⟨rfl, h3⟩
  have hz2 := h2.size
  have b3 : w3.cell? ⟨w.heap.size + 1, 3, none⟩ = some (.int .i64 0) := (h3.cell (p := ⟨w.heap.size + 1, 3, none⟩) (by simp; omega)).trans ((h2.cell (p := ⟨w.heap.size + 1, 3, none⟩) (by simp; omega)).trans (CN.out 3 _ rfl))
  go_wp2_with fail
  refine (within_ok _ _ _ _).mono ?_
  rintro e w4 ⟨rfl, h4⟩
  have hz3 := h3.size
  have b4 : w4.cell? ⟨w.heap.size + 1, 4, none⟩ = some (.string { data := #[] }) := (h4.cell (p := ⟨w.heap.size + 1, 4, none⟩) (by simp; omega)).trans ((h3.cell (p := ⟨w.heap.size + 1, 4, none⟩) (by simp; omega)).trans ((h2.cell (p := ⟨w.heap.size + 1, 4, none⟩) (by simp; omega)).trans (CN.out 4 _ rfl)))
  have hz4 := h4.size
  have HB4 : Hid (Below w.heap.size w w4) := Lib.hid (((HB1.out.trans (h2.mono (by omega))).trans (h3.mono (by omega))).trans (h4.mono (by omega)))
  go_wp2_with fail
  exact bodyPost_ret (v := .bool true) (by simp [results, Tryz.results11, go_sem]) rfl ⟨rfl, by repeat (first | exact HB4.out | refine Below.drew ?_)⟩
theorem operands_pop {B : Nat} {w : World} {q : Nat} {a : Option Addr} {n cap : Nat} (hq : w.cell? ⟨q, 0, none⟩ = some (.slice a n cap))  :
    Calls Tryz.prog 11 #[.agg #[.slice (some ⟨q, 0, none⟩) 1 1, .slice none 0 0], .int .i64 0, .agg #[.int .u8 21, .int .i64 0, .int .i64 0, .int .i64 0, .string { data := #[] }]] w fun e w' => e = .returned (.bool true) ∧ Below w.heap.size w w' := by
  have hql := cell_lt hq
  have cn := cells_new' (w.alloc (.cells #[.slice (some ⟨q, 0, none⟩) 1 1, .slice none 0 0] 29)) [.int .u8 21, .int .i64 0, .int .i64 0, .int .i64 0, .string { data := #[] }] 50 (w.heap.size + 1) (by simp)
  have hs : ((w.alloc (.cells #[.slice (some ⟨q, 0, none⟩) 1 1, .slice none 0 0] 29)).alloc (.cells #[.int .u8 21, .int .i64 0, .int .i64 0, .int .i64 0, .string { data := #[] }] 50)).heap.size = w.heap.size + 2 := by simp
  have hb1 : Below w.heap.size w ((w.alloc (.cells #[.slice (some ⟨q, 0, none⟩) 1 1, .slice none 0 0] 29)).alloc (.cells #[.int .u8 21, .int .i64 0, .int .i64 0, .int .i64 0, .string { data := #[] }] 50)) := ((Below.refl _ _).alloc (Nat.le_refl _) _).alloc (by simp) _
  have CN := Lib.hid cn
  have HB1 := Lib.hid hb1
  clear cn hb1
  go_enter Tryz.func11, Tryz.ntmps11
  go_wp2_with fail
  generalize hw1 : ((w.alloc (.cells #[.slice (some ⟨q, 0, none⟩) 1 1, .slice none 0 0] 29)).alloc (.cells #[.int .u8 21, .int .i64 0, .int .i64 0, .int .i64 0, .string { data := #[] }] 50)) = w1 at *
  refine (within_ok _ _ _ _).mono ?_
  rintro e w2 ⟨rfl, h2⟩
  have b2 : w2.cell? ⟨w.heap.size + 1, 2, none⟩ = some (.int .i64 0) := (h2.cell (p := ⟨w.heap.size + 1, 2, none⟩) (by simp; omega)).trans (CN.out 2 _ rfl)
  go_wp2_with fail
  refine (within_ok _ _ _ _).mono ?_
  rintro e w3 ⟨rfl, h3⟩
  have hz2 := h2.size
  have b3 : w3.cell? ⟨w.heap.size + 1, 3, none⟩ = some (.int .i64 0) := (h3.cell (p := ⟨w.heap.size + 1, 3, none⟩) (by simp; omega)).trans ((h2.cell (p := ⟨w.heap.size + 1, 3, none⟩) (by simp; omega)).trans (CN.out 3 _ rfl))
  go_wp2_with fail
  refine (within_ok _ _ _ _).mono ?_
  rintro e w4 ⟨rfl, h4⟩
  have hz3 := h3.size
  have b4 : w4.cell? ⟨w.heap.size + 1, 4, none⟩ = some (.string { data := #[] }) := (h4.cell (p := ⟨w.heap.size + 1, 4, none⟩) (by simp; omega)).trans ((h3.cell (p := ⟨w.heap.size + 1, 4, none⟩) (by simp; omega)).trans ((h2.cell (p := ⟨w.heap.size + 1, 4, none⟩) (by simp; omega)).trans (CN.out 4 _ rfl)))
  have hz4 := h4.size
  have HB4 : Hid (Below w.heap.size w w4) := Lib.hid (((HB1.out.trans (h2.mono (by omega))).trans (h3.mono (by omega))).trans (h4.mono (by omega)))
  go_wp2_with fail
  exact bodyPost_ret (v := .bool true) (by simp [results, Tryz.results11, go_sem]) rfl ⟨rfl, by repeat (first | exact HB4.out | refine Below.drew ?_)⟩
theorem operands_halt {B : Nat} {w : World} {q : Nat} {a : Option Addr} {n cap : Nat} (hq : w.cell? ⟨q, 0, none⟩ = some (.slice a n cap))  :
    Calls Tryz.prog 11 #[.agg #[.slice (some ⟨q, 0, none⟩) 1 1, .slice none 0 0], .int .i64 0, .agg #[.int .u8 25, .int .i64 0, .int .i64 0, .int .i64 0, .string { data := #[] }]] w fun e w' => e = .returned (.bool true) ∧ Below w.heap.size w w' := by
  have hql := cell_lt hq
  have cn := cells_new' (w.alloc (.cells #[.slice (some ⟨q, 0, none⟩) 1 1, .slice none 0 0] 29)) [.int .u8 25, .int .i64 0, .int .i64 0, .int .i64 0, .string { data := #[] }] 50 (w.heap.size + 1) (by simp)
  have hs : ((w.alloc (.cells #[.slice (some ⟨q, 0, none⟩) 1 1, .slice none 0 0] 29)).alloc (.cells #[.int .u8 25, .int .i64 0, .int .i64 0, .int .i64 0, .string { data := #[] }] 50)).heap.size = w.heap.size + 2 := by simp
  have hb1 : Below w.heap.size w ((w.alloc (.cells #[.slice (some ⟨q, 0, none⟩) 1 1, .slice none 0 0] 29)).alloc (.cells #[.int .u8 25, .int .i64 0, .int .i64 0, .int .i64 0, .string { data := #[] }] 50)) := ((Below.refl _ _).alloc (Nat.le_refl _) _).alloc (by simp) _
  have CN := Lib.hid cn
  have HB1 := Lib.hid hb1
  clear cn hb1
  go_enter Tryz.func11, Tryz.ntmps11
  go_wp2_with fail
  generalize hw1 : ((w.alloc (.cells #[.slice (some ⟨q, 0, none⟩) 1 1, .slice none 0 0] 29)).alloc (.cells #[.int .u8 25, .int .i64 0, .int .i64 0, .int .i64 0, .string { data := #[] }] 50)) = w1 at *
  refine (within_ok _ _ _ _).mono ?_
  rintro e w2 ⟨rfl, h2⟩
  have b2 : w2.cell? ⟨w.heap.size + 1, 2, none⟩ = some (.int .i64 0) := (h2.cell (p := ⟨w.heap.size + 1, 2, none⟩) (by simp; omega)).trans (CN.out 2 _ rfl)
  go_wp2_with fail
  refine (within_ok _ _ _ _).mono ?_
  rintro e w3 ⟨rfl, h3⟩
  have hz2 := h2.size
  have b3 : w3.cell? ⟨w.heap.size + 1, 3, none⟩ = some (.int .i64 0) := (h3.cell (p := ⟨w.heap.size + 1, 3, none⟩) (by simp; omega)).trans ((h2.cell (p := ⟨w.heap.size + 1, 3, none⟩) (by simp; omega)).trans (CN.out 3 _ rfl))
  go_wp2_with fail
  refine (within_ok _ _ _ _).mono ?_
  rintro e w4 ⟨rfl, h4⟩
  have hz3 := h3.size
  have b4 : w4.cell? ⟨w.heap.size + 1, 4, none⟩ = some (.string { data := #[] }) := (h4.cell (p := ⟨w.heap.size + 1, 4, none⟩) (by simp; omega)).trans ((h3.cell (p := ⟨w.heap.size + 1, 4, none⟩) (by simp; omega)).trans ((h2.cell (p := ⟨w.heap.size + 1, 4, none⟩) (by simp; omega)).trans (CN.out 4 _ rfl)))
  have hz4 := h4.size
  have HB4 : Hid (Below w.heap.size w w4) := Lib.hid (((HB1.out.trans (h2.mono (by omega))).trans (h3.mono (by omega))).trans (h4.mono (by omega)))
  go_wp2_with fail
  exact bodyPost_ret (v := .bool true) (by simp [results, Tryz.results11, go_sem]) rfl ⟨rfl, by repeat (first | exact HB4.out | refine Below.drew ?_)⟩
end Go.Gen
set_option linter.unusedVariables false
set_option linter.unusedSimpArgs false
set_option maxRecDepth 100000
namespace Go.Gen
open Go Go.RowKit Go.Proofs
/-- the one function's cells -/
def progL (N : Nat) : List Value := insL N ++ ins 11 N 0 0 { data := #[] } ++ ins 21 0 0 0 { data := #[] } ++ ins 25 0 0 0 { data := #[] }
/-- its instruction at a place -/
def insAt (N i : Nat) : List Value :=
  if i < N then ins 1 i 0 0 { data := #[] } else if i = N then ins 11 N 0 0 { data := #[] } else if i = N + 1 then ins 21 0 0 0 { data := #[] } else ins 25 0 0 0 { data := #[] }
theorem insL_len' : ∀ N, (insL N).length = N * 5
  | 0 => rfl
  | N + 1 => by simp [insL, insL_len' N, ins]; omega
theorem insL_get (i j : Nat) (hj : j < 5) : ∀ N, i < N → (insL N)[i * 5 + j]? = (ins 1 i 0 0 { data := #[] })[j]?
  | 0, h => by omega
  | N + 1, h => by
    rw [insL]
    rcases Nat.lt_or_ge i N with h' | h'
    · rw [List.getElem?_append_left (by rw [insL_len']; omega)]; exact insL_get i j hj N h'
    · obtain rfl : i = N := by omega
      rw [List.getElem?_append_right (by rw [insL_len']; omega), insL_len']
      congr 1; omega
theorem prog_get (N i j : Nat) (hj : j < 5) (hi : i < N + 3) : (progL N)[i * 5 + j]? = (insAt N i)[j]? := by
  unfold progL insAt
  have l1 := insL_len' N
  by_cases h1 : i < N
  · rw [if_pos h1, List.getElem?_append_left (by simp [l1, ins]; omega), List.getElem?_append_left (by simp [l1, ins]; omega), List.getElem?_append_left (by simp [l1]; omega)]
    exact insL_get i j hj N h1
  · rw [if_neg h1]
    by_cases h2 : i = N
    · rw [if_pos h2, List.getElem?_append_left (by simp [l1, ins]; omega), List.getElem?_append_left (by simp [l1, ins]; omega), List.getElem?_append_right (by simp [l1]; omega)]
      congr 1; omega
    · rw [if_neg h2]
      by_cases h3 : i = N + 1
      · rw [if_pos h3, List.getElem?_append_left (by simp [l1, ins]; omega), List.getElem?_append_right (by simp [l1, ins]; omega)]
        congr 1; simp [l1, ins]; omega
      · rw [if_neg h3, List.getElem?_append_right (by simp [l1, ins]; omega)]
        congr 1; simp [l1, ins]; omega
/-- every instruction's words are in order -/
theorem operands_at {w : World} {q : Nat} {a : Option Addr} {n cap : Nat} (hq : w.cell? ⟨q, 0, none⟩ = some (.slice a n cap)) (N i : Nat) (h2 : 2 ≤ N) (hN : N ≤ 59000) (hi : i < N + 3) :
    Calls Tryz.prog 11 #[.agg #[.slice (some ⟨q, 0, none⟩) 1 1, .slice none 0 0], .int .i64 0, .agg ⟨insAt N i⟩] w fun e w' => e = .returned (.bool true) ∧ Below w.heap.size w w' := by
  unfold insAt
  split
  · exact operands_int (B := 0) hq i (by omega)
  · split
    · exact operands_tuple (B := 0) hq N (by omega) h2
    · split
      · exact operands_pop (B := 0) hq
      · exact operands_halt (B := 0) hq
end Go.Gen
set_option linter.unusedVariables false
set_option linter.unusedSimpArgs false
set_option maxRecDepth 100000
set_option maxHeartbeats 4000000
namespace Go.Gen
open Go Go.RowKit Go.Proofs
theorem i59 : (Tryz.prog.info? 59).map (fun i => (i.size, i.bytes, i.zero)) = some (3, 24, some (.agg #[.int .i64 0, .int .i64 0, .int .i64 0])) := by kernel_rfl
theorem made3 : madeCells (Value.agg #[.int .i64 0, .int .i64 0, .int .i64 0]).cells (Int.toNat 1 * 3) = #[.int .i64 0, .int .i64 0, .int .i64 0] := by kernel_rfl
theorem mk54 (w : World) : (Instr.makeSlice 54 (.int .i64 1) (.int .i64 1)).run Tryz.prog w = .ok (.slice (some ⟨w.heap.size, 0, none⟩) 1 1) (w.alloc (.cells #[.int .i64 0, .int .i64 0, .int .i64 0] 59)) := by
  obtain ⟨i, hi, hi2⟩ := Option.map_eq_some_iff.1 i59
  injection hi2 with h1 h2
  injection h2 with h2 h3
  have := run_makeSlice (P := Tryz.prog) w 54 59 i (.agg #[.int .i64 0, .int .i64 0, .int .i64 0]) Tryz.underlying54 hi h3 .i64 .i64 1 1 (by decide) (by decide) (by rw [h1]; decide) (by rw [h2]; decide) (by decide)
  rw [this, h1, made3]; rfl
attribute [local simp] mk54
/-- an instruction in play, cell by cell -/
theorem ins_cells {w : World} {B g N cap i : Nat} (hr : w.ownsRow B 50 5 (.slice (some ⟨g, 0, none⟩) (N + 3) cap) (N + 3) (progL N)) (hi : i < N + 3) :
    ∃ op a : Int, insAt N i = ins op a 0 0 { data := #[] } ∧ (op = 1 ∨ op = 11 ∨ op = 21 ∨ op = 25) ∧ w.cell? ⟨g, i * 5, none⟩ = some (.int .u8 op) ∧ w.cell? ⟨g, i * 5 + 1, none⟩ = some (.int .i64 a) ∧ w.cell? ⟨g, i * 5 + 2, none⟩ = some (.int .i64 0) ∧ w.cell? ⟨g, i * 5 + 3, none⟩ = some (.int .i64 0) ∧ w.cell? ⟨g, i * 5 + 4, none⟩ = some (.string { data := #[] }) := by
  have h : ∃ op a : Int, insAt N i = ins op a 0 0 { data := #[] } ∧ (op = 1 ∨ op = 11 ∨ op = 21 ∨ op = 25) := by
    unfold insAt
    split
    · exact ⟨1, i, rfl, .inl rfl⟩
    · split
      · exact ⟨11, N, rfl, .inr (.inl rfl)⟩
      · split
        · exact ⟨21, 0, rfl, .inr (.inr (.inl rfl))⟩
        · exact ⟨25, 0, rfl, .inr (.inr (.inr rfl))⟩
  obtain ⟨op, a, e, ho⟩ := h
  have c := fun j (hj : j < 5) => (hr.cellAt (i * 5 + j) (by omega)).trans (prog_get N i j hj hi)
  rw [e] at c
  exact ⟨op, a, e, ho, c 0 (by decide), c 1 (by decide), c 2 (by decide), c 3 (by decide), c 4 (by decide)⟩
/-- what the groups' making answers -/
def GroupsP (w : World) (e : Ending) (w' : World) : Prop :=
  Below w.heap.size w w' ∧ ∃ gb, w.heap.size ≤ gb ∧ e = .returned (.tuple #[.slice (some ⟨gb, 0, none⟩) 1 1, .bool true]) ∧ w'.heap[gb]? = some (.cells #[.int .i64 0, .int .i64 0, .int .i64 0] 59 (0, 0))
theorem groups_ok {B : Nat} {w : World} {q N : Nat} {code' : Value} (hB : B ≤ w.heap.size) (h2 : 2 ≤ N) (hN : N ≤ 59000) (hq : w.heap[q]? = some (.cells #[code'] 43 (0, 0))) (hr : w.ownsRow B 50 5 code' (N + 3) (progL N)) :
    Calls Tryz.prog 12 #[.agg #[.slice (some ⟨q, 0, none⟩) 1 1, .slice none 0 0]] w fun e w' => GroupsP w e w' := by
  obtain ⟨g, cap, rfl, hBg, hgl⟩ := row_form hr
  have hql := (Array.getElem?_eq_some_iff.1 hq).1
  have hW : Below w.heap.size w ((w.alloc (.cells #[.slice (some ⟨q, 0, none⟩) 1 1, .slice none 0 0] 29)).alloc (.cells #[.int .i64 0, .int .i64 0, .int .i64 0] 59)) := ((Below.refl _ _).alloc (Nat.le_refl _) _).alloc (by simp) _
  have hb0 : ((w.alloc (.cells #[.slice (some ⟨q, 0, none⟩) 1 1, .slice none 0 0] 29)).alloc (.cells #[.int .i64 0, .int .i64 0, .int .i64 0] 59)).heap[w.heap.size]? = some (.cells #[.slice (some ⟨q, 0, none⟩) 1 1, .slice none 0 0] 29 (0, 0)) := (Below.heap_alloc _ _ _ (by simp)).trans (heap_alloc_new _ _)
  have hb1 : ((w.alloc (.cells #[.slice (some ⟨q, 0, none⟩) 1 1, .slice none 0 0] 29)).alloc (.cells #[.int .i64 0, .int .i64 0, .int .i64 0] 59)).heap[w.heap.size + 1]? = some (.cells #[.int .i64 0, .int .i64 0, .int .i64 0] 59 (0, 0)) := by
    have := heap_alloc_new (w.alloc (.cells #[.slice (some ⟨q, 0, none⟩) 1 1, .slice none 0 0] 29)) (.cells #[.int .i64 0, .int .i64 0, .int .i64 0] 59)
    simpa using this
  have hs1 : ((w.alloc (.cells #[.slice (some ⟨q, 0, none⟩) 1 1, .slice none 0 0] 29)).alloc (.cells #[.int .i64 0, .int .i64 0, .int .i64 0] 59)).heap.size = w.heap.size + 2 := by simp
  have HW := Lib.hid hW
  have HB0 := Lib.hid hb0
  have HB1 := Lib.hid hb1
  have HQ := Lib.hid hq
  have HR := Lib.hid hr
  have q0 : w.cell? ⟨q, 0, none⟩ = some (.slice (some ⟨g, 0, none⟩) (N + 3) cap) := by simp [World.cell?, hq]
  clear hW hb0 hb1 hq hr
  go_enter Tryz.func12, Tryz.ntmps12
  go_wp2
  refine wp_loop_rounds 2 ?_
  rw [rounds_succ]
  go_wp2
  generalize hw1 : ((w.alloc (.cells #[.slice (some ⟨q, 0, none⟩) 1 1, .slice none 0 0] 29)).alloc (.cells #[.int .i64 0, .int .i64 0, .int .i64 0] 59)) = w1 at *
  go_loopw [6] (fun j wr => ∃ k : Nat, k ≤ N + 3 ∧ j = .int .i64 k ∧ Hid (Below w1.heap.size w1 wr)) (fun j _ => N + 3 - (intOf j).toNat)
  case atStart => exact ⟨0, Nat.zero_le _, rfl, Lib.hid (Below.refl _ _)⟩
  case round =>
    obtain ⟨k, hk, rfl, hS⟩ := hrel
    have hbw : wr.heap[w.heap.size]? = _ := (hS.out.block _ (by omega)).trans HB0.out
    have t0 : wr.cell? ⟨w.heap.size, 0, none⟩ = some (.slice (some ⟨q, 0, none⟩) 1 1) := by simp [World.cell?, hbw]
    have hww : Below w.heap.size w wr := HW.out.trans (hS.out.mono (by omega))
    have q0' : wr.cell? ⟨q, 0, none⟩ = some (.slice (some ⟨g, 0, none⟩) (N + 3) cap) := (hww.cell (p := ⟨q, 0, none⟩) hql).trans q0
    have hsz := hww.size
    by_cases hlt : k < N + 3
    · obtain ⟨op, a, hins, hop, c0, c1, c2, c3, c4⟩ := ins_cells (ownsRow_below HR.out hww) hlt
      have hop6 : ¬ op = 6 := by omega
      clear hbw hww
      go_wp2
      have hs2 := hS.out.size
      refine ⟨⟨k + 1, by omega, by simp, Lib.hid (hS.out.alloc hs2 _)⟩, by simp [intOf]; omega⟩
    · obtain rfl : k = N + 3 := by omega
      have hb1' : wr.heap[w.heap.size + 1]? = _ := (hS.out.block _ (by omega)).trans HB1.out
      have HB1' := Lib.hid hb1'
      have HWW := Lib.hid hww
      clear hbw hww hb1'
      go_wp2
      rw [rounds_succ]
      go_wp2
      refine wp_loop_rounds 1 ?_
      rw [rounds_succ]
      go_wp2
      refine bodyPost_ret (v := .tuple #[.slice (some ⟨w.heap.size + 1, 0, none⟩) 1 1, .bool true]) (by simp [results, Tryz.results12, go_sem]) rfl ⟨HWW.out, w.heap.size + 1, by omega, rfl, HB1'.out⟩
end Go.Gen
