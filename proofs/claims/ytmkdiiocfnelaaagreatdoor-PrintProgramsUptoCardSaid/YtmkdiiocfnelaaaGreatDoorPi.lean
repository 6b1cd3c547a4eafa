/- print.quote: strings.NewReplacer, run, and Replace, walked by hand. Each says its own conditions. -/
import Derived.Test.YtmkdiiocfnelaaaGreatDoorPa
import Derived.Laws.Cover3
import Derived.Laws.OwnMore
import Derived.OwnWalk
import Derived.Deep.RegionLaw
import Derived.Laws.IdiomStrings
import Derived.Laws.CopyOwn
import Derived.Test.YtmkdiiocfnelaaaGreatDoorPh
import Derived.Test.YtmkdiiocfnelaaaGreatDoorPc
import Derived.Test.YtmkdiiocfnelaaaGreatDoorEngC
set_option linter.unusedVariables false
set_option linter.unusedSimpArgs false
set_option maxRecDepth 100000
set_option maxHeartbeats 4000000
namespace Go.Pr
open Go Go.RowKit Go.Proofs
def RepT : List (Nat × Nat) := [(10, 110), (34, 34), (92, 92)]
structure RepV (W : World) (B o : Nat) : Prop where
  hit : ∀ c x, (c, x) ∈ RepT → ∃ g q cap, W.cell? ⟨B, o + c, none⟩ = some (.slice (some ⟨g, q, none⟩) 2 cap) ∧ W.cell? ⟨g, q, none⟩ = some (.int .u8 92) ∧ W.cell? ⟨g, q + 1, none⟩ = some (.int .u8 x)
  miss : ∀ c, c < 256 → c ≠ 10 → c ≠ 34 → c ≠ 92 → W.cell? ⟨B, o + c, none⟩ = some (.slice none 0 0)
  tor : ∃ g q cap, W.cell? ⟨B, o + 256, none⟩ = some (.slice (some ⟨g, q, none⟩) 3 cap) ∧ W.cell? ⟨g, q, none⟩ = some (.string { data := #[92] }) ∧ W.cell? ⟨g, q + 1, none⟩ = some (.string { data := #[34] }) ∧ W.cell? ⟨g, q + 2, none⟩ = some (.string { data := #[10] })
def turns (b : UInt8) : Bool := b == 10 || b == 34 || b == 92
theorem quoteB_len (b : UInt8) : (quoteB b).length = 1 + (if turns b then 1 else 0) := by
  unfold quoteB turns
  by_cases h1 : b = 10
  · simp [h1]
  · by_cases h2 : b = 34
    · simp [h2]
    · by_cases h3 : b = 92
      · simp [h3]
      · simp [h1, h2, h3]
theorem flat_len : ∀ l : List UInt8, (l.flatMap quoteB).length = l.length + l.countP turns
  | [] => rfl
  | b :: l => by
    rw [List.flatMap_cons, List.length_append, quoteB_len, flat_len l, List.length_cons, List.countP_cons]
    split <;> omega
theorem countP_turns : ∀ l : List UInt8, l.countP turns = l.count 92 + l.count 34 + l.count 10
  | [] => rfl
  | b :: l => by
    rw [List.countP_cons, countP_turns l, List.count_cons, List.count_cons, List.count_cons]
    unfold turns
    by_cases h1 : b = 10
    · simp [h1]; omega
    · by_cases h2 : b = 34
      · simp [h2]; omega
      · by_cases h3 : b = 92
        · simp [h3]; omega
        · simp [h1, h2, h3]
theorem flat_none : ∀ l : List UInt8, l.countP turns = 0 → l.flatMap quoteB = l
  | [], _ => rfl
  | b :: l, h => by
    rw [List.countP_cons] at h
    have h1 : turns b = false := by
      cases e : turns b with
      | false => rfl
      | true => rw [e] at h; simp at h
    rw [List.flatMap_cons, flat_none l (by rw [h1] at h; simpa using h)]
    unfold turns at h1
    simp at h1
    simp [quoteB, h1]
theorem count_take_succ {l : List UInt8} {k : Nat} (h : k < l.length) : (l.take (k + 1)).countP turns = (l.take k).countP turns + (if turns l[k] then 1 else 0) := by
  rw [List.take_succ_eq_append_getElem h, List.countP_append]
  simp [List.countP_cons]
end Go.Pr
namespace Go.Pr
open Go Go.RowKit Go.Proofs
theorem cnt88 : Tryz.laysRep_ren.f 138 = 88 := by kernel_rfl
theorem count_ok (s : ByteArray) (c : UInt8) (w : World) : Calls Tryz.prog 88 #[.string s, .string { data := #[c] }] w fun e w' => e = .returned (.int .i64 (s.data.toList.count c : Nat)) ∧ w' = w := by
  have h := Any.strings_Count_one { Tryz.laysRep with } s c w
  rw [cnt88] at h
  exact h
theorem RepV.below {W W' : World} {B o : Nat} (h : RepV W B o) (hb : Below W.heap.size W W') : RepV W' B o := by
  have cl : ∀ {b k : Nat} {v : Value}, W.cell? ⟨b, k, none⟩ = some v → W'.cell? ⟨b, k, none⟩ = some v := fun {b k v} hc => by
    rw [hb.cell (by exact cell_lt hc)]; exact hc
  refine ⟨fun c x hx => ?_, fun c h1 h2 h3 h4 => cl (h.miss c h1 h2 h3 h4), ?_⟩
  · obtain ⟨g, q, cap, h1, h2, h3⟩ := h.hit c x hx
    exact ⟨g, q, cap, cl h1, cl h2, cl h3⟩
  · obtain ⟨g, q, cap, h1, h2, h3, h4⟩ := h.tor
    exact ⟨g, q, cap, cl h1, cl h2, cl h3, cl h4⟩
theorem turns_mem {b : UInt8} (h : turns b = true) : ∃ x : UInt8, (b.toNat, x.toNat) ∈ RepT ∧ quoteB b = [92, x] := by
  unfold turns at h
  simp only [Bool.or_eq_true, beq_iff_eq] at h
  rcases h with (rfl | rfl) | rfl
  · exact ⟨110, by decide, by decide⟩
  · exact ⟨34, by decide, by decide⟩
  · exact ⟨92, by decide, by decide⟩
theorem turns_not {b : UInt8} (h : turns b = false) : b.toNat ≠ 10 ∧ b.toNat ≠ 34 ∧ b.toNat ≠ 92 ∧ quoteB b = [b] := by
  unfold turns at h
  simp only [Bool.or_eq_false_iff, beq_eq_false_iff_ne] at h
  obtain ⟨⟨h1, h2⟩, h3⟩ := h
  refine ⟨fun e => h1 (UInt8.toNat_inj.1 e), fun e => h2 (UInt8.toNat_inj.1 e), fun e => h3 (UInt8.toNat_inj.1 e), ?_⟩
  unfold quoteB
  simp [h1, h2, h3]
theorem u65p : Tryz.prog.underlying 65 = some (.slice 5) := by kernel_rfl
theorem u5p : Tryz.prog.underlying 5 = some (.int .u8) := by kernel_rfl
theorem u9p : Tryz.prog.underlying 9 = some .string := by kernel_rfl
def accK (a b c : Nat) : Nat → Nat
  | 0 => 0
  | 1 => a
  | 2 => a + b
  | _ => a + b + c
def u8v (b : UInt8) : Value := .int .u8 (b.toNat : Int)
def BufV (W w : World) (G n : Nat) (pre : List UInt8) : Prop := W.heap.size ≤ G ∧ Below W.heap.size W w ∧ ∃ tl : List Value, w.heap[G]? = some (.cells (pre.map u8v ++ tl).toArray 5 (0, 0)) ∧ pre.length + tl.length = n
theorem BufV.drew {W w : World} {G n : Nat} {pre : List UInt8} (h : BufV W w G n pre) : BufV W w.drew G n pre := ⟨h.1, h.2.1.drew, h.2.2⟩
theorem BufV.cell {W w : World} {G n : Nat} {pre : List UInt8} (h : BufV W w G n pre) (hlt : pre.length < n) : ∃ u, w.cell? ⟨G, pre.length, none⟩ = some u ∧ w.frozen? ⟨G, pre.length, none⟩ = false := by
  obtain ⟨_, _, tl, h1, h2⟩ := h
  match tl, h2 with
  | [], h2 => simp at h2; omega
  | u :: tl, h2 =>
    have hc : w.cell? ⟨G, pre.length, none⟩ = some u := by
      rw [cell_of_row w G pre.length _ 5 (0, 0) h1]
      simp
    refine ⟨u, hc, ?_⟩
    simp [World.frozen?, h1]
theorem BufV.store {W w : World} {G n : Nat} {pre : List UInt8} (h : BufV W w G n pre) (hlt : pre.length < n) (b : UInt8) : BufV W (w.setCell ⟨G, pre.length, none⟩ (.int .u8 (b.toNat : Int))) G n (pre ++ [b]) := by
  obtain ⟨h0, hb, tl, h1, h2⟩ := h
  refine ⟨h0, hb.setCell (p := ⟨G, pre.length, none⟩) h0 _, ?_⟩
  match tl, h2 with
  | [], h2 => simp at h2; omega
  | u :: tl, h2 =>
    refine ⟨tl, ?_, by simp at h2 ⊢; omega⟩
    rw [heap_setCell_same w G pre.length _ 5 _ h1]
    congr 2
    rw [List.setIfInBounds_toArray]
    congr 1
    rw [List.set_append_right _ _ (by simp)]
    simp [u8v]
theorem BufV.full {W w : World} {G n : Nat} {pre : List UInt8} (h : BufV W w G n pre) (hn : pre.length = n) (c : Nat) : (convert 65 9 (.slice (some ⟨G, 0, none⟩) n c)).run Tryz.prog w = .ok (.string ⟨pre.toArray⟩) w := by
  subst hn
  obtain ⟨_, _, tl, h1, h2⟩ := h
  refine run_convert_bytes_back w 65 9 5 ⟨G, 0, none⟩ c pre u65p u5p u9p fun j hj => ?_
  have e : (⟨G, 0, none⟩ : Addr).add j = ⟨G, j, none⟩ := by unfold Addr.add; split <;> simp_all
  rw [e, cell_of_row w G j _ 5 (0, 0) h1]
  simp [u8v, List.getElem?_append_left, hj]
theorem i5p : (Tryz.prog.info? 5).map (fun i => (i.zero, i.size, i.bytes)) = some (some (.int .u8 0), 1, 1) := by kernel_rfl
theorem i5s : (Tryz.prog.info? 5).map (·.size) = some 1 := by kernel_rfl
theorem e92 : ∀ h, (({ data := #[92] } : ByteArray)[0]'h).toNat = 92 := fun _ => rfl
theorem e34 : ∀ h, (({ data := #[34] } : ByteArray)[0]'h).toNat = 34 := fun _ => rfl
theorem e10 : ∀ h, (({ data := #[10] } : ByteArray)[0]'h).toNat = 10 := fun _ => rfl
theorem take_flat {s : ByteArray} {k : Nat} (h : k < s.size) : ((s.data.toList.take (k + 1)).flatMap quoteB) = (s.data.toList.take k).flatMap quoteB ++ quoteB s[k] := by
  have hl : k < s.data.toList.length := by simpa using h
  rw [List.take_succ_eq_append_getElem hl, List.flatMap_append]
  congr 1
  simp
  rfl
theorem flat_take_le (l : List UInt8) (k : Nat) : ((l.take k).flatMap quoteB).length ≤ (l.flatMap quoteB).length := by
  conv => rhs; rw [← List.take_append_drop k l]
  rw [List.flatMap_append, List.length_append]
  omega
theorem made_buf {W w w' : World} {n : Nat} (hB : Below W.heap.size W w) (h : w'.ownsRow W.heap.size 5 1 (.slice (some ⟨w.heap.size, 0, none⟩) n n) n (madeCells (Value.int .u8 0).cells (n * 1)).toList) (hg : w.grownBy w' none) : BufV W w' w.heap.size n [] := by
  refine ⟨hB.size, hB.grown hg hB.size (fun k hk => by cases hk), ?_⟩
  rcases h.2 with ⟨h', _⟩ | ⟨g', cap', cur, h', _, hgg, _, _, hcs, htake⟩
  · simp at h'
  · simp only [Value.slice.injEq, Option.some.injEq, Addr.mk.injEq, and_true, true_and] at h'
    obtain ⟨rfl, rfl⟩ := h'
    exact ⟨cur.toList, by simpa using hgg, by simpa using hcs⟩
theorem splice_buf {W w4 : World} {G n : Nat} {pre pre2 : List UInt8} {tl : List Value} {c : UInt8} (h0 : W.heap.size ≤ G) (hb : Below W.heap.size W w4) (hlen : pre.length + tl.length = n) (hle : pre.length + 2 ≤ n)
    (hg : Hid (w4.heap[G]? = some (.cells (splice (pre.map u8v ++ tl) pre.length [.int .u8 92, .int .u8 (c.toNat : Int)]).toArray 5 (0, 0)))) (h2 : pre2 = pre ++ [92, c]) : BufV W w4 G n pre2 := by
  subst h2
  refine ⟨h0, hb, tl.drop 2, ?_, by simp; omega⟩
  rw [hg.out]
  congr 2
  unfold splice
  simp [u8v, List.take_append, List.drop_append]
theorem World.news_of_two {w : World} {g q : Nat} {x y : Value} (h1 : w.cell? ⟨g, q, none⟩ = some x) (h2 : w.cell? ⟨g, q + 1, none⟩ = some y) : ∀ (j : Nat) (v : Value), ([x, y] : List Value)[j]? = some v → w.cell? ((⟨g, q, none⟩ : Addr).add j) = some v := by
  intro j v hv
  match j, hv with
  | 0, hv => simp at hv; subst hv; simpa [Addr.add] using h1
  | 1, hv => simp at hv; subst hv; simpa [Addr.add] using h2
  | j + 2, hv => simp at hv
theorem rep_ok {W : World} {B o : Nat} (s : ByteArray) (hs : s.size ≤ 1048576) (hR : RepV W B o) :
    Calls Tryz.prog 220 #[.pointer (some ⟨B, o, none⟩), .string s] W fun e w' => e = .returned (.string ⟨(s.data.toList.flatMap quoteB).toArray⟩) ∧ Below W.heap.size W w' := by
  have HR := Lib.hid hR
  have he0 := e92
  have hns : ∀ (a : Addr) (l c : Nat) (w : World), (binOp .neq 65 (.slice (some a) l c) (.slice none 0 0)).run Tryz.prog w = .ok (.bool true) w := fun a l c w => run_neq_slice_nil (P := Tryz.prog) (w := w) 65 5 (some a) l c u65p
  have hn0 : ∀ (w : World), (binOp .neq 65 (.slice none 0 0) (.slice none 0 0)).run Tryz.prog w = .ok (.bool false) w := fun w => run_neq_slice_nil (P := Tryz.prog) (w := w) 65 5 none 0 0 u65p
  have he1 := e34
  have he2 := e10
  obtain ⟨tg, tq, tcap, htor, -, -, -⟩ := hR.tor
  obtain ⟨n0, hnn0⟩ : ∃ n, n = s.data.toList.count 92 := ⟨_, rfl⟩
  obtain ⟨n1, hnn1⟩ : ∃ n, n = s.data.toList.count 34 := ⟨_, rfl⟩
  obtain ⟨n2, hnn2⟩ : ∃ n, n = s.data.toList.count 10 := ⟨_, rfl⟩
  have b0 : n0 ≤ 1048576 := by rw [hnn0]; exact Nat.le_trans (List.count_le_length ..) hs
  have b1 : n1 ≤ 1048576 := by rw [hnn1]; exact Nat.le_trans (List.count_le_length ..) hs
  have b2 : n2 ≤ 1048576 := by rw [hnn2]; exact Nat.le_trans (List.count_le_length ..) hs
  have hc0 := Lib.hid (fun w => count_ok s 92 w)
  have hc1 := Lib.hid (fun w => count_ok s 34 w)
  have hc2 := Lib.hid (fun w => count_ok s 10 w)
  rw [← hnn0] at hc0
  rw [← hnn1] at hc1
  rw [← hnn2] at hc2
  have HSUM : Hid (n0 + n1 + n2 = s.data.toList.countP turns) := Lib.hid (by rw [hnn0, hnn1, hnn2, countP_turns])
  have HT : Hid (∀ wr a b c, Below W.heap.size W wr → wr.cell? ⟨B, o + 256, none⟩ = some (.slice (some ⟨a, b, none⟩) 3 c) → Value.slice (some ⟨a, b, none⟩) 3 c = .slice (some ⟨tg, tq, none⟩) 3 tcap) := Lib.hid fun wr a b c hb h => by
    rw [hb.cell (by exact cell_lt htor), htor] at h
    exact (Option.some.inj h).symm
  clear hR hnn0 hnn1 hnn2
  by_cases h24 : 24 ≤ s.size
  · have i24 : (24 : Int) ≤ (s.size : Int) := by omega
    go_enter Tryz.func220, Tryz.ntmps220
    go_wp2_with fail
    clear htor
    go_loopw [5, 6, 32] (fun n any j wr => ∃ (k x : Nat) (y : Bool), k ≤ 3 ∧ j = .int .i64 k ∧ n = .int .i64 x ∧ any = .bool y ∧ x ≤ 4194304 ∧ Hid (x = s.size + accK n0 n1 n2 k ∧ y = decide (accK n0 n1 n2 k ≠ 0)) ∧ Hid (Below W.heap.size W wr)) (fun _ _ j _ => 3 - (intOf j).toNat)
    case atStart => exact ⟨0, s.size, false, Nat.zero_le _, rfl, rfl, rfl, by omega, Lib.hid ⟨rfl, rfl⟩, Lib.hid (Below.refl _ _)⟩
    case round =>
      obtain ⟨k, x, y, hk, rfl, rfl, rfl, hx, HX, hO⟩ := hrel
      rcases k with _ | _ | _ | k
      · have HX' : Hid ((x + n0) = s.size + accK n0 n1 n2 (0 + 1) ∧ (y || decide (n0 ≠ 0)) = decide (accK n0 n1 n2 (0 + 1) ≠ 0) ∧ x + n0 ≤ 4194304) := Lib.hid (by
          obtain ⟨h1, h2⟩ := HX.out
          refine ⟨by rw [h1]; simp only [accK]; omega, ?_, by rw [h1]; simp only [accK]; omega⟩
          rw [h2]
          simp only [accK]
          apply Bool.eq_iff_iff.2
          simp only [Bool.or_eq_true, decide_eq_true_eq]
          omega)
        have RW := HR.out.below hO.out
        obtain ⟨tg', tq', tcap', htor', ht0, ht1, ht2⟩ := RW.tor
        have htt := HT.out _ _ _ _ hO.out htor'
        simp only [Value.slice.injEq, Option.some.injEq, Addr.mk.injEq, and_true, true_and] at htt
        obtain ⟨⟨rfl, rfl⟩, rfl⟩ := htt
        obtain ⟨g1, q1, p1, hh, -, -⟩ := RW.hit 92 92 (by decide)
        clear RW htor'
        by_cases hz : n0 = 0
        · subst hz
          go_wp2_with fail
          refine (hc0.out _).mono ?_
          rintro e w' ⟨rfl, rfl⟩
          go_wp2
          go_roundw
          case rel => exact ⟨0 + 1, x, y, by omega, rfl, rfl, rfl, hx, Lib.hid ⟨HX'.out.1, by have := HX'.out.2.1; simpa using this⟩, hO⟩
          case measure => simp [intOf]
        · have i0 : ((n0 : Nat) : Int) ≠ 0 := by omega
          have HY : Hid ((y || decide (n0 ≠ 0)) = true) := Lib.hid (by simp [hz])
          go_wp2_with fail
          refine (hc0.out _).mono ?_
          rintro e w' ⟨rfl, rfl⟩
          go_wp2
          go_region
          go_wp2
          go_roundw
          case rel => exact ⟨0 + 1, x + n0, true, by omega, rfl, by simp, rfl, HX'.out.2.2, Lib.hid ⟨HX'.out.1, by rw [← HX'.out.2.1, HY.out]⟩, Lib.hid hO.out.drew⟩
          case measure => simp [intOf]
      · have HX' : Hid ((x + n1) = s.size + accK n0 n1 n2 (1 + 1) ∧ (y || decide (n1 ≠ 0)) = decide (accK n0 n1 n2 (1 + 1) ≠ 0) ∧ x + n1 ≤ 4194304) := Lib.hid (by
          obtain ⟨h1, h2⟩ := HX.out
          refine ⟨by rw [h1]; simp only [accK]; omega, ?_, by rw [h1]; simp only [accK]; omega⟩
          rw [h2]
          simp only [accK]
          apply Bool.eq_iff_iff.2
          simp only [Bool.or_eq_true, decide_eq_true_eq]
          omega)
        have RW := HR.out.below hO.out
        obtain ⟨tg', tq', tcap', htor', ht0, ht1, ht2⟩ := RW.tor
        have htt := HT.out _ _ _ _ hO.out htor'
        simp only [Value.slice.injEq, Option.some.injEq, Addr.mk.injEq, and_true, true_and] at htt
        obtain ⟨⟨rfl, rfl⟩, rfl⟩ := htt
        obtain ⟨g1, q1, p1, hh, -, -⟩ := RW.hit 34 34 (by decide)
        clear RW htor'
        by_cases hz : n1 = 0
        · subst hz
          go_wp2_with fail
          refine (hc1.out _).mono ?_
          rintro e w' ⟨rfl, rfl⟩
          go_wp2
          go_roundw
          case rel => exact ⟨1 + 1, x, y, by omega, rfl, rfl, rfl, hx, Lib.hid ⟨HX'.out.1, by have := HX'.out.2.1; simpa using this⟩, hO⟩
          case measure => simp [intOf]
        · have i0 : ((n1 : Nat) : Int) ≠ 0 := by omega
          have HY : Hid ((y || decide (n1 ≠ 0)) = true) := Lib.hid (by simp [hz])
          go_wp2_with fail
          refine (hc1.out _).mono ?_
          rintro e w' ⟨rfl, rfl⟩
          go_wp2
          go_region
          go_wp2
          go_roundw
          case rel => exact ⟨1 + 1, x + n1, true, by omega, rfl, by simp, rfl, HX'.out.2.2, Lib.hid ⟨HX'.out.1, by rw [← HX'.out.2.1, HY.out]⟩, Lib.hid hO.out.drew⟩
          case measure => simp [intOf]
      · have HX' : Hid ((x + n2) = s.size + accK n0 n1 n2 (2 + 1) ∧ (y || decide (n2 ≠ 0)) = decide (accK n0 n1 n2 (2 + 1) ≠ 0) ∧ x + n2 ≤ 4194304) := Lib.hid (by
          obtain ⟨h1, h2⟩ := HX.out
          refine ⟨by rw [h1]; simp only [accK]; omega, ?_, by rw [h1]; simp only [accK]; omega⟩
          rw [h2]
          simp only [accK]
          apply Bool.eq_iff_iff.2
          simp only [Bool.or_eq_true, decide_eq_true_eq]
          omega)
        have RW := HR.out.below hO.out
        obtain ⟨tg', tq', tcap', htor', ht0, ht1, ht2⟩ := RW.tor
        have htt := HT.out _ _ _ _ hO.out htor'
        simp only [Value.slice.injEq, Option.some.injEq, Addr.mk.injEq, and_true, true_and] at htt
        obtain ⟨⟨rfl, rfl⟩, rfl⟩ := htt
        obtain ⟨g1, q1, p1, hh, -, -⟩ := RW.hit 10 110 (by decide)
        clear RW htor'
        by_cases hz : n2 = 0
        · subst hz
          go_wp2_with fail
          refine (hc2.out _).mono ?_
          rintro e w' ⟨rfl, rfl⟩
          go_wp2
          go_roundw
          case rel => exact ⟨2 + 1, x, y, by omega, rfl, rfl, rfl, hx, Lib.hid ⟨HX'.out.1, by have := HX'.out.2.1; simpa using this⟩, hO⟩
          case measure => simp [intOf]
        · have i0 : ((n2 : Nat) : Int) ≠ 0 := by omega
          have HY : Hid ((y || decide (n2 ≠ 0)) = true) := Lib.hid (by simp [hz])
          go_wp2_with fail
          refine (hc2.out _).mono ?_
          rintro e w' ⟨rfl, rfl⟩
          go_wp2
          go_region
          go_wp2
          go_roundw
          case rel => exact ⟨2 + 1, x + n2, true, by omega, rfl, by simp, rfl, HX'.out.2.2, Lib.hid ⟨HX'.out.1, by rw [← HX'.out.2.1, HY.out]⟩, Lib.hid hO.out.drew⟩
          case measure => simp [intOf]
      · have : k = 0 := by omega
        subst this
        have HXE : Hid (x = s.data.size + s.data.toList.countP turns ∧ y = decide (s.data.toList.countP turns ≠ 0)) := Lib.hid ⟨by rw [HX.out.1, ← HSUM.out]; rfl, by rw [HX.out.2, ← HSUM.out]; rfl⟩
        have h1 : (s.data.toList.flatMap quoteB).length ≤ 2097152 := by
          have h2 := flat_le s.data.toList
          have h3 : s.data.toList.length ≤ 1048576 := by rw [Array.length_toList]; exact hs
          omega
        obtain ⟨L, hL⟩ : ∃ L, L = s.data.toList.flatMap quoteB := ⟨_, rfl⟩
        have HLL : Hid (L = s.data.toList.flatMap quoteB) := Lib.hid hL
        have hL2 : L.length ≤ 2097152 := by rw [hL]; exact h1
        have hxl : x = L.length := by
          rw [hL, flat_len, HXE.out.1, Array.length_toList]
        clear hL h1
        subst hxl
        have HYL := Lib.hid HXE.out.2
        clear HXE HX
        cases y with
        | false =>
          have HS : Hid (s = ⟨(s.data.toList.flatMap quoteB).toArray⟩) := Lib.hid (by
            have h := HYL.out
            have h0 : s.data.toList.countP turns = 0 := by simpa using h
            rw [flat_none _ h0])
          go_wp2_with fail
          go_ret
          exact ⟨congrArg (fun x => Ending.returned (Value.string x)) HS.out, hO.out⟩
        | true =>
          have HBUF : ∀ w', Hid (BufV W w' wr.heap.size L.length []) → Hid (BufV W w' wr.heap.size L.length ((s.data.toList.take 0).flatMap quoteB)) := fun w' h => h
          obtain ⟨i5, hi5, hz5, hs5, hb5⟩ := info_parts i5p
          have hmx : i5.bytes * L.length ≤ 281474976710656 := by rw [hb5]; omega
          go_wp2_with (with_reducible refine wpList_make_full wr rfl _ _ 65 rfl W.heap.size 5 i5 (.int .u8 0) 1 u65p hi5 hz5 hs5 .i64 .i64 (L.length : Int) (L.length : Int) L.length rfl rfl rfl rfl hmx (by simp only [maxLen]; omega) (hO.out.size) ?_; intro w3 hown hgr)
          have HB3 := HBUF w3 (Lib.hid (made_buf hO.out hown hgr))
          clear HBUF hown hgr hmx
          generalize wr.heap.size = G at HB3 ⊢
          go_wp2_with fail
          go_loopw [13, 14] (fun p j wq => ∃ k : Nat, k ≤ s.size ∧ j = .int .i64 k ∧ p = .int .i64 (((s.data.toList.take k).flatMap quoteB).length : Nat) ∧ Hid (BufV W wq G L.length ((s.data.toList.take k).flatMap quoteB))) (fun _ j _ => s.size - (intOf j).toNat)
          case atStart => exact ⟨0, Nat.zero_le _, rfl, rfl, HB3⟩
          case round =>
            obtain ⟨k, hk, rfl, rfl, hBF⟩ := hrel
            by_cases hlt : k < s.size
            · have hq := take_flat hlt
              have hle := flat_take_le s.data.toList (k + 1)
              rw [← HLL.out, hq, List.length_append] at hle
              have i0 : (0 : Int) ≤ (k : Int) := by omega
              have i1 : (k : Int) < (s.size : Int) := by omega
              have RW := HR.out.below hBF.out.2.1
              have hbt : s[k].toNat < 256 := UInt8.toNat_lt _
              have hbt' : ((s[k].toNat : Nat) : Int) < 256 := by omega
              have HQ2 : ∀ q, quoteB s[k] = q → Hid ((s.data.toList.take (k + 1)).flatMap quoteB = (s.data.toList.take k).flatMap quoteB ++ q) := fun q h => Lib.hid (by rw [hq, h])
              cases ht : turns s[k] with
              | true =>
                obtain ⟨c, hc, hqb⟩ := turns_mem ht
                obtain ⟨g1, q1, p1, c0, c1, c2⟩ := RW.hit _ _ hc
                rw [hqb] at hle
                have HQ := HQ2 _ hqb
                clear hq hqb hc ht RW HQ2
                generalize (s.data.toList.take k).flatMap quoteB = pre at *
                obtain ⟨pre2, hp2⟩ : ∃ p, p = (s.data.toList.take (k + 1)).flatMap quoteB := ⟨_, rfl⟩
                rw [← hp2] at HQ
                have HP2 := Lib.hid hp2
                clear hp2
                simp only [List.length_cons, List.length_nil] at hle
                obtain ⟨tl, htl, hlen⟩ := hBF.out.2.2
                have HTL := Lib.hid htl
                have HL2 := Lib.hid hlen
                have j0 : (0 : Int) ≤ (pre.length : Int) := by omega
                have j1 : (pre.length : Int) ≤ (L.length : Int) := by omega
                have j2 : pre.length ≤ L.length := by omega
                clear htl hlen
                go_wp2_with fail
                go_region_law ((refine step_copy_splice rfl _ _ 65 65 rfl 5 u65p i5s _ _ _ _ _ _ rfl rfl G pre.length (pre.map u8v ++ tl) 5 (by exact HTL.out) [.int .u8 92, .int .u8 (c.toNat : Int)] (by first | (simp; omega) | (simp [Nat.min_def]; omega)) (fun _ => ⟨by first | rfl | (split <;> first | rfl | omega), _, rfl, by exact World.news_of_two c1 c2⟩) (by have := HL2.out; simp only [List.length_append, List.length_map, List.length_cons, List.length_nil]; omega) (by intro v hv; simp only [List.mem_cons, List.mem_nil_iff, or_false] at hv; rcases hv with rfl | rfl <;> rfl) W.heap.size W (by exact hBF.out.2.1.drew) hBF.out.1 ?_; intro w4 hg4 hb4))
                have HB4 : Hid (BufV W w4 G L.length pre2) := Lib.hid (splice_buf hBF.out.1 hb4 HL2.out (by omega) hg4 HQ.out)
                go_wp2
                go_roundw
                case rel => exact ⟨k + 1, by omega, by simp, by rw [← HP2.out, HQ.out]; simp, HP2.out ▸ HB4⟩
                case measure => simp [intOf]; omega
              | false =>
                obtain ⟨t1, t2, t3, hqb⟩ := turns_not ht
                have c0 := RW.miss _ hbt t1 t2 t3
                rw [hqb] at hle
                have HQ := HQ2 _ hqb
                clear hq hqb ht RW t1 t2 t3 HQ2
                generalize (s.data.toList.take k).flatMap quoteB = pre at *
                obtain ⟨pre2, hp2⟩ : ∃ p, p = (s.data.toList.take (k + 1)).flatMap quoteB := ⟨_, rfl⟩
                rw [← hp2] at HQ
                have HP2 := Lib.hid hp2
                clear hp2
                simp only [List.length_cons, List.length_nil] at hle
                have hlp : pre.length < L.length := by omega
                obtain ⟨u, k1, k2⟩ := hBF.out.cell hlp
                have j0 : (0 : Int) ≤ (pre.length : Int) := by omega
                have j1 : (pre.length : Int) < (L.length : Int) := by omega
                have HN := Lib.hid (hBF.out.store hlp s[k])
                rw [← HQ.out] at HN
                go_wp2
                go_roundw
                case rel => exact ⟨k + 1, by omega, by simp, by rw [← HP2.out, HQ.out]; simp, HP2.out ▸ HN⟩
                case measure => simp [intOf]; omega
            · obtain rfl : k = s.size := by omega
              have HQ : Hid ((s.data.toList.take s.size).flatMap quoteB = L) := Lib.hid (by rw [HLL.out, List.take_of_length_le (by rw [Array.length_toList]; exact Nat.le_refl _)])
              rw [HQ.out] at hBF
              rw [HQ.out]
              have hcv := hBF.out.full rfl L.length
              go_wp2
              go_ret
              exact ⟨congrArg (fun l : List UInt8 => Ending.returned (Value.string ⟨l.toArray⟩)) HLL.out, hBF.out.2.1⟩
  · have i24 : ¬ (24 : Int) ≤ (s.size : Int) := by omega
    have i25 : decide ((24 : Int) ≤ (s.size : Int)) = false := by simpa using i24
    go_enter Tryz.func220, Tryz.ntmps220
    go_wp2_with fail
    clear htor
    go_loopw [5, 6, 10] (fun n any j wr => ∃ (k x : Nat) (y : Bool), k ≤ s.size ∧ j = .int .i64 k ∧ n = .int .i64 x ∧ any = .bool y ∧ x ≤ 4194304 ∧ Hid (x = s.data.size + (s.data.toList.take k).countP turns ∧ y = decide ((s.data.toList.take k).countP turns ≠ 0)) ∧ Hid (Below W.heap.size W wr)) (fun _ _ j _ => s.size - (intOf j).toNat)
    case atStart => exact ⟨0, s.size, false, Nat.zero_le _, rfl, rfl, rfl, by omega, Lib.hid ⟨rfl, rfl⟩, Lib.hid (Below.refl _ _)⟩
    case round =>
      obtain ⟨k, x, y, hk, rfl, rfl, rfl, hx, HX, hO⟩ := hrel
      by_cases hlt : k < s.size
      · have i0 : (0 : Int) ≤ (k : Int) := by omega
        have i1 : (k : Int) < (s.size : Int) := by omega
        have RW := HR.out.below hO.out
        have hbt : s[k].toNat < 256 := UInt8.toNat_lt _
        have hbt' : ((s[k].toNat : Nat) : Int) < 256 := by omega
        have hct := count_take_succ (l := s.data.toList) (k := k) (by rw [Array.length_toList]; exact hlt)
        have hsk : s.data.toList[k]'(by rw [Array.length_toList]; exact hlt) = s[k] := by simp; rfl
        rw [hsk] at hct
        have hcl : (s.data.toList.take k).countP turns ≤ 1048576 := Nat.le_trans List.countP_le_length (by rw [List.length_take, Array.length_toList]; exact Nat.le_trans (Nat.min_le_right _ _) hs)
        have hss : s.data.size = s.size := rfl
        have hx2 : x + 1 ≤ 4194304 := by rw [HX.out.1]; omega
        cases ht : turns s[k] with
        | true =>
          obtain ⟨c, hc, hqb⟩ := turns_mem ht
          obtain ⟨g1, q1, p1, c0, c1, c2⟩ := RW.hit _ _ hc
          rw [ht] at hct
          have HN : Hid (x + 1 = s.data.size + (s.data.toList.take (k + 1)).countP turns ∧ true = decide ((s.data.toList.take (k + 1)).countP turns ≠ 0)) := Lib.hid ⟨by rw [hct, HX.out.1]; simp; omega, by rw [hct]; simp⟩
          clear hct hsk hcl hss hqb hc c1 c2 ht RW
          go_wp2
          go_roundw
          case rel => exact ⟨k + 1, x + 1, true, by omega, by simp, by simp, rfl, hx2, HN, hO⟩
          case measure => simp [intOf]; omega
        | false =>
          obtain ⟨t1, t2, t3, hqb⟩ := turns_not ht
          have c0 := RW.miss _ hbt t1 t2 t3
          rw [ht] at hct
          have HN : Hid (x = s.data.size + (s.data.toList.take (k + 1)).countP turns ∧ y = decide ((s.data.toList.take (k + 1)).countP turns ≠ 0)) := Lib.hid ⟨by rw [hct, HX.out.1]; simp, by rw [hct, HX.out.2]; simp⟩
          clear hct hsk hcl hss hqb t1 t2 t3 ht RW
          go_wp2
          go_roundw
          case rel => exact ⟨k + 1, x, y, by omega, by simp, rfl, rfl, hx, HN, hO⟩
          case measure => simp [intOf]; omega
      · obtain rfl : k = s.size := by omega
        have HXE : Hid (x = s.data.size + s.data.toList.countP turns ∧ y = decide (s.data.toList.countP turns ≠ 0)) := Lib.hid (by
          have h := HX.out
          rw [List.take_of_length_le (by rw [Array.length_toList]; exact Nat.le_refl _)] at h
          exact h)
        have h1 : (s.data.toList.flatMap quoteB).length ≤ 2097152 := by
          have h2 := flat_le s.data.toList
          have h3 : s.data.toList.length ≤ 1048576 := by rw [Array.length_toList]; exact hs
          omega
        obtain ⟨L, hL⟩ : ∃ L, L = s.data.toList.flatMap quoteB := ⟨_, rfl⟩
        have HLL : Hid (L = s.data.toList.flatMap quoteB) := Lib.hid hL
        have hL2 : L.length ≤ 2097152 := by rw [hL]; exact h1
        have hxl : x = L.length := by
          rw [hL, flat_len, HXE.out.1, Array.length_toList]
        clear hL h1
        subst hxl
        have HYL := Lib.hid HXE.out.2
        clear HXE HX
        cases y with
        | false =>
          have HS : Hid (s = ⟨(s.data.toList.flatMap quoteB).toArray⟩) := Lib.hid (by
            have h := HYL.out
            have h0 : s.data.toList.countP turns = 0 := by simpa using h
            rw [flat_none _ h0])
          go_wp2_with fail
          go_ret
          exact ⟨congrArg (fun x => Ending.returned (Value.string x)) HS.out, hO.out⟩
        | true =>
          have HBUF : ∀ w', Hid (BufV W w' wr.heap.size L.length []) → Hid (BufV W w' wr.heap.size L.length ((s.data.toList.take 0).flatMap quoteB)) := fun w' h => h
          obtain ⟨i5, hi5, hz5, hs5, hb5⟩ := info_parts i5p
          have hmx : i5.bytes * L.length ≤ 281474976710656 := by rw [hb5]; omega
          go_wp2_with (with_reducible refine wpList_make_full wr rfl _ _ 65 rfl W.heap.size 5 i5 (.int .u8 0) 1 u65p hi5 hz5 hs5 .i64 .i64 (L.length : Int) (L.length : Int) L.length rfl rfl rfl rfl hmx (by simp only [maxLen]; omega) (hO.out.size) ?_; intro w3 hown hgr)
          have HB3 := HBUF w3 (Lib.hid (made_buf hO.out hown hgr))
          clear HBUF hown hgr hmx
          generalize wr.heap.size = G at HB3 ⊢
          go_wp2_with fail
          go_loopw [13, 14] (fun p j wq => ∃ k : Nat, k ≤ s.size ∧ j = .int .i64 k ∧ p = .int .i64 (((s.data.toList.take k).flatMap quoteB).length : Nat) ∧ Hid (BufV W wq G L.length ((s.data.toList.take k).flatMap quoteB))) (fun _ j _ => s.size - (intOf j).toNat)
          case atStart => exact ⟨0, Nat.zero_le _, rfl, rfl, HB3⟩
          case round =>
            obtain ⟨k, hk, rfl, rfl, hBF⟩ := hrel
            by_cases hlt : k < s.size
            · have hq := take_flat hlt
              have hle := flat_take_le s.data.toList (k + 1)
              rw [← HLL.out, hq, List.length_append] at hle
              have i0 : (0 : Int) ≤ (k : Int) := by omega
              have i1 : (k : Int) < (s.size : Int) := by omega
              have RW := HR.out.below hBF.out.2.1
              have hbt : s[k].toNat < 256 := UInt8.toNat_lt _
              have hbt' : ((s[k].toNat : Nat) : Int) < 256 := by omega
              have HQ2 : ∀ q, quoteB s[k] = q → Hid ((s.data.toList.take (k + 1)).flatMap quoteB = (s.data.toList.take k).flatMap quoteB ++ q) := fun q h => Lib.hid (by rw [hq, h])
              cases ht : turns s[k] with
              | true =>
                obtain ⟨c, hc, hqb⟩ := turns_mem ht
                obtain ⟨g1, q1, p1, c0, c1, c2⟩ := RW.hit _ _ hc
                rw [hqb] at hle
                have HQ := HQ2 _ hqb
                clear hq hqb hc ht RW HQ2
                generalize (s.data.toList.take k).flatMap quoteB = pre at *
                obtain ⟨pre2, hp2⟩ : ∃ p, p = (s.data.toList.take (k + 1)).flatMap quoteB := ⟨_, rfl⟩
                rw [← hp2] at HQ
                have HP2 := Lib.hid hp2
                clear hp2
                simp only [List.length_cons, List.length_nil] at hle
                obtain ⟨tl, htl, hlen⟩ := hBF.out.2.2
                have HTL := Lib.hid htl
                have HL2 := Lib.hid hlen
                have j0 : (0 : Int) ≤ (pre.length : Int) := by omega
                have j1 : (pre.length : Int) ≤ (L.length : Int) := by omega
                have j2 : pre.length ≤ L.length := by omega
                clear htl hlen
                go_wp2_with fail
                go_region_law ((refine step_copy_splice rfl _ _ 65 65 rfl 5 u65p i5s _ _ _ _ _ _ rfl rfl G pre.length (pre.map u8v ++ tl) 5 (by exact HTL.out) [.int .u8 92, .int .u8 (c.toNat : Int)] (by first | (simp; omega) | (simp [Nat.min_def]; omega)) (fun _ => ⟨by first | rfl | (split <;> first | rfl | omega), _, rfl, by exact World.news_of_two c1 c2⟩) (by have := HL2.out; simp only [List.length_append, List.length_map, List.length_cons, List.length_nil]; omega) (by intro v hv; simp only [List.mem_cons, List.mem_nil_iff, or_false] at hv; rcases hv with rfl | rfl <;> rfl) W.heap.size W (by exact hBF.out.2.1.drew) hBF.out.1 ?_; intro w4 hg4 hb4))
                have HB4 : Hid (BufV W w4 G L.length pre2) := Lib.hid (splice_buf hBF.out.1 hb4 HL2.out (by omega) hg4 HQ.out)
                go_wp2
                go_roundw
                case rel => exact ⟨k + 1, by omega, by simp, by rw [← HP2.out, HQ.out]; simp, HP2.out ▸ HB4⟩
                case measure => simp [intOf]; omega
              | false =>
                obtain ⟨t1, t2, t3, hqb⟩ := turns_not ht
                have c0 := RW.miss _ hbt t1 t2 t3
                rw [hqb] at hle
                have HQ := HQ2 _ hqb
                clear hq hqb ht RW t1 t2 t3 HQ2
                generalize (s.data.toList.take k).flatMap quoteB = pre at *
                obtain ⟨pre2, hp2⟩ : ∃ p, p = (s.data.toList.take (k + 1)).flatMap quoteB := ⟨_, rfl⟩
                rw [← hp2] at HQ
                have HP2 := Lib.hid hp2
                clear hp2
                simp only [List.length_cons, List.length_nil] at hle
                have hlp : pre.length < L.length := by omega
                obtain ⟨u, k1, k2⟩ := hBF.out.cell hlp
                have j0 : (0 : Int) ≤ (pre.length : Int) := by omega
                have j1 : (pre.length : Int) < (L.length : Int) := by omega
                have HN := Lib.hid (hBF.out.store hlp s[k])
                rw [← HQ.out] at HN
                go_wp2
                go_roundw
                case rel => exact ⟨k + 1, by omega, by simp, by rw [← HP2.out, HQ.out]; simp, HP2.out ▸ HN⟩
                case measure => simp [intOf]; omega
            · obtain rfl : k = s.size := by omega
              have HQ : Hid ((s.data.toList.take s.size).flatMap quoteB = L) := Lib.hid (by rw [HLL.out, List.take_of_length_le (by rw [Array.length_toList]; exact Nat.le_refl _)])
              rw [HQ.out] at hBF
              rw [HQ.out]
              have hcv := hBF.out.full rfl L.length
              go_wp2
              go_ret
              exact ⟨congrArg (fun l : List UInt8 => Ending.returned (Value.string ⟨l.toArray⟩)) HLL.out, hBF.out.2.1⟩
end Go.Pr
set_option maxRecDepth 1000000
namespace Go.Eng
open Go.RowKit Go.Proofs Go.Pr
noncomputable def isU (h : AHeap) (g : Pos) (q n : Nat) : Bool := onSome (h.load1 g q) (fun v => avB v (.int .u8 (.ofNat n))) false
noncomputable def isS (h : AHeap) (g : Pos) (q n : Nat) : Bool := onSome (h.load1 g q) (fun v => avB v (.str 1 n)) false
noncomputable def hitB (h : AHeap) (b : Pos) (o c x : Nat) : Bool :=
  onSome (h.load1 b (Nat.add o c)) (fun v => v.onSlice false (fun g q n sz => ifb (Nat.beq n 2) (ifb (Nat.beq sz 1) (ifb (isU h g q 92) (isU h g (Nat.succ q) x) false) false) false) false) false
noncomputable def missB (h : AHeap) (b : Pos) (o n : Nat) : Bool := Nat.rec true (fun c ih => ifb (ifb (ifb (Nat.beq c 10) true (Nat.beq c 34)) true (Nat.beq c 92)) ih (ifb (onSome (h.load1 b (Nat.add o c)) (fun v => avB v .nilSlice) false) ih false)) n
noncomputable def torB (h : AHeap) (b : Pos) (o : Nat) : Bool :=
  onSome (h.load1 b (Nat.add o 256)) (fun v => v.onSlice false (fun g q n sz => ifb (Nat.beq n 3) (ifb (Nat.beq sz 1) (ifb (isS h g q 92) (ifb (isS h g (Nat.add q 1) 34) (isS h g (Nat.add q 2) 10) false) false) false) false) false) false
noncomputable def repB (h : AHeap) (b : Pos) (o : Nat) : Bool := ifb (hitB h b o 10 110) (ifb (hitB h b o 34 34) (ifb (hitB h b o 92 92) (ifb (torB h b o) (missB h b o 256) false) false) false) false
section
variable {K : Ctx} {σ : Env} {own : Owns} {h : AHeap} {w : World}
theorem ifb_t {c x : Bool} (h : ifb c x false = true) : c = true ∧ x = true := by
  cases c
  · cases h
  · exact ⟨rfl, h⟩
theorem onSome_t {β : Type} {x : Option β} {f : β → Bool} (h : onSome x f false = true) : ∃ y, x = some y ∧ f y = true := by
  cases x
  · cases h
  · exact ⟨_, rfl, h⟩
theorem onSlice_t {v : AV} {f : Pos → Nat → Nat → Nat → Bool} (h : v.onSlice false f false = true) : ∃ g q n sz, v = .slice g q n sz ∧ f g q n sz = true := by
  cases v <;> first | cases h | exact ⟨_, _, _, _, rfl, h⟩
theorem isU_ok (H : HR K σ own h w) {g : Pos} {l : Loc} (hg : σ g = some l) {q n : Nat} (hu : isU h g q n = true) : w.cell? ⟨l.B, l.o + q, none⟩ = some (.int .u8 (n : Nat)) := by
  obtain ⟨v, h1, h2⟩ := onSome_t hu
  obtain rfl := avB_eq h2
  obtain ⟨c, hc, hv⟩ := H.load1 hg h1
  have hv : c = .int .u8 (.ofNat n) := hv
  rw [hc, hv]; rfl
theorem isS_ok (H : HR K σ own h w) {g : Pos} {l : Loc} (hg : σ g = some l) {q n : Nat} (hu : isS h g q n = true) : w.cell? ⟨l.B, l.o + q, none⟩ = some (.string (bytesOf 1 n)) := by
  obtain ⟨v, h1, h2⟩ := onSome_t hu
  obtain rfl := avB_eq h2
  obtain ⟨c, hc, hv⟩ := H.load1 hg h1
  rw [hc, hv.1]
theorem hitB_ok (H : HR K σ own h w) {b : Pos} {l : Loc} (hb : σ b = some l) {o c x : Nat} (ht : hitB h b o c x = true) :
    ∃ g q cap, w.cell? ⟨l.B, l.o + o + c, none⟩ = some (.slice (some ⟨g, q, none⟩) 2 cap) ∧ w.cell? ⟨g, q, none⟩ = some (.int .u8 92) ∧ w.cell? ⟨g, q + 1, none⟩ = some (.int .u8 (x : Nat)) := by
  obtain ⟨v, h1, h2⟩ := onSome_t ht
  obtain ⟨g, q, n, sz, rfl, h3⟩ := onSlice_t h2
  obtain ⟨e1, h4⟩ := ifb_t h3
  obtain ⟨e2, h5⟩ := ifb_t h4
  obtain ⟨e3, e4⟩ := ifb_t h5
  obtain rfl := Nat.eq_of_beq_eq_true e1
  obtain rfl := Nat.eq_of_beq_eq_true e2
  obtain ⟨cv, hc, lg, hg, rfl⟩ := H.load1 hb h1
  refine ⟨_, _, _, by rw [Nat.add_assoc]; exact hc, isU_ok H hg e3, ?_⟩
  exact isU_ok H hg e4
theorem torB_ok (H : HR K σ own h w) {b : Pos} {l : Loc} (hb : σ b = some l) {o : Nat} (ht : torB h b o = true) :
    ∃ g q cap, w.cell? ⟨l.B, l.o + o + 256, none⟩ = some (.slice (some ⟨g, q, none⟩) 3 cap) ∧ w.cell? ⟨g, q, none⟩ = some (.string { data := #[92] }) ∧ w.cell? ⟨g, q + 1, none⟩ = some (.string { data := #[34] }) ∧ w.cell? ⟨g, q + 2, none⟩ = some (.string { data := #[10] }) := by
  obtain ⟨v, h1, h2⟩ := onSome_t ht
  obtain ⟨g, q, n, sz, rfl, h3⟩ := onSlice_t h2
  obtain ⟨e1, h4⟩ := ifb_t h3
  obtain ⟨e2, h5⟩ := ifb_t h4
  obtain ⟨e3, h6⟩ := ifb_t h5
  obtain ⟨e4, e5⟩ := ifb_t h6
  obtain rfl := Nat.eq_of_beq_eq_true e1
  obtain rfl := Nat.eq_of_beq_eq_true e2
  obtain ⟨cv, hc, lg, hg, rfl⟩ := H.load1 hb h1
  refine ⟨_, _, _, by rw [Nat.add_assoc]; exact hc, isS_ok H hg e3, ?_, ?_⟩
  · rw [Nat.add_assoc]; exact isS_ok H hg e4
  · rw [Nat.add_assoc]; exact isS_ok H hg e5
theorem missB_ok (H : HR K σ own h w) {b : Pos} {l : Loc} (hb : σ b = some l) {o : Nat} : ∀ {n : Nat}, missB h b o n = true → ∀ c, c < n → c ≠ 10 → c ≠ 34 → c ≠ 92 → w.cell? ⟨l.B, l.o + o + c, none⟩ = some (.slice none 0 0)
  | 0, _, c, hc, _, _, _ => absurd hc (Nat.not_lt_zero _)
  | n + 1, ht, c, hc, h1, h2, h3 => by
    have ht : ifb (ifb (ifb (Nat.beq n 10) true (Nat.beq n 34)) true (Nat.beq n 92)) (missB h b o n) (ifb (onSome (h.load1 b (Nat.add o n)) (fun v => avB v .nilSlice) false) (missB h b o n) false) = true := ht
    by_cases e : c = n
    · subst e
      have hf : ifb (ifb (Nat.beq c 10) true (Nat.beq c 34)) true (Nat.beq c 92) = false := by
        have f1 : Nat.beq c 10 = false := by rw [← Bool.not_eq_true, Nat.beq_eq]; exact h1
        have f2 : Nat.beq c 34 = false := by rw [← Bool.not_eq_true, Nat.beq_eq]; exact h2
        have f3 : Nat.beq c 92 = false := by rw [← Bool.not_eq_true, Nat.beq_eq]; exact h3
        rw [f1, f2, f3]; rfl
      rw [hf] at ht
      obtain ⟨e1, _⟩ := ifb_t (show ifb (onSome (h.load1 b (Nat.add o c)) (fun v => avB v .nilSlice) false) (missB h b o c) false = true from ht)
      obtain ⟨v, h4, h5⟩ := onSome_t e1
      obtain rfl := avB_eq h5
      obtain ⟨cv, hc, hv⟩ := H.load1 hb h4
      have hv : cv = .slice none 0 0 := hv
      rw [Nat.add_assoc]
      subst hv
      exact hc
    · refine missB_ok H hb (n := n) ?_ c (by omega) h1 h2 h3
      cases e2 : ifb (ifb (Nat.beq n 10) true (Nat.beq n 34)) true (Nat.beq n 92) with
      | true => rw [e2] at ht; exact ht
      | false => rw [e2] at ht; exact (ifb_t (show ifb (onSome (h.load1 b (Nat.add o n)) (fun v => avB v .nilSlice) false) (missB h b o n) false = true from ht)).2
theorem repB_ok (H : HR K σ own h w) {b : Pos} {l : Loc} (hb : σ b = some l) {o : Nat} (ht : repB h b o = true) : RepV w l.B (l.o + o) := by
  obtain ⟨e1, h2⟩ := ifb_t ht
  obtain ⟨e2, h3⟩ := ifb_t h2
  obtain ⟨e3, h4⟩ := ifb_t h3
  obtain ⟨e4, e5⟩ := ifb_t h4
  refine ⟨fun c x hx => ?_, missB_ok H hb e5, torB_ok H hb e4⟩
  simp only [RepT, List.mem_cons, List.mem_nil_iff, or_false, Prod.mk.injEq] at hx
  rcases hx with ⟨rfl, rfl⟩ | ⟨rfl, rfl⟩ | ⟨rfl, rfl⟩
  · exact hitB_ok H hb e1
  · exact hitB_ok H hb e2
  · exact hitB_ok H hb e3
end
noncomputable def lookK (l : List (Nat × KnownY)) (f : Nat) : Option KnownY := List.rec none (fun p _ ih => Prod.rec (fun g k => ifb (Nat.beq f g) (some k) ih) p) l
theorem lookK_ok {P : Program} {K : Ctx} {ng : Nat} : ∀ {l : List (Nat × KnownY)}, (∀ p ∈ l, KnownYOK P K ng p.1 p.2) → ∀ f g, lookK l f = some g → KnownYOK P K ng f g
  | [], _, f, g, h => by cases h
  | (a, k) :: l, hl, f, g, h => by
    have h' : ifb (Nat.beq f a) (some k) (lookK l f) = some g := h
    cases e : Nat.beq f a with
    | true =>
      rw [e] at h'
      cases h'
      rw [Nat.eq_of_beq_eq_true e]
      exact hl _ List.mem_cons_self
    | false =>
      rw [e] at h'
      exact lookK_ok (fun p hp => hl p (List.mem_cons_of_mem _ hp)) f g h'
noncomputable def knQ : List (Nat × KnownY) := [(149, upK (loadI .u32)), (164, upK (turnI 0 1)), (165, upK (turnI 1 0)), (166, upK storeI)]
theorem knQ_ok {K : Ctx} {ng : Nat} : ∀ p ∈ knQ, KnownYOK Tryz.prog K ng p.1 p.2 := by
  intro p hp
  simp only [knQ, List.mem_cons, List.mem_nil_iff, or_false] at hp
  rcases hp with rfl | rfl | rfl | rfl
  · exact (loadI_ok ext149).up
  · exact lockI_ok.up
  · exact unlockI_ok.up
  · exact (storeI_ok ext166).up
noncomputable def cQ : Caller := detC (callG (lookK knQ) (fun _ => none) (FnP 0) (fun _ => false) 1000 100 noY)
theorem callQ {K : Ctx} (hK : K.codes = codesOf Tryz.prog) : CallOK Tryz.prog K 0 cQ := callG1_ok (lookK_ok knQ_ok) (fun f g h => by cases h) (funsP hK) 1000 100
theorem enters91 : Enters Tryz.prog 91 := enters_of Tryz.func91 (by kernel_rfl) (by kernel_rfl)
theorem enters57 : Enters Tryz.prog 57 := enters_of Tryz.func57 (by kernel_rfl) (by kernel_rfl)
theorem enters31 : Enters Tryz.prog 31 := enters_of Tryz.func31 (by kernel_rfl) (by kernel_rfl)
noncomputable def bindOk (r : Out (AV × AHeap)) (f : AV → AHeap → Out (AV × AHeap)) : Out (AV × AHeap) := Out.rec (motive := fun _ => Out (AV × AHeap)) (fun vh => Prod.rec (motive := fun _ => Out (AV × AHeap)) f vh) (fun _ _ => .fail) .fail r
theorem bindOk_nf {r : Out (AV × AHeap)} {f : AV → AHeap → Out (AV × AHeap)} (h : bindOk r f ≠ .fail) : ∃ v h', r = .ok (v, h') ∧ f v h' ≠ .fail := by
  cases r with
  | ok vh => obtain ⟨v, h'⟩ := vh; exact ⟨v, h', rfl, h⟩
  | panic v h' => exact absurd rfl h
  | fail => exact absurd rfl h
noncomputable def K57b (h' : AHeap) (u : AV) : Out (AV × AHeap) := u.onIface .fail (fun t p => ifb (Nat.beq t 210) (p.onPtr (fun b2 o2 => ifb (repB h' b2 o2) (.ok (.opq 1, h')) .fail) .fail) .fail) .fail
theorem K57b_nf {h' : AHeap} {u : AV} (hn : K57b h' u ≠ .fail) : ∃ b2 o2, u = .iface 210 (.ptr b2 o2) ∧ repB h' b2 o2 = true ∧ K57b h' u = .ok (.opq 1, h') := by
  cases u with
  | iface t p =>
    obtain ⟨e3, hn⟩ := ifb_nf (show (ifb (Nat.beq t 210) (p.onPtr (fun b2 o2 => ifb (repB h' b2 o2) (Out.ok (AV.opq 1, h')) .fail) .fail) .fail : Out (AV × AHeap)) ≠ .fail from hn)
    obtain rfl := Nat.eq_of_beq_eq_true e3
    obtain ⟨b2, o2, rfl, hn⟩ := onPtr_nf hn
    obtain ⟨e4, hn⟩ := ifb_nf hn
    refine ⟨b2, o2, rfl, e4, ?_⟩
    show (ifb (Nat.beq 210 210) (ifb (repB h' b2 o2) (Out.ok (AV.opq 1, h')) .fail) .fail : Out (AV × AHeap)) = _
    rw [e4]
    rfl
  | _ => exact absurd rfl hn
noncomputable def K57 : Known := fun args h =>
  match args with
  | [x, y] => ifb (avB y (.opq 0)) (x.onPtr (fun b o => bindOk (cQ 91 [.ptr b o, .func (.func 92) [.ptr b o] []] h) (fun v h' => ifb (avB v (.tup [])) (onSome (h'.load1 b (Nat.add o 3)) (fun u => K57b h' u) .fail) .fail)) .fail) .fail
  | _ => .fail
theorem K57_shape {x y : AV} {h : AHeap} (hn : K57 [x, y] h ≠ .fail) : ∃ b o h' b2 o2, x = .ptr b o ∧ y = .opq 0 ∧ cQ 91 [.ptr b o, .func (.func 92) [.ptr b o] []] h = .ok (.tup [], h') ∧
    h'.load1 b (o + 3) = some (.iface 210 (.ptr b2 o2)) ∧ repB h' b2 o2 = true ∧ K57 [x, y] h = .ok (.opq 1, h') := by
  have hdef : K57 [x, y] h = ifb (avB y (.opq 0)) (x.onPtr (fun b o => bindOk (cQ 91 [.ptr b o, .func (.func 92) [.ptr b o] []] h) (fun v h' => ifb (avB v (.tup [])) (onSome (h'.load1 b (Nat.add o 3)) (fun u => K57b h' u) .fail) .fail)) .fail) .fail := rfl
  rw [hdef] at hn ⊢
  clear hdef
  obtain ⟨e0, hn⟩ := ifb_nf hn
  obtain ⟨b, o, rfl, hn⟩ := onPtr_nf hn
  obtain ⟨v, h', e1, hn⟩ := bindOk_nf (show bindOk (cQ 91 [.ptr b o, .func (.func 92) [.ptr b o] []] h) (fun v h' => ifb (avB v (.tup [])) (onSome (h'.load1 b (Nat.add o 3)) (fun u => K57b h' u) .fail) .fail) ≠ .fail from hn)
  obtain ⟨e2, hn⟩ := ifb_nf hn
  obtain ⟨u, e3, hn⟩ := onSome_nf hn
  obtain ⟨b2, o2, rfl, e4, e5⟩ := K57b_nf hn
  rw [e0]
  obtain rfl := avB_eq e0
  refine ⟨b, o, h', b2, o2, rfl, rfl, ?_, e3, e4, ?_⟩
  · rw [e1, avB_eq e2]
  · show bindOk (cQ 91 [.ptr b o, .func (.func 92) [.ptr b o] []] h) (fun v h' => ifb (avB v (.tup [])) (onSome (h'.load1 b (Nat.add o 3)) (fun u => K57b h' u) .fail) .fail) = _
    rw [e1]
    show ifb (avB v (.tup [])) (onSome (h'.load1 b (Nat.add o 3)) (fun u => K57b h' u) .fail) .fail = _
    rw [e2, e3]
    exact e5
theorem K57_ok {K : Ctx} (hK : K.codes = codesOf Tryz.prog) {s : ByteArray} (hs : s.size ≤ 1048576) (h0 : K.opq 0 = .string s) (h1 : K.opq 1 = .string ⟨(s.data.toList.flatMap quoteB).toArray⟩) : KnownOK Tryz.prog K 0 57 K57 := by
  intro σ own w h args cargs hg hH ha hf
  obtain ⟨cl⟩ := cargs
  simp only at ha
  match args, cl, ha, hf with
  | [], _, _, hf => exact absurd rfl hf
  | [_], _, _, hf => exact absurd rfl hf
  | _ :: _ :: _ :: _, _, _, hf => exact absurd rfl hf
  | [x, y], _, ⟨vx, _, rfl, hx, vy, _, rfl, hy, hz⟩, hf =>
    have hz : _ = [] := hz
    subst hz
    obtain ⟨b, o, h', b2, o2, rfl, rfl, hc, hl, hrep, hr⟩ := K57_shape hf
    rw [hr]
    have hx0 := hx
    obtain ⟨l, hb, rfl⟩ := hx
    have hy : vy = K.opq 0 := hy
    rw [h0] at hy
    subst hy
    have h91 := calls_of enters91 ((callQ hK).fn σ own w h 91 [.ptr b o, .func (.func 92) [.ptr b o] []] #[.pointer (some ⟨l.B, l.o + o, none⟩), .func (.func 92) #[.pointer (some ⟨l.B, l.o + o, none⟩)] #[]] (by decide) hg hH
      (VRs.cons hx0 (VRs.cons ⟨_, _, rfl, VRs.cons hx0 VRs.nil, VRs.nil⟩ VRs.nil)) (by rw [hc]; intro e; cases e))
    rw [hc] at h91
    have H91 := Lib.hid h91
    have HREP := Lib.hid hrep
    have HL := Lib.hid hl
    have HB := Lib.hid hb
    have HO1 := Lib.hid h1
    refine .inl ⟨enters57, ?_⟩
    have hmf : ∀ (fn : Fn) (first cap : Array Value) (w : World), (Instr.makeFunc fn first cap).run Tryz.prog w = .ok (.func fn first cap) w := fun _ _ _ _ => rfl
    have key : ∀ (w' : World) (B2 O2 : Nat), w'.cell? ⟨l.B, l.o + o + 3, none⟩ = some (.iface 210 (.pointer (some ⟨B2, O2, none⟩))) → RepV w' B2 O2 → Calls Tryz.prog 220 #[.pointer (some ⟨B2, O2, none⟩), .string s] w' fun e w2 => e = .returned (.string ⟨(s.data.toList.flatMap quoteB).toArray⟩) ∧ Below w'.heap.size w' w2 := fun w' B2 O2 _ hR => rep_ok s hs hR
    have HKEY := Lib.hid key
    clear h91 hrep hl hb hr hx0 hH hg h0 h1 hc key hf hs
    go_enter Tryz.func57, Tryz.ntmps57
    go_wp2_with fail
    refine H91.out.mono ?_
    rintro e w' ⟨vc, rfl, σ', own', hv, hgw, hH'⟩
    obtain ⟨vx, rfl, hvx⟩ := hv
    have hvx : vx.toList = [] := hvx
    obtain ⟨c, hcell, y, rfl, l2, hb2, rfl⟩ := hH'.load1 (hgw.1 _ _ HB.out) HL.out
    have hcell' : w'.cell? ⟨l.B, l.o + o + 3, none⟩ = some (.iface 210 (.pointer (some ⟨l2.B, l2.o + o2, none⟩))) := by rw [Nat.add_assoc]; exact hcell
    have HR2 := Lib.hid (HKEY.out w' _ _ hcell' (repB_ok hH' hb2 HREP.out))
    have HH' := Lib.hid hH'
    have HGW := Lib.hid hgw
    clear hH' hgw hcell
    go_wp2_with fail
    refine HR2.out.mono ?_
    rintro e w2 ⟨rfl, hb3⟩
    have HB3 := Lib.hid hb3
    clear hb3
    go_wp2
    go_ret
    exact ⟨_, rfl, σ', own', HO1.out.symm, HGW.out, HH'.out.grownWorld HB3.out⟩
noncomputable def OQ : Op → List AV → Option AV := fun op vs =>
  match op with
  | .binOp .add _ _ _ _ => match vs with
    | [x, y] => ifb (avB x (.str 1 34)) (ifb (avB y (.opq 1)) (some (.opq 2)) none) (ifb (avB x (.opq 2)) (ifb (avB y (.str 1 34)) (some (.opq 3)) none) none)
    | _ => none
  | _ => none
theorem ifb_o {c : Bool} {x : Option AV} {z : AV} (h : ifb c x none = some z) : c = true ∧ x = some z := by
  cases c
  · cases h
  · exact ⟨rfl, h⟩
structure OpqQ (K : Ctx) (a b c d : ByteArray) : Prop where
  o0 : K.opq 0 = .string a
  o1 : K.opq 1 = .string b
  o2 : K.opq 2 = .string c
  o3 : K.opq 3 = .string d
  e2 : c = bytesOf 1 34 ++ b
  e3 : d = c ++ bytesOf 1 34
  sz : b.size ≤ 4194304
theorem orcQ {K : Ctx} {a b c d : ByteArray} (H : OpqQ K a b c d) : OrcOK Tryz.prog K OQ := by
  intro op vs z h σ ρ w dst ty pos af gd hv
  unfold OQ at h
  split at h
  · rename_i t x y t'
    split at h
    · rename_i u v
      obtain ⟨cx, _, e1, hx, cy, _, rfl, hy, _⟩ := hv
      simp only [orcArgs, List.map_cons, List.map_nil, List.cons.injEq] at e1
      obtain ⟨rfl, rfl, rfl⟩ := e1
      have hzz : b.size ≤ 4194304 := H.sz
      cases ex : avB u (.str 1 34) with
      | true =>
        rw [ex] at h
        obtain ⟨ey, h⟩ := ifb_o (show ifb (avB v (.opq 1)) (some (.opq 2)) none = some z from h)
        cases h
        obtain rfl := avB_eq ex
        obtain rfl := avB_eq ey
        have hx1 : ρ x = .string (bytesOf 1 34) := hx.1
        have hy1 : ρ y = .string b := (show ρ y = K.opq 1 from hy).trans H.o1
        refine ⟨.string c, ?_, H.o2.symm⟩
        have hsz : ¬ ((((bytesOf 1 34).size + b.size : Nat) : Int) > IntKind.i64.max) := by
          rw [bytesOf_size, IntKind.max_i64]; omega
        rw [H.e2]
        simp only [execOp, hx1, hy1, binOp_string_add, eqGuard_add, Op.stringOp, if_neg hsz]
        simp
      | false =>
        rw [ex] at h
        obtain ⟨eu, h⟩ := ifb_o (show ifb (avB u (.opq 2)) (ifb (avB v (.str 1 34)) (some (.opq 3)) none) none = some z from h)
        obtain ⟨ev, h⟩ := ifb_o h
        cases h
        obtain rfl := avB_eq eu
        obtain rfl := avB_eq ev
        have hy1 : ρ y = .string (bytesOf 1 34) := hy.1
        have hx1 : ρ x = .string c := (show ρ x = K.opq 2 from hx).trans H.o2
        refine ⟨.string d, ?_, H.o3.symm⟩
        have hcs : c.size = 1 + b.size := by rw [H.e2, ByteArray.size_append, bytesOf_size]
        have hsz : ¬ (((c.size + (bytesOf 1 34).size : Nat) : Int) > IntKind.i64.max) := by
          rw [bytesOf_size, IntKind.max_i64]; omega
        rw [H.e3]
        simp only [execOp, hx1, hy1, binOp_string_add, eqGuard_add, Op.stringOp, if_neg hsz]
        simp
    · cases h
  · cases h
noncomputable def poQ : PO := ⟨[], OQ, fun _ => false⟩
noncomputable def flQ : List (Nat × Func) := [(31, Tryz.f31), (56, Tryz.f56)]
theorem flQ_ok : ∀ p ∈ flQ, Tryz.prog.funcs[p.1]? = some p.2 := by
  simp only [flQ, List.forall_mem_cons]
  exact ⟨Tryz.func31, Tryz.func56, fun p hp => by cases hp⟩
noncomputable def FnQ : Nat → Option AFun := funs 0 cstA TP poQ (fun _ => false) flQ
theorem funsQ {K : Ctx} {a b c d : ByteArray} (H : OpqQ K a b c d) (hK : K.codes = codesOf Tryz.prog) : ∀ f fn, FnQ f = some fn → FunOK Tryz.prog K 0 f fn := funs_ok cst_ok TP_ok ⟨fun t ht => (by cases ht), orcQ H, fun f h => (by cases h)⟩ mixP hK flQ_ok
noncomputable def cR : Caller := detC (callG (lookK [(57, upK K57)]) (fun _ => none) FnQ (fun _ => false) 1000 100 noY)
noncomputable def hQ : AHeap := ⟨posOf 1, .nil, .nil⟩
noncomputable def isO (n : Nat) (r : Out (AV × AHeap)) : Bool := Out.rec (fun vh => Prod.rec (fun v _ => avB v (.opq n)) vh) (fun _ _ => false) false r
theorem isO_eq {n : Nat} {r : Out (AV × AHeap)} (h : isO n r = true) : ∃ h', r = .ok (.opq n, h') := by
  cases r with
  | ok vh => obtain ⟨v, h'⟩ := vh; exact ⟨h', by rw [avB_eq (show avB v (.opq n) = true from h)]⟩
  | panic v h' => cases h
  | fail => cases h
set_option maxRecDepth 10000000 in
theorem runQ : isO 3 (cR 31 [.opq 0] hQ) = true := by kernel_rfl
def opqs (a b c d : ByteArray) : Nat → Value
  | 0 => .string a
  | 1 => .string b
  | 2 => .string c
  | _ => .string d
theorem opqs_scal (a b c d : ByteArray) : ∀ i, (opqs a b c d i).cells = #[opqs a b c d i] ∧ ∀ x, opqs a b c d i ≠ .tuple x
  | 0 => ⟨rfl, fun _ h => by cases h⟩
  | 1 => ⟨rfl, fun _ h => by cases h⟩
  | 2 => ⟨rfl, fun _ h => by cases h⟩
  | _ + 3 => ⟨rfl, fun _ h => by cases h⟩
noncomputable def ctxQ (w : World) (a b c d : ByteArray) : Ctx := ⟨w.heap.size, w, opqs a b c d, fun i => (opqs_scal a b c d i).1, fun i => (opqs_scal a b c d i).2, codesOf Tryz.prog, fun _ => ([], 0)⟩
theorem quote_ok {W0 : World} : QuoteV W0 := by
  intro W s hs hB
  clear hB
  have hfl : (s.data.toList.flatMap quoteB).length ≤ 2097152 := by
    have h2 := flat_le s.data.toList
    have h3 : s.data.toList.length ≤ 1048576 := by rw [Array.length_toList]; exact hs
    omega
  have HO : OpqQ (ctxQ W s ⟨(s.data.toList.flatMap quoteB).toArray⟩ (bytesOf 1 34 ++ ⟨(s.data.toList.flatMap quoteB).toArray⟩) (bytesOf 1 34 ++ ⟨(s.data.toList.flatMap quoteB).toArray⟩ ++ bytesOf 1 34)) s ⟨(s.data.toList.flatMap quoteB).toArray⟩ (bytesOf 1 34 ++ ⟨(s.data.toList.flatMap quoteB).toArray⟩) (bytesOf 1 34 ++ ⟨(s.data.toList.flatMap quoteB).toArray⟩ ++ bytesOf 1 34) :=
    ⟨rfl, rfl, rfl, rfl, rfl, rfl, by show (s.data.toList.flatMap quoteB).toArray.size ≤ _; rw [List.size_toArray]; omega⟩
  have hC := callG1_ok (P := Tryz.prog) (ng := 0) (I := lookK [(57, upK K57)]) (ID := fun _ => none) (F := FnQ) (J := fun _ => false) (lookK_ok (fun p hp => by
    rcases List.mem_cons.1 hp with rfl | hp
    · exact (K57_ok rfl hs HO.o0 HO.o1).up
    · cases hp)) (fun f g h => by cases h) (funsQ HO rfl) 1000 100
  obtain ⟨h', hr⟩ := isO_eq runQ
  have hH : HR (ctxQ W s ⟨(s.data.toList.flatMap quoteB).toArray⟩ (bytesOf 1 34 ++ ⟨(s.data.toList.flatMap quoteB).toArray⟩) (bytesOf 1 34 ++ ⟨(s.data.toList.flatMap quoteB).toArray⟩ ++ bytesOf 1 34)) (envOf fun _ => none) (fun _ => none) hQ W :=
    HR.of_rows (next := 1) (rows := []) rfl rfl (fun i hi => rfl) (fun p hp => by cases hp)
  have h := calls_of enters31 (hC.fn _ _ W hQ 31 [.opq 0] #[.string s] (by decide) (globs_of fun g hg => absurd hg (Nat.not_lt_zero _)) hH (VRs.cons rfl VRs.nil) (by show cR 31 [.opq 0] hQ ≠ .fail; rw [hr]; intro e; cases e))
  refine h.mono ?_
  intro e w' hb
  have hb : Back _ _ hQ (cR 31 [.opq 0] hQ) e w' := hb
  rw [hr] at hb
  obtain ⟨vc, rfl, σ', own', hv, hg, hH'⟩ := hb
  have hv : vc = .string (bytesOf 1 34 ++ ⟨(s.data.toList.flatMap quoteB).toArray⟩ ++ bytesOf 1 34) := hv
  refine ⟨?_, hH'.below⟩
  rw [hv]
  congr 2
end Go.Eng
