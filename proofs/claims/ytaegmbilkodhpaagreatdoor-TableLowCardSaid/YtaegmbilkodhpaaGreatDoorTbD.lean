/- A part of the proof of TableLow: what a function of the program answers, walked by hand. Each theorem says its own conditions. -/
import Derived.Test.YtaegmbilkodhpaaGreatDoorTbC
import Derived.Test.YtaegmbilkodhpaaGreatDoorTbB
import Derived.StillTactics
set_option linter.unusedVariables false
set_option linter.unusedSimpArgs false
set_option maxRecDepth 100000
set_option maxHeartbeats 1600000
namespace Go.Tb
open Go Go.RowKit Go.Proofs Go.Maps Go.Sort
theorem least (h : Nat → Bool) (M : Nat) (he : h (M + 1) = false) : ∃ q, 1 ≤ q ∧ q ≤ M + 1 ∧ h q = false ∧ ∀ y, 1 ≤ y → y < q → h y = true := by
  induction M using Nat.strongRecOn with
  | _ M ih =>
    by_cases hall : ∀ x, 1 ≤ x → x < M + 1 → h x = true
    · exact ⟨M + 1, by omega, Nat.le_refl _, he, hall⟩
    · have : ∃ x, 1 ≤ x ∧ x ≤ M ∧ h x = false := by
        apply Classical.byContradiction
        intro hn
        apply hall
        intro x h1 h2
        cases e3 : h x with
        | true => rfl
        | false => exact absurd ⟨x, h1, by omega, e3⟩ hn
      obtain ⟨x, h1, h2, h3⟩ := this
      obtain ⟨q, k1, k2, k3, k4⟩ := ih (x - 1) (by omega) (by rw [show x - 1 + 1 = x by omega]; exact h3)
      exact ⟨q, k1, by omega, k3, k4⟩
def RdB (w : World) (v : Value) (bs : List Nat) : Prop := ∃ a c, v = .slice a bs.length c ∧ ∀ (j x : Nat), bs[j]? = some x → x < 256 ∧ ∃ ad : Addr, a = some ad ∧ w.cell? (ad.add j) = some (.int .u8 (x : Int))
theorem RdB.keep {w w' : World} {v : Value} {bs : List Nat} (h : RdB w v bs) (hb : Below w.heap.size w w') : RdB w' v bs := by
  obtain ⟨a, c, e, hc⟩ := h
  exact ⟨a, c, e, fun j x hj => by obtain ⟨h1, ad, e2, h2⟩ := hc j x hj; exact ⟨h1, ad, e2, cells_below hb _ _ h2⟩⟩
def hasN (E : DataW Value) (x : Nat) : Bool := Maps.has E (.int .i64 (x : Int))
end Go.Tb
namespace Go.Tb
open Go Go.RowKit Go.Proofs Go.Maps Go.Sort
theorem keys_nodup {w : World} {b n : Nat} {E : DataW Value} (h : w.ownsMap Tryz.prog 3 heldR b n E) : (intKeys E).Nodup := by
  obtain ⟨es, hD, hp, _⟩ := h.entries key3
  obtain ⟨es', hD', hko⟩ := h.keysOf
  obtain rfl : es = es' := by rw [hD] at hD'; simpa using hD'
  subst hD
  have hk : ∀ p ∈ es, ∃ x, p.1 = .int .i64 x := fun p hp => by obtain ⟨v, hv⟩ := hko p hp; obtain ⟨x, _, hx, _⟩ := Maps.keyOf_i64 Tryz.underlying3 hv; exact ⟨x, hx⟩
  show (es.map fun p => intOf p.1).Nodup
  refine List.pairwise_map.2 (hp.imp_of_mem fun {p q} hp' hq' hne e => hne ?_)
  obtain ⟨a, ha⟩ := hk p hp'
  obtain ⟨b, hb⟩ := hk q hq'
  rw [ha, hb] at e ⊢
  exact congrArg _ e
theorem sorted_lt {ss : List Int} (h : ss.Nodup) {i : Nat} {x y : Int} (hx : (ss.mergeSort (fun x y => decide (x ≤ y)))[i]? = some x) (hy : (ss.mergeSort (fun x y => decide (x ≤ y)))[i + 1]? = some y) : x < y := by
  have tr : ∀ a b c : Int, decide (a ≤ b) = true → decide (b ≤ c) = true → decide (a ≤ c) = true := fun a b c h1 h2 => by simp only [decide_eq_true_eq] at *; exact Int.le_trans h1 h2
  have to : ∀ a b : Int, (decide (a ≤ b) || decide (b ≤ a)) = true := fun a b => by simp only [Bool.or_eq_true, decide_eq_true_eq]; exact Int.le_total a b
  have hp := List.pairwise_mergeSort tr to ss
  have hn : (ss.mergeSort (fun x y => decide (x ≤ y))).Nodup := (List.mergeSort_perm ss _).nodup_iff.2 h
  generalize ss.mergeSort (fun x y => decide (x ≤ y)) = l at *
  obtain ⟨h1, rfl⟩ := List.getElem?_eq_some_iff.1 hx
  obtain ⟨h2, rfl⟩ := List.getElem?_eq_some_iff.1 hy
  have hle := (List.pairwise_iff_getElem.1 hp) i (i + 1) h1 h2 (by omega)
  have hne := (List.pairwise_iff_getElem.1 hn) i (i + 1) h1 h2 (by omega)
  simp only [decide_eq_true_eq] at hle
  omega
end Go.Tb
set_option maxHeartbeats 3200000
namespace Go.Tb
open Go Go.RowKit Go.Proofs Go.Maps Go.Sort
def Start (G : World → Prop) : Prop := ∀ w, G w → Calls Tryz.prog 6 #[.int .i64 130] w fun e w1 => ∃ dv sb, e = .returned (.tuple #[dv, .pointer (some ⟨sb, 0, none⟩)]) ∧
  Hid (Calls Tryz.prog 7 #[.pointer (some ⟨sb, 0, none⟩)] w1 fun e2 w2 => ∃ tb, e2 = .returned (.tuple #[.pointer (some ⟨tb, 0, none⟩), .int .i64 0]) ∧ Hid ((∃ eb b D K, TbV w.heap.size w2 tb eb b (.map []) 0 D 0 (fun _ => 0) K) ∧ Below w.heap.size w w2))
def Works (G : World → Prop) : Prop := ∀ w, G w → Calls Tryz.prog 8 #[] w fun e w' => e = .returned (.bool true) ∧ Hid (Below w.heap.size w w')
def St (w : World) (tb : Nat) (P : DataW Value → Nat → Nat → Prop) (wr : World) : Prop := ∃ eb b E n D nf fo K, TbV w.heap.size wr tb eb b E n D nf fo K ∧ Below w.heap.size w wr ∧ P E n nf
theorem wrap1 {y : Nat} (h : y < 1000) : wrap64 (1 + (y : Int)) = 1 + (y : Int) := by simp [wrap64]; omega
theorem mod_n {many : Nat} (h : many < 256) : (wrap64 (many : Int)).tmod 200 = ((many % 200 : Nat) : Int) := by
  have h1 : wrap64 (many : Int) = (many : Int) := by simp [wrap64]; omega
  rw [h1]; rfl
theorem hasN_put {E : DataW Value} (hi : IsMap E) (x i : Nat) (d : DataW Value) : hasN (E.put (.int .i64 (i : Int)) d) x = (decide (x = i) || hasN E x) := by
  unfold hasN
  by_cases e : x = i
  · subst e; rw [has_put_same hi (show WideAt.IsKeyLit (.int .i64 (x : Int)) from trivial)]; simp
  · rw [has_put_other (nat_lit_ne e)]; simp [e]
def P1 (i : Nat) (E : DataW Value) (nE nf : Nat) : Prop := (∀ x, hasN E x = decide (1 ≤ x ∧ x < i)) ∧ nE ≤ i ∧ nf ≤ (i + 60) / 62
theorem set_step (hF : Fours) (hP : PutC) {w wr : World} {tb eb : Nat} {b : Blk} {E : DataW Value} {n : Nat} {D : DataW Value} {nf : Nat} {fo : Nat → Nat} {K : Nat → Prop} (H : TbV w.heap.size wr tb eb b E n D nf fo K) (hb : Below w.heap.size w wr) {i : Nat} (hi : 1 ≤ i ∧ i < 200) (hp : P1 i E n nf) :
    Calls Tryz.prog 9 #[.pointer (some ⟨tb, 0, none⟩)] wr (fun e w' => e = .returned (.tuple #[.int .i64 (i : Int), .bool true]) ∧ Hid (Below wr.heap.size wr w')) ∧
    ∀ W, Hid (Below wr.heap.size wr W) → Calls Tryz.prog 10 #[.pointer (some ⟨tb, 0, none⟩), .int .i64 (i : Int), .int .i64 300, .int .i64 (i : Int)] W fun e w' => e = .returned (.int .i64 0) ∧ Hid (St w tb (P1 (i + 1)) w') := by
  obtain ⟨h1, h2, h3⟩ := hp
  refine ⟨(low_ok H.t1 H.ev (q := i) (by omega) (by have := h1 i; unfold hasN at this; rw [this]; simp) (fun x k1 k2 => by have := h1 x; unfold hasN at this; rw [this]; simp; omega)).mono fun e w' ⟨k1, k2⟩ => ⟨k1, Lib.hid k2⟩, fun W hW => ?_⟩
  refine (tset_ok hF hP (H.below hW.out) (x := i) (pg := 300) (sl := i) (by omega) (by decide) (by omega) (by omega) (by omega)).mono ?_
  rintro e w' ⟨rfl, D', nf', fo', hT, hB, hL⟩
  refine ⟨rfl, Lib.hid ⟨eb, b, _, _, D', nf', fo', K, hT, (hb.trans (Below.down hW.out hb.size)).trans hB, fun x => ?_, by omega, ?_⟩⟩
  · rw [hasN_put H.ev.own.isMap, h1]
    rw [Bool.eq_iff_iff]; simp; omega
  · rcases hL with ⟨_, rfl, _⟩ | ⟨k1, k2, _⟩ | ⟨k1, _⟩
    · omega
    · have : (i - 1) % 62 = 0 := by
        apply Classical.byContradiction
        intro hne
        have k3 := H.cov (i - 1) (by have := h1 (i - 1); unfold hasN at this; rw [this]; simp; omega)
        rw [show (i - 1 - 1) / 62 = (i - 1) / 62 by omega] at k3
        exact k3.2 k1
      omega
    · exact k1.elim
def P2 (n : Nat) (E : DataW Value) (nE nf : Nat) : Prop := (∀ x, hasN E x = true → 1 ≤ x ∧ x ≤ n) ∧ nE ≤ 200 ∧ nf < 20
theorem P1.p2 {n : Nat} {E : DataW Value} {nE nf : Nat} (h : P1 (n + 1) E nE nf) (hn : n < 200) : P2 n E nE nf :=
  ⟨fun x hx => by have := h.1 x; rw [hx] at this; have := of_decide_eq_true this.symm; omega, by have := h.2.1; omega, by have := h.2.2; omega⟩
theorem clear_step (hF : Fours) (hP : PutC) {w wr : World} {tb n : Nat} (hn : n < 200) (H : St w tb (P2 n) wr) {x : Nat} (hx : 1 ≤ x ∧ x ≤ n) :
    Calls Tryz.prog 11 #[.pointer (some ⟨tb, 0, none⟩), .int .i64 (x : Int)] wr fun e w' => ∃ c : Int, e = .returned (.int .i64 c) ∧ Hid (St w tb (P2 n) w') := by
  obtain ⟨eb, b, E, nE, D, nf, fo, K, hT, hB, h1, h2, h3⟩ := H
  refine (tclear_ok hF hP hT (x := x) (by omega) h3).mono ?_
  rintro e w' ⟨⟨c, rfl⟩, E', D', fo', hT', hB', hs⟩
  exact ⟨c, rfl, Lib.hid ⟨eb, b, E', nE, D', nf, fo', K, hT', hB.trans hB', fun x hx => h1 x (hs _ hx), h2, h3⟩⟩
structure Ends (w wr : World) (tb q : Nat) : Prop where
  q1 : 1 ≤ q ∧ q ≤ 200
  low : ∀ W, Below wr.heap.size wr W → Calls Tryz.prog 9 #[.pointer (some ⟨tb, 0, none⟩)] W fun e w' => e = .returned (.tuple #[.int .i64 (q : Int), .bool true]) ∧ Hid (Below wr.heap.size wr w')
  get : ∀ W (x : Nat), Below wr.heap.size wr W → 1 ≤ x ∧ x ≤ q → Calls Tryz.prog 12 #[.pointer (some ⟨tb, 0, none⟩), .int .i64 (x : Int)] W fun e w' => ∃ p s : Int, e = .returned (.tuple #[.int .i64 p, .int .i64 s, .bool (decide ((x : Int) < (q : Int)))]) ∧ Hid (Below wr.heap.size wr w')
  oids : ∀ W, Below wr.heap.size wr W → Calls Tryz.prog 13 #[.pointer (some ⟨tb, 0, none⟩)] W fun e w' => ∃ (v : Value) (ss : List Int), e = .returned v ∧ Hid (ss.Nodup ∧ ss.length ≤ 1000 ∧ w'.ownsRow W.heap.size 3 1 v ss.length ((ss.mergeSort (fun x y => decide (x ≤ y))).map encZ) ∧ Below wr.heap.size wr w')
  below : Below w.heap.size w wr
theorem P2.ends {w wr : World} {tb n : Nat} (hn : n < 200) (H : St w tb (P2 n) wr) : ∃ q, Ends w wr tb q := by
  obtain ⟨eb, b, E, nE, D, nf, fo, K, hT, hB, hPi⟩ := H
  have he : hasN E (n + 1) = false := by
    cases e : hasN E (n + 1) with
    | false => rfl
    | true => have := hPi.1 _ e; omega
  obtain ⟨q, hq1, hq2, hq3, hq4⟩ := least (hasN E) n he
  have hget : ∀ x : Nat, 1 ≤ x ∧ x ≤ q → Maps.has E (.int .i64 (x : Int)) = decide ((x : Int) < (q : Int)) := fun x hx => by
    by_cases e : x = q
    · rw [e]; rw [show Maps.has E (.int .i64 (q : Int)) = false from hq3]; simp
    · rw [show Maps.has E (.int .i64 (x : Int)) = true from hq4 x hx.1 (by omega)]; symm; simp; omega
  have hne : nE ≤ 200 := hPi.2.1
  refine ⟨q, by omega, fun W hWb => ?_, fun W x hWb hx => ?_, fun W hWb => ?_, hB⟩
  · exact (low_ok (hT.below hWb).t1 (hT.below hWb).ev (q := q) (by omega) hq3 (fun x k1 k2 => hq4 x k1 k2)).mono fun e w' ⟨k1, k2⟩ => ⟨k1, Lib.hid (Below.up hWb k2)⟩
  · refine (tget_ok (hT.below hWb).t1 (hT.below hWb).ev (x := x) (by omega)).mono ?_
    rintro e w' ⟨⟨p, s, k1⟩, k2⟩
    rw [hget x hx] at k1
    exact ⟨p, s, k1, Lib.hid (Below.up hWb k2)⟩
  · refine (oids_ok (hT.below hWb).t1 (hT.below hWb).ev (by omega)).mono ?_
    rintro e w' ⟨v, ss, k1, k2, k3, k4⟩
    have hlen : ss.length ≤ 1000 := by
      have h1 := k2.length_eq
      have h2 := hT.ev.own.size_le
      have h3 : (intKeys E).length = Maps.size E := by
        obtain ⟨es, hD, _⟩ := hT.ev.own.entries key3
        subst hD; simp [intKeys, Maps.size]
      omega
    exact ⟨v, ss, k1, Lib.hid ⟨k2.nodup_iff.2 (keys_nodup hT.ev.own), hlen, k3, Below.up hWb k4⟩⟩
theorem pair_cells {W : World} {base len : Nat} {a : Option Addr} {c : Nat} {ss : List Int} (hnd : ss.Nodup) (hlen : len = ss.length) (ho : W.ownsRow base 3 1 (.slice a len c) len ((ss.mergeSort (fun x y => decide (x ≤ y))).map encZ)) {k : Nat} (h1 : 1 ≤ k) (h2 : k < len) :
    ∃ (ad : Addr) (x y : Int) (k' : Nat), a = some ad ∧ W.cell? (ad.add k') = some (.int .i64 x) ∧ W.cell? (ad.add k) = some (.int .i64 y) ∧ x < y ∧ (k : Int) - 1 = (k' : Int) ∧ k' < len := by
  have hl : (ss.mergeSort (fun x y => decide (x ≤ y))).length = len := by rw [List.length_mergeSort, hlen]
  obtain ⟨x, hx⟩ : ∃ x, (ss.mergeSort (fun x y => decide (x ≤ y)))[k - 1]? = some x := ⟨_, List.getElem?_eq_getElem (by omega)⟩
  obtain ⟨y, hy⟩ : ∃ y, (ss.mergeSort (fun x y => decide (x ≤ y)))[k - 1 + 1]? = some y := ⟨_, List.getElem?_eq_getElem (by omega)⟩
  have hlt := sorted_lt hnd hx hy
  rw [show k - 1 + 1 = k by omega] at hy
  have ho2 := ho
  rcases ho2.2 with ⟨h3, h0⟩ | ⟨g, cap, cur, h3, hg, _⟩
  · omega
  · injection h3 with h3 h4 h5
    subst h3; subst h5
    exact ⟨_, x, y, k - 1, rfl, ho.cells rfl (k - 1) (encZ x) (by simp [hx]), ho.cells rfl k (encZ y) (by simp [hy]), hlt, by omega, by omega⟩
theorem low_law (G : World → Prop) (hG : ∀ w w', G w → Below w.heap.size w w' → G w') (hF : Fours) (hP : PutC) (hS : Start G) (hW : Works G) {w : World} (hw : G w) {many : Nat} (hm : many < 256) {cv : Value} {bs : List Nat} (hc : RdB w cv bs) :
    Calls Tryz.prog 3 #[.int .u8 (many : Int), cv] w fun e w' => e = .returned (.bool true) ∧ Below w.heap.size w w' := by
  obtain ⟨ca, cc, rfl, hcells⟩ := hc
  have HC := Lib.hid hcells
  have S := Lib.hid (hS w hw)
  have HW := Lib.hid (fun w' (hb : Below w.heap.size w w') => hW w' (hG w w' hw hb))
  have HM := Lib.hid hm
  clear hcells hS hW hw hm hG
  obtain ⟨N, hN⟩ : ∃ N, N = bs.length := ⟨_, rfl⟩
  rw [← hN]
  have HN := Lib.hid hN
  clear hN
  by_cases h100 : N ≤ 100
  · have i1 : ¬ (100 : Int) < (N : Int) := by omega
    have i2 : decide ((100 : Int) < (N : Int)) = false := by simpa using i1
    go_enter Tryz.func3, Tryz.ntmps3
    go_upto_region 12 with (first
      | (go_at_call 6; refine S.out.mono ?_; rintro e w1 ⟨dv, sb, rfl, HT⟩)
      | (go_at_call 7; refine HT.out.mono ?_; rintro e w2 ⟨tb, rfl, HB2⟩))
    rw [mod_n HM.out]
    have hn200 : many % 200 < 200 := Nat.mod_lt _ (by decide)
    generalize many % 200 = n at hn200 ⊢
    go_loopw [10] (fun v wr => ∃ i : Nat, v = .int .i64 i ∧ 1 ≤ i ∧ i ≤ n + 1 ∧ St w tb (P1 i) wr) (fun v _ => n + 2 - (Go.RowKit.intOf v).toNat)
    case atStart =>
      obtain ⟨⟨eb, b, D, K, hT⟩, hB⟩ := HB2.out
      exact ⟨1, rfl, by omega, by omega, eb, b, _, _, D, _, _, K, hT, hB, fun x => by simp [hasN, Maps.has]; omega, by omega, by omega⟩
    case round =>
      obtain ⟨i, rfl, hi1, hi2, hSt⟩ := hrel
      have HSt := Lib.hid hSt
      by_cases ei : i = n + 1
      · have hii : ¬ (i : Int) ≤ (n : Int) := by omega
        have HEI := Lib.hid ei
        clear hSt ei
        go_wp2_with fail
        have hnn : Hid (n < 200) := Lib.hid hn200
        go_loopw [13] (fun v wr => ∃ j : Nat, v = .int .i64 j ∧ j ≤ N ∧ St w tb (P2 n) wr) (fun v _ => N - (Go.RowKit.intOf v).toNat)
        case atStart =>
          obtain ⟨eb, b, E, nE, D, nf, fo, K, hT, hB, hPi⟩ := HSt.out
          rw [HEI.out] at hPi
          exact ⟨0, rfl, Nat.zero_le _, eb, b, E, nE, D, nf, fo, K, hT, hB, hPi.p2 hn200⟩
        case round =>
          obtain ⟨j, rfl, hj, hSt2⟩ := hrel
          have HSt2 := Lib.hid hSt2
          clear hSt2
          by_cases hjn : j < N ∧ 0 < n
          · obtain ⟨hj2, hn0⟩ := hjn
            obtain ⟨x, hx⟩ : ∃ x, bs[j]? = some x := ⟨_, List.getElem?_eq_getElem (by have := HN.out; omega)⟩
            obtain ⟨hx1, ad, rfl, hcx⟩ := HC.out j x hx
            have hcw : wr.cell? (ad.add j) = some (.int .u8 (x : Int)) := by
              obtain ⟨eb, b, E, nE, D, nf, fo, K, hT, hB, hPi⟩ := HSt2.out
              exact cells_below hB _ _ hcx
            have hlw := cell_lt2 hcw
            have hji : (j : Int) < (N : Int) := by omega
            have hj3 : (j : Int) < 100 := by omega
            have hni : (0 : Int) < (n : Int) := by omega
            have hn1 : ¬ (n : Int) = 0 := by omega
            obtain ⟨y, hy⟩ : ∃ y, y = x % n := ⟨_, rfl⟩
            have hlt : y < n := by rw [hy]; exact Nat.mod_lt x hn0
            have HCL := Lib.hid (clear_step hF hP hnn.out HSt2.out (x := 1 + y) ⟨by omega, by omega⟩)
            rw [show ((1 + y : Nat) : Int) = 1 + (y : Int) from by omega] at HCL
            have HMS : Hid (j + 1 ≤ N ∧ N - (j + 1) < N - j) := Lib.hid ⟨by omega, by omega⟩
            have hw1 : wrap64 (x : Int) = (x : Int) := by simp [wrap64]; omega
            have hm1 : (x : Int).tmod (n : Int) = (y : Int) := by rw [hy]; rfl
            have hw2 : wrap64 (1 + (y : Int)) = 1 + (y : Int) := wrap1 (by omega)
            clear hy
            clear hcx hx hx1 hlt
            go_wp2_with (go_at_call 11; refine HCL.out.mono ?_; rintro e w6 ⟨c, rfl, hs6⟩)
            exact ⟨⟨j + 1, by simp, HMS.out.1, hs6.out⟩, by have := HMS.out.2; simpa [Go.RowKit.intOf] using this⟩
          · have hcase : ¬ (j : Int) < (N : Int) ∨ ((j : Int) < (N : Int) ∧ (n : Int) = 0) := by omega
            obtain ⟨wB, hwB⟩ : ∃ x, x = wr := ⟨_, rfl⟩
            subst hwB
            obtain ⟨q, hE⟩ := P2.ends hnn.out HSt2.out
            have HE := Lib.hid hE
            clear hE hjn HSt2
            rcases hcase with hcase | ⟨hcase, hn00⟩
            all_goals
              go_upto_region 17 with (go_at_call 9; refine (HE.out.low _ (Below.refl _ _)).mono ?_; rintro e w3 ⟨rfl, hb3⟩)
            all_goals
              have hq200 := HE.out.q1
              go_wp2_with fail
              go_loopw [16] (fun v wr3 => ∃ k : Nat, v = .int .i64 k ∧ 1 ≤ k ∧ k ≤ q + 1 ∧ Hid (Below wB.heap.size wB wr3)) (fun v _ => q + 2 - (Go.RowKit.intOf v).toNat)
              case atStart => exact ⟨1, rfl, by omega, by omega, hb3⟩
              case round =>
                obtain ⟨k, rfl, hk1, hk2, hb4⟩ := hrel
                by_cases ek : k = q + 1
                · have hkq : ¬ (k : Int) ≤ (q : Int) := by omega
                  clear ek
                  go_wp2_with (go_at_call 13; refine (HE.out.oids _ hb4.out).mono ?_; rintro e w5 ⟨v5, ss, rfl, HO⟩)
                  have HO2 := HO.out
                  obtain ⟨a5, c5, rfl⟩ := own_slice HO2.2.2.1
                  obtain ⟨wC, hwC⟩ : ∃ x, x = w5 := ⟨_, rfl⟩
                  subst hwC
                  obtain ⟨len, hlen⟩ : ∃ len, len = ss.length := ⟨_, rfl⟩
                  rw [← hlen] at HO2 ⊢
                  have HLEN := Lib.hid hlen
                  have hl1000 : len ≤ 1000 := HO2.2.1
                  have HO3 := Lib.hid HO2
                  clear HO HO2 hlen
                  go_loopw [21] (fun v wr3 => ∃ k : Nat, v = .int .i64 k ∧ 1 ≤ k ∧ (k ≤ len ∨ k = 1) ∧ Hid (Below wC.heap.size wC wr3)) (fun v _ => len + 1 - (Go.RowKit.intOf v).toNat)
                  case atStart => exact ⟨1, rfl, by omega, .inr rfl, Lib.hid (Below.refl _ _)⟩
                  case round =>
                    obtain ⟨k2, rfl, hk1', hk2', hb6⟩ := hrel
                    by_cases ek2 : k2 < len
                    · have hkl : (k2 : Int) < (len : Int) := by omega
                      have hk3 : (k2 : Int) < 1000 := by omega
                      obtain ⟨ad, x, y, k', rfl, hx, hy, hxy, hk', hkl'⟩ := pair_cells HO3.out.1 HLEN.out HO3.out.2.2.1 hk1' ek2
                      have HXY := Lib.hid (fun X (hX : Below wC.heap.size wC X) => (⟨cells_below hX _ _ hx, cells_below hX _ _ hy⟩ : X.cell? (ad.add k') = some (.int .i64 x) ∧ X.cell? (ad.add k2) = some (.int .i64 y)))
                      obtain ⟨hx6, hy6⟩ := HXY.out wr hb6.out
                      have hlx := cell_lt2 hx6
                      have hly := cell_lt2 hy6
                      have hsub : wrap64 ((k2 : Int) - 1) = (k' : Int) := by rw [hk']; simp [wrap64]; omega
                      have hkl'' : (k' : Int) < (len : Int) := by omega
                      have hsub2 : IntKind.i64.wrap ((k2 : Int) - 1) = (k' : Int) := by rw [hk', IntKind.wrap_i64]; omega
                      have hyx : ¬ y ≤ x := by omega
                      have hyx2 : decide (y ≤ x) = false := by simp; omega
                      have HMS : Hid (1 ≤ k2 + 1 ∧ (k2 + 1 ≤ len ∨ k2 + 1 = 1) ∧ len + 1 - (k2 + 1) < len + 1 - k2) := Lib.hid ⟨by omega, by omega, by omega⟩
                      clear hx hy hk' ek2 hk1' hk2'
                      go_upto_region 29 with fail
                      go_quiet (fail)
                      go_wp2_with fail
                      have h6 := hb6.out
                      exact ⟨⟨k2 + 1, by simp, HMS.out.1, HMS.out.2.1, Lib.hid ⟨h6.os, h6.tape, h6.output, h6.size, h6.block⟩⟩, by have := HMS.out.2.2; simpa [Go.RowKit.intOf] using this⟩
                    · have hkl : ¬ (k2 : Int) < (len : Int) := by omega
                      go_wp2_with (go_at_call 8; refine (HW.out _ ?_).mono ?_; (exact (HE.out.below.trans (Below.down HO3.out.2.2.2 HE.out.below.size)).trans (Below.down hb6.out (Nat.le_trans HE.out.below.size HO3.out.2.2.2.size))); rintro e w9 ⟨rfl, hb9⟩)
                      go_ret
                      have h1 := HE.out.below
                      have h2 := HO3.out.2.2.2
                      have h3 := hb6.out
                      have h4 := hb9.out
                      have h12 := h1.trans (Below.down h2 h1.size)
                      have h123 := h12.trans (Below.down h3 h12.size)
                      exact ⟨rfl, h123.trans (Below.down h4 h123.size)⟩
                · have hkq : (k : Int) ≤ (q : Int) := by omega
                  have hk200 : (k : Int) < 201 := by omega
                  have HG := Lib.hid (HE.out.get wr k hb4.out ⟨hk1, by omega⟩)
                  have HMS : Hid (k + 1 ≤ q + 1 ∧ q + 2 - (k + 1) < q + 2 - k ∧ 1 ≤ k + 1) := Lib.hid ⟨by omega, by omega, by omega⟩
                  by_cases hlt : (k : Int) < (q : Int)
                  · rw [decide_eq_true hlt] at HG
                    clear ek hk1 hk2
                    go_wp2_with (go_at_call 12; refine HG.out.mono ?_; rintro e w5 ⟨p, s, rfl, hb5⟩)
                    exact ⟨⟨k + 1, by simp, HMS.out.2.2, HMS.out.1, hb5⟩, by have := HMS.out.2.1; simpa [Go.RowKit.intOf] using this⟩
                  · rw [decide_eq_false hlt] at HG
                    clear ek hk1 hk2
                    go_wp2_with (go_at_call 12; refine HG.out.mono ?_; rintro e w5 ⟨p, s, rfl, hb5⟩)
                    exact ⟨⟨k + 1, by simp, HMS.out.2.2, HMS.out.1, hb5⟩, by have := HMS.out.2.1; simpa [Go.RowKit.intOf] using this⟩
      · have hin : i ≤ n := by omega
        have hii : (i : Int) ≤ (n : Int) := by omega
        have hi3 : (i : Int) < 200 := by omega
        obtain ⟨eb, b, E, nE, D, nf, fo, K, hT, hB, hPi⟩ := hSt
        obtain ⟨h9, h10⟩ := set_step hF hP hT hB (i := i) (by omega) hPi
        have H9 := Lib.hid h9
        have H10 := Lib.hid h10
        clear h9 h10 hT hB hPi
        go_wp2_with (first
          | (go_at_call 9; refine H9.out.mono ?_; rintro e w5 ⟨rfl, hb5⟩)
          | (go_at_call 10; refine (H10.out _ hb5).mono ?_; rintro e w6 ⟨rfl, hs6⟩))
        exact ⟨⟨i + 1, by simp, by omega, by omega, hs6.out⟩, by simp [Go.RowKit.intOf]; omega⟩
  · have i1 : (100 : Int) < (N : Int) := by omega
    have i2 : decide ((100 : Int) < (N : Int)) = true := by simpa using i1
    go_enter Tryz.func3, Tryz.ntmps3
    go_wp2_with (first
      | (go_at_call 6; refine S.out.mono ?_; rintro e w1 ⟨dv, sb, rfl, HT⟩)
      | (go_at_call 7; refine HT.out.mono ?_; rintro e w2 ⟨tb, rfl, HB2⟩)
      | (go_at_call 8; refine (HW.out _ HB2.out.2).mono ?_; rintro e w3 ⟨rfl, HB3⟩))
    go_ret
    refine ⟨rfl, ?_⟩
    have h1 := HB2.out.2
    have h3 := HB3.out
    exact h1.trans (Below.down h3 h1.size)
end Go.Tb
