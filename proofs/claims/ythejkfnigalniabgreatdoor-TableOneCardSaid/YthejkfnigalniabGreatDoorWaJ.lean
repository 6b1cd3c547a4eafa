/- A part of a proof about the table over the shadow space: what a function of the program answers, walked by hand. Each theorem says its own conditions. -/
import Derived.Test.YthejkfnigalniabGreatDoorWaI
import Derived.Test.YthejkfnigalniabGreatDoorPlb
import Derived.StillTailTactics
import Derived.DeepKeys
import Derived.Deep.RegionHeld3
set_option linter.unusedVariables false
set_option linter.unusedSimpArgs false
set_option maxRecDepth 100000
set_option maxHeartbeats 1600000
namespace Go.Tb
open Go Go.RowKit Go.Proofs Go.Maps Go.Sp
def Ez (E : En) (x : Int) : Option (Nat × Nat) := if x < 0 then none else E x.toNat
def pgO (x : Option (Nat × Nat)) : Nat := match x with | none => 0 | some x => x.1
def slO (x : Option (Nat × Nat)) : Nat := match x with | none => 0 | some x => x.2
def pair (x : Option (Nat × Nat)) : Value := .agg #[.int .i64 (pgO x : Int), .int .i64 (slO x : Int)]
theorem Ez_nat (E : En) (o : Nat) : Ez E (o : Int) = E o := by unfold Ez; rw [if_neg (by omega)]; rfl
theorem Ez_upd (E : En) (o : Nat) (y : Option (Nat × Nat)) (x : Int) : Ez (upd E o y) x = if x = (o : Int) then y else Ez E x := by
  unfold Ez upd
  by_cases h : x < 0
  · rw [if_pos h, if_pos h, if_neg (by omega)]
  · rw [if_neg h, if_neg h]
    by_cases e : x = (o : Int)
    · rw [if_pos e, if_pos (by omega)]
    · rw [if_neg e, if_neg (by omega)]
def says (D : DataW Value) (x : Int) (y : Option (Nat × Nat)) : Prop := Maps.has D (.int .i64 x) = y.isSome ∧ (y ≠ none → ∀ z, D.atKey (.int .i64 x) z = .held (pair y))
def EM (w : World) (eb n : Nat) (E : En) : Prop := ∃ D : DataW Value, w.ownsMap Tryz.prog 3 heldR eb n D ∧ ∀ x : Int, says D x (Ez E x)
theorem EM.same {w w' : World} {eb n : Nat} {E : En} (h : EM w eb n E) (hs : w'.heap[eb]? = w.heap[eb]?) : EM w' eb n E := by
  obtain ⟨D, ⟨es, clock, hb, hr⟩, h2⟩ := h
  exact ⟨D, ⟨es, clock, hs.trans hb, hr⟩, h2⟩
theorem EM.lt {w : World} {eb n : Nat} {E : En} (h : EM w eb n E) : eb < w.heap.size := by obtain ⟨D, h, _⟩ := h; exact h.lt
theorem key_z {x : Int} (hx : (Lit.int .i64 x).wf = true) : keyOf Tryz.prog 3 (.int .i64 x) = some (.int .i64 x) := Maps.keyOf_int_mk Tryz.underlying3 hx
theorem says_at {D : DataW Value} {x : Int} {y : Option (Nat × Nat)} (h : says D x y) {v : Value} (hv : D.atKey (.int .i64 x) (.held (.agg #[.int .i64 0, .int .i64 0])) = .held v) : v = pair y := by
  cases y with
  | none => rw [atKey_of_not_has h.1] at hv; injection hv with hv; exact hv.symm
  | some y => rw [h.2 (by simp)] at hv; injection hv with hv; exact hv.symm
theorem EM.look {w : World} {eb n : Nat} {E : En} (h : EM w eb n E) {x : Int} (hx : (Lit.int .i64 x).wf = true) {W : World} (hW : W.heap[eb]? = w.heap[eb]?) :
    (Instr.lookup 56 (.map (some eb)) (.int .i64 x) true).run Tryz.prog W = .ok (.tuple #[pair (Ez E x), .bool (Ez E x).isSome]) W := by
  obtain ⟨D, hown, h2⟩ := h.same hW
  obtain ⟨v, h1, h3⟩ := held_look_ok hown key3 Tryz.underlying56 (Tryz.zeroValue62 W) (key_z hx)
  rw [says_at (h2 x) h3, (h2 x).1] at h1
  exact h1
theorem EM.look1 {w : World} {eb n : Nat} {E : En} (h : EM w eb n E) {x : Int} (hx : (Lit.int .i64 x).wf = true) {W : World} (hW : W.heap[eb]? = w.heap[eb]?) :
    (Instr.lookup 56 (.map (some eb)) (.int .i64 x) false).run Tryz.prog W = .ok (pair (Ez E x)) W := by
  obtain ⟨D, hown, h2⟩ := h.same hW
  obtain ⟨v, h1, h3⟩ := held_look hown key3 Tryz.underlying56 (Tryz.zeroValue62 W) (key_z hx)
  rw [says_at (h2 x) h3] at h1
  exact h1
theorem lit_ne {x y : Int} (h : x ≠ y) : (Lit.int .i64 x) ≠ .int .i64 y := fun e => h (by injection e)
theorem EM.put {w' : World} {eb n' : Nat} {D : DataW Value} {E : En} (h : ∀ x : Int, says D x (Ez E x)) (hi : IsMap D) {o p s : Nat} (hm : w'.ownsMap Tryz.prog 3 heldR eb n' (D.put (.int .i64 (o : Int)) (.held (.agg #[.int .i64 (p : Int), .int .i64 (s : Int)])))) : EM w' eb n' (upd E o (some (p, s))) := by
  refine ⟨_, hm, fun x => ?_⟩
  rw [Ez_upd]
  by_cases e : x = (o : Int)
  · rw [if_pos e, e]
    exact ⟨has_put_same hi (by trivial) _, fun _ z => atKey_put_same hi (by trivial) _ _⟩
  · rw [if_neg e]
    refine ⟨by rw [has_put_other (lit_ne e)]; exact (h x).1, fun hn z => ?_⟩
    rw [atKey_put_other (lit_ne e)]; exact (h x).2 hn z
theorem EM.del {w' : World} {eb n' : Nat} {D : DataW Value} {E : En} (h : ∀ x : Int, says D x (Ez E x)) {o : Nat} (hm : w'.ownsMap Tryz.prog 3 heldR eb n' (D.del (.int .i64 (o : Int)))) : EM w' eb n' (upd E o none) := by
  refine ⟨_, hm, fun x => ?_⟩
  rw [Ez_upd]
  by_cases e : x = (o : Int)
  · rw [if_pos e, e]
    exact ⟨has_del_same, fun h => absurd rfl h⟩
  · rw [if_neg e]
    refine ⟨by rw [has_del_other (lit_ne e)]; exact (h x).1, fun hn z => ?_⟩
    rw [atKey_del_other (lit_ne e)]; exact (h x).2 hn z
end Go.Tb
namespace Go.Tb
open Go Go.RowKit Go.Proofs Go.Maps Go.Sp
theorem co62 : Tryz.prog.cellsOf 62 = 2 := by kernel_rfl
theorem co3 : Tryz.prog.cellsOf 3 = 1 := by kernel_rfl
theorem kl62 (d : Nat) {a b : Int} (ha : (Lit.int .i64 a).wf = true) (hb : (Lit.int .i64 b).wf = true) : Tryz.prog.keyLits (d + 1 + 1) 62 (Value.agg #[.int .i64 a, .int .i64 b]).cells.toList = some [.int .i64 a, .int .i64 b] := by
  simp [Program.keyLits, Tryz.underlying62, Tryz.underlying3, Value.cells, ha, hb, co62, co3, List.range_succ]
theorem eq62 {a b c d : Int} (ha : (Lit.int .i64 a).wf = true) (hb : (Lit.int .i64 b).wf = true) (hc : (Lit.int .i64 c).wf = true) (hd : (Lit.int .i64 d).wf = true) (w : World) : ∃ r : Bool, (Op.equalIn 10000 62 (.agg #[.int .i64 a, .int .i64 b]) (.agg #[.int .i64 c, .int .i64 d])).run Tryz.prog w = .ok r w ∧ (r = true ↔ a = c ∧ b = d) := by
  have h := run_equalIn_deep (P := Tryz.prog) 9990 10 62 (by kernel_rfl)
  obtain ⟨r, h1, h2⟩ := h w (0+1+1) (0+1+1) (.agg #[.int .i64 a, .int .i64 b]) (.agg #[.int .i64 c, .int .i64 d]) [.int .i64 a, .int .i64 b] [.int .i64 c, .int .i64 d] (by rfl) (by rfl) (kl62 0 ha hb) (kl62 0 hc hd)
  exact ⟨r, h1, h2.trans (by simp)⟩
theorem eq62d {a b c d : Int} (ha : (Lit.int .i64 a).wf = true) (hb : (Lit.int .i64 b).wf = true) (hc : (Lit.int .i64 c).wf = true) (hd : (Lit.int .i64 d).wf = true) (w : World) : (Op.equalIn 10000 62 (.agg #[.int .i64 a, .int .i64 b]) (.agg #[.int .i64 c, .int .i64 d])).run Tryz.prog w = .ok (decide (a = c ∧ b = d)) w := by
  obtain ⟨r, h1, h2⟩ := eq62 ha hb hc hd w
  rw [h1]
  congr 1
  cases r with
  | true => exact (decide_eq_true (h2.1 rfl)).symm
  | false => exact (decide_eq_false fun h => by have := h2.2 h; cases this).symm
theorem wf0 : (Lit.int .i64 0).wf = true := by decide
def mayE (p s : Int) : Bool := decide (265 ≤ p ∧ p < 1024 ∧ 0 ≤ s ∧ s ≤ 65535)
theorem may24 (w : World) (p s : Int) : Calls Tryz.prog 24 #[.agg #[.int .i64 p, .int .i64 s]] w fun e w' => e = .returned (.bool (mayE p s)) ∧ Below w.heap.size w w' := by
  unfold mayE
  by_cases i1 : (265 : Int) ≤ p
  · by_cases i2 : p < 1024
    · by_cases i3 : 0 ≤ s
      · by_cases i4 : s ≤ 65535
        · rw [decide_eq_true ⟨i1, i2, i3, i4⟩]
          go_enter Tryz.func24, Tryz.ntmps24
          go_wp2
          go_ret
          exact ⟨rfl, Below.alloc (Below.refl _ _) (Nat.le_refl _) _⟩
        · rw [decide_eq_false (fun h => i4 h.2.2.2)]
          go_enter Tryz.func24, Tryz.ntmps24
          go_wp2
          go_ret
          exact ⟨rfl, Below.alloc (Below.refl _ _) (Nat.le_refl _) _⟩
      · rw [decide_eq_false (fun h => i3 h.2.2.1)]
        go_enter Tryz.func24, Tryz.ntmps24
        go_wp2
        go_ret
        exact ⟨rfl, Below.alloc (Below.refl _ _) (Nat.le_refl _) _⟩
    · rw [decide_eq_false (fun h => i2 h.2.1)]
      go_enter Tryz.func24, Tryz.ntmps24
      go_wp2
      go_ret
      exact ⟨rfl, Below.alloc (Below.refl _ _) (Nat.le_refl _) _⟩
  · rw [decide_eq_false (fun h => i1 h.1)]
    go_enter Tryz.func24, Tryz.ntmps24
    go_wp2
    go_ret
    exact ⟨rfl, Below.alloc (Below.refl _ _) (Nat.le_refl _) _⟩
theorem tget_ok {w : World} {tb eb n : Nat} {E : En} (h1 : w.cell? ⟨tb, 1, none⟩ = some (.map (some eb))) (h : EM w eb n E) {x : Int} (hx : (Lit.int .i64 x).wf = true) :
    Calls Tryz.prog 10 #[.pointer (some ⟨tb, 0, none⟩), .int .i64 x] w fun e w' => e = .returned (.tuple #[.int .i64 (pgO (Ez E x) : Int), .int .i64 (slO (Ez E x) : Int), .bool (Ez E x).isSome]) ∧ Below w.heap.size w w' := by
  have hL1 := h.look hx (W := w) rfl
  have hl := cell_lt' h1
  unfold pair at hL1
  generalize pgO (Ez E x) = p at *
  generalize slO (Ez E x) = s at *
  generalize (Ez E x).isSome = hb at *
  clear h
  go_enter Tryz.func10, Tryz.ntmps10
  go_wp2
  go_region
  go_wp2
  go_ret3
  exact ⟨rfl, by (repeat (first | exact Below.refl _ _ | assumption | refine Below.drew ?_ | refine Below.alloc ?_ (by first | (simp; done) | (simp; omega)) _))⟩
end Go.Tb
namespace Go.Tb
open Go Go.RowKit Go.Proofs Go.Maps Go.ChangeMaps Go.MapKept Go.Sp
theorem OnlyB.turned {w w' : World} {b : Nat} (h : w.mapTurned w' b) : OnlyB b w w' := by
  obtain ⟨es, ck, es', ck', hb, rfl⟩ := h
  exact ⟨rfl, rfl, rfl, by simp [setBlock], fun k _ hk => heap_setBlock_other hb _ hk⟩
theorem OnlyB.drew {b : Nat} {w w' : World} (h : OnlyB b w w') : OnlyB b w w'.drew := h.trans ⟨rfl, rfl, rfl, Nat.le_refl _, fun _ _ _ => rfl⟩
theorem OnlyB.belowB {b : Nat} {w w1 w' : World} (h : OnlyB b w w1) (hb : Below w1.heap.size w1 w') : OnlyB b w w' := h.trans (OnlyB.of_below hb)
theorem EM.only {w w' : World} {eb n : Nat} {E : En} (h : EM w eb n E) {g : Nat} (ho : OnlyB g w w') (hg : eb ≠ g) : EM w' eb n E := h.same (ho.block eb h.lt hg)
theorem EM.noCells {w : World} {eb n : Nat} {E : En} (h : EM w eb n E) (o : Nat) : w.cell? ⟨eb, o, none⟩ = none := by
  obtain ⟨D, ⟨es, ck, hb, _⟩, _⟩ := h
  simp [World.cell?, hb]
theorem RV.only {w w' : World} {eb n : Nat} {E : En} {v : Value} {bs : Bs} (h : RV w v bs) (hm : EM w eb n E) (ho : OnlyB eb w w') : RV w' v bs := by
  obtain ⟨a, c, e, hx, h⟩ := h
  refine ⟨a, c, e, hx, fun hp => ?_⟩
  obtain ⟨g, o, ea, hg, hc⟩ := h hp
  have hne : g ≠ eb := fun e => by
    have h0 := hc 0 _ (List.getElem?_eq_getElem hp)
    rw [e, hm.noCells] at h0; cases h0
  exact ⟨g, o, ea, Nat.lt_of_lt_of_le hg ho.size, fun j x hj => (cell_of_heap (a := ⟨g, o + j, none⟩) (ho.block g hg hne)).1.trans (hc j x hj)⟩
theorem chunk_get {b : Bs} {k : Nat} {y : Option (Nat × Nat)} (h : (b.drop (4 * k)).take 4 = ent y) (hy : pgO y < 65536 ∧ slO y < 65536) : num ((b.drop (4 * k)).take 2) = pgO y ∧ num ((b.drop (4 * k + 2)).take 2) = slO y := by
  have h1 : (b.drop (4 * k)).take 2 = (ent y).take 2 := by rw [← h, List.take_take]; rfl
  have h2 : (b.drop (4 * k + 2)).take 2 = (ent y).drop 2 := by rw [← h, List.drop_take, List.drop_drop]
  rw [h1, h2]
  cases y with
  | none => exact ⟨rfl, rfl⟩
  | some y =>
    have e1 : (ent (some y)).take 2 = le y.1 2 := rfl
    have e2 : (ent (some y)).drop 2 = le y.2 2 := rfl
    rw [e1, e2]
    exact ⟨num_le' hy.1, num_le' hy.2⟩
def mixE (E F : En) (q k : Nat) : En := fun o => if q * 62 + 1 ≤ o ∧ o < q * 62 + 1 + k then E o else F o
theorem mixE_zero (E F : En) (q : Nat) : mixE E F q 0 = F := by funext o; exact if_neg (by omega)
theorem mixE_none {E F : En} {q k : Nat} (h : E (q * 62 + 1 + k) = none) (hF : F (q * 62 + 1 + k) = none) : mixE E F q (k + 1) = mixE E F q k := by
  funext o
  unfold mixE
  by_cases e : o = q * 62 + 1 + k
  · subst e; rw [if_pos (by omega), if_neg (by omega), h, hF]
  · by_cases e2 : q * 62 + 1 ≤ o ∧ o < q * 62 + 1 + k
    · rw [if_pos (by omega), if_pos e2]
    · rw [if_neg (by omega), if_neg e2]
theorem mixE_some {E F : En} {q k : Nat} {y : Option (Nat × Nat)} (h : E (q * 62 + 1 + k) = y) : mixE E F q (k + 1) = upd (mixE E F q k) (q * 62 + 1 + k) y := by
  funext o
  by_cases e : o = q * 62 + 1 + k
  · subst e; rw [upd_same]; unfold mixE; rw [if_pos (by omega), h]
  · rw [upd_other _ e]
    unfold mixE
    by_cases e2 : q * 62 + 1 ≤ o ∧ o < q * 62 + 1 + k
    · rw [if_pos (by omega), if_pos e2]
    · rw [if_neg (by omega), if_neg e2]
theorem wf_n {n : Nat} (h : n < 2 ^ 62) : (Lit.int .i64 (n : Int)).wf = true := wf_nat h
theorem enok_lt {E : En} (h : EnOk E) (o : Nat) : pgO (E o) < 65536 ∧ slO (E o) < 65536 := by
  cases e : E o with
  | none => exact ⟨by show 0 < _; decide, by show 0 < _; decide⟩
  | some y =>
    obtain ⟨p, s⟩ := y
    have := h.ok o p s e
    exact ⟨by show p < _; omega, by show s < _; omega⟩
theorem tread_ok {w : World} {eb n q m : Nat} {E F : En} {v : Value} {bs : Bs} (hv : RV w v bs) (hm : EM w eb n F) (hn : n ≤ 900000) (hE : EnOk E) (hq : q < 265) (hF : ∀ j, j < 62 → F (q * 62 + 1 + j) = none) (hc : Chunks E q 62 bs m) (h0 : 0 < m) :
    Calls Tryz.prog 49 #[.int .i64 (q : Int), v, .map (some eb)] w fun e w' => e = .returned (.bool true) ∧ Hid (OnlyB eb w w' ∧ ∃ n', n' ≤ n + m ∧ EM w' eb n' (mixE E F q m)) := by
  have hlen := hc.len
  have hm62 := hc.le
  obtain ⟨a, c, rfl⟩ := hv.len
  have i1 : ¬ (bs.length : Int) = 0 := by omega
  have i2 : ¬ (248 : Int) < (bs.length : Int) := by omega
  have i3 : ((bs.length : Int) == 0) = false := by simpa using i1
  have i4 : decide ((248 : Int) < (bs.length : Int)) = false := by simpa using i2
  have i5 : ((bs.length : Int)).tmod 4 = 0 := by rw [Int.tmod_eq_emod_of_nonneg (by omega)]; omega
  have i6 : ((bs.length : Int)) / 4 = (m : Int) := by omega
  have HV := Lib.hid hv
  have HM := Lib.hid hm
  have HC := Lib.hid hc
  have HE := Lib.hid hE
  have HF := Lib.hid hF
  have HQ : Hid (q < 265 ∧ n ≤ 900000 ∧ 0 < m ∧ m ≤ 62) := Lib.hid ⟨hq, hn, h0, hm62⟩
  have HL := Lib.hid hlen
  obtain ⟨bl, hbl⟩ : ∃ bl, bs.length = bl := ⟨_, rfl⟩
  rw [hbl] at i1 i2 i3 i4 i5 i6 ⊢
  have HBL := Lib.hid hbl
  clear hv hm hc hE hF hq hn h0 hm62 hlen hbl
  go_enter Tryz.func49, Tryz.ntmps49
  go_upto_region 5 with fail
  go_loopw [7, 32] (fun u7 u wr => ∃ k L : Nat, u7 = .int .i64 (L : Int) ∧ u = .int .i64 (k : Int) ∧ k ≤ m ∧ (0 < k → 0 < pgO (E (q * 62 + 1 + (k - 1))) → 0 < L) ∧ Hid (OnlyB eb w wr ∧ ∃ n', n' ≤ n + k ∧ EM wr eb n' (mixE E F q k))) (fun _ u _ => m - (Go.RowKit.intOf u).toNat)
  case atStart => exact ⟨0, 0, rfl, rfl, Nat.zero_le _, fun h => absurd h (by decide), Lib.hid ⟨OnlyB.refl _ _, n, Nat.le_refl _, by rw [mixE_zero]; exact HM.out⟩⟩
  case round =>
    obtain ⟨k, L, rfl, rfl, hk, hL0, hI⟩ := hrel
    by_cases e : k < m
    · have j1 : (k : Int) < (m : Int) := by omega
      have hkm : k < 62 := by have := HQ.out.2.2.2; omega
      obtain ⟨hO, n', hn', hM⟩ := hI.out
      obtain ⟨y, hy⟩ : ∃ y, E (q * 62 + 1 + k) = y := ⟨_, rfl⟩
      have hch := HC.out.at' k e
      rw [hy] at hch
      have hlt := enok_lt HE.out (q * 62 + 1 + k)
      rw [hy] at hlt
      obtain ⟨g1, g2⟩ := chunk_get hch hlt
      have hRV := HV.out.only HM.out hO
      have hl4 := HL.out
      have G1 := get_x hRV (at' := 4 * k) (m := 2) (by omega) (by omega) (by omega) (.inl rfl)
      rw [g1] at G1
      have G2 := Lib.hid (fun (W : World) (hb : Below wr.heap.size wr W) => (g2 ▸ get_x (hRV.keep hb) (at' := 4 * k + 2) (m := 2) (by omega) (by omega) (by omega) (.inl rfl)))
      obtain ⟨pp, hpp⟩ : ∃ pp, pgO y = pp := ⟨_, rfl⟩
      obtain ⟨ss, hss⟩ : ∃ ss, slO y = ss := ⟨_, rfl⟩
      rw [hpp] at G1 hlt
      rw [hss] at G2 hlt
      rw [HBL.out, show ((4 * k : Nat) : Int) = 4 * (k : Int) by omega, show ((2 : Nat) : Int) = 2 from rfl] at G1
      rw [HBL.out, show ((4 * k + 2 : Nat) : Int) = 4 * (k : Int) + 2 by omega, show ((2 : Nat) : Int) = 2 from rfl] at G2
      have w1 : wrap64 (4 * (k : Int)) = 4 * (k : Int) := by simp [wrap64]; omega
      have w3 : wrap64 (4 * (k : Int) + 2) = 4 * (k : Int) + 2 := by simp [wrap64]; omega
      have HY := Lib.hid (And.intro hy (And.intro hpp (And.intro hss hlt)))
      have HIO := Lib.hid (And.intro hO (And.intro hn' hM))
      have HKM : Hid (k < m ∧ k < 62) := Lib.hid ⟨e, hkm⟩
      have HRV := Lib.hid hRV
      have HL0 := Lib.hid hL0
      clear hO hn' hM hy hch hlt g1 g2 hRV hl4 hI hpp hss hL0 hkm hk
      go_upto_region 8 with (go_at_call 76; refine G1.mono ?_; rintro e w5 ⟨rfl, hb5⟩; have HB5 := Lib.hid hb5; have G3 := G2.out _ hb5; clear hb5 G1)
      clear G2
      go_upto_region 9 with (go_at_call 76; refine G3.mono ?_; rintro e w6 ⟨rfl, hb6⟩; have HB6 : Hid (Below wr.heap.size wr w6) := Lib.hid (HB5.out.trans (hb6.mono HB5.out.size)); clear hb6 G3)
      have HLT := HY.out.2.2.2
      have w4 : wrap64 (pp : Int) = (pp : Int) := by simp [wrap64]; omega
      have w5 : wrap64 (ss : Int) = (ss : Int) := by simp [wrap64]; omega
      have w6_1 : wrap64 ((q : Int) * 62) = (q : Int) * 62 := by have := HQ.out.1; simp [wrap64]; omega
      have w7 : wrap64 ((q : Int) * 62 + 1) = (q : Int) * 62 + 1 := by have := HQ.out.1; simp [wrap64]; omega
      have w8 : wrap64 ((q : Int) * 62 + 1 + (k : Int)) = (q : Int) * 62 + 1 + (k : Int) := by have := HQ.out.1; simp [wrap64]; omega
      clear HLT
      go_upto_region 10 with fail
      have hnew := cell_new w6 #[.int .i64 (pp : Int), .int .i64 (ss : Int)] 62
      have hc0 := hnew 0
      have hc1 := hnew 1
      have hbx : Below w6.heap.size w6 (w6.alloc (.cells #[.int .i64 (pp : Int), .int .i64 (ss : Int)] 62)) := Below.allocs (Below.refl _ _) _
      have hlx : w6.heap.size < (w6.alloc (.cells #[.int .i64 (pp : Int), .int .i64 (ss : Int)] 62)).heap.size := by simp
      have hEQ := eq62d (a := (pp : Int)) (b := (ss : Int)) (wf_n (by have := HY.out.2.2.2.1; omega)) (wf_n (by have := HY.out.2.2.2.2; omega)) wf0 wf0 (w6.alloc (.cells #[.int .i64 (pp : Int), .int .i64 (ss : Int)] 62))
      clear hnew w4 w5 w6_1 w7
      generalize w6.alloc (.cells #[.int .i64 (pp : Int), .int .i64 (ss : Int)] 62) = Wx at hc0 hc1 hbx hlx hEQ ⊢
      have hcc0 : Wx.cell? ⟨w6.heap.size, 0, none⟩ = some (.int .i64 (pp : Int)) := by rw [hc0]; rfl
      have hcc1 : Wx.cell? ⟨w6.heap.size, 1, none⟩ = some (.int .i64 (ss : Int)) := by rw [hc1]; rfl
      have HBX : Hid (Below wr.heap.size wr Wx) := Lib.hid (HB6.out.trans (hbx.mono HB6.out.size))
      clear hc0 hc1 hbx
      cases hyy : y with
      | none =>
        have hz : (pp : Int) = 0 ∧ (ss : Int) = 0 := by
          obtain ⟨_, h1, h2, _⟩ := HY.out
          rw [hyy] at h1 h2
          exact ⟨by rw [← h1]; rfl, by rw [← h2]; rfl⟩
        rw [decide_eq_true hz] at hEQ
        have hfin : Hid (OnlyB eb w Wx ∧ ∃ n', n' ≤ n + (k + 1) ∧ EM Wx eb n' (mixE E F q (k + 1))) := Lib.hid (by
          obtain ⟨h1, h2, h3⟩ := HIO.out
          refine ⟨h1.belowB HBX.out, n', by omega, ?_⟩
          rw [mixE_none (HY.out.1.trans hyy) (HF.out k HKM.out.2)]
          exact h3.same (HBX.out.block eb h3.lt))
        have hlast : 0 < k + 1 → 0 < pgO (E (q * 62 + 1 + (k + 1 - 1))) → 0 < pp := fun _ h => by
          rw [show k + 1 - 1 = k by omega, HY.out.1, HY.out.2.1] at h; exact h
        have HLA := Lib.hid hlast
        clear hz hlast
        go_wp2_with fail
        exact ⟨⟨k + 1, pp, rfl, rfl, HKM.out.1, HLA.out, hfin⟩, measT HKM.out.1⟩
      | some y2 =>
        obtain ⟨ho, hp1, hp2, hlt⟩ := HY.out
        rw [hyy] at ho hp1 hp2
        obtain ⟨p, s⟩ := y2
        have hp1 : p = pp := hp1
        have hp2 : s = ss := hp2
        subst hp1 hp2
        obtain ⟨o1, o2, o3, o4, o5⟩ := HE.out.ok _ p s ho
        have hz : ¬ ((p : Int) = 0 ∧ (s : Int) = 0) := by omega
        rw [decide_eq_false hz] at hEQ
        have MY := may24 Wx (p : Int) (s : Int)
        rw [show mayE (p : Int) (s : Int) = true from decide_eq_true (by omega)] at MY
        have i9 : ¬ (16384 : Int) < (q : Int) * 62 + 1 + (k : Int) := by omega
        have hcast : ((q * 62 + 1 + k : Nat) : Int) = (q : Int) * 62 + 1 + (k : Int) := by omega
        have hkw : (Lit.int .i64 ((q : Int) * 62 + 1 + (k : Int))).wf = true := hcast ▸ wf_n (by omega)
        have HK := Lib.hid (key_z hkw)
        have hfin : Hid (∀ W, Below Wx.heap.size Wx W → ∃ D n', n' ≤ n + k ∧ n' < maxLen ∧ W.ownsMap Tryz.prog 3 heldR eb n' D ∧ ∀ W2, W2.ownsMap Tryz.prog 3 heldR eb (n' + 1) (D.put (.int .i64 ((q : Int) * 62 + 1 + (k : Int))) (.held (.agg #[.int .i64 (p : Int), .int .i64 (s : Int)]))) → W.mapTurned W2 eb → Hid (OnlyB eb w W2 ∧ ∃ n', n' ≤ n + (k + 1) ∧ EM W2 eb n' (mixE E F q (k + 1)))) := Lib.hid (fun W hb => by
          obtain ⟨h1, h2, h3⟩ := HIO.out
          have hbW : Below wr.heap.size wr W := HBX.out.trans (hb.mono HBX.out.size)
          obtain ⟨D, hown, hsay⟩ := h3.same (hbW.block eb h3.lt)
          refine ⟨D, n', h2, Nat.lt_of_le_of_lt (show n' ≤ 1000000 by have := HQ.out; have := HKM.out; omega) (by decide), hown, fun W2 hm2 ht2 => Lib.hid ⟨(h1.belowB hbW).trans (OnlyB.turned ht2), n' + 1, by omega, ?_⟩⟩
          rw [mixE_some ho]
          exact EM.put hsay hown.isMap (by rw [hcast]; exact hm2))
        have hlast : 0 < k + 1 → 0 < pgO (E (q * 62 + 1 + (k + 1 - 1))) → 0 < p := fun _ h => by omega
        have HLA := Lib.hid hlast
        clear hz hlast ho o1 o2 o3 o4 o5 hcast hkw hlt
        go_upto_region 14 with (go_at_call 24; refine MY.mono ?_; rintro e w7 ⟨rfl, hb7⟩; have hx0 := cells_below hb7 _ _ hcc0; have hx1 := cells_below hb7 _ _ hcc1; have lx := cell_lt' hx0)
        obtain ⟨D, n', hn', hml, hown, hend⟩ := hfin.out w7 hb7
        have HOW := Lib.hid (And.intro hml (And.intro hown hend))
        clear hn' hml hown hend hb7
        go_upto_region 15 with (at_mapUpdate; go_loud (refine wpList_mapUpdate_in _ rfl _ _ _ 56 rfl 3 62 key3 Tryz.underlying56 heldR eb _ _ rfl HOW.out.2.1 HOW.out.1 (.int .i64 ((q : Int) * 62 + 1 + (k : Int))) (.agg #[.int .i64 (p : Int), .int .i64 (s : Int)]) _ rfl rfl HK.out (.held (.agg #[.int .i64 (p : Int), .int .i64 (s : Int)])) [] rfl ?_; intro w8 hm8 ht8))
        have HF8 := HOW.out.2.2 w8 hm8 ht8
        clear hm8 ht8
        go_wp2_with fail
        exact ⟨⟨k + 1, p, rfl, rfl, HKM.out.1, HLA.out, HF8⟩, measT HKM.out.1⟩
    · have ek : k = m := by omega
      subst ek
      have j1 : ¬ (k : Int) < (k : Int) := by omega
      obtain ⟨j, hj⟩ : ∃ j, k = j + 1 := ⟨k - 1, by have := HQ.out.2.2.1; omega⟩
      have hne := HC.out.last j hj
      have hLp : 0 < L := hL0 (by omega) (by
        rw [show k - 1 = j by omega]
        cases hE : E (q * 62 + 1 + j) with
        | none => exact absurd hE hne
        | some y =>
          obtain ⟨p, s⟩ := y
          have := HE.out.ok _ p s hE
          show 0 < p
          omega)
      have j2 : (0 : Int) < (L : Int) := by omega
      clear hne hL0 hj
      go_wp2_with fail
      go_ret
      exact ⟨rfl, hI⟩
end Go.Tb
namespace Go.Tb
open Go Go.RowKit Go.Proofs Go.Maps Go.ChangeMaps Go.MapKept Go.Sp
theorem pair_zero {y : Option (Nat × Nat)} (h : ∀ p s, y = some (p, s) → 265 ≤ p) : (((pgO y : Nat) : Int) = 0 ∧ ((slO y : Nat) : Int) = 0) ↔ y = none := by
  cases y with
  | none => exact ⟨fun _ => rfl, fun _ => ⟨rfl, rfl⟩⟩
  | some y =>
    obtain ⟨p, s⟩ := y
    have := h p s rfl
    refine ⟨fun ⟨h1, _⟩ => ?_, fun h => by cases h⟩
    have h1 : (p : Int) = 0 := h1
    omega
def addB (k : Nat) (b : Bs) (z : Option (Nat × Nat)) : Bs := match z with | none => b | some x => pad (4 * k) b ++ ent (some x)
theorem layB_step (E : En) (q k : Nat) : layB E q (k + 1) = addB k (layB E q k) (E (q * 62 + 1 + k)) := rfl
theorem addB_some {k : Nat} {b : Bs} {z : Option (Nat × Nat)} (h : z ≠ none) : addB k b z = (pad (4 * k) b ++ le (pgO z) 2) ++ le (slO z) 2 := by
  cases z with
  | none => exact absurd rfl h
  | some x => rw [List.append_assoc]; rfl
theorem lay_ok {w : World} {tb eb sb n : Nat} {E : En} (ht0 : w.cell? ⟨tb, 0, none⟩ = some (.pointer (some ⟨sb, 0, none⟩))) (ht1 : w.cell? ⟨tb, 1, none⟩ = some (.map (some eb))) (hM : EM w eb n E)
    {oid q : Nat} (ho : 1 ≤ oid ∧ oid ≤ 16384) (hq : (oid - 1) / 62 = q) {y : Option (Nat × Nat)} (hE' : EnOk (upd E oid y)) {R : Ending → World → Prop}
    (hw : ∀ w1 v, Below w.heap.size w w1 → RV w1 v (layB (upd E oid y) q 62) → RN w.heap.size w1 v (layB (upd E oid y) q 62) → layB (upd E oid y) q 62 ≠ [] → Calls Tryz.prog 23 #[.pointer (some ⟨sb, 0, none⟩), .int .i64 (q : Int), v] w1 R)
    (hd : ∀ w1, Below w.heap.size w w1 → layB (upd E oid y) q 62 = [] → Calls Tryz.prog 57 #[.pointer (some ⟨sb, 0, none⟩), .int .i64 (q : Int)] w1 R) (hR : ∀ e w', R e w' → ∃ v, e = .returned v) :
    Calls Tryz.prog 25 #[.pointer (some ⟨tb, 0, none⟩), .int .i64 (oid : Int), pair y] w R := by
  have hl := cell_lt' ht0
  have i1 : wrap64 ((oid : Int) - 1) = (oid : Int) - 1 := by simp [wrap64]; omega
  have hq2 : ((oid : Int) - 1) / 62 = (q : Int) := by omega
  have hql : q < 265 := by omega
  have HW := Lib.hid hw
  have HD := Lib.hid hd
  have HM := Lib.hid hM
  have HR := Lib.hid hR
  have HE := Lib.hid hE'
  have HQ : Hid (q < 265 ∧ (1 ≤ oid ∧ oid ≤ 16384)) := Lib.hid ⟨hql, ho⟩
  obtain ⟨E', hEE⟩ : ∃ E', upd E oid y = E' := ⟨_, rfl⟩
  rw [hEE] at HW HD HE
  have HEE := Lib.hid hEE
  obtain ⟨pa, hpa⟩ : ∃ pa, pgO y = pa := ⟨_, rfl⟩
  obtain ⟨sa, hsa⟩ : ∃ sa, slO y = sa := ⟨_, rfl⟩
  unfold pair
  rw [hpa, hsa]
  have HPA := Lib.hid (And.intro hpa hsa)
  clear hw hd hM hR hE' hq hEE hpa hsa ho hql
  go_enter Tryz.func25, Tryz.ntmps25
  have h7 : wrap64 (((oid : Int) - 1).tdiv 62) = (q : Int) := by
    rw [Int.tdiv_eq_ediv_of_nonneg (by have := HQ.out; omega), hq2]
    simp [wrap64]; have := HQ.out; omega
  go_upto_region 3 with fail
  rw [h7, i1]
  clear h7 i1 hq2
  have hb0 : Below w.heap.size w (w.alloc (.cells #[.int .i64 (pa : Int), .int .i64 (sa : Int)] 62)) := Below.alloc (Below.refl _ _) (Nat.le_refl _) _
  have hc0 := cell_new w #[.int .i64 (pa : Int), .int .i64 (sa : Int)] 62 0
  have hc1 := cell_new w #[.int .i64 (pa : Int), .int .i64 (sa : Int)] 62 1
  have hlt0 : w.heap.size < (w.alloc (.cells #[.int .i64 (pa : Int), .int .i64 (sa : Int)] 62)).heap.size := by simp
  generalize w.alloc (.cells #[.int .i64 (pa : Int), .int .i64 (sa : Int)] 62) = W0 at hb0 hc0 hc1 hlt0 ⊢
  go_upto_region 4 with fail
  go_loopw [8, 14] (fun v8 v14 wr => ∃ k : Nat, v14 = .int .i64 (k : Int) ∧ k ≤ 62 ∧ Hid (RN w.heap.size wr v8 (layB E' q k)) ∧ Below W0.heap.size W0 wr) (fun _ v14 _ => 62 - (Go.RowKit.intOf v14).toNat)
  case atStart => exact ⟨0, rfl, by omega, Lib.hid (RN.nil _ _ _ _), Below.refl _ _⟩
  case round =>
    obtain ⟨k, rfl, hk, hI, hbl⟩ := hrel
    have hBw : Below w.heap.size w wr := Below.up hb0 hbl
    by_cases e : k = 62
    · subst e
      have c0 := (hBw.cell (p := ⟨tb, 0, none⟩) hl).trans ht0
      have hl2 := cell_lt' c0
      obtain ⟨a8, c8, rfl⟩ := hI.out.rv.len
      obtain ⟨bl, hbl2⟩ : ∃ bl, (layB E' q 62).length = bl := ⟨_, rfl⟩
      rw [hbl2] at hI ⊢
      clear hb0 hbl ht0 ht1
      by_cases hm0 : bl = 0
      · have C := HD.out wr hBw (List.length_eq_zero_iff.1 (hbl2.trans hm0))
        subst hm0
        clear hBw HW hbl2
        go_hidden (go_wp2_with (go_at_call 57; refine C.mono ?_; rintro e w5 hr; obtain ⟨v, rfl⟩ := HR.out _ _ hr; have HQ := Lib.hid hr; clear hr))
        exact HQ.out
      · have C := HW.out wr _ hBw hI.out.rv hI.out (fun h => hm0 (by rw [← hbl2, h]; rfl))
        have hm1 : ¬ (bl : Int) = 0 := by omega
        have hm2 : ((bl : Int) == 0) = false := by simpa using hm1
        clear hBw HD hbl2
        go_hidden (go_wp2_with (go_at_call 23; refine C.mono ?_; rintro e w5 hr; obtain ⟨v, rfl⟩ := HR.out _ _ hr; have HQ := Lib.hid hr; clear hr))
        exact HQ.out
    · have hk2 : k < 62 := by omega
      have i2 : (k : Int) < 62 := by omega
      have c1 := (hBw.cell (p := ⟨tb, 1, none⟩) hl).trans ht1
      have hl2 := cell_lt' c1
      have f0 := (hbl.cell (p := ⟨w.heap.size, 0, none⟩) hlt0).trans hc0
      have f1 := (hbl.cell (p := ⟨w.heap.size, 1, none⟩) hlt0).trans hc1
      have hl3 := cell_lt' f0
      have hLK := HM.out.look1 (x := ((q * 62 + 1 + k : Nat) : Int)) (wf_n (by have := HQ.out.1; omega)) (W := wr) (hBw.block eb HM.out.lt)
      rw [Ez_nat] at hLK
      obtain ⟨z, hz⟩ : ∃ z, E (q * 62 + 1 + k) = z := ⟨_, rfl⟩
      rw [hz] at hLK
      unfold pair at hLK
      obtain ⟨pe, hpe⟩ : ∃ pe, pgO z = pe := ⟨_, rfl⟩
      obtain ⟨se, hse⟩ : ∃ se, slO z = se := ⟨_, rfl⟩
      rw [hpe, hse, show ((q * 62 + 1 + k : Nat) : Int) = (q : Int) * 62 + 1 + (k : Int) by omega] at hLK
      obtain ⟨z', hz'⟩ : ∃ z', E' (q * 62 + 1 + k) = z' := ⟨_, rfl⟩
      have hzz : z' = if q * 62 + 1 + k = oid then y else z := by
        rw [← hz', ← HEE.out]
        by_cases h : q * 62 + 1 + k = oid
        · rw [if_pos h, h, upd_same]
        · rw [if_neg h, upd_other _ h, hz]
      have hlay : layB E' q (k + 1) = addB k (layB E' q k) z' := by rw [layB_step, hz']
      have hfit : ∀ p s, z' = some (p, s) → 265 ≤ p := fun p s h => (HE.out.ok _ p s (hz'.trans h)).2.2.1
      have hlt := enok_lt HE.out (q * 62 + 1 + k)
      rw [hz'] at hlt
      have HZ := Lib.hid (And.intro hpe (And.intro hse (And.intro hzz (And.intro hlay (And.intro hfit hlt)))))
      have HHB := Lib.hid hbl
      have HK2 : Hid (k < 62) := Lib.hid hk2
      have w1 : wrap64 ((q : Int) * 62) = (q : Int) * 62 := by have := HQ.out.1; simp [wrap64]; omega
      have w2 : wrap64 ((q : Int) * 62 + 1) = (q : Int) * 62 + 1 := by have := HQ.out.1; simp [wrap64]; omega
      have w3 : wrap64 ((q : Int) * 62 + 1 + (k : Int)) = (q : Int) * 62 + 1 + (k : Int) := by have := HQ.out.1; simp [wrap64]; omega
      clear hz hpe hse hz' hzz hlay hfit hlt hbl hBw
      by_cases heq : q * 62 + 1 + k = oid
      · have heq1 : (q : Int) * 62 + 1 + (k : Int) = (oid : Int) := by omega
        rw [heq1] at hLK w3
        go_upto_region 9 with fail
        have hnew := cell_new wr #[.int .i64 (pa : Int), .int .i64 (sa : Int)] 62
        have hc0 := hnew 0
        have hc1 := hnew 1
        have hbx : Below wr.heap.size wr (wr.alloc (.cells #[.int .i64 (pa : Int), .int .i64 (sa : Int)] 62)) := Below.allocs (Below.refl _ _) _
        have hlx : wr.heap.size < (wr.alloc (.cells #[.int .i64 (pa : Int), .int .i64 (sa : Int)] 62)).heap.size := by simp
        have HX : Hid (pgO z' = pa ∧ slO z' = sa) := Lib.hid (by
          obtain ⟨h1, h2, h3, _⟩ := HZ.out
          rw [h3, if_pos heq]; exact HPA.out)
        have hlt : pa < 65536 ∧ sa < 65536 := by rw [← HX.out.1, ← HX.out.2]; exact HZ.out.2.2.2.2.2
        have hEQ := eq62d (a := (pa : Int)) (b := (sa : Int)) (wf_n (by omega)) (wf_n (by omega)) wf0 wf0 (wr.alloc (.cells #[.int .i64 (pa : Int), .int .i64 (sa : Int)] 62))
        have hiff := pair_zero HZ.out.2.2.2.2.1
        rw [HX.out.1, HX.out.2] at hiff
        have HLT := Lib.hid hlt
        clear hnew hlt
        generalize wr.alloc (.cells #[.int .i64 (pa : Int), .int .i64 (sa : Int)] 62) = Wx at hc0 hc1 hbx hlx hEQ ⊢
        have hcc0 : Wx.cell? ⟨wr.heap.size, 0, none⟩ = some (.int .i64 (pa : Int)) := by rw [hc0]; rfl
        have hcc1 : Wx.cell? ⟨wr.heap.size, 1, none⟩ = some (.int .i64 (sa : Int)) := by rw [hc1]; rfl
        have HBX := Lib.hid hbx
        clear hc0 hc1 hbx w1 w2 w3
        by_cases hzz : (pa : Int) = 0 ∧ (sa : Int) = 0
        · rw [decide_eq_true hzz] at hEQ
          have hnx : Hid (RN w.heap.size Wx u8 (layB E' q (k + 1))) := Lib.hid (by rw [HZ.out.2.2.2.1, hiff.1 hzz]; exact hI.out.keep HBX.out)
          clear hzz hiff
          go_wp2_with fail
          have hbu := Below.up HHB.out HBX.out
          exact ⟨⟨k + 1, rfl, HK2.out, hnx, hbu⟩, measT HK2.out⟩
        · rw [decide_eq_false hzz] at hEQ
          have hsome : Hid (layB E' q (k + 1) = (pad (4 * k) (layB E' q k) ++ le pa 2) ++ le sa 2) := Lib.hid (by rw [HZ.out.2.2.2.1, addB_some (fun h => hzz (hiff.2 h)), HX.out.1, HX.out.2])
          clear hzz hiff
          have hlen := layB_len E' q k
          have FL := fill_x (hI.out.rv.keep HBX.out) (m := 4 * k) hlen (by omega)
          obtain ⟨a8, c8, e8⟩ := hI.out.rv.len
          subst e8
          obtain ⟨bl, hbl2⟩ : ∃ bl, (layB E' q k).length = bl := ⟨_, rfl⟩
          rw [hbl2] at FL hI ⊢
          rw [show ((4 * k : Nat) : Int) = 4 * (k : Int) by omega] at FL
          have w4 : wrap64 (4 * (k : Int)) = 4 * (k : Int) := by have := HK2.out; simp [wrap64]; omega
          clear hlen hbl2
          go_upto_region 11 with (go_at_call 55; refine FL.mono ?_; rintro e w6 ⟨⟨v', rfl, hv6, hr6⟩, hb6⟩)
          clear w4
          have hRN6 : RN w.heap.size w6 v' (pad (4 * k) (layB E' q k)) := hr6.mono (by have := HBX.out.size; have := HHB.out.size; have := hb0.size; omega)
          have hws6 : w.heap.size ≤ w6.heap.size := by have := HBX.out.size; have := HHB.out.size; have := hb6.size; have := hb0.size; omega
          have hpl : (pad (4 * k) (layB E' q k)).length = 4 * k := pad_len (layB_len E' q k)
          have HS := Lib.hid (fun x (hx : Below w6.heap.size w6 x) => (⟨Lib.hid hx, (hx.cell (p := ⟨wr.heap.size, 0, none⟩) (Nat.lt_of_lt_of_le hlx hb6.size)).trans ((hb6.cell (p := ⟨wr.heap.size, 0, none⟩) hlx).trans hcc0), (hx.cell (p := ⟨wr.heap.size, 1, none⟩) (Nat.lt_of_lt_of_le hlx hb6.size)).trans ((hb6.cell (p := ⟨wr.heap.size, 1, none⟩) hlx).trans hcc1)⟩ : Hid (Below w6.heap.size w6 x) ∧ x.cell? ⟨wr.heap.size, 0, none⟩ = some (.int .i64 (pa : Int)) ∧ x.cell? ⟨wr.heap.size, 1, none⟩ = some (.int .i64 (sa : Int))))
          have HP1 := Lib.hid (fun x (hx : Below w6.heap.size w6 x) => (put_x (x := pa) (hRN6.keep hx).rv (by have := HK2.out; omega) (.inl rfl) (by have := HLT.out; omega)).mono (R' := fun e w' => ∃ v2, e = .returned v2 ∧ Hid (RN w.heap.size w' v2 (pad (4 * k) (layB E' q k) ++ le pa 2)) ∧ Below w6.heap.size w6 w') fun e w' ⟨⟨v2, h1, h2⟩, h3⟩ => ⟨v2, h1, Lib.hid (h2.mono (Nat.le_trans hws6 hx.size)), Below.up hx h3⟩)
          have HP2 := Lib.hid (fun x v2 (hr : Hid (RN w.heap.size x v2 (pad (4 * k) (layB E' q k) ++ le pa 2))) (hx : Below w6.heap.size w6 x) => (put_x (x := sa) hr.out.rv (by rw [List.length_append, le_len]; have := HK2.out; omega) (.inl rfl) (by have := HLT.out; omega)).mono (R' := fun e w' => ∃ v3, e = .returned v3 ∧ Hid (RN w.heap.size w' v3 (layB E' q (k + 1))) ∧ Below w6.heap.size w6 w') fun e w' ⟨⟨v3, h1, h2⟩, h3⟩ => ⟨v3, h1, Lib.hid (by rw [hsome.out]; exact h2.mono (Nat.le_trans hws6 hx.size)), Below.up hx h3⟩)
          have u1 : IntKind.u64.wrap (pa : Int) = (pa : Int) := by have := HLT.out; simp [IntKind.wrap, IntKind.signed, IntKind.bits]; omega
          have u2 : IntKind.u64.wrap (sa : Int) = (sa : Int) := by have := HLT.out; simp [IntKind.wrap, IntKind.signed, IntKind.bits]; omega
          have HB6 := Lib.hid hb6
          obtain ⟨_, hy0, hy1⟩ := HS.out w6 (Below.refl _ _)
          have hl6 : wr.heap.size < w6.heap.size := Nat.lt_of_lt_of_le hlx hb6.size
          clear hr6 hb6 hcc0 hcc1 FL hEQ hRN6 hpl
          go_region_held3 (fun x => Hid (Below w6.heap.size w6 x) ∧ x.cell? ⟨wr.heap.size, 0, none⟩ = some (.int .i64 (pa : Int)) ∧ x.cell? ⟨wr.heap.size, 1, none⟩ = some (.int .i64 (sa : Int)))
            ((refine HS.out _ ?_; (repeat (first | exact Below.refl _ _ | assumption | refine Below.drew ?_ | refine Below.allocs ?_ _))))
            ((first
              | (go_at_call_of 56 v'; refine (HP1.out _ ?_).mono ?_; (repeat (first | exact Below.refl _ _ | assumption | refine Below.drew ?_ | refine Below.allocs ?_ _)); rintro e w7 ⟨v2, rfl, hr7, hb7⟩)
              | (go_at_call 56; refine (HP2.out _ _ (by assumption) ?_).mono ?_; (repeat (first | exact Below.refl _ _ | assumption | refine Below.drew ?_ | refine Below.allocs ?_ _)); rintro e w8 ⟨v3, rfl, hr8, hb8⟩)))
          go_wp2_with fail
          have hbu := Below.up (Below.up (Below.up HHB.out HBX.out) HB6.out) hb8
          exact ⟨⟨k + 1, rfl, HK2.out, hr8, hbu⟩, measT HK2.out⟩
      · have heq1 : ¬ (q : Int) * 62 + 1 + (k : Int) = (oid : Int) := by omega
        go_upto_region 9 with fail
        have hnew := cell_new wr #[.int .i64 (pe : Int), .int .i64 (se : Int)] 62
        have hc0 := hnew 0
        have hc1 := hnew 1
        have hbx : Below wr.heap.size wr (wr.alloc (.cells #[.int .i64 (pe : Int), .int .i64 (se : Int)] 62)) := Below.allocs (Below.refl _ _) _
        have hlx : wr.heap.size < (wr.alloc (.cells #[.int .i64 (pe : Int), .int .i64 (se : Int)] 62)).heap.size := by simp
        have HX : Hid (pgO z' = pe ∧ slO z' = se) := Lib.hid (by
          obtain ⟨h1, h2, h3, _⟩ := HZ.out
          rw [h3, if_neg heq]; exact ⟨h1, h2⟩)
        have hlt : pe < 65536 ∧ se < 65536 := by rw [← HX.out.1, ← HX.out.2]; exact HZ.out.2.2.2.2.2
        have hEQ := eq62d (a := (pe : Int)) (b := (se : Int)) (wf_n (by omega)) (wf_n (by omega)) wf0 wf0 (wr.alloc (.cells #[.int .i64 (pe : Int), .int .i64 (se : Int)] 62))
        have hiff := pair_zero HZ.out.2.2.2.2.1
        rw [HX.out.1, HX.out.2] at hiff
        have HLT := Lib.hid hlt
        clear hnew hlt
        generalize wr.alloc (.cells #[.int .i64 (pe : Int), .int .i64 (se : Int)] 62) = Wx at hc0 hc1 hbx hlx hEQ ⊢
        have hcc0 : Wx.cell? ⟨wr.heap.size, 0, none⟩ = some (.int .i64 (pe : Int)) := by rw [hc0]; rfl
        have hcc1 : Wx.cell? ⟨wr.heap.size, 1, none⟩ = some (.int .i64 (se : Int)) := by rw [hc1]; rfl
        have HBX := Lib.hid hbx
        clear hc0 hc1 hbx w1 w2 w3
        by_cases hzz : (pe : Int) = 0 ∧ (se : Int) = 0
        · rw [decide_eq_true hzz] at hEQ
          have hnx : Hid (RN w.heap.size Wx u8 (layB E' q (k + 1))) := Lib.hid (by rw [HZ.out.2.2.2.1, hiff.1 hzz]; exact hI.out.keep HBX.out)
          clear hzz hiff
          go_wp2_with fail
          have hbu := Below.up HHB.out HBX.out
          exact ⟨⟨k + 1, rfl, HK2.out, hnx, hbu⟩, measT HK2.out⟩
        · rw [decide_eq_false hzz] at hEQ
          have hsome : Hid (layB E' q (k + 1) = (pad (4 * k) (layB E' q k) ++ le pe 2) ++ le se 2) := Lib.hid (by rw [HZ.out.2.2.2.1, addB_some (fun h => hzz (hiff.2 h)), HX.out.1, HX.out.2])
          clear hzz hiff
          have hlen := layB_len E' q k
          have FL := fill_x (hI.out.rv.keep HBX.out) (m := 4 * k) hlen (by omega)
          obtain ⟨a8, c8, e8⟩ := hI.out.rv.len
          subst e8
          obtain ⟨bl, hbl2⟩ : ∃ bl, (layB E' q k).length = bl := ⟨_, rfl⟩
          rw [hbl2] at FL hI ⊢
          rw [show ((4 * k : Nat) : Int) = 4 * (k : Int) by omega] at FL
          have w4 : wrap64 (4 * (k : Int)) = 4 * (k : Int) := by have := HK2.out; simp [wrap64]; omega
          clear hlen hbl2
          go_upto_region 11 with (go_at_call 55; refine FL.mono ?_; rintro e w6 ⟨⟨v', rfl, hv6, hr6⟩, hb6⟩)
          clear w4
          have hRN6 : RN w.heap.size w6 v' (pad (4 * k) (layB E' q k)) := hr6.mono (by have := HBX.out.size; have := HHB.out.size; have := hb0.size; omega)
          have hws6 : w.heap.size ≤ w6.heap.size := by have := HBX.out.size; have := HHB.out.size; have := hb6.size; have := hb0.size; omega
          have hpl : (pad (4 * k) (layB E' q k)).length = 4 * k := pad_len (layB_len E' q k)
          have HS := Lib.hid (fun x (hx : Below w6.heap.size w6 x) => (⟨Lib.hid hx, (hx.cell (p := ⟨wr.heap.size, 0, none⟩) (Nat.lt_of_lt_of_le hlx hb6.size)).trans ((hb6.cell (p := ⟨wr.heap.size, 0, none⟩) hlx).trans hcc0), (hx.cell (p := ⟨wr.heap.size, 1, none⟩) (Nat.lt_of_lt_of_le hlx hb6.size)).trans ((hb6.cell (p := ⟨wr.heap.size, 1, none⟩) hlx).trans hcc1)⟩ : Hid (Below w6.heap.size w6 x) ∧ x.cell? ⟨wr.heap.size, 0, none⟩ = some (.int .i64 (pe : Int)) ∧ x.cell? ⟨wr.heap.size, 1, none⟩ = some (.int .i64 (se : Int))))
          have HP1 := Lib.hid (fun x (hx : Below w6.heap.size w6 x) => (put_x (x := pe) (hRN6.keep hx).rv (by have := HK2.out; omega) (.inl rfl) (by have := HLT.out; omega)).mono (R' := fun e w' => ∃ v2, e = .returned v2 ∧ Hid (RN w.heap.size w' v2 (pad (4 * k) (layB E' q k) ++ le pe 2)) ∧ Below w6.heap.size w6 w') fun e w' ⟨⟨v2, h1, h2⟩, h3⟩ => ⟨v2, h1, Lib.hid (h2.mono (Nat.le_trans hws6 hx.size)), Below.up hx h3⟩)
          have HP2 := Lib.hid (fun x v2 (hr : Hid (RN w.heap.size x v2 (pad (4 * k) (layB E' q k) ++ le pe 2))) (hx : Below w6.heap.size w6 x) => (put_x (x := se) hr.out.rv (by rw [List.length_append, le_len]; have := HK2.out; omega) (.inl rfl) (by have := HLT.out; omega)).mono (R' := fun e w' => ∃ v3, e = .returned v3 ∧ Hid (RN w.heap.size w' v3 (layB E' q (k + 1))) ∧ Below w6.heap.size w6 w') fun e w' ⟨⟨v3, h1, h2⟩, h3⟩ => ⟨v3, h1, Lib.hid (by rw [hsome.out]; exact h2.mono (Nat.le_trans hws6 hx.size)), Below.up hx h3⟩)
          have u1 : IntKind.u64.wrap (pe : Int) = (pe : Int) := by have := HLT.out; simp [IntKind.wrap, IntKind.signed, IntKind.bits]; omega
          have u2 : IntKind.u64.wrap (se : Int) = (se : Int) := by have := HLT.out; simp [IntKind.wrap, IntKind.signed, IntKind.bits]; omega
          have HB6 := Lib.hid hb6
          obtain ⟨_, hy0, hy1⟩ := HS.out w6 (Below.refl _ _)
          have hl6 : wr.heap.size < w6.heap.size := Nat.lt_of_lt_of_le hlx hb6.size
          clear hr6 hb6 hcc0 hcc1 FL hEQ hRN6 hpl
          go_region_held3 (fun x => Hid (Below w6.heap.size w6 x) ∧ x.cell? ⟨wr.heap.size, 0, none⟩ = some (.int .i64 (pe : Int)) ∧ x.cell? ⟨wr.heap.size, 1, none⟩ = some (.int .i64 (se : Int)))
            ((refine HS.out _ ?_; (repeat (first | exact Below.refl _ _ | assumption | refine Below.drew ?_ | refine Below.allocs ?_ _))))
            ((first
              | (go_at_call_of 56 v'; refine (HP1.out _ ?_).mono ?_; (repeat (first | exact Below.refl _ _ | assumption | refine Below.drew ?_ | refine Below.allocs ?_ _)); rintro e w7 ⟨v2, rfl, hr7, hb7⟩)
              | (go_at_call 56; refine (HP2.out _ _ (by assumption) ?_).mono ?_; (repeat (first | exact Below.refl _ _ | assumption | refine Below.drew ?_ | refine Below.allocs ?_ _)); rintro e w8 ⟨v3, rfl, hr8, hb8⟩)))
          go_wp2_with fail
          have hbu := Below.up (Below.up (Below.up HHB.out HBX.out) HB6.out) hb8
          exact ⟨⟨k + 1, rfl, HK2.out, hr8, hbu⟩, measT HK2.out⟩
end Go.Tb
namespace Go.Tb
open Go Go.RowKit Go.Proofs Go.Maps Go.ChangeMaps Go.MapKept Go.Sp
def tbS : TypeId → Bool := fun T => T == 58 || T == 0
theorem SpV.client {γ : Gh} {W W' : World} {sb db : Nat} {s : Sp} (H : SpV γ W sb db s) (hs : Step γ tbS W W') : SpV γ W' sb db s := by
  obtain ⟨cb, rb, ob, kb, H, K⟩ := H
  have H' := H.keep hs (H.ca.keep hs ⟨rfl, rfl, rfl, rfl⟩ ⟨rfl, rfl, rfl⟩) rfl rfl rfl
  exact ⟨cb, rb, ob, kb, H', K.keep H.tg hs rfl rfl rfl⟩
def Gh.add (γ : Gh) (n m g : Nat) (h0 : γ.lim ≤ n) (hn : n ≤ m) : Gh where
  B := γ.B
  lim := m
  told := fun k => if n ≤ k ∧ k < m ∧ k = g then some 0 else γ.told k
  hB := Nat.le_trans γ.hB (Nat.le_trans h0 hn)
  ht := fun k T h => by
    split at h
    · omega
    · have := γ.ht k T h; omega
theorem Gh.add_le {γ : Gh} {w : World} {m g : Nat} (h0 : γ.lim ≤ w.heap.size) (hn : w.heap.size ≤ m) : Gh.Le w γ (γ.add w.heap.size m g h0 hn) := ⟨rfl, fun k hk => if_neg (by omega)⟩
structure TB0 (γ : Gh) (w : World) (tb sb : Nat) (v1 : Value) : Prop where
  tg : Tag γ w tb 58
  B : γ.B ≤ tb
  t0 : w.cell? ⟨tb, 0, none⟩ = some (.pointer (some ⟨sb, 0, none⟩))
  t1 : w.cell? ⟨tb, 1, none⟩ = some v1
  fz : w.frozen? ⟨tb, 1, none⟩ = false
theorem TB0.lt {γ : Gh} {w : World} {tb sb : Nat} {v1 : Value} (h : TB0 γ w tb sb v1) : tb < w.heap.size := cell_lt' h.t0
theorem TB0.keep {γ : Gh} {S : TypeId → Bool} {w w' : World} {tb sb : Nat} {v1 : Value} (h : TB0 γ w tb sb v1) (hs : Step γ S w w') (h58 : S 58 = false) : TB0 γ w' tb sb v1 :=
  ⟨hs.tg _ _ (by decide) h.lt h.tg, h.B, cell_keep hs h.tg h58 h.t0, cell_keep hs h.tg h58 h.t1, (cell_of_heap (a := ⟨tb, 1, none⟩) (hs.heap h.tg h58 h.lt)).2.trans h.fz⟩
theorem TB0.more {γ γ' : Gh} {w : World} {tb sb : Nat} {v1 : Value} (h : TB0 γ w tb sb v1) (hl : Gh.Le w γ γ') : TB0 γ' w tb sb v1 :=
  ⟨h.tg.more hl h.lt, hl.B ▸ h.B, h.t0, h.t1, h.fz⟩
structure EMV (γ : Gh) (w : World) (eb n : Nat) (E : En) : Prop where
  tg : Tag γ w eb 0
  B : γ.B ≤ eb
  em : EM w eb n E
theorem EMV.keep {γ : Gh} {S : TypeId → Bool} {w w' : World} {eb n : Nat} {E : En} (h : EMV γ w eb n E) (hs : Step γ S w w') (h0 : S 0 = false) : EMV γ w' eb n E :=
  ⟨hs.tg _ _ (by decide) h.em.lt h.tg, h.B, h.em.same (hs.heap h.tg h0 h.em.lt)⟩
theorem EMV.more {γ γ' : Gh} {w : World} {eb n : Nat} {E : En} (h : EMV γ w eb n E) (hl : Gh.Le w γ γ') : EMV γ' w eb n E :=
  ⟨h.tg.more hl h.em.lt, hl.B ▸ h.B, h.em⟩
theorem only_step {γ : Gh} {w w' : World} {eb n n' : Nat} {E E' : En} (h : EMV γ w eb n E) (ho : OnlyB eb w w') (hm : EM w' eb n' E') : Step γ (fun T => T == 0) w w' ∧ EMV γ w' eb n' E' := by
  have hk' : kindOf w' eb = kindOf w eb := by
    obtain ⟨D, ⟨es, ck, hb, _⟩, _⟩ := h.em
    obtain ⟨D', ⟨es', ck', hb', _⟩, _⟩ := hm
    unfold kindOf; rw [hb, hb']
  have ht : Tag γ w' eb 0 := (Gh.kind_of hk').trans h.tg
  refine ⟨⟨⟨ho.os, ho.tape, ho.output, ho.size, fun k hk => ?_⟩, fun k hk hT => ?_, fun k T hn hk hT => ?_⟩, ht, h.B, hm⟩
  · by_cases hks : k < w.heap.size
    · exact ho.block k hks (by have := h.B; omega)
    · have := h.B; have := h.em.lt; omega
  · refine ho.block k hk (fun e => ?_)
    subst e
    have := hT 0 h.tg
    cases this
  · by_cases e : k = eb
    · subst e; exact (Gh.kind_of hk').trans hT
    · exact hT.same (ho.block k hk e)
def inP (l : List Nat) (E : En) : En := fun o => if 1 ≤ o ∧ (o - 1) / 62 ∈ l then E o else none
structure AgI (γ : Gh) (w W0 W : World) (N c db sb tb eb i : Nat) (own : Nat → Nat) (now last : St) (E L : En) (v v1 : Value) : Prop where
  l : γ.lim ≤ W.heap.size
  be : Below γ.B w W
  s : ∃ s, SpV γ W sb db s ∧ TI N c s now last E L ∧ s.own = own
  t : TB0 γ W tb sb v1
  em : ∃ n, n ≤ 62 * i ∧ EMV γ W eb n (inP ((pgs own).take i) E)
  r : NR γ W v (pgs own)
  sz : W0.heap.size ≤ W.heap.size
  fr : ∀ k, k < W0.heap.size → k ≠ eb → (∀ T, Tag γ W0 k T → spS T = false) → W.heap[k]? = W0.heap[k]?
section
variable {γ : Gh} {w W0 W W' : World} {N c db sb tb eb i : Nat} {own : Nat → Nat} {now last : St} {E L : En} {v v1 : Value}
theorem AgI.below (h : AgI γ w W0 W N c db sb tb eb i own now last E L v v1) (hb : Below W.heap.size W W') : AgI γ w W0 W' N c db sb tb eb i own now last E L v v1 := by
  have st : Step γ (fun _ => false) W W' := Step.below hb h.l
  obtain ⟨s, h1, h2, h3⟩ := h.s
  obtain ⟨n, hn, hm⟩ := h.em
  exact ⟨Nat.le_trans h.l st.size, h.be.trans st.be, ⟨s, h1.below hb h.l, h2, h3⟩, h.t.keep st rfl, ⟨n, hn, hm.keep st rfl⟩, h.r.keep st rfl, Nat.le_trans h.sz st.size, fun k hk hne hT => (hb.block k (Nat.lt_of_lt_of_le hk h.sz)).trans (h.fr k hk hne hT)⟩
theorem AgI.page (h : AgI γ w W0 W N c db sb tb eb i own now last E L v v1) {p : Nat} (hp : (pgs own)[i]? = some p) : p < 265 ∧ own p ≠ 0 := by
  obtain ⟨s, h1, h2, h3⟩ := h.s
  have hm := List.mem_of_getElem? hp
  obtain ⟨hp1, hp2⟩ := mem_pgs.1 hm
  refine ⟨?_, by omega⟩
  by_cases hh : p < 265
  · exact hh
  · have := h2.se.hi p (by omega) hp1
    have h4 := (h2.own p hp1).2 (by rw [h3]; omega)
    rw [this] at h4; cases h4
theorem ti_bd {s : Sp} (h : TI N c s now last E L) (hc : c ≤ 500000) (k : Nat) (hk : k ≤ 5000) : s.Bd k := ⟨by have := h.clk; omega, by have := h.P; omega⟩
theorem AgI.read (h : AgI γ w W0 W N c db sb tb eb i own now last E L v v1) (hc : c ≤ 500000) {p : Nat} (hp : (pgs own)[i]? = some p) :
    Calls Tryz.prog 16 #[.pointer (some ⟨sb, 0, none⟩), .int .i64 (p : Int)] W fun e W' => ∃ a n k, e = .returned (.tuple #[.slice a n k, .int .i64 0]) ∧ Hid (AgI γ w W0 W' N (c + 2) db sb tb eb i own now last E L v v1 ∧ RV W' (.slice a n k) (layB E p 62)) := by
  obtain ⟨hp2, hp0⟩ := h.page hp
  obtain ⟨s, h1, h2, h3⟩ := h.s
  obtain ⟨r1, r2, _, r4, r5⟩ := h2.read hp2 (by rw [h3]; exact hp0)
  refine (read_s h1 h2.inv.ok (ti_bd h2 hc 0 (by omega)) h.l (p : Int)).mono ?_
  rintro e W' ⟨a, n, k, rfl, hq⟩
  rw [r1]
  refine ⟨a, n, k, rfl, Lib.hid ?_⟩
  obtain ⟨W1, q1, q2, q3, q4⟩ := hq.out
  obtain ⟨n0, hn, hm⟩ := h.em
  rw [r2] at q4
  exact ⟨AgI.below ⟨Nat.le_trans h.l q2.size, h.be.trans q2.be, ⟨_, q1, r4, r5.trans h3⟩, h.t.keep q2 rfl, ⟨n0, hn, hm.keep q2 rfl⟩, h.r.keep q2 rfl, Nat.le_trans h.sz q2.size, fun k hk hne hT => by
    have e := h.fr k hk hne hT
    exact (q2.on k (Nat.lt_of_lt_of_le hk h.sz) fun T ht => hT T (ht.same e.symm)).trans e⟩ q3, q4.rv⟩
theorem inP_next {l : List Nat} (hnd : l.Nodup) {p : Nat} (hp : l[i]? = some p) {m : Nat} (hm : m ≤ 62) (ho : ∀ j, m ≤ j → j < 62 → E (p * 62 + 1 + j) = none) : mixE E (inP (l.take i) E) p m = inP (l.take (i + 1)) E := by
  funext o
  have hmem : ∀ x, x ∈ l.take (i + 1) ↔ x ∈ l.take i ∨ x = p := fun x => by rw [List.take_add_one, hp]; simp
  unfold mixE inP
  by_cases h1 : p * 62 + 1 ≤ o ∧ o < p * 62 + 1 + m
  · rw [if_pos h1, if_pos ⟨by omega, (hmem _).2 (.inr (by omega))⟩]
  · rw [if_neg h1]
    by_cases h0 : 1 ≤ o
    · by_cases h2 : (o - 1) / 62 ∈ l.take i
      · rw [if_pos ⟨h0, h2⟩, if_pos ⟨h0, (hmem _).2 (.inl h2)⟩]
      · rw [if_neg (fun h => h2 h.2)]
        by_cases h3 : (o - 1) / 62 = p
        · rw [if_pos ⟨h0, (hmem _).2 (.inr h3)⟩]
          have := ho ((o - 1) % 62) (by omega) (by omega)
          rw [show p * 62 + 1 + (o - 1) % 62 = o by omega] at this
          exact this.symm
        · rw [if_neg (fun h => ((hmem _).1 h.2).elim h2 h3)]
    · rw [if_neg (fun h => h0 h.1), if_neg (fun h => h0 h.1)]
theorem nodup_take {l : List Nat} (hnd : l.Nodup) {p : Nat} (hp : l[i]? = some p) : p ∉ l.take i := fun h => by
  obtain ⟨j, hj⟩ := List.mem_iff_getElem?.1 h
  rw [List.getElem?_take] at hj
  split at hj
  · rename_i hlt
    obtain ⟨g1, e1⟩ := List.getElem?_eq_some_iff.1 hj
    obtain ⟨g2, e2⟩ := List.getElem?_eq_some_iff.1 hp
    have := List.pairwise_iff_getElem.1 hnd j i g1 g2 hlt
    exact this (e1.trans e2.symm)
  · cases hj
theorem pgs_nodup (f : Nat → Nat) : (pgs f).Nodup := List.Pairwise.filter _ List.nodup_range
theorem AgI.next (h : AgI γ w W0 W N c db sb tb eb i own now last E L v v1) {p : Nat} (hp : (pgs own)[i]? = some p) {a : Option Addr} {n k : Nat} (hr : RV W (.slice a n k) (layB E p 62)) :
    Calls Tryz.prog 49 #[.int .i64 (p : Int), .slice a n k, .map (some eb)] W fun e W' => e = .returned (.bool true) ∧ Hid (AgI γ w W0 W' N c db sb tb eb (i + 1) own now last E L v v1) := by
  obtain ⟨hp2, hp0⟩ := h.page hp
  obtain ⟨s, h1, h2, h3⟩ := h.s
  have hne := (h2.read hp2 (by rw [h3]; exact hp0)).2.2.1
  obtain ⟨m, hch⟩ := layB_chunks E p 62
  obtain ⟨n0, hn, hm⟩ := h.em
  have hm0 : 0 < m := by
    by_cases e : m = 0
    · exact absurd (List.length_eq_zero_iff.1 (by have := hch.len; omega)) hne
    · omega
  have hi : i < 1024 := by
    have := (List.getElem?_eq_some_iff.1 hp).1
    have := pgs_len own
    omega
  refine (tread_ok hr hm.em (by omega) h2.e hp2 (fun j hj => ?_) hch hm0).mono ?_
  · unfold inP
    refine if_neg (fun hh => nodup_take (pgs_nodup own) hp ?_)
    have := hh.2
    rwa [show (p * 62 + 1 + j - 1) / 62 = p by omega] at this
  rintro e W' ⟨rfl, hq⟩
  refine ⟨rfl, Lib.hid ?_⟩
  obtain ⟨hO, n', hn', hM⟩ := hq.out
  have := hch.le
  rw [inP_next (pgs_nodup own) hp hch.le hch.out] at hM
  obtain ⟨st, hem⟩ := only_step hm hO hM
  have st' : Step γ tbS W W' := st.mono fun T hT => by simp [tbS] at hT; simp [hT.2]
  exact ⟨Nat.le_trans h.l st.size, h.be.trans st.be, ⟨s, h1.client st', h2, h3⟩, h.t.keep st rfl, ⟨n', by omega, hem⟩, h.r.keep st rfl, Nat.le_trans h.sz st.size, fun k hk hne hT => (hO.block k (Nat.lt_of_lt_of_le hk h.sz) hne).trans (h.fr k hk hne hT)⟩
theorem AgI.all (h : AgI γ w W0 W N c db sb tb eb (pgs own).length own now last E L v v1) : ∃ n, n ≤ 70000 ∧ EMV γ W eb n E := by
  obtain ⟨s, h1, h2, h3⟩ := h.s
  obtain ⟨n0, hn, hm⟩ := h.em
  have hl := pgs_len own
  refine ⟨n0, by omega, ?_⟩
  rw [List.take_of_length_le (Nat.le_refl _)] at hm
  have he : inP (pgs own) E = E := by
    funext o
    unfold inP
    by_cases h0 : 1 ≤ o ∧ (o - 1) / 62 ∈ pgs own
    · rw [if_pos h0]
    · rw [if_neg h0]
      cases hE : E o with
      | none => rfl
      | some y =>
        obtain ⟨p, t⟩ := y
        obtain ⟨o1, o2, _⟩ := h2.e.ok o p t hE
        have hq : (o - 1) / 62 < 265 := by omega
        have hne : layB E ((o - 1) / 62) 62 ≠ [] := fun e => by
          have := layB_nil.1 e ((o - 1) % 62) (by omega)
          rw [show (o - 1) / 62 * 62 + 1 + (o - 1) % 62 = o by omega, hE] at this
          cases this
        have hon := (h2.own _ (by omega)).1 ((h2.se.on _ hq).2 hne)
        rw [h3] at hon
        exact absurd ⟨o1, mem_pgs.2 ⟨by omega, by omega⟩⟩ h0
  rwa [he] at hm
end
end Go.Tb
namespace Go.Tb
open Go Go.RowKit Go.Proofs Go.Maps Go.ChangeMaps Go.MapKept Go.Sp
structure TA (γ : Gh) (w W : World) (N c db sb tb : Nat) (now last : St) (E L : En) (v1 : Value) : Prop where
  l : γ.lim ≤ W.heap.size
  B : γ.B = w.heap.size
  be : Below γ.B w W
  s : ∃ s, SpV γ W sb db s ∧ TI N c s now last E L
  t : TB0 γ W tb sb v1
def TW (w W : World) (N c db sb tb : Nat) (now last : St) (E L : En) : Prop := ∃ γ eb n, TA γ w W N c db sb tb now last E L (.map (some eb)) ∧ n ≤ 70000 + c ∧ EMV γ W eb n E
section
variable {γ : Gh} {w W W' : World} {N c db sb tb : Nat} {now last : St} {E L : En} {v1 : Value}
theorem TA.step {S : TypeId → Bool} (h : TA γ w W N c db sb tb now last E L v1) (st : Step γ S W W') (h58 : S 58 = false) {c' : Nat} {now' last' : St} {E' L' : En} (hs : ∃ s, SpV γ W' sb db s ∧ TI N c' s now' last' E' L') : TA γ w W' N c' db sb tb now' last' E' L' v1 :=
  ⟨Nat.le_trans h.l st.size, h.B, h.be.trans st.be, hs, h.t.keep st h58⟩
theorem TA.below (h : TA γ w W N c db sb tb now last E L v1) (hb : Below W.heap.size W W') : TA γ w W' N c db sb tb now last E L v1 := by
  obtain ⟨s, h1, h2⟩ := h.s
  exact h.step (Step.below (S := fun _ => false) hb h.l) rfl ⟨s, h1.below hb h.l, h2⟩
theorem TA.more (h : TA γ w W N c db sb tb now last E L v1) {γ' : Gh} (hl : Gh.Le W γ γ') (h0 : γ'.lim ≤ W.heap.size) : TA γ' w W N c db sb tb now last E L v1 := by
  obtain ⟨s, h1, h2⟩ := h.s
  exact ⟨h0, hl.B.trans h.B, hl.B ▸ h.be, ⟨s, h1.more hl, h2⟩, h.t.more hl⟩
theorem TW.below (h : TW w W N c db sb tb now last E L) (hb : Below W.heap.size W W') : TW w W' N c db sb tb now last E L := by
  obtain ⟨γ, eb, n, h1, h2, h3⟩ := h
  exact ⟨γ, eb, n, h1.below hb, h2, h3.keep (Step.below (S := fun _ => false) hb h1.l) rfl⟩
theorem TW.more (h : TW w W N c db sb tb now last E L) {c' : Nat} (hc : c ≤ c') : TW w W N c' db sb tb now last E L := by
  obtain ⟨γ, eb, n, h1, h2, h3⟩ := h
  obtain ⟨s, g1, g2⟩ := h1.s
  exact ⟨γ, eb, n, ⟨h1.l, h1.B, h1.be, ⟨s, g1, g2.more hc⟩, h1.t⟩, by omega, h3⟩
theorem made_map (h : TA γ w W N c db sb tb now last E L v1) : ∃ γ' : Gh, Gh.Le W γ γ' ∧ TA γ' w (W.alloc (.map #[] 0)) N c db sb tb now last E L v1 ∧ EMV γ' (W.alloc (.map #[] 0)) W.heap.size 0 (fun _ => none) := by
  have hb : Below W.heap.size W (W.alloc (.map #[] 0)) := Below.alloc (Below.refl _ _) (Nat.le_refl _) _
  have hm0 := World.ownsMap_made W Tryz.prog 3 heldR
  have hf : (W.alloc (.map #[] 0)).heap[W.heap.size]? = some (.map #[] 0) := (Go.MapKept.heap_alloc W (.map #[] 0)).1
  have hl := (Array.getElem?_eq_some_iff.1 hf).1
  have hA := h.below hb
  refine ⟨γ.add W.heap.size (W.alloc (.map #[] 0)).heap.size W.heap.size h.l hb.size, Gh.add_le h.l hb.size, ?_, Tag.told (if_pos ⟨Nat.le_refl _, hl, rfl⟩) (by unfold kindOf; rw [hf]; decide), Nat.le_trans γ.hB h.l, ⟨_, hm0, fun x => ?_⟩⟩
  · obtain ⟨s, h1, h2⟩ := h.s
    have hle := Gh.add_le (m := (W.alloc (.map #[] 0)).heap.size) (g := W.heap.size) h.l hb.size
    have st : Step (γ.add W.heap.size (W.alloc (.map #[] 0)).heap.size W.heap.size h.l hb.size) (fun _ => false) W (W.alloc (.map #[] 0)) := Step.belowB hb (Nat.le_trans γ.hB h.l)
    exact ⟨Nat.le_refl _, h.B, h.be.trans st.be, ⟨s, (h1.more hle).client (st.mono fun _ _ => rfl), h2⟩, (h.t.more hle).keep st rfl⟩
  · have : Ez (fun _ => none) x = none := by unfold Ez; split <;> rfl
    rw [this]
    exact ⟨by simp [Maps.has], fun h => absurd rfl h⟩
theorem tail_store (h : TA γ w W N c db sb tb now last E L v1) {eb n : Nat} (hn : n ≤ 70000 + c) (hm : EMV γ W eb n E) : TA γ w (W.setCell ⟨tb, 1, none⟩ (.map (some eb))) N c db sb tb now last E L (.map (some eb)) ∧ EMV γ (W.setCell ⟨tb, 1, none⟩ (.map (some eb))) eb n E := by
  have st : Step γ (fun T => T == 58) W (W.setCell ⟨tb, 1, none⟩ (.map (some eb))) := Step.set h.t.tg rfl h.t.B h.t.t1
  obtain ⟨s, h1, h2⟩ := h.s
  have st' : Step γ tbS W (W.setCell ⟨tb, 1, none⟩ (.map (some eb))) := st.mono fun T hT => by simp [tbS] at hT; simp [hT.1]
  refine ⟨⟨Nat.le_trans h.l st.size, h.B, h.be.trans st.be, ⟨s, h1.client st', h2⟩, ⟨h.t.tg.set h.t.t1, h.t.B, ?_, World.cell?_setCell_same _ _ _ h.t.t1, (World.frozen?_setCell _ _ _ _).trans h.t.fz⟩⟩, hm.keep st rfl⟩
  exact (World.cell?_setCell_other W ⟨tb, 1, none⟩ ⟨tb, 0, none⟩ _ (fun q => by injection q with _ q; cases q)).trans h.t.t0
def Fr (γ : Gh) (W W' : World) (tb : Nat) : Prop := ∀ k, k < W.heap.size → k ≠ tb → (∀ T, Tag γ W k T → spS T = false) → W'.heap[k]? = W.heap[k]?
def AgP (γ : Gh) (w W W' : World) (N c db sb tb : Nat) (now last : St) (E L : En) : Prop := ∃ γ' eb n, Gh.Le W γ γ' ∧ TA γ' w W' N c db sb tb now last E L (.map (some eb)) ∧ n ≤ 70000 ∧ EMV γ' W' eb n E ∧ Fr γ W W' tb ∧ W.heap.size ≤ eb
theorem AgP.tw (h : AgP γ w W W' N c db sb tb now last E L) : TW w W' N c db sb tb now last E L := by
  obtain ⟨γ', eb, n, h1, h2, h3, h4, h5⟩ := h
  exact ⟨γ', eb, n, h2, by omega, h4⟩
theorem again_ok (h : TA γ w W N c db sb tb now last E L v1) (hc : c ≤ 400000) :
    Calls Tryz.prog 21 #[.pointer (some ⟨tb, 0, none⟩)] W fun e W' => e = .returned (.int .i64 0) ∧ Hid (AgP γ w W W' N (c + 2100) db sb tb now last E L) := by
  obtain ⟨γ', hLe, hA, hM⟩ := made_map h
  have htl : tb < W.heap.size := h.t.lt
  have hmm := @run_makeMap Tryz.prog
  obtain ⟨W1, hW1⟩ : ∃ W1, W.alloc (.map #[] 0) = W1 := ⟨_, rfl⟩
  obtain ⟨eb, heb⟩ : ∃ eb, W.heap.size = eb := ⟨_, rfl⟩
  rw [hW1] at hA hM
  rw [heb] at hM
  obtain ⟨s, hs, hti⟩ := hA.s
  have t0 := hA.t.t0
  have hl := hA.t.lt
  have PG : Calls Tryz.prog 18 #[.pointer (some ⟨sb, 0, none⟩)] W1 (fun e w' => ∃ a k, e = .returned (.slice a (pgs s.own).length k) ∧ Hid (AgI γ' w W1 w' N c db sb tb eb 0 s.own now last E L (.slice a (pgs s.own).length k) v1)) := (pages_s hs hA.l).mono fun e w' ⟨⟨v, h1, h2⟩, h3⟩ => by
    obtain ⟨a, k, rfl⟩ := h2.shape
    have hA' := hA.below h3
    refine ⟨a, k, h1, Lib.hid ⟨hA'.l, hA'.be, ⟨s, hs.below h3 hA.l, hti, rfl⟩, hA'.t, ⟨0, Nat.zero_le _, ?_⟩, h2, h3.size, fun k hk _ _ => h3.block k hk⟩⟩
    have : inP ((pgs s.own).take 0) E = fun _ => none := by funext o; unfold inP; exact if_neg (fun h => by simp at h)
    rw [this]
    exact hM.keep (Step.below (S := fun _ => false) h3 hA.l) rfl
  have hpl := pgs_len s.own
  have HB := Lib.hid hA.B
  generalize s.own = own at *
  obtain ⟨n, hnn⟩ : ∃ n, (pgs own).length = n := ⟨_, rfl⟩
  rw [hnn] at PG hpl
  have HN := Lib.hid hnn
  have HC : Hid (c ≤ 400000 ∧ n ≤ 1024) := Lib.hid ⟨hc, hpl⟩
  have HW1 := Lib.hid hW1
  have HLE := Lib.hid hLe
  have HEB := Lib.hid heb
  clear h hA hM hs hti hnn hc hW1 hLe
  go_enter Tryz.func21, Tryz.ntmps21
  go_upto_region 4 with fail
  rw [HW1.out]
  go_upto_region 5 with (go_at_call 18; refine PG.mono ?_; rintro e w6 ⟨a, k, rfl, hq6⟩)
  have hc0 : Hid (∃ j, j = 0 ∧ AgI γ' w W1 w6 N (c + 2 * j) db sb tb eb j own now last E L (.slice a n k) v1) := Lib.hid ⟨0, rfl, hq6.out⟩
  clear PG hq6 t0 hl
  go_loopw [17] (fun u wr => ∃ j : Nat, u = .int .i64 (j : Int) ∧ j ≤ n ∧ Hid (AgI γ' w W1 wr N (c + 2 * j) db sb tb eb j own now last E L (.slice a n k) v1)) (fun u _ => n - (Go.RowKit.intOf u).toNat)
  case atStart => exact ⟨0, rfl, Nat.zero_le _, by obtain ⟨j, rfl, h⟩ := hc0.out; exact Lib.hid h⟩
  case round =>
    obtain ⟨j, rfl, hj, hI⟩ := hrel
    by_cases e : j < n
    · have j1 : (j : Int) < (n : Int) := by omega
      have j0 : (0 : Int) ≤ (j : Int) := by omega
      have hj2 : j < 2000001 := by omega
      obtain ⟨p, hp⟩ : ∃ p, (pgs own)[j]? = some p := ⟨_, List.getElem?_eq_getElem (by rw [HN.out]; exact e)⟩
      obtain ⟨hp2, hp0⟩ := hI.out.page hp
      obtain ⟨a', k', e1, _, hcell⟩ := hI.out.r
      rw [HN.out] at e1
      injection e1 with e1 _ e3
      subst e1 e3
      obtain ⟨g, o, ea, hg, _, hx⟩ := hcell (by rw [HN.out]; omega)
      subst ea
      have cj := hx j p hp
      have lj := cell_lt' cj
      have ip : ¬ (265 : Int) ≤ (p : Int) := by omega
      have T0 := hI.out.t.t0
      have lt := cell_lt' T0
      have RD := hI.out.read (by have := HC.out; omega) hp
      have NX := Lib.hid (fun (W' : World) (a : Option Addr) (n1 k1 : Nat) (h : AgI γ' w W1 W' N (c + 2 * j + 2) db sb tb eb j own now last E L (.slice (some ⟨g, o, none⟩) n k) v1 ∧ RV W' (.slice a n1 k1) (layB E p 62)) => h.1.next hp h.2)
      clear hcell hx hI hp hp2 hp0 hg hj
      go_upto_region 11 with (go_at_call 16; refine RD.mono ?_; rintro e w7 ⟨a7, n7, k7, rfl, hq7⟩)
      have NX7 := NX.out _ _ _ _ hq7.out
      clear RD NX hq7
      go_wp2_with (go_at_call 49; refine NX7.mono ?_; rintro e w8 ⟨rfl, hq8⟩)
      exact ⟨⟨j + 1, rfl, by omega, by rw [show c + 2 * (j + 1) = c + 2 * j + 2 by omega]; exact hq8⟩, measT e⟩
    · have ej : j = n := by omega
      subst ej
      have j1 : ¬ (j : Int) < (j : Int) := by omega
      have T0 := hI.out.t.t0
      have T1 := hI.out.t.t1
      have TF := hI.out.t.fz
      have lt := cell_lt' T1
      have hfin : Hid (AgP γ w W (wr.setCell ⟨tb, 1, none⟩ (.map (some eb))) N (c + 2100) db sb tb now last E L) := Lib.hid (by
        have h := hI.out
        have hA : TA γ' w wr N (c + 2100) db sb tb now last E L v1 := by
          obtain ⟨s, h1, h2, _⟩ := h.s
          exact ⟨h.l, HB.out, h.be, ⟨s, h1, h2.more (by have := HC.out; omega)⟩, h.t⟩
        have hI2 : AgI γ' w W1 wr N (c + 2 * j) db sb tb eb (pgs own).length own now last E L (.slice a j k) v1 := by rw [HN.out]; exact h
        obtain ⟨n1, hn1, hm⟩ := hI2.all
        obtain ⟨g1, g2⟩ := tail_store hA (by omega) hm
        refine ⟨γ', eb, n1, HLE.out, g1, hn1, g2, fun k hk hne hT => ?_, by have := HEB.out; omega⟩
        have hk1 : W1.heap[k]? = W.heap[k]? := by rw [← HW1.out]; exact (Below.alloc (Below.refl W.heap.size W) (Nat.le_refl _) (.map #[] 0)).block k hk
        have hs1 : W.heap.size ≤ W1.heap.size := by rw [← HW1.out]; exact (Below.alloc (Below.refl W.heap.size W) (Nat.le_refl _) (.map #[] 0)).size
        have e1 := h.fr k (Nat.lt_of_lt_of_le hk hs1) (by have := HEB.out; omega) (fun T ht => hT T (by
          have ht1 : Tag γ' W k T := ht.same hk1.symm
          unfold Tag Gh.kind at ht1 ⊢
          rw [HLE.out.told k hk] at ht1
          exact ht1))
        exact (heap_setCell_other wr ⟨tb, 1, none⟩ k _ hne).trans (e1.trans hk1))
      clear hI hc0
      go_wp2_with fail
      go_ret
      exact ⟨rfl, hfin⟩
end
end Go.Tb
