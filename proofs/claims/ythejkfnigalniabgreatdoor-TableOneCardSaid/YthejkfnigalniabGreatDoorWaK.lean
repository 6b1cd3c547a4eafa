/- A part of a proof about the table over the shadow space: what a function of the program answers, walked by hand. Each theorem says its own conditions. -/
import Derived.Test.YthejkfnigalniabGreatDoorWaJ
import Derived.RangeFuncGives
import Derived.Lib.SlKeysI
import Derived.Sort.MapsRangeIn
import Derived.WalkKit
import Derived.OwnWalkIn
import Derived.TacticsInMore
import Derived.RegionIn
import Derived.LoopNIn
import Derived.LoopIn
import Derived.Test.YthejkfnigalniabGreatDoorWaF
set_option linter.unusedVariables false
set_option linter.unusedSimpArgs false
set_option maxRecDepth 100000
set_option maxHeartbeats 1600000
namespace Go.Tb
open Go Go.RowKit Go.Proofs Go.Maps Go.ChangeMaps Go.MapKept Go.Sp
theorem tkspS : ∀ T, (spS T || T == 0) = false → spS T = false := fun T h => by simp at h; exact h.1
theorem tk0 : ∀ T, (spS T || T == 0) = false → (T == 0) = false := fun T h => by simp at h; simp [h.2]
def MidP (γ : Gh) (w W W' : World) (N c db sb tb eb n oid : Nat) (y : Option (Nat × Nat)) (now last : St) (E L : En) (r : Nat) : Prop :=
  Step γ spS W W' ∧ EMV γ W' eb n E ∧ ((r = 0 ∧ ∃ now', TA γ w W' N (c + 2) db sb tb now' last (upd E oid y) L (.map (some eb))) ∨ (r = 6 ∧ TA γ w W' N (c + 2) db sb tb now last E L (.map (some eb)) ∧ N ≤ 29 + (pgE E).length + (pgE L).length))
section
variable {γ : Gh} {w W W' : World} {N c db sb tb eb n : Nat} {now last : St} {E L : En}
theorem lay_tb (h : TA γ w W N c db sb tb now last E L (.map (some eb))) (hm : EMV γ W eb n E) (hc : c ≤ 400000) {oid : Nat} {y : Option (Nat × Nat)} (ho : 1 ≤ oid ∧ oid ≤ 16384) (hy : ∀ p t, y = some (p, t) → 265 ≤ p ∧ p < 1024 ∧ t ≤ 65535) (hn : y = none → E oid ≠ none) :
    Calls Tryz.prog 25 #[.pointer (some ⟨tb, 0, none⟩), .int .i64 (oid : Int), pair y] W fun e W' => ∃ r : Nat, e = .returned (.int .i64 (r : Int)) ∧ Hid (MidP γ w W W' N c db sb tb eb n oid y now last E L r) := by
  obtain ⟨s, hs, ht⟩ := h.s
  have hE' : EnOk (upd E oid y) := ht.e.upd fun p t e => ⟨ho.1, ho.2, hy p t e⟩
  refine lay_ok h.t.t0 h.t.t1 hm.em ho rfl hE' (fun w1 v hb hv hr hne => ?_) (fun w1 hb hnil => ?_) (fun e w' ⟨r, h1, _⟩ => ⟨_, h1⟩)
  · have st1 : Step γ spS W w1 := Step.below hb h.l
    have l1 := Nat.le_trans h.l hb.size
    refine (write_s (hs.below hb h.l) ht.inv.ok (ti_bd ht (by omega) _ (by omega)) l1 (((oid - 1) / 62 : Nat) : Int) (hr.rb h.l).ra).mono ?_
    rintro e W' ⟨rfl, hq⟩
    obtain ⟨q1, q2⟩ := hq.out
    have st : Step γ spS W W' := st1.trans q2
    refine ⟨_, rfl, Lib.hid ⟨st, hm.keep st rfl, ?_⟩⟩
    rcases ht.write ho hy hne with ⟨g1, g2⟩ | ⟨g1, g3⟩
    · rw [g1]
      exact .inl ⟨rfl, _, h.step st rfl ⟨_, q1, g2⟩⟩
    · rw [g1] at q1 ⊢
      exact .inr ⟨rfl, h.step st rfl ⟨s, q1, ht.more (by omega)⟩, g3⟩
  · have st1 : Step γ spS W w1 := Step.below hb h.l
    have l1 := Nat.le_trans h.l hb.size
    have hyn : y = none := by
      cases y with
      | none => rfl
      | some y =>
        have := layB_nil.1 hnil ((oid - 1) % 62) (by omega)
        rw [show (oid - 1) / 62 * 62 + 1 + (oid - 1) % 62 = oid by omega, upd_same] at this
        cases this
    refine (drop_s (hs.below hb h.l) l1 (((oid - 1) / 62 : Nat) : Int)).mono ?_
    rintro e W' ⟨rfl, hq⟩
    obtain ⟨q1, q2⟩ := hq.out
    have st : Step γ spS W W' := st1.trans q2
    refine ⟨_, rfl, Lib.hid ⟨st, hm.keep st rfl, ?_⟩⟩
    obtain ⟨g1, g2⟩ := ht.drop ho hy (hn hyn) hnil
    rw [g1]
    exact .inl ⟨rfl, _, h.step st rfl ⟨_, q1, g2.more (by omega)⟩⟩
def tkS : TypeId → Bool := fun T => spS T || T == 0
def TG (γ : Gh) (eb : Nat) (w W : World) (N c db sb tb : Nat) (E L : En) : Prop := ∃ now last n, TA γ w W N c db sb tb now last E L (.map (some eb)) ∧ n ≤ 70000 + c ∧ EMV γ W eb n E
theorem TA.turnedG (h : TA γ w W N c db sb tb now last E L (.map (some eb))) {E0 : En} (hm : EMV γ W eb n E0) {n' : Nat} (ho : OnlyB eb W W') (hm' : EM W' eb n' E) (hn : n' ≤ 70000 + c) : TG γ eb w W' N c db sb tb E L ∧ Step γ (fun T => T == 0) W W' := by
  obtain ⟨s, hs, ht⟩ := h.s
  obtain ⟨st, hem⟩ := only_step hm ho hm'
  have st' : Step γ tbS W W' := st.mono fun T hT => by simp [tbS] at hT; simp [hT.2]
  exact ⟨⟨now, last, n', h.step st rfl ⟨s, hs.client st', ht⟩, hn, hem⟩, st⟩
theorem TA.turned (h : TA γ w W N c db sb tb now last E L (.map (some eb))) {E0 : En} (hm : EMV γ W eb n E0) {n' : Nat} (ho : OnlyB eb W W') (hm' : EM W' eb n' E) (hn : n' ≤ 70000 + c) : TW w W' N c db sb tb now last E L := by
  obtain ⟨s, hs, ht⟩ := h.s
  obtain ⟨st, hem⟩ := only_step hm ho hm'
  have st' : Step γ tbS W W' := st.mono fun T hT => by simp [tbS] at hT; simp [hT.2]
  exact ⟨γ, eb, n', h.step st rfl ⟨s, hs.client st', ht⟩, hn, hem⟩
def TX (w W : World) (N c db sb tb : Nat) (E L : En) : Prop := ∃ now last, TW w W N c db sb tb now last E L
theorem TX.below (h : TX w W N c db sb tb E L) (hb : Below W.heap.size W W') : TX w W' N c db sb tb E L := by
  obtain ⟨now, last, h⟩ := h
  exact ⟨now, last, h.below hb⟩
theorem TX.more (h : TX w W N c db sb tb E L) {c' : Nat} (hc : c ≤ c') : TX w W N c' db sb tb E L := by
  obtain ⟨now, last, h⟩ := h
  exact ⟨now, last, h.more hc⟩
theorem TG.tx (h : TG γ eb w W N c db sb tb E L) : TX w W N c db sb tb E L := by
  obtain ⟨now, last, n, h1, h2, h3⟩ := h
  exact ⟨now, last, γ, eb, n, h1, h2, h3⟩
def mayS (oid pg sl : Int) : Bool := decide (1 ≤ oid ∧ oid ≤ 16384) && mayE pg sl
theorem tset_no (h : TX w W N c db sb tb E L) {oid pg sl : Int} (hb : mayS oid pg sl = false) :
    Calls Tryz.prog 11 #[.pointer (some ⟨tb, 0, none⟩), .int .i64 oid, .int .i64 pg, .int .i64 sl] W fun e W' => e = .returned (.int .i64 1) ∧ Hid (TX w W' N c db sb tb E L) := by
  have HH := Lib.hid (fun W' (hb : Below W.heap.size W W') => h.below hb)
  clear h
  unfold mayS at hb
  by_cases i1 : oid < 1
  · go_enter Tryz.func11, Tryz.ntmps11
    go_wp2
    go_ret
    exact ⟨rfl, Lib.hid (HH.out _ (Below.alloc (Below.refl _ _) (Nat.le_refl _) _))⟩
  · by_cases i2 : (16384 : Int) < oid
    · go_enter Tryz.func11, Tryz.ntmps11
      go_wp2
      go_ret
      exact ⟨rfl, Lib.hid (HH.out _ (Below.alloc (Below.refl _ _) (Nat.le_refl _) _))⟩
    · rw [decide_eq_true (by omega), Bool.true_and] at hb
      have MY := Lib.hid (fun W1 => may24 W1 pg sl)
      rw [hb] at MY
      go_enter Tryz.func11, Tryz.ntmps11
      go_wp2_with (go_at_call 24; refine (MY.out _).mono ?_; rintro e w5 ⟨rfl, hb5⟩)
      go_ret
      exact ⟨rfl, Lib.hid (HH.out _ ((Below.alloc (Below.refl _ _) (Nat.le_refl _) _).trans (hb5.mono (by simp))))⟩
theorem tset_ok2 (h : TX w W N c db sb tb E L) (hc : c ≤ 400000) {oid pg sl : Nat} (ho : 1 ≤ oid ∧ oid ≤ 16384) (hp : 265 ≤ pg ∧ pg < 1024) (hs : sl ≤ 65535) :
    Calls Tryz.prog 11 #[.pointer (some ⟨tb, 0, none⟩), .int .i64 (oid : Int), .int .i64 (pg : Int), .int .i64 (sl : Int)] W fun e W' => ∃ r : Nat, e = .returned (.int .i64 (r : Int)) ∧ Hid ((r = 0 ∧ TX w W' N (c + 2) db sb tb (upd E oid (some (pg, sl))) L) ∨ (r = 6 ∧ TX w W' N (c + 2) db sb tb E L ∧ N ≤ 29 + (pgE E).length + (pgE L).length)) := by
  obtain ⟨now, last, γ, eb, n, hA, hn, hm⟩ := h
  have i1 : ¬ (oid : Int) < 1 := by omega
  have i2 : ¬ (16384 : Int) < (oid : Int) := by omega
  have MY := Lib.hid (fun W1 => may24 W1 (pg : Int) (sl : Int))
  rw [show mayE (pg : Int) (sl : Int) = true from decide_eq_true (by omega)] at MY
  have LY := Lib.hid (fun W1 (hb : Below W.heap.size W W1) => lay_tb (hA.below hb) (hm.keep (Step.below (S := fun _ => false) hb hA.l) rfl) hc (y := some (pg, sl)) ho (fun p t e => by injection e with e; injection e with e1 e2; omega) (fun e => by cases e))
  have HA := Lib.hid hA
  have HN : Hid (n ≤ 70000 + c ∧ c ≤ 400000) := Lib.hid ⟨hn, hc⟩
  have HO : Hid (1 ≤ oid ∧ oid ≤ 16384) := Lib.hid ho
  have HK := Lib.hid (key_z (x := (oid : Int)) (wf_n (by omega)))
  clear hA hn hm hc ho hp hs
  go_enter Tryz.func11, Tryz.ntmps11
  go_upto_region 6 with (go_at_call 24; refine (MY.out _).mono ?_; rintro e w5 ⟨rfl, hb5⟩)
  have hb1 : Below W.heap.size W (W.alloc (.cells #[.int .i64 (pg : Int), .int .i64 (sl : Int)] 62)) := Below.alloc (Below.refl _ _) (Nat.le_refl _) _
  have hk1 := (Go.MapKept.heap_alloc W (.cells #[.int .i64 (pg : Int), .int .i64 (sl : Int)] 62)).1
  generalize W.alloc (.cells #[.int .i64 (pg : Int), .int .i64 (sl : Int)] 62) = W1 at hb1 hk1 hb5
  have hb15 : Below W.heap.size W w5 := hb1.trans (hb5.mono hb1.size)
  have l1 := (Array.getElem?_eq_some_iff.1 hk1).1
  have hk5 := (hb5.block _ l1).trans hk1
  have L5 := LY.out w5 hb15
  unfold pair at L5
  have L5 : Calls Tryz.prog 25 #[.pointer (some ⟨tb, 0, none⟩), .int .i64 (oid : Int), .agg #[.int .i64 (pg : Int), .int .i64 (sl : Int)]] w5 (fun e W' => ∃ r : Nat, e = .returned (.int .i64 (r : Int)) ∧ Hid (MidP γ w w5 W' N c db sb tb eb n oid (some (pg, sl)) now last E L r)) := L5
  have c50 : w5.cell? ⟨W.heap.size, 0, none⟩ = some (.int .i64 (pg : Int)) := by simp [World.cell?, hk5]
  have c51 : w5.cell? ⟨W.heap.size, 1, none⟩ = some (.int .i64 (sl : Int)) := by simp [World.cell?, hk5]
  have tg5 : Tag γ w5 W.heap.size 62 := Tag.new HA.out.l hk5
  have lw5 := cell_lt' c50
  have HC5 := Lib.hid (And.intro c50 (And.intro c51 tg5))
  clear hb1 hk1 hb5 hb15 l1 hk5 LY MY tg5
  go_upto_region 7 with (go_at_call 25; refine L5.mono ?_; rintro e w6 ⟨r, rfl, hq6⟩)
  clear L5
  have hc61 : w6.cell? ⟨tb, 1, none⟩ = some (.map (some eb)) := by
    obtain ⟨_, _, h | h⟩ := hq6.out
    · obtain ⟨_, _, h⟩ := h; exact h.t.t1
    · exact h.2.1.t.t1
  have t61 := cell_lt' hc61
  have g60 := cell_keep hq6.out.1 HC5.out.2.2 rfl HC5.out.1
  have g61 := cell_keep hq6.out.1 HC5.out.2.2 rfl HC5.out.2.1
  have b61 := cell_lt' g60
  obtain ⟨D, hown, hsay⟩ := hq6.out.2.1.em
  have HOW : Hid (w6.drew.ownsMap Tryz.prog 3 heldR eb n D ∧ n < maxLen) := Lib.hid ⟨hown, Nat.lt_of_le_of_lt (show n ≤ 1000000 by have := HN.out; omega) (by decide)⟩
  have HSAY := Lib.hid hsay
  clear hown hsay c50 c51 lw5
  by_cases hr : r = 0
  · have hfin : Hid (∀ w7, w7.ownsMap Tryz.prog 3 heldR eb (n + 1) (D.put (.int .i64 (oid : Int)) (.held (.agg #[.int .i64 (pg : Int), .int .i64 (sl : Int)]))) → w6.drew.mapTurned w7 eb → Hid (((0 : Nat) = 0 ∧ TX w w7 N (c + 2) db sb tb (upd E oid (some (pg, sl))) L) ∨ ((0 : Nat) = 6 ∧ TX w w7 N (c + 2) db sb tb E L ∧ N ≤ 29 + (pgE E).length + (pgE L).length))) := Lib.hid (fun w7 hm7 hg7 => Lib.hid (.inl ⟨rfl, by
      obtain ⟨q1, q2, h | h⟩ := hq6.out
      · obtain ⟨_, now', h⟩ := h
        have ho : OnlyB eb w6 w7 := (OnlyB.drew (OnlyB.refl eb w6)).trans (OnlyB.turned hg7)
        exact ⟨now', last, h.turned q2 ho (EM.put HSAY.out HOW.out.1.isMap hm7) (by have := HN.out; omega)⟩
      · omega⟩))
    subst hr
    clear hq6
    go_wp2
    go_still_tail 6, (by kernel_rfl)
    change wpList _ _ _ _ _ w6.drew
    refine wpList_mapUpdate_in _ rfl _ _ _ 56 rfl 3 62 key3 Tryz.underlying56 heldR eb _ _ rfl HOW.out.1 HOW.out.2 (.int .i64 (oid : Int)) (.agg #[.int .i64 (pg : Int), .int .i64 (sl : Int)]) _ rfl rfl HK.out (.held (.agg #[.int .i64 (pg : Int), .int .i64 (sl : Int)])) [] rfl ?_
    intro w7 hm7 hg7
    have HF := hfin.out w7 hm7 hg7
    clear hm7 hg7
    go_wp2_with fail
    go_ret
    exact ⟨0, rfl, Lib.hid (.inl ⟨rfl, HF.out.elim (fun h => h.2) (fun h => absurd h.1 (by decide))⟩)⟩
  · have hr6 : r = 6 := by
      obtain ⟨_, _, h | h⟩ := hq6.out
      · exact absurd h.1 hr
      · exact h.1
    subst hr6
    have HF : Hid (((6 : Nat) = 0 ∧ TX w w6 N (c + 2) db sb tb (upd E oid (some (pg, sl))) L) ∨ ((6 : Nat) = 6 ∧ TX w w6 N (c + 2) db sb tb E L ∧ N ≤ 29 + (pgE E).length + (pgE L).length)) := Lib.hid (.inr ⟨rfl, by
      obtain ⟨_, q2, h | h⟩ := hq6.out
      · exact absurd h.1 hr
      · exact ⟨⟨now, last, γ, eb, n, h.2.1, by have := HN.out; omega, q2⟩, h.2.2⟩⟩)
    clear hq6 HOW HSAY hr
    go_wp2_with fail
    go_ret
    exact ⟨6, rfl, Lib.hid (.inr ⟨rfl, HF.out.elim (fun h => absurd h.1 (by decide)) (fun h => h.2)⟩)⟩
theorem tclear_no (h : TX w W N c db sb tb E L) {oid : Int} (hw : (Lit.int .i64 oid).wf = true) (hb : (1 ≤ oid ∧ oid ≤ 16384) → Ez E oid = none) :
    Calls Tryz.prog 12 #[.pointer (some ⟨tb, 0, none⟩), .int .i64 oid] W fun e W' => e = .returned (.int .i64 (if 1 ≤ oid ∧ oid ≤ 16384 then 7 else 1)) ∧ Hid (TX w W' N c db sb tb E L) := by
  have HH := Lib.hid (fun W' (hb : Below W.heap.size W W') => h.below hb)
  by_cases i1 : oid < 1
  · rw [if_neg (by omega)]
    clear h
    go_enter Tryz.func12, Tryz.ntmps12
    go_wp2
    go_ret
    exact ⟨rfl, Lib.hid (HH.out _ (Below.refl _ _))⟩
  · by_cases i2 : (16384 : Int) < oid
    · rw [if_neg (by omega)]
      clear h
      go_enter Tryz.func12, Tryz.ntmps12
      go_wp2
      go_ret
      exact ⟨rfl, Lib.hid (HH.out _ (Below.refl _ _))⟩
    · rw [if_pos (by omega)]
      obtain ⟨now, last, γ, eb, n, hA, hn, hm⟩ := h
      have hLK := hm.em.look hw (W := W) rfl
      rw [hb (by omega)] at hLK
      unfold pair at hLK
      have hLK : (Instr.lookup 56 (.map (some eb)) (.int .i64 oid) true).run Tryz.prog W = .ok (.tuple #[.agg #[.int .i64 ((0 : Nat) : Int), .int .i64 ((0 : Nat) : Int)], .bool false]) W := hLK
      have c1 := hA.t.t1
      have l1 := cell_lt' c1
      clear hA hn hm
      go_enter Tryz.func12, Tryz.ntmps12
      go_wp2
      go_ret
      exact ⟨rfl, Lib.hid (HH.out _ (by (repeat (first | exact Below.refl _ _ | assumption | refine Below.drew ?_ | refine Below.alloc ?_ (by first | (simp; done) | (simp; omega)) _))))⟩
theorem tclear_g (h : TG γ eb w W N c db sb tb E L) (hc : c ≤ 400000) {oid : Nat} (ho : 1 ≤ oid ∧ oid ≤ 16384) (hE : E oid ≠ none) :
    Calls Tryz.prog 12 #[.pointer (some ⟨tb, 0, none⟩), .int .i64 (oid : Int)] W fun e W' => ∃ r : Nat, e = .returned (.int .i64 (r : Int)) ∧ Hid (Step γ tkS W W' ∧ ((r = 0 ∧ TG γ eb w W' N (c + 2) db sb tb (upd E oid none) L) ∨ (r = 6 ∧ TG γ eb w W' N (c + 2) db sb tb E L ∧ N ≤ 29 + (pgE E).length + (pgE L).length))) := by
  obtain ⟨now, last, n, hA, hn, hm⟩ := h
  have hlim := hA.l
  have i1 : ¬ (oid : Int) < 1 := by omega
  have i2 : ¬ (16384 : Int) < (oid : Int) := by omega
  have hw : (Lit.int .i64 (oid : Int)).wf = true := wf_n (by omega)
  have hLK := hm.em.look hw (W := W) rfl
  rw [Ez_nat] at hLK
  obtain ⟨y, hy⟩ := Option.ne_none_iff_exists'.1 hE
  rw [hy] at hLK
  unfold pair at hLK
  obtain ⟨p, s⟩ := y
  have hLK : (Instr.lookup 56 (.map (some eb)) (.int .i64 (oid : Int)) true).run Tryz.prog W = .ok (.tuple #[.agg #[.int .i64 (p : Int), .int .i64 (s : Int)], .bool true]) W := hLK
  have LY := Lib.hid (fun W1 (hb : Below W.heap.size W W1) => show Calls Tryz.prog 25 #[.pointer (some ⟨tb, 0, none⟩), .int .i64 (oid : Int), .agg #[.int .i64 0, .int .i64 0]] W1 _ from lay_tb (hA.below hb) (hm.keep (Step.below (S := fun _ => false) hb hA.l) rfl) hc (y := none) ho (fun p t e => by cases e) (fun _ => hE))
  have HN : Hid (n ≤ 70000 + c ∧ c ≤ 400000) := Lib.hid ⟨hn, hc⟩
  have HK := Lib.hid (key_z hw)
  have c1 := hA.t.t1
  have l1 := cell_lt' c1
  clear hA hn hm hc hy hw
  go_enter Tryz.func12, Tryz.ntmps12
  have HBX : Hid (Step γ tkS W (W.alloc (.cells #[.int .i64 (p : Int), .int .i64 (s : Int)] 62))) := Lib.hid (Step.below (Below.alloc (Below.refl _ _) (Nat.le_refl _) _) hlim)
  have L5 := LY.out (W.alloc (.cells #[.int .i64 (p : Int), .int .i64 (s : Int)] 62)) (Below.alloc (Below.refl _ _) (Nat.le_refl _) _)
  go_upto_region 9 with (go_at_call 25; refine L5.mono ?_; rintro e w6 ⟨r, rfl, hq6⟩)
  clear L5 LY
  have hc61 : w6.cell? ⟨tb, 1, none⟩ = some (.map (some eb)) := by
    obtain ⟨_, _, h | h⟩ := hq6.out
    · obtain ⟨_, _, h⟩ := h; exact h.t.t1
    · exact h.2.1.t.t1
  have t61 := cell_lt' hc61
  obtain ⟨D, hown, hsay⟩ := hq6.out.2.1.em
  have HOW : Hid (w6.ownsMap Tryz.prog 3 heldR eb n D) := Lib.hid hown
  have HSAY := Lib.hid hsay
  clear hown hsay c1 l1 hLK
  by_cases hr : r = 0
  · have hfin : Hid (∀ w7, w7.ownsMap Tryz.prog 3 heldR eb n (D.del (.int .i64 (oid : Int))) → w6.mapTurned w7 eb → Hid (Step γ tkS W w7 ∧ TG γ eb w w7 N (c + 2) db sb tb (upd E oid none) L)) := Lib.hid (fun w7 hm7 hg7 => Lib.hid (by
      obtain ⟨q1, q2, h | h⟩ := hq6.out
      · obtain ⟨_, now', h⟩ := h
        obtain ⟨g1, g2⟩ := h.turnedG q2 (OnlyB.turned hg7) (EM.del HSAY.out hm7) (by have := HN.out; omega)
        exact ⟨(HBX.out.trans (q1.mono tkspS)).trans (g2.mono tk0), g1⟩
      · omega))
    subst hr
    clear hq6 HSAY
    go_wp2_with (at_delete; refine wpList_delete_own _ rfl _ _ 56 3 rfl 62 key3 Tryz.underlying56 heldR eb _ _ rfl HOW.out (.int .i64 (oid : Int)) _ rfl HK.out ?_; intro w7 hm7 hg7; have HF := hfin.out w7 hm7 hg7; clear hm7 hg7)
    go_ret
    exact ⟨0, rfl, Lib.hid ⟨HF.out.1, .inl ⟨rfl, HF.out.2⟩⟩⟩
  · have hr6 : r = 6 := by
      obtain ⟨_, _, h | h⟩ := hq6.out
      · exact absurd h.1 hr
      · exact h.1
    subst hr6
    have HF : Hid (Step γ tkS W w6 ∧ TG γ eb w w6 N (c + 2) db sb tb E L ∧ N ≤ 29 + (pgE E).length + (pgE L).length) := Lib.hid (by
      obtain ⟨q1, q2, h | h⟩ := hq6.out
      · exact absurd h.1 hr
      · exact ⟨HBX.out.trans (q1.mono tkspS), ⟨now, last, n, h.2.1, by have := HN.out; omega, q2⟩, h.2.2⟩)
    clear hq6 HOW HSAY hr
    go_wp2_with fail
    go_ret
    exact ⟨6, rfl, Lib.hid ⟨HF.out.1, .inr ⟨rfl, HF.out.2⟩⟩⟩
theorem tclear_ok (h : TX w W N c db sb tb E L) (hc : c ≤ 400000) {oid : Nat} (ho : 1 ≤ oid ∧ oid ≤ 16384) (hE : E oid ≠ none) :
    Calls Tryz.prog 12 #[.pointer (some ⟨tb, 0, none⟩), .int .i64 (oid : Int)] W fun e W' => ∃ r : Nat, e = .returned (.int .i64 (r : Int)) ∧ Hid ((r = 0 ∧ TX w W' N (c + 2) db sb tb (upd E oid none) L) ∨ (r = 6 ∧ TX w W' N (c + 2) db sb tb E L ∧ N ≤ 29 + (pgE E).length + (pgE L).length)) := by
  obtain ⟨now, last, γ, eb, n, hA, hn, hm⟩ := h
  exact (tclear_g ⟨now, last, n, hA, hn, hm⟩ hc ho hE).mono fun e W' ⟨r, h1, h2⟩ => ⟨r, h1, Lib.hid (h2.out.2.imp (fun h => ⟨h.1, h.2.tx⟩) (fun h => ⟨h.1, h.2.1.tx, h.2.2⟩))⟩
end
end Go.Tb
namespace Go.Tb
open Go Go.RowKit Go.Proofs Go.Maps Go.Sort Go.Shelf Go.Sp
set_option maxHeartbeats 1000000 in
theorem keys97 {H : Type} (F : Fence) (n : Nat) (h97 : F.fn 97) (hro : F.round = none) (hn : 1 ≤ n) (l : Nat) (a : Addr) (b nn : Nat) (D0 : DataW H) {R : Value → Option (DataW H × List MemPlace)} (J : List Int → World → Prop)
    (hY : ∀ pre x W, J pre W → pre.length < Maps.size D0 → YieldAt F (n - 1) Tryz.prog l #[encZ x] W fun e W' => e = .returned (.bool true) ∧ J (pre ++ [x]) W' ∧ KeepsWalks W W')
    (W : World) (hJ : AbidesFrom W.heap.size J) (hm : W.cell? a = some (.map (some b))) (hown : W.ownsMap Tryz.prog 3 R b nn D0) (h0 : J [] W) :
    CallsIn F n Tryz.prog 97 #[.func (.yield l) #[] #[], .pointer (some a)] W fun e W' => (∃ v, e = .returned v) ∧ ∃ ss : List Int, ss.Perm (intKeys D0) ∧ J ss W' := by
  refine callsIn_of_wp Tryz.func97 rfl h97 ?_ hro
  simp only [Tryz.ntmps97, List.size_toArray, List.length_cons, List.length_nil, Nat.reduceAdd, Nat.reduceSub, Array.replicate_succ, Array.replicate_zero, List.push_toArray, List.append_toArray, List.nil_append, List.cons_append]
  gi_wp2_with (first
    | (gi_at_range; refine wpListIn_range_own _ rfl _ 56 rfl 3 _ key3 Tryz.underlying56 _ b nn _ rfl hown ?_; intro w0 hrg0 hg0 hs0)
    | gi_in)
  go_frame
  gi_loopw [3] (fun _ wr => ∃ (left : Lit → Bool) (cnt : Nat) (ss : List Int), wr.ranges Tryz.prog 3 R b W.heap.size nn D0 left cnt ∧ ss.length + cnt ≤ Maps.size D0 ∧ CollectedI D0 left ss ∧ J ss wr)
    (fun _ wr => wr.rangeLeft b W.heap.size)
  case atStart =>
    exact ⟨_, _, [], hrg0, by simp, CollectedI.start D0, hJ [] W w0 none h0 hg0 (fun r e => by cases e)⟩
  case round =>
    obtain ⟨left, cnt, ss, hrg, hcs, hC, hJs⟩ := hrel
    gi_wp2_with (first
      | (gi_at_next; refine wpListIn_next_ranges _ rfl _ rfl 3 key3 R encZ id (fun key kl hk => by obtain ⟨x, hx, _⟩ := Maps.keyOf_i64 Tryz.underlying3 hk; exact ⟨x, hx⟩) (fun v _ _ => ⟨v, rfl⟩) b W.heap.size nn _ _ _ rfl hrg ?_ ?_)
      | gi_in)
    · intro hc0 hl0
      gi_wp2
      go_end0
      exact ⟨⟨_, rfl⟩, ss, hC.perm hown key3 Tryz.underlying3 hl0, hJs⟩
    · intro x c kl yd yp w2 cnt2 hkey hlk hv hat hrg2 hlt hg2 hs2 hen
      obtain ⟨x', ex, rfl, _⟩ := Maps.keyOf_i64 Tryz.underlying3 hkey
      obtain rfl : x = x' := encZ_inj ex
      have hJ2 : J ss w2 := hJ ss wr w2 (some W.heap.size) hJs hg2 (fun r e => by cases e; exact ⟨Nat.le_refl _, hrg.iter_walk⟩)
      obtain ⟨fn, tmps, assign, body, hy, hR⟩ := hY ss x w2 hJ2 (by omega)
      clear hs2
      gi_wp2
      refine hR.mono ?_
      rintro e W3 ⟨rfl, hJ3, hk3⟩
      gi_wp2
      have hrg3 := hrg2.of_walks hk3
      go_roundw
      case rel => exact ⟨_, cnt2, ss ++ [x], hrg3, by simp; omega, hC.step hlk hat, hJ3⟩
      case measure => rw [hrg3.left_eq, hrg.left_eq]; exact hlt
theorem keys97_gives {H : Type} (F : Fence) (n : Nat) (h97 : F.fn 97) (hro : F.round = none) (hn : 1 ≤ n) (a : Addr) (b nn : Nat) (D0 : DataW H) {R : Value → Option (DataW H × List MemPlace)} (w : World) (ha : a.block < w.heap.size)
    (hm : w.cell? a = some (.map (some b))) (hown : w.ownsMap Tryz.prog 3 R b nn D0) :
    SeqGives F n Tryz.prog 97 #[.pointer (some a)] encZ (fun ss => ss.Perm (intKeys D0)) (Maps.size D0) w := fun l J W hW hJ hY h0 => by
  have hown' : W.ownsMap Tryz.prog 3 R b nn D0 := by
    have hbl := hown.lt
    obtain ⟨es, clock, hb, Ft, hs, hD⟩ := hown
    exact ⟨es, clock, (hW.block b hbl).trans hb, Ft, hs, hD⟩
  exact keys97 F n h97 hro hn l a b nn D0 J hY W hJ ((hW.cell (p := a) ha).trans hm) hown' h0
theorem enters97 : Enters Tryz.prog 97 := enters_of Tryz.func97 (by kernel_rfl) (by kernel_rfl)
theorem sorted97_ok {H : Type} {a : Addr} {b nn : Nat} {D0 : DataW H} {R : Value → Option (DataW H × List MemPlace)} {w : World} (ha : a.block < w.heap.size) (hm : w.cell? a = some (.map (some b))) (hown : w.ownsMap Tryz.prog 3 R b nn D0) (hmax : Maps.size D0 ≤ maxLen) (hbytes : Maps.size D0 * 8 ≤ 140737488355328) :
    Calls Tryz.prog 58 #[.func (.func 97) #[] #[.pointer (some a)]] w fun e w' => ∃ (v : Value) (ss : List Int), e = .returned v ∧ ss.Perm (intKeys D0) ∧
      w'.ownsRow w.heap.size 3 1 v ss.length ((ss.mergeSort (fun x y => decide (x ≤ y))).map encZ) ∧ (v = .slice none 0 0 ↔ ss = []) ∧ Below w.heap.size w w' := by
  refine (callsIn_wide (n := 5)).1 ?_
  have hseq : SeqGives Fence.wide 2 Tryz.prog 97 #[.pointer (some a)] encZ (fun ss => ss.Perm (intKeys D0)) (Maps.size D0) w :=
    keys97_gives Fence.wide 2 trivial rfl (by omega) a b nn D0 w ha hm hown
  exact AnyZI.sorted_in Tryz.sortedS Fence.wide 5 trivial trivial trivial trivial rfl (by omega) (sortsT _) enters96  97 #[.pointer (some a)] trivial enters97 _ _ hmax hbytes _ hseq
theorem keys97_ok {w : World} {eb : Nat} : Calls Tryz.prog 59 #[.map (some eb)] w fun e w' => e = .returned (.func (.func 97) #[] #[.pointer (some ⟨w.heap.size, 0, none⟩)]) ∧ w' = w.alloc (.cells #[.map (some eb)] 56) := by
  go_enter Tryz.func59, Tryz.ntmps59
  go_wp2
  go_ret
  exact ⟨rfl, rfl⟩
def keysL (E : En) : List Nat := (List.range 16385).filter fun o => (E o).isSome
theorem keysL_in {E : En} (h : EnOk E) {o : Nat} : o ∈ keysL E ↔ (E o).isSome = true := by
  unfold keysL
  rw [List.mem_filter, List.mem_range]
  refine ⟨fun h => h.2, fun hs => ⟨?_, hs⟩⟩
  obtain ⟨y, hy⟩ := Option.isSome_iff_exists.1 hs
  obtain ⟨p, s⟩ := y
  have := h.ok o p s hy
  omega
theorem keysL_len (E : En) : (keysL E).length ≤ 16385 := by
  have := List.length_filter_le (fun o => (E o).isSome) (List.range 16385)
  simpa [keysL] using this
theorem em_keys {w : World} {eb n : Nat} {D : DataW Value} {E : En} (hE : EnOk E) (hown : w.ownsMap Tryz.prog 3 heldR eb n D) (h : ∀ x : Int, says D x (Ez E x)) : ((keysL E).map fun (x : Nat) => (x : Int)).Perm (intKeys D) := by
  have hc : CollectedI D (fun _ => false) ((keysL E).map fun (x : Nat) => (x : Int)) := by
    refine ⟨?_, fun x => ?_⟩
    · exact List.Pairwise.map _ (fun a b h e => h (by omega)) (List.Pairwise.filter _ List.nodup_range)
    · rw [List.mem_map]
      have hx := (h x).1
      constructor
      · rintro ⟨s, hs, rfl⟩
        rw [Ez_nat, (keysL_in hE).1 hs] at hx
        simp [hx]
      · intro hh
        have hh : Maps.has D (.int .i64 x) = true := by simpa using hh
        rw [hx] at hh
        unfold Ez at hh
        by_cases e : x < 0
        · rw [if_pos e] at hh; cases hh
        · rw [if_neg e] at hh
          exact ⟨x.toNat, (keysL_in hE).2 hh, by omega⟩
  exact hc.perm hown key3 Tryz.underlying3 (fun _ => rfl)
theorem keysort97 {E : En} {ss : List Int} {D : DataW Value} (h1 : ss.Perm (intKeys D)) (h2 : ((keysL E).map fun (x : Nat) => (x : Int)).Perm (intKeys D)) : ss.mergeSort (fun x y => decide (x ≤ y)) = (keysL E).map fun (x : Nat) => (x : Int) := by
  have h3 : ss.mergeSort leI = ((keysL E).map fun (x : Nat) => (x : Int)).mergeSort leI := mergeSort_of_perm_i (h1.trans h2.symm)
  show ss.mergeSort leI = _
  rw [h3]
  refine List.mergeSort_of_pairwise ?_
  refine List.Pairwise.map _ (fun a b (h : a ≤ b) => ?_) ((range_sorted 16385).filter _)
  simp; exact h
theorem oids_ok {w : World} {tb eb n : Nat} {E : En} (h1 : w.cell? ⟨tb, 1, none⟩ = some (.map (some eb))) (h : EM w eb n E) (hE : EnOk E) (hn : n ≤ 1048576) :
    Calls Tryz.prog 26 #[.pointer (some ⟨tb, 0, none⟩)] w fun e w' => ∃ v, e = .returned v ∧ w'.ownsRow w.heap.size 3 1 v (keysL E).length ((keysL E).map fun (x : Nat) => Value.int .i64 (x : Int)) ∧ Below w.heap.size w w' := by
  have hl := cell_lt' h1
  have K1 := keys97_ok (w := w) (eb := eb)
  obtain ⟨D, hownD, hsay⟩ := h
  have hown : (w.alloc (.cells #[.map (some eb)] 56)).ownsMap Tryz.prog 3 heldR eb n D := World.ownsMap.alloc hownD _
  have hc : (w.alloc (.cells #[.map (some eb)] 56)).cell? ⟨w.heap.size, 0, none⟩ = some (.map (some eb)) := by
    have := (Go.MapKept.heap_alloc w (.cells #[.map (some eb)] 56)).1
    generalize w.alloc (.cells #[.map (some eb)] 56) = W at this ⊢
    simp [World.cell?, this]
  have hsz := hownD.size_le
  have hbel : Below w.heap.size w (w.alloc (.cells #[.map (some eb)] 56)) := Below.alloc (Below.refl _ _) (Nat.le_refl _) _
  have hki := em_keys hE hownD hsay
  have S := sorted97_ok (cell_lt' hc) hc hown (Nat.le_trans hsz (Nat.le_trans hn (by decide))) (by omega)
  generalize w.alloc (.cells #[.map (some eb)] 56) = W at K1 S hbel
  have S2 : Calls Tryz.prog 58 #[.func (.func 97) #[] #[.pointer (some ⟨w.heap.size, 0, none⟩)]] W fun e w' => ∃ v, e = .returned v ∧ Hid (w'.ownsRow w.heap.size 3 1 v (keysL E).length ((keysL E).map fun (x : Nat) => Value.int .i64 (x : Int)) ∧ Below w.heap.size w w') := S.mono (by
    rintro e w' ⟨v, ss, rfl, q1, q2, q3, q4⟩
    refine ⟨v, rfl, Lib.hid ⟨?_, Below.up hbel q4⟩⟩
    rw [keysort97 q1 hki, List.map_map] at q2
    have hlen : ss.length = (keysL E).length := by
      have := (q1.trans hki.symm).length_eq
      simpa using this
    rw [hlen] at q2
    exact ⟨q2.1, q2.2.imp id fun ⟨g, cap, cur, e, hb, r⟩ => ⟨g, cap, cur, e, Nat.le_trans hbel.size hb, r⟩⟩)
  clear hown hc hsz hbel S hki hownD hsay
  go_enter Tryz.func26, Tryz.ntmps26
  go_wp2_with (first | (go_at_call 59; refine K1.mono ?_; rintro e w5 ⟨rfl, rfl⟩) | (go_at_call 58; refine S2.mono ?_; rintro e w6 ⟨v, rfl, q⟩))
  go_ret
  exact ⟨_, rfl, q.out.1, q.out.2⟩
end Go.Tb
namespace Go.Tb
open Go Go.RowKit Go.Proofs Go.Maps Go.Sp
def LR (w : World) (v : Value) (l : List Nat) : Prop := ∃ a c, v = .slice a l.length c ∧ (0 < l.length → ∃ g o, a = some ⟨g, o, none⟩ ∧ g < w.heap.size ∧ ∀ (j x : Nat), l[j]? = some x → w.cell? ⟨g, o + j, none⟩ = some (.int .i64 (x : Int)))
theorem LR.keep {w w' : World} {v : Value} {l : List Nat} (h : LR w v l) (hb : Below w.heap.size w w') : LR w' v l := by
  obtain ⟨a, c, e, h⟩ := h
  refine ⟨a, c, e, fun hp => ?_⟩
  obtain ⟨g, o, ea, hg, hx⟩ := h hp
  exact ⟨g, o, ea, Nat.lt_of_lt_of_le hg hb.size, fun j x hj => (cell_of_heap (a := ⟨g, o + j, none⟩) (hb.block g hg)).1.trans (hx j x hj)⟩
theorem LR.row {w : World} {base : Nat} {v : Value} {l : List Nat} (h : w.ownsRow base 3 1 v l.length (l.map fun (x : Nat) => Value.int .i64 (x : Int))) : LR w v l := by
  rcases h.2 with ⟨rfl, h0⟩ | ⟨g, cap, cur, rfl, hg, hh, hcap, _⟩
  · have : l = [] := List.length_eq_zero_iff.1 h0
    subst this
    exact ⟨_, _, rfl, fun h => by simp at h⟩
  · refine ⟨_, _, rfl, fun _ => ⟨g, 0, rfl, (Array.getElem?_eq_some_iff.1 hh).1, fun j x hj => ?_⟩⟩
    have := h.cells rfl j (.int .i64 (x : Int)) (by simp [hj])
    rwa [add_cell] at this
theorem LR.at {w : World} {a : Option Addr} {n c : Nat} {l : List Nat} (h : LR w (.slice a n c) l) (hn : l.length = n) {j : Nat} (hj : j < n) : ∃ x g o, l[j]? = some x ∧ a = some ⟨g, o, none⟩ ∧ w.cell? ⟨g, o + j, none⟩ = some (.int .i64 (x : Int)) := by
  obtain ⟨a', c', e, h⟩ := h
  injection e with e1 e2 e3
  subst e1
  obtain ⟨g, o, ea, hg, hx⟩ := h (by omega)
  exact ⟨l[j]'(by omega), g, o, List.getElem?_eq_getElem _, ea, hx j _ (List.getElem?_eq_getElem _)⟩
theorem same_ok {w : World} {v u : Value} {l : List Nat} (hv : LR w v l) (hu : LR w u l) (hl : l.length ≤ 2000000) : Calls Tryz.prog 27 #[v, u] w fun e w' => e = .returned (.bool true) ∧ Below w.heap.size w w' := by
  obtain ⟨a, c, rfl, _⟩ := id hv
  obtain ⟨b, d, rfl, _⟩ := id hu
  obtain ⟨n, hn⟩ : ∃ n, l.length = n := ⟨_, rfl⟩
  have HV := Lib.hid hv
  have HU := Lib.hid hu
  rw [hn] at hl HV HU ⊢
  have HN := Lib.hid hn
  have HL := Lib.hid hl
  clear hv hu hn hl
  go_enter Tryz.func27, Tryz.ntmps27
  go_upto_region 4 with fail
  go_loopw [5] (fun v5 wr => ∃ k : Nat, v5 = .int .i64 (k : Int) ∧ k ≤ n ∧ Below w.heap.size w wr) (fun v5 _ => n - (Go.RowKit.intOf v5).toNat)
  case atStart => exact ⟨0, rfl, Nat.zero_le _, Below.refl _ _⟩
  case round =>
    obtain ⟨k, rfl, hk, hb⟩ := hrel
    by_cases e : k < n
    · have j1 : (k : Int) < (n : Int) := by omega
      have j0 : (0 : Int) ≤ (k : Int) := by omega
      have hk2 : k < 2000001 := by have := HL.out; omega
      obtain ⟨x, g, o, hx, ea, cx⟩ := (HV.out.keep hb).at HN.out e
      obtain ⟨x', g', o', hx', ea', cx'⟩ := (HU.out.keep hb).at HN.out e
      subst ea ea'
      rw [hx] at hx'
      injection hx' with hx'
      subst hx'
      have l1 := cell_lt' cx
      have l2 := cell_lt' cx'
      have HB := Lib.hid hb
      clear hx hb
      go_upto_region 6 with fail
      go_region
      go_wp2_with fail
      all_goals exact ⟨⟨k + 1, rfl, by omega, by have := HB.out; (repeat (first | exact Below.refl _ _ | assumption | refine Below.drew ?_ | refine Below.alloc ?_ (by first | (simp; done) | (simp; omega)) _))⟩, measT e⟩
    · have ek : k = n := by omega
      subst ek
      have j1 : ¬ (k : Int) < (k : Int) := by omega
      go_wp2_with fail
      go_ret
      exact ⟨rfl, hb⟩
theorem alike_ok {w : World} {t1 e1 n1 t2 e2 n2 : Nat} {E : En} (h1 : w.cell? ⟨t1, 1, none⟩ = some (.map (some e1))) (m1 : EM w e1 n1 E) (h2 : w.cell? ⟨t2, 1, none⟩ = some (.map (some e2))) (m2 : EM w e2 n2 E) (hE : EnOk E) (hn1 : n1 ≤ 1048576) (hn2 : n2 ≤ 1048576) :
    Calls Tryz.prog 13 #[.pointer (some ⟨t1, 0, none⟩), .pointer (some ⟨t2, 0, none⟩)] w fun e w' => e = .returned (.bool true) ∧ Below w.heap.size w w' := by
  have O1 := Lib.hid (fun W (hb : Below w.heap.size w W) => show Calls Tryz.prog 26 #[.pointer (some ⟨t1, 0, none⟩)] W (fun e w' => ∃ a c, e = .returned (.slice a (keysL E).length c) ∧ Hid (LR w' (.slice a (keysL E).length c) (keysL E)) ∧ Below w.heap.size w w') from (oids_ok (cells_below hb _ _ h1) (m1.same (hb.block e1 m1.lt)) hE hn1).mono fun e w' ⟨v, g1, g2, g3⟩ => by
    obtain ⟨a, c, rfl, h⟩ := LR.row g2
    exact ⟨a, c, g1, Lib.hid ⟨a, c, rfl, h⟩, Below.up hb g3⟩)
  have O2 := Lib.hid (fun W (hb : Below w.heap.size w W) => show Calls Tryz.prog 26 #[.pointer (some ⟨t2, 0, none⟩)] W (fun e w' => ∃ a c, e = .returned (.slice a (keysL E).length c) ∧ Hid (LR w' (.slice a (keysL E).length c) (keysL E)) ∧ Below W.heap.size W w') from (oids_ok (cells_below hb _ _ h2) (m2.same (hb.block e2 m2.lt)) hE hn2).mono fun e w' ⟨v, g1, g2, g3⟩ => by
    obtain ⟨a, c, rfl, h⟩ := LR.row g2
    exact ⟨a, c, g1, Lib.hid ⟨a, c, rfl, h⟩, g3⟩)
  have G1 := Lib.hid (fun W (hb : Below w.heap.size w W) (x : Nat) (hx : x ∈ keysL E) => show Calls Tryz.prog 10 #[.pointer (some ⟨t1, 0, none⟩), .int .i64 (x : Int)] W (fun e w' => e = .returned (.tuple #[.int .i64 (pgO (E x) : Int), .int .i64 (slO (E x) : Int), .bool true]) ∧ Below W.heap.size W w') from by
    have hs := (keysL_in hE).1 hx
    have hx2 : x < 16385 := List.mem_range.1 (List.mem_filter.1 hx).1
    have := tget_ok (cells_below hb _ _ h1) (m1.same (hb.block e1 m1.lt)) (x := (x : Int)) (wf_n (by omega))
    rw [Ez_nat, hs] at this
    exact this)
  have G2 := Lib.hid (fun W (hb : Below w.heap.size w W) (x : Nat) (hx : x ∈ keysL E) => show Calls Tryz.prog 10 #[.pointer (some ⟨t2, 0, none⟩), .int .i64 (x : Int)] W (fun e w' => e = .returned (.tuple #[.int .i64 (pgO (E x) : Int), .int .i64 (slO (E x) : Int), .bool true]) ∧ Below W.heap.size W w') from by
    have hs := (keysL_in hE).1 hx
    have hx2 : x < 16385 := List.mem_range.1 (List.mem_filter.1 hx).1
    have := tget_ok (cells_below hb _ _ h2) (m2.same (hb.block e2 m2.lt)) (x := (x : Int)) (wf_n (by omega))
    rw [Ez_nat, hs] at this
    exact this)
  have hlen := keysL_len E
  have SM := Lib.hid (fun W v u (hv : LR W v (keysL E)) (hu : LR W u (keysL E)) => same_ok hv hu (by omega))
  clear h1 m1 h2 m2 hE hn1 hn2
  generalize keysL E = l at *
  obtain ⟨n, hn⟩ : ∃ n, l.length = n := ⟨_, rfl⟩
  rw [hn] at O1 O2 hlen
  have HN := Lib.hid hn
  clear hn
  have L1 := O1.out w (Below.refl _ _)
  go_enter Tryz.func13, Tryz.ntmps13
  go_upto_region 2 with (go_at_call 26; refine L1.mono ?_; rintro e w5 ⟨a5, c5, rfl, hq5, hb5⟩)
  have L2 := O2.out w5 hb5
  clear O1 O2 L1
  go_upto_region 4 with (first
    | (go_at_call 26; refine L2.mono ?_; rintro e w6 ⟨a6, c6, rfl, hq6, hb6⟩; have SM6 := SM.out w6 _ _ (hq5.out.keep hb6) hq6.out; have HR6 := Lib.hid (hq5.out.keep hb6); have HB6 := Lib.hid (Below.up hb5 hb6); clear hb6 L2)
    | (go_at_call 27; refine SM6.mono ?_; rintro e w7 ⟨rfl, hb7⟩))
  have HR7 := Lib.hid (HR6.out.keep hb7)
  have HB7 := Lib.hid (Below.up HB6.out hb7)
  clear hq5 hb5 hq6 SM6 HR6 HB6 hb7 SM
  go_upto_region 5 with fail
  go_loopw [6] (fun v6 wr => ∃ k : Nat, v6 = .int .i64 (k : Int) ∧ k ≤ n ∧ Hid (LR wr (.slice a5 n c5) l ∧ Below w.heap.size w wr)) (fun v6 _ => n - (Go.RowKit.intOf v6).toNat)
  case atStart => exact ⟨0, rfl, Nat.zero_le _, Lib.hid ⟨HR7.out, HB7.out⟩⟩
  case round =>
    obtain ⟨k, rfl, hk, hI⟩ := hrel
    by_cases e : k < n
    · have j1 : (k : Int) < (n : Int) := by omega
      have j0 : (0 : Int) ≤ (k : Int) := by omega
      have hk2 : k < 2000001 := by omega
      obtain ⟨x, g, o, hx, ea, cx⟩ := hI.out.1.at HN.out e
      subst ea
      have l1 := cell_lt' cx
      have hm := List.mem_of_getElem? hx
      have A1 := G1.out wr hI.out.2 x hm
      have A2 := Lib.hid (fun W hb => G2.out W hb x hm)
      have A3 := Lib.hid (fun W (hb : Below wr.heap.size wr W) => (⟨cells_below hb _ _ cx, hI.out.1.keep hb⟩ : W.cell? ⟨g, o + k, none⟩ = some (.int .i64 (x : Int)) ∧ LR W (.slice (some ⟨g, o, none⟩) n c5) l))
      have HI2 := Lib.hid hI.out.2
      clear hx hm hI G1 G2
      generalize pgO (E x) = px at *
      generalize slO (E x) = sx at *
      go_upto_region 8 with (go_at_call 10; refine A1.mono ?_; rintro e w8 ⟨rfl, hb8⟩)
      obtain ⟨cx8, hr8⟩ := A3.out w8 hb8
      have l8 := cell_lt' cx8
      have A28 := A2.out w8 (Below.up HI2.out hb8)
      have HR8 := Lib.hid hr8
      have HB8 := Lib.hid (Below.up HI2.out hb8)
      clear hr8 hb8 A1 A2 A3 HI2
      go_wp2_with (go_at_call 10; refine A28.mono ?_; rintro e w9 ⟨rfl, hb9⟩)
      exact ⟨⟨k + 1, rfl, by omega, Lib.hid ⟨HR8.out.keep hb9, Below.up HB8.out hb9⟩⟩, measT e⟩
    · have ek : k = n := by omega
      subst ek
      have j1 : ¬ (k : Int) < (k : Int) := by omega
      go_wp2_with fail
      go_ret
      exact ⟨rfl, hI.out.2⟩
end Go.Tb
namespace Go.Tb
open Go Go.RowKit Go.Proofs Go.Maps Go.Sp
structure SW (γ : Gh) (w W : World) (N c db sb : Nat) (now last : St) (E L : En) : Prop where
  l : γ.lim ≤ W.heap.size
  B : γ.B = w.heap.size
  be : Below γ.B w W
  s : ∃ s, SpV γ W sb db s ∧ TI N c s now last E L
def TT (γ : Gh) (W : World) (tb sb eb n : Nat) (E : En) : Prop := TB0 γ W tb sb (.map (some eb)) ∧ EMV γ W eb n E
theorem TT.keep {γ : Gh} {S : TypeId → Bool} {W W' : World} {tb sb eb n : Nat} {E : En} (h : TT γ W tb sb eb n E) (hs : Step γ S W W') (h58 : S 58 = false) (h0 : S 0 = false) : TT γ W' tb sb eb n E := ⟨h.1.keep hs h58, h.2.keep hs h0⟩
def Fr0 (γ : Gh) (W W' : World) : Prop := ∀ k, k < W.heap.size → (∀ T, Tag γ W k T → spS T = false) → W'.heap[k]? = W.heap[k]?
theorem TT.fr {γ γ' : Gh} {W W' : World} {tb sb eb n : Nat} {E : En} (h : TT γ W tb sb eb n E) (hl : Gh.Le W γ γ') (hf : Fr0 γ W W') : TT γ' W' tb sb eb n E := by
  have b1 : W'.heap[tb]? = W.heap[tb]? := hf tb h.1.lt fun T hT => by rw [hT.uniq h.1.tg]; rfl
  have b2 : W'.heap[eb]? = W.heap[eb]? := hf eb h.2.em.lt fun T hT => by rw [hT.uniq h.2.tg]; rfl
  have h1 := h.1.more hl
  have h2 := h.2.more hl
  exact ⟨⟨h1.tg.same b1, h1.B, (cell_of_heap (a := ⟨tb, 0, none⟩) b1).1.trans h1.t0, (cell_of_heap (a := ⟨tb, 1, none⟩) b1).1.trans h1.t1, (cell_of_heap (a := ⟨tb, 1, none⟩) b1).2.trans h1.fz⟩, h2.tg.same b2, h2.B, h2.em.same b2⟩
section
variable {γ : Gh} {w W W' : World} {N c db sb tb : Nat} {now last : St} {E L : En}
theorem SW.step {S : TypeId → Bool} (h : SW γ w W N c db sb now last E L) (st : Step γ S W W') {c' : Nat} {now' last' : St} {E' L' : En} {sb' : Nat} (hs : ∃ s, SpV γ W' sb' db s ∧ TI N c' s now' last' E' L') : SW γ w W' N c' db sb' now' last' E' L' :=
  ⟨Nat.le_trans h.l st.size, h.B, h.be.trans st.be, hs⟩
theorem SW.below (h : SW γ w W N c db sb now last E L) (hb : Below W.heap.size W W') : SW γ w W' N c db sb now last E L := by
  obtain ⟨s, h1, h2⟩ := h.s
  exact h.step (Step.below (S := fun _ => false) hb h.l) ⟨s, h1.below hb h.l, h2⟩
theorem TA.sw {v1 : Value} (h : TA γ w W N c db sb tb now last E L v1) : SW γ w W N c db sb now last E L := ⟨h.l, h.B, h.be, h.s⟩
def OpP (γ : Gh) (w W W' : World) (N c db sb tb : Nat) (now last : St) (E L : En) : Prop := ∃ γ' eb n, Gh.Le W γ γ' ∧ SW γ' w W' N c db sb now last E L ∧ n ≤ 70000 ∧ TT γ' W' tb sb eb n E ∧ Fr0 γ W W'
theorem topen_ok (h : SW γ w W N c db sb now last E L) (hc : c ≤ 400000) :
    Calls Tryz.prog 8 #[.pointer (some ⟨sb, 0, none⟩)] W fun e W' => ∃ tb, e = .returned (.tuple #[.pointer (some ⟨tb, 0, none⟩), .int .i64 0]) ∧ Hid (OpP γ w W W' N (c + 2100) db sb tb now last E L) := by
  obtain ⟨W1, hW1⟩ : ∃ W1, W.alloc (.cells #[.pointer (some ⟨sb, 0, none⟩), .map none] 58) = W1 := ⟨_, rfl⟩
  obtain ⟨tb, htb⟩ : ∃ tb, W.heap.size = tb := ⟨_, rfl⟩
  have hb : Below W.heap.size W W1 := hW1 ▸ Below.alloc (Below.refl _ _) (Nat.le_refl _) _
  have hk : W1.heap[tb]? = some (.cells #[.pointer (some ⟨sb, 0, none⟩), .map none] 58 (0, 0)) := by rw [← hW1, ← htb]; exact (Go.MapKept.heap_alloc W _).1
  have h1 := h.below hb
  have hA : TA γ w W1 N c db sb tb now last E L (.map none) := ⟨h1.l, h1.B, h1.be, h1.s, Tag.new (by rw [← htb]; exact h.l) hk, by rw [← htb]; exact Nat.le_trans γ.hB h.l, by simp [World.cell?, hk], by simp [World.cell?, hk], by simp [World.frozen?, hk]⟩
  have AG := (again_ok hA hc).mono (R' := fun e W' => e = .returned (.int .i64 0) ∧ Hid (OpP γ w W W' N (c + 2100) db sb tb now last E L)) fun e W' ⟨e1, hq⟩ => ⟨e1, Lib.hid (by
    obtain ⟨γ', eb, n, q1, q2, q3, q4, q5, _⟩ := hq.out
    refine ⟨γ', eb, n, ⟨q1.B, fun k hk => q1.told k (Nat.lt_of_lt_of_le hk hb.size)⟩, q2.sw, q3, ⟨q2.t, q4⟩, fun k hk hT => ?_⟩
    have e1 := hb.block k hk
    exact (q5 k (Nat.lt_of_lt_of_le hk hb.size) (by omega) fun T ht => hT T (ht.same e1.symm)).trans e1)⟩
  have HW1 := Lib.hid hW1
  clear h hb hk h1 hA hW1 hc
  go_enter Tryz.func8, Tryz.ntmps8
  go_upto_region 4 with fail
  rw [HW1.out]
  go_wp2_with (go_at_call 21; refine AG.mono ?_; rintro e w5 ⟨rfl, hq⟩)
  go_ret2
  exact ⟨_, rfl, hq⟩
end
theorem cand_fmt (N : Nat) (h : 16 ≤ N) : (fmtDk N).cand 0 = none ∧ (fmtDk N).cand 1 = some root0 := by
  constructor
  · unfold Dk.cand; rw [rd_fmt0 N h]; simp
  · unfold Dk.cand
    rw [rd_fmt1 N h]
    simp only [rootOf0]
    exact if_pos ⟨trivial, by decide +kernel, by decide, by decide⟩
theorem whole_fmt (N : Nat) : (fmtDk N).whole root0 = some root0 := by
  unfold Dk.whole
  rw [wparts_zero _ _ (fun _ => rfl)]
  simp only [secs_zero, Dk.wpages]
  simp [root0]
theorem space_ok {w : World} {N : Nat} (hN : 32 ≤ N ∧ N ≤ 500) :
    Calls Tryz.prog 7 #[.int .i64 (N : Int)] w fun e w' => ∃ db sb, e = .returned (.tuple #[.pointer (some ⟨db, 0, none⟩), .pointer (some ⟨sb, 0, none⟩)]) ∧ Hid (∃ γ, SW γ w w' N 0 db sb st0 st0 (fun _ => none) (fun _ => none)) := by
  have DN := dnew_ok (w := w) N (by omega)
  have FM := Lib.hid (fun (W : World) (h : ∃ v us, NewJ w W N v us) => show Calls Tryz.prog 20 #[.pointer (some ⟨w.heap.size, 0, none⟩)] W (fun e w' => e = .returned (.int .i64 0) ∧ Hid (∃ γ' : Gh, γ'.B = w.heap.size ∧ γ'.lim ≤ w'.heap.size ∧ DkV γ' w' w.heap.size (fmtDk N) ∧ Below w.heap.size w w')) from by
    obtain ⟨v, us, h⟩ := h
    exact (Go.Tb.fmt_ok (h.dk (by omega)) h.be.size (by omega)).mono fun e w' ⟨h1, γ', g1, g2, g3, g4⟩ => ⟨h1, Lib.hid ⟨γ', g1, g2, g3, h.be.trans g4⟩⟩)
  have OP := Lib.hid (fun (W : World) (h : ∃ γ' : Gh, γ'.B = w.heap.size ∧ γ'.lim ≤ W.heap.size ∧ DkV γ' W w.heap.size (fmtDk N) ∧ Below w.heap.size w W) => show Calls Tryz.prog 15 #[.pointer (some ⟨w.heap.size, 0, none⟩), .int .i64 20] W (fun e w' => ∃ sb, e = .returned (.tuple #[.pointer (some ⟨sb, 0, none⟩), .int .i64 0]) ∧ Hid (∃ γ, SW γ w w' N 0 w.heap.size sb st0 st0 (fun _ => none) (fun _ => none))) from by
    obtain ⟨γ', g1, g2, g3, g4⟩ := h
    have hr0 := rd_fmt0 N (by omega) 1
    have hr1 := rd_fmt1 N (by omega)
    refine (open_s (F := 20) (r := root0) g3 g2 (Go.Sp.fmt_ok N) (by show (0 : Nat) < 2000000; decide) (by show 1 ≤ N; omega) rfl (by decide) (by unfold Dk.best; rw [(cand_fmt N (by omega)).1, (cand_fmt N (by omega)).2]; exact whole_fmt N)).mono fun e w' ⟨sb, h1, h2⟩ => ⟨sb, h1, Lib.hid ⟨γ', Nat.le_trans g2 h2.out.2.1.size, g1, g1 ▸ g4.trans (g1 ▸ h2.out.2.1.be), sp0 N 20, h2.out.1, TI.start N 20 hN (by decide)⟩⟩)
  go_enter Tryz.func7, Tryz.ntmps7
  go_wp2_with (first
    | (go_at_call 19; refine DN.mono ?_; rintro e w6 ⟨rfl, hq6⟩; have Q6 := Lib.hid hq6; clear hq6)
    | (go_at_call 20; refine (FM.out _ Q6.out).mono ?_; rintro e w7 ⟨rfl, hq7⟩)
    | (go_at_call 15; refine (OP.out _ hq7.out).mono ?_; rintro e w8 ⟨sb, rfl, hq8⟩))
  go_ret2
  exact ⟨_, _, rfl, hq8⟩
end Go.Tb
namespace Go.Tb
open Go Go.RowKit Go.Proofs Go.Maps Go.Sp
section
variable {γ : Gh} {w W W' : World} {N c db sb tb : Nat} {now last : St} {E L : En} {v1 : Value}
theorem TA.commit (h : TA γ w W N c db sb tb now last E L v1) (hc : c ≤ 400000) : Calls Tryz.prog 14 #[.pointer (some ⟨sb, 0, none⟩), .slice none 0 0] W fun e W' => e = .returned (.int .i64 0) ∧ Hid (Step γ spS W W' ∧ ∃ s, SpV γ W' sb db s ∧ TI N (c + 600) s (now.named []) (now.named []) E E ∧ s.c.d.P = []) := by
  obtain ⟨s, h1, h2⟩ := h.s
  obtain ⟨g1, g2, g3⟩ := h2.commit (by omega)
  refine (commit_s h1 h2.inv.ok (ti_bd h2 (by omega) _ (by omega)) h.l (by rw [h2.hN]; have := h2.hN2; omega) (RA.nil _ _ _ _) (by decide)).mono ?_
  rintro e W' ⟨rfl, hq⟩
  rw [g1]
  exact ⟨rfl, Lib.hid ⟨hq.out.2, _, hq.out.1, g2, g3⟩⟩
theorem TA.abort (h : TA γ w W N c db sb tb now last E L v1) : Calls Tryz.prog 22 #[.pointer (some ⟨sb, 0, none⟩)] W fun e W' => e = .returned (.int .i64 0) ∧ Hid (TA γ w W' N c db sb tb last last L L v1) := by
  obtain ⟨s, h1, h2⟩ := h.s
  obtain ⟨g1, g2⟩ := h2.abort
  refine (abort_s h1 h2.inv.ok h.l).mono ?_
  rintro e W' ⟨rfl, hq⟩
  rw [g1]
  exact ⟨rfl, Lib.hid (h.step hq.out.2 rfl ⟨_, hq.out.1, g2⟩)⟩
theorem TX.commit (h : TX w W N c db sb tb E L) (hc : c ≤ 400000) : Calls Tryz.prog 14 #[.pointer (some ⟨sb, 0, none⟩), .slice none 0 0] W fun e W' => e = .returned (.int .i64 0) ∧ Hid (TX w W' N (c + 600) db sb tb E E) := by
  obtain ⟨now, last, γ, eb, n, hA, hn, hm⟩ := h
  refine (hA.commit hc).mono ?_
  rintro e W' ⟨rfl, hq⟩
  obtain ⟨st, s, q1, q2, _⟩ := hq.out
  exact ⟨rfl, Lib.hid ⟨_, _, γ, eb, n, hA.step st rfl ⟨s, q1, q2⟩, by omega, hm.keep st rfl⟩⟩
def TXa (w W : World) (N c db sb tb : Nat) (E L : En) : Prop := ∃ now last γ v1, TA γ w W N c db sb tb now last E L v1
theorem TX.abort (h : TX w W N c db sb tb E L) : Calls Tryz.prog 22 #[.pointer (some ⟨sb, 0, none⟩)] W fun e W' => e = .returned (.int .i64 0) ∧ Hid (TXa w W' N c db sb tb L L) := by
  obtain ⟨now, last, γ, eb, n, hA, hn, hm⟩ := h
  exact hA.abort.mono fun e W' ⟨e1, h1⟩ => ⟨e1, Lib.hid ⟨_, _, _, _, h1.out⟩⟩
theorem TXa.again (h : TXa w W N c db sb tb E L) (hc : c ≤ 400000) : Calls Tryz.prog 21 #[.pointer (some ⟨tb, 0, none⟩)] W fun e W' => e = .returned (.int .i64 0) ∧ Hid (TX w W' N (c + 2100) db sb tb E L) := by
  obtain ⟨now, last, γ, v1, hA⟩ := h
  exact (again_ok hA hc).mono fun e W' ⟨e1, h1⟩ => ⟨e1, Lib.hid ⟨now, last, h1.out.tw⟩⟩
def TE (w W : World) (N c db sb tb : Nat) : Prop := ∃ E L, TX w W N c db sb tb E L
theorem TX.enok (h : TX w W N c db sb tb E L) : EnOk E := by
  obtain ⟨now, last, γ, eb, n, hA, hn, hm⟩ := h
  obtain ⟨s, _, ht⟩ := hA.s
  exact ht.e
theorem TX.set (h : TX w W N c db sb tb E L) (hc : c ≤ 400000) (o p s : Int) : Calls Tryz.prog 11 #[.pointer (some ⟨tb, 0, none⟩), .int .i64 o, .int .i64 p, .int .i64 s] W fun e W' => ∃ r : Nat, e = .returned (.int .i64 (r : Int)) ∧ Hid (if mayS o p s then (r = 0 ∧ TX w W' N (c + 2) db sb tb (upd E o.toNat (some (p.toNat, s.toNat))) L) ∨ (r = 6 ∧ TX w W' N (c + 2) db sb tb E L ∧ N ≤ 29 + (pgE E).length + (pgE L).length) else r = 1 ∧ TX w W' N (c + 2) db sb tb E L) := by
  cases hm : mayS o p s with
  | false =>
    refine (tset_no h hm).mono ?_
    rintro e W' ⟨rfl, hq⟩
    exact ⟨1, rfl, Lib.hid (by rw [if_neg (by simp)]; exact ⟨rfl, hq.out.more (by omega)⟩)⟩
  | true =>
    unfold mayS mayE at hm
    simp only [Bool.and_eq_true, decide_eq_true_eq] at hm
    obtain ⟨o, rfl⟩ := Int.eq_ofNat_of_zero_le (show 0 ≤ o by omega)
    obtain ⟨p, rfl⟩ := Int.eq_ofNat_of_zero_le (show 0 ≤ p by omega)
    obtain ⟨s, rfl⟩ := Int.eq_ofNat_of_zero_le (show 0 ≤ s by omega)
    refine (tset_ok2 h hc (oid := o) (pg := p) (sl := s) (by omega) (by omega) (by omega)).mono ?_
    rintro e W' ⟨r, rfl, hq⟩
    exact ⟨r, rfl, Lib.hid (by rw [if_pos rfl]; exact hq.out)⟩
theorem TX.clear (h : TX w W N c db sb tb E L) (hc : c ≤ 400000) {o : Int} (hw : (Lit.int .i64 o).wf = true) : Calls Tryz.prog 12 #[.pointer (some ⟨tb, 0, none⟩), .int .i64 o] W fun e W' => ∃ r : Nat, e = .returned (.int .i64 (r : Int)) ∧ Hid ((r = 0 ∧ (1 ≤ o ∧ o ≤ 16384) ∧ TX w W' N (c + 2) db sb tb (upd E o.toNat none) L) ∨ (r ≠ 0 ∧ TX w W' N (c + 2) db sb tb E L ∧ (r = 6 → N ≤ 29 + (pgE E).length + (pgE L).length) ∧ ((0 ≤ o ∧ o ≤ 16384 ∧ E o.toNat ≠ none) → r = 6) ∧ ((1 ≤ o ∧ o ≤ 16384 ∧ Ez E o = none) → r = 7))) := by
  by_cases hb : (1 ≤ o ∧ o ≤ 16384) → Ez E o = none
  · refine (tclear_no h hw hb).mono ?_
    rintro e W' ⟨rfl, hq⟩
    by_cases ho : 1 ≤ o ∧ o ≤ 16384
    · rw [if_pos ho]; exact ⟨7, rfl, Lib.hid (.inr ⟨by decide, hq.out.more (by omega), fun e => absurd e (by decide), fun h2 => (by have := hb ho; obtain ⟨o, rfl⟩ := Int.eq_ofNat_of_zero_le (show 0 ≤ o by omega); exact absurd ((Ez_nat E o).symm.trans this) h2.2.2), fun _ => rfl⟩)⟩
    · rw [if_neg ho]; exact ⟨1, rfl, Lib.hid (.inr ⟨by decide, hq.out.more (by omega), fun e => absurd e (by decide), fun h2 => (by
        obtain ⟨o, rfl⟩ := Int.eq_ofNat_of_zero_le h2.1
        have h0 : o = 0 := by omega
        subst h0
        obtain ⟨y, hy⟩ := Option.ne_none_iff_exists'.1 h2.2.2
        have := (h.enok.ok 0 y.1 y.2 hy).1
        omega), fun h2 => absurd ⟨h2.1, h2.2.1⟩ ho⟩)⟩
  · have ho : 1 ≤ o ∧ o ≤ 16384 := Classical.not_not.1 fun h => hb fun h2 => absurd h2 h
    have hE : Ez E o ≠ none := fun h => hb fun _ => h
    obtain ⟨o, rfl⟩ := Int.eq_ofNat_of_zero_le (show 0 ≤ o by omega)
    have hE : E o ≠ none := by rw [← Ez_nat E o]; exact hE
    refine (tclear_ok h hc (oid := o) (by omega) hE).mono ?_
    rintro e W' ⟨r, rfl, hq⟩
    refine ⟨r, rfl, Lib.hid ?_⟩
    rcases hq.out with ⟨h1, h2⟩ | ⟨h1, h2⟩
    · exact .inl ⟨h1, by omega, h2⟩
    · exact .inr ⟨by omega, h2.1, fun _ => h2.2, fun _ => h1, fun h3 => absurd ((Ez_nat E o).symm.trans h3.2.2) hE⟩
theorem does_ok (h : TE w W N c db sb tb) (hc : c ≤ 390000) {k o p s : Int} (hw : (Lit.int .i64 o).wf = true) (hk : k ≠ 4) {ba : Option Addr} {bn bc : Nat} :
    Calls Tryz.prog 9 #[.pointer (some ⟨tb, 0, none⟩), .pointer (some ⟨sb, 0, none⟩), .agg #[.int .i64 k, .int .i64 o, .int .i64 p, .int .i64 s, .slice ba bn bc]] W fun e W' => (∃ r : Int, e = .returned (.int .i64 r)) ∧ Hid (TE w W' N (c + 2700) db sb tb) := by
  obtain ⟨E, L, hX⟩ := h
  obtain ⟨W1, hW1⟩ : ∃ W1, W.alloc (.cells #[.int .i64 k, .int .i64 o, .int .i64 p, .int .i64 s, .slice ba bn bc] 35) = W1 := ⟨_, rfl⟩
  have hb : Below W.heap.size W W1 := hW1 ▸ Below.alloc (Below.refl _ _) (Nat.le_refl _) _
  have hO := (Go.MapKept.heap_alloc W (.cells #[.int .i64 k, .int .i64 o, .int .i64 p, .int .i64 s, .slice ba bn bc] 35)).1
  rw [hW1] at hO
  have lO := (Array.getElem?_eq_some_iff.1 hO).1
  have o0 : W1.cell? ⟨W.heap.size, 0, none⟩ = some (.int .i64 k) := by simp [World.cell?, hO]
  have o1 : W1.cell? ⟨W.heap.size, 1, none⟩ = some (.int .i64 o) := by simp [World.cell?, hO]
  have o2 : W1.cell? ⟨W.heap.size, 2, none⟩ = some (.int .i64 p) := by simp [World.cell?, hO]
  have o3 : W1.cell? ⟨W.heap.size, 3, none⟩ = some (.int .i64 s) := by simp [World.cell?, hO]
  have h1 := hX.below hb
  have HW := Lib.hid hW1
  have HX := Lib.hid h1
  clear hX hO hb h1 hW1
  by_cases k0 : k = 0
  · subst k0
    have C := HX.out.set (by omega) o p s
    clear hw
    go_enter Tryz.func9, Tryz.ntmps9
    go_upto_region 1 with fail
    rw [HW.out]
    go_wp2_with (go_at_call 11; refine C.mono ?_; rintro e w5 ⟨r, rfl, hq⟩)
    go_ret
    refine ⟨⟨_, rfl⟩, Lib.hid ?_⟩
    have h := hq.out
    by_cases hm : mayS o p s = true
    · rw [if_pos hm] at h
      rcases h with ⟨_, h⟩ | ⟨_, h⟩
      · exact ⟨_, _, h.more (by omega)⟩
      · exact ⟨_, _, h.1.more (by omega)⟩
    · rw [if_neg hm] at h
      exact ⟨_, _, h.2.more (by omega)⟩
  by_cases k1 : k = 1
  · subst k1
    have C := HX.out.clear (by omega) hw
    clear hw k0
    go_enter Tryz.func9, Tryz.ntmps9
    go_upto_region 1 with fail
    rw [HW.out]
    go_wp2_with (go_at_call 12; refine C.mono ?_; rintro e w5 ⟨r, rfl, hq⟩)
    go_ret
    refine ⟨⟨_, rfl⟩, Lib.hid ?_⟩
    rcases hq.out with ⟨_, _, h⟩ | ⟨_, h⟩
    · exact ⟨_, _, h.more (by omega)⟩
    · exact ⟨_, _, h.1.more (by omega)⟩
  by_cases k2 : k = 2
  · subst k2
    have C := HX.out.commit (by omega)
    clear hw k0 k1
    go_enter Tryz.func9, Tryz.ntmps9
    go_upto_region 1 with fail
    rw [HW.out]
    go_wp2_with (go_at_call 14; refine C.mono ?_; rintro e w5 ⟨rfl, hq⟩)
    go_ret
    exact ⟨⟨_, rfl⟩, Lib.hid ⟨_, _, hq.out.more (by omega)⟩⟩
  by_cases k3 : k = 3
  · subst k3
    have C := HX.out.abort
    have AG := Lib.hid (fun W' (h : TXa w W' N c db sb tb L L) => h.again (by omega))
    clear hw k0 k1 k2
    go_enter Tryz.func9, Tryz.ntmps9
    go_upto_region 1 with fail
    rw [HW.out]
    go_wp2_with (first
      | (go_at_call 22; refine C.mono ?_; rintro e w5 ⟨rfl, hq⟩)
      | (go_at_call 21; refine (AG.out _ hq.out).mono ?_; rintro e w6 ⟨rfl, hq6⟩))
    go_ret
    exact ⟨⟨_, rfl⟩, Lib.hid ⟨_, _, hq6.out.more (by omega)⟩⟩
  · have HF : Hid (TE w W1 N (c + 2700) db sb tb) := Lib.hid ⟨E, L, HX.out.more (by omega)⟩
    clear hw HX
    go_enter Tryz.func9, Tryz.ntmps9
    go_upto_region 1 with fail
    rw [HW.out]
    go_wp2_with fail
    go_ret
    exact ⟨⟨_, rfl⟩, HF⟩
theorem TX.get (h : TX w W N c db sb tb E L) {x : Int} (hx : (Lit.int .i64 x).wf = true) :
    Calls Tryz.prog 10 #[.pointer (some ⟨tb, 0, none⟩), .int .i64 x] W fun e W' => e = .returned (.tuple #[.int .i64 (pgO (Ez E x) : Int), .int .i64 (slO (Ez E x) : Int), .bool (Ez E x).isSome]) ∧ Hid (TX w W' N c db sb tb E L) := by
  have hb := fun W' (hb : Below W.heap.size W W') => h.below hb
  obtain ⟨now, last, γ, eb, n, hA, hn, hm⟩ := h
  exact (tget_ok hA.t.t1 hm.em hx).mono fun e W' ⟨h1, h2⟩ => ⟨h1, Lib.hid (hb W' h2)⟩
end
end Go.Tb
namespace Go.Tb
open Go Go.RowKit Go.Proofs Go.Maps Go.Sp
def wkE0 : En := fun _ => none
def wkE1 : En := upd wkE0 1 (some (265, 0))
def wkE2 : En := upd wkE1 63 (some (300, 2))
def wkE3 : En := upd wkE2 63 none
theorem wk_p0 : (pgE wkE0).length = 0 := by decide +kernel
theorem wk_p1 : (pgE wkE1).length = 1 := by decide +kernel
theorem wk_p2 : (pgE wkE2).length = 2 := by decide +kernel
theorem wk_p3 : (pgE wkE3).length = 1 := by decide +kernel
theorem wk_b : layB wkE2 1 62 = [44, 1, 2, 0] := by decide +kernel
theorem low_ok {w : World} {tb eb n : Nat} {E : En} (h1 : w.cell? ⟨tb, 1, none⟩ = some (.map (some eb))) (h : EM w eb n E) {q : Nat} (hq : 1 ≤ q ∧ q ≤ 16384) (hn : E q = none) (ha : ∀ x : Nat, 1 ≤ x → x < q → (E x).isSome = true) :
    Calls Tryz.prog 17 #[.pointer (some ⟨tb, 0, none⟩)] w fun e w' => e = .returned (.tuple #[.int .i64 q, .bool true]) ∧ Below w.heap.size w w' := by
  have hl := cell_lt' h1
  have HE := Lib.hid h
  have HA := Lib.hid ha
  have HN := Lib.hid hn
  have HQ := Lib.hid hq
  clear h ha hn hq
  go_enter Tryz.func17, Tryz.ntmps17
  go_wp2
  go_loopw [4] (fun v wr => ∃ k : Nat, v = .int .i64 k ∧ 1 ≤ k ∧ k ≤ q ∧ Below w.heap.size w wr) (fun v _ => q + 1 - (Go.RowKit.intOf v).toNat)
  case atStart => exact ⟨1, rfl, Nat.le_refl _, HQ.out.1, Below.refl _ _⟩
  case round =>
    obtain ⟨k, rfl, hk1, hk2, hbl⟩ := hrel
    have hq2 := HQ.out.2
    have i1 : (k : Int) ≤ 16384 := by omega
    have HB := Lib.hid hbl
    have c1 := (hbl.cell (p := ⟨tb, 1, none⟩) hl).trans h1
    have hl2 := cell_lt' c1
    have hL := HE.out.look (x := (k : Int)) (wf_n (by omega)) (W := wr) (hbl.block eb HE.out.lt)
    rw [Ez_nat] at hL
    unfold pair at hL
    clear hbl
    by_cases e : k = q
    · subst e
      rw [HN.out] at hL
      have hL1 : (Instr.lookup 56 (.map (some eb)) (.int .i64 (k : Int)) true).run Tryz.prog wr = .ok (.tuple #[.agg #[.int .i64 ((0 : Nat) : Int), .int .i64 ((0 : Nat) : Int)], .bool false]) wr := hL
      clear hL
      go_hidden (go_wp2)
      go_ret2
      exact ⟨rfl, HB.out.alloc HB.out.size _⟩
    · rw [HA.out k hk1 (by omega)] at hL
      generalize pgO (E k) = px at hL
      generalize slO (E k) = sx at hL
      go_hidden (go_wp2)
      exact ⟨⟨k + 1, by simp, by omega, by omega, HB.out.alloc HB.out.size _⟩, by simp [Go.RowKit.intOf]; omega⟩
section
variable {γ : Gh} {w W W' : World} {N c db sb tb eb : Nat} {E L : En}
theorem TG.below (h : TG γ eb w W N c db sb tb E L) (hb : Below W.heap.size W W') : TG γ eb w W' N c db sb tb E L := by
  obtain ⟨now, last, n, h1, h2, h3⟩ := h
  exact ⟨now, last, n, h1.below hb, h2, h3.keep (Step.below (S := fun _ => false) hb h1.l) rfl⟩
theorem TG.lim (h : TG γ eb w W N c db sb tb E L) : γ.lim ≤ W.heap.size := by obtain ⟨_, _, _, h, _⟩ := h; exact h.l
def TR (w W : World) (N c db sb tb : Nat) (E L : En) (v : Value) (bs : Bs) : Prop := ∃ γ eb, TG γ eb w W N c db sb tb E L ∧ RB γ W v bs
theorem TX.read (h : TX w W N c db sb tb E L) (hc : c ≤ 400000) {q : Nat} (hq : q < 265) (hne : layB E q 62 ≠ []) : Calls Tryz.prog 16 #[.pointer (some ⟨sb, 0, none⟩), .int .i64 (q : Int)] W fun e W' => ∃ a n k, e = .returned (.tuple #[.slice a n k, .int .i64 0]) ∧ Hid (TR w W' N (c + 2) db sb tb E L (.slice a n k) (layB E q 62)) := by
  obtain ⟨now, last, γ, eb, n, hA, hn, hm⟩ := h
  obtain ⟨s, h1, h2⟩ := hA.s
  have hon := (h2.own q (by omega)).1 ((h2.se.on q hq).2 hne)
  obtain ⟨r1, r2, _, r4, r5⟩ := h2.read hq hon
  refine (read_s h1 h2.inv.ok (ti_bd h2 (by omega) 0 (by omega)) hA.l (q : Int)).mono ?_
  rintro e W' ⟨a, n1, k, rfl, hq⟩
  rw [r1]
  refine ⟨a, n1, k, rfl, Lib.hid ?_⟩
  obtain ⟨W1, q1, q2, q3, q4⟩ := hq.out
  rw [r2] at q4
  have hA1 := hA.step q2 rfl ⟨_, q1, r4⟩
  exact ⟨γ, eb, TG.below ⟨now, last, n, hA1, by omega, hm.keep q2 rfl⟩ q3, q4.rb hA1.l⟩
theorem TR.low {v : Value} {bs : Bs} (h : TR w W N c db sb tb E L v bs) {q : Nat} (hq : 1 ≤ q ∧ q ≤ 16384) (hn : E q = none) (ha : ∀ x : Nat, 1 ≤ x → x < q → (E x).isSome = true) :
    Calls Tryz.prog 17 #[.pointer (some ⟨tb, 0, none⟩)] W fun e W' => e = .returned (.tuple #[.int .i64 q, .bool true]) ∧ Hid (TR w W' N c db sb tb E L v bs) := by
  obtain ⟨γ, eb, hG, hr⟩ := h
  obtain ⟨now, last, n, hA, hn1, hm⟩ := id hG
  exact (low_ok hA.t.t1 hm.em hq hn ha).mono fun e W' ⟨h1, h2⟩ => ⟨h1, Lib.hid ⟨γ, eb, hG.below h2, hr.keep (Step.below (S := fun _ => false) h2 hA.l) rfl⟩⟩
theorem TR.clear {v : Value} {bs : Bs} (h : TR w W N c db sb tb E L v bs) (hc : c ≤ 400000) {oid : Nat} (ho : 1 ≤ oid ∧ oid ≤ 16384) (hE : E oid ≠ none) (hN : ¬ N ≤ 29 + (pgE E).length + (pgE L).length) :
    Calls Tryz.prog 12 #[.pointer (some ⟨tb, 0, none⟩), .int .i64 (oid : Int)] W fun e W' => e = .returned (.int .i64 0) ∧ Hid (TR w W' N (c + 2) db sb tb (upd E oid none) L v bs) := by
  obtain ⟨γ, eb, hG, hr⟩ := h
  refine (tclear_g hG hc ho hE).mono ?_
  rintro e W' ⟨r, rfl, hq⟩
  obtain ⟨st, h | h⟩ := hq.out
  · obtain ⟨rfl, h⟩ := h
    exact ⟨rfl, Lib.hid ⟨γ, eb, h, hr.keep st rfl⟩⟩
  · exact absurd h.2.2 hN
theorem TR.get {v : Value} {bs : Bs} (h : TR w W N c db sb tb E L v bs) {x : Int} (hx : (Lit.int .i64 x).wf = true) :
    Calls Tryz.prog 10 #[.pointer (some ⟨tb, 0, none⟩), .int .i64 x] W fun e W' => e = .returned (.tuple #[.int .i64 (pgO (Ez E x) : Int), .int .i64 (slO (Ez E x) : Int), .bool (Ez E x).isSome]) ∧ Hid (TR w W' N c db sb tb E L v bs) := by
  obtain ⟨γ, eb, hG, hr⟩ := h
  obtain ⟨now, last, n, hA, hn1, hm⟩ := id hG
  exact (tget_ok hA.t.t1 hm.em hx).mono fun e W' ⟨h1, h2⟩ => ⟨h1, Lib.hid ⟨γ, eb, hG.below h2, hr.keep (Step.below (S := fun _ => false) h2 hA.l) rfl⟩⟩
theorem TR.pages {v : Value} {bs : Bs} (h : TR w W N c db sb tb E L v bs) : Calls Tryz.prog 18 #[.pointer (some ⟨sb, 0, none⟩)] W fun e W' => ∃ a k, e = .returned (.slice a (pgE E).length k) ∧ Hid (Below w.heap.size w W') := by
  obtain ⟨γ, eb, hG, hr⟩ := h
  obtain ⟨now, last, n, hA, hn1, hm⟩ := id hG
  obtain ⟨s, h1, h2⟩ := hA.s
  refine (pages_s h1 hA.l).mono ?_
  rintro e W' ⟨⟨v, rfl, hn⟩, hb⟩
  obtain ⟨a, k, rfl⟩ := hn.shape
  refine ⟨a, k, by rw [h2.pages], Lib.hid ?_⟩
  have := (hA.below hb).be
  rwa [hA.B] at this
theorem RV.text {v : Value} {a : Bs} (h : RV w v a) : (convert 33 9 v).run Tryz.prog w = .ok (.string (txt a)) w := by
  obtain ⟨ad, c, rfl, ⟨hx, hc⟩, hr⟩ := h
  by_cases hz : 0 < a.length
  · obtain ⟨g, o, rfl, hg, hcell⟩ := hr hz
    exact conv_txt hcell _ rfl
  · have h0 : a = [] := List.length_eq_zero_iff.1 (by omega)
    subst h0
    rw [run_convert_bytes_string w 33 9 5 _ _ c Tryz.underlying33 Tryz.underlying5 (by kernel_rfl)]
    cases ad <;> simp [Conv.bytesToString, loadCells] <;> rfl
end
end Go.Tb
set_option maxHeartbeats 800000
namespace Go.Tb
open Go Go.RowKit Go.Proofs Go.Maps Go.Sp
theorem OpP.tx {γ : Gh} {w W W' : World} {N c db sb tb : Nat} {now last : St} {E L : En} (h : OpP γ w W W' N c db sb tb now last E L) : TX w W' N c db sb tb E L := by
  obtain ⟨γ', eb, n, _, h2, h3, h4, _⟩ := h
  exact ⟨now, last, γ', eb, n, ⟨h2.l, h2.B, h2.be, h2.s, h4.1⟩, by omega, h4.2⟩
theorem wk_low : ∀ x : Nat, 1 ≤ x → x < 2 → (wkE2 x).isSome = true := fun x h1 h2 => by
  have : x = 1 := by omega
  subst this; decide
theorem txt4 : txt [44, 1, 2, 0] = ⟨#[44, 1, 2, 0]⟩ := by rfl
theorem works_ok (w : World) : Calls Tryz.prog 6 #[] w fun e w' => e = .returned (.bool true) ∧ Hid (Below w.heap.size w w') := by
  have SP := (space_ok (w := w) (N := 60) (by decide))
  have OPN := Lib.hid (fun (W : World) (db sb : Nat) (h : ∃ γ, SW γ w W 60 0 db sb st0 st0 (fun _ => none) (fun _ => none)) => show Calls Tryz.prog 8 #[.pointer (some ⟨sb, 0, none⟩)] W (fun e W' => ∃ tb, e = .returned (.tuple #[.pointer (some ⟨tb, 0, none⟩), .int .i64 0]) ∧ Hid (TX w W' 60 2100 db sb tb wkE0 wkE0)) from by
    obtain ⟨γ, h⟩ := h
    exact (topen_ok h (by decide)).mono fun e W' ⟨tb, h1, h2⟩ => ⟨tb, h1, Lib.hid h2.out.tx⟩)
  have S1 := Lib.hid (fun (W : World) (db sb tb : Nat) (h : TX w W 60 2100 db sb tb wkE0 wkE0) => show Calls Tryz.prog 11 #[.pointer (some ⟨tb, 0, none⟩), .int .i64 1, .int .i64 265, .int .i64 0] W (fun e W' => e = .returned (.int .i64 0) ∧ Hid (TX w W' 60 2102 db sb tb wkE1 wkE0)) from (h.set (by decide) 1 265 0).mono fun e W' ⟨r, h1, hq⟩ => by
    have hz := hq.out
    clear hq
    rw [if_pos (by decide)] at hz
    rcases hz with ⟨rfl, h2⟩ | ⟨_, _, h2⟩
    · exact ⟨h1, Lib.hid h2⟩
    · rw [wk_p0] at h2; exact absurd h2 (by decide))
  have S2 := Lib.hid (fun (W : World) (db sb tb : Nat) (h : TX w W 60 2102 db sb tb wkE1 wkE0) => show Calls Tryz.prog 11 #[.pointer (some ⟨tb, 0, none⟩), .int .i64 63, .int .i64 300, .int .i64 2] W (fun e W' => e = .returned (.int .i64 0) ∧ Hid (TX w W' 60 2104 db sb tb wkE2 wkE0)) from (h.set (by decide) 63 300 2).mono fun e W' ⟨r, h1, hq⟩ => by
    have hz := hq.out
    clear hq
    rw [if_pos (by decide)] at hz
    rcases hz with ⟨rfl, h2⟩ | ⟨_, _, h2⟩
    · exact ⟨h1, Lib.hid h2⟩
    · rw [wk_p0, wk_p1] at h2; exact absurd h2 (by decide))
  have S3 := Lib.hid (fun (W : World) (db sb tb : Nat) (h : TX w W 60 2104 db sb tb wkE2 wkE0) => show Calls Tryz.prog 11 #[.pointer (some ⟨tb, 0, none⟩), .int .i64 1, .int .i64 264, .int .i64 0] W (fun e W' => e = .returned (.int .i64 1) ∧ Hid (TX w W' 60 2106 db sb tb wkE2 wkE0)) from (h.set (by decide) 1 264 0).mono fun e W' ⟨r, h1, hq⟩ => by
    have hz := hq.out
    clear hq
    rw [if_neg (by decide)] at hz
    obtain ⟨rfl, h2⟩ := hz
    exact ⟨h1, Lib.hid h2⟩)
  have RD := Lib.hid (fun (W : World) (db sb tb : Nat) (h : TX w W 60 2106 db sb tb wkE2 wkE0) => show Calls Tryz.prog 16 #[.pointer (some ⟨sb, 0, none⟩), .int .i64 1] W (fun e W' => ∃ a n k, e = .returned (.tuple #[.slice a n k, .int .i64 0]) ∧ Hid (TR w W' 60 2108 db sb tb wkE2 wkE0 (.slice a n k) [44, 1, 2, 0])) from by
    have := h.read (by decide) (q := 1) (by decide) (by rw [wk_b]; decide)
    rw [wk_b] at this
    exact this)
  have LW := Lib.hid (fun (W : World) (db sb tb : Nat) (v : Value) (h : TR w W 60 2108 db sb tb wkE2 wkE0 v [44, 1, 2, 0]) => show Calls Tryz.prog 17 #[.pointer (some ⟨tb, 0, none⟩)] W (fun e W' => e = .returned (.tuple #[.int .i64 2, .bool true]) ∧ Hid (TR w W' 60 2108 db sb tb wkE2 wkE0 v [44, 1, 2, 0])) from h.low (q := 2) (by decide) (by decide) wk_low)
  have CL := Lib.hid (fun (W : World) (db sb tb : Nat) (v : Value) (h : TR w W 60 2108 db sb tb wkE2 wkE0 v [44, 1, 2, 0]) => show Calls Tryz.prog 12 #[.pointer (some ⟨tb, 0, none⟩), .int .i64 63] W (fun e W' => e = .returned (.int .i64 0) ∧ Hid (TR w W' 60 2110 db sb tb wkE3 wkE0 v [44, 1, 2, 0])) from h.clear (by decide) (oid := 63) (by decide) (by decide) (by rw [wk_p0, wk_p2]; decide))
  have GT := Lib.hid (fun (W : World) (db sb tb : Nat) (v : Value) (h : TR w W 60 2110 db sb tb wkE3 wkE0 v [44, 1, 2, 0]) => show Calls Tryz.prog 10 #[.pointer (some ⟨tb, 0, none⟩), .int .i64 1] W (fun e W' => e = .returned (.tuple #[.int .i64 265, .int .i64 0, .bool true]) ∧ Hid (TR w W' 60 2110 db sb tb wkE3 wkE0 v [44, 1, 2, 0]) ∧ (convert 33 9 v).run Tryz.prog W' = .ok (.string ⟨#[44, 1, 2, 0]⟩) W') from (h.get (x := 1) (by decide)).mono fun e W' ⟨h1, h2⟩ => ⟨h1, h2, by
    obtain ⟨γ, eb, _, hr⟩ := h2.out
    have := RV.text hr.rv
    rw [txt4] at this
    exact this⟩)
  have PG := Lib.hid (fun (W : World) (db sb tb : Nat) (v : Value) (h : TR w W 60 2110 db sb tb wkE3 wkE0 v [44, 1, 2, 0]) => show Calls Tryz.prog 18 #[.pointer (some ⟨sb, 0, none⟩)] W (fun e W' => ∃ a k, e = .returned (.slice a 1 k) ∧ Hid (Below w.heap.size w W')) from by
    have := h.pages
    rw [wk_p3] at this
    exact this)
  generalize wkE0 = E0 at *
  generalize wkE1 = E1 at *
  generalize wkE2 = E2 at *
  generalize wkE3 = E3 at *
  go_enter Tryz.func6, Tryz.ntmps6
  go_upto_region 3 with (first
    | (go_at_call 7; refine SP.mono ?_; rintro e w5 ⟨db, sb, rfl, hq5⟩)
    | (go_at_call 8; refine (OPN.out _ _ _ hq5.out).mono ?_; rintro e w6 ⟨tb, rfl, hq6⟩))
  clear SP OPN hq5
  go_upto_region 5 with (first
    | (go_at_call 11; refine (S1.out _ _ _ _ hq6.out).mono ?_; rintro e w7 ⟨rfl, hq7⟩; clear S1)
    | (go_at_call 11; refine (S2.out _ _ _ _ hq7.out).mono ?_; rintro e w8 ⟨rfl, hq8⟩; clear S2)
    | (go_at_call 11; refine (S3.out _ _ _ _ hq8.out).mono ?_; rintro e w9 ⟨rfl, hq9⟩; clear S3))
  clear hq6 hq7 hq8
  go_upto_region 9 with (first
    | (go_at_call 16; refine (RD.out _ _ _ _ hq9.out).mono ?_; rintro e w10 ⟨a10, n10, k10, rfl, hq10⟩)
    | (go_at_call 17; refine (LW.out _ _ _ _ _ hq10.out).mono ?_; rintro e w11 ⟨rfl, hq11⟩)
    | (go_at_call 12; refine (CL.out _ _ _ _ _ hq11.out).mono ?_; rintro e w12 ⟨rfl, hq12⟩)
    | (go_at_call 10; refine (GT.out _ _ _ _ _ hq12.out).mono ?_; rintro e w13 ⟨rfl, hq13, hcv⟩))
  have PG13 := PG.out _ _ _ _ _ hq13.out
  clear RD LW CL GT PG hq9 hq10 hq11 hq12 hq13
  go_wp2_with (go_at_call 18; refine PG13.mono ?_; rintro e w14 ⟨a14, k14, rfl, hq14⟩)
  go_ret
  exact ⟨rfl, hq14⟩
end Go.Tb
