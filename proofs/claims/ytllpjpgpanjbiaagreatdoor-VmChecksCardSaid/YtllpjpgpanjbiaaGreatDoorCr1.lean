/- How the reference's walk over a function's code lies in memory, and its parts, walked by hand. Each says its own conditions. -/
import Derived.Test.YtllpjpgpanjbiaaGreatDoorCk1
import Derived.Test.YtllpjpgpanjbiaaGreatDoorCk2
import Derived.Laws.AppendOwnNone
import Derived.Deep.Cut
import Derived.Test.YtllpjpgpanjbiaaGreatDoorCk3
set_option linter.unusedVariables false
set_option linter.unusedSimpArgs false
set_option maxRecDepth 100000
set_option maxHeartbeats 1600000
namespace Go.Ck
open Go Go.RowKit Go.Proofs
structure Pr extends Pl where
  funs : Value
  roots : Value
  first : Int
def Pr.fcells (p : Pr) (F : Fn) (lv : Value) (bad : Bool) : Array Value := #[p.funs, p.roots, .int .i64 F.f, .int .i64 p.first, .int .i64 F.gb, .int .i64 F.gc, .slice (some ⟨p.m, 0, none⟩) F.code.length F.code.length, lv, .bool bad]
def AtV (w : World) (base : Nat) (q : Option Nat) (ab n : Nat) (K : Know) : Prop :=
  ∃ cs : Array Value, w.heap[ab]? = some (.cells cs 93 (0, 0)) ∧ cs.size = n * 3 ∧ ∀ i : Nat, i < n →
    (look K i = none → cs[i * 3]? = some (.bool false)) ∧
    ∀ s, look K i = some s → cs[i * 3]? = some (.bool true) ∧ cs[i * 3 + 1]? = some (.int .i64 s.h) ∧ ∃ v, cs[i * 3 + 2]? = some v ∧ TrV w base q v s.tr
structure RK (p : Pr) (F : Fn) (w : World) (K : Know) (lv : Value) (left : List Int) (bad : Bool) : Prop where
  blk : w.heap[p.pb]? = some (.cells (p.fcells F lv bad) 91 (0, 0))
  pbge : p.base ≤ p.pb
  mge : p.base ≤ p.m
  known : AtV w p.base lv.ownBlock p.m F.code.length K
  queue : QV w p.base lv left
  n : F.code.length ≤ 100000
def stA (b : Bool) (s : St) (v : Value) : Value := .agg #[.bool b, .int .i64 s.h, v]
theorem AtV.mono {w w' : World} {base ab n : Nat} {q q' : Option Nat} {K : Know} (h : AtV w base q ab n K) (hm : w'.heap[ab]? = w.heap[ab]?) (hw : ∀ g cur, base ≤ g → some g ≠ q → w.heap[g]? = some (.cells cur 3 (0, 0)) → w'.heap[g]? = some (.cells cur 3 (0, 0)) ∧ some g ≠ q') : AtV w' base q' ab n K := by
  obtain ⟨cs, h1, h2, h3⟩ := h
  refine ⟨cs, hm.trans h1, h2, fun i hi => ⟨(h3 i hi).1, fun s hs => ?_⟩⟩
  obtain ⟨k1, k2, v, k3, k4⟩ := (h3 i hi).2 s hs
  exact ⟨k1, k2, v, k3, k4.mono hw⟩
theorem AtV.put {w w' : World} {base ab n : Nat} {q q' : Option Nat} {K : Know} (h : AtV w base q ab n K) {qn : Nat} {s : St} {v : Value} (hq : qn < n) (hk : look K qn = none) (hv : TrV w base q v s.tr)
    (hm : ∀ cs, w.heap[ab]? = some (.cells cs 93 (0, 0)) → w'.heap[ab]? = some (.cells (((cs.setIfInBounds (qn * 3) (.bool true)).setIfInBounds (qn * 3 + 1) (.int .i64 s.h)).setIfInBounds (qn * 3 + 2) v) 93 (0, 0)))
    (hw : ∀ g cur, base ≤ g → some g ≠ q → w.heap[g]? = some (.cells cur 3 (0, 0)) → w'.heap[g]? = some (.cells cur 3 (0, 0)) ∧ some g ≠ q') : AtV w' base q' ab n (K ++ [((qn : Int), s)]) := by
  obtain ⟨cs, h1, h2, h3⟩ := h
  have hne : ∀ {a b : Nat} (c : Array Value) (v : Value), a ≠ b → (c.setIfInBounds a v)[b]? = c[b]? := fun c v h => Array.getElem?_setIfInBounds_ne h
  refine ⟨_, hm cs h1, by simp [h2], fun i hi => ?_⟩
  rw [look_append]
  by_cases e : i = qn
  · subst e
    rw [hk]
    refine ⟨fun e => by simp at e, fun s' hs' => ?_⟩
    simp only [Option.none_or, if_true] at hs'
    cases hs'
    refine ⟨?_, ?_, v, ?_, hv.mono hw⟩
    · rw [hne _ _ (by omega), hne _ _ (by omega), Array.getElem?_setIfInBounds_self_of_lt (by omega)]
    · rw [hne _ _ (by omega), Array.getElem?_setIfInBounds_self_of_lt (by simp; omega)]
    · rw [Array.getElem?_setIfInBounds_self_of_lt (by simp; omega)]
  · have e' : ¬ ((qn : Int) = (i : Int)) := by omega
    simp only [if_neg e', Option.or_none]
    rw [hne _ _ (by omega), hne _ _ (by omega), hne _ _ (by omega), hne _ _ (by omega), hne _ _ (by omega), hne _ _ (by omega), hne _ _ (by omega), hne _ _ (by omega), hne _ _ (by omega)]
    refine ⟨(h3 i hi).1, fun s' hs' => ?_⟩
    obtain ⟨k1, k2, v', k3, k4⟩ := (h3 i hi).2 s' hs'
    exact ⟨k1, k2, v', k3, k4.mono hw⟩
theorem RK.pblt {p : Pr} {F : Fn} {w : World} {K : Know} {lv : Value} {left : List Int} {bad : Bool} (h : RK p F w K lv left bad) : p.pb < w.heap.size := (Array.getElem?_eq_some_iff.1 h.blk).1
theorem RK.mlt {p : Pr} {F : Fn} {w : World} {K : Know} {lv : Value} {left : List Int} {bad : Bool} (h : RK p F w K lv left bad) : p.m < w.heap.size := by
  obtain ⟨cs, h1, _⟩ := h.known
  exact (Array.getElem?_eq_some_iff.1 h1).1
theorem RK.ne {p : Pr} {F : Fn} {w : World} {K : Know} {lv : Value} {left : List Int} {bad : Bool} (h : RK p F w K lv left bad) : p.pb ≠ p.m ∧ some p.pb ≠ lv.ownBlock ∧ some p.m ≠ lv.ownBlock := by
  obtain ⟨cs, h1, _⟩ := h.known
  refine ⟨fun e => ?_, fun e => ?_, fun e => ?_⟩
  · have := h.blk; rw [e, h1] at this; cases this
  · obtain ⟨_, cur, h2⟩ := h.queue.own_lt e.symm
    have := h.blk; rw [h2] at this; cases this
  · obtain ⟨_, cur, h2⟩ := h.queue.own_lt e.symm
    rw [h2] at h1; cases h1
theorem RK.cells {p : Pr} {F : Fn} {w : World} {K : Know} {lv : Value} {left : List Int} {bad : Bool} (h : RK p F w K lv left bad) (i : Nat) : w.cell? ⟨p.pb, i, none⟩ = (p.fcells F lv bad)[i]? ∧ w.frozen? ⟨p.pb, i, none⟩ = false :=
  ⟨by simp [World.cell?, h.blk], by simp [World.frozen?, h.blk]⟩
theorem RK.base_lt {p : Pr} {F : Fn} {w : World} {K : Know} {lv : Value} {left : List Int} {bad : Bool} (h : RK p F w K lv left bad) : p.base ≤ w.heap.size := by have := h.pblt; have := h.pbge; omega
theorem RK.grow {p : Pr} {F : Fn} {w w' : World} {K : Know} {lv : Value} {left : List Int} {bad : Bool} (h : RK p F w K lv left bad) (hb : Below w.heap.size w w') : RK p F w' K lv left bad := by
  refine ⟨(hb.block _ h.pblt).trans h.blk, h.pbge, h.mge, h.known.mono (hb.block _ h.mlt) fun g cur h1 h2 h3 => ⟨(hb.block g (Array.getElem?_eq_some_iff.1 h3).1).trans h3, h2⟩, h.queue.mono fun g hg => ?_, h.n⟩
  obtain ⟨_, cur, h2⟩ := h.queue.own_lt hg
  exact hb.block g (Array.getElem?_eq_some_iff.1 h2).1
theorem RK.at {p : Pr} {F : Fn} {w : World} {K : Know} {lv : Value} {left : List Int} {bad : Bool} (h : RK p F w K lv left bad) {i : Nat} {s : St} (hi : i < F.code.length) (hs : look K i = some s) :
    ∃ v, TrV w p.base lv.ownBlock v s.tr ∧ w.cell? ⟨p.m, i * 3, none⟩ = some (.bool true) ∧ w.cell? ⟨p.m, i * 3 + 1, none⟩ = some (.int .i64 s.h) ∧ w.cell? ⟨p.m, i * 3 + 2, none⟩ = some v := by
  obtain ⟨cs, h1, h2, h3⟩ := h.known
  obtain ⟨k1, k2, v, k3, k4⟩ := (h3 i hi).2 s hs
  exact ⟨v, k4, by simp [World.cell?, h1, k1], by simp [World.cell?, h1, k2], by simp [World.cell?, h1, k3]⟩
theorem RK.at_none {p : Pr} {F : Fn} {w : World} {K : Know} {lv : Value} {left : List Int} {bad : Bool} (h : RK p F w K lv left bad) {i : Nat} (hi : i < F.code.length) (hs : look K i = none) :
    w.cell? ⟨p.m, i * 3, none⟩ = some (.bool false) ∧ (∃ v, w.cell? ⟨p.m, i * 3 + 1, none⟩ = some v) ∧ (∃ v, w.cell? ⟨p.m, i * 3 + 2, none⟩ = some v) ∧ ∀ j, w.frozen? ⟨p.m, j, none⟩ = false := by
  obtain ⟨cs, h1, h2, h3⟩ := h.known
  refine ⟨by simp [World.cell?, h1, (h3 i hi).1 hs], ⟨cs[i * 3 + 1]'(by omega), ?_⟩, ⟨cs[i * 3 + 2]'(by omega), ?_⟩, fun j => by simp [World.frozen?, h1]⟩
  · simp [World.cell?, h1]
  · simp [World.cell?, h1]
theorem Kept.rowR {p : Pr} {F : Fn} {w w' : World} {K : Know} {lv : Value} {left : List Int} {bad : Bool} {q' : Option Nat} (hk : Kept p.toPl lv.ownBlock q' w w') (h : RK p F w K lv left bad) {g : Nat} {cur : Array Value} (h2 : some g ≠ lv.ownBlock) (h3 : w.heap[g]? = some (.cells cur 3 (0, 0))) : w'.heap[g]? = some (.cells cur 3 (0, 0)) ∧ some g ≠ q' := by
  have hg := (Array.getElem?_eq_some_iff.1 h3).1
  obtain ⟨cs, hm, _⟩ := h.known
  refine ⟨(hk.block g hg (by rintro rfl; rw [h.blk] at h3; cases h3) (by rintro rfl; rw [hm] at h3; cases h3) h2).trans h3, fun e => ?_⟩
  rcases hk.own g e.symm with h4 | h4
  · exact h2 h4.symm
  · omega
theorem TrV.keptR {p : Pr} {F : Fn} {w w' : World} {K : Know} {lv v : Value} {left l : List Int} {bad : Bool} {q' : Option Nat} (h : TrV w p.base lv.ownBlock v l) (hk : Kept p.toPl lv.ownBlock q' w w') (hw : RK p F w K lv left bad) : TrV w' p.base q' v l := h.mono fun g cur _ h2 h3 => hk.rowR hw h2 h3
theorem Kept.belowR {p : Pr} {F : Fn} {w w' : World} {K : Know} {lv : Value} {left : List Int} {bad : Bool} {q' : Option Nat} (hk : Kept p.toPl lv.ownBlock q' w w') (h : RK p F w K lv left bad) : Below p.base w w' := by
  refine ⟨hk.os, hk.tape, hk.output, hk.size, fun b hb => hk.block b (by have := h.pblt; have := h.pbge; omega) (by have := h.pbge; omega) (by have := h.mge; omega) fun e => ?_⟩
  have := (h.queue.own_lt e.symm).1
  omega
theorem RK.flag {p : Pr} {F : Fn} {w : World} {K : Know} {lv : Value} {left : List Int} {bad : Bool} (h : RK p F w K lv left bad) (b : Bool) :
    RK p F (w.setCell ⟨p.pb, 8, none⟩ (.bool b)) K lv left b ∧ Kept p.toPl lv.ownBlock lv.ownBlock w (w.setCell ⟨p.pb, 8, none⟩ (.bool b)) := by
  have w6 : ∀ g, g ≠ p.pb → (w.setCell ⟨p.pb, 8, none⟩ (.bool b)).heap[g]? = w.heap[g]? := fun g hg => heap_setCell_other w ⟨p.pb, 8, none⟩ g _ hg
  have hne := h.ne
  refine ⟨⟨by rw [heap_setCell_same w p.pb 8 _ _ _ h.blk]; rfl, h.pbge, h.mge, h.known.mono (w6 _ (Ne.symm hne.1)) fun g' cur h1 h2 h3 => ⟨(w6 g' (by rintro rfl; rw [h.blk] at h3; cases h3)).trans h3, h2⟩, h.queue.mono fun g hg => w6 g (by rintro rfl; exact hne.2.1 hg.symm), h.n⟩, ⟨rfl, rfl, rfl, by simp, fun b _ h1 _ _ => w6 b h1, fun k hk => .inl hk⟩⟩
end Go.Ck
namespace Go.Ck
open Go Go.RowKit Go.Proofs
theorem floorR_ok {p : Pr} {F : Fn} {w : World} {K : Know} {lv v : Value} {left : List Int} {bad b : Bool} {s : St} (h : RK p F w K lv left bad) (hv : TrV w p.base lv.ownBlock v s.tr) (hin : ∀ t ∈ s.tr, ∃ s', look K t = some s') (hdom : ∀ p s, look K p = some s → 0 ≤ p ∧ p < F.code.length) (hlen : s.tr.length ≤ 100000) :
    Calls Tryz.prog 54 #[.pointer (some ⟨p.pb, 0, none⟩), stA b s v] w fun e w' => e = .returned (.int .i64 (floorOf F.f K s)) ∧ Below w.heap.size w w' := by
  obtain ⟨a, c, rfl, hlc, hrow⟩ := hv
  have hpl := h.pblt
  have hml := h.mlt
  have hn := h.n
  have hb1 : Below w.heap.size w (w.alloc (.cells #[.bool b, .int .i64 s.h, .slice a s.tr.length c] 93)) := (Below.refl _ _).alloc (Nat.le_refl _) _
  have hw1 := h.grow hb1
  have f1 : (w.alloc (.cells #[.bool b, .int .i64 s.h, .slice a s.tr.length c] 93)).cell? ⟨p.pb, 2, none⟩ = some (.int .i64 F.f) := (hw1.cells 2).1
  have HB := Lib.hid hb1
  have e1 : (0 : Int) < (F.f : Int) ∨ F.f = 0 := by omega
  by_cases h0 : s.tr.length = 0
  · have ht : s.tr = [] := List.eq_nil_of_length_eq_zero h0
    have hF : floorOf F.f K s = least F.f := by unfold floorOf lastH; rw [ht]; rfl
    rw [hF]
    have e0 : ¬ (0 : Int) < (s.tr.length : Int) := by omega
    rcases e1 with e1 | e1
    · have hl1 : least F.f = 1 := by unfold least; rw [if_neg (by omega)]
      rw [hl1]
      clear h hw1 hrow hin hb1 h0 ht hF hdom
      unfold stA
      go_enter Tryz.func54, Tryz.ntmps54
      go_wp2
      go_ret
      exact ⟨rfl, HB.out⟩
    · have hl1 : least F.f = 0 := by unfold least; rw [if_pos e1]
      rw [hl1]
      rw [e1] at f1
      clear h hw1 hrow hin hb1 h0 ht hF hdom
      unfold stA
      go_enter Tryz.func54, Tryz.ntmps54
      go_wp2
      go_ret
      exact ⟨rfl, HB.out⟩
  · have hpos : 0 < s.tr.length := by omega
    have e0 : (0 : Int) < (s.tr.length : Int) := by omega
    have hle : (s.tr.length : Int) ≤ 100000 := by omega
    have e2 : IntKind.i64.wrap ((s.tr.length : Int) - 1) = ((s.tr.length - 1 : Nat) : Int) := by rw [IntKind.wrap_i64]; omega
    have e3 : ((s.tr.length - 1 : Nat) : Int) < (s.tr.length : Int) := by omega
    have e4 : (0 : Int) ≤ ((s.tr.length - 1 : Nat) : Int) := by omega
    obtain ⟨g, o, cur, rfl, hbg, hgq, hg, hcur⟩ := hrow hpos
    obtain ⟨t, ht⟩ : ∃ t, s.tr[s.tr.length - 1]? = some t := ⟨s.tr[s.tr.length - 1]'(by omega), List.getElem?_eq_getElem _⟩
    have hlast : s.tr.getLast? = some t := by rw [List.getLast?_eq_getElem?]; exact ht
    obtain ⟨s', hs'⟩ := hin t (getLast_mem hlast)
    obtain ⟨t0, t1⟩ := hdom t s' hs'
    obtain ⟨tn, rfl⟩ : ∃ tn : Nat, t = tn := ⟨t.toNat, by omega⟩
    have hF : floorOf F.f K s = max (least F.f) s'.h := by unfold floorOf lastH hAt; rw [hlast]; simp [hs']
    obtain ⟨v', hv', _, hlk, _⟩ := (hw1.grow (w' := (w.alloc (.cells #[.bool b, .int .i64 s.h, .slice (some ⟨g, o, none⟩) s.tr.length c] 93)).drew) ((Below.refl _ _).drew)).at (i := tn) (by omega) hs'
    have f6 : (w.alloc (.cells #[.bool b, .int .i64 s.h, .slice (some ⟨g, o, none⟩) s.tr.length c] 93)).drew.cell? ⟨p.pb, 6, none⟩ = some (.slice (some ⟨p.m, 0, none⟩) F.code.length F.code.length) := (hw1.cells 6).1
    have hgl : g < w.heap.size := (Array.getElem?_eq_some_iff.1 hg).1
    have k1 : (w.alloc (.cells #[.bool b, .int .i64 s.h, .slice (some ⟨g, o, none⟩) s.tr.length c] 93)).drew.cell? ⟨g, o + (s.tr.length - 1), none⟩ = some (.int .i64 tn) := by
      have : (w.alloc (.cells #[.bool b, .int .i64 s.h, .slice (some ⟨g, o, none⟩) s.tr.length c] 93)).drew.heap[g]? = some (.cells cur 3 (0, 0)) := (hb1.block g hgl).trans hg
      simp [World.cell?, this, hcur _ _ ht]
    have k2 : (w.alloc (.cells #[.bool b, .int .i64 s.h, .slice (some ⟨g, o, none⟩) s.tr.length c] 93)).drew.cell? ⟨w.heap.size, 2, none⟩ = some (.slice (some ⟨g, o, none⟩) s.tr.length c) := by simp [go_sem]
    rw [hF]
    clear h hw1 hrow hin hb1 hF hlast hs' hbg hgq hg hcur ht hgl hv' h0 hpos hlc hdom
    unfold stA
    rcases e1 with e1 | e1
    · have hl1 : least F.f = 1 := by unfold least; rw [if_neg (by omega)]
      rw [hl1]
      go_enter Tryz.func54, Tryz.ntmps54
      go_wp2
      go_region_held3 (fun x => x = (w.alloc (.cells #[.bool b, .int .i64 s.h, .slice (some ⟨g, o, none⟩) s.tr.length c] 93)).drew) ((first | rfl | assumption)) (fail)
      all_goals go_wp2
      all_goals go_ret
      all_goals exact ⟨congrArg (fun x => Ending.returned (Value.int .i64 x)) (by omega), HB.out.drew⟩
    · have hl1 : least F.f = 0 := by unfold least; rw [if_pos e1]
      rw [hl1]
      rw [e1] at f1
      go_enter Tryz.func54, Tryz.ntmps54
      go_wp2
      go_region_held3 (fun x => x = (w.alloc (.cells #[.bool b, .int .i64 s.h, .slice (some ⟨g, o, none⟩) s.tr.length c] 93)).drew) ((first | rfl | assumption)) (fail)
      all_goals go_wp2
      all_goals go_ret
      all_goals exact ⟨congrArg (fun x => Ending.returned (Value.int .i64 x)) (by omega), HB.out.drew⟩
end Go.Ck
namespace Go.Ck
open Go Go.RowKit Go.Proofs
theorem sameR_ok {w : World} {base : Nat} {q : Option Nat} {va vb : Value} {sa sb : St} {b1 b2 : Bool} (ha : TrV w base q va sa.tr) (hb : TrV w base q vb sb.tr) (hla : sa.tr.length ≤ 100000) (hlb : sb.tr.length ≤ 100000) :
    Calls Tryz.prog 52 #[stA b1 sa va, stA b2 sb vb] w fun e w' => e = .returned (.bool (decide (sa = sb))) ∧ Below w.heap.size w w' := by
  obtain ⟨ha', la⟩ := sa
  obtain ⟨hb', lb⟩ := sb
  simp only at ha hb hla hlb
  have HA := Lib.hid ha
  have HB := Lib.hid hb
  obtain ⟨a, c, rfl, hac, _⟩ := ha
  obtain ⟨b, d, rfl, hbd, _⟩ := hb
  obtain ⟨W1, hW1⟩ : ∃ W1, W1 = (w.alloc (.cells #[.bool b1, .int .i64 ha', .slice a la.length c] 93)).alloc (.cells #[.bool b2, .int .i64 hb', .slice b lb.length d] 93) := ⟨_, rfl⟩
  have hB1 : Below w.heap.size w W1 := by rw [hW1]; exact ((Below.refl _ _).alloc (Nat.le_refl _) _).alloc (by simp) _
  have hs1 : W1.heap.size = w.heap.size + 2 := by rw [hW1]; simp
  have HAS : Hid (∀ x, Below (w.heap.size + 2) W1 x → x.cell? ⟨w.heap.size, 2, none⟩ = some (.slice a la.length c) ∧ x.cell? ⟨w.heap.size + 1, 2, none⟩ = some (.slice b lb.length d) ∧ Below w.heap.size w x) := Lib.hid fun x hx => by
    have k1 : W1.cell? ⟨w.heap.size, 2, none⟩ = some (.slice a la.length c) := by rw [hW1]; simp [go_sem]
    have k2 : W1.cell? ⟨w.heap.size + 1, 2, none⟩ = some (.slice b lb.length d) := by rw [hW1]; simp [go_sem]
    exact ⟨by rw [hx.cell (by simp)]; exact k1, by rw [hx.cell (by simp)]; exact k2, hB1.trans (hx.mono (by omega))⟩
  have HB0 := Lib.hid hB1
  unfold stA
  by_cases hh : ha' = hb'
  · subst hh
    by_cases hl : la.length = lb.length
    · have HL := Lib.hid hl
      rw [← hl] at HB HAS hW1 ⊢
      clear hl hac hbd hB1
      go_enter Tryz.func52, Tryz.ntmps52
      go_wp2
      rw [← hW1]
      clear hW1
      go_loopw [5] (fun j wr => ∃ r : Nat, r ≤ la.length ∧ j = .int .i64 r ∧ Hid (∀ i, i < r → la[i]? = lb[i]?) ∧ Hid (Below (w.heap.size + 2) W1 wr)) (fun j _ => la.length - (intOf j).toNat)
      case atStart => exact ⟨0, Nat.zero_le _, rfl, Lib.hid (fun i hi => absurd hi (Nat.not_lt_zero _)), Lib.hid (Below.refl _ _)⟩
      case round =>
        obtain ⟨r, hr, rfl, hE, hO⟩ := hrel
        obtain ⟨c1, c2, hBw⟩ := HAS.out wr hO.out
        have HBw := Lib.hid hBw
        by_cases hlt : r < la.length
        · obtain ⟨x, hx⟩ : ∃ x, la[r]? = some x := ⟨la[r], List.getElem?_eq_getElem hlt⟩
          obtain ⟨y, hy⟩ : ∃ y, lb[r]? = some y := ⟨lb[r]'(by have := HL.out; omega), List.getElem?_eq_getElem _⟩
          have HAw := HA.out.grow hBw
          have HBw' := HB.out.grow hBw
          obtain ⟨g, o, rfl, k1⟩ := HAw.cell hx
          obtain ⟨g', o', rfl, k2⟩ := HBw'.cell hy
          have HX := Lib.hid hx
          have HY := Lib.hid hy
          have k1d : wr.drew.cell? ⟨g, o + r, none⟩ = some (.int .i64 x) := k1
          have k2d : wr.drew.cell? ⟨g', o' + r, none⟩ = some (.int .i64 y) := k2
          have c1d : wr.drew.cell? ⟨w.heap.size, 2, none⟩ = some (.slice (some ⟨g, o, none⟩) la.length c) := c1
          have c2d : wr.drew.cell? ⟨w.heap.size + 1, 2, none⟩ = some (.slice (some ⟨g', o', none⟩) la.length d) := c2
          have i1 : (r : Int) < (la.length : Int) := by omega
          have i0 : (0 : Int) ≤ (r : Int) := by omega
          have hb32 : (la.length : Int) ≤ 100000 := by omega
          clear hx hy hBw HAw HBw'
          by_cases hxy : x = y
          · subst hxy
            go_wp2
            go_region_held3 (fun z => z = wr.drew) ((first | rfl | assumption)) (fail)
            go_wp2
            go_roundw
            case rel =>
              refine ⟨r + 1, by omega, by simp, Lib.hid fun i hi => ?_, Lib.hid hO.out.drew⟩
              by_cases hir : i = r
              · subst hir; rw [HX.out, HY.out]
              · exact hE.out i (by omega)
            case measure => simp [intOf]; omega
          · have e1 : (x == y) = false := by simpa using hxy
            go_wp2
            go_region_held3 (fun z => z = wr.drew) ((first | rfl | assumption)) (fail)
            go_wp2
            go_ret
            refine ⟨?_, HBw.out.drew⟩
            have : ¬ la = lb := by rintro rfl; have := HX.out; rw [HY.out] at this; cases this; exact hxy rfl
            simp [this]
        · obtain rfl : r = la.length := by omega
          clear hBw
          go_wp2
          go_ret
          refine ⟨?_, HBw.out⟩
          have : la = lb := List.ext_getElem? fun i => by
            by_cases hi : i < la.length
            · exact hE.out i hi
            · rw [List.getElem?_eq_none (by omega), List.getElem?_eq_none (by have := HL.out; omega)]
          simp [this]
    · have hne : ¬ la = lb := fun e => hl (by rw [e])
      have e1 : ((la.length : Int) == (lb.length : Int)) = false := by simpa using (by omega : ¬ (la.length : Int) = lb.length)
      clear hl hac hbd hB1
      go_enter Tryz.func52, Tryz.ntmps52
      go_wp2
      go_ret
      exact ⟨by simp [hne], by rw [← hW1]; exact HB0.out⟩
  · have e1 : (ha' == hb') = false := by simpa using hh
    clear hac hbd hB1
    go_enter Tryz.func52, Tryz.ntmps52
    go_wp2
    go_ret
    exact ⟨by simp [hh], by rw [← hW1]; exact HB0.out⟩
end Go.Ck
namespace Go.Ck
open Go Go.RowKit Go.Proofs
theorem app_none (c : Nat) (ty : TypeId) (w : World) : (Builtin.append_ #[36, 36] ty #[.slice none 0 0, .slice none 0 c]).run Tryz.prog w = .ok (.slice none 0 0) w := by
  obtain ⟨i, hi, hi2⟩ := Option.map_eq_some_iff.1 i3
  injection hi2 with hz0 hz1
  injection hz1 with hz1 hz2
  simp [Builtin.append_, run_underlying Tryz.underlying36, sizeOf, typeInfo, hi, Builtin.lenOf, hz0, Builtin.firstCells]
theorem new1 (w : World) (t : Int) : ∀ j u, [Value.int .i64 t][j]? = some u → (w.alloc (.cells #[.int .i64 t] 3)).cell? ((⟨w.heap.size, 0, none⟩ : Addr).add j) = some u := fun j u hj => by
  match j, hj with
  | 0, hj => cases hj; simp [go_sem]
theorem one1 (t : Int) : ∀ u ∈ [Value.int .i64 t], u.oneCell' = true := by intro u hu; obtain rfl := List.mem_singleton.1 hu; rfl
theorem moreR_ok {w : World} {base : Nat} {q : Option Nat} {v : Value} {l : List Int} {t : Int} (hv : TrV w base q v l) (hl : l.length ≤ 100000) :
    Calls Tryz.prog 55 #[v, .int .i64 t] w fun e w' => ∃ v', e = .returned v' ∧ w'.ownsRow w.heap.size 3 1 v' (l.length + 1) ((l ++ [t]).map intV) ∧ Below w.heap.size w w' := by
  obtain ⟨i, hi, hi2⟩ := Option.map_eq_some_iff.1 i3
  injection hi2 with hz0 hz1
  injection hz1 with hz1 hz2
  obtain ⟨a, c, rfl, hlc, hrow⟩ := hv
  cases a with
  | none =>
    have h0 : l.length = 0 := by
      rcases Nat.eq_zero_or_pos l.length with h | h
      · exact h
      · obtain ⟨g, o, cur, e, _⟩ := hrow h; cases e
    obtain rfl := List.eq_nil_of_length_eq_zero h0
    have hq := fun ty => app_none c ty w
    have hc : (w.alloc (.cells #[.int .i64 t] 3)).cell? ⟨w.heap.size, 0, none⟩ = some (.int .i64 t) := by simp [go_sem]
    clear hrow hlc h0 hl
    go_enter Tryz.func55, Tryz.ntmps55
    go_wp2_with (at_builtin; first | (refine wpList_append_run (w' := w) (sv := .slice none 0 0) (xv := .slice none 0 c) (v' := .slice none 0 0) rfl _ _ 36 rfl rfl rfl (hq 36) ?_) | (refine wpList_append_own _ rfl _ _ 36 rfl w.heap.size 3 i (.int .i64 0) 1 8 Tryz.underlying36 hi hz2 hz0 hz1 rfl (by decide) (.slice none 0 0) 0 [] rfl (World.ownsRow_nil _ _ _ _) ⟨w.heap.size, 0, none⟩ 1 1 [.int .i64 t] rfl (by simp) (new1 _ t) (one1 t) (by simp only [maxLen]; omega) (by omega) (by simp) ?_; intro v' w3 hown' hgrow hnil))
    have hE : Below w.heap.size w w3 := ((Below.refl _ _).alloc (Nat.le_refl _) _).grown hgrow (by simp) (fun k hk => by cases hk)
    clear hgrow hnil
    have HW := Lib.hid hown'
    have HE := Lib.hid hE
    clear hown' hE
    go_wp2
    go_ret
    exact ⟨_, rfl, HW.out, HE.out⟩
  | some ad =>
    have hnews : ∀ j u, (l.map intV)[j]? = some u → w.cell? (ad.add j) = some u := fun j u hj => by
      rw [List.getElem?_map] at hj
      obtain ⟨t, ht, rfl⟩ := Option.map_eq_some_iff.1 hj
      obtain ⟨g, o, cur, e, _, _, hg, hc⟩ := hrow (by have := (List.getElem?_eq_some_iff.1 ht).1; omega)
      cases e
      rw [add_one]
      simp [World.cell?, hg, hc j t ht, intV]
    have hone : ∀ u ∈ l.map intV, u.oneCell' = true := fun u hu => by
      obtain ⟨t, _, rfl⟩ := List.mem_map.1 hu; rfl
    have HN := Lib.hid hnews
    have HO := Lib.hid hone
    clear hrow hlc hnews hone
    go_enter Tryz.func55, Tryz.ntmps55
    go_wp2_with (at_builtin; first | (refine wpList_append_own _ rfl _ _ 36 rfl w.heap.size 3 i (.int .i64 0) 1 8 Tryz.underlying36 hi hz2 hz0 hz1 rfl (by decide) (.slice none 0 0) 0 [] rfl (World.ownsRow_nil _ _ _ _) ad l.length c (l.map intV) rfl (by simp) HN.out HO.out (by simp only [maxLen]; omega) (by omega) (by simp) ?_; intro v' w3 hown' hgrow hnil; rw [Nat.zero_add, List.nil_append] at hown'; have HW := Lib.hid hown'; have HE := Lib.hid ((Below.refl _ _).grown hgrow (Nat.le_refl _) (fun k hk => by cases hk) : Below w.heap.size w w3); clear hown' hgrow hnil; obtain ⟨a3, c3, rfl⟩ := own_slice HW.out) | (refine wpList_append_own _ rfl _ _ 36 rfl w.heap.size 3 i (.int .i64 0) 1 8 Tryz.underlying36 hi hz2 hz0 hz1 rfl (by decide) (.slice a3 l.length c3) l.length (l.map intV) rfl (HW.out.alloc _) ⟨w3.heap.size, 0, none⟩ 1 1 [.int .i64 t] rfl (by simp) (new1 _ t) (one1 t) (by simp only [maxLen]; omega) (by omega) (by have := HE.out.size; simp; omega) ?_; intro v' w4 hown' hgrow hnil))
    have hs3 := HE.out.size
    have hE4 : Below w.heap.size w w4 := (HE.out.alloc hs3 _).grown hgrow (by simp; omega) (fun k hk => by
      rcases HW.out.2 with ⟨e, _⟩ | ⟨g, cap, cur, e, hb, _⟩
      · rw [e] at hk; cases hk
      · rw [e] at hk; cases hk; exact hb)
    clear hgrow hnil
    have HW4 := Lib.hid hown'
    have HE4 := Lib.hid hE4
    clear hown' hE4
    go_wp2
    go_ret
    exact ⟨_, rfl, by have := HW4.out; simpa [intV] using this, HE4.out⟩
end Go.Ck
namespace Go.Ck
open Go Go.RowKit Go.Proofs
def ToPost (res : Option (Know × List Int)) (p : Pr) (F : Fn) (K : Know) (lv : Value) (left : List Int) (bad : Bool) (w w' : World) : Prop :=
  ∃ K' l' lv' bad', RK p F w' K' lv' l' bad' ∧ Kept p.toPl lv.ownBlock lv'.ownBlock w w' ∧ ((res = some (K', l') ∧ bad' = bad) ∨ (res = none ∧ K' = K ∧ l' = left ∧ bad' = true))
theorem toR_out {p : Pr} {F : Fn} {w : World} {K : Know} {lv v : Value} {left : List Int} {bad b : Bool} {s : St} {q : Int} (h : RK p F w K lv left bad) (hv : TrV w p.base lv.ownBlock v s.tr) (hr : ¬ (0 ≤ q ∧ q < F.code.length)) :
    Calls Tryz.prog 30 #[.pointer (some ⟨p.pb, 0, none⟩), .int .i64 q, stA b s v] w fun e w' => e = .returned (.tuple #[]) ∧ ToPost none p F K lv left bad w w' := by
  obtain ⟨a, c, rfl, hlc, hrow⟩ := hv
  obtain ⟨W2, hW2⟩ : ∃ W2, W2 = w.alloc (.cells #[.bool b, .int .i64 s.h, .slice a s.tr.length c] 93) := ⟨_, rfl⟩
  have hb2 : Below w.heap.size w W2 := by rw [hW2]; exact (Below.refl _ _).alloc (Nat.le_refl _) _
  have hw2 := h.grow hb2
  have hpl := h.pblt
  have f6 : W2.cell? ⟨p.pb, 6, none⟩ = some (.slice (some ⟨p.m, 0, none⟩) F.code.length F.code.length) := (hw2.cells 6).1
  have f8 : W2.cell? ⟨p.pb, 8, none⟩ = some (.bool bad) := (hw2.cells 8).1
  have z8 : W2.frozen? ⟨p.pb, 8, none⟩ = false := (hw2.cells 8).2
  have hfl := hw2.flag true
  have HF := Lib.hid (And.intro hfl.1 ((Kept.of_below (p := p.toPl) (q := lv.ownBlock) hb2).trans hfl.2))
  have hn := h.n
  clear h hrow hw2 hb2 hfl
  unfold stA
  by_cases h0 : q < 0
  · go_enter Tryz.func30, Tryz.ntmps30
    go_upto_region 1 with (fail)
    rw [← hW2]
    clear hW2
    go_wp2
    ((try simp only [Exit.inBlock, Exit.then]); refine bodyPost_ret (results_none rfl _ _ _) rfl ?_)
    exact ⟨rfl, _, _, _, _, HF.out.1, HF.out.2, .inr ⟨rfl, rfl, rfl, rfl⟩⟩
  · have h1 : (F.code.length : Int) ≤ q := by omega
    go_enter Tryz.func30, Tryz.ntmps30
    go_upto_region 1 with (fail)
    rw [← hW2]
    clear hW2
    go_wp2
    ((try simp only [Exit.inBlock, Exit.then]); refine bodyPost_ret (results_none rfl _ _ _) rfl ?_)
    exact ⟨rfl, _, _, _, _, HF.out.1, HF.out.2, .inr ⟨rfl, rfl, rfl, rfl⟩⟩
end Go.Ck
set_option maxHeartbeats 4000000
namespace Go.Ck
open Go Go.RowKit Go.Proofs
theorem toR_known {p : Pr} {F : Fn} {w : World} {K : Know} {lv v : Value} {left : List Int} {bad b : Bool} {s s' : St} {qn : Nat} (h : RK p F w K lv left bad) (hv : TrV w p.base lv.ownBlock v s.tr) (h1 : qn < F.code.length) (hk : look K qn = some s') (hlen : s.tr.length ≤ 100000) (hlen' : s'.tr.length ≤ 100000) :
    Calls Tryz.prog 30 #[.pointer (some ⟨p.pb, 0, none⟩), .int .i64 qn, stA b s v] w fun e w' => e = .returned (.tuple #[]) ∧ RK p F w' K lv left (bad || !(decide (s' = s))) ∧ Kept p.toPl lv.ownBlock lv.ownBlock w w' := by
  obtain ⟨a, c, rfl, hlc, hrow⟩ := id hv
  obtain ⟨W2, hW2⟩ : ∃ W2, W2 = w.alloc (.cells #[.bool b, .int .i64 s.h, .slice a s.tr.length c] 93) := ⟨_, rfl⟩
  have hb2 : Below w.heap.size w W2 := by rw [hW2]; exact (Below.refl _ _).alloc (Nat.le_refl _) _
  have hw2 := h.grow hb2
  have hv2 := hv.grow hb2
  have hpl := h.pblt
  have f6 : W2.cell? ⟨p.pb, 6, none⟩ = some (.slice (some ⟨p.m, 0, none⟩) F.code.length F.code.length) := (hw2.cells 6).1
  have f8 : W2.cell? ⟨p.pb, 8, none⟩ = some (.bool bad) := (hw2.cells 8).1
  have z8 : W2.frozen? ⟨p.pb, 8, none⟩ = false := (hw2.cells 8).2
  obtain ⟨v1, hv1, a0, a1, a2⟩ := hw2.at h1 hk
  have hn := h.n
  have i1 : (qn : Int) < (F.code.length : Int) := by omega
  have i0 : (0 : Int) ≤ (qn : Int) := by omega
  have hs2 : W2.heap.size = w.heap.size + 1 := by rw [hW2]; simp
  have d0 : W2.cell? ⟨w.heap.size, 0, none⟩ = some (.bool b) := by rw [hW2]; simp [go_sem]
  have d1 : W2.cell? ⟨w.heap.size, 1, none⟩ = some (.int .i64 s.h) := by rw [hW2]; simp [go_sem]
  have d2 : W2.cell? ⟨w.heap.size, 2, none⟩ = some (.slice a s.tr.length c) := by rw [hW2]; simp [go_sem]
  have HS := Lib.hid (sameR_ok (w := W2.drew) (b1 := true) (b2 := b) hv1 hv2 hlen' hlen)
  have HEND : Hid (∀ x bb, Below W2.heap.size W2 x → RK p F (x.setCell ⟨p.pb, 8, none⟩ (.bool bb)) K lv left bb ∧ Kept p.toPl lv.ownBlock lv.ownBlock w (x.setCell ⟨p.pb, 8, none⟩ (.bool bb))) := Lib.hid fun x bb hx => by
    have hbx := hb2.trans (hx.mono hb2.size)
    have hfl := (h.grow hbx).flag bb
    exact ⟨hfl.1, (Kept.of_below (p := p.toPl) (q := lv.ownBlock) hbx).trans hfl.2⟩
  have HEND2 : Hid (∀ x bb, Below W2.heap.size W2 x → RK p F (x.setCell ⟨p.pb, 8, none⟩ (.bool bb)).drew K lv left bb ∧ Kept p.toPl lv.ownBlock lv.ownBlock w (x.setCell ⟨p.pb, 8, none⟩ (.bool bb)).drew) := Lib.hid fun x bb hx => by
    obtain ⟨h1, h2⟩ := HEND.out x bb hx
    exact ⟨h1.grow (Below.refl _ _).drew, h2.trans (Kept.of_below (Below.refl _ _).drew)⟩
  have HCL : Hid (∀ x, Below W2.heap.size W2 x → x.cell? ⟨p.pb, 8, none⟩ = some (.bool bad) ∧ x.cell? ⟨p.pb, 6, none⟩ = some (.slice (some ⟨p.m, 0, none⟩) F.code.length F.code.length) ∧ x.cell? ⟨p.m, qn * 3, none⟩ = some (.bool true) ∧ x.cell? ⟨p.m, qn * 3 + 1, none⟩ = some (.int .i64 s'.h) ∧ x.cell? ⟨p.m, qn * 3 + 2, none⟩ = some v1 ∧ x.cell? ⟨w.heap.size, 0, none⟩ = some (.bool b) ∧ x.cell? ⟨w.heap.size, 1, none⟩ = some (.int .i64 s.h) ∧ x.cell? ⟨w.heap.size, 2, none⟩ = some (.slice a s.tr.length c)) := Lib.hid fun x hx =>
    ⟨by rw [hx.cell (by exact cell_lt' f8)]; exact f8, by rw [hx.cell (by exact cell_lt' f6)]; exact f6, by rw [hx.cell (by exact cell_lt' a0)]; exact a0, by rw [hx.cell (by exact cell_lt' a1)]; exact a1, by rw [hx.cell (by exact cell_lt' a2)]; exact a2, by rw [hx.cell (by exact cell_lt' d0)]; exact d0, by rw [hx.cell (by exact cell_lt' d1)]; exact d1, by rw [hx.cell (by exact cell_lt' d2)]; exact d2⟩
  have HD := Lib.hid ((Below.refl W2.heap.size W2).drew)
  have HF8 : Hid (∀ x, Below W2.heap.size W2 x → x.cell? ⟨p.pb, 8, none⟩ = some (.bool bad) ∧ x.frozen? ⟨p.pb, 8, none⟩ = false ∧ p.pb < x.heap.size) := Lib.hid fun x hx => by
    have := hw2.grow hx
    exact ⟨(this.cells 8).1, (this.cells 8).2, this.pblt⟩
  obtain ⟨a', c', rfl, hlc', _⟩ := id hv1
  clear h hv hrow hw2 hb2 hv2 hv1
  unfold stA at HS ⊢
  cases bad with
  | true =>
    go_enter Tryz.func30, Tryz.ntmps30
    go_upto_region 1 with (fail)
    rw [← hW2]
    clear hW2
    go_wp2
    go_region
    all_goals
      go_wp2
      ((try simp only [Exit.inBlock, Exit.then]); refine bodyPost_ret (results_none rfl _ _ _) rfl ?_)
      simp only [Bool.true_or]
      exact ⟨by first | rfl | trivial, by first | exact HEND.out _ _ (Below.refl _ _) | exact HEND.out _ _ (Below.refl _ _).drew | exact HEND2.out _ _ (Below.refl _ _) | exact HEND2.out _ _ (Below.refl _ _).drew⟩
  | false =>
    go_enter Tryz.func30, Tryz.ntmps30
    go_upto_region 1 with (fail)
    rw [← hW2]
    clear hW2
    go_wp2
    go_region_with (go_at_call 52; refine HS.out.mono ?_; rintro e w3 ⟨rfl, hb3⟩; have HE3 := Lib.hid (HEND.out _ (!(decide (s' = s))) (HD.out.trans hb3)); obtain ⟨y8, z8', l8⟩ := HF8.out _ (HD.out.trans hb3); clear hb3)
    all_goals
      go_wp2
      ((try simp only [Exit.inBlock, Exit.then]); refine bodyPost_ret (results_none rfl _ _ _) rfl ?_)
      simp only [Bool.false_or]
      exact ⟨by first | rfl | trivial, HE3.out⟩
end Go.Ck
set_option maxHeartbeats 1000000
namespace Go.Ck
open Go Go.RowKit Go.Proofs
theorem toR_new {p : Pr} {F : Fn} {w : World} {K : Know} {lv v : Value} {left : List Int} {bad b : Bool} {s : St} {qn : Nat} (h : RK p F w K lv left bad) (hv : TrV w p.base lv.ownBlock v s.tr) (h1 : qn < F.code.length) (hk : look K qn = none) (hll : left.length ≤ 100000) :
    Calls Tryz.prog 30 #[.pointer (some ⟨p.pb, 0, none⟩), .int .i64 qn, stA b s v] w fun e w' => e = .returned (.tuple #[]) ∧ ∃ lv', RK p F w' (K ++ [((qn : Int), s)]) lv' (left ++ [(qn : Int)]) bad ∧ Kept p.toPl lv.ownBlock lv'.ownBlock w w' := by
  obtain ⟨a, c, rfl, hlc, hrow⟩ := id hv
  have hpl := h.pblt
  have hml := h.mlt
  have hne := h.ne
  have hn := h.n
  have f6 : w.cell? ⟨p.pb, 6, none⟩ = some (.slice (some ⟨p.m, 0, none⟩) F.code.length F.code.length) := (h.cells 6).1
  have f7 : w.cell? ⟨p.pb, 7, none⟩ = some lv := (h.cells 7).1
  obtain ⟨a0, ⟨v1, a1⟩, ⟨v2, a2⟩, az⟩ := h.at_none h1 hk
  have az0 := az (qn * 3)
  have az1 := az (qn * 3 + 1)
  have az2 := az (qn * 3 + 2)
  have i1 : (qn : Int) < (F.code.length : Int) := by omega
  have i0 : (0 : Int) ≤ (qn : Int) := by omega
  -- the state is laid
  obtain ⟨w2, hw2e⟩ : ∃ w2, w2 = ((w.setCell ⟨p.m, qn * 3, none⟩ (.bool true)).setCell ⟨p.m, qn * 3 + 1, none⟩ (.int .i64 s.h)).setCell ⟨p.m, qn * 3 + 2, none⟩ (.slice a s.tr.length c) := ⟨_, rfl⟩
  have b2 : ∀ g, g ≠ p.m → w2.heap[g]? = w.heap[g]? := fun g hg => by
    rw [hw2e, heap_setCell_other _ ⟨p.m, qn * 3 + 2, none⟩ g _ hg, heap_setCell_other _ ⟨p.m, qn * 3 + 1, none⟩ g _ hg, heap_setCell_other _ ⟨p.m, qn * 3, none⟩ g _ hg]
  have hs2 : w2.heap.size = w.heap.size := by rw [hw2e]; simp
  have hm2 : ∀ cs, w.heap[p.m]? = some (.cells cs 93 (0, 0)) → w2.heap[p.m]? = some (.cells (((cs.setIfInBounds (qn * 3) (.bool true)).setIfInBounds (qn * 3 + 1) (.int .i64 s.h)).setIfInBounds (qn * 3 + 2) (.slice a s.tr.length c)) 93 (0, 0)) := fun cs hcs => by
    rw [hw2e]
    exact heap_setCell_same _ p.m (qn * 3 + 2) _ _ _ (heap_setCell_same _ p.m (qn * 3 + 1) _ _ _ (heap_setCell_same _ p.m (qn * 3) _ _ _ hcs))
  have hK2 : Kept p.toPl lv.ownBlock lv.ownBlock w w2 := ⟨by rw [hw2e]; rfl, by rw [hw2e]; rfl, by rw [hw2e]; rfl, by omega, fun g _ _ h2 _ => b2 g h2, fun k hk => .inl hk⟩
  have hw2 : RK p F w2 (K ++ [((qn : Int), s)]) lv left bad := ⟨(b2 _ hne.1).trans h.blk, h.pbge, h.mge, h.known.put h1 hk hv hm2 (fun g cur k1 k2 k3 => ⟨(b2 g (by rintro rfl; obtain ⟨cs, hcs, _⟩ := h.known; rw [hcs] at k3; cases k3)).trans k3, k2⟩), h.queue.mono fun g hg => b2 g (by rintro rfl; exact hne.2.2 hg.symm), h.n⟩
  obtain ⟨w3, hw3e⟩ : ∃ w3, w3 = (w2.alloc (.cells #[.bool true, .int .i64 s.h, .slice a s.tr.length c] 93)).drew := ⟨_, rfl⟩
  have hb3 : Below w2.heap.size w2 w3 := by rw [hw3e]; exact ((Below.refl _ _).alloc (Nat.le_refl _) _).drew
  have hw3 := hw2.grow hb3
  have hK3 : Kept p.toPl lv.ownBlock lv.ownBlock w w3 := hK2.trans (Kept.of_below hb3)
  have e7 : w3.cell? ⟨p.pb, 7, none⟩ = some lv := (hw3.cells 7).1
  have hpl3 := hw3.pblt
  have hs3 : w3.heap.size = w.heap.size + 1 := by rw [hw3e]; simp [hs2]
  -- the place behind those that are left
  have hb4 : Below w3.heap.size w3 (w3.alloc (.cells #[.int .i64 qn] 3)) := (Below.refl _ _).alloc (Nat.le_refl _) _
  have hw4 := hw3.grow hb4
  have hbase : p.base ≤ (w3.alloc (.cells #[.int .i64 qn] 3)).heap.size := by have := hw4.pblt; have := h.pbge; omega
  obtain ⟨lv', w5, happ, hq5, hg5, hown⟩ := append_q (ty := 36) (nb := w3.heap.size) (t := qn) hw4.queue hbase (by simp [go_sem]) hll
  obtain ⟨a', n', c', rfl⟩ := hq5.slice
  have hw5l := hg5.size
  have hne4 := hw4.ne
  have b5 : ∀ b, b < (w3.alloc (.cells #[.int .i64 qn] 3)).heap.size → some b ≠ lv.ownBlock → w5.heap[b]? = (w3.alloc (.cells #[.int .i64 qn] 3)).heap[b]? := fun b hb hne => hg5.block b hb hne
  have hpb5 : w5.heap[p.pb]? = some (.cells (p.fcells F lv bad) 91 (0, 0)) := (b5 _ hw4.pblt hne4.2.1).trans hw4.blk
  have g7 : w5.cell? ⟨p.pb, 7, none⟩ = some lv := by simp [World.cell?, hpb5]; rfl
  have g7f : w5.frozen? ⟨p.pb, 7, none⟩ = false := by simp [World.frozen?, hpb5]
  have hfin : RK p F (w5.setCell ⟨p.pb, 7, none⟩ (.slice a' n' c')) (K ++ [((qn : Int), s)]) (.slice a' n' c') (left ++ [(qn : Int)]) bad ∧ Kept p.toPl lv.ownBlock (Value.slice a' n' c').ownBlock w (w5.setCell ⟨p.pb, 7, none⟩ (.slice a' n' c')) := by
    have w6 : ∀ b, b ≠ p.pb → (w5.setCell ⟨p.pb, 7, none⟩ (.slice a' n' c')).heap[b]? = w5.heap[b]? := fun b hb => heap_setCell_other w5 ⟨p.pb, 7, none⟩ b _ hb
    have hml4 := hw4.mlt
    have hm6 : (w5.setCell ⟨p.pb, 7, none⟩ (.slice a' n' c')).heap[p.m]? = (w3.alloc (.cells #[.int .i64 qn] 3)).heap[p.m]? := (w6 _ (Ne.symm hne4.1)).trans (b5 _ hml4 hne4.2.2)
    have hp6 : (w5.setCell ⟨p.pb, 7, none⟩ (.slice a' n' c')).heap[p.pb]? = some (.cells (p.fcells F (.slice a' n' c') bad) 91 (0, 0)) := by
      rw [heap_setCell_same w5 p.pb 7 _ _ _ hpb5]; rfl
    refine ⟨⟨hp6, h.pbge, h.mge, hw4.known.mono hm6 fun g cur k1 k2 k3 => ⟨?_, fun e => ?_⟩, hq5.mono fun g hg => ?_, h.n⟩, hK3.trans ((Kept.of_below hb4).trans ⟨?_, ?_, ?_, ?_, fun b hb k1 k2 k3 => ?_, hown⟩)⟩
    · rw [w6 g (by rintro rfl; rw [hw4.blk] at k3; cases k3), b5 g (Array.getElem?_eq_some_iff.1 k3).1 k2]; exact k3
    · rcases hown g e.symm with h4 | h4
      · exact k2 h4.symm
      · have := (Array.getElem?_eq_some_iff.1 k3).1; omega
    · obtain ⟨_, cur, hc⟩ := hq5.own_lt hg
      exact w6 g (by rintro rfl; rw [hpb5] at hc; cases hc)
    · exact hg5.os
    · exact hg5.tape
    · exact hg5.output
    · simpa using hg5.size
    · rw [w6 b k1, b5 b hb k3]
  have HF := Lib.hid hfin
  have hlv : ∃ a0 n0 c0, lv = .slice a0 n0 c0 := h.queue.slice
  clear hs3 hs2 hb3 hw3 hK3 hK2 hm2 b2 hw2 hb4 hw4 hbase hq5 hg5 hne4 b5 hown hfin hll hpb5 hne az
  clear h hv hrow
  unfold stA
  go_enter Tryz.func30, Tryz.ntmps30
  go_wp2
  go_region
  all_goals
    rw [← hw2e, ← hw3e]
    clear hw2e hw3e
    go_wp2_with (at_builtin; refine wpList_append_run (w' := w5) (sv := lv) (xv := .slice (some ⟨w3.heap.size, 0, none⟩) 1 1) (v' := .slice a' n' c') rfl _ _ 36 rfl rfl rfl happ ?_)
    go_end0
    exact ⟨rfl, _, HF.out⟩
end Go.Ck
set_option maxHeartbeats 1600000
namespace Go.Ck
open Go Go.RowKit Go.Proofs
theorem toR_spec {p : Pr} {F : Fn} {w : World} {K : Know} {lv v : Value} {left : List Int} {bad b : Bool} {s : St} {q : Int} (h : RK p F w K lv left bad) (hv : TrV w p.base lv.ownBlock v s.tr) (hs : Small K left) (hlen : s.tr.length ≤ 100000) :
    Calls Tryz.prog 30 #[.pointer (some ⟨p.pb, 0, none⟩), .int .i64 q, stA b s v] w fun e w' => e = .returned (.tuple #[]) ∧ ToPost (toP F.code.length K left (q, s)) p F K lv left bad w w' := by
  by_cases hr : 0 ≤ q ∧ q < F.code.length
  · obtain ⟨qn, rfl⟩ : ∃ qn : Nat, q = qn := ⟨q.toNat, by omega⟩
    cases hk : look K qn with
    | some s' =>
      refine (toR_known h hv (by omega) hk hlen (hs.look hk)).mono fun e w' ⟨h1, h2, h3⟩ => ⟨h1, K, left, lv, _, h2, h3, ?_⟩
      unfold toP
      rw [if_pos hr, hk]
      by_cases e : s' = s
      · exact .inl ⟨by simp [e], by simp [e]⟩
      · exact .inr ⟨by simp [e], rfl, rfl, by simp [e]⟩
    | none =>
      refine (toR_new h hv (by omega) hk hs.left).mono fun e w' ⟨h1, lv', h2, h3⟩ => ⟨h1, _, _, lv', bad, h2, h3, .inl ⟨?_, rfl⟩⟩
      unfold toP
      rw [if_pos hr, hk]
  · have : toP F.code.length K left (q, s) = none := by unfold toP; rw [if_neg hr]
    rw [this]
    exact toR_out h hv hr
theorem ToPost.from {res : Option (Know × List Int)} {p : Pr} {F : Fn} {K : Know} {lv lv0 : Value} {left : List Int} {bad : Bool} {w0 w w' : World} (h : ToPost res p F K lv left bad w w') (hk : Kept p.toPl lv0.ownBlock lv.ownBlock w0 w) : ToPost res p F K lv0 left bad w0 w' := by
  obtain ⟨K', l', lv', bad', h1, h2, h3⟩ := h
  exact ⟨K', l', lv', bad', h1, hk.trans h2, h3⟩
theorem onR_ok {p : Pr} {F : Fn} {w : World} {K : Know} {lv v : Value} {left : List Int} {bad b : Bool} {s : St} {q takes puts : Int} (h : RK p F w K lv left bad) (hv : TrV w p.base lv.ownBlock v s.tr) (hin : ∀ t ∈ s.tr, ∃ s', look K t = some s') (hdom : ∀ p s, look K p = some s → 0 ≤ p ∧ p < F.code.length) (hsm : Small K left) (hlen : s.tr.length ≤ 100000)
    (h0 : 0 ≤ s.h) (h1 : s.h ≤ 1000000000) (t0 : 0 ≤ takes) (t1 : takes ≤ 100000) (p0 : 0 ≤ puts) (p1 : puts ≤ 100000) (q0 : 0 ≤ q) (q1 : q ≤ 100000) :
    Calls Tryz.prog 53 #[.pointer (some ⟨p.pb, 0, none⟩), .int .i64 q, stA b s v, .int .i64 takes, .int .i64 puts] w fun e w' => e = .returned (.tuple #[]) ∧ ToPost (onP F.code.length F.f K left q s takes puts) p F K lv left bad w w' := by
  obtain ⟨a, c, rfl, hlc, hrow⟩ := id hv
  obtain ⟨W2, hW2⟩ : ∃ W2, W2 = w.alloc (.cells #[.bool b, .int .i64 s.h, .slice a s.tr.length c] 93) := ⟨_, rfl⟩
  have hb2 : Below w.heap.size w W2 := by rw [hW2]; exact (Below.refl _ _).alloc (Nat.le_refl _) _
  have hs2 : W2.heap.size = w.heap.size + 1 := by rw [hW2]; simp
  have hw2 := h.grow hb2
  have hv2 := hv.grow hb2
  have hpl := h.pblt
  have d0 : W2.cell? ⟨w.heap.size, 0, none⟩ = some (.bool b) := by rw [hW2]; simp [go_sem]
  have d1 : W2.cell? ⟨w.heap.size, 1, none⟩ = some (.int .i64 s.h) := by rw [hW2]; simp [go_sem]
  have d2 : W2.cell? ⟨w.heap.size, 2, none⟩ = some (.slice a s.tr.length c) := by rw [hW2]; simp [go_sem]
  have d0d : W2.drew.cell? ⟨w.heap.size, 0, none⟩ = some (.bool b) := d0
  have d1d : W2.drew.cell? ⟨w.heap.size, 1, none⟩ = some (.int .i64 s.h) := d1
  have d2d : W2.drew.cell? ⟨w.heap.size, 2, none⟩ = some (.slice a s.tr.length c) := d2
  have hw2d := hw2.grow (Below.refl _ _).drew
  have hv2d := hv2.grow (Below.refl _ _).drew
  have HFL := Lib.hid (floorR_ok (b := b) hw2d hv2d hin hdom hlen)
  have wrap1 : IntKind.i64.wrap (s.h - takes) = s.h - takes := by rw [IntKind.wrap_i64]; omega
  have wrap2 : IntKind.i64.wrap (s.h - takes + puts) = s.h - takes + puts := by rw [IntKind.wrap_i64]; omega
  have wrap3 : IntKind.i64.wrap (q + 1) = q + 1 := by rw [IntKind.wrap_i64]; omega
  have HCL : Hid (∀ x, Below W2.heap.size W2 x → x.cell? ⟨w.heap.size, 0, none⟩ = some (.bool b) ∧ x.cell? ⟨w.heap.size, 1, none⟩ = some (.int .i64 s.h) ∧ x.cell? ⟨w.heap.size, 2, none⟩ = some (.slice a s.tr.length c) ∧ x.frozen? ⟨w.heap.size, 1, none⟩ = false ∧ w.heap.size < x.heap.size) := Lib.hid fun x hx => by
    have hz : W2.frozen? ⟨w.heap.size, 1, none⟩ = false := by rw [hW2]; simp [go_sem]
    have hblk := hx.block w.heap.size (by omega)
    exact ⟨by rw [hx.cell (by exact cell_lt' d0)]; exact d0, by rw [hx.cell (by exact cell_lt' d1)]; exact d1, by rw [hx.cell (by exact cell_lt' d2)]; exact d2, by rw [World.frozen?_of_block (w := W2) (a := ⟨w.heap.size, 1, none⟩) hblk]; exact hz, by have := hx.size; omega⟩
  have HF8 : Hid (∀ x, Below W2.heap.size W2 x → x.cell? ⟨p.pb, 8, none⟩ = some (.bool bad) ∧ x.frozen? ⟨p.pb, 8, none⟩ = false ∧ p.pb < x.heap.size ∧ RK p F (x.setCell ⟨p.pb, 8, none⟩ (.bool true)) K lv left true ∧ Kept p.toPl lv.ownBlock lv.ownBlock w (x.setCell ⟨p.pb, 8, none⟩ (.bool true))) := Lib.hid fun x hx => by
    have := hw2.grow hx
    exact ⟨(this.cells 8).1, (this.cells 8).2, this.pblt, (this.flag true).1, (Kept.of_below (p := p.toPl) (q := lv.ownBlock) (hb2.trans (hx.mono hb2.size))).trans (this.flag true).2⟩
  have HD := Lib.hid ((Below.refl W2.heap.size W2).drew)
  by_cases hf : floorOf F.f K s ≤ s.h - takes
  · have hon : onP F.code.length F.f K left q s takes puts = toP F.code.length K left (q + 1, ⟨s.h - takes + puts, s.tr⟩) := by unfold onP onR; rw [if_pos hf]
    rw [hon]
    have hf' : ¬ (s.h - takes < floorOf F.f K s) := by omega
    have HTO : Hid (∀ x, Below W2.heap.size W2 x → Calls Tryz.prog 30 #[.pointer (some ⟨p.pb, 0, none⟩), .int .i64 (q + 1), .agg #[.bool b, .int .i64 (s.h - takes + puts), .slice a s.tr.length c]] (x.setCell ⟨w.heap.size, 1, none⟩ (.int .i64 (s.h - takes + puts))) fun e w' => e = .returned (.tuple #[]) ∧ ToPost (toP F.code.length K left (q + 1, ⟨s.h - takes + puts, s.tr⟩)) p F K lv left bad w w') := Lib.hid fun x hx => by
      have hbx : Below w.heap.size w (x.setCell ⟨w.heap.size, 1, none⟩ (.int .i64 (s.h - takes + puts))) := (hb2.trans (hx.mono hb2.size)).setCell (Nat.le_refl _) _
      exact (toR_spec (b := b) (s := ⟨s.h - takes + puts, s.tr⟩) (q := q + 1) (h.grow hbx) (hv.grow hbx) hsm hlen).mono fun e w' ⟨k1, k2⟩ => ⟨k1, k2.from (Kept.of_below hbx)⟩
    clear h hv hrow hb2 hw2 hv2 hw2d hv2d hin hdom hsm hon hlc
    unfold stA at HFL ⊢
    go_enter Tryz.func53, Tryz.ntmps53
    go_upto_region 1 with (fail)
    rw [← hW2]
    clear hW2
    go_region_held3 (fun x => x.cell? ⟨w.heap.size, 0, none⟩ = some (.bool b) ∧ x.cell? ⟨w.heap.size, 1, none⟩ = some (.int .i64 s.h) ∧ x.cell? ⟨w.heap.size, 2, none⟩ = some (.slice a s.tr.length c)) ((first | exact ⟨d0d, d1d, d2d⟩ | (have hh := HCL.out _ (HD.out.trans (‹Hid (Below W2.heap.size W2.drew _)›).out); exact ⟨hh.1, hh.2.1, hh.2.2.1⟩)))
      ((first | (go_at_call 54; refine HFL.out.mono ?_; rintro e w3 ⟨rfl, hb3⟩; have HB3 := Lib.hid (show Below W2.heap.size W2.drew w3 from hb3); clear hb3)))
    all_goals
      have HB3 := ‹Hid (Below W2.heap.size W2.drew _)›
      obtain ⟨y0, y1, y2, y3, y4⟩ := HCL.out _ (HD.out.trans HB3.out)
      have HT3 := Lib.hid (HTO.out _ (HD.out.trans HB3.out))
      clear HTO HF8 HCL
      go_wp2_with (go_at_call 30; refine HT3.out.mono ?_; rintro e w5 ⟨rfl, hp⟩; have HP := Lib.hid hp; clear hp)
      go_end0
      exact ⟨rfl, HP.out⟩
  · have hon : onP F.code.length F.f K left q s takes puts = none := by unfold onP onR; rw [if_neg hf]
    rw [hon]
    have hf' : s.h - takes < floorOf F.f K s := by omega
    clear h hv hrow hb2 hw2 hv2 hw2d hv2d hin hdom hsm hon hlc
    unfold stA at HFL ⊢
    go_enter Tryz.func53, Tryz.ntmps53
    go_upto_region 1 with (fail)
    rw [← hW2]
    clear hW2
    go_region_held3 (fun x => x.cell? ⟨w.heap.size, 0, none⟩ = some (.bool b) ∧ x.cell? ⟨w.heap.size, 1, none⟩ = some (.int .i64 s.h) ∧ x.cell? ⟨w.heap.size, 2, none⟩ = some (.slice a s.tr.length c)) ((first | exact ⟨d0d, d1d, d2d⟩ | (have hh := HCL.out _ (HD.out.trans (‹Hid (Below W2.heap.size W2.drew _)›).out); exact ⟨hh.1, hh.2.1, hh.2.2.1⟩)))
      ((first | (go_at_call 54; refine HFL.out.mono ?_; rintro e w3 ⟨rfl, hb3⟩; have HB3 := Lib.hid (show Below W2.heap.size W2.drew w3 from hb3); clear hb3)))
    all_goals
      have HB3 := ‹Hid (Below W2.heap.size W2.drew _)›
      obtain ⟨y8, y9, y10, k1, k2⟩ := HF8.out _ (HD.out.trans HB3.out)
      have HK := Lib.hid (And.intro k1 k2)
      clear HF8 HCL k1 k2
      go_wp2
      ((try simp only [Exit.inBlock, Exit.then]); refine bodyPost_ret (results_none rfl _ _ _) rfl ?_)
      exact ⟨rfl, _, _, _, _, HK.out.1, HK.out.2, .inr ⟨rfl, rfl, rfl, rfl⟩⟩
end Go.Ck
namespace Go.Ck
open Go Go.RowKit Go.Proofs
def StepR (res : Option (Know × List Int)) (p : Pr) (F : Fn) (lv : Value) (w w' : World) : Prop :=
  ∃ K' l' lv' bad', RK p F w' K' lv' l' bad' ∧ Kept p.toPl lv.ownBlock lv'.ownBlock w w' ∧ ((res = some (K', l') ∧ bad' = false) ∨ (res = none ∧ bad' = true))
theorem ToPost.step {res : Option (Know × List Int)} {p : Pr} {F : Fn} {K : Know} {lv : Value} {left : List Int} {w w' : World} (h : ToPost res p F K lv left false w w') : StepR res p F lv w w' := by
  obtain ⟨K', l', lv', bad', h1, h2, h3⟩ := h
  exact ⟨K', l', lv', bad', h1, h2, h3.imp (fun h => h) (fun h => ⟨h.1, h.2.2.2⟩)⟩
theorem ToPost.stepNone {res : Option (Know × List Int)} {p : Pr} {F : Fn} {K : Know} {lv : Value} {left : List Int} {w w' : World} (h : ToPost res p F K lv left true w w') : StepR none p F lv w w' := by
  obtain ⟨K', l', lv', bad', h1, h2, h3⟩ := h
  exact ⟨K', l', lv', bad', h1, h2, .inr ⟨rfl, h3.elim (fun h => h.2) (fun h => h.2.2.2)⟩⟩
theorem StepR.from {res : Option (Know × List Int)} {p : Pr} {F : Fn} {lv lv0 : Value} {w0 w w' : World} (h : StepR res p F lv w w') (hk : Kept p.toPl lv0.ownBlock lv.ownBlock w0 w) : StepR res p F lv0 w0 w' := by
  obtain ⟨K', l', lv', bad', h1, h2, h3⟩ := h
  exact ⟨K', l', lv', bad', h1, hk.trans h2, h3⟩
structure CodeAt (p : Pr) (F : Fn) (w : World) (qn : Nat) (x : Ins) (g1 o1 m fc cg co cc : Nat) : Prop where
  funs : p.funs = .slice (some ⟨g1, o1, none⟩) m fc
  f : F.f < m
  m : m ≤ 60000
  row : w.cell? ⟨g1, o1 + F.f, none⟩ = some (.slice (some ⟨cg, co, none⟩) F.code.length cc)
  i0 : w.cell? ⟨cg, co + qn * 5, none⟩ = some (.int .u8 x.op)
  i1 : w.cell? ⟨cg, co + qn * 5 + 1, none⟩ = some (.int .i64 x.a)
  i2 : w.cell? ⟨cg, co + qn * 5 + 2, none⟩ = some (.int .i64 x.b)
  i3 : w.cell? ⟨cg, co + qn * 5 + 3, none⟩ = some (.int .i64 x.c)
  i4 : w.cell? ⟨cg, co + qn * 5 + 4, none⟩ = some (.string x.t)
structure PreR (p : Pr) (F : Fn) (w : World) (K : Know) (lv : Value) (left : List Int) (s : St) (qn : Nat) (x : Ins) (N : Nat) : Prop where
  rk : RK p F w K lv left false
  hs : look K qn = some s
  q1 : qn < F.code.length
  qb : qn ≤ 90000
  ins : ∀ t ∈ s.tr, ∃ s', look K t = some s'
  dom : ∀ p s, look K p = some s → 0 ≤ p ∧ p < F.code.length
  sm : SmallN N K left
  n : N ≤ 90000
  len : s.tr.length ≤ N
  h0 : 0 ≤ s.h
  h1 : s.h ≤ 900000000
  x : InsN x
  hts : ∀ e ∈ K, 0 ≤ e.2.h ∧ e.2.h ≤ 900000000
def boxes (w : World) (s : St) (v : Value) (x : Ins) : World := (w.alloc (.cells #[.bool true, .int .i64 s.h, v] 93)).alloc (.cells #[.int .u8 x.op, .int .i64 x.a, .int .i64 x.b, .int .i64 x.c, .string x.t] 48)
end Go.Ck
namespace Go.Ck
open Go Go.RowKit Go.Proofs
theorem RK.own_lt {p : Pr} {F : Fn} {w : World} {K : Know} {lv : Value} {left : List Int} {bad : Bool} (h : RK p F w K lv left bad) : ∀ k, lv.ownBlock = some k → k < w.heap.size := fun k hk => by obtain ⟨_, cur, hc⟩ := h.queue.own_lt hk; exact (Array.getElem?_eq_some_iff.1 hc).1
theorem Kept.boxes {p : Pr} {F : Fn} {w W2 w' : World} {K : Know} {lv : Value} {left : List Int} {bad : Bool} {q' : Option Nat} (h : RK p F w K lv left bad) (hs : W2.heap.size = w.heap.size + 1 + 1) (hk : Kept p.toPl lv.ownBlock q' W2 w') :
    w'.heap[w.heap.size]? = W2.heap[w.heap.size]? ∧ w'.heap[w.heap.size + 1]? = W2.heap[w.heap.size + 1]? := by
  have pl := h.pblt
  have ml := h.mlt
  have keep : ∀ b, w.heap.size ≤ b → b < W2.heap.size → w'.heap[b]? = W2.heap[b]? := fun b hb hb' => hk.block b hb' (by omega) (by omega) (fun e => by have := h.own_lt _ e.symm; omega)
  exact ⟨keep _ (Nat.le_refl _) (by omega), keep _ (by omega) (by omega)⟩
theorem RK.box {p : Pr} {F : Fn} {w : World} {K : Know} {lv : Value} {left : List Int} {bad : Bool} (h : RK p F w K lv left bad) {b : Nat} {cs : Array Value} (hb : w.heap[b]? = some (.cells cs 93 (0, 0))) (hne : b ≠ p.m) (i : Nat) (u : Value) : RK p F (w.setCell ⟨b, i, none⟩ u) K lv left bad := by
  have w6 : ∀ g, g ≠ b → (w.setCell ⟨b, i, none⟩ u).heap[g]? = w.heap[g]? := fun g hg => heap_setCell_other w ⟨b, i, none⟩ g _ hg
  refine ⟨(w6 _ (by rintro rfl; rw [h.blk] at hb; cases hb)).trans h.blk, h.pbge, h.mge, h.known.mono (w6 _ (Ne.symm hne)) fun g cur k1 k2 k3 => ⟨(w6 g (by rintro rfl; rw [hb] at k3; cases k3)).trans k3, k2⟩, h.queue.mono fun g hg => w6 g ?_, h.n⟩
  rintro rfl
  obtain ⟨_, cur, hc⟩ := h.queue.own_lt hg
  rw [hb] at hc; cases hc
theorem TrV.boxR {w : World} {base : Nat} {q : Option Nat} {v : Value} {l : List Int} (h : TrV w base q v l) {b : Nat} {cs : Array Value} (hb : w.heap[b]? = some (.cells cs 93 (0, 0))) (i : Nat) (u : Value) : TrV (w.setCell ⟨b, i, none⟩ u) base q v l :=
  h.mono fun g cur k1 k2 k3 => ⟨(heap_setCell_other w ⟨b, i, none⟩ g _ (by rintro rfl; rw [hb] at k3; cases k3)).trans k3, k2⟩
theorem cells_of_heap {w' W2 : World} {b : Nat} (h : w'.heap[b]? = W2.heap[b]?) (i : Nat) : w'.cell? ⟨b, i, none⟩ = W2.cell? ⟨b, i, none⟩ ∧ w'.frozen? ⟨b, i, none⟩ = W2.frozen? ⟨b, i, none⟩ := ⟨World.cell?_of_block (a := ⟨b, i, none⟩) h, World.frozen?_of_block (a := ⟨b, i, none⟩) h⟩
def StepOKR (op : Int) : Prop := ∀ (p : Pr) (F : Fn) (w : World) (K : Know) (lv : Value) (left : List Int) (s : St) (qn N g1 o1 m fc cg co cc : Nat) (xa xb xc : Int) (xt : ByteArray), CodeAt p F w qn ⟨op, xa, xb, xc, xt⟩ g1 o1 m fc cg co cc → PreR p F w K lv left s qn ⟨op, xa, xb, xc, xt⟩ N →
    Calls Tryz.prog 31 #[.pointer (some ⟨p.pb, 0, none⟩), .int .i64 qn] w fun e w' => e = .returned (.tuple #[]) ∧ StepR (stepX F K left qn ⟨op, xa, xb, xc, xt⟩ s) p F lv w w'
theorem headR {p : Pr} {F : Fn} {w : World} {K : Know} {lv : Value} {left : List Int} {s : St} {qn N g1 o1 m fc cg co cc : Nat} {x : Ins} (C : CodeAt p F w qn x g1 o1 m fc cg co cc) (H : PreR p F w K lv left s qn x N) :
    ∃ a c W2, W2 = ((w.alloc (.cells #[.bool true, .int .i64 s.h, .slice a s.tr.length c] 93)).alloc (.cells #[.int .u8 x.op, .int .i64 x.a, .int .i64 x.b, .int .i64 x.c, .string x.t] 48)).drew ∧ TrV w p.base lv.ownBlock (.slice a s.tr.length c) s.tr ∧ s.tr.length ≤ c ∧
      (w.cell? ⟨p.pb, 0, none⟩ = some (.slice (some ⟨g1, o1, none⟩) m fc) ∧ w.cell? ⟨p.pb, 2, none⟩ = some (.int .i64 F.f) ∧ w.cell? ⟨p.pb, 6, none⟩ = some (.slice (some ⟨p.m, 0, none⟩) F.code.length F.code.length) ∧ w.cell? ⟨p.m, qn * 3, none⟩ = some (.bool true) ∧ w.cell? ⟨p.m, qn * 3 + 1, none⟩ = some (.int .i64 s.h) ∧ w.cell? ⟨p.m, qn * 3 + 2, none⟩ = some (.slice a s.tr.length c)) ∧
      ((F.f : Int) < (m : Int) ∧ (0 : Int) ≤ (F.f : Int) ∧ (m : Int) ≤ 60000 ∧ (qn : Int) < (F.code.length : Int) ∧ (0 : Int) ≤ (qn : Int) ∧ (F.code.length : Int) ≤ 100000) ∧ (p.pb < w.heap.size ∧ p.m < w.heap.size ∧ g1 < w.heap.size ∧ cg < w.heap.size) ∧
      (Below w.heap.size w W2 ∧ W2.heap.size = w.heap.size + 1 + 1 ∧ RK p F W2 K lv left false ∧ TrV W2 p.base lv.ownBlock (.slice a s.tr.length c) s.tr ∧ Kept p.toPl lv.ownBlock lv.ownBlock w W2 ∧ p.base ≤ w.heap.size) ∧
      (W2.cell? ⟨w.heap.size, 0, none⟩ = some (.bool true) ∧ W2.cell? ⟨w.heap.size, 1, none⟩ = some (.int .i64 s.h) ∧ W2.cell? ⟨w.heap.size, 2, none⟩ = some (.slice a s.tr.length c) ∧ W2.frozen? ⟨w.heap.size, 1, none⟩ = false ∧ w.heap.size < W2.heap.size) ∧
      (W2.cell? ⟨w.heap.size + 1, 0, none⟩ = some (.int .u8 x.op) ∧ W2.cell? ⟨w.heap.size + 1, 1, none⟩ = some (.int .i64 x.a) ∧ W2.cell? ⟨w.heap.size + 1, 2, none⟩ = some (.int .i64 x.b) ∧ W2.cell? ⟨w.heap.size + 1, 3, none⟩ = some (.int .i64 x.c) ∧ W2.cell? ⟨w.heap.size + 1, 4, none⟩ = some (.string x.t)) ∧
      p.pb < W2.heap.size ∧ W2.cell? ⟨p.pb, 2, none⟩ = some (.int .i64 F.f) ∧ W2.cell? ⟨p.pb, 4, none⟩ = some (.int .i64 F.gb) ∧ W2.cell? ⟨p.pb, 5, none⟩ = some (.int .i64 F.gc) ∧ W2.cell? ⟨p.pb, 6, none⟩ = some (.slice (some ⟨p.m, 0, none⟩) F.code.length F.code.length) ∧ W2.cell? ⟨p.pb, 8, none⟩ = some (.bool false) ∧ W2.frozen? ⟨p.pb, 8, none⟩ = false := by
  obtain ⟨h, hs, q1, qb, hin, hdom, hsm, hN, hlen, h0, h1, hx, hts⟩ := H
  obtain ⟨cf, cf1, cm, c0, x0, x1, x2, x3, x4⟩ := C
  obtain ⟨v, hv, s0, s1, s2⟩ := h.at q1 hs
  obtain ⟨a, c, rfl, hlc, _⟩ := id hv
  have hn := h.n
  have hb2 : Below w.heap.size w ((w.alloc (.cells #[.bool true, .int .i64 s.h, .slice a s.tr.length c] 93)).alloc (.cells #[.int .u8 x.op, .int .i64 x.a, .int .i64 x.b, .int .i64 x.c, .string x.t] 48)).drew := (((Below.refl _ _).alloc (Nat.le_refl _) _).alloc (by simp) _).drew
  have hw2 := h.grow hb2
  exact ⟨a, c, _, rfl, hv, hlc, ⟨by rw [(h.cells 0).1, ← cf]; rfl, (h.cells 2).1, (h.cells 6).1, s0, s1, s2⟩, ⟨by omega, by omega, by omega, by omega, by omega, by omega⟩, ⟨h.pblt, h.mlt, cell_lt' c0, cell_lt' x0⟩,
    ⟨hb2, by simp, hw2, hv.grow hb2, Kept.of_below hb2, h.base_lt⟩, ⟨by simp [go_sem], by simp [go_sem], by simp [go_sem], by simp [go_sem], by simp; omega⟩, ⟨by simp [go_sem], by simp [go_sem], by simp [go_sem], by simp [go_sem], by simp [go_sem]⟩,
    hw2.pblt, (hw2.cells 2).1, (hw2.cells 4).1, (hw2.cells 5).1, (hw2.cells 6).1, (hw2.cells 8).1, (hw2.cells 8).2⟩
end Go.Ck
