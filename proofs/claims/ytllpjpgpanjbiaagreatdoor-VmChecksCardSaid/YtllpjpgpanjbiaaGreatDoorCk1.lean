/- The plain law of two ways round a worklist, and how the program's walk over a function's code lies in memory, walked by hand. Each says its own conditions. -/
import Derived.Test.YtllpjpgpanjbiaaGreatDoorProg
import Derived.WalkKit
import Derived.MapKept
import Derived.Below
import Derived.Handy
import Derived.LoopTactic
import Derived.Lib.Hide
import Derived.Deep.RegionHeld3
import Derived.Deep.RegionWith
import Derived.Laws.AppendOwn
import Derived.Laws.OwnMore
import Derived.Maps.AppendAt
import Derived.Carry
import Derived.WalkSmall
import Derived.Laws.Cover3
set_option linter.unusedVariables false
set_option linter.unusedSimpArgs false
namespace Go.Ck
structure Ins where
  op : Int
  a : Int
  b : Int
  c : Int
  t : ByteArray
structure St where
  h : Int
  tr : List Int
deriving DecidableEq
def t1 : List (List UInt8) := [[112, 114, 105, 110, 116], [105, 116, 111, 115], [115, 105, 122, 101], [110, 111, 116], [114, 101, 102], [108, 101, 110], [99, 111, 109, 109, 105, 116], [97, 98, 111, 114, 116], [126], [33]]
def t2 : List (List UInt8) := [[115, 97, 109, 101], [97, 114, 114, 97, 121], [103, 101, 116], [43], [45], [42], [100, 105, 118], [109, 111, 100], [60], [60, 61], [62], [62, 61], [61], [60, 62], [94], [58, 61]]
def t3 : List (List UInt8) := [[112, 117, 116]]
def takesN (s : ByteArray) : Int := if s.data.toList ∈ t1 then 1 else if s.data.toList ∈ t2 then 2 else if s.data.toList ∈ t3 then 3 else 0
def isPrim (s : ByteArray) : Bool := decide (s.data.toList ∈ t1) || decide (s.data.toList ∈ t2) || decide (s.data.toList ∈ t3)
abbrev Know := List (Int × St)
def look (K : Know) (p : Int) : Option St := (K.find? fun e => e.1 == p).map (·.2)
def least (f : Nat) : Int := if f = 0 then 0 else 1
def hAt (K : Know) (p : Int) : Int := ((look K p).map (·.h)).getD 0
def lastH (K : Know) (s : St) : Option Int := s.tr.getLast?.map (hAt K)
def floorOf (f : Nat) (K : Know) (s : St) : Int := match lastH K s with | none => least f | some h => max (least f) h
def onR (f : Nat) (K : Know) (at_ : Int) (s : St) (takes puts : Int) : Option (Int × St) := if floorOf f K s ≤ s.h - takes then some (at_ + 1, ⟨s.h - takes + puts, s.tr⟩) else none
def moves (x : Ins) : Int × Int :=
  if x.op = 6 then (x.c, x.b) else if x.op = 7 then (2, 1) else if x.op = 11 then (x.a, 1) else if x.op = 12 ∨ x.op = 14 ∨ x.op = 15 then (1, 1)
  else if x.op = 13 ∨ x.op = 22 then (x.b, 1) else if x.op = 16 then (takesN x.t, 1) else if x.op = 20 then (x.a + 1, 1) else if x.op = 21 then (1, 0) else (0, 1)
def one (o : Option (Int × St)) : Option (List (Int × St)) := o.map fun e => [e]
def stepR (f : Nat) (gb gc : Int) (K : Know) (at_ : Int) (x : Ins) (s : St) : Option (List (Int × St)) :=
  if x.op = 3 then if x.a < s.h then one (onR f K at_ s 0 1) else none
  else if x.op = 4 then if x.a < gc then one (onR f K at_ s 0 1) else none
  else if x.op = 5 then if x.a < gb then one (onR f K at_ s 0 1) else none
  else if x.op = 8 then if 0 < f ∧ s.h = 2 ∧ s.tr = [] then some [] else none
  else if x.op = 25 then if f = 0 ∧ s.tr = [] then some [] else none
  else if x.op = 17 then if floorOf f K s ≤ s.h - 1 then some [] else none
  else if x.op = 9 then some [(x.a, s)]
  else if x.op = 10 then (onR f K at_ s 1 0).map fun e => [e, (x.a, e.2)]
  else if x.op = 18 then some [(at_ + 1, ⟨s.h, s.tr ++ [at_]⟩), (x.a, ⟨s.h + 1, s.tr⟩)]
  else if x.op = 19 then match lastH K s with | none => none | some h => if s.h = h + 1 then some [(at_ + 1, ⟨s.h, s.tr.dropLast⟩)] else none
  else if x.op = 23 then if f = 0 then some [(at_ + 1, s), (x.b, ⟨s.h + 1, s.tr⟩)] else none
  else if x.op = 24 then if f = 0 then one (onR f K at_ s 1 1) else none
  else one (onR f K at_ s (moves x).1 (moves x).2)
def toP (n : Nat) (K : Know) (left : List Int) (e : Int × St) : Option (Know × List Int) :=
  if 0 ≤ e.1 ∧ e.1 < n then match look K e.1 with
    | some s => if s = e.2 then some (K, left) else none
    | none => some (K ++ [e], left ++ [e.1])
  else none
def toAll (n : Nat) : Know → List Int → List (Int × St) → Option (Know × List Int)
  | K, left, [] => some (K, left)
  | K, left, e :: es => match toP n K left e with | none => none | some (K', l') => toAll n K' l' es
structure Fn where
  f : Nat
  gb : Int
  gc : Int
  code : List Ins
def init (F : Fn) : Int × St := (0, ⟨least F.f, []⟩)
def stepP (F : Fn) (K : Know) (left : List Int) (p : Int) : Option (Know × List Int) :=
  match F.code[p.toNat]?, look K p with
  | some x, some s => match stepR F.f F.gb F.gc K p x s with | none => none | some l => toAll F.code.length K left l
  | _, _ => none
def Closed (F : Fn) (K : Know) (p : Int) (s : St) : Prop := ∃ x l, 0 ≤ p ∧ p < F.code.length ∧ F.code[p.toNat]? = some x ∧ stepR F.f F.gb F.gc K p x s = some l ∧ ∀ e ∈ l, look K e.1 = some e.2
def Good (F : Fn) : Prop := ∃ K : Know, look K 0 = some (init F).2 ∧ ∀ p s, look K p = some s → Closed F K p s
def Sub (K K' : Know) : Prop := ∀ p s, look K p = some s → look K' p = some s
structure Inv (F : Fn) (K : Know) (todo : List Int) : Prop where
  ini : look K 0 = some (init F).2
  dom : ∀ p s, look K p = some s → 0 ≤ p ∧ p < F.code.length
  tri : ∀ p s, look K p = some s → ∀ t ∈ s.tr, ∃ s', look K t = some s'
  clo : ∀ p s, look K p = some s → p ∈ todo ∨ Closed F K p s
  mem : ∀ p ∈ todo, ∃ s, look K p = some s
  min : ∀ K', look K' 0 = some (init F).2 → (∀ p s, look K' p = some s → Closed F K' p s) → Sub K K'
theorem look_append (K : Know) (e : Int × St) (p : Int) : look (K ++ [e]) p = (look K p).or (if e.1 = p then some e.2 else none) := by
  unfold look
  rw [List.find?_append]
  cases h : K.find? (fun e => e.1 == p) with
  | some y => simp
  | none =>
    simp only [Option.none_or, Option.map_none]
    by_cases he : e.1 = p
    · simp [he]
    · simp [he]
theorem sub_append {K : Know} {e : Int × St} : Sub K (K ++ [e]) := fun p s h => by rw [look_append, h]; rfl
theorem hAt_sub {K K' : Know} (h : Sub K K') {t : Int} {s : St} (ht : look K t = some s) : hAt K' t = hAt K t := by
  unfold hAt; rw [ht, h _ _ ht]
theorem getLast_mem {l : List Int} {t : Int} (h : l.getLast? = some t) : t ∈ l := List.mem_of_getLast? h
theorem last_sub {K K' : Know} (h : Sub K K') {s : St} (ht : ∀ t ∈ s.tr, ∃ s', look K t = some s') : lastH K' s = lastH K s := by
  unfold lastH
  cases hl : s.tr.getLast? with
  | none => rfl
  | some t =>
    obtain ⟨s', hs⟩ := ht t (getLast_mem hl)
    simp only [Option.map_some, hAt_sub h hs]
theorem floor_sub {f : Nat} {K K' : Know} (h : Sub K K') {s : St} (ht : ∀ t ∈ s.tr, ∃ s', look K t = some s') : floorOf f K' s = floorOf f K s := by
  unfold floorOf
  rw [last_sub h ht]
theorem stepR_sub {f : Nat} {gb gc : Int} {K K' : Know} (h : Sub K K') {p : Int} {x : Ins} {s : St} (ht : ∀ t ∈ s.tr, ∃ s', look K t = some s') : stepR f gb gc K' p x s = stepR f gb gc K p x s := by
  unfold stepR onR
  rw [floor_sub (f := f) h ht, last_sub h ht]
theorem stepR_tries {f : Nat} {gb gc : Int} {K : Know} {p : Int} {x : Ins} {s : St} {l : List (Int × St)} (hk : ∃ s', look K p = some s') (ht : ∀ t ∈ s.tr, ∃ s', look K t = some s') (hs : stepR f gb gc K p x s = some l) :
    ∀ e ∈ l, ∀ t ∈ e.2.tr, ∃ s', look K t = some s' := by
  have hon : ∀ takes puts e, onR f K p s takes puts = some e → e.2.tr = s.tr := fun takes puts e he => by
    unfold onR at he
    split at he
    · cases he; rfl
    · cases he
  have hone : ∀ takes puts l, one (onR f K p s takes puts) = some l → ∀ e ∈ l, e.2.tr = s.tr := fun takes puts l hl e he => by
    unfold one at hl
    obtain ⟨y, hy, rfl⟩ := Option.map_eq_some_iff.1 hl
    obtain rfl := List.mem_singleton.1 he
    exact hon _ _ _ hy
  have key : ∀ e ∈ l, e.2.tr = s.tr ∨ e.2.tr = s.tr ++ [p] ∨ e.2.tr = s.tr.dropLast := by
    unfold stepR at hs
    intro e he
    by_cases o3 : x.op = 3
    · rw [if_pos o3] at hs
      split at hs
      · exact .inl (hone _ _ _ hs e he)
      · cases hs
    rw [if_neg o3] at hs
    by_cases o4 : x.op = 4
    · rw [if_pos o4] at hs
      split at hs
      · exact .inl (hone _ _ _ hs e he)
      · cases hs
    rw [if_neg o4] at hs
    by_cases o5 : x.op = 5
    · rw [if_pos o5] at hs
      split at hs
      · exact .inl (hone _ _ _ hs e he)
      · cases hs
    rw [if_neg o5] at hs
    by_cases o8 : x.op = 8
    · rw [if_pos o8] at hs
      split at hs
      · cases hs; cases he
      · cases hs
    rw [if_neg o8] at hs
    by_cases o25 : x.op = 25
    · rw [if_pos o25] at hs
      split at hs
      · cases hs; cases he
      · cases hs
    rw [if_neg o25] at hs
    by_cases o17 : x.op = 17
    · rw [if_pos o17] at hs
      split at hs
      · cases hs; cases he
      · cases hs
    rw [if_neg o17] at hs
    by_cases o9 : x.op = 9
    · rw [if_pos o9] at hs
      cases hs
      obtain rfl := List.mem_singleton.1 he
      exact .inl rfl
    rw [if_neg o9] at hs
    by_cases o10 : x.op = 10
    · rw [if_pos o10] at hs
      obtain ⟨y, hy, rfl⟩ := Option.map_eq_some_iff.1 hs
      have := hon _ _ _ hy
      simp only [List.mem_cons, List.not_mem_nil, or_false] at he
      rcases he with rfl | rfl
      · exact .inl this
      · exact .inl this
    rw [if_neg o10] at hs
    by_cases o18 : x.op = 18
    · rw [if_pos o18] at hs
      cases hs
      simp only [List.mem_cons, List.not_mem_nil, or_false] at he
      rcases he with rfl | rfl
      · exact .inr (.inl rfl)
      · exact .inl rfl
    rw [if_neg o18] at hs
    by_cases o19 : x.op = 19
    · rw [if_pos o19] at hs
      split at hs
      · cases hs
      · split at hs
        · cases hs
          obtain rfl := List.mem_singleton.1 he
          exact .inr (.inr rfl)
        · cases hs
    rw [if_neg o19] at hs
    by_cases o23 : x.op = 23
    · rw [if_pos o23] at hs
      split at hs
      · cases hs
        simp only [List.mem_cons, List.not_mem_nil, or_false] at he
        rcases he with rfl | rfl
        · exact .inl rfl
        · exact .inl rfl
      · cases hs
    rw [if_neg o23] at hs
    by_cases o24 : x.op = 24
    · rw [if_pos o24] at hs
      split at hs
      · exact .inl (hone _ _ _ hs e he)
      · cases hs
    rw [if_neg o24] at hs
    exact .inl (hone _ _ _ hs e he)
  intro e he t hte
  rcases key e he with h | h | h
  · rw [h] at hte; exact ht t hte
  · rw [h] at hte
    rcases List.mem_append.1 hte with h' | h'
    · exact ht t h'
    · obtain rfl := List.mem_singleton.1 h'; exact hk
  · rw [h] at hte; exact ht t (List.dropLast_subset _ hte)
theorem closed_sub {F : Fn} {K K' : Know} (h : Sub K K') {p : Int} {s : St} (ht : ∀ t ∈ s.tr, ∃ s', look K t = some s') (hc : Closed F K p s) : Closed F K' p s := by
  obtain ⟨x, l, h1, h2, h3, h4, h5⟩ := hc
  exact ⟨x, l, h1, h2, h3, by rw [stepR_sub h ht]; exact h4, fun e he => h _ _ (h5 e he)⟩
theorem Inv.to {F : Fn} {K : Know} {todo : List Int} (hI : Inv F K todo) {e : Int × St} (ht : ∀ t ∈ e.2.tr, ∃ s', look K t = some s') (hm : ∀ K', look K' 0 = some (init F).2 → (∀ p s, look K' p = some s → Closed F K' p s) → look K' e.1 = some e.2) {left : List Int} :
    (∃ K' l', toP F.code.length K left e = some (K', l') ∧ Sub K K' ∧ look K' e.1 = some e.2 ∧ ((K' = K ∧ l' = left) ∨ (K' = K ++ [e] ∧ l' = left ++ [e.1] ∧ look K e.1 = none)) ∧ ∀ todo', (∀ p ∈ todo, p ∈ todo') → (∀ p ∈ todo', p ∈ todo ∨ p = e.1) → (l' ≠ left → e.1 ∈ todo') → Inv F K' todo') ∨ (toP F.code.length K left e = none ∧ ¬ Good F) := by
  unfold toP
  by_cases hr : 0 ≤ e.1 ∧ e.1 < F.code.length
  · rw [if_pos hr]
    cases hl : look K e.1 with
    | some s =>
      by_cases hs : s = e.2
      · refine .inl ⟨K, left, by simp [hs], fun _ _ h => h, by rw [hl, hs], .inl ⟨rfl, rfl⟩, fun todo' h1 h2 h3 => ?_⟩
        exact ⟨hI.ini, hI.dom, hI.tri, fun p s h => (hI.clo p s h).imp_left (h1 p), fun p hp => by
          rcases h2 p hp with h | rfl
          · exact hI.mem p h
          · exact ⟨_, hl⟩, hI.min⟩
      · refine .inr ⟨by simp [hs], fun ⟨K', g1, g2⟩ => hs ?_⟩
        have := hI.min K' g1 g2 _ _ hl
        rw [hm K' g1 g2] at this
        exact (Option.some.inj this).symm
    | none =>
      have hnew : look (K ++ [e]) e.1 = some e.2 := by rw [look_append, hl]; simp
      have hold : ∀ p s, look (K ++ [e]) p = some s → look K p = some s ∨ (p = e.1 ∧ s = e.2) := fun p s h => by
        rw [look_append] at h
        cases hk : look K p with
        | some y => rw [hk] at h; exact .inl h
        | none =>
          rw [hk] at h
          by_cases he : e.1 = p
          · rw [if_pos he] at h; exact .inr ⟨he.symm, (Option.some.inj h).symm⟩
          · rw [if_neg he] at h; cases h
      refine .inl ⟨K ++ [e], left ++ [e.1], rfl, sub_append, hnew, .inr ⟨rfl, rfl, rfl⟩, fun todo' h1 h2 h3 => ?_⟩
      have hin : e.1 ∈ todo' := h3 (by simp)
      refine ⟨sub_append _ _ hI.ini, fun p s h => ?_, fun p s h t htt => ?_, fun p s h => ?_, fun p hp => ?_, fun K' g1 g2 p s h => ?_⟩
      · rcases hold p s h with h | ⟨rfl, rfl⟩
        · exact hI.dom p s h
        · exact hr
      · rcases hold p s h with h | ⟨rfl, rfl⟩
        · obtain ⟨s', hs'⟩ := hI.tri p s h t htt
          exact ⟨s', sub_append _ _ hs'⟩
        · obtain ⟨s', hs'⟩ := ht t htt
          exact ⟨s', sub_append _ _ hs'⟩
      · rcases hold p s h with h | ⟨rfl, rfl⟩
        · rcases hI.clo p s h with h' | h'
          · exact .inl (h1 p h')
          · exact .inr (closed_sub sub_append (hI.tri p s h) h')
        · exact .inl hin
      · rcases h2 p hp with h | rfl
        · obtain ⟨s, hs⟩ := hI.mem p h
          exact ⟨s, sub_append _ _ hs⟩
        · exact ⟨_, hnew⟩
      · rcases hold p s h with h | ⟨rfl, rfl⟩
        · exact hI.min K' g1 g2 p s h
        · exact hm K' g1 g2
  · rw [if_neg hr]
    refine .inr ⟨rfl, fun ⟨K', g1, g2⟩ => hr ?_⟩
    obtain ⟨x, l, h1, h2, _⟩ := g2 _ _ (hm K' g1 g2)
    exact ⟨h1, h2⟩
end Go.Ck
namespace Go.Ck
theorem toAll_ok {F : Fn} {p : Int} : ∀ (es : List (Int × St)) (K : Know) (left : List Int), Inv F K (p :: left) → (∀ e ∈ es, ∀ t ∈ e.2.tr, ∃ s', look K t = some s') →
    (∀ e ∈ es, ∀ K', look K' 0 = some (init F).2 → (∀ p s, look K' p = some s → Closed F K' p s) → look K' e.1 = some e.2) →
    (∃ K' l', toAll F.code.length K left es = some (K', l') ∧ Sub K K' ∧ Inv F K' (p :: l') ∧ (∀ e ∈ es, look K' e.1 = some e.2) ∧ ∀ q ∈ left, q ∈ l') ∨ (toAll F.code.length K left es = none ∧ ¬ Good F)
  | [], K, left, hI, _, _ => .inl ⟨K, left, rfl, fun _ _ h => h, hI, fun e he => (by cases he), fun _ h => h⟩
  | e :: es, K, left, hI, ht, hm => by
    rcases hI.to (ht e List.mem_cons_self) (hm e List.mem_cons_self) (left := left) with ⟨K1, l1, h1, h2, h3, h4, h5⟩ | ⟨h1, h2⟩
    · have hmem : ∀ q ∈ left, q ∈ l1 := fun q hq => by
        rcases h4 with ⟨_, rfl⟩ | ⟨_, rfl, _⟩
        · exact hq
        · exact List.mem_append_left _ hq
      have hI1 : Inv F K1 (p :: l1) := h5 (p :: l1) (fun q hq => by
        rcases List.mem_cons.1 hq with rfl | hq
        · exact List.mem_cons_self
        · exact List.mem_cons_of_mem _ (hmem q hq)) (fun q hq => by
        rcases List.mem_cons.1 hq with rfl | hq
        · exact .inl List.mem_cons_self
        · rcases h4 with ⟨_, rfl⟩ | ⟨_, rfl, _⟩
          · exact .inl (List.mem_cons_of_mem _ hq)
          · rcases List.mem_append.1 hq with hq | hq
            · exact .inl (List.mem_cons_of_mem _ hq)
            · exact .inr (List.mem_singleton.1 hq)) (fun hne => by
        rcases h4 with ⟨_, rfl⟩ | ⟨_, rfl, _⟩
        · exact absurd rfl hne
        · simp)
      rcases toAll_ok es K1 l1 hI1 (fun e' he' t htt => by
          obtain ⟨s', hs'⟩ := ht e' (List.mem_cons_of_mem _ he') t htt
          exact ⟨s', h2 _ _ hs'⟩) (fun e' he' => hm e' (List.mem_cons_of_mem _ he')) with ⟨K2, l2, g1, g2, g3, g4, g5⟩ | ⟨g1, g2⟩
      · refine .inl ⟨K2, l2, by show (match toP F.code.length K left e with | none => none | some (K', l') => toAll F.code.length K' l' es) = _; rw [h1]; exact g1, fun q s hq => g2 _ _ (h2 _ _ hq), g3, fun e' he' => ?_, fun q hq => g5 q (hmem q hq)⟩
        rcases List.mem_cons.1 he' with rfl | he'
        · exact g2 _ _ h3
        · exact g4 e' he'
      · exact .inr ⟨by show (match toP F.code.length K left e with | none => none | some (K', l') => toAll F.code.length K' l' es) = _; rw [h1]; exact g1, g2⟩
    · exact .inr ⟨by show (match toP F.code.length K left e with | none => none | some (K', l') => toAll F.code.length K' l' es) = _; rw [h1], h2⟩
theorem step_ok {F : Fn} {K : Know} {todo left : List Int} {p : Int} (hI : Inv F K todo) (h1 : ∀ q ∈ todo, q = p ∨ q ∈ left) (h2 : ∀ q ∈ left, q ∈ todo) (hp : p ∈ todo) :
    (∃ K' l', stepP F K left p = some (K', l') ∧ Inv F K' l') ∨ (stepP F K left p = none ∧ ¬ Good F) := by
  obtain ⟨s, hs⟩ := hI.mem p hp
  obtain ⟨d0, d1⟩ := hI.dom p s hs
  have hx : F.code[p.toNat]? = some (F.code[p.toNat]'(by omega)) := List.getElem?_eq_getElem _
  generalize F.code[p.toNat]'(by omega) = x at hx
  have hst : stepP F K left p = match stepR F.f F.gb F.gc K p x s with | none => none | some l => toAll F.code.length K left l := by unfold stepP; rw [hx, hs]; first | done | rfl
  have htr := hI.tri p s hs
  have hg : ∀ K', look K' 0 = some (init F).2 → (∀ p s, look K' p = some s → Closed F K' p s) → ∃ l, stepR F.f F.gb F.gc K p x s = some l ∧ ∀ e ∈ l, look K' e.1 = some e.2 := fun K' g1 g2 => by
    have hsub := hI.min K' g1 g2
    obtain ⟨x', l, _, _, e3, e4, e5⟩ := g2 _ _ (hsub _ _ hs)
    rw [hx] at e3
    cases e3
    rw [stepR_sub hsub htr] at e4
    exact ⟨l, e4, e5⟩
  cases hr : stepR F.f F.gb F.gc K p x s with
  | none =>
    refine .inr ⟨by rw [hst, hr], fun ⟨K', g1, g2⟩ => ?_⟩
    obtain ⟨l, e, _⟩ := hg K' g1 g2
    rw [hr] at e; cases e
  | some l =>
    have hI' : Inv F K (p :: left) := ⟨hI.ini, hI.dom, hI.tri, fun q s h => (hI.clo q s h).imp_left fun hq => by
      rcases h1 q hq with rfl | h
      · exact List.mem_cons_self
      · exact List.mem_cons_of_mem _ h, fun q hq => by
      rcases List.mem_cons.1 hq with rfl | hq
      · exact ⟨s, hs⟩
      · exact hI.mem q (h2 q hq), hI.min⟩
    rcases toAll_ok (p := p) l K left hI' (stepR_tries ⟨s, hs⟩ htr hr) (fun e he K' g1 g2 => by
        obtain ⟨l', e1, e2⟩ := hg K' g1 g2
        rw [hr] at e1; cases e1
        exact e2 e he) with ⟨K', l', g1, g2, g3, g4, g5⟩ | ⟨g1, g2⟩
    · refine .inl ⟨K', l', by rw [hst, hr]; exact g1, g3.ini, g3.dom, g3.tri, fun q s' h => ?_, fun q hq => g3.mem q (List.mem_cons_of_mem _ hq), g3.min⟩
      rcases g3.clo q s' h with h' | h'
      · rcases List.mem_cons.1 h' with rfl | h'
        · have := g2 _ _ hs
          rw [h] at this
          cases this
          exact .inr ⟨x, l, d0, d1, hx, by rw [stepR_sub g2 htr]; exact hr, g4⟩
        · exact .inl h'
      · exact .inr h'
    · exact .inr ⟨by rw [hst, hr]; exact g1, g2⟩
theorem inv_start {F : Fn} (h : 0 < F.code.length) : Inv F [init F] [0] := by
  have hl : ∀ p s, look [init F] p = some s → p = 0 ∧ s = (init F).2 := fun p s hp => by
    unfold look at hp
    simp only [List.find?_cons, List.find?_nil] at hp
    by_cases h0 : (init F).1 = p
    · have h0' : (0 : Int) = p := h0
      rw [show ((init F).1 == p) = true by simp [h0]] at hp
      exact ⟨h0'.symm, (Option.some.inj hp).symm⟩
    · rw [show ((init F).1 == p) = false by simp [h0]] at hp
      cases hp
  have h0 : look [init F] 0 = some (init F).2 := by unfold look; simp [init]
  refine ⟨h0, fun p s hp => ?_, fun p s hp t ht => ?_, fun p s hp => .inl (by rw [(hl p s hp).1]; simp), fun p hp => ?_, fun K' g1 _ p s hp => ?_⟩
  · rw [(hl p s hp).1]; exact ⟨Int.le_refl _, by omega⟩
  · rw [(hl p s hp).2] at ht; cases ht
  · obtain rfl := List.mem_singleton.1 hp
    exact ⟨_, h0⟩
  · obtain ⟨rfl, rfl⟩ := hl p s hp; exact g1
theorem good_pos {F : Fn} (h : Good F) : 0 < F.code.length := by
  obtain ⟨K, h1, h2⟩ := h
  obtain ⟨x, l, a, b, _⟩ := h2 _ _ h1
  omega
theorem good_of {F : Fn} {K : Know} (hI : Inv F K []) : Good F := ⟨K, hI.ini, fun p s h => (hI.clo p s h).resolve_left (by simp)⟩
def InsN (x : Ins) : Prop := (x.op = 6 ∨ x.op = 11 ∨ x.op = 20 → 0 ≤ x.a ∧ x.a ≤ 65535) ∧ 0 ≤ x.b ∧ x.b ≤ 255 ∧ 0 ≤ x.c ∧ x.c ≤ 65535
structure Num (F : Fn) (K : Know) (left : List Int) : Prop where
  nodup : (K.map (·.1)).Nodup
  len : left.length ≤ K.length
  ht : ∀ e ∈ K, 0 ≤ e.2.h ∧ e.2.h ≤ 1 + 256 * ((K.length - left.length : Nat) : Int) ∧ e.2.tr.length ≤ K.length - left.length
theorem look_mem {K : Know} {p : Int} {s : St} (h : look K p = some s) : (p, s) ∈ K := by
  unfold look at h
  obtain ⟨e, he, rfl⟩ := Option.map_eq_some_iff.1 h
  have := List.find?_some he
  have h2 := List.mem_of_find?_eq_some he
  simp at this
  subst this
  exact h2
theorem look_none {K : Know} {p : Int} (h : look K p = none) : p ∉ K.map (·.1) := by
  unfold look at h
  rw [Option.map_eq_none_iff, List.find?_eq_none] at h
  intro hp
  obtain ⟨e, he, rfl⟩ := List.mem_map.1 hp
  exact h e he (by simp)
theorem moves_num {x : Ins} (h : InsN x) : 0 ≤ (moves x).1 ∧ (moves x).1 ≤ 65536 ∧ 0 ≤ (moves x).2 ∧ (moves x).2 ≤ 255 := by
  obtain ⟨h1, h2, h3, h4, h5⟩ := h
  have ht : 0 ≤ takesN x.t ∧ takesN x.t ≤ 3 := by unfold takesN; repeat' split <;> omega
  unfold moves
  repeat' split
  all_goals (simp only; omega)
end Go.Ck
namespace Go.Ck
structure NumR (n r : Nat) (K : Know) (left : List Int) : Prop where
  nodup : (K.map (·.1)).Nodup
  len : K.length = left.length + r
  ht : ∀ e ∈ K, 0 ≤ e.2.h ∧ e.2.h ≤ 1 + 256 * (r : Int) ∧ e.2.tr.length ≤ r
  dom : ∀ e ∈ K, 0 ≤ e.1 ∧ e.1 < n
theorem NumR.pop {n r : Nat} {K : Know} {left todo : List Int} (h : NumR n r K todo) (hl : todo.length = left.length + 1) : NumR n (r + 1) K left :=
  ⟨h.nodup, by have := h.len; omega, fun e he => by have := h.ht e he; omega, h.dom⟩
theorem NumR.to {n r : Nat} {K K' : Know} {left l' : List Int} {e : Int × St} (h : NumR n r K left) (he : 0 ≤ e.2.h ∧ e.2.h ≤ 1 + 256 * (r : Int) ∧ e.2.tr.length ≤ r) (ht : toP n K left e = some (K', l')) : NumR n r K' l' := by
  unfold toP at ht
  split at ht
  · rename_i hr
    split at ht
    · split at ht
      · cases ht; exact h
      · cases ht
    · rename_i hk
      cases ht
      refine ⟨?_, by simp; have := h.len; omega, fun e' he' => ?_, fun e' he' => ?_⟩
      · rw [List.map_append, List.nodup_append]
        refine ⟨h.nodup, by simp, fun a ha b hb => ?_⟩
        simp only [List.map_cons, List.map_nil, List.mem_singleton] at hb
        subst hb
        rintro rfl
        exact look_none hk ha
      · rcases List.mem_append.1 he' with h' | h'
        · exact h.ht e' h'
        · obtain rfl := List.mem_singleton.1 h'; exact he
      · rcases List.mem_append.1 he' with h' | h'
        · exact h.dom e' h'
        · obtain rfl := List.mem_singleton.1 h'; exact hr
  · cases ht
theorem NumR.all {n r : Nat} : ∀ {es : List (Int × St)} {K K' : Know} {left l' : List Int}, NumR n r K left → (∀ e ∈ es, 0 ≤ e.2.h ∧ e.2.h ≤ 1 + 256 * (r : Int) ∧ e.2.tr.length ≤ r) → toAll n K left es = some (K', l') → NumR n r K' l'
  | [], K, K', left, l', h, _, ht => by cases ht; exact h
  | e :: es, K, K', left, l', h, he, ht => by
    have ht : (match toP n K left e with | none => none | some (K', l') => toAll n K' l' es) = some (K', l') := ht
    cases hp : toP n K left e with
    | none => rw [hp] at ht; cases ht
    | some r' =>
      obtain ⟨K1, l1⟩ := r'
      rw [hp] at ht
      exact (h.to (he e List.mem_cons_self) hp).all (fun e' he' => he e' (List.mem_cons_of_mem _ he')) ht
theorem least_bd (f : Nat) : 0 ≤ least f ∧ least f ≤ 1 := by unfold least; split <;> omega
theorem floor_nn {f : Nat} {K : Know} {s : St} : 0 ≤ floorOf f K s := by
  have := (least_bd f).1
  unfold floorOf
  split
  · exact this
  · exact Int.le_trans this (Int.le_max_left _ _)
theorem stepR_num {f : Nat} {gb gc : Int} {K : Know} {p : Int} {x : Ins} {s : St} {l : List (Int × St)} {r : Nat} (hx : InsN x) (h : 0 ≤ s.h ∧ s.h ≤ 1 + 256 * (r : Int) ∧ s.tr.length ≤ r) (hs : stepR f gb gc K p x s = some l) :
    ∀ e ∈ l, 0 ≤ e.2.h ∧ e.2.h ≤ 1 + 256 * ((r + 1 : Nat) : Int) ∧ e.2.tr.length ≤ r + 1 := by
  have hon : ∀ takes puts e, 0 ≤ takes → 0 ≤ puts → puts ≤ 255 → onR f K p s takes puts = some e → 0 ≤ e.2.h ∧ e.2.h ≤ 1 + 256 * ((r + 1 : Nat) : Int) ∧ e.2.tr.length ≤ r + 1 := fun takes puts e h1 h2 h3 he => by
    have hf := floor_nn (f := f) (K := K) (s := s)
    unfold onR at he
    split at he
    · cases he; simp only; omega
    · cases he
  have hone : ∀ takes puts l, 0 ≤ takes → 0 ≤ puts → puts ≤ 255 → one (onR f K p s takes puts) = some l → ∀ e ∈ l, 0 ≤ e.2.h ∧ e.2.h ≤ 1 + 256 * ((r + 1 : Nat) : Int) ∧ e.2.tr.length ≤ r + 1 := fun takes puts l h1 h2 h3 hl e he => by
    unfold one at hl
    obtain ⟨y, hy, rfl⟩ := Option.map_eq_some_iff.1 hl
    obtain rfl := List.mem_singleton.1 he
    exact hon _ _ _ h1 h2 h3 hy
  obtain ⟨m0, m1, m2, m3⟩ := moves_num hx
  unfold stepR at hs
  intro e he
  by_cases o3 : x.op = 3
  · rw [if_pos o3] at hs
    split at hs
    · exact hone _ _ _ (by omega) (by omega) (by omega) hs e he
    · cases hs
  rw [if_neg o3] at hs
  by_cases o4 : x.op = 4
  · rw [if_pos o4] at hs
    split at hs
    · exact hone _ _ _ (by omega) (by omega) (by omega) hs e he
    · cases hs
  rw [if_neg o4] at hs
  by_cases o5 : x.op = 5
  · rw [if_pos o5] at hs
    split at hs
    · exact hone _ _ _ (by omega) (by omega) (by omega) hs e he
    · cases hs
  rw [if_neg o5] at hs
  by_cases o8 : x.op = 8
  · rw [if_pos o8] at hs
    split at hs
    · cases hs; cases he
    · cases hs
  rw [if_neg o8] at hs
  by_cases o25 : x.op = 25
  · rw [if_pos o25] at hs
    split at hs
    · cases hs; cases he
    · cases hs
  rw [if_neg o25] at hs
  by_cases o17 : x.op = 17
  · rw [if_pos o17] at hs
    split at hs
    · cases hs; cases he
    · cases hs
  rw [if_neg o17] at hs
  by_cases o9 : x.op = 9
  · rw [if_pos o9] at hs
    cases hs
    obtain rfl := List.mem_singleton.1 he
    simp only; omega
  rw [if_neg o9] at hs
  by_cases o10 : x.op = 10
  · rw [if_pos o10] at hs
    obtain ⟨y, hy, rfl⟩ := Option.map_eq_some_iff.1 hs
    have := hon _ _ _ (by omega) (by omega) (by omega) hy
    simp only [List.mem_cons, List.not_mem_nil, or_false] at he
    rcases he with rfl | rfl
    · exact this
    · exact this
  rw [if_neg o10] at hs
  by_cases o18 : x.op = 18
  · rw [if_pos o18] at hs
    cases hs
    simp only [List.mem_cons, List.not_mem_nil, or_false] at he
    rcases he with rfl | rfl
    · simp only [List.length_append, List.length_singleton]; omega
    · simp only; omega
  rw [if_neg o18] at hs
  by_cases o19 : x.op = 19
  · rw [if_pos o19] at hs
    split at hs
    · cases hs
    · split at hs
      · cases hs
        obtain rfl := List.mem_singleton.1 he
        simp only [List.length_dropLast]; omega
      · cases hs
  rw [if_neg o19] at hs
  by_cases o23 : x.op = 23
  · rw [if_pos o23] at hs
    split at hs
    · cases hs
      simp only [List.mem_cons, List.not_mem_nil, or_false] at he
      rcases he with rfl | rfl
      · simp only; omega
      · simp only; omega
    · cases hs
  rw [if_neg o23] at hs
  by_cases o24 : x.op = 24
  · rw [if_pos o24] at hs
    split at hs
    · exact hone _ _ _ (by omega) (by omega) (by omega) hs e he
    · cases hs
  rw [if_neg o24] at hs
  exact hone _ _ _ m0 m2 m3 hs e he
theorem nodup_bd : ∀ (n : Nat) (l : List Int), l.Nodup → (∀ x ∈ l, 0 ≤ x ∧ x < n) → l.length ≤ n
  | 0, l, _, h => by
    cases l with
    | nil => exact Nat.le_refl _
    | cons x l => have := h x List.mem_cons_self; omega
  | n + 1, l, hn, h => by
    have h1 := nodup_bd n (l.erase (n : Int)) (hn.erase _) fun x hx => by
      have hx1 := h x (List.mem_of_mem_erase hx)
      have hx2 : x ≠ (n : Int) := fun e => by subst e; exact (List.Nodup.not_mem_erase hn) hx
      omega
    by_cases hm : (n : Int) ∈ l
    · rw [List.length_erase_of_mem hm] at h1
      omega
    · rw [List.erase_of_not_mem hm] at h1
      omega
theorem NumR.le {n r : Nat} {K : Know} {left : List Int} (h : NumR n r K left) : K.length ≤ n := by
  have := nodup_bd n (K.map (·.1)) h.nodup fun x hx => by obtain ⟨e, he, rfl⟩ := List.mem_map.1 hx; exact h.dom e he
  simpa using this
end Go.Ck
set_option maxRecDepth 100000
namespace Go.Ck
open Go Go.RowKit Go.Proofs Go.MapKept
theorem run_zeroValue {P : Program} {t : TypeId} {i : TypeInfo} {z : Value} (h : P.info? t = some i) (hz : i.zero = some z) (w : World) : (zeroValue t).run P w = .ok z w := by
  simp [zeroValue, typeInfo, h, hz]
theorem eqIn_int {P : Program} {kt : TypeId} {k k' : IntKind} {a b : Int} (n : Nat) (hd : P.underlying kt = some (.int k')) (w : World) : (Op.equalIn (n + 1) kt (.int k a) (.int k b)).run P w = .ok (a == b) w := by
  simp [Op.equalIn, run_underlying hd]
def Fnd (P : Program) (kt : TypeId) (d : TypeDesc) (kc : Value) (l : List MapEntry) (i : Nat) (r : Option (Nat × Value)) : Prop :=
  (Instr.findNow d kc l i = some r ∨ Instr.findNow d kc l i = none) ∧ ∀ w, (Instr.findAsking kt kc l i).run P w = .ok r w
theorem run_fnd {P : Program} {w : World} {kt : TypeId} {d : TypeDesc} {k : Value} {l : List MapEntry} {a : Option (Nat × Value)} (hd : P.underlying kt = some d) (h : Fnd P kt d k l 0 a) : (Instr.findKey kt k l).run P w = .ok a w := by
  rcases h with ⟨h1 | h1, h2⟩
  · exact run_findKey hd h1
  · have := h2 w
    simp [Instr.findKey, run_underlying hd, Result.andThen, h1, this]
theorem Fnd.none_nil {P : Program} {kt : TypeId} {d : TypeDesc} {kc : Value} {i : Nat} : Fnd P kt d kc [] i none := ⟨.inl rfl, fun w => by simp [Instr.findAsking]⟩
theorem Fnd.here {P : Program} {kt : TypeId} {d : TypeDesc} {kc : Value} {c : MapEntry} {cs : List MapEntry} {i : Nat} (h1 : ∀ w, (Op.equal kt kc c.key).run P w = .ok true w) (h2 : Instr.sameNow d kc c.key = some true ∨ Instr.sameNow d kc c.key = none) : Fnd P kt d kc (c :: cs) i (some (i, c.val)) := by
  refine ⟨?_, fun w => by simp [Instr.findAsking, Result.andThen, h1 w]⟩
  rcases h2 with h2 | h2
  · exact .inl (by simp [Instr.findNow, h2])
  · exact .inr (by simp [Instr.findNow, h2])
theorem Fnd.later {P : Program} {kt : TypeId} {d : TypeDesc} {kc : Value} {c : MapEntry} {cs : List MapEntry} {i : Nat} {r : Option (Nat × Value)} (h1 : ∀ w, (Op.equal kt kc c.key).run P w = .ok false w) (h2 : Instr.sameNow d kc c.key = some false ∨ Instr.sameNow d kc c.key = none)
    (h : Fnd P kt d kc cs (i + 1) r) : Fnd P kt d kc (c :: cs) i r := by
  obtain ⟨h3, h4⟩ := h
  refine ⟨?_, fun w => by have := h4 w; simp [Instr.findAsking, Result.andThen, h1 w, this]⟩
  rcases h2 with h2 | h2
  · rcases h3 with h3 | h3
    · exact .inl (by simp [Instr.findNow, h2, h3])
    · exact .inr (by simp [Instr.findNow, h2, h3])
  · exact .inr (by simp [Instr.findNow, h2])
end Go.Ck
set_option maxHeartbeats 1600000
namespace Go.Ck
open Go Go.RowKit Go.Proofs Go.MapKept
def TrV (w : World) (base : Nat) (q : Option Nat) (v : Value) (l : List Int) : Prop :=
  ∃ a c, v = .slice a l.length c ∧ l.length ≤ c ∧ (0 < l.length → ∃ g o cur, a = some ⟨g, o, none⟩ ∧ base ≤ g ∧ some g ≠ q ∧ w.heap[g]? = some (.cells cur 3 (0, 0)) ∧ ∀ i t, l[i]? = some t → cur[o + i]? = some (.int .i64 t))
def stV (s : St) (v : Value) : Value := .agg #[.int .i64 s.h, v]
def EV (w : World) (base : Nat) (q : Option Nat) (e : Int × St) (c : MapEntry) : Prop := c.key = .int .i64 e.1 ∧ ∃ v, c.val = stV e.2 v ∧ TrV w base q v e.2.tr
inductive EVs (w : World) (base : Nat) (q : Option Nat) : Know → List MapEntry → Prop
  | nil : EVs w base q [] []
  | cons {e : Int × St} {c : MapEntry} {K : Know} {l : List MapEntry} : EV w base q e c → EVs w base q K l → EVs w base q (e :: K) (c :: l)
def KV (w : World) (base : Nat) (q : Option Nat) (m : Nat) (K : Know) : Prop := ∃ es clock, w.heap[m]? = some (.map es clock) ∧ EVs w base q K es.toList
theorem key_eq (a b : Int) (w : World) : (Op.equal 3 (.int .i64 a) (.int .i64 b)).run Tryz.prog w = .ok (a == b) w := eqIn_int 9999 Tryz.underlying3 w
theorem now_eq (a b : Int) : Instr.sameNow (.int .i64) (.int .i64 a) (.int .i64 b) = some (a == b) := by simp [Instr.sameNow]
theorem fnd_hit {w : World} {base : Nat} {q : Option Nat} {p : Int} {s : St} : ∀ {K : Know} {l : List MapEntry} (i : Nat), EVs w base q K l → look K p = some s → ∃ j v, Fnd Tryz.prog 3 (.int .i64) (.int .i64 p) l i (some (j, stV s v)) ∧ TrV w base q v s.tr
  | [], _, i, h, hs => by cases hs
  | e :: K, _, i, .cons (c := c) h1 h2, hs => by
    obtain ⟨k1, v, k2, k3⟩ := h1
    by_cases he : e.1 = p
    · have : look (e :: K) p = some e.2 := by unfold look; simp [he]
      rw [this] at hs
      cases hs
      refine ⟨i, v, ?_, k3⟩
      rw [← k2]
      exact .here (fun w => by rw [k1, key_eq]; simp [he]) (.inl (by rw [k1, now_eq]; simp [he]))
    · have : look (e :: K) p = look K p := by unfold look; simp [he]
      rw [this] at hs
      obtain ⟨j, v', g1, g2⟩ := fnd_hit (i + 1) h2 hs
      exact ⟨j, v', .later (fun w => by rw [k1, key_eq]; simp [Ne.symm he]) (.inl (by rw [k1, now_eq]; simp [Ne.symm he])) g1, g2⟩
theorem fnd_miss {w : World} {base : Nat} {q : Option Nat} {p : Int} : ∀ {K : Know} {l : List MapEntry} (i : Nat), EVs w base q K l → look K p = none → Fnd Tryz.prog 3 (.int .i64) (.int .i64 p) l i none
  | [], _, i, .nil, _ => .none_nil
  | e :: K, _, i, .cons (c := c) h1 h2, hs => by
    obtain ⟨k1, v, k2, k3⟩ := h1
    by_cases he : e.1 = p
    · have : look (e :: K) p = some e.2 := by unfold look; simp [he]
      rw [this] at hs; cases hs
    · have : look (e :: K) p = look K p := by unfold look; simp [he]
      rw [this] at hs
      exact .later (fun w => by rw [k1, key_eq]; simp [Ne.symm he]) (.inl (by rw [k1, now_eq]; simp [Ne.symm he])) (fnd_miss (i + 1) h2 hs)
theorem chk (p : Int) (e : Bool) (w : World) : (Instr.checkKey e 10000 3 (.int .i64 p)).run Tryz.prog w = .ok () w := run_checkKey Tryz.underlying3 (show IsKey (.int .i64) (.int .i64 p) from rfl) e 9999
theorem i119 : (Tryz.prog.info? 119).map (fun i => (i.size, i.bytes, i.zero)) = some (2, 32, some (.agg #[.int .i64 0, .slice none 0 0])) := by kernel_rfl
theorem look_run_hit {w : World} {base m : Nat} {q : Option Nat} {K : Know} {p : Int} {s : St} (h : KV w base q m K) (hs : look K p = some s) : ∃ v, TrV w base q v s.tr ∧
    (Instr.lookup 113 (.map (some m)) (.int .i64 p) true).run Tryz.prog w = .ok (.tuple #[stV s v, .bool true]) w ∧ (Instr.lookup 113 (.map (some m)) (.int .i64 p) false).run Tryz.prog w = .ok (stV s v) w := by
  obtain ⟨es, clock, h1, h2⟩ := h
  obtain ⟨j, v, hf, hv⟩ := fnd_hit (p := p) 0 h2 hs
  have hf := run_fnd (P := Tryz.prog) (w := w) Tryz.underlying3 hf
  have hc := chk p es.isEmpty w
  refine ⟨v, hv, ?_, ?_⟩
  · unfold Instr.lookup
    simp [run_underlying Tryz.underlying113, MapKept.run_getObj_map h1, hc, hf]
  · unfold Instr.lookup
    simp [run_underlying Tryz.underlying113, MapKept.run_getObj_map h1, hc, hf]
theorem look_run_miss {w : World} {base m : Nat} {q : Option Nat} {K : Know} {p : Int} (h : KV w base q m K) (hs : look K p = none) :
    (Instr.lookup 113 (.map (some m)) (.int .i64 p) true).run Tryz.prog w = .ok (.tuple #[.agg #[.int .i64 0, .slice none 0 0], .bool false]) w ∧ (Instr.lookup 113 (.map (some m)) (.int .i64 p) false).run Tryz.prog w = .ok (.agg #[.int .i64 0, .slice none 0 0]) w := by
  obtain ⟨es, clock, h1, h2⟩ := h
  have hf := run_fnd (P := Tryz.prog) (w := w) Tryz.underlying3 (fnd_miss (p := p) 0 h2 hs)
  have hc := chk p es.isEmpty w
  obtain ⟨i, hi, hi2⟩ := Option.map_eq_some_iff.1 i119
  injection hi2 with hz0 hz1
  injection hz1 with hz1 hz2
  refine ⟨?_, ?_⟩
  · unfold Instr.lookup
    simp [run_underlying Tryz.underlying113, MapKept.run_getObj_map h1, hc, hf, run_zeroValue hi hz2]
  · unfold Instr.lookup
    simp [run_underlying Tryz.underlying113, MapKept.run_getObj_map h1, hc, hf, run_zeroValue hi hz2]
theorem TrV.mono {w w' : World} {base : Nat} {q q' : Option Nat} {v : Value} {l : List Int} (h : TrV w base q v l) (hw : ∀ g cur, base ≤ g → some g ≠ q → w.heap[g]? = some (.cells cur 3 (0, 0)) → w'.heap[g]? = some (.cells cur 3 (0, 0)) ∧ some g ≠ q') : TrV w' base q' v l := by
  obtain ⟨a, c, h1, h2, h3⟩ := h
  refine ⟨a, c, h1, h2, fun h0 => ?_⟩
  obtain ⟨g, o, cur, e, hb, hq, hg, hc⟩ := h3 h0
  obtain ⟨g1, g2⟩ := hw g cur hb hq hg
  exact ⟨g, o, cur, e, hb, g2, g1, hc⟩
theorem TrV.cell {w : World} {base : Nat} {q : Option Nat} {l : List Int} {a : Option Addr} {n c : Nat} (h : TrV w base q (.slice a n c) l) {i : Nat} {t : Int} (ht : l[i]? = some t) : ∃ g o, a = some ⟨g, o, none⟩ ∧ w.cell? ⟨g, o + i, none⟩ = some (.int .i64 t) := by
  obtain ⟨a', c', h1, h2, h3⟩ := h
  cases h1
  obtain ⟨g, o, cur, e, hb, hq, hg, hc⟩ := h3 (by have := (List.getElem?_eq_some_iff.1 ht).1; omega)
  exact ⟨g, o, e, by simp [World.cell?, hg, hc i t ht]⟩
theorem EVs.mono {w w' : World} {base : Nat} {q q' : Option Nat} {K : Know} {l : List MapEntry} (h : EVs w base q K l) (hw : ∀ g cur, base ≤ g → some g ≠ q → w.heap[g]? = some (.cells cur 3 (0, 0)) → w'.heap[g]? = some (.cells cur 3 (0, 0)) ∧ some g ≠ q') : EVs w' base q' K l := by
  induction h with
  | nil => exact .nil
  | cons h1 _ ih =>
    obtain ⟨k1, v, k2, k3⟩ := h1
    exact .cons ⟨k1, v, k2, k3.mono hw⟩ ih
theorem EVs.snoc {w : World} {base : Nat} {q : Option Nat} {K : Know} {l : List MapEntry} {e : Int × St} {c : MapEntry} (h : EVs w base q K l) (hc : EV w base q e c) : EVs w base q (K ++ [e]) (l ++ [c]) := by
  induction h with
  | nil => exact .cons hc .nil
  | cons h1 _ ih => exact .cons h1 ih
theorem put_run {w : World} {base m : Nat} {q : Option Nat} {K : Know} {p : Int} {s : St} {v : Value} (h : KV w base q m K) (hs : look K p = none) (hv : TrV w base q v s.tr) :
    ∃ w', (Instr.mapUpdate 113 (.map (some m)) (.int .i64 p) (stV s v)).run Tryz.prog w = .ok () w' ∧ w.grownBy w' (some m) ∧ KV w' base q m (K ++ [(p, s)]) := by
  obtain ⟨es, clock, h1, h2⟩ := h
  have hf := run_fnd (P := Tryz.prog) (w := w) Tryz.underlying3 (fnd_miss (p := p) 0 h2 hs)
  have hc := chk p false w
  have hlt : m < w.heap.size := (Array.getElem?_eq_some_iff.1 h1).1
  have hoth : ∀ b, b ≠ m → (w.heap.setIfInBounds m (.map (es.push { key := .int .i64 p, val := stV s v, born := clock }) (clock + 1)))[b]? = w.heap[b]? := fun b hb => by
    rw [Array.getElem?_setIfInBounds_ne (Ne.symm hb)]
  have hcell : ∀ g cur, base ≤ g → some g ≠ q → w.heap[g]? = some (.cells cur 3 (0, 0)) → (World.heap { w with heap := w.heap.setIfInBounds m (.map (es.push { key := .int .i64 p, val := stV s v, born := clock }) (clock + 1)) })[g]? = some (.cells cur 3 (0, 0)) ∧ some g ≠ q := fun g cur _ hq hu => by
    have hg : g ≠ m := by rintro rfl; rw [h1] at hu; cases hu
    exact ⟨(hoth g hg).trans hu, hq⟩
  refine ⟨{ w with heap := w.heap.setIfInBounds m (.map (es.push { key := .int .i64 p, val := stV s v, born := clock }) (clock + 1)) }, ?_, ?_, es.push { key := .int .i64 p, val := stV s v, born := clock }, clock + 1, ?_, ?_⟩
  · unfold Instr.mapUpdate
    simp only [Sem.run_bind, run_underlying Tryz.underlying113, Result.andThen_ok, MapKept.run_getObj_map h1, hc, hf, MapKept.run_setObj_map _ h1]
  · exact ⟨rfl, rfl, rfl, by simp, fun b hb hne => hoth b (fun e => hne (by rw [e]))⟩
  · rw [Array.getElem?_setIfInBounds]; simp [hlt]
  · rw [Array.toList_push]
    exact (h2.mono hcell).snoc ⟨rfl, v, rfl, hv.mono hcell⟩
end Go.Ck
namespace Go.Ck
open Go Go.RowKit Go.Proofs
def intV (t : Int) : Value := .int .i64 t
def QV (w : World) (base : Nat) (v : Value) (l : List Int) : Prop :=
  (v = .slice none 0 0 ∧ l = []) ∨ ∃ g o cap cur, v = .slice (some ⟨g, o, none⟩) l.length cap ∧ base ≤ g ∧ w.heap[g]? = some (.cells cur 3 (0, 0)) ∧ o + cap ≤ cur.size ∧ l.length ≤ cap ∧ (cur.toList.drop o).take l.length = l.map intV
theorem i3 : (Tryz.prog.info? 3).map (fun i => (i.size, i.bytes, i.zero)) = some (1, 8, some (.int .i64 0)) := by kernel_rfl
theorem add_one (g o k : Nat) : (⟨g, o, none⟩ : Addr).add k = ⟨g, o + k, none⟩ := by
  unfold Addr.add
  split
  · rename_i h; subst h; rfl
  · rfl
theorem QV.cell {w : World} {base g o cap : Nat} {l : List Int} (h : QV w base (.slice (some ⟨g, o, none⟩) l.length cap) l) {i : Nat} {t : Int} (ht : l[i]? = some t) : w.cell? ⟨g, o + i, none⟩ = some (.int .i64 t) := by
  rcases h with ⟨h, _⟩ | ⟨g', o', cap', cur, h1, h2, h3, h4, h5, h6⟩
  · cases h
  · cases h1
    have hi := (List.getElem?_eq_some_iff.1 ht).1
    have : ((cur.toList.drop o).take l.length)[i]? = some (intV t) := by rw [h6, List.getElem?_map, ht]; rfl
    rw [List.getElem?_take_of_lt hi, List.getElem?_drop, Array.getElem?_toList] at this
    simp [World.cell?, h3, this, intV]
theorem grown_q {w : World} {base : Nat} {l : List Int} {t : Int} {olds : List Value} (ho : olds = l.map intV) (hb : base ≤ w.heap.size) (old : Nat) (hl : old < l.length + 1) (row : Option Nat) :
    QV (w.drew.alloc (.cells (olds.toArray ++ [intV t].toArray ++ Builtin.zeroCells #[.int .i64 0] (grownCap w (l.length + 1) old 3 - (l.length + 1))) 3)) base (.slice (some ⟨w.heap.size, 0, none⟩) (l.length + 1) (grownCap w (l.length + 1) old 3)) (l ++ [t]) ∧
    w.grownBy (w.drew.alloc (.cells (olds.toArray ++ [intV t].toArray ++ Builtin.zeroCells #[.int .i64 0] (grownCap w (l.length + 1) old 3 - (l.length + 1))) 3)) row := by
  have hge := grownCap_ge w (l.length + 1) old 3
  subst ho
  refine ⟨.inr ⟨_, 0, grownCap w (l.length + 1) old 3, _, by rw [List.length_append]; rfl, hb, heap_alloc_new w.drew _, ?_, by simp; omega, ?_⟩, ⟨rfl, rfl, rfl, by simp, fun k hk _ => by first | exact heap_alloc_old w.drew _ hk | exact heap_alloc_old w.drew _ k hk⟩⟩
  · simp only [Array.size_append, List.size_toArray, size_zeroCells, List.length_map, List.length_singleton, List.length_cons, List.length_nil]
    omega
  · simp only [Array.toList_append, List.drop_zero]
    rw [show (l ++ [t]).map intV = l.map intV ++ [intV t] by simp, show (l ++ [t]).length = (l.map intV ++ [intV t]).length by simp]
    exact List.take_left
theorem append_q {w : World} {base nb : Nat} {v : Value} {l : List Int} {t : Int} {ty : TypeId} (h : QV w base v l) (hb : base ≤ w.heap.size) (hc : w.cell? ⟨nb, 0, none⟩ = some (.int .i64 t)) (hl : l.length ≤ 100000) :
    ∃ v' w', (Builtin.append_ #[36, 36] ty #[v, .slice (some ⟨nb, 0, none⟩) 1 1]).run Tryz.prog w = .ok v' w' ∧ QV w' base v' (l ++ [t]) ∧ w.grownBy w' v.ownBlock ∧ ∀ k, v'.ownBlock = some k → v.ownBlock = some k ∨ w.heap.size ≤ k := by
  obtain ⟨i, hi, hi2⟩ := Option.map_eq_some_iff.1 i3
  injection hi2 with hz0 hz1
  injection hz1 with hz1 hz2
  have hnews : ∀ j u, [intV t][j]? = some u → w.cell? ((⟨nb, 0, none⟩ : Addr).add j) = some u := fun j u hj => by
    match j, hj with
    | 0, hj => cases hj; exact hc
  rcases h with ⟨rfl, rfl⟩ | ⟨g, o, cap, cur, rfl, hbg, hg, hoc, hlc, htake⟩
  · have hr := run_append_nil (P := Tryz.prog) w 36 ty 3 i (.int .i64 0) Tryz.underlying36 hi hz2 ⟨nb, 0, none⟩ 1 1 [intV t] (by rw [hz0]; rfl) hnews (by omega) (by omega) (by rw [hz1]; omega)
    have hgr := grown_q (w := w) (base := base) (l := []) (t := t) (olds := []) rfl hb 0 (by simp) (Value.ownBlock (.slice none 0 0))
    exact ⟨_, _, hr, hgr.1, hgr.2, fun k hk => .inr (by cases hk; exact Nat.le_refl _)⟩
  · by_cases hroom : l.length + 1 ≤ cap
    · have hst := run_storeCells_at (P := Tryz.prog) g (o + l.length * 1) 3 [intV t] 0 cur w hg (by have := Array.length_toList (xs := cur); simp only [List.length_cons, List.length_nil]; omega) (by intro u hu; obtain rfl := List.mem_singleton.1 hu; rfl)
      have hf := run_firstCells_some (P := Tryz.prog) w 1 1 ⟨nb, 0, none⟩ 1 1 [intV t] rfl hnews
      simp only [Nat.add_zero] at hst
      have hr : (Builtin.append_ #[36, 36] ty #[.slice (some ⟨g, o, none⟩) l.length cap, .slice (some ⟨nb, 0, none⟩) 1 1]).run Tryz.prog w = .ok (.slice (some ⟨g, o, none⟩) (l.length + 1) cap) (w.setRow g (cur.toList.take (o + l.length * 1) ++ [intV t] ++ cur.toList.drop (o + l.length * 1 + [intV t].length)).toArray) := by
        simp [Builtin.append_, run_underlying Tryz.underlying36, sizeOf, typeInfo, hi, Builtin.lenOf, hroom, hz0, hf, add_one] at hst ⊢
        simp [hst, hf]
      refine ⟨_, _, hr, .inr ⟨g, o, cap, _, by simp, hbg, setRow_heap w g cur _ 3 _ hg, ?_, by simp; omega, ?_⟩, ⟨rfl, rfl, rfl, by simp, fun k _ hk => setRow_other w g k _ (fun e => hk (by simp [Value.ownBlock, e]))⟩, fun k hk => .inl hk⟩
      · simp only [List.size_toArray, List.length_append, List.length_take, List.length_drop, Array.length_toList, List.length_singleton]
        omega
      · have e1 : (cur.toList.take (o + l.length * 1)).drop o = l.map intV := by
          rw [List.drop_take, show o + l.length * 1 - o = l.length by omega]; exact htake
        have hto : (cur.toList.take (o + l.length * 1)).length = o + l.length := by have := Array.length_toList (xs := cur); rw [List.length_take]; omega
        show (List.drop o _).take _ = _
        rw [List.append_assoc, List.drop_append_of_le_length (by omega), e1]
        rw [show (l ++ [t]).map intV = l.map intV ++ [intV t] by simp, show (l ++ [t]).length = (l.map intV ++ [intV t]).length by simp, ← List.append_assoc]
        exact List.take_left
    · have holds : ∀ j u, (l.map intV)[j]? = some u → w.cell? ((⟨g, o, none⟩ : Addr).add j) = some u := fun j u hj => by
        rw [add_one]
        rw [List.getElem?_map] at hj
        obtain ⟨t', ht', rfl⟩ := Option.map_eq_some_iff.1 hj
        exact QV.cell (base := base) (cap := cap) (.inr ⟨g, o, cap, cur, rfl, hbg, hg, hoc, hlc, htake⟩) ht'
      have hr := run_append_grow (P := Tryz.prog) w 36 ty 3 i (.int .i64 0) Tryz.underlying36 hi hz2 ⟨g, o, none⟩ l.length cap (l.map intV) (by rw [hz0]; simp) holds ⟨nb, 0, none⟩ 1 1 [intV t] (by rw [hz0]; rfl) hnews (by omega) (by omega) (growslice_fits (by omega) (by rw [hz1]; omega))
      have hgr := grown_q (w := w) (base := base) (l := l) (t := t) rfl hb cap (by omega) (Value.ownBlock (.slice (some ⟨g, o, none⟩) l.length cap))
      exact ⟨_, _, hr, hgr.1, hgr.2, fun k hk => .inr (by cases hk; exact Nat.le_refl _)⟩
end Go.Ck
namespace Go.Ck
open Go Go.RowKit Go.Proofs
def wrongV : Value := .iface 110 (.agg #[])
theorem ask_ok (w : World) : Calls Tryz.prog 81 #[.bool true] w fun e w' => e = .returned (.tuple #[]) ∧ w' = w := by
  go_enter Tryz.func81, Tryz.ntmps81
  go_wp2
  go_end0
  exact ⟨rfl, rfl⟩
theorem ask_bad (w : World) : Calls Tryz.prog 81 #[.bool false] w fun e w' => e = .panicked [⟨wrongV, false, false⟩] ∧ w' = w := by
  go_enter Tryz.func81, Tryz.ntmps81
  go_wp2
  exact ⟨rfl, rfl, rfl⟩
theorem least_ok (w : World) (pb : Nat) (f : Nat) (h : w.cell? ⟨pb, 0, none⟩ = some (.int .i64 f)) : Calls Tryz.prog 50 #[.pointer (some ⟨pb, 0, none⟩)] w fun e w' => e = .returned (.int .i64 (least f)) ∧ w' = w := by
  go_enter Tryz.func50, Tryz.ntmps50
  by_cases hf : f = 0
  · subst hf
    go_wp2
    go_ret
    exact ⟨rfl, rfl⟩
  · have h1 : (f : Int) ≠ 0 := by omega
    have e1 : ((f : Int) == 0) = false := by simpa using h1
    go_wp2
    go_ret
    exact ⟨by simp [least, hf], rfl⟩
end Go.Ck
namespace Go.Ck
open Go Go.RowKit Go.Proofs
structure Pl where
  base : Nat
  pb : Nat
  m : Nat
  ca : Option Addr
  cc : Nat
  op : Int
  a : Int
  t : ByteArray
def Pl.cells (p : Pl) (F : Fn) (lv : Value) : Array Value := #[.int .i64 F.f, .slice p.ca F.code.length p.cc, .int .u8 p.op, .int .i64 p.a, .int .i64 F.gb, .int .i64 F.gc, .string p.t, .map (some p.m), lv]
structure WK (p : Pl) (F : Fn) (w : World) (K : Know) (lv : Value) (left : List Int) : Prop where
  blk : w.heap[p.pb]? = some (.cells (p.cells F lv) 115 (0, 0))
  pbge : p.base ≤ p.pb
  mge : p.base ≤ p.m
  known : KV w p.base lv.ownBlock p.m K
  queue : QV w p.base lv left
  n : F.code.length ≤ 100000
structure Kept (p : Pl) (q q' : Option Nat) (w w' : World) : Prop where
  os : w'.os = w.os
  tape : w'.tape = w.tape
  output : w'.output = w.output
  size : w.heap.size ≤ w'.heap.size
  block : ∀ b, b < w.heap.size → b ≠ p.pb → b ≠ p.m → some b ≠ q → w'.heap[b]? = w.heap[b]?
  own : ∀ k, q' = some k → q = some k ∨ w.heap.size ≤ k
theorem Kept.trans {p : Pl} {q q' q'' : Option Nat} {w w' w'' : World} (h : Kept p q q' w w') (h' : Kept p q' q'' w' w'') : Kept p q q'' w w'' := by
  refine ⟨h'.os.trans h.os, h'.tape.trans h.tape, h'.output.trans h.output, Nat.le_trans h.size h'.size, fun b hb h1 h2 h3 => ?_, fun k hk => ?_⟩
  · have := h.size
    rw [h'.block b (by omega) h1 h2 (fun e => (h.own b e.symm).elim (fun h4 => h3 h4.symm) (fun h4 => by omega)), h.block b hb h1 h2 h3]
  · rcases h'.own k hk with h4 | h4
    · exact h.own k h4
    · exact .inr (Nat.le_trans h.size h4)
theorem Kept.of_below {p : Pl} {q : Option Nat} {w w' : World} (h : Below w.heap.size w w') : Kept p q q w w' := ⟨h.os, h.tape, h.output, h.size, fun b hb _ _ _ => h.block b hb, fun k hk => .inl hk⟩
theorem KV.mono {w w' : World} {base m : Nat} {q q' : Option Nat} {K : Know} (h : KV w base q m K) (hm : w'.heap[m]? = w.heap[m]?) (hw : ∀ g cur, base ≤ g → some g ≠ q → w.heap[g]? = some (.cells cur 3 (0, 0)) → w'.heap[g]? = some (.cells cur 3 (0, 0)) ∧ some g ≠ q') : KV w' base q' m K := by
  obtain ⟨es, clock, h1, h2⟩ := h
  exact ⟨es, clock, hm.trans h1, h2.mono hw⟩
theorem QV.mono {w w' : World} {base : Nat} {v : Value} {l : List Int} (h : QV w base v l) (hw : ∀ g, v.ownBlock = some g → w'.heap[g]? = w.heap[g]?) : QV w' base v l := by
  rcases h with h | ⟨g, o, cap, cur, rfl, h2, h3, h4⟩
  · exact .inl h
  · exact .inr ⟨g, o, cap, cur, rfl, h2, (hw g rfl).trans h3, h4⟩
theorem QV.own_lt {w : World} {base : Nat} {v : Value} {l : List Int} (h : QV w base v l) {g : Nat} (hg : v.ownBlock = some g) : base ≤ g ∧ ∃ cur, w.heap[g]? = some (.cells cur 3 (0, 0)) := by
  rcases h with ⟨rfl, _⟩ | ⟨g', o, cap, cur, rfl, h2, h3, h4⟩
  · cases hg
  · cases hg; exact ⟨h2, cur, h3⟩
theorem WK.pblt {p : Pl} {F : Fn} {w : World} {K : Know} {lv : Value} {left : List Int} (h : WK p F w K lv left) : p.pb < w.heap.size := (Array.getElem?_eq_some_iff.1 h.blk).1
theorem WK.mlt {p : Pl} {F : Fn} {w : World} {K : Know} {lv : Value} {left : List Int} (h : WK p F w K lv left) : p.m < w.heap.size := by
  obtain ⟨es, clock, h1, _⟩ := h.known
  exact (Array.getElem?_eq_some_iff.1 h1).1
theorem WK.ne {p : Pl} {F : Fn} {w : World} {K : Know} {lv : Value} {left : List Int} (h : WK p F w K lv left) : p.pb ≠ p.m ∧ some p.pb ≠ lv.ownBlock ∧ some p.m ≠ lv.ownBlock := by
  obtain ⟨es, clock, h1, _⟩ := h.known
  refine ⟨fun e => ?_, fun e => ?_, fun e => ?_⟩
  · have := h.blk; rw [e, h1] at this; cases this
  · obtain ⟨_, cur, h2⟩ := h.queue.own_lt e.symm
    have := h.blk; rw [h2] at this; cases this
  · obtain ⟨_, cur, h2⟩ := h.queue.own_lt e.symm
    rw [h2] at h1; cases h1
theorem WK.cells {p : Pl} {F : Fn} {w : World} {K : Know} {lv : Value} {left : List Int} (h : WK p F w K lv left) (i : Nat) : w.cell? ⟨p.pb, i, none⟩ = (p.cells F lv)[i]? ∧ w.frozen? ⟨p.pb, i, none⟩ = false :=
  ⟨by simp [World.cell?, h.blk], by simp [World.frozen?, h.blk]⟩
theorem WK.grow {p : Pl} {F : Fn} {w w' : World} {K : Know} {lv : Value} {left : List Int} (h : WK p F w K lv left) (hb : Below w.heap.size w w') : WK p F w' K lv left := by
  refine ⟨(hb.block _ h.pblt).trans h.blk, h.pbge, h.mge, h.known.mono (hb.block _ h.mlt) fun g cur h1 h2 h3 => ⟨(hb.block g (Array.getElem?_eq_some_iff.1 h3).1).trans h3, h2⟩, h.queue.mono fun g hg => ?_, h.n⟩
  obtain ⟨_, cur, h2⟩ := h.queue.own_lt hg
  exact hb.block g (Array.getElem?_eq_some_iff.1 h2).1
theorem TrV.grow {w w' : World} {base : Nat} {q : Option Nat} {v : Value} {l : List Int} (h : TrV w base q v l) (hb : Below w.heap.size w w') : TrV w' base q v l := h.mono fun g cur h1 h2 h3 => ⟨(hb.block g (Array.getElem?_eq_some_iff.1 h3).1).trans h3, h2⟩
theorem Kept.row {p : Pl} {F : Fn} {w w' : World} {K : Know} {lv : Value} {left : List Int} {q' : Option Nat} (hk : Kept p lv.ownBlock q' w w') (h : WK p F w K lv left) {g : Nat} {cur : Array Value} (h2 : some g ≠ lv.ownBlock) (h3 : w.heap[g]? = some (.cells cur 3 (0, 0))) : w'.heap[g]? = some (.cells cur 3 (0, 0)) ∧ some g ≠ q' := by
  have hg := (Array.getElem?_eq_some_iff.1 h3).1
  obtain ⟨es, clock, hm, _⟩ := h.known
  refine ⟨(hk.block g hg (by rintro rfl; rw [h.blk] at h3; cases h3) (by rintro rfl; rw [hm] at h3; cases h3) h2).trans h3, fun e => ?_⟩
  rcases hk.own g e.symm with h4 | h4
  · exact h2 h4.symm
  · omega
theorem TrV.kept {p : Pl} {F : Fn} {w w' : World} {K : Know} {lv v : Value} {left l : List Int} {q' : Option Nat} (h : TrV w p.base lv.ownBlock v l) (hk : Kept p lv.ownBlock q' w w') (hw : WK p F w K lv left) : TrV w' p.base q' v l := h.mono fun g cur _ h2 h3 => hk.row hw h2 h3
end Go.Ck
namespace Go.Ck
open Go Go.RowKit Go.Proofs
theorem i2 : (Tryz.prog.info? 2).map (fun i => (i.size, i.bytes, i.zero)) = some (1, 8, some (.int .i64 0)) := by kernel_rfl
@[go_sem] theorem field119_0 (n : Int) (y : Value) (w : World) : (Instr.field 119 (.agg #[.int .i64 n, y]) 0).run Tryz.prog w = .ok (.int .i64 n) w := by
  obtain ⟨i, hi, hi2⟩ := Option.map_eq_some_iff.1 i2
  injection hi2 with hz0 hz1
  injection hz1 with hz1 hz2
  simp [Instr.field, run_underlying Tryz.underlying119, asAgg, part, sizeOf, typeInfo, hi, hz0, hz2, zeroValue]
theorem max_if (a b : Int) : (if a < b then b else a) = max a b := by rw [Int.max_def]; split <;> split <;> omega
theorem floor_ok {p : Pl} {F : Fn} {w : World} {K : Know} {lv v : Value} {left : List Int} {s : St} (h : WK p F w K lv left) (hv : TrV w p.base lv.ownBlock v s.tr) (hin : ∀ t ∈ s.tr, ∃ s', look K t = some s') (hlen : s.tr.length ≤ 100000) :
    Calls Tryz.prog 84 #[.pointer (some ⟨p.pb, 0, none⟩), stV s v] w fun e w' => e = .returned (.int .i64 (floorOf F.f K s)) ∧ Below w.heap.size w w' := by
  obtain ⟨a, c, rfl, hlc, hrow⟩ := hv
  have hpl := h.pblt
  have hb1 : Below w.heap.size w (w.alloc (.cells #[.int .i64 s.h, .slice a s.tr.length c] 119)) := (Below.refl _ _).alloc (Nat.le_refl _) _
  have hw1 := h.grow hb1
  have f0 : (w.alloc (.cells #[.int .i64 s.h, .slice a s.tr.length c] 119)).cell? ⟨p.pb, 0, none⟩ = some (.int .i64 F.f) := (hw1.cells 0).1
  have f0d : (w.alloc (.cells #[.int .i64 s.h, .slice a s.tr.length c] 119)).drew.cell? ⟨p.pb, 0, none⟩ = some (.int .i64 F.f) := (hw1.cells 0).1
  have f7d : (w.alloc (.cells #[.int .i64 s.h, .slice a s.tr.length c] 119)).drew.cell? ⟨p.pb, 7, none⟩ = some (.map (some p.m)) := (hw1.cells 7).1
  by_cases h0 : s.tr.length = 0
  · have ht : s.tr = [] := List.eq_nil_of_length_eq_zero h0
    have hF : floorOf F.f K s = least F.f := by unfold floorOf lastH; rw [ht]; rfl
    have HL := least_ok _ _ _ f0
    rw [hF]
    have HB := Lib.hid hb1
    have e0 : ¬ (0 : Int) < (s.tr.length : Int) := by omega
    clear h hw1 hrow hin f0d f7d hb1 h0 ht hF
    unfold stV
    go_enter Tryz.func84, Tryz.ntmps84
    go_wp2_with fail
    refine HL.mono ?_
    rintro e w' ⟨rfl, rfl⟩
    go_wp2
    go_ret
    exact ⟨rfl, HB.out⟩
  · have hpos : 0 < s.tr.length := by omega
    have e0 : (0 : Int) < (s.tr.length : Int) := by omega
    have hle : (s.tr.length : Int) ≤ 100000 := by omega
    have e2 : IntKind.i64.wrap ((s.tr.length : Int) - 1) = ((s.tr.length - 1 : Nat) : Int) := by rw [IntKind.wrap_i64]; omega
    have e3 : ((s.tr.length - 1 : Nat) : Int) < (s.tr.length : Int) := by omega
    have e4 : (0 : Int) ≤ ((s.tr.length - 1 : Nat) : Int) := by omega
    obtain ⟨g, o, cur, rfl, hbg, hgq, hg, hcur⟩ := hrow hpos
    obtain ⟨t, ht⟩ : ∃ t, s.tr[s.tr.length - 1]? = some t := ⟨s.tr[s.tr.length - 1]'(by omega), List.getElem?_eq_getElem _⟩
    have hlast : s.tr.getLast? = some t := by rw [List.getLast?_eq_getElem?]; exact ht
    obtain ⟨s', hs'⟩ := hin t (getLast_mem hlast)
    have hF : floorOf F.f K s = max (least F.f) s'.h := by unfold floorOf lastH hAt; rw [hlast]; simp [hs']
    obtain ⟨v', hv', _, hlk⟩ := look_run_hit (hw1.grow (w' := (w.alloc (.cells #[.int .i64 s.h, .slice (some ⟨g, o, none⟩) s.tr.length c] 119)).drew) ((Below.refl _ _).drew)).known hs'
    have HL := least_ok _ _ _ f0d
    have hgl : g < w.heap.size := (Array.getElem?_eq_some_iff.1 hg).1
    have k1 : (w.alloc (.cells #[.int .i64 s.h, .slice (some ⟨g, o, none⟩) s.tr.length c] 119)).drew.cell? ⟨g, o + (s.tr.length - 1), none⟩ = some (.int .i64 t) := by
      have : (w.alloc (.cells #[.int .i64 s.h, .slice (some ⟨g, o, none⟩) s.tr.length c] 119)).drew.heap[g]? = some (.cells cur 3 (0, 0)) := (hb1.block g hgl).trans hg
      simp [World.cell?, this, hcur _ _ ht]
    have k2 : (w.alloc (.cells #[.int .i64 s.h, .slice (some ⟨g, o, none⟩) s.tr.length c] 119)).drew.cell? ⟨w.heap.size, 1, none⟩ = some (.slice (some ⟨g, o, none⟩) s.tr.length c) := by simp [go_sem]
    rw [hF]
    have HB := Lib.hid hb1
    have HLX := Lib.hid HL
    clear h hw1 hrow hin hb1 hF hlast hs' HL hbg hgq hg hcur ht hgl hv' h0 hpos hlc
    unfold stV at hlk ⊢
    go_enter Tryz.func84, Tryz.ntmps84
    go_wp2
    go_region_held3 (fun x => x = (w.alloc (.cells #[.int .i64 s.h, .slice (some ⟨g, o, none⟩) s.tr.length c] 119)).drew) ((first | rfl | assumption))
      ((first | (go_at_call 50; refine HLX.out.mono ?_; rintro e w' ⟨rfl, rfl⟩)))
    all_goals go_wp2
    all_goals go_ret
    all_goals exact ⟨congrArg (fun x => Ending.returned (Value.int .i64 x)) (by omega), HB.out.drew⟩
end Go.Ck
namespace Go.Ck
open Go Go.RowKit Go.Proofs
theorem equal_ok {w : World} {base : Nat} {q : Option Nat} {va vb : Value} {la lb : List Int} (ha : TrV w base q va la) (hb : TrV w base q vb lb) (hla : la.length ≤ 100000) :
    Calls Tryz.prog 82 #[va, vb] w fun e w' => e = .returned (.bool (decide (la = lb))) ∧ Below w.heap.size w w' := by
  have HA := Lib.hid ha
  have HB := Lib.hid hb
  obtain ⟨a, c, rfl, hac, _⟩ := ha
  obtain ⟨b, d, rfl, hbd, _⟩ := hb
  by_cases hl : la.length = lb.length
  · have HL := Lib.hid hl
    rw [← hl] at HB ⊢
    clear hl hac hbd
    go_enter Tryz.func82, Tryz.ntmps82
    go_wp2
    go_loopw [5, 13] (fun _ j wr => ∃ r : Nat, r ≤ la.length ∧ j = .int .i64 r ∧ Hid (∀ i, i < r → la[i]? = lb[i]?) ∧ Hid (wr.heap = w.heap ∧ Below w.heap.size w wr)) (fun _ j _ => la.length - (intOf j).toNat)
    case atStart => exact ⟨0, Nat.zero_le _, rfl, Lib.hid (fun i hi => absurd hi (Nat.not_lt_zero _)), Lib.hid ⟨rfl, Below.refl _ _⟩⟩
    case round =>
      obtain ⟨r, hr, rfl, hE, hO⟩ := hrel
      by_cases hlt : r < la.length
      · obtain ⟨x, hx⟩ : ∃ x, la[r]? = some x := ⟨la[r], List.getElem?_eq_getElem hlt⟩
        obtain ⟨y, hy⟩ : ∃ y, lb[r]? = some y := ⟨lb[r]'(by have := HL.out; omega), List.getElem?_eq_getElem _⟩
        obtain ⟨g, o, rfl, k1⟩ := HA.out.cell hx
        obtain ⟨g', o', rfl, k2⟩ := HB.out.cell hy
        have HX := Lib.hid hx
        have HY := Lib.hid hy
        have hwr := hO.out.1
        have k1' : wr.cell? ⟨g, o + r, none⟩ = some (.int .i64 x) := by rw [← k1]; exact World.cell?_of_block (by rw [hwr])
        have k2' : wr.cell? ⟨g', o' + r, none⟩ = some (.int .i64 y) := by rw [← k2]; exact World.cell?_of_block (by rw [hwr])
        have k1d : wr.drew.cell? ⟨g, o + r, none⟩ = some (.int .i64 x) := k1'
        have k2d : wr.drew.cell? ⟨g', o' + r, none⟩ = some (.int .i64 y) := k2'
        have i1 : (r : Int) < (la.length : Int) := by omega
        have i0 : (0 : Int) ≤ (r : Int) := by omega
        have hb32 : (la.length : Int) ≤ 100000 := by omega
        clear hx hy k1 k2 hwr
        by_cases hxy : x = y
        · subst hxy
          go_wp2
          go_region_held3 (fun z => z = wr.drew) ((first | rfl | assumption)) (fail)
          go_wp2
          go_roundw
          case rel =>
            refine ⟨r + 1, by omega, by simp, Lib.hid fun i hi => ?_, Lib.hid ⟨hO.out.1, hO.out.2.drew⟩⟩
            by_cases hir : i = r
            · subst hir; rw [HX.out, HY.out]
            · exact hE.out i (by omega)
          case measure => simp [intOf]; omega
        · have e1 : (x == y) = false := by simpa using hxy
          go_wp2
          go_region_held3 (fun z => z = wr.drew) ((first | rfl | assumption)) (fail)
          go_wp2
          go_ret
          refine ⟨?_, hO.out.2.drew⟩
          have : ¬ la = lb := by rintro rfl; have := HX.out; rw [HY.out] at this; cases this; exact hxy rfl
          simp [this]
      · obtain rfl : r = la.length := by omega
        go_wp2
        go_ret
        refine ⟨?_, hO.out.2⟩
        have : la = lb := List.ext_getElem? fun i => by
          by_cases hi : i < la.length
          · exact hE.out i hi
          · rw [List.getElem?_eq_none (by omega), List.getElem?_eq_none (by have := HL.out; omega)]
        simp [this]
  · have hne : ¬ la = lb := fun e => hl (by rw [e])
    have e1 : ((la.length : Int) == (lb.length : Int)) = false := by simpa using (by omega : ¬ (la.length : Int) = lb.length)
    clear hl hac hbd
    go_enter Tryz.func82, Tryz.ntmps82
    go_wp2
    go_ret
    exact ⟨by simp [hne], Below.refl _ _⟩
end Go.Ck
namespace Go.Ck
open Go Go.RowKit Go.Proofs
theorem QV.slice {w : World} {base : Nat} {v : Value} {l : List Int} (h : QV w base v l) : ∃ a n c, v = .slice a n c := by
  rcases h with ⟨h, _⟩ | ⟨g, o, cap, cur, h, _⟩
  · exact ⟨_, _, _, h⟩
  · exact ⟨_, _, _, h⟩
theorem wpList_append_run {P : Program} {w w' : World} {ops : Array Oper} {rest : List Oper} {o : Oper} {a : Act} {Q : Exit → Act → World → Prop} (hgd : o.guard = none) (s x : Operand) (t : TypeId)
    (ho : o.op = .call { callee := .builtin .append, args := #[s, x], argTypes := #[t, t] }) {sv xv v' : Value} (hs : a.eval s = sv) (hx : a.eval x = xv) (hr : (Builtin.append_ #[t, t] o.type #[sv, xv]).run P w = .ok v' w')
    (h : wpList P ops Q rest (a.put o.dst v') w') : wpList P ops Q (o :: rest) a w :=
  wpList_plain hgd fun _ hK => by
    unfold Oper.wp execOp
    simp only [ho, resolve, invoke, builtin, Sem.run_bind, Sem.run_pure, Result.andThen_ok, List.map_toArray, List.map_cons, List.map_nil, hs, hx, hr]
    exact hK _ _ h
theorem Kept.grown {p : Pl} {q : Option Nat} {w X w' : World} (hX : Below w.heap.size w X) (hg : X.grownBy w' (some p.m)) : Kept p q q w w' :=
  ⟨hg.os.trans hX.os, hg.tape.trans hX.tape, hg.output.trans hX.output, Nat.le_trans hX.size hg.size, fun b hb _ h2 _ => (hg.block b (by have := hX.size; omega) (fun e => h2 (Option.some.inj e))).trans (hX.block b hb), fun k hk => .inl hk⟩
theorem to_new {p : Pl} {F : Fn} {w : World} {K : Know} {lv v : Value} {left : List Int} {s : St} {q : Int} (h : WK p F w K lv left) (hv : TrV w p.base lv.ownBlock v s.tr) (h0 : 0 ≤ q) (h1 : q < F.code.length) (hk : look K q = none) (hll : left.length ≤ 100000) :
    Calls Tryz.prog 49 #[.pointer (some ⟨p.pb, 0, none⟩), .int .i64 q, stV s v] w fun e w' => e = .returned (.tuple #[]) ∧ ∃ lv', WK p F w' (K ++ [(q, s)]) lv' (left ++ [q]) ∧ Kept p lv.ownBlock lv'.ownBlock w w' := by
  obtain ⟨a, c, rfl, hlc, hrow⟩ := id hv
  have hb1 : Below w.heap.size w (w.alloc (.cells #[.int .i64 s.h, .slice a s.tr.length c] 119)) := (Below.refl _ _).alloc (Nat.le_refl _) _
  have hw1 := h.grow hb1
  have f1 : (w.alloc (.cells #[.int .i64 s.h, .slice a s.tr.length c] 119)).cell? ⟨p.pb, 1, none⟩ = some (.slice p.ca F.code.length p.cc) := (hw1.cells 1).1
  have f7 : (w.alloc (.cells #[.int .i64 s.h, .slice a s.tr.length c] 119)).cell? ⟨p.pb, 7, none⟩ = some (.map (some p.m)) := (hw1.cells 7).1
  obtain ⟨hlk, _⟩ := look_run_miss hw1.known hk
  have HA := Lib.hid (ask_ok (w.alloc (.cells #[.int .i64 s.h, .slice a s.tr.length c] 119)))
  obtain ⟨W2, hW2⟩ : ∃ W2, W2 = (w.alloc (.cells #[.int .i64 s.h, .slice a s.tr.length c] 119)).alloc (.cells #[.int .i64 0, .slice none 0 0] 119) := ⟨_, rfl⟩
  have hb2 : Below w.heap.size w W2.drew := by rw [hW2]; exact (hb1.alloc (by simp) _).drew
  have hs2 : W2.heap.size = w.heap.size + 2 := by rw [hW2]; simp
  have hw2 := h.grow hb2
  have hv2 := hv.grow hb2
  obtain ⟨w3, hput, hg3, hk3⟩ := put_run hw2.known hk hv2
  have hne := hw2.ne
  have d7 : W2.drew.cell? ⟨p.pb, 7, none⟩ = some (.map (some p.m)) := (hw2.cells 7).1
  have d0 : W2.drew.cell? ⟨w.heap.size, 0, none⟩ = some (.int .i64 s.h) := by rw [hW2]; simp [go_sem]
  have d1 : W2.drew.cell? ⟨w.heap.size, 1, none⟩ = some (.slice a s.tr.length c) := by rw [hW2]; simp [go_sem]
  have hml := h.mlt
  have hK3 : Kept p lv.ownBlock lv.ownBlock w w3 := Kept.grown hb2 hg3
  have b3 : ∀ b, b < W2.heap.size → b ≠ p.m → w3.heap[b]? = W2.heap[b]? := fun b hb hne => hg3.block b hb (fun e => hne (Option.some.inj e))
  have hw3 : WK p F w3 (K ++ [(q, s)]) lv left := by
    refine ⟨(b3 _ (by have := h.pblt; omega) hne.1).trans hw2.blk, h.pbge, h.mge, hk3, hw2.queue.mono fun g hg => ?_, h.n⟩
    obtain ⟨_, cur, hc⟩ := hw2.queue.own_lt hg
    exact b3 g (Array.getElem?_eq_some_iff.1 hc).1 (fun e => hne.2.2 (by rw [← e]; exact hg.symm))
  have e7 : w3.cell? ⟨p.pb, 7, none⟩ = some (.map (some p.m)) := (hw3.cells 7).1
  have e8 : w3.cell? ⟨p.pb, 8, none⟩ = some lv := (hw3.cells 8).1
  have e0 : w3.cell? ⟨w.heap.size, 0, none⟩ = some (.int .i64 s.h) := by rw [World.cell?_of_block (w := W2) (a := ⟨w.heap.size, 0, none⟩) (b3 w.heap.size (by omega) (by omega))]; exact d0
  have e1 : w3.cell? ⟨w.heap.size, 1, none⟩ = some (.slice a s.tr.length c) := by rw [World.cell?_of_block (w := W2) (a := ⟨w.heap.size, 1, none⟩) (b3 w.heap.size (by omega) (by omega))]; exact d1
  -- the place behind those that are left
  have hb4 : Below w3.heap.size w3 (w3.alloc (.cells #[.int .i64 q] 3)) := (Below.refl _ _).alloc (Nat.le_refl _) _
  have hw4 := hw3.grow hb4
  have hbase : p.base ≤ (w3.alloc (.cells #[.int .i64 q] 3)).heap.size := by have := hw4.pblt; have := h.pbge; omega
  obtain ⟨lv', w5, happ, hq5, hg5, hown⟩ := append_q (ty := 36) (nb := w3.heap.size) (t := q) hw4.queue hbase (by simp [go_sem]) hll
  obtain ⟨a', n', c', rfl⟩ := hq5.slice
  have hw5l := hg5.size
  have hne4 := hw4.ne
  have b5 : ∀ b, b < (w3.alloc (.cells #[.int .i64 q] 3)).heap.size → some b ≠ lv.ownBlock → w5.heap[b]? = (w3.alloc (.cells #[.int .i64 q] 3)).heap[b]? := fun b hb hne => hg5.block b hb hne
  have hpb5 : w5.heap[p.pb]? = some (.cells (p.cells F lv) 115 (0, 0)) := (b5 _ hw4.pblt hne4.2.1).trans hw4.blk
  have g8 : w5.cell? ⟨p.pb, 8, none⟩ = some lv := by simp [World.cell?, hpb5]; rfl
  have g8f : w5.frozen? ⟨p.pb, 8, none⟩ = false := by simp [World.frozen?, hpb5]
  -- the end
  have hfin : WK p F (w5.setCell ⟨p.pb, 8, none⟩ (.slice a' n' c')) (K ++ [(q, s)]) (.slice a' n' c') (left ++ [q]) ∧ Kept p lv.ownBlock (Value.slice a' n' c').ownBlock w (w5.setCell ⟨p.pb, 8, none⟩ (.slice a' n' c')) := by
    have w6 : ∀ b, b ≠ p.pb → (w5.setCell ⟨p.pb, 8, none⟩ (.slice a' n' c')).heap[b]? = w5.heap[b]? := fun b hb => heap_setCell_other w5 ⟨p.pb, 8, none⟩ b _ hb
    have hml4 := hw4.mlt
    have hm6 : (w5.setCell ⟨p.pb, 8, none⟩ (.slice a' n' c')).heap[p.m]? = (w3.alloc (.cells #[.int .i64 q] 3)).heap[p.m]? := (w6 _ (Ne.symm hne4.1)).trans (b5 _ hml4 hne4.2.2)
    have hp6 : (w5.setCell ⟨p.pb, 8, none⟩ (.slice a' n' c')).heap[p.pb]? = some (.cells (p.cells F (.slice a' n' c')) 115 (0, 0)) := by
      rw [heap_setCell_same w5 p.pb 8 _ _ _ hpb5]; rfl
    refine ⟨⟨hp6, h.pbge, h.mge, hw4.known.mono hm6 fun g cur k1 k2 k3 => ⟨?_, fun e => ?_⟩, hq5.mono fun g hg => ?_, h.n⟩, hK3.trans ((Kept.of_below hb4).trans ⟨?_, ?_, ?_, ?_, fun b hb k1 k2 k3 => ?_, hown⟩)⟩
    · rw [w6 g (by rintro rfl; rw [hw4.blk] at k3; cases k3), b5 g (Array.getElem?_eq_some_iff.1 k3).1 k2]; exact k3
    · rcases hown g e.symm with h4 | h4
      · exact k2 h4.symm
      · have := (Array.getElem?_eq_some_iff.1 k3).1; omega
    · obtain ⟨_, cur, hc⟩ := hq5.own_lt hg
      exact w6 g (by rintro rfl; rw [hpb5] at hc; cases hc)
    · exact hg5.os
    · exact hg5.tape
    · exact hg5.output
    · simpa using hg5.size
    · rw [w6 b k1, b5 b hb k3]
  have HF := Lib.hid hfin
  have HP := Lib.hid hpb5
  clear h hv hrow hw1 hb1 hb2 hw2 hv2 hg3 hk3 hne hK3 b3 hw3 hb4 hw4 hbase hq5 hg5 hne4 b5 hown hfin hll hpb5 hml
  unfold stV at hput ⊢
  go_enter Tryz.func49, Tryz.ntmps49
  go_wp2_with fail
  refine HA.out.mono ?_
  rintro e w' ⟨rfl, rfl⟩
  go_wp2_with fail
  rw [← hW2]
  clear hW2
  go_region_held3 (fun x => x.cell? ⟨p.pb, 7, none⟩ = some (.map (some p.m)) ∧ x.cell? ⟨w.heap.size, 0, none⟩ = some (.int .i64 s.h) ∧ x.cell? ⟨w.heap.size, 1, none⟩ = some (.slice a s.tr.length c))
    ((first | exact ⟨d7, d0, d1⟩ | exact ⟨e7, e0, e1⟩)) (fail)
  go_wp2_with (at_builtin; refine wpList_append_run rfl _ _ 36 rfl rfl rfl happ ?_)
  go_wp2
  go_end0
  exact ⟨rfl, _, HF.out⟩
end Go.Ck
namespace Go.Ck
open Go Go.RowKit Go.Proofs
theorem to_known {p : Pl} {F : Fn} {w : World} {K : Know} {lv v : Value} {left : List Int} {s s' : St} {q : Int} (h : WK p F w K lv left) (hv : TrV w p.base lv.ownBlock v s.tr) (h0 : 0 ≤ q) (h1 : q < F.code.length) (hk : look K q = some s') (hlen : s'.tr.length ≤ 100000) :
    Calls Tryz.prog 49 #[.pointer (some ⟨p.pb, 0, none⟩), .int .i64 q, stV s v] w fun e w' => e = (if s' = s then .returned (.tuple #[]) else .panicked [⟨wrongV, false, false⟩]) ∧ Below w.heap.size w w' := by
  obtain ⟨a, c, rfl, hlc, hrow⟩ := id hv
  have hb1 : Below w.heap.size w (w.alloc (.cells #[.int .i64 s.h, .slice a s.tr.length c] 119)) := (Below.refl _ _).alloc (Nat.le_refl _) _
  have hw1 := h.grow hb1
  have f1 : (w.alloc (.cells #[.int .i64 s.h, .slice a s.tr.length c] 119)).cell? ⟨p.pb, 1, none⟩ = some (.slice p.ca F.code.length p.cc) := (hw1.cells 1).1
  have f7 : (w.alloc (.cells #[.int .i64 s.h, .slice a s.tr.length c] 119)).cell? ⟨p.pb, 7, none⟩ = some (.map (some p.m)) := (hw1.cells 7).1
  obtain ⟨v', hv', hlk, _⟩ := look_run_hit hw1.known hk
  have HA := Lib.hid (ask_ok (w.alloc (.cells #[.int .i64 s.h, .slice a s.tr.length c] 119)))
  obtain ⟨a', c', rfl, hlc', _⟩ := id hv'
  have hb2 : Below w.heap.size w ((w.alloc (.cells #[.int .i64 s.h, .slice a s.tr.length c] 119)).alloc (.cells #[.int .i64 s'.h, .slice a' s'.tr.length c'] 119)) := hb1.alloc (by simp) _
  have HB2 := Lib.hid hb2
  have hv2 := hv.grow hb2
  have hv2' := hv'.grow (w' := (w.alloc (.cells #[.int .i64 s.h, .slice a s.tr.length c] 119)).alloc (.cells #[.int .i64 s'.h, .slice a' s'.tr.length c'] 119)) ((Below.refl _ _).alloc (Nat.le_refl _) _)
  have HE := Lib.hid (equal_ok hv2' hv2 hlen)
  have HT := Lib.hid (fun w => ask_ok w)
  have HN := Lib.hid (fun w => ask_bad w)
  have hEq : (s' = s) ↔ s'.h = s.h ∧ s'.tr = s.tr := ⟨fun e => by rw [e]; exact ⟨rfl, rfl⟩, fun ⟨e1, e2⟩ => by cases s'; cases s; simp_all⟩
  have HQ := Lib.hid hEq
  clear h hv hrow hw1 hb1 hb2 hv2 hv2' hv' hEq
  unfold stV at hlk ⊢
  by_cases hh : s'.h = s.h
  · have HH := Lib.hid hh
    rw [hh] at hlk HE HB2
    clear hh
    go_enter Tryz.func49, Tryz.ntmps49
    go_wp2_with fail
    refine HA.out.mono ?_
    rintro e w' ⟨rfl, rfl⟩
    go_wp2_with fail
    refine HE.out.mono ?_
    rintro e w3 ⟨rfl, hb3⟩
    have HB3 := Lib.hid (HB2.out.trans (hb3.mono HB2.out.size))
    clear hb3
    by_cases ht : s'.tr = s.tr
    · have e : decide (s'.tr = s.tr) = true := decide_eq_true ht
      rw [e]
      have HD : Hid (s' = s) := Lib.hid (HQ.out.2 ⟨HH.out, ht⟩)
      clear ht e
      go_wp2_with fail
      refine (HT.out _).mono ?_
      rintro e w4 ⟨rfl, rfl⟩
      go_wp2
      (try simp only [Exit.inBlock, Exit.then])
      refine bodyPost_ret (results_none rfl _ _ _) rfl ?_
      exact ⟨by first | rfl | rw [if_pos HD.out], HB3.out⟩
    · have e : decide (s'.tr = s.tr) = false := decide_eq_false ht
      rw [e]
      have HD : Hid (¬ s' = s) := Lib.hid (fun e => ht (HQ.out.1 e).2)
      clear ht e
      go_wp2_with fail
      refine (HN.out _).mono ?_
      rintro e w4 ⟨rfl, rfl⟩
      go_wp2
      exact ⟨rfl, by first | rfl | rw [if_neg HD.out], HB3.out⟩
  · have HD : Hid (¬ s' = s) := Lib.hid (fun e => hh (HQ.out.1 e).1)
    have e1 : (s'.h == s.h) = false := by simpa using hh
    go_enter Tryz.func49, Tryz.ntmps49
    go_wp2_with fail
    refine HA.out.mono ?_
    rintro e w' ⟨rfl, rfl⟩
    go_wp2_with fail
    refine (HN.out _).mono ?_
    rintro e w4 ⟨rfl, rfl⟩
    go_wp2
    exact ⟨rfl, by first | rfl | rw [if_neg HD.out], HB2.out⟩
theorem to_out {p : Pl} {F : Fn} {w : World} {K : Know} {lv v : Value} {left : List Int} {s : St} {q : Int} (h : WK p F w K lv left) (hv : TrV w p.base lv.ownBlock v s.tr) (h0 : ¬ (0 ≤ q ∧ q < F.code.length)) :
    Calls Tryz.prog 49 #[.pointer (some ⟨p.pb, 0, none⟩), .int .i64 q, stV s v] w fun e w' => e = .panicked [⟨wrongV, false, false⟩] ∧ Below w.heap.size w w' := by
  obtain ⟨a, c, rfl, hlc, hrow⟩ := id hv
  have hb1 : Below w.heap.size w (w.alloc (.cells #[.int .i64 s.h, .slice a s.tr.length c] 119)) := (Below.refl _ _).alloc (Nat.le_refl _) _
  have hw1 := h.grow hb1
  have f1 : (w.alloc (.cells #[.int .i64 s.h, .slice a s.tr.length c] 119)).cell? ⟨p.pb, 1, none⟩ = some (.slice p.ca F.code.length p.cc) := (hw1.cells 1).1
  have HN := Lib.hid (fun w => ask_bad w)
  have HB := Lib.hid hb1
  clear h hv hrow hw1 hb1
  unfold stV
  by_cases hq : 0 ≤ q
  · have hq2 : ¬ q < (F.code.length : Int) := fun e => h0 ⟨hq, e⟩
    clear h0
    go_enter Tryz.func49, Tryz.ntmps49
    go_wp2_with fail
    refine (HN.out _).mono ?_
    rintro e w4 ⟨rfl, rfl⟩
    go_wp2
    exact ⟨rfl, rfl, HB.out⟩
  · clear h0
    go_enter Tryz.func49, Tryz.ntmps49
    go_wp2_with fail
    refine (HN.out _).mono ?_
    rintro e w4 ⟨rfl, rfl⟩
    go_wp2
    exact ⟨rfl, rfl, HB.out⟩
end Go.Ck
namespace Go.Ck
open Go Go.RowKit Go.Proofs
structure Small (K : Know) (left : List Int) : Prop where
  left : left.length ≤ 100000
  tr : ∀ e ∈ K, e.2.tr.length ≤ 100000
theorem Small.look {K : Know} {left : List Int} (h : Small K left) {q : Int} {s : St} (hk : look K q = some s) : s.tr.length ≤ 100000 := h.tr _ (look_mem hk)
theorem Kept.below {p : Pl} {F : Fn} {w w' : World} {K : Know} {lv : Value} {left : List Int} {q' : Option Nat} (hk : Kept p lv.ownBlock q' w w') (h : WK p F w K lv left) : Below p.base w w' := by
  refine ⟨hk.os, hk.tape, hk.output, hk.size, fun b hb => hk.block b (by have := h.pblt; have := h.pbge; omega) (by have := h.pbge; omega) (by have := h.mge; omega) fun e => ?_⟩
  have := (h.queue.own_lt e.symm).1
  omega
theorem to_ok {p : Pl} {F : Fn} {w : World} {K K' : Know} {lv v : Value} {left left' : List Int} {s : St} {q : Int} (h : WK p F w K lv left) (hv : TrV w p.base lv.ownBlock v s.tr) (hs : Small K left) (ht : toP F.code.length K left (q, s) = some (K', left')) :
    Calls Tryz.prog 49 #[.pointer (some ⟨p.pb, 0, none⟩), .int .i64 q, stV s v] w fun e w' => e = .returned (.tuple #[]) ∧ ∃ lv', WK p F w' K' lv' left' ∧ Kept p lv.ownBlock lv'.ownBlock w w' := by
  unfold toP at ht
  split at ht
  · rename_i hr
    cases hk : look K q with
    | some s' =>
      rw [hk] at ht
      simp only at ht
      split at ht
      · rename_i hss
        cases ht
        refine (to_known h hv hr.1 hr.2 hk (hs.look hk)).mono fun e w' ⟨h1, h2⟩ => ⟨by rw [h1, if_pos hss], lv, h.grow h2, Kept.of_below h2⟩
      · cases ht
    | none =>
      rw [hk] at ht
      cases ht
      exact to_new h hv hr.1 hr.2 hk hs.left
  · cases ht
theorem to_no {p : Pl} {F : Fn} {w : World} {K : Know} {lv v : Value} {left : List Int} {s : St} {q : Int} (h : WK p F w K lv left) (hv : TrV w p.base lv.ownBlock v s.tr) (hs : Small K left) (ht : toP F.code.length K left (q, s) = none) :
    Calls Tryz.prog 49 #[.pointer (some ⟨p.pb, 0, none⟩), .int .i64 q, stV s v] w fun e w' => e = .panicked [⟨wrongV, false, false⟩] ∧ Below w.heap.size w w' := by
  unfold toP at ht
  split at ht
  · rename_i hr
    cases hk : look K q with
    | some s' =>
      rw [hk] at ht
      simp only at ht
      split at ht
      · cases ht
      · rename_i hss
        refine (to_known h hv hr.1 hr.2 hk (hs.look hk)).mono fun e w' ⟨h1, h2⟩ => ⟨by rw [h1, if_neg hss], h2⟩
    | none => rw [hk] at ht; cases ht
  · rename_i hr
    exact to_out h hv hr
theorem on_no1 {p : Pl} {F : Fn} {w : World} {K : Know} {lv v : Value} {left : List Int} {s : St} {q takes puts : Int} (h : WK p F w K lv left) (hv : TrV w p.base lv.ownBlock v s.tr) (hin : ∀ t ∈ s.tr, ∃ s', look K t = some s') (hsm : Small K left) (hlen : s.tr.length ≤ 100000)
    (h0 : 0 ≤ s.h) (h1 : s.h ≤ 1000000000) (t0 : 0 ≤ takes) (t1 : takes ≤ 100000) (p0 : 0 ≤ puts) (p1 : puts ≤ 100000) (q0 : 0 ≤ q) (q1 : q ≤ 100000) (hf : ¬ floorOf F.f K s ≤ s.h - takes) :
    Calls Tryz.prog 83 #[.pointer (some ⟨p.pb, 0, none⟩), .int .i64 q, stV s v, .int .i64 takes, .int .i64 puts] w fun e w' => e = .panicked [⟨wrongV, false, false⟩] ∧ Below w.heap.size w w' := by
  obtain ⟨a, c, rfl, hlc, hrow⟩ := id hv
  obtain ⟨W2, hW2⟩ : ∃ W2, W2 = (w.alloc (.cells #[.int .i64 s.h, .slice a s.tr.length c] 119)).alloc (.cells #[.int .i64 0, .slice none 0 0] 119) := ⟨_, rfl⟩
  have hb2 : Below w.heap.size w W2.drew := by rw [hW2]; exact (((Below.refl _ _).alloc (Nat.le_refl _) _).alloc (by simp) _).drew
  have hs2 : W2.heap.size = w.heap.size + 2 := by rw [hW2]; simp
  have hw2 := h.grow hb2
  have HF := Lib.hid (floor_ok hw2 (hv.grow hb2) hin hlen)
  have d0 : W2.drew.cell? ⟨w.heap.size, 0, none⟩ = some (.int .i64 s.h) := by rw [hW2]; simp [go_sem]
  have d1 : W2.drew.cell? ⟨w.heap.size, 1, none⟩ = some (.slice a s.tr.length c) := by rw [hW2]; simp [go_sem]
  have HS : Hid (∀ x, Below W2.heap.size W2.drew x → Hid (Below W2.heap.size W2.drew x) ∧ x.cell? ⟨w.heap.size, 0, none⟩ = some (.int .i64 s.h) ∧ x.cell? ⟨w.heap.size, 1, none⟩ = some (.slice a s.tr.length c)) := Lib.hid fun x hx =>
    ⟨Lib.hid hx, by rw [hx.cell (p := ⟨w.heap.size, 0, none⟩) (by show w.heap.size < _; omega)]; exact d0, by rw [hx.cell (p := ⟨w.heap.size, 1, none⟩) (by show w.heap.size < _; omega)]; exact d1⟩
  have hwr : IntKind.i64.wrap (s.h - takes) = s.h - takes := by rw [IntKind.wrap_i64]; omega
  have HB := Lib.hid hb2
  have hlt := h.pblt
  have HN := Lib.hid (fun w => ask_bad w)
  clear h hv hrow hb2 hw2 hin hsm
  generalize floorOf F.f K s = fl at *
  unfold stV at *
  go_enter Tryz.func83, Tryz.ntmps83
  go_wp2
  rw [← hW2]
  clear hW2
  refine wp_region_held_drew (S := (fun x => Hid (Below W2.heap.size W2.drew x) ∧ x.cell? ⟨w.heap.size, 0, none⟩ = some (.int .i64 s.h) ∧ x.cell? ⟨w.heap.size, 1, none⟩ = some (.slice a s.tr.length c))) (by kernel_rfl) ?_ (fun hHeld => ?_)
  · exact HS.out _ (Below.refl _ _)
  refine wpAnyH_take (i := 0) (oi := { dst := some 11, op := .fieldAddr 119 (.tmp 7) 0, type := _, pos := _, after := _, guard := none }) (v := ?vq1) rfl (by kernel_rfl) (by kernel_rfl) (by kernel_rfl) (fun _ _ _ h => h) (Or.inl ⟨by rfl, ?hyq1⟩) (by assumption) ?restq1
  case hyq1 => (intro w hSw; (try dsimp only at hSw); go_simp; try with_reducible rfl)
  try simp only [Act.put, List.setIfInBounds_toArray, List.set_cons_zero, List.set_cons_succ]
  refine wpAnyH_take (i := 1) (oi := { dst := some 12, op := .load 2 (.tmp 11), type := _, pos := _, after := _, guard := none }) (v := ?vq2) rfl (by kernel_rfl) (by kernel_rfl) (by kernel_rfl) (fun _ _ _ h => h) (Or.inl ⟨by rfl, ?hyq2⟩) (by assumption) ?restq2
  case hyq2 => (intro w hSw; (try dsimp only at hSw); go_simp; try with_reducible rfl)
  try simp only [Act.put, List.setIfInBounds_toArray, List.set_cons_zero, List.set_cons_succ]
  refine wpAnyH_take (i := 2) (oi := { dst := some 13, op := .move (.tmp 3), type := _, pos := _, after := _, guard := none }) (v := ?vq3) rfl (by kernel_rfl) (by kernel_rfl) (by kernel_rfl) (fun _ _ _ h => h) (Or.inl ⟨by rfl, ?hyq3⟩) (by assumption) ?restq3
  case hyq3 => (intro w hSw; (try dsimp only at hSw); go_simp; try with_reducible rfl)
  try simp only [Act.put, List.setIfInBounds_toArray, List.set_cons_zero, List.set_cons_succ]
  refine wpAnyH_take (i := 3) (oi := { dst := some 14, op := .binOp .sub 2 (.tmp 12) (.tmp 13) 2, type := _, pos := _, after := _, guard := none }) (v := ?vq4) rfl (by kernel_rfl) (by kernel_rfl) (by kernel_rfl) (fun _ _ _ h => h) (Or.inl ⟨by rfl, ?hyq4⟩) (by assumption) ?restq4
  case hyq4 => (intro w hSw; (try dsimp only at hSw); go_simp; try with_reducible rfl)
  try simp only [Act.put, List.setIfInBounds_toArray, List.set_cons_zero, List.set_cons_succ]
  refine wpAnyH_take (i := 4) (oi := { dst := some 15, op := .move (.tmp 0), type := _, pos := _, after := _, guard := none }) (v := ?vq5) rfl (by kernel_rfl) (by kernel_rfl) (by kernel_rfl) (fun _ _ _ h => h) (Or.inl ⟨by rfl, ?hyq5⟩) (by assumption) ?restq5
  case hyq5 => (intro w hSw; (try dsimp only at hSw); go_simp; try with_reducible rfl)
  try simp only [Act.put, List.setIfInBounds_toArray, List.set_cons_zero, List.set_cons_succ]
  refine wpAnyH_take (i := 5) (oi := { dst := some 16, op := .load 119 (.tmp 7), type := _, pos := _, after := _, guard := none }) (v := ?vq6) rfl (by kernel_rfl) (by kernel_rfl) (by kernel_rfl) (fun _ _ _ h => h) (Or.inl ⟨by rfl, ?hyq6⟩) (by assumption) ?restq6
  case hyq6 => (intro w hSw; (try dsimp only at hSw); go_simp; try with_reducible rfl)
  try simp only [Act.put, List.setIfInBounds_toArray, List.set_cons_zero, List.set_cons_succ]
  refine wpAnyH_ready (rs := [6]) (by kernel_rfl) (by simp) ?_
  refine AllReadyH.cons (o := { dst := some 17, op := .call { callee := .value (.func 84), args := #[.tmp 15, .tmp 16], argTypes := #[112, 119] }, type := _, pos := _, after := _, guard := none }) rfl (fun K hK => ?_) AllReadyH.nil
  go_simp
  go_at_call 84
  refine HF.out.mono ?_
  rintro e w3 ⟨rfl, hb3⟩
  refine hK.out _ _ ?_ (fun hHeld => ?_)
  · exact HS.out _ hb3
  clear hK K
  try simp only [Act.put, List.setIfInBounds_toArray, List.set_cons_zero, List.set_cons_succ]
  refine wpAnyH_take (i := 7) (oi := { dst := some 18, op := .binOp .geq 2 (.tmp 14) (.tmp 17) 2, type := _, pos := _, after := _, guard := none }) (v := ?vq7) rfl (by kernel_rfl) (by kernel_rfl) (by kernel_rfl) (fun _ _ _ h => h) (Or.inl ⟨by rfl, ?hyq7⟩) (by assumption) ?restq7
  case hyq7 => (intro w hSw; (try dsimp only at hSw); go_simp; try with_reducible rfl)
  try simp only [Act.put, List.setIfInBounds_toArray, List.set_cons_zero, List.set_cons_succ]
  refine wpAnyH_ready (rs := [8]) (by kernel_rfl) (by simp) ?_
  refine AllReadyH.cons (o := { dst := some 19, op := .call { callee := .value (.func 81), args := #[.tmp 18], argTypes := #[4] }, type := _, pos := _, after := _, guard := none }) rfl (fun K hK => ?_) AllReadyH.nil
  go_simp
  rw [decide_eq_false (by omega : ¬ fl ≤ s.h - takes)]
  go_at_call 81
  refine (HN.out _).mono ?_
  rintro e w4 ⟨rfl, rfl⟩
  have hlast := HB.out.trans ((‹Hid (Below W2.heap.size W2.drew _) ∧ _›).1.out.mono (by have := HB.out.size; exact Nat.le_trans (by omega) (Nat.le_refl _)))
  simp only [Exit.then]
  exact ⟨rfl, rfl, hlast⟩
theorem two_new (w : World) (A B : Obj) : ((w.alloc A).alloc B).heap[w.heap.size + 1]? = some B := by
  have e : (w.alloc A).heap.size = w.heap.size + 1 := by simp
  rw [← e]
  exact heap_alloc_new _ _
theorem setCell_ne {w : World} {b i g : Nat} {u : Value} (h : g ≠ b) : (w.setCell ⟨b, i, none⟩ u).heap[g]? = w.heap[g]? := heap_setCell_other w ⟨b, i, none⟩ g u h
theorem WK.box {p : Pl} {F : Fn} {w : World} {K : Know} {lv : Value} {left : List Int} (h : WK p F w K lv left) {b : Nat} {cs : Array Value} (hb : w.heap[b]? = some (.cells cs 119 (0, 0))) (i : Nat) (u : Value) : WK p F (w.setCell ⟨b, i, none⟩ u) K lv left := by
  obtain ⟨es, clock, hm, _⟩ := h.known
  refine ⟨(setCell_ne (by rintro e; rw [← e, h.blk] at hb; cases hb)).trans h.blk, h.pbge, h.mge, h.known.mono (setCell_ne (by rintro e; rw [← e, hm] at hb; cases hb)) fun g cur _ h2 h3 => ⟨(setCell_ne (by rintro rfl; rw [h3] at hb; cases hb)).trans h3, h2⟩, h.queue.mono fun g hg => setCell_ne ?_, h.n⟩
  obtain ⟨_, cur, hc⟩ := h.queue.own_lt hg
  rintro rfl
  rw [hc] at hb; cases hb
theorem TrV.box {w : World} {base : Nat} {q : Option Nat} {v : Value} {l : List Int} (h : TrV w base q v l) {b : Nat} {cs : Array Value} (hb : w.heap[b]? = some (.cells cs 119 (0, 0))) (i : Nat) (u : Value) : TrV (w.setCell ⟨b, i, none⟩ u) base q v l :=
  h.mono fun g cur _ h2 h3 => ⟨(setCell_ne (by rintro rfl; rw [h3] at hb; cases hb)).trans h3, h2⟩
theorem Kept.box {p : Pl} {q : Option Nat} {w X : World} {b : Nat} (hb : w.heap.size ≤ b) (hX : Below w.heap.size w X) (i : Nat) (u : Value) : Kept p q q w (X.setCell ⟨b, i, none⟩ u) := Kept.of_below (hX.setCell hb u)
theorem Kept.setBox {p : Pl} {q q' : Option Nat} {w X : World} (h : Kept p q q' w X) {b : Nat} (hb : w.heap.size ≤ b) (i : Nat) (u : Value) : Kept p q q' w (X.setCell ⟨b, i, none⟩ u) :=
  ⟨h.os, h.tape, h.output, by simpa using h.size, fun k hk h1 h2 h3 => (setCell_ne (by omega)).trans (h.block k hk h1 h2 h3), h.own⟩
theorem run_result_cell {fn : Func} {t : Tmp} {T : TypeId} (h : fn.results = #[.cell t T]) (tmps : Array Value) (P : Program) (w : World) : (results fn tmps).run P w = ((asAddr (tmps.getD t undef)).run P w).andThen fun a w₁ => (loadVar T a).run P w₁ := by
  simp only [results, h]
  simp [Sem.run_bind, Result.andThen]
theorem on_ok {p : Pl} {F : Fn} {w : World} {K K' : Know} {lv v : Value} {left left' : List Int} {s : St} {q takes puts : Int} (h : WK p F w K lv left) (hv : TrV w p.base lv.ownBlock v s.tr) (hin : ∀ t ∈ s.tr, ∃ s', look K t = some s') (hsm : Small K left) (hlen : s.tr.length ≤ 100000)
    (h0 : 0 ≤ s.h) (h1 : s.h ≤ 1000000000) (t0 : 0 ≤ takes) (t1 : takes ≤ 100000) (p0 : 0 ≤ puts) (p1 : puts ≤ 100000) (q0 : 0 ≤ q) (q1 : q ≤ 100000) (hf : floorOf F.f K s ≤ s.h - takes) (ht : toP F.code.length K left (q + 1, ⟨s.h - takes + puts, s.tr⟩) = some (K', left')) :
    Calls Tryz.prog 83 #[.pointer (some ⟨p.pb, 0, none⟩), .int .i64 q, stV s v, .int .i64 takes, .int .i64 puts] w fun e w' => e = .returned (stV ⟨s.h - takes + puts, s.tr⟩ v) ∧ ∃ lv', WK p F w' K' lv' left' ∧ Kept p lv.ownBlock lv'.ownBlock w w' := by
  obtain ⟨a, c, rfl, hlc, hrow⟩ := id hv
  obtain ⟨W2, hW2⟩ : ∃ W2, W2 = (w.alloc (.cells #[.int .i64 s.h, .slice a s.tr.length c] 119)).alloc (.cells #[.int .i64 0, .slice none 0 0] 119) := ⟨_, rfl⟩
  have hb2 : Below w.heap.size w W2.drew := by rw [hW2]; exact (((Below.refl _ _).alloc (Nat.le_refl _) _).alloc (by simp) _).drew
  have hs2 : W2.heap.size = w.heap.size + 2 := by rw [hW2]; simp
  have hw2 := h.grow hb2
  have HF := Lib.hid (floor_ok hw2 (hv.grow hb2) hin hlen)
  have d0 : W2.drew.cell? ⟨w.heap.size, 0, none⟩ = some (.int .i64 s.h) := by rw [hW2]; simp [go_sem]
  have d1 : W2.drew.cell? ⟨w.heap.size, 1, none⟩ = some (.slice a s.tr.length c) := by rw [hW2]; simp [go_sem]
  have HS : Hid (∀ x, Below W2.heap.size W2.drew x → Hid (Below W2.heap.size W2.drew x) ∧ x.cell? ⟨w.heap.size, 0, none⟩ = some (.int .i64 s.h) ∧ x.cell? ⟨w.heap.size, 1, none⟩ = some (.slice a s.tr.length c)) := Lib.hid fun x hx =>
    ⟨Lib.hid hx, by rw [hx.cell (p := ⟨w.heap.size, 0, none⟩) (by show w.heap.size < _; omega)]; exact d0, by rw [hx.cell (p := ⟨w.heap.size, 1, none⟩) (by show w.heap.size < _; omega)]; exact d1⟩
  have hwr : IntKind.i64.wrap (s.h - takes) = s.h - takes := by rw [IntKind.wrap_i64]; omega
  have HB := Lib.hid hb2
  have hlt := h.pblt
  have HA := Lib.hid (fun w => ask_ok w)
  have c0 : W2.drew.heap[w.heap.size]? = some (.cells #[.int .i64 s.h, .slice a s.tr.length c] 119 (0, 0)) := by rw [hW2]; exact (Below.heap_alloc _ _ _ (by simp)).trans (heap_alloc_new w _)
  have c1 : W2.drew.heap[w.heap.size + 1]? = some (.cells #[.int .i64 0, .slice none 0 0] 119 (0, 0)) := by rw [hW2]; exact two_new w _ _
  have hml := h.mlt
  have howlt : ∀ k, lv.ownBlock = some k → k < w.heap.size := fun k hk => by obtain ⟨_, cur, hc⟩ := h.queue.own_lt hk; exact (Array.getElem?_eq_some_iff.1 hc).1
  have HZ : Hid (∀ x, Below W2.heap.size W2.drew x → x.frozen? ⟨w.heap.size, 0, none⟩ = false) := Lib.hid fun x hx => by
    have x0 := (hx.block _ (by omega : w.heap.size < W2.heap.size)).trans c0
    simp [World.frozen?, x0]
  have HTO : Hid (∀ x, Below W2.heap.size W2.drew x → Calls Tryz.prog 49 #[.pointer (some ⟨p.pb, 0, none⟩), .int .i64 (q + 1), .agg #[.int .i64 (s.h - takes + puts), .slice a s.tr.length c]] (x.setCell ⟨w.heap.size, 0, none⟩ (.int .i64 (s.h - takes + puts))) fun e w' =>
      e = .returned (.tuple #[]) ∧ Hid (∃ lv', WK p F w' K' lv' left' ∧ Kept p lv.ownBlock lv'.ownBlock w w') ∧ w'.heap[w.heap.size]? = some (.cells #[.int .i64 (s.h - takes + puts), .slice a s.tr.length c] 119 (0, 0)) ∧ w'.heap[w.heap.size + 1]? = some (.cells #[.int .i64 0, .slice none 0 0] 119 (0, 0))) := Lib.hid fun x hx => by
    have x0 := (hx.block _ (by omega : w.heap.size < W2.heap.size)).trans c0
    have x1 := (hx.block _ (by omega : w.heap.size + 1 < W2.heap.size)).trans c1
    have hwx := (hw2.grow (w' := x) hx).box x0 0 (.int .i64 (s.h - takes + puts))
    have hvx := (hv.grow ((hb2.trans (hx.mono (by omega))))).box x0 0 (.int .i64 (s.h - takes + puts))
    have hk : Kept p lv.ownBlock lv.ownBlock w (x.setCell ⟨w.heap.size, 0, none⟩ (.int .i64 (s.h - takes + puts))) := Kept.box (Nat.le_refl _) (hb2.trans (hx.mono (by omega))) 0 _
    refine (to_ok (s := ⟨s.h - takes + puts, s.tr⟩) hwx hvx hsm ht).mono fun e w' ⟨h1, lv', h2, h3⟩ => ⟨h1, Lib.hid ⟨lv', h2, hk.trans h3⟩, ?_, ?_⟩
    · rw [h3.block _ (by have : W2.heap.size ≤ x.heap.size := hx.size; simp; omega) (by omega) (by omega) (fun e => by have := howlt _ e.symm; omega)]
      exact heap_setCell_same x w.heap.size 0 _ 119 _ x0
    · rw [h3.block _ (by have : W2.heap.size ≤ x.heap.size := hx.size; simp; omega) (by omega) (by omega) (fun e => by have := howlt _ e.symm; omega)]
      exact (setCell_ne (by omega)).trans x1
  have hwr2 : IntKind.i64.wrap (puts - takes) = puts - takes := by rw [IntKind.wrap_i64]; omega
  have hwr3 : IntKind.i64.wrap (s.h + (puts - takes)) = s.h - takes + puts := by rw [IntKind.wrap_i64]; omega
  have hwr4 : IntKind.i64.wrap (q + 1) = q + 1 := by rw [IntKind.wrap_i64]; omega
  have hfl : floorOf F.f K s ≤ s.h - takes := hf
  clear h hv hrow hb2 hw2 hin hsm hf
  generalize floorOf F.f K s = fl at *
  unfold stV at *
  go_enter Tryz.func83, Tryz.ntmps83
  go_wp2
  rw [← hW2]
  clear hW2
  go_region_held3 (fun x => Hid (Below W2.heap.size W2.drew x) ∧ x.cell? ⟨w.heap.size, 0, none⟩ = some (.int .i64 s.h) ∧ x.cell? ⟨w.heap.size, 1, none⟩ = some (.slice a s.tr.length c)) ((first | exact HS.out _ (Below.refl _ _) | exact HS.out _ (by assumption)))
    ((first | (go_at_call 84; refine HF.out.mono ?_; rintro e w3 ⟨rfl, hb3⟩) | (go_at_call 81; refine (HA.out _).mono ?_; rintro e w4 ⟨rfl, rfl⟩)))
  obtain ⟨hB4, k0, k1⟩ := ‹Hid (Below W2.heap.size W2.drew _) ∧ _›
  have z0f := HZ.out _ hB4.out
  have HT := HTO.out _ hB4.out
  clear HTO HZ
  go_wp2_with fail
  refine HT.mono ?_
  rintro e w6 ⟨rfl, HK, y0, y1⟩
  have g0 : w6.cell? ⟨w.heap.size, 0, none⟩ = some (.int .i64 (s.h - takes + puts)) := by simp [World.cell?, y0]
  have g1 : w6.cell? ⟨w.heap.size, 1, none⟩ = some (.slice a s.tr.length c) := by simp [World.cell?, y0]
  have r0 : w6.cell? ⟨w.heap.size + 1, 0, none⟩ = some (.int .i64 0) := by simp [World.cell?, y1]
  have r1 : w6.cell? ⟨w.heap.size + 1, 1, none⟩ = some (.slice none 0 0) := by simp [World.cell?, y1]
  have rf0 : w6.frozen? ⟨w.heap.size + 1, 0, none⟩ = false := by simp [World.frozen?, y1]
  have rf1 : w6.frozen? ⟨w.heap.size + 1, 1, none⟩ = false := by simp [World.frozen?, y1]
  go_wp2
  have q1 := heap_setCell_same w6 (w.heap.size + 1) 0 _ 119 (.int .i64 (s.h - takes + puts)) y1
  have q2 := heap_setCell_same _ (w.heap.size + 1) 1 _ 119 (.slice a s.tr.length c) q1
  refine ⟨rfl, .agg #[.int .i64 (s.h - takes + puts), .slice a s.tr.length c], (run_result_cell rfl _ _ _).trans ?_, rfl, ?_⟩
  · have u0 : ((w6.setCell ⟨w.heap.size + 1, 0, none⟩ (.int .i64 (s.h - takes + puts))).setCell ⟨w.heap.size + 1, 1, none⟩ (.slice a s.tr.length c)).cell? ⟨w.heap.size + 1, 0, none⟩ = some (.int .i64 (s.h - takes + puts)) := by simp [World.cell?, q2]
    have u1 : ((w6.setCell ⟨w.heap.size + 1, 0, none⟩ (.int .i64 (s.h - takes + puts))).setCell ⟨w.heap.size + 1, 1, none⟩ (.slice a s.tr.length c)).cell? ⟨w.heap.size + 1, 1, none⟩ = some (.slice a s.tr.length c) := by simp [World.cell?, q2]
    go_simp
  · obtain ⟨lv', g1, g2⟩ := HK.out
    exact ⟨lv', (g1.box y1 0 _).box q1 1 _, (g2.setBox (by omega) 0 _).setBox (by omega) 1 _⟩
theorem on_no2 {p : Pl} {F : Fn} {w : World} {K K' : Know} {lv v : Value} {left left' : List Int} {s : St} {q takes puts : Int} (h : WK p F w K lv left) (hv : TrV w p.base lv.ownBlock v s.tr) (hin : ∀ t ∈ s.tr, ∃ s', look K t = some s') (hsm : Small K left) (hlen : s.tr.length ≤ 100000)
    (h0 : 0 ≤ s.h) (h1 : s.h ≤ 1000000000) (t0 : 0 ≤ takes) (t1 : takes ≤ 100000) (p0 : 0 ≤ puts) (p1 : puts ≤ 100000) (q0 : 0 ≤ q) (q1 : q ≤ 100000) (hf : floorOf F.f K s ≤ s.h - takes) (ht : toP F.code.length K left (q + 1, ⟨s.h - takes + puts, s.tr⟩) = none) :
    Calls Tryz.prog 83 #[.pointer (some ⟨p.pb, 0, none⟩), .int .i64 q, stV s v, .int .i64 takes, .int .i64 puts] w fun e w' => e = .panicked [⟨wrongV, false, false⟩] ∧ Below w.heap.size w w' := by
  obtain ⟨a, c, rfl, hlc, hrow⟩ := id hv
  obtain ⟨W2, hW2⟩ : ∃ W2, W2 = (w.alloc (.cells #[.int .i64 s.h, .slice a s.tr.length c] 119)).alloc (.cells #[.int .i64 0, .slice none 0 0] 119) := ⟨_, rfl⟩
  have hb2 : Below w.heap.size w W2.drew := by rw [hW2]; exact (((Below.refl _ _).alloc (Nat.le_refl _) _).alloc (by simp) _).drew
  have hs2 : W2.heap.size = w.heap.size + 2 := by rw [hW2]; simp
  have hw2 := h.grow hb2
  have HF := Lib.hid (floor_ok hw2 (hv.grow hb2) hin hlen)
  have d0 : W2.drew.cell? ⟨w.heap.size, 0, none⟩ = some (.int .i64 s.h) := by rw [hW2]; simp [go_sem]
  have d1 : W2.drew.cell? ⟨w.heap.size, 1, none⟩ = some (.slice a s.tr.length c) := by rw [hW2]; simp [go_sem]
  have HS : Hid (∀ x, Below W2.heap.size W2.drew x → Hid (Below W2.heap.size W2.drew x) ∧ x.cell? ⟨w.heap.size, 0, none⟩ = some (.int .i64 s.h) ∧ x.cell? ⟨w.heap.size, 1, none⟩ = some (.slice a s.tr.length c)) := Lib.hid fun x hx =>
    ⟨Lib.hid hx, by rw [hx.cell (p := ⟨w.heap.size, 0, none⟩) (by show w.heap.size < _; omega)]; exact d0, by rw [hx.cell (p := ⟨w.heap.size, 1, none⟩) (by show w.heap.size < _; omega)]; exact d1⟩
  have hwr : IntKind.i64.wrap (s.h - takes) = s.h - takes := by rw [IntKind.wrap_i64]; omega
  have HB := Lib.hid hb2
  have hlt := h.pblt
  have HA := Lib.hid (fun w => ask_ok w)
  have c0 : W2.drew.heap[w.heap.size]? = some (.cells #[.int .i64 s.h, .slice a s.tr.length c] 119 (0, 0)) := by rw [hW2]; exact (Below.heap_alloc _ _ _ (by simp)).trans (heap_alloc_new w _)
  have c1 : W2.drew.heap[w.heap.size + 1]? = some (.cells #[.int .i64 0, .slice none 0 0] 119 (0, 0)) := by rw [hW2]; exact two_new w _ _
  have HTO : Hid (∀ x, Below W2.heap.size W2.drew x → Calls Tryz.prog 49 #[.pointer (some ⟨p.pb, 0, none⟩), .int .i64 (q + 1), .agg #[.int .i64 (s.h - takes + puts), .slice a s.tr.length c]] (x.setCell ⟨w.heap.size, 0, none⟩ (.int .i64 (s.h - takes + puts))) fun e w' =>
      e = .panicked [⟨wrongV, false, false⟩] ∧ Hid (Below w.heap.size w w')) := Lib.hid fun x hx => by
    have x0 := (hx.block _ (by omega : w.heap.size < W2.heap.size)).trans c0
    have hwx := (hw2.grow (w' := x) hx).box x0 0 (.int .i64 (s.h - takes + puts))
    have hvx := (hv.grow ((hb2.trans (hx.mono (by omega))))).box x0 0 (.int .i64 (s.h - takes + puts))
    have hk : Below w.heap.size w (x.setCell ⟨w.heap.size, 0, none⟩ (.int .i64 (s.h - takes + puts))) := (hb2.trans (hx.mono (by omega))).setCell (Nat.le_refl _) _
    exact (to_no (s := ⟨s.h - takes + puts, s.tr⟩) hwx hvx hsm ht).mono fun e w' ⟨h1, h2⟩ => ⟨h1, Lib.hid (hk.trans (h2.mono hk.size))⟩
  have HZ : Hid (∀ x, Below W2.heap.size W2.drew x → x.frozen? ⟨w.heap.size, 0, none⟩ = false) := Lib.hid fun x hx => by
    have x0 := (hx.block _ (by omega : w.heap.size < W2.heap.size)).trans c0
    simp [World.frozen?, x0]
  have hwr2 : IntKind.i64.wrap (puts - takes) = puts - takes := by rw [IntKind.wrap_i64]; omega
  have hwr3 : IntKind.i64.wrap (s.h + (puts - takes)) = s.h - takes + puts := by rw [IntKind.wrap_i64]; omega
  have hwr4 : IntKind.i64.wrap (q + 1) = q + 1 := by rw [IntKind.wrap_i64]; omega
  have hfl : floorOf F.f K s ≤ s.h - takes := hf
  clear h hv hrow hb2 hw2 hin hsm hf
  generalize floorOf F.f K s = fl at *
  unfold stV at *
  go_enter Tryz.func83, Tryz.ntmps83
  go_wp2
  rw [← hW2]
  clear hW2
  go_region_held3 (fun x => Hid (Below W2.heap.size W2.drew x) ∧ x.cell? ⟨w.heap.size, 0, none⟩ = some (.int .i64 s.h) ∧ x.cell? ⟨w.heap.size, 1, none⟩ = some (.slice a s.tr.length c)) ((first | exact HS.out _ (Below.refl _ _) | exact HS.out _ (by assumption)))
    ((first | (go_at_call 84; refine HF.out.mono ?_; rintro e w3 ⟨rfl, hb3⟩) | (go_at_call 81; refine (HA.out _).mono ?_; rintro e w4 ⟨rfl, rfl⟩)))
  obtain ⟨hB4, k0, k1⟩ := ‹Hid (Below W2.heap.size W2.drew _) ∧ _›
  have HT := HTO.out _ hB4.out
  have z0f := HZ.out _ hB4.out
  clear HTO HZ
  go_wp2_with fail
  refine HT.mono ?_
  rintro e w6 ⟨rfl, HK⟩
  go_wp2
  exact ⟨rfl, rfl, HK.out⟩
end Go.Ck
namespace Go.Ck
open Go Go.RowKit Go.Proofs
def insA (x : Ins) : Value := .agg #[.int .u8 x.op, .int .i64 x.a, .int .i64 x.b, .int .i64 x.c, .string x.t]
def TakesV (base : Nat) (W0 : World) : Prop := ∀ (W : World) (s : ByteArray), Below base W0 W → Calls Tryz.prog 46 #[.string s] W fun e w' => e = .returned (.tuple #[.int .i64 (takesN s), .bool (isPrim s)]) ∧ Below W.heap.size W w'
theorem TakesV.at {base : Nat} {W0 W : World} (h : TakesV base W0) (hb : Below base W0 W) : TakesV base W := fun W' s hb' => h W' s (hb.trans hb')
theorem moves_ok {base : Nat} {w : World} {x : Ins} (hT : TakesV base w) (hbase : base ≤ w.heap.size) (ha : 0 ≤ x.a ∧ x.a ≤ 65535 ∨ x.op ≠ 20) :
    Calls Tryz.prog 86 #[insA x] w fun e w' => e = .returned (.tuple #[.int .i64 (moves x).1, .int .i64 (moves x).2]) ∧ Below w.heap.size w w' := by
  have hb1 : Below w.heap.size w (w.alloc (.cells #[.int .u8 x.op, .int .i64 x.a, .int .i64 x.b, .int .i64 x.c, .string x.t] 48)) := (Below.refl _ _).alloc (Nat.le_refl _) _
  have HB := Lib.hid hb1
  have HTK : Hid (Calls Tryz.prog 46 #[.string x.t] (w.alloc (.cells #[.int .u8 x.op, .int .i64 x.a, .int .i64 x.b, .int .i64 x.c, .string x.t] 48)) fun e w' => e = .returned (.tuple #[.int .i64 (takesN x.t), .bool (isPrim x.t)]) ∧ Hid (Below w.heap.size w w')) := Lib.hid
    ((hT _ x.t (hb1.mono hbase)).mono fun e w' ⟨h1, h2⟩ => ⟨h1, Lib.hid (hb1.trans (h2.mono hb1.size))⟩)
  have HM : Hid ((moves x).1 = (moves x).1) := Lib.hid rfl
  clear hT hb1 HM
  obtain ⟨op, a, b, c, t⟩ := x
  unfold insA
  simp only at HB HTK ha ⊢
  by_cases o6 : op = 6
  · subst o6
    clear ha
    go_enter Tryz.func86, Tryz.ntmps86
    go_wp2
    have d2 : (w.alloc (.cells #[.int .u8 6, .int .i64 a, .int .i64 b, .int .i64 c, .string t] 48)).drew.cell? ⟨w.heap.size, 2, none⟩ = some (.int .i64 b) := by simp [go_sem]
    have d3 : (w.alloc (.cells #[.int .u8 6, .int .i64 a, .int .i64 b, .int .i64 c, .string t] 48)).drew.cell? ⟨w.heap.size, 3, none⟩ = some (.int .i64 c) := by simp [go_sem]
    go_region_held3 (fun z => z = (w.alloc (.cells #[.int .u8 6, .int .i64 a, .int .i64 b, .int .i64 c, .string t] 48)).drew) ((first | rfl | assumption)) (fail)
    all_goals go_wp2
    all_goals go_ret2
    all_goals exact ⟨rfl, HB.out.drew⟩
  have e6 : (op == 6) = false := by simpa using o6
  by_cases o7 : op = 7
  · subst o7
    clear ha
    go_enter Tryz.func86, Tryz.ntmps86
    go_wp2
    go_ret2
    exact ⟨rfl, HB.out⟩
  have e7 : (op == 7) = false := by simpa using o7
  by_cases o11 : op = 11
  · subst o11
    clear ha
    go_enter Tryz.func86, Tryz.ntmps86
    go_wp2
    go_ret2
    exact ⟨rfl, HB.out⟩
  have e11 : (op == 11) = false := by simpa using o11
  by_cases o12 : op = 12
  · subst o12
    clear ha
    go_enter Tryz.func86, Tryz.ntmps86
    go_wp2
    go_ret2
    exact ⟨rfl, HB.out⟩
  have e12 : (op == 12) = false := by simpa using o12
  by_cases o14 : op = 14
  · subst o14
    clear ha
    go_enter Tryz.func86, Tryz.ntmps86
    go_wp2
    go_ret2
    exact ⟨rfl, HB.out⟩
  have e14 : (op == 14) = false := by simpa using o14
  by_cases o15 : op = 15
  · subst o15
    clear ha
    go_enter Tryz.func86, Tryz.ntmps86
    go_wp2
    go_ret2
    exact ⟨rfl, HB.out⟩
  have e15 : (op == 15) = false := by simpa using o15
  by_cases o13 : op = 13
  · subst o13
    clear ha
    go_enter Tryz.func86, Tryz.ntmps86
    go_wp2
    go_ret2
    exact ⟨rfl, HB.out⟩
  have e13 : (op == 13) = false := by simpa using o13
  by_cases o22 : op = 22
  · subst o22
    clear ha
    go_enter Tryz.func86, Tryz.ntmps86
    go_wp2
    go_ret2
    exact ⟨rfl, HB.out⟩
  have e22 : (op == 22) = false := by simpa using o22
  by_cases o16 : op = 16
  · subst o16
    clear ha
    go_enter Tryz.func86, Tryz.ntmps86
    go_wp2_with fail
    refine HTK.out.mono ?_
    rintro e w3 ⟨rfl, hb3⟩
    go_wp2
    go_ret2
    exact ⟨rfl, hb3.out⟩
  have e16 : (op == 16) = false := by simpa using o16
  by_cases o20 : op = 20
  · subst o20
    obtain ⟨a0, a1⟩ := ha.resolve_right (fun h => h rfl)
    have hwa : IntKind.i64.wrap (a + 1) = a + 1 := by rw [IntKind.wrap_i64]; omega
    clear ha
    go_enter Tryz.func86, Tryz.ntmps86
    go_wp2
    go_ret2
    exact ⟨rfl, HB.out⟩
  have e20 : (op == 20) = false := by simpa using o20
  by_cases o21 : op = 21
  · subst o21
    clear ha
    go_enter Tryz.func86, Tryz.ntmps86
    go_wp2
    go_ret2
    exact ⟨rfl, HB.out⟩
  have e21 : (op == 21) = false := by simpa using o21
  have hmv : moves ⟨op, a, b, c, t⟩ = (0, 1) := by simp [moves, o6, o7, o11, o12, o14, o15, o13, o22, o16, o20, o21]
  rw [hmv]
  clear o6 o7 o11 o12 o14 o15 o13 o22 o16 o20 o21 hmv ha HTK
  go_enter Tryz.func86, Tryz.ntmps86
  go_wp2
  go_ret2
  exact ⟨rfl, HB.out⟩
end Go.Ck
namespace Go.Ck
open Go Go.RowKit Go.Proofs
theorem eql_nil (c : Nat) (w : World) : (binOp .eql 36 (.slice none 0 c) (.slice none 0 0)).run Tryz.prog w = .ok (.bool true) w := by
  have := run_equal_slice_nil (P := Tryz.prog) w 36 3 none 0 c Tryz.underlying36
  simp [binOp, this]
theorem eql_some (a : Addr) (n c : Nat) (w : World) : (binOp .eql 36 (.slice (some a) n c) (.slice none 0 0)).run Tryz.prog w = .ok (.bool false) w := by
  have := run_equal_slice_nil (P := Tryz.prog) w 36 3 (some a) n c Tryz.underlying36
  simp [binOp, this]
theorem clone_ok {w : World} {base : Nat} {q : Option Nat} {v : Value} {l : List Int} (hv : TrV w base q v l) (hl : l.length ≤ 100000) :
    Calls Tryz.prog 85 #[v] w fun e w' => ∃ v', e = .returned v' ∧ w'.ownsRow w.heap.size 3 1 v' l.length (l.map intV) ∧ Below w.heap.size w w' := by
  obtain ⟨i, hi, hi2⟩ := Option.map_eq_some_iff.1 i3
  injection hi2 with hz0 hz1
  injection hz1 with hz1 hz2
  obtain ⟨a, c, rfl, hlc, hrow⟩ := hv
  cases a with
  | none =>
    have h0 : l.length = 0 := by
      rcases Nat.eq_zero_or_pos l.length with h | h
      · exact h
      · obtain ⟨g, o, cur, e, _⟩ := hrow h; cases e
    obtain rfl := List.eq_nil_of_length_eq_zero h0
    clear hrow hlc h0 hl
    have hq := eql_nil c w
    go_enter Tryz.func85, Tryz.ntmps85
    go_wp2
    go_ret
    exact ⟨_, rfl, World.ownsRow_nil _ _ _ _, Below.refl _ _⟩
  | some ad =>
    have hnews : ∀ j u, (l.map intV)[j]? = some u → w.cell? (ad.add j) = some u := fun j u hj => by
      rw [List.getElem?_map] at hj
      obtain ⟨t, ht, rfl⟩ := Option.map_eq_some_iff.1 hj
      obtain ⟨g, o, cur, e, _, _, hg, hc⟩ := hrow (by have := (List.getElem?_eq_some_iff.1 ht).1; omega)
      cases e
      rw [add_one]
      simp [World.cell?, hg, hc j t ht, intV]
    have hnews1 : ∀ j u, (l.map intV)[j]? = some u → (w.alloc (.cells #[] 3)).cell? (ad.add j) = some u := fun j u hj => by
      have h := hnews j u hj
      rw [World.cell?_alloc_some w _ _ (by rw [h]; rfl)]; exact h
    have hone : ∀ u ∈ l.map intV, u.oneCell' = true := fun u hu => by
      obtain ⟨t, _, rfl⟩ := List.mem_map.1 hu; rfl
    have hown : (w.alloc (.cells #[] 3)).ownsRow w.heap.size 3 1 (.slice (some ⟨w.heap.size, 0, none⟩) 0 0) 0 [] := ⟨rfl, .inr ⟨w.heap.size, 0, #[], rfl, Nat.le_refl _, heap_alloc_new w _, Nat.le_refl _, by simp [maxLen], rfl, rfl⟩⟩
    have hb1 : Below w.heap.size w (w.alloc (.cells #[] 3)) := (Below.refl _ _).alloc (Nat.le_refl _) _
    have HN := Lib.hid hnews1
    have HO := Lib.hid hone
    have HB := Lib.hid hb1
    have hq := eql_some ad l.length c w
    clear hrow hlc hnews hnews1 hone hb1
    go_enter Tryz.func85, Tryz.ntmps85
    go_wp2_with (at_builtin; refine wpList_append_own _ rfl _ _ 36 rfl w.heap.size 3 i (.int .i64 0) 1 8 Tryz.underlying36 hi hz2 hz0 hz1 rfl (by decide) _ _ _ rfl hown ad l.length c (l.map intV) rfl (by simp) HN.out HO.out (by simp only [maxLen]; omega) (by omega) (by simp) ?_; intro v' w3 hown' hgrow hnil)
    have hE : Below w.heap.size w w3 := HB.out.grown hgrow (by simp) (fun k hk => by cases hk; exact Nat.le_refl _)
    clear hgrow hnil
    have HW := Lib.hid hown'
    have HE := Lib.hid hE
    clear hown' hE
    go_wp2
    go_ret
    exact ⟨_, rfl, by have := HW.out; rw [Nat.zero_add, List.nil_append] at this; exact this, HE.out⟩
theorem TrV.of_own {w : World} {base : Nat} {q : Option Nat} {v : Value} {l : List Int} (h : w.ownsRow base 3 1 v l.length (l.map intV)) (hq : ∀ g, q = some g → g < base) {b' : Nat} (hb : b' ≤ base) : TrV w b' q v l := by
  rcases h.2 with ⟨rfl, h0⟩ | ⟨g, cap, cur, rfl, hbg, hg, hnc, _, hcs, htake⟩
  · obtain rfl := List.eq_nil_of_length_eq_zero h0
    exact ⟨_, _, rfl, Nat.le_refl _, fun h => absurd h (Nat.lt_irrefl _)⟩
  · refine ⟨_, _, rfl, hnc, fun _ => ⟨g, 0, cur, rfl, by omega, fun e => by have := hq g e.symm; omega, hg, fun i t ht => ?_⟩⟩
    have : (cur.toList.take (l.length * 1))[i]? = some (intV t) := by rw [htake, List.getElem?_map, ht]; rfl
    rw [List.getElem?_take_of_lt (by have := (List.getElem?_eq_some_iff.1 ht).1; omega), Array.getElem?_toList] at this
    simpa [intV] using this
end Go.Ck
namespace Go.Ck
open Go Go.RowKit Go.Proofs
def StepPost (res : Option (Know × List Int)) (p : Pl) (F : Fn) (lv : Value) (w : World) (out : Value) (e : Ending) (w' : World) : Prop :=
  (∃ K' l', res = some (K', l') ∧ e = .returned out ∧ ∃ lv', WK p F w' K' lv' l' ∧ Kept p lv.ownBlock lv'.ownBlock w w') ∨ (res = none ∧ e = .panicked [⟨wrongV, false, false⟩] ∧ Below p.base w w')
theorem WK.base_lt {p : Pl} {F : Fn} {w : World} {K : Know} {lv : Value} {left : List Int} (h : WK p F w K lv left) : p.base ≤ w.heap.size := by have := h.pblt; have := h.pbge; omega
theorem to_spec {p : Pl} {F : Fn} {w : World} {K : Know} {lv v : Value} {left : List Int} {s : St} {q : Int} (h : WK p F w K lv left) (hv : TrV w p.base lv.ownBlock v s.tr) (hs : Small K left) :
    Calls Tryz.prog 49 #[.pointer (some ⟨p.pb, 0, none⟩), .int .i64 q, stV s v] w fun e w' => StepPost (toP F.code.length K left (q, s)) p F lv w (.tuple #[]) e w' := by
  cases ht : toP F.code.length K left (q, s) with
  | none => exact (to_no h hv hs ht).mono fun e w' ⟨h1, h2⟩ => .inr ⟨rfl, h1, h2.mono h.base_lt⟩
  | some r =>
    obtain ⟨K', l'⟩ := r
    exact (to_ok h hv hs ht).mono fun e w' ⟨h1, h2⟩ => .inl ⟨K', l', rfl, h1, h2⟩
def onP (n f : Nat) (K : Know) (left : List Int) (q : Int) (s : St) (takes puts : Int) : Option (Know × List Int) := match onR f K q s takes puts with | none => none | some e => toP n K left e
theorem on_spec {p : Pl} {F : Fn} {w : World} {K : Know} {lv v : Value} {left : List Int} {s : St} {q takes puts : Int} (h : WK p F w K lv left) (hv : TrV w p.base lv.ownBlock v s.tr) (hin : ∀ t ∈ s.tr, ∃ s', look K t = some s') (hsm : Small K left) (hlen : s.tr.length ≤ 100000)
    (h0 : 0 ≤ s.h) (h1 : s.h ≤ 1000000000) (t0 : 0 ≤ takes) (t1 : takes ≤ 100000) (p0 : 0 ≤ puts) (p1 : puts ≤ 100000) (q0 : 0 ≤ q) (q1 : q ≤ 100000) :
    Calls Tryz.prog 83 #[.pointer (some ⟨p.pb, 0, none⟩), .int .i64 q, stV s v, .int .i64 takes, .int .i64 puts] w fun e w' => StepPost (onP F.code.length F.f K left q s takes puts) p F lv w (stV ⟨s.h - takes + puts, s.tr⟩ v) e w' := by
  by_cases hf : floorOf F.f K s ≤ s.h - takes
  · have he : onP F.code.length F.f K left q s takes puts = toP F.code.length K left (q + 1, ⟨s.h - takes + puts, s.tr⟩) := by unfold onP onR; rw [if_pos hf]
    rw [he]
    cases ht : toP F.code.length K left (q + 1, ⟨s.h - takes + puts, s.tr⟩) with
    | none => exact (on_no2 (K' := K) (left' := left) h hv hin hsm hlen h0 h1 t0 t1 p0 p1 q0 q1 hf ht).mono fun e w' ⟨h1, h2⟩ => .inr ⟨rfl, h1, h2.mono h.base_lt⟩
    | some r =>
      obtain ⟨K', l'⟩ := r
      exact (on_ok h hv hin hsm hlen h0 h1 t0 t1 p0 p1 q0 q1 hf ht).mono fun e w' ⟨h1, h2⟩ => .inl ⟨K', l', rfl, h1, h2⟩
  · have he : onP F.code.length F.f K left q s takes puts = none := by unfold onP onR; rw [if_neg hf]
    rw [he]
    exact (on_no1 h hv hin hsm hlen h0 h1 t0 t1 p0 p1 q0 q1 hf).mono fun e w' ⟨h1, h2⟩ => .inr ⟨rfl, h1, h2.mono h.base_lt⟩
theorem ask_spec (b : Bool) (w : World) : Calls Tryz.prog 81 #[.bool b] w fun e w' => (b = true ∧ e = .returned (.tuple #[]) ∧ w' = w) ∨ (b = false ∧ e = .panicked [⟨wrongV, false, false⟩] ∧ w' = w) := by
  cases b with
  | true => exact (ask_ok w).mono fun e w' h => .inl ⟨rfl, h⟩
  | false => exact (ask_bad w).mono fun e w' h => .inr ⟨rfl, h⟩
theorem toP_cases {n : Nat} {K K' : Know} {left l' : List Int} {e : Int × St} (h : toP n K left e = some (K', l')) : (K' = K ∧ l' = left) ∨ (K' = K ++ [e] ∧ l' = left ++ [e.1] ∧ look K e.1 = none) := by
  unfold toP at h
  split at h
  · split at h
    · split at h
      · cases h; exact .inl ⟨rfl, rfl⟩
      · cases h
    · rename_i hk; cases h; exact .inr ⟨rfl, rfl, hk⟩
  · cases h
theorem toP_sub {n : Nat} {K K' : Know} {left l' : List Int} {e : Int × St} (h : toP n K left e = some (K', l')) : Sub K K' := by
  rcases toP_cases h with ⟨rfl, _⟩ | ⟨rfl, _⟩
  · exact fun _ _ h => h
  · exact sub_append
structure SmallN (N : Nat) (K : Know) (left : List Int) : Prop where
  left : left.length ≤ N
  tr : ∀ e ∈ K, e.2.tr.length ≤ N
theorem SmallN.small {N : Nat} {K : Know} {left : List Int} (h : SmallN N K left) (hN : N ≤ 100000) : Small K left := ⟨by have := h.left; omega, fun e he => by have := h.tr e he; omega⟩
theorem SmallN.to {N n : Nat} {K K' : Know} {left l' : List Int} {e : Int × St} (h : SmallN N K left) (he : e.2.tr.length ≤ N + 1) (ht : toP n K left e = some (K', l')) : SmallN (N + 1) K' l' := by
  rcases toP_cases ht with ⟨rfl, rfl⟩ | ⟨rfl, rfl, _⟩
  · exact ⟨by have := h.left; omega, fun e he => by have := h.tr e he; omega⟩
  · refine ⟨by have := h.left; simp; omega, fun e' he' => ?_⟩
    rcases List.mem_append.1 he' with h' | h'
    · have := h.tr e' h'; omega
    · obtain rfl := List.mem_singleton.1 h'; exact he
end Go.Ck
