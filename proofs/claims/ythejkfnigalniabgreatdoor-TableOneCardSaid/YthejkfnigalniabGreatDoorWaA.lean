/- A part of a proof about the table over the shadow space: what a function of the program answers, walked by hand. Each theorem says its own conditions. -/
import Derived.Test.YthejkfnigalniabGreatDoorProg
import Derived.WalkKit
import Derived.Handy
import Derived.LoopTactic
import Derived.KernelRfl
import Derived.Lib.Hide
import Derived.Deep.RegionHeld3
import Derived.Deep.RegionWith
import Derived.Deep.Cut
import Derived.Laws.AppendOwn
import Derived.Laws.OwnMore
import Derived.Laws.AppendOwnNone
import Derived.Maps.AppendAt
import Derived.Carry
import Derived.Below
import Derived.MapKept
import Derived.Test.YthejkfnigalniabGreatDoorPla
import Derived.Deep.Heap
import Derived.Laws.CopyOwn
import Derived.Maps.OwnSet
import Derived.Maps.OwnOps
import Derived.Maps.Views
import Derived.Maps.RangeWalk
import Derived.Deep.RegionLaw
import Derived.StillTactics
import Derived.Laws.Cover3
import Derived.Deep.QuietTactic
import Derived.BigQuiet
import Derived.RangeFuncBox
import Derived.RangeFuncSeq
import Derived.OwnWalkIn
import Derived.TacticsInMore
import Derived.RegionIn
import Derived.LoopNIn
import Derived.LoopIn
import Derived.Laws.BitsAllLaws
import Derived.LaidEql
set_option linter.unusedVariables false
set_option linter.unusedSimpArgs false
set_option maxRecDepth 100000
set_option maxHeartbeats 1600000
namespace Go.Tb
open Go Go.RowKit Go.Proofs
theorem cell_lt' {w : World} {b o : Nat} {v : Value} (h : w.cell? ⟨b, o, none⟩ = some v) : b < w.heap.size := by
  by_cases hb : b < w.heap.size
  · exact hb
  · simp [World.cell?, Array.getElem?_eq_none (Nat.le_of_not_lt hb)] at h
theorem own_slice {w : World} {b e size n : Nat} {v : Value} {xs : List Value} (h : w.ownsRow b e size v n xs) : ∃ a c, v = .slice a n c := by
  rcases h.2 with ⟨rfl, rfl⟩ | ⟨g, cap, cur, rfl, _⟩
  · exact ⟨_, _, rfl⟩
  · exact ⟨_, _, rfl⟩
def MapV (w : World) (mb : Nat) (f : Nat → Nat) : Prop := (∀ i, i < 1024 → w.cell? ⟨mb, i, none⟩ = some (.int .u16 (f i)) ∧ f i < 65536) ∧ ∀ i, i < 1024 → w.frozen? ⟨mb, i, none⟩ = false
theorem MapV.at {w : World} {mb : Nat} {f : Nat → Nat} (h : MapV w mb f) {i : Nat} (hi : i < 1024) : w.cell? ⟨mb, i, none⟩ = some (.int .u16 (f i)) ∧ w.frozen? ⟨mb, i, none⟩ = false ∧ f i < 65536 :=
  ⟨(h.1 i hi).1, h.2 i hi, (h.1 i hi).2⟩
theorem MapV.keep {w w' : World} {mb : Nat} {f : Nat → Nat} (h : MapV w mb f) (hb : w'.heap[mb]? = w.heap[mb]?) : MapV w' mb f :=
  ⟨fun i hi => ⟨by rw [← (h.1 i hi).1]; simp [World.cell?, hb], (h.1 i hi).2⟩, fun i hi => by rw [← h.2 i hi]; simp [World.frozen?, hb]⟩
theorem MapV.set {w : World} {mb : Nat} {f : Nat → Nat} (h : MapV w mb f) {i x : Nat} (hi : i < 1024) (hx : x < 65536) : MapV (w.setCell ⟨mb, i, none⟩ (.int .u16 x)) mb (fun k => if k = i then x else f k) := by
  refine ⟨fun k hk => ?_, fun k hk => by rw [World.frozen?_setCell]; exact h.2 k hk⟩
  by_cases e : k = i
  · subst e; simp only [if_pos]; exact ⟨World.cell?_setCell_same w _ _ (h.1 k hk).1, hx⟩
  · simp only [if_neg e]
    rw [World.cell?_setCell_other w _ _ _ (fun q => e (by simp only [Addr.mk.injEq] at q; exact q.2.1.symm))]
    exact h.1 k hk
theorem has_ok {w : World} {mb : Nat} {f : Nat → Nat} (h : MapV w mb f) {p : Nat} (hp : p < 1024) :
    Calls Tryz.prog 84 #[.pointer (some ⟨mb, 0, none⟩), .int .i64 p] w fun e w' => e = .returned (.bool (decide (0 < f p))) ∧ w' = w := by
  obtain ⟨c0, _, c1⟩ := h.at hp
  have hl := cell_lt' c0
  have i1 : (p : Int) < 1024 := by omega
  have i0 : (0 : Int) ≤ (p : Int) := by omega
  clear h
  go_enter Tryz.func84, Tryz.ntmps84
  go_wp2
  go_ret
  exact ⟨by simp, rfl⟩
theorem get_ok {w : World} {mb : Nat} {f : Nat → Nat} (h : MapV w mb f) {p : Nat} (hp : p < 1024) :
    Calls Tryz.prog 43 #[.pointer (some ⟨mb, 0, none⟩), .int .i64 p] w fun e w' => e = .returned (.tuple #[.int .i64 (f p), .bool (decide (0 < f p))]) ∧ w' = w := by
  obtain ⟨c0, _, c1⟩ := h.at hp
  have hl := cell_lt' c0
  have H := has_ok h hp
  have i1 : (p : Int) < 1024 := by omega
  have i0 : (0 : Int) ≤ (p : Int) := by omega
  have hw : IntKind.i64.wrap (f p : Int) = (f p : Int) := by rw [IntKind.wrap_i64]; omega
  clear h
  by_cases hf : 0 < f p
  · rw [decide_eq_true hf] at H ⊢
    go_enter Tryz.func43, Tryz.ntmps43
    go_wp2_with (go_at_call 84; refine H.mono ?_; rintro e w5 ⟨rfl, rfl⟩)
    go_ret2
    exact ⟨rfl, rfl⟩
  · rw [decide_eq_false hf] at H ⊢
    have h0 : f p = 0 := by omega
    rw [h0]
    go_enter Tryz.func43, Tryz.ntmps43
    go_wp2_with (go_at_call 84; refine H.mono ?_; rintro e w5 ⟨rfl, rfl⟩)
    go_ret2
    exact ⟨rfl, rfl⟩
theorem clear_ok {w : World} {mb : Nat} {f : Nat → Nat} (h : MapV w mb f) {p : Nat} (hp : p < 1024) (hf : 0 < f p) :
    Calls Tryz.prog 94 #[.pointer (some ⟨mb, 0, none⟩), .int .i64 p] w fun e w' => e = .returned (.bool true) ∧ w' = w.setCell ⟨mb, p, none⟩ (.int .u16 0) := by
  obtain ⟨c0, cz, c1⟩ := h.at hp
  have hl := cell_lt' c0
  have H := has_ok h hp
  rw [decide_eq_true hf] at H
  have i1 : (p : Int) < 1024 := by omega
  have i0 : (0 : Int) ≤ (p : Int) := by omega
  clear h
  go_enter Tryz.func94, Tryz.ntmps94
  go_wp2_with (go_at_call 84; refine H.mono ?_; rintro e w5 ⟨rfl, rfl⟩)
  go_ret
  exact ⟨rfl, rfl⟩
theorem set_ok {w : World} {mb : Nat} {f : Nat → Nat} (h : MapV w mb f) {p s : Nat} (hp : p < 1024) (hs : 1 ≤ s ∧ s < 65536) :
    Calls Tryz.prog 54 #[.pointer (some ⟨mb, 0, none⟩), .int .i64 p, .int .i64 s] w fun e w' => e = .returned (.bool true) ∧ w' = w.setCell ⟨mb, p, none⟩ (.int .u16 s) := by
  obtain ⟨c0, cz, c1⟩ := h.at hp
  have hl := cell_lt' c0
  have i1 : (p : Int) < 1024 := by omega
  have i0 : (0 : Int) ≤ (p : Int) := by omega
  have i2 : (1 : Int) ≤ (s : Int) := by omega
  have i3 : ¬ (s : Int) < 1 := by omega
  have i4 : ¬ (65535 : Int) < (s : Int) := by omega
  have i5 : ¬ (p : Int) < 0 := by omega
  have i6 : ¬ (1024 : Int) ≤ (p : Int) := by omega
  have hw : IntKind.u16.wrap (s : Int) = (s : Int) := by simp [IntKind.wrap, IntKind.signed, IntKind.bits]; omega
  clear h
  go_enter Tryz.func54, Tryz.ntmps54
  go_wp2
  go_ret
  exact ⟨rfl, rfl⟩
end Go.Tb
namespace Go.Tb
open Go Go.RowKit Go.Proofs Go.Sp
theorem cell_of_heap {w w' : World} {a : Addr} (h : w'.heap[a.block]? = w.heap[a.block]?) : w'.cell? a = w.cell? a ∧ w'.frozen? a = w.frozen? a := by
  simp [World.cell?, World.frozen?, h]
def kindOf (w : World) (k : Nat) : Option TypeId :=
  match w.heap[k]? with
  | some (.cells _ T _) => some T
  | some (.map _ _) => some 117
  | _ => none
structure Gh where
  B : Nat
  lim : Nat
  told : Nat → Option TypeId
  hB : B ≤ lim
  ht : ∀ k T, told k = some T → k < lim
def Gh.kind (γ : Gh) (w : World) (k : Nat) : Option TypeId := if kindOf w k = some 124 then some 124 else (γ.told k).orElse fun _ => kindOf w k
def Tag (γ : Gh) (w : World) (k : Nat) (T : TypeId) : Prop := γ.kind w k = some T
theorem Tag.uniq {γ : Gh} {w : World} {k : Nat} {T T' : TypeId} (h : Tag γ w k T) (h' : Tag γ w k T') : T = T' := Option.some.inj (h.symm.trans h')
theorem kindOf_same {w w' : World} {k : Nat} (hs : w'.heap[k]? = w.heap[k]?) : kindOf w' k = kindOf w k := by unfold kindOf; rw [hs]
theorem Gh.kind_of {γ : Gh} {w w' : World} {k : Nat} (hs : kindOf w' k = kindOf w k) : γ.kind w' k = γ.kind w k := by unfold Gh.kind; rw [hs]
theorem Tag.same {γ : Gh} {w w' : World} {k : Nat} {T : TypeId} (h : Tag γ w k T) (hs : w'.heap[k]? = w.heap[k]?) : Tag γ w' k T := (Gh.kind_of (kindOf_same hs)).trans h
theorem Gh.new {γ : Gh} {k : Nat} (h : γ.lim ≤ k) : γ.told k = none := by
  cases e : γ.told k with
  | none => rfl
  | some T => have := γ.ht k T e; omega
theorem Tag.new {γ : Gh} {w : World} {k : Nat} {T : TypeId} {c : Array Value} {r : Nat × Nat} (h0 : γ.lim ≤ k) (h : w.heap[k]? = some (.cells c T r)) : Tag γ w k T := by
  have e : kindOf w k = some T := by simp [kindOf, h]
  unfold Tag Gh.kind
  rw [e, γ.new h0]
  split
  · rename_i h; exact h.symm
  · rfl
theorem Tag.row {γ : Gh} {w : World} {k : Nat} {c : Array Value} {r : Nat × Nat} (h : w.heap[k]? = some (.cells c 124 r)) : Tag γ w k 124 := by
  have e : kindOf w k = some 124 := by simp [kindOf, h]
  unfold Tag Gh.kind
  rw [if_pos e]
theorem Tag.newM {γ : Gh} {w : World} {k : Nat} {es : Array MapEntry} {ck : Nat} (h0 : γ.lim ≤ k) (h : w.heap[k]? = some (.map es ck)) : Tag γ w k 117 := by
  have e : kindOf w k = some 117 := by simp [kindOf, h]
  unfold Tag Gh.kind
  rw [e, γ.new h0]
  rfl
theorem Tag.told {γ : Gh} {w : World} {k : Nat} {T : TypeId} (h : γ.told k = some T) (hn : kindOf w k ≠ some 124) : Tag γ w k T := by
  unfold Tag Gh.kind
  rw [if_neg hn, h]; rfl
structure Step (γ : Gh) (S : TypeId → Bool) (w w' : World) : Prop where
  be : Below γ.B w w'
  on : ∀ k, k < w.heap.size → (∀ T, Tag γ w k T → S T = false) → w'.heap[k]? = w.heap[k]?
  tg : ∀ k T, T ≠ 124 → k < w.heap.size → Tag γ w k T → Tag γ w' k T
theorem Step.refl (γ : Gh) (S : TypeId → Bool) (w : World) : Step γ S w w := ⟨Below.refl _ _, fun _ _ _ => rfl, fun _ _ _ _ h => h⟩
theorem Step.trans {γ : Gh} {S : TypeId → Bool} {w w1 w2 : World} (h : Step γ S w w1) (h2 : Step γ S w1 w2) : Step γ S w w2 :=
  ⟨h.be.trans h2.be, fun k hk hS => by
    have e := h.on k hk hS
    exact (h2.on k (Nat.lt_of_lt_of_le hk h.be.size) fun T ht => hS T (ht.same e.symm)).trans e,
    fun k T hn hk ht => h2.tg k T hn (Nat.lt_of_lt_of_le hk h.be.size) (h.tg k T hn hk ht)⟩
theorem Step.mono {γ : Gh} {S S' : TypeId → Bool} {w w' : World} (h : Step γ S w w') (hS : ∀ T, S' T = false → S T = false) : Step γ S' w w' :=
  ⟨h.be, fun k hk ht => h.on k hk fun T hT => hS T (ht T hT), h.tg⟩
theorem Step.belowB {γ : Gh} {S : TypeId → Bool} {w w' : World} (h : Below w.heap.size w w') (hB : γ.B ≤ w.heap.size) : Step γ S w w' :=
  ⟨⟨h.os, h.tape, h.output, h.size, fun k hk => h.block k (Nat.lt_of_lt_of_le hk hB)⟩, fun k hk _ => h.block k hk, fun k T _ hk ht => ht.same (h.block k hk)⟩
theorem Step.below {γ : Gh} {S : TypeId → Bool} {w w' : World} (h : Below w.heap.size w w') (hB : γ.lim ≤ w.heap.size) : Step γ S w w' := Step.belowB h (Nat.le_trans γ.hB hB)
theorem Step.heap {γ : Gh} {S : TypeId → Bool} {w w' : World} (h : Step γ S w w') {k : Nat} {T : TypeId} (ht : Tag γ w k T) (hS : S T = false) (hk : k < w.heap.size) : w'.heap[k]? = w.heap[k]? :=
  h.on k hk fun T' hT => by rw [← ht.uniq hT]; exact hS
theorem Step.size {γ : Gh} {S : TypeId → Bool} {w w' : World} (h : Step γ S w w') : w.heap.size ≤ w'.heap.size := h.be.size
theorem Step.drew {γ : Gh} {S : TypeId → Bool} {w w' : World} (h : Step γ S w w') : Step γ S w w'.drew := h.trans ⟨Below.drew (Below.refl _ _), fun _ _ _ => rfl, fun _ _ _ _ h => h⟩
theorem heap_set_same (w : World) {k o : Nat} {v v0 : Value} (h : w.cell? ⟨k, o, none⟩ = some v0) : ∃ c T r, w.heap[k]? = some (.cells c T r) ∧ o < c.size ∧ (w.setCell ⟨k, o, none⟩ v).heap[k]? = some (.cells (c.setIfInBounds o v) T r) := by
  unfold World.cell? at h
  simp only at h
  cases hb : w.heap[k]? with
  | none => rw [hb] at h; cases h
  | some ob =>
    cases ob with
    | cells c T r =>
      rw [hb] at h
      have h : c[o]? = some v0 := h
      have hlt : o < c.size := by
        by_cases hh : o < c.size
        · exact hh
        · rw [Array.getElem?_eq_none (by omega)] at h; cases h
      have hk : k < w.heap.size := (Array.getElem?_eq_some_iff.1 hb).1
      refine ⟨c, T, r, rfl, hlt, ?_⟩
      unfold World.setCell
      simp only [Array.getElem?_modify]
      rw [hb]
      simp
    | _ => rw [hb] at h; cases h
theorem kindOf_set {w : World} {k j o : Nat} {v v0 : Value} (hc : w.cell? ⟨j, o, none⟩ = some v0) : kindOf (w.setCell ⟨j, o, none⟩ v) k = kindOf w k := by
  by_cases e : k = j
  · subst e
    obtain ⟨c', T', r', h3, _, h4⟩ := heap_set_same w (v := v) hc
    simp [kindOf, h3, h4]
  · exact kindOf_same (heap_setCell_other w _ k v e)
theorem Tag.set {γ : Gh} {w : World} {k j o : Nat} {T : TypeId} {v v0 : Value} (h : Tag γ w k T) (hc : w.cell? ⟨j, o, none⟩ = some v0) : Tag γ (w.setCell ⟨j, o, none⟩ v) k T := (Gh.kind_of (kindOf_set hc)).trans h
theorem Step.set {γ : Gh} {S : TypeId → Bool} {w : World} {k o : Nat} {T : TypeId} {v v0 : Value} (ht : Tag γ w k T) (hS : S T = true) (hB : γ.B ≤ k) (hc : w.cell? ⟨k, o, none⟩ = some v0) : Step γ S w (w.setCell ⟨k, o, none⟩ v) :=
  ⟨⟨rfl, rfl, rfl, by simp [World.setCell], fun j hj => heap_setCell_other w ⟨k, o, none⟩ j v (by show j ≠ k; omega)⟩, fun j hj hh => (by
    refine heap_setCell_other w ⟨k, o, none⟩ j v (fun e => ?_)
    have e : j = k := e
    subst e
    rw [hh T ht] at hS; cases hS), fun j T' _ hj h => h.set hc⟩
theorem Step.grown {γ : Gh} {S : TypeId → Bool} {w w' : World} {row : Option Nat} (h : w.grownBy w' row) (hB : γ.B ≤ w.heap.size) (hS : S 124 = true) (hr : ∀ g, row = some g → γ.B ≤ g ∧ Tag γ w g 124) : Step γ S w w' := by
  refine ⟨⟨h.os, h.tape, h.output, h.size, fun k hk => ?_⟩, fun k hk ht => h.block k hk fun e => ?_, fun k T hn hk ht => ht.same (h.block k hk fun e => ?_)⟩
  · by_cases hks : k < w.heap.size
    · exact h.block k hks fun e => by have := (hr k e.symm).1; omega
    · omega
  · rw [ht 124 (hr k e.symm).2] at hS; cases hS
  · exact hn (ht.uniq (hr k e.symm).2)
theorem Step.alloc {γ : Gh} {S : TypeId → Bool} {w : World} (hB : γ.lim ≤ w.heap.size) (x : Obj) : Step γ S w (w.alloc x) :=
  Step.below (Below.alloc (Below.refl _ _) (Nat.le_refl _) _) hB
structure Gh.Le (w : World) (γ γ' : Gh) : Prop where
  B : γ'.B = γ.B
  told : ∀ k, k < w.heap.size → γ'.told k = γ.told k
theorem Gh.Le.refl (w : World) (γ : Gh) : Gh.Le w γ γ := ⟨rfl, fun _ _ => rfl⟩
theorem Tag.more {γ γ' : Gh} {w : World} {k : Nat} {T : TypeId} (h : Tag γ w k T) (hl : Gh.Le w γ γ') (hk : k < w.heap.size) : Tag γ' w k T := by
  unfold Tag Gh.kind at h ⊢; rw [hl.told k hk]; exact h
def RB (γ : Gh) (w : World) (v : Value) (bs : Bs) : Prop :=
  ∃ a c, v = .slice a bs.length c ∧ ((∀ x ∈ bs, x < 256) ∧ bs.length ≤ c) ∧ (0 < bs.length → ∃ g o, a = some ⟨g, o, none⟩ ∧ g < w.heap.size ∧ Tag γ w g 5 ∧ ∀ (j x : Nat), bs[j]? = some x → w.cell? ⟨g, o + j, none⟩ = some (.int .u8 (x : Int)))
def RV (w : World) (v : Value) (bs : Bs) : Prop :=
  ∃ a c, v = .slice a bs.length c ∧ ((∀ x ∈ bs, x < 256) ∧ bs.length ≤ c) ∧ (0 < bs.length → ∃ g o, a = some ⟨g, o, none⟩ ∧ g < w.heap.size ∧ ∀ (j x : Nat), bs[j]? = some x → w.cell? ⟨g, o + j, none⟩ = some (.int .u8 (x : Int)))
def RA (γ : Gh) (w : World) (v : Value) (bs : Bs) : Prop :=
  ∃ a c, v = .slice a bs.length c ∧ ((∀ x ∈ bs, x < 256) ∧ bs.length ≤ c) ∧ (0 < bs.length → ∃ g o, a = some ⟨g, o, none⟩ ∧ g < w.heap.size ∧ (Tag γ w g 5 ∨ Tag γ w g 0) ∧ ∀ (j x : Nat), bs[j]? = some x → w.cell? ⟨g, o + j, none⟩ = some (.int .u8 (x : Int)))
theorem RB.ra {γ : Gh} {w : World} {v : Value} {bs : Bs} (h : RB γ w v bs) : RA γ w v bs := by
  obtain ⟨a, c, e, hx, h⟩ := h
  exact ⟨a, c, e, hx, fun hp => by obtain ⟨g, o, e1, e2, e4, e3⟩ := h hp; exact ⟨g, o, e1, e2, .inl e4, e3⟩⟩
theorem RA.rv {γ : Gh} {w : World} {v : Value} {bs : Bs} (h : RA γ w v bs) : RV w v bs := by
  obtain ⟨a, c, e, hx, h⟩ := h
  exact ⟨a, c, e, hx, fun hp => by obtain ⟨g, o, e1, e2, e4, e3⟩ := h hp; exact ⟨g, o, e1, e2, e3⟩⟩
theorem RB.rv {γ : Gh} {w : World} {v : Value} {bs : Bs} (h : RB γ w v bs) : RV w v bs := h.ra.rv
theorem RV.keep {w w' : World} {v : Value} {bs : Bs} (h : RV w v bs) (hs : Below w.heap.size w w') : RV w' v bs := by
  obtain ⟨a, c, e, hx, h⟩ := h
  refine ⟨a, c, e, hx, fun hp => ?_⟩
  obtain ⟨g, o, ea, hg, hc⟩ := h hp
  exact ⟨g, o, ea, Nat.lt_of_lt_of_le hg hs.size, fun j x hj => (cell_of_heap (a := ⟨g, o + j, none⟩) (hs.block g hg)).1.trans (hc j x hj)⟩
theorem RA.keep {γ : Gh} {S : TypeId → Bool} {w w' : World} {v : Value} {bs : Bs} (h : RA γ w v bs) (hs : Step γ S w w') (h5 : S 5 = false) (h0 : S 0 = false) : RA γ w' v bs := by
  obtain ⟨a, c, e, hx, h⟩ := h
  refine ⟨a, c, e, hx, fun hp => ?_⟩
  obtain ⟨g, o, ea, hg, ht, hc⟩ := h hp
  have hh : w'.heap[g]? = w.heap[g]? := ht.elim (fun ht => hs.heap ht h5 hg) (fun ht => hs.heap ht h0 hg)
  exact ⟨g, o, ea, Nat.lt_of_lt_of_le hg hs.size, ht.imp (fun ht => ht.same hh) (fun ht => ht.same hh), fun j x hj => (cell_of_heap (a := ⟨g, o + j, none⟩) hh).1.trans (hc j x hj)⟩
theorem RB.keep {γ : Gh} {S : TypeId → Bool} {w w' : World} {v : Value} {bs : Bs} (h : RB γ w v bs) (hs : Step γ S w w') (h5 : S 5 = false) : RB γ w' v bs := by
  obtain ⟨a, c, e, hx, h⟩ := h
  refine ⟨a, c, e, hx, fun hp => ?_⟩
  obtain ⟨g, o, ea, hg, ht, hc⟩ := h hp
  have hh := hs.heap ht h5 hg
  exact ⟨g, o, ea, Nat.lt_of_lt_of_le hg hs.size, ht.same hh, fun j x hj => (cell_of_heap (a := ⟨g, o + j, none⟩) hh).1.trans (hc j x hj)⟩
theorem RB.more {γ γ' : Gh} {w : World} {v : Value} {bs : Bs} (h : RB γ w v bs) (hl : Gh.Le w γ γ') : RB γ' w v bs := by
  obtain ⟨a, c, e, hx, h⟩ := h
  refine ⟨a, c, e, hx, fun hp => ?_⟩
  obtain ⟨g, o, ea, hg, ht, hc⟩ := h hp
  exact ⟨g, o, ea, hg, ht.more hl hg, hc⟩
theorem RB.nil (γ : Gh) (w : World) (a : Option Addr) (c : Nat) : RB γ w (.slice a 0 c) [] := ⟨a, c, rfl, ⟨fun _ h => by simp at h, Nat.zero_le _⟩, fun h => by simp at h⟩
theorem RA.nil (γ : Gh) (w : World) (a : Option Addr) (c : Nat) : RA γ w (.slice a 0 c) [] := (RB.nil γ w a c).ra
theorem RV.nil (w : World) (a : Option Addr) (c : Nat) : RV w (.slice a 0 c) [] := ⟨a, c, rfl, ⟨fun _ h => by simp at h, Nat.zero_le _⟩, fun h => by simp at h⟩
theorem RV.len {w : World} {v : Value} {bs : Bs} (h : RV w v bs) : ∃ a c, v = .slice a bs.length c := by obtain ⟨a, c, e, _⟩ := h; exact ⟨a, c, e⟩
theorem RV.byte {w : World} {v : Value} {bs : Bs} (h : RV w v bs) : ∀ x ∈ bs, x < 256 := by obtain ⟨a, c, e, h, _⟩ := h; exact h.1
def RN (base : Nat) (w : World) (v : Value) (bs : Bs) : Prop :=
  ∃ a c, v = .slice a bs.length c ∧ ((∀ x ∈ bs, x < 256) ∧ bs.length ≤ c) ∧ (0 < bs.length → ∃ g o, ∃ r : {r : Nat × Nat // r.2 = 0}, ∃ cs, a = some ⟨g, o, none⟩ ∧ base ≤ g ∧ w.heap[g]? = some (.cells cs 5 r.1) ∧ ∀ (j x : Nat), bs[j]? = some x → w.cell? ⟨g, o + j, none⟩ = some (.int .u8 (x : Int)))
theorem RN.rb {base : Nat} {γ : Gh} {w : World} {v : Value} {bs : Bs} (h : RN base w v bs) (h0 : γ.lim ≤ base) : RB γ w v bs := by
  obtain ⟨a, c, e, hx, h⟩ := h
  refine ⟨a, c, e, hx, fun hp => ?_⟩
  obtain ⟨g, o, r, cs, ea, hg, hh, hc⟩ := h hp
  exact ⟨g, o, ea, (Array.getElem?_eq_some_iff.1 hh).1, Tag.new (Nat.le_trans h0 hg) hh, hc⟩
theorem RN.rv {base : Nat} {w : World} {v : Value} {bs : Bs} (h : RN base w v bs) : RV w v bs := by
  obtain ⟨a, c, e, hx, h⟩ := h
  refine ⟨a, c, e, hx, fun hp => ?_⟩
  obtain ⟨g, o, r, cs, ea, hg, hh, hc⟩ := h hp
  exact ⟨g, o, ea, (Array.getElem?_eq_some_iff.1 hh).1, hc⟩
theorem RN.nil (base : Nat) (w : World) (a : Option Addr) (c : Nat) : RN base w (.slice a 0 c) [] := ⟨a, c, rfl, ⟨fun _ h => by simp at h, Nat.zero_le _⟩, fun h => by simp at h⟩
theorem RN.keep {base : Nat} {w w' : World} {v : Value} {bs : Bs} (h : RN base w v bs) (hs : Below w.heap.size w w') : RN base w' v bs := by
  obtain ⟨a, c, e, hx, h⟩ := h
  refine ⟨a, c, e, hx, fun hp => ?_⟩
  obtain ⟨g, o, r, cs, ea, hg, hh, hc⟩ := h hp
  have hb := hs.block g (Array.getElem?_eq_some_iff.1 hh).1
  exact ⟨g, o, r, cs, ea, hg, hb.trans hh, fun j x hj => (cell_of_heap (a := ⟨g, o + j, none⟩) hb).1.trans (hc j x hj)⟩
theorem RN.mono {base base' : Nat} {w : World} {v : Value} {bs : Bs} (h : RN base w v bs) (hb : base' ≤ base) : RN base' w v bs := by
  obtain ⟨a, c, e, hx, h⟩ := h
  refine ⟨a, c, e, hx, fun hp => ?_⟩
  obtain ⟨g, o, r, cs, ea, hg, hh, hc⟩ := h hp
  exact ⟨g, o, r, cs, ea, Nat.le_trans hb hg, hh, hc⟩
end Go.Tb
namespace Go.Tb
open Go Go.RowKit Go.Proofs Go.Sp
def flatP : List (Nat × Bs) → List Value → List Value
  | p :: P, v :: vs => .int .i64 (p.1 : Int) :: v :: flatP P vs
  | _, _ => []
structure PeV (γ : Gh) (w : World) (N : Nat) (v : Value) (P : List (Nat × Bs)) (vs : List Value) : Prop where
  len : vs.length = P.length
  own : w.ownsRow γ.B 124 2 v P.length (flatP P vs)
  rb : ∀ (i : Nat) (p : Nat × Bs) (u : Value), P[i]? = some p → vs[i]? = some u → p.1 < N ∧ RB γ w u p.2
structure DkV (γ : Gh) (w : World) (db : Nat) (d : Dk) : Prop where
  tg : Tag γ w db 93
  Bd : γ.B ≤ db
  hN : d.N ≤ 4096
  ha : d.ar ≤ 9223372036854775807
  dz : ∀ o, o < 5 → w.frozen? ⟨db, o, none⟩ = false
  d0 : ∃ sa so c, w.cell? ⟨db, 0, none⟩ = some (.slice (some ⟨sa, so, none⟩) d.N c) ∧ Tag γ w sa 33 ∧ γ.B ≤ sa ∧ sa < w.heap.size ∧ (∀ s, s < d.N → w.frozen? ⟨sa, so + s, none⟩ = false) ∧ ∀ s, s < d.N → ∃ v, w.cell? ⟨sa, so + s, none⟩ = some v ∧ RB γ w v (d.S s)
  d1 : ∃ v vs, w.cell? ⟨db, 1, none⟩ = some v ∧ PeV γ w d.N v d.P vs
  d2 : w.cell? ⟨db, 2, none⟩ = some (.bool d.dead)
  d3 : w.cell? ⟨db, 3, none⟩ = some (.int .i64 (d.ar : Int))
  d4 : ∃ k, w.cell? ⟨db, 4, none⟩ = some (.int .i64 k) ∧ (d.st = 0 → k = 0)
theorem cell_lt2 {w : World} {b o : Nat} {v : Value} (h : w.cell? ⟨b, o, none⟩ = some v) : b < w.heap.size := cell_lt' h
theorem cell_keep {γ : Gh} {S : TypeId → Bool} {w w' : World} (hs : Step γ S w w') {k o : Nat} {T : TypeId} {v : Value} (ht : Tag γ w k T) (hS : S T = false) (h : w.cell? ⟨k, o, none⟩ = some v) : w'.cell? ⟨k, o, none⟩ = some v :=
  (cell_of_heap (a := ⟨k, o, none⟩) (hs.heap ht hS (cell_lt' h))).1.trans h
theorem fz_keep {γ : Gh} {S : TypeId → Bool} {w w' : World} (hs : Step γ S w w') {k o : Nat} {T : TypeId} (ht : Tag γ w k T) (hS : S T = false) (hk : k < w.heap.size) (h : w.frozen? ⟨k, o, none⟩ = false) : w'.frozen? ⟨k, o, none⟩ = false :=
  (cell_of_heap (a := ⟨k, o, none⟩) (hs.heap ht hS hk)).2.trans h
theorem ownsRow_same {w w' : World} {B e k n : Nat} {v : Value} {xs : List Value} (h : w.ownsRow B e k v n xs) (hs : ∀ g, v.ownBlock = some g → w'.heap[g]? = w.heap[g]?) : w'.ownsRow B e k v n xs := by
  refine ⟨h.1, ?_⟩
  rcases h.2 with h | ⟨g, cap, cur, rfl, h1, h2, h3⟩
  · exact .inl h
  · exact .inr ⟨g, cap, cur, rfl, h1, (hs g rfl).trans h2, h3⟩
theorem PeV.tg {γ : Gh} {w : World} {N : Nat} {v : Value} {P : List (Nat × Bs)} {vs : List Value} (h : PeV γ w N v P vs) : ∀ g, v.ownBlock = some g → Tag γ w g 124 := fun g hg => by
  rcases h.own.2 with ⟨rfl, _⟩ | ⟨g', cap, cur, rfl, h1, h2, _⟩
  · cases hg
  · injection hg with hg; subst hg; exact Tag.row h2
theorem PeV.keep {γ : Gh} {S : TypeId → Bool} {w w' : World} {N : Nat} {v : Value} {P : List (Nat × Bs)} {vs : List Value} (h : PeV γ w N v P vs) (hs : Step γ S w w') (h5 : S 5 = false) (h9 : S 124 = false) : PeV γ w' N v P vs :=
  ⟨h.len, ownsRow_same h.own fun g hg => hs.heap (h.tg g hg) h9 ((h.own.lt g hg).2), fun i p u hp hu => ⟨(h.rb i p u hp hu).1, (h.rb i p u hp hu).2.keep hs h5⟩⟩
theorem PeV.more {γ γ' : Gh} {w : World} {N : Nat} {v : Value} {P : List (Nat × Bs)} {vs : List Value} (h : PeV γ w N v P vs) (hl : Gh.Le w γ γ') : PeV γ' w N v P vs :=
  ⟨h.len, hl.B ▸ h.own, fun i p u hp hu => ⟨(h.rb i p u hp hu).1, (h.rb i p u hp hu).2.more hl⟩⟩
theorem DkV.lt {γ : Gh} {w : World} {db : Nat} {d : Dk} (h : DkV γ w db d) : db < w.heap.size := cell_lt' h.d2
theorem DkV.keep {γ : Gh} {S : TypeId → Bool} {w w' : World} {db : Nat} {d : Dk} (h : DkV γ w db d) (hs : Step γ S w w') (hS : S 5 = false ∧ S 124 = false ∧ S 93 = false ∧ S 33 = false) : DkV γ w' db d := by
  obtain ⟨h5, h9, h11, h37⟩ := hS
  have hl := h.lt
  obtain ⟨sa, so, c, e0, e1, e2, e2', e3, e4⟩ := h.d0
  obtain ⟨v, vs, e5, e6⟩ := h.d1
  obtain ⟨k, e7, e8⟩ := h.d4
  refine ⟨hs.tg _ _ (by decide) hl h.tg, h.Bd, h.hN, h.ha, fun o ho => fz_keep hs h.tg h11 hl (h.dz o ho), ⟨sa, so, c, cell_keep hs h.tg h11 e0, hs.tg _ _ (by decide) e2' e1, e2, Nat.lt_of_lt_of_le e2' hs.size, fun s h1 => fz_keep hs e1 h37 e2' (e3 s h1), fun s h1 => ?_⟩, ⟨v, vs, cell_keep hs h.tg h11 e5, e6.keep hs h5 h9⟩, cell_keep hs h.tg h11 h.d2, cell_keep hs h.tg h11 h.d3, ⟨k, cell_keep hs h.tg h11 e7, e8⟩⟩
  obtain ⟨u, g1, g2⟩ := e4 s h1
  exact ⟨u, cell_keep hs e1 h37 g1, g2.keep hs h5⟩
theorem DkV.more {γ γ' : Gh} {w : World} {db : Nat} {d : Dk} (h : DkV γ w db d) (hl : Gh.Le w γ γ') : DkV γ' w db d := by
  obtain ⟨sa, so, c, e0, e1, e2, e2', e3, e4⟩ := h.d0
  obtain ⟨v, vs, e5, e6⟩ := h.d1
  exact ⟨h.tg.more hl h.lt, hl.B ▸ h.Bd, h.hN, h.ha, h.dz, ⟨sa, so, c, e0, e1.more hl e2', hl.B ▸ e2, e2', e3, fun s h1 => by obtain ⟨u, g1, g2⟩ := e4 s h1; exact ⟨u, g1, g2.more hl⟩⟩, ⟨v, vs, e5, e6.more hl⟩, h.d2, h.d3, h.d4⟩
theorem power_ok {w : World} {db : Nat} {b : Bool} (h : w.cell? ⟨db, 2, none⟩ = some (.bool b)) :
    Calls Tryz.prog 70 #[.pointer (some ⟨db, 0, none⟩)] w fun e w' => e = .returned (.int .i64 (if b then 4 else 0)) ∧ w' = w := by
  have hl := cell_lt' h
  cases b
  all_goals
    go_enter Tryz.func70, Tryz.ntmps70
    go_wp2
    go_ret
    exact ⟨rfl, rfl⟩
theorem within_ok {w : World} {db N : Nat} {s : Int} {a : Option Addr} {c : Nat} (h : w.cell? ⟨db, 0, none⟩ = some (.slice a N c)) :
    Calls Tryz.prog 71 #[.pointer (some ⟨db, 0, none⟩), .int .i64 s] w fun e w' => e = .returned (.bool (decide (0 ≤ s ∧ s < (N : Int)))) ∧ w' = w := by
  have hl := cell_lt' h
  by_cases i0 : 0 ≤ s
  · by_cases i1 : s < (N : Int)
    · have e : decide (0 ≤ s ∧ s < (N : Int)) = true := by simp [i0, i1]
      rw [e]
      go_enter Tryz.func71, Tryz.ntmps71
      go_wp2
      go_ret
      exact ⟨rfl, rfl⟩
    · have e : decide (0 ≤ s ∧ s < (N : Int)) = false := by simp [i1]
      rw [e]
      have i2 : decide (s < (N : Int)) = false := by simpa using i1
      go_enter Tryz.func71, Tryz.ntmps71
      go_wp2
      go_ret
      exact ⟨rfl, rfl⟩
  · have e : decide (0 ≤ s ∧ s < (N : Int)) = false := by simp [i0]
    rw [e]
    have i2 : decide (0 ≤ s) = false := by simpa using i0
    go_enter Tryz.func71, Tryz.ntmps71
    go_wp2
    go_ret
    exact ⟨rfl, rfl⟩
theorem dead_ok {w : World} {db : Nat} {b : Bool} (h : w.cell? ⟨db, 2, none⟩ = some (.bool b)) :
    Calls Tryz.prog 38 #[.pointer (some ⟨db, 0, none⟩)] w fun e w' => e = .returned (.bool b) ∧ w' = w := by
  have hl := cell_lt' h
  go_enter Tryz.func38, Tryz.ntmps38
  go_wp2
  go_ret
  exact ⟨rfl, rfl⟩
theorem on_ok {w : World} {sb db : Nat} {b : Bool} (h0 : w.cell? ⟨sb, 0, none⟩ = some (.pointer (some ⟨db, 0, none⟩))) (h : w.cell? ⟨db, 2, none⟩ = some (.bool b)) :
    Calls Tryz.prog 28 #[.pointer (some ⟨sb, 0, none⟩)] w fun e w' => e = .returned (.int .i64 (if b then 4 else 0)) ∧ w' = w := by
  have hl := cell_lt' h0
  have H := dead_ok h
  clear h
  cases b
  all_goals
    go_enter Tryz.func28, Tryz.ntmps28
    go_wp2_with (go_at_call 38; refine H.mono ?_; rintro e w5 ⟨rfl, rfl⟩)
    go_ret
    exact ⟨rfl, rfl⟩
theorem con_ok {w : World} {cb db : Nat} {b : Bool} (h0 : w.cell? ⟨cb, 0, none⟩ = some (.pointer (some ⟨db, 0, none⟩))) (h : w.cell? ⟨db, 2, none⟩ = some (.bool b)) :
    Calls Tryz.prog 65 #[.pointer (some ⟨cb, 0, none⟩)] w fun e w' => e = .returned (.int .i64 (if b then 4 else 0)) ∧ w' = w := by
  have hl := cell_lt' h0
  have H := dead_ok h
  clear h
  cases b
  all_goals
    go_enter Tryz.func65, Tryz.ntmps65
    go_wp2_with (go_at_call 38; refine H.mono ?_; rintro e w5 ⟨rfl, rfl⟩)
    go_ret
    exact ⟨rfl, rfl⟩
def mayN (b : Bool) (p : Int) (N : Nat) : Nat := if b then 4 else if p < 0 ∨ (N : Int) ≤ p then 1 else 0
theorem may_ok {w : World} {sb db : Nat} {p : Int} {b : Bool} (h0 : w.cell? ⟨sb, 0, none⟩ = some (.pointer (some ⟨db, 0, none⟩))) (h : w.cell? ⟨db, 2, none⟩ = some (.bool b)) :
    Calls Tryz.prog 42 #[.pointer (some ⟨sb, 0, none⟩), .int .i64 p] w fun e w' => e = .returned (.int .i64 (mayN b p 1024)) ∧ w' = w := by
  have H := on_ok h0 h
  clear h h0
  cases b with
  | true =>
    go_enter Tryz.func42, Tryz.ntmps42
    go_wp2_with (go_at_call 28; refine H.mono ?_; rintro e w5 ⟨rfl, rfl⟩)
    go_ret
    exact ⟨rfl, rfl⟩
  | false =>
    by_cases i0 : p < 0
    · have e : mayN false p 1024 = 1 := by simp [mayN, i0]
      rw [e]
      have i3 : decide (p < 0) = true := by simpa using i0
      go_enter Tryz.func42, Tryz.ntmps42
      go_wp2_with (go_at_call 28; refine H.mono ?_; rintro e w5 ⟨rfl, rfl⟩)
      go_ret
      exact ⟨rfl, rfl⟩
    · by_cases i1 : 1024 ≤ p
      · have e : mayN false p 1024 = 1 := by simp [mayN, i1]
        rw [e]
        have i3 : decide (p < 0) = false := by simpa using i0
        go_enter Tryz.func42, Tryz.ntmps42
        go_wp2_with (go_at_call 28; refine H.mono ?_; rintro e w5 ⟨rfl, rfl⟩)
        go_ret
        exact ⟨rfl, rfl⟩
      · have e : mayN false p 1024 = 0 := by simp [mayN, i0, i1]
        rw [e]
        have i3 : decide (p < 0) = false := by simpa using i0
        have i4 : decide (1024 ≤ p) = false := by simpa using i1
        go_enter Tryz.func42, Tryz.ntmps42
        go_wp2_with (go_at_call 28; refine H.mono ?_; rintro e w5 ⟨rfl, rfl⟩)
        go_ret
        exact ⟨rfl, rfl⟩
theorem sectors_ok {w : World} {db N : Nat} {a : Option Addr} {c : Nat} (h : w.cell? ⟨db, 0, none⟩ = some (.slice a N c)) :
    Calls Tryz.prog 78 #[.pointer (some ⟨db, 0, none⟩)] w fun e w' => e = .returned (.int .i64 (N : Int)) ∧ w' = w := by
  have hl := cell_lt' h
  go_enter Tryz.func78, Tryz.ntmps78
  go_wp2
  go_ret
  exact ⟨rfl, rfl⟩
theorem cmay_ok {w : World} {cb db N : Nat} {s : Int} {b : Bool} {a : Option Addr} {c : Nat} (h0 : w.cell? ⟨cb, 0, none⟩ = some (.pointer (some ⟨db, 0, none⟩))) (h1 : w.cell? ⟨db, 0, none⟩ = some (.slice a N c)) (h : w.cell? ⟨db, 2, none⟩ = some (.bool b)) :
    Calls Tryz.prog 107 #[.pointer (some ⟨cb, 0, none⟩), .int .i64 s] w fun e w' => e = .returned (.int .i64 (mayN b s N)) ∧ w' = w := by
  have H := con_ok h0 h
  have H2 := sectors_ok h1
  have hl := cell_lt' h0
  clear h h1
  cases b with
  | true =>
    go_enter Tryz.func107, Tryz.ntmps107
    go_wp2_with (first | (go_at_call 65; refine H.mono ?_; rintro e w5 ⟨rfl, rfl⟩) | (go_at_call 78; refine H2.mono ?_; rintro e w6 ⟨rfl, rfl⟩))
    go_ret
    exact ⟨rfl, rfl⟩
  | false =>
    by_cases i0 : s < 0
    · have e : mayN false s N = 1 := by simp [mayN, i0]
      rw [e]
      have i3 : decide (s < 0) = true := by simpa using i0
      go_enter Tryz.func107, Tryz.ntmps107
      go_wp2_with (first | (go_at_call 65; refine H.mono ?_; rintro e w5 ⟨rfl, rfl⟩) | (go_at_call 78; refine H2.mono ?_; rintro e w6 ⟨rfl, rfl⟩))
      go_ret
      exact ⟨rfl, rfl⟩
    · by_cases i1 : (N : Int) ≤ s
      · have e : mayN false s N = 1 := by simp [mayN, i1]
        rw [e]
        have i3 : decide (s < 0) = false := by simpa using i0
        go_enter Tryz.func107, Tryz.ntmps107
        go_wp2_with (first | (go_at_call 65; refine H.mono ?_; rintro e w5 ⟨rfl, rfl⟩) | (go_at_call 78; refine H2.mono ?_; rintro e w6 ⟨rfl, rfl⟩))
        go_ret
        exact ⟨rfl, rfl⟩
      · have e : mayN false s N = 0 := by simp [mayN, i0, i1]
        rw [e]
        have i3 : decide (s < 0) = false := by simpa using i0
        have i4 : decide ((N : Int) ≤ s) = false := by simpa using i1
        go_enter Tryz.func107, Tryz.ntmps107
        go_wp2_with (first | (go_at_call 65; refine H.mono ?_; rintro e w5 ⟨rfl, rfl⟩) | (go_at_call 78; refine H2.mono ?_; rintro e w6 ⟨rfl, rfl⟩))
        go_ret
        exact ⟨rfl, rfl⟩
theorem DkV.setOwn {γ : Gh} {w : World} {db o : Nat} {d d' : Dk} {v v0 : Value} (H : DkV γ w db d) (ho : 2 ≤ o ∧ o < 5) (h0 : w.cell? ⟨db, o, none⟩ = some v0)
    (e : d'.N = d.N ∧ d'.S = d.S ∧ d'.P = d.P) (ha : d'.ar ≤ 9223372036854775807) (c2 : (if o = 2 then v else .bool d.dead) = .bool d'.dead) (c3 : (if o = 3 then v else .int .i64 (d.ar : Int)) = .int .i64 (d'.ar : Int)) (c4 : ∀ u, w.cell? ⟨db, 4, none⟩ = some u → ∃ k, (if o = 4 then v else u) = .int .i64 k ∧ (d'.st = 0 → k = 0)) :
    DkV γ (w.setCell ⟨db, o, none⟩ v) db d' ∧ Step γ (fun T => T == 93) w (w.setCell ⟨db, o, none⟩ v) := by
  obtain ⟨sa, so, c, e0, e1, e2, e2', e3, e4⟩ := H.d0
  obtain ⟨pv, vs, e5, e6⟩ := H.d1
  have s2 : Step γ (fun T => T == 93) w (w.setCell ⟨db, o, none⟩ v) := Step.set H.tg rfl H.Bd h0
  have other : ∀ {o' : Nat} {u : Value}, o' ≠ o → w.cell? ⟨db, o', none⟩ = some u → (w.setCell ⟨db, o, none⟩ v).cell? ⟨db, o', none⟩ = some u := fun {o' u} ho hu => by
    rw [World.cell?_setCell_other _ _ _ _ (by intro h; injection h with _ h; exact ho h.symm)]
    exact hu
  have any : ∀ {o' : Nat} {u : Value}, w.cell? ⟨db, o', none⟩ = some u → (w.setCell ⟨db, o, none⟩ v).cell? ⟨db, o', none⟩ = some (if o = o' then v else u) := fun {o' u} hu => by
    by_cases h : o = o'
    · subst h; rw [if_pos rfl]; exact World.cell?_setCell_same w _ _ hu
    · rw [if_neg h]; exact other (Ne.symm h) hu
  obtain ⟨k, e7, _⟩ := H.d4
  obtain ⟨k', e8, e9⟩ := c4 _ e7
  obtain ⟨q1, q2, q3⟩ := e
  refine ⟨⟨H.tg.set h0, H.Bd, q1 ▸ H.hN, ha, fun o ho => by rw [World.frozen?_setCell]; exact H.dz o ho, ⟨sa, so, c, by rw [q1]; exact other (by omega) e0, e1.set h0, e2, by simpa [World.setCell] using e2', fun s h1 => by rw [World.frozen?_setCell]; exact e3 s (q1 ▸ h1), fun s h1 => ?_⟩, ⟨pv, vs, other (by omega) e5, by rw [q1, q3]; exact e6.keep s2 rfl rfl⟩, by rw [← c2]; exact any H.d2, by rw [← c3]; exact any H.d3, ⟨k', by rw [← e8]; exact any e7, e9⟩⟩, s2⟩
  obtain ⟨u, g1, g2⟩ := e4 s (q1 ▸ h1)
  exact ⟨u, cell_keep s2 e1 rfl g1, by rw [q2]; exact g2.keep s2 rfl⟩
end Go.Tb
namespace Go.Tb
open Go Go.RowKit Go.Proofs Go.Maps
def heldR (v : Value) : Option (DataW Value × List MemPlace) := some (.held v, [])
theorem held_look {P : Program} {w : World} {k : TypeId} {b n : Nat} {D : DataW Value} (h : w.ownsMap P k heldR b n D) {t e : TypeId} (K : Keyed P k) (ht : P.underlying t = some (.map k e)) {z : Value} (hz : (zeroValue e).run P w = .ok z w) {key : Value} {kl : Lit} (hkey : keyOf P k key = some kl) :
    ∃ v, (Instr.lookup t (.map (some b)) key false).run P w = .ok v w ∧ D.atKey kl (.held z) = .held v := by
  obtain ⟨v, ps, h1, h2⟩ := h.lookup K ht hz (zd := .held z) (zp := []) rfl hkey
  simp only [heldR, Option.some.injEq, Prod.mk.injEq] at h2
  exact ⟨v, h1, h2.1.symm⟩
theorem held_look_ok {P : Program} {w : World} {k : TypeId} {b n : Nat} {D : DataW Value} (h : w.ownsMap P k heldR b n D) {t e : TypeId} (K : Keyed P k) (ht : P.underlying t = some (.map k e)) {z : Value} (hz : (zeroValue e).run P w = .ok z w) {key : Value} {kl : Lit} (hkey : keyOf P k key = some kl) :
    ∃ v, (Instr.lookup t (.map (some b)) key true).run P w = .ok (.tuple #[v, .bool (Maps.has D kl)]) w ∧ D.atKey kl (.held z) = .held v := by
  obtain ⟨v, ps, h1, h2⟩ := h.look_ok K ht hz (zd := .held z) (zp := []) rfl hkey
  simp only [heldR, Option.some.injEq, Prod.mk.injEq] at h2
  exact ⟨v, h1, h2.1.symm⟩
theorem wpList_look_held {P : Program} (w : World) {ops : Array Oper} {rest : List Oper} {o : Oper} {a : Act} {Q : Exit → Act → World → Prop}
    (hg : o.guard = none) (m x : Operand) (t : TypeId) (hop : o.op = Op.lookup t m x false)
    (k e : TypeId) (K : Keyed P k) (ht : P.underlying t = some (.map k e)) (z : Value) (hz : (zeroValue e).run P w = .ok z w) (b n : Nat) (D : DataW Value)
    (hm : a.eval m = .map (some b)) (hown : w.ownsMap P k heldR b n D) (key : Value) (kl : Lit) (hx : a.eval x = key) (hkey : keyOf P k key = some kl)
    (hK : ∀ v, D.atKey kl (.held z) = .held v → wpList P ops Q rest (a.put o.dst v) w) :
    wpList P ops Q (o :: rest) a w := by
  refine wpList_plain hg fun K' hK' => ?_
  obtain ⟨v, hrun, hat⟩ := held_look hown K ht hz hkey
  unfold Oper.wp
  simp [execOp, hop, hm, hx, hrun, Result.andThen]
  exact hK' _ _ (hK v hat)
theorem wpList_look_held_ok {P : Program} (w : World) {ops : Array Oper} {rest : List Oper} {o : Oper} {a : Act} {Q : Exit → Act → World → Prop}
    (hg : o.guard = none) (m x : Operand) (t : TypeId) (hop : o.op = Op.lookup t m x true)
    (k e : TypeId) (K : Keyed P k) (ht : P.underlying t = some (.map k e)) (z : Value) (hz : (zeroValue e).run P w = .ok z w) (b n : Nat) (D : DataW Value)
    (hm : a.eval m = .map (some b)) (hown : w.ownsMap P k heldR b n D) (key : Value) (kl : Lit) (hx : a.eval x = key) (hkey : keyOf P k key = some kl)
    (hK : ∀ v, D.atKey kl (.held z) = .held v → wpList P ops Q rest (a.put o.dst (.tuple #[v, .bool (Maps.has D kl)])) w) :
    wpList P ops Q (o :: rest) a w := by
  refine wpList_plain hg fun K' hK' => ?_
  obtain ⟨v, hrun, hat⟩ := held_look_ok hown K ht hz hkey
  unfold Oper.wp
  simp [execOp, hop, hm, hx, hrun, Result.andThen]
  exact hK' _ _ (hK v hat)
theorem atKey_has {D : DataW Value} {kl : Lit} (h : Maps.has D kl = true) (z z' : DataW Value) : D.atKey kl z = D.atKey kl z' := by
  cases D with
  | map es =>
    rw [Maps.has_eq, List.any_eq_true] at h
    obtain ⟨p, hp, hk⟩ := h
    have : (es.find? fun p => p.1.sameKey kl).isSome = true := List.find?_isSome.2 ⟨p, hp, hk⟩
    obtain ⟨q, hq⟩ := Option.isSome_iff_exists.1 this
    simp [DataW.atKey, hq]
  | _ => simp [Maps.has] at h
theorem wf_nat {n : Nat} (h : n < 2 ^ 62) : (Lit.int .i64 (n : Int)).wf = true := by
  simp [Lit.wf, IntKind.min, IntKind.max, IntKind.signed, IntKind.bits]; omega
theorem key_nat {n : Nat} (h : n < 2 ^ 62) : keyOf Tryz.prog 3 (.int .i64 (n : Int)) = some (.int .i64 (n : Int)) := Maps.keyOf_int_mk Tryz.underlying3 (wf_nat h)
theorem i5 : (Tryz.prog.info? 5).map (fun i => (i.size, i.bytes, i.zero)) = some (1, 1, some (.int .u8 0)) := by kernel_rfl
theorem sz5 : (Tryz.prog.info? 5).map (·.size) = some 1 := by kernel_rfl
end Go.Tb
namespace Go.Tb
open Go Go.RowKit Go.Proofs Go.Maps
def zrs (m : Nat) : List Value := List.replicate m (.int .u8 0)
theorem zrs_len (m : Nat) : (zrs m).length = m := by simp [zrs]
theorem made_zrs (m : Nat) : madeCells (Value.int .u8 0).cells (m * 1) = (zrs m).toArray := by
  simp [madeCells, zrs, Value.cells]
  apply Array.ext
  · simp
  · intro i h1 h2; simp [Nat.mod_one]
theorem mk22n {m : Nat} (hm : m ≤ 1048576) (w : World) : (Instr.makeSlice 33 (.int .i64 (m : Int)) (.int .i64 (m : Int))).run Tryz.prog w = .ok (.slice (some ⟨w.heap.size, 0, none⟩) m m) (w.alloc (.cells (zrs m).toArray 5)) := by
  obtain ⟨i, hi, hi2⟩ := Option.map_eq_some_iff.1 i5
  injection hi2 with h1 h2
  injection h2 with h2 h3
  have := run_makeSlice (P := Tryz.prog) w 33 5 i _ Tryz.underlying33 hi h3 .i64 .i64 (m : Int) (m : Int) (by omega) (by omega) (by rw [h1]; simp [maxLen]; omega) (by rw [h2]; simp [maxLen]; omega) (by omega)
  rw [this, h1, ← made_zrs]
  rfl
end Go.Tb
namespace Go.Tb
open Go Go.RowKit Go.Proofs Go.Sp
def dkS : TypeId → Bool := fun T => T == 93 || T == 33 || T == 124
theorem dk111 : ∀ T, dkS T = false → (fun T : TypeId => T == 93) T = false := fun T h => by simp [dkS] at h ⊢; exact h.1.1
theorem Dk.pw_eq (d : Dk) : ((d.pw : Nat) : Int) = if d.dead then 4 else 0 := by unfold Dk.pw; split <;> rfl
theorem step_ok {γ : Gh} {w : World} {db : Nat} {d : Dk} (H : DkV γ w db d) (hd : d.dead = false) :
    Calls Tryz.prog 72 #[.pointer (some ⟨db, 0, none⟩)] w fun e w' => e = .returned (.int .i64 (d.tick.pw : Nat)) ∧ DkV γ w' db d.tick ∧ Step γ dkS w w' := by
  obtain ⟨k, h4, hk⟩ := H.d4
  have h2 := H.d2
  have h3 := H.d3
  rw [hd] at h2
  have z4 := H.dz 4 (by decide)
  have z3 := H.dz 3 (by decide)
  have z2 := H.dz 2 (by decide)
  have hl := cell_lt' h2
  have P : ∀ (w' : World) (b : Bool), w'.cell? ⟨db, 2, none⟩ = some (.bool b) → Calls Tryz.prog 70 #[.pointer (some ⟨db, 0, none⟩)] w' fun e w5 => e = .returned (.int .i64 (if b then 4 else 0)) ∧ w5 = w' := fun w' b h => power_ok h
  have hne : ∀ {o o' : Nat}, o ≠ o' → (⟨db, o, none⟩ : Addr) ≠ ⟨db, o', none⟩ := fun ho h => by injection h with _ h; exact ho h
  have D1 := fun k' => H.setOwn (v := .int .i64 k') (o := 4) (d' := { d with st := d.st + 1 }) (by decide) h4 ⟨rfl, rfl, rfl⟩ H.ha (if_neg (by decide)) (if_neg (by decide)) (fun u _ => ⟨k', if_pos rfl, fun h => by simp at h⟩)
  by_cases e0 : d.ar = 0
  · have et : d.tick = { d with st := d.st + 1 } := by simp [Dk.tick, hd, e0]
    have ep : ((d.tick.pw : Nat) : Int) = 0 := by rw [et, Dk.pw_eq]; simp [hd]
    rw [ep]
    rw [← et] at D1
    have h3' : w.cell? ⟨db, 3, none⟩ = some (.int .i64 0) := by rw [h3, e0]; rfl
    have HD := Lib.hid D1
    have h2' : ∀ k', (w.setCell ⟨db, 4, none⟩ (.int .i64 k')).cell? ⟨db, 2, none⟩ = some (.bool false) := fun k' => by rw [World.cell?_setCell_other _ _ _ _ (hne (by decide))]; exact h2
    have P1 := fun k' => P _ _ (h2' k')
    clear D1 P H h3 h2' hk et ep
    go_enter Tryz.func72, Tryz.ntmps72
    go_wp2_with (go_at_call 70; refine (P1 _).mono ?_; rintro e w5 ⟨rfl, rfl⟩)
    go_ret
    exact ⟨rfl, (HD.out _).1, (HD.out _).2.mono dk111⟩
  · have hw : wrap64 ((d.ar : Int) - 1) = ((d.ar - 1 : Nat) : Int) := by have := H.ha; simp [wrap64]; omega
    obtain ⟨ar, ha⟩ : ∃ ar, ar = d.ar := ⟨_, rfl⟩
    obtain ⟨ar', ha'⟩ : ∃ ar', ar' = d.ar - 1 := ⟨_, rfl⟩
    have hz : ((ar : Int) - 1 == 0) = decide (ar = 1) := by
      by_cases h : ar = 1
      · simp [h]
      · have : ¬ (ar : Int) - 1 = 0 := by omega
        simp [h, this]
    have D2 : ∀ k', DkV γ ((w.setCell ⟨db, 4, none⟩ (.int .i64 k')).setCell ⟨db, 3, none⟩ (.int .i64 ((ar : Int) - 1))) db { d with st := d.st + 1, ar := ar' } ∧ Step γ (fun T => T == 93) w ((w.setCell ⟨db, 4, none⟩ (.int .i64 k')).setCell ⟨db, 3, none⟩ (.int .i64 ((ar : Int) - 1))) := fun k' => by
      obtain ⟨q1, q2⟩ := D1 k'
      obtain ⟨q3, q4⟩ := q1.setOwn (v := .int .i64 ((ar : Int) - 1)) (o := 3) (d' := { d with st := d.st + 1, ar := ar' }) (by decide) q1.d3 ⟨rfl, rfl, rfl⟩ (by have := H.ha; show ar' ≤ _; omega) (if_neg (by decide)) (by rw [if_pos rfl]; show Value.int _ _ = Value.int _ _; congr 1; show (ar : Int) - 1 = (ar' : Int); omega) (fun u hu => by obtain ⟨k2, g1, g2⟩ := q1.d4; rw [g1] at hu; injection hu with hu; exact ⟨k2, by rw [if_neg (by decide), ← hu], g2⟩)
      exact ⟨q3, q2.trans q4⟩
    have D3 : ∀ k', DkV γ (((w.setCell ⟨db, 4, none⟩ (.int .i64 k')).setCell ⟨db, 3, none⟩ (.int .i64 ((ar : Int) - 1))).setCell ⟨db, 2, none⟩ (.bool ((ar : Int) - 1 == 0))) db d.tick ∧ Step γ (fun T => T == 93) w (((w.setCell ⟨db, 4, none⟩ (.int .i64 k')).setCell ⟨db, 3, none⟩ (.int .i64 ((ar : Int) - 1))).setCell ⟨db, 2, none⟩ (.bool ((ar : Int) - 1 == 0))) := fun k' => by
      obtain ⟨q1, q2⟩ := D2 k'
      obtain ⟨q3, q4⟩ := q1.setOwn (v := .bool ((ar : Int) - 1 == 0)) (o := 2) (d' := d.tick) (by decide) q1.d2 ⟨rfl, rfl, rfl⟩ (by have := H.ha; show d.ar - 1 ≤ _; omega) (by rw [if_pos rfl, hz, ha]; simp [Dk.tick, hd]) (by rw [if_neg (by decide)]; simp only [Dk.tick]; rw [← ha']) (fun u hu => by obtain ⟨k2, g1, g2⟩ := q1.d4; rw [g1] at hu; injection hu with hu; exact ⟨k2, by rw [if_neg (by decide), ← hu], g2⟩)
      exact ⟨q3, q2.trans q4⟩
    have ep : ((d.tick.pw : Nat) : Int) = if ((ar : Int) - 1 == 0) then 4 else 0 := by rw [Dk.pw_eq, hz, ha]; simp [Dk.tick, hd]
    rw [ep]
    rw [← ha] at h3
    rw [← ha', ← ha] at hw
    have hpos : 0 < (ar : Int) := by omega
    have hle : (ar : Int) ≤ 9223372036854775807 := by have := H.ha; omega
    have HD := Lib.hid D3
    have P1 : ∀ k', Calls Tryz.prog 70 #[.pointer (some ⟨db, 0, none⟩)] (((w.setCell ⟨db, 4, none⟩ (.int .i64 k')).setCell ⟨db, 3, none⟩ (.int .i64 ((ar : Int) - 1))).setCell ⟨db, 2, none⟩ (.bool ((ar : Int) - 1 == 0))) _ := fun k' => P _ _ (World.cell?_setCell_same _ _ _ (by rw [World.cell?_setCell_other _ _ _ _ (hne (by decide)), World.cell?_setCell_other _ _ _ _ (hne (by decide))]; exact h2))
    have c3 : ∀ k', (w.setCell ⟨db, 4, none⟩ (.int .i64 k')).cell? ⟨db, 3, none⟩ = some (.int .i64 (ar : Int)) := fun k' => by rw [World.cell?_setCell_other _ _ _ _ (hne (by decide))]; exact h3
    clear D1 D2 D3 P H hk ha ha' e0 hw ep hz
    have hx : ∃ x : Int, (ar : Int) - 1 = x := ⟨_, rfl⟩
    obtain ⟨x, hx⟩ := hx
    rw [hx] at HD P1 ⊢
    have hb : ∃ b : Bool, (x == 0) = b := ⟨_, rfl⟩
    obtain ⟨b, hb⟩ := hb
    rw [hb] at HD P1 ⊢
    cases b
    all_goals
      go_enter Tryz.func72, Tryz.ntmps72
      go_wp2_with (go_at_call 70; refine (P1 _).mono ?_; rintro e w5 ⟨rfl, rfl⟩)
      go_ret
      exact ⟨rfl, (HD.out _).1, (HD.out _).2.mono dk111⟩
end Go.Tb
namespace Go.Tb
open Go Go.RowKit Go.Proofs Go.Maps Go.Sp
theorem cells_below {W W' : World} (h : Below W.heap.size W W') : ∀ a u, W.cell? a = some u → W'.cell? a = some u := fun a u hu => by
  obtain ⟨b, o, s⟩ := a
  by_cases hb : b < W.heap.size
  · have := h.block b hb
    simp only [World.cell?, this] at hu ⊢; exact hu
  · simp [World.cell?, Array.getElem?_eq_none (Nat.le_of_not_lt hb)] at hu
theorem add_cell (g o j : Nat) : (⟨g, o, none⟩ : Addr).add j = ⟨g, o + j, none⟩ := by
  unfold Addr.add; split
  · rename_i h; subst h; rfl
  · rfl
def u8s (bs : List Nat) : List Value := bs.map fun (x : Nat) => Value.int .u8 x
theorem u8s_len (bs : List Nat) : (u8s bs).length = bs.length := by simp [u8s]
theorem fill_x {w : World} {bs : Bs} {m : Nat} {v : Value} (h : RV w v bs) (hn : bs.length ≤ m) (hm : m ≤ 1048576) :
    Calls Tryz.prog 55 #[v, .int .i64 m] w fun e w' => (∃ v', e = .returned (.tuple #[v', .bool true]) ∧ v'.cells = #[v'] ∧ RN w.heap.size w' v' (pad m bs)) ∧ Below w.heap.size w w' := by
  obtain ⟨a, c, rfl, hx, h⟩ := h
  obtain ⟨cs, hcs⟩ : ∃ cs, cs = u8s bs := ⟨_, rfl⟩
  have h1 : cs.length = bs.length := by rw [hcs, u8s_len]
  obtain ⟨n, hnn⟩ : ∃ n, n = bs.length := ⟨_, rfl⟩
  rw [← hnn] at h1 hn h ⊢
  have h2 : ∀ u ∈ cs, u.oneCell' = true := fun u hu => by rw [hcs] at hu; obtain ⟨x, _, rfl⟩ := List.mem_map.1 hu; rfl
  have MK := mk22n hm w
  have i1 : ¬ (1048576 : Int) < (m : Int) := by omega
  have i2 : ¬ (m : Int) < (n : Int) := by omega
  have i3 : decide ((1048576 : Int) < (m : Int)) = false := by simpa using i1
  have i4 : decide ((m : Int) < (n : Int)) = false := by simpa using i2
  have hnew : (w.alloc (.cells (zrs m).toArray 5)).heap[w.heap.size]? = some (.cells (zrs m).toArray 5 (0, 0)) := (Go.MapKept.heap_alloc w _).1
  have hbelow : Below w.heap.size w (w.alloc (.cells (zrs m).toArray 5)) := Below.alloc (Below.refl _ _) (Nat.le_refl _) _
  have hpos : 0 < cs.length → (some (⟨w.heap.size, 0, none⟩ : Addr) = some ⟨w.heap.size, 0, none⟩ ∧ ∃ ad, a = some ad ∧ ∀ j u, cs[j]? = some u → (w.alloc (.cells (zrs m).toArray 5)).cell? (ad.add j) = some u) := fun hp => by
    obtain ⟨g, o, rfl, hg, hc⟩ := h (by omega)
    refine ⟨rfl, _, rfl, fun j u hu => ?_⟩
    rw [add_cell, (cell_of_heap (w := w) (a := (⟨g, o + j, none⟩ : Addr)) (Go.Deep.blk_alloc_lt w _ g hg)).1]
    rw [hcs, u8s, List.getElem?_map] at hu
    obtain ⟨x, hx', rfl⟩ := Option.map_eq_some_iff.1 hu
    exact hc j x hx'
  have HN := Lib.hid hnew
  have HB := Lib.hid hbelow
  have HP := Lib.hid hpos
  have HO := Lib.hid h2
  have HC := Lib.hid hcs
  have HX := Lib.hid hx.1
  have HM : Hid (cs.length = Nat.min n m) := Lib.hid (by rw [h1]; exact (Nat.min_eq_left hn).symm)
  have HF : Hid (0 + cs.length ≤ (zrs m).length) := Lib.hid (by rw [zrs_len]; omega)
  have HL := Lib.hid h1
  have HNN := Lib.hid hnn
  have HNM : Hid (n ≤ m) := Lib.hid hn
  clear hnew hbelow hpos h2 h1 h hm hn hcs hx hnn
  go_enter Tryz.func55, Tryz.ntmps55
  go_wp2_with (refine wpList_copy_splice rfl _ _ 33 33 rfl 5 Tryz.underlying33 sz5 _ _ _ _ _ _ rfl rfl w.heap.size 0 (zrs m) 5 HN.out cs HM.out HP.out HF.out HO.out w.heap.size w HB.out (Nat.le_refl _) ?_; intro w6 hg6 hb6)
  go_ret2
  have hlen : (pad m bs).length = m := pad_len (by rw [← HNN.out]; exact HNM.out)
  refine ⟨⟨.slice (some ⟨w.heap.size, 0, none⟩) m m, rfl, rfl, some ⟨w.heap.size, 0, none⟩, m, by rw [hlen], ⟨?_, by rw [hlen]; exact Nat.le_refl _⟩, fun hp => ⟨w.heap.size, 0, ⟨(0, 0), rfl⟩, _, rfl, Nat.le_refl _, hg6.out, fun j x hj => ?_⟩⟩, hb6⟩
  · intro x hx
    rcases List.mem_append.1 hx with h | h
    · exact HX.out x h
    · rw [List.eq_of_mem_replicate h]; decide
  · rw [Nat.zero_add]
    have hg := hg6.out
    unfold World.cell?
    simp only [hg]
    have : (splice (zrs m) 0 cs)[j]? = some (.int .u8 (x : Int)) := by
      unfold splice
      rw [List.take_zero, List.nil_append, HC.out, Nat.zero_add, u8s_len]
      unfold pad at hj
      by_cases hjl : j < bs.length
      · rw [List.getElem?_append_left hjl] at hj
        rw [List.getElem?_append_left (by rw [u8s_len]; exact hjl), u8s, List.getElem?_map, hj]; rfl
      · rw [List.getElem?_append_right (by omega)] at hj
        rw [List.getElem?_append_right (by rw [u8s_len]; omega), u8s_len, List.getElem?_drop]
        obtain ⟨h3, h4⟩ := List.getElem?_eq_some_iff.1 hj
        rw [List.getElem_replicate] at h4
        subst h4
        rw [List.length_replicate] at h3
        rw [zrs, List.getElem?_replicate, if_pos (by omega)]
        rfl
    simpa using this
end Go.Tb
namespace Go.Tb
open Go Go.RowKit Go.Proofs Go.Maps Go.Sp
theorem i139 : ∃ i : TypeInfo, Tryz.prog.info? 124 = some i ∧ i.size = 2 ∧ i.bytes = 32 ∧ i.zero = some (.agg #[.int .i64 0, .slice none 0 0]) := by
  have h : (Tryz.prog.info? 124).map (fun i => (i.size, i.bytes, i.zero)) = some (2, 32, some (.agg #[.int .i64 0, .slice none 0 0])) := by kernel_rfl
  obtain ⟨i, hi, hi2⟩ := Option.map_eq_some_iff.1 h
  injection hi2 with h1 h2
  injection h2 with h2 h3
  exact ⟨i, hi, h1, h2, h3⟩
theorem flatP_app : ∀ (P : List (Nat × Bs)) (vs : List Value) (p : Nat × Bs) (v : Value), vs.length = P.length → flatP (P ++ [p]) (vs ++ [v]) = flatP P vs ++ [.int .i64 (p.1 : Int), v]
  | [], [], _, _, _ => rfl
  | q :: P, u :: vs, p, v, h => by
    show _ :: _ :: flatP (P ++ [p]) (vs ++ [v]) = _
    rw [flatP_app P vs p v (by simpa using h)]; rfl
  | [], _ :: _, _, _, h => by cases h
  | _ :: _, [], _, _, h => by cases h
theorem ownsRow_shape {w : World} {B e k n : Nat} {v : Value} {xs : List Value} (h : w.ownsRow B e k v n xs) : ∃ a c, v = .slice a n c := by
  rcases h.2 with ⟨rfl, rfl⟩ | ⟨g, cap, cur, rfl, _⟩
  · exact ⟨_, _, rfl⟩
  · exact ⟨_, _, rfl⟩
theorem DkV.pend {γ : Gh} {w w' : World} {db : Nat} {d : Dk} {P' : List (Nat × Bs)} {v' : Value} {vs' : List Value} (H : DkV γ w db d) (hs : Step γ (fun T => T == 124) w w') (hp : PeV γ w' d.N v' P' vs') :
    DkV γ (w'.setCell ⟨db, 1, none⟩ v') db { d with P := P' } ∧ Step γ dkS w (w'.setCell ⟨db, 1, none⟩ v') := by
  obtain ⟨sa, so, c, e0, e1, e2, e2', e3, e4⟩ := H.d0
  obtain ⟨v, vs, e5, _⟩ := H.d1
  obtain ⟨k, e7, e8⟩ := H.d4
  have hl := H.lt
  have ht : Tag γ w' db 93 := hs.tg _ _ (by decide) hl H.tg
  have c1 : w'.cell? ⟨db, 1, none⟩ = some v := cell_keep hs H.tg rfl e5
  have s2 : Step γ (fun T => T == 93) w' (w'.setCell ⟨db, 1, none⟩ v') := Step.set ht rfl H.Bd c1
  have other : ∀ {o : Nat} {u : Value}, o ≠ 1 → w.cell? ⟨db, o, none⟩ = some u → (w'.setCell ⟨db, 1, none⟩ v').cell? ⟨db, o, none⟩ = some u := fun {o u} ho hu => by
    rw [World.cell?_setCell_other _ _ _ _ (by intro h; injection h with _ h; exact ho h.symm)]
    exact cell_keep hs H.tg rfl hu
  have hsz : sa < w'.heap.size := Nat.lt_of_lt_of_le e2' hs.size
  refine ⟨⟨ht.set c1, H.Bd, H.hN, H.ha, fun o ho => ?_, ⟨sa, so, c, other (by decide) e0, (hs.tg _ _ (by decide) e2' e1).set c1, e2, by simpa [World.setCell] using hsz, fun s h1 => ?_, fun s h1 => ?_⟩, ⟨v', vs', World.cell?_setCell_same w' _ _ c1, hp.keep s2 rfl rfl⟩, other (by decide) H.d2, other (by decide) H.d3, ⟨k, other (by decide) e7, e8⟩⟩, ?_⟩
  · rw [World.frozen?_setCell]; exact fz_keep hs H.tg rfl hl (H.dz o ho)
  · rw [World.frozen?_setCell]
    exact fz_keep hs e1 rfl e2' (e3 s h1)
  · obtain ⟨u, g1, g2⟩ := e4 s h1
    have g1' := cell_keep hs e1 rfl g1
    exact ⟨u, cell_keep s2 (hs.tg _ _ (by decide) (cell_lt' g1) e1) rfl g1', (g2.keep hs rfl).keep s2 rfl⟩
  · refine (hs.mono fun T h => ?_).trans (s2.mono fun T h => ?_)
    · simp [dkS] at h ⊢; exact h.2
    · simp [dkS] at h ⊢; exact h.1.1
theorem PeV.push {γ : Gh} {w : World} {N : Nat} {v : Value} {P : List (Nat × Bs)} {vs : List Value} {s : Nat} {bs : Bs} {u : Value} (hv : vs.length = P.length) (hr : ∀ (i : Nat) (p : Nat × Bs) (u : Value), P[i]? = some p → vs[i]? = some u → p.1 < N ∧ RB γ w u p.2)
    (h : w.ownsRow γ.B 124 2 v (P.length + 1) (flatP P vs ++ [.int .i64 (s : Int), u])) (hs : s < N) (hb : RB γ w u bs) : PeV γ w N v (P ++ [(s, bs)]) (vs ++ [u]) := by
  refine ⟨by simp [hv], ?_, fun i p x hp hx => ?_⟩
  · rw [flatP_app _ _ _ _ hv, List.length_append]; exact h
  · by_cases hi : i < P.length
    · rw [List.getElem?_append_left hi] at hp
      rw [List.getElem?_append_left (by omega)] at hx
      exact hr i p x hp hx
    · rw [List.getElem?_append_right (by omega)] at hp
      rw [List.getElem?_append_right (by omega), hv] at hx
      have : i - P.length = 0 := by
        have := (List.getElem?_eq_some_iff.1 hp).1
        simp at this; omega
      rw [this] at hp hx
      injection hp with hp; injection hx with hx
      subst hp hx
      exact ⟨hs, hb⟩
theorem dwrite_ok {γ : Gh} {w : World} {db : Nat} {d : Dk} (H : DkV γ w db d) (hd : d.dead = false) (h0 : γ.lim ≤ w.heap.size) {s : Nat} (hs : s < d.N) {v : Value} {bs : Bs} (hb : RA γ w v bs) (hl : bs.length ≤ 256) (hP : d.P.length < 1000000) :
    Calls Tryz.prog 35 #[.pointer (some ⟨db, 0, none⟩), .int .i64 s, v] w fun e w' => e = .returned (.int .i64 ((d.push s bs).tick.pw : Nat)) ∧ DkV γ w' db (d.push s bs).tick ∧ Step γ dkS w w' := by
  rcases d with ⟨N, S, P, dd, ar, st⟩
  dsimp only at hd hs hP
  subst hd
  have PW := power_ok H.d2
  have FX := Lib.hid (fill_x hb.rv hl (by decide : 256 ≤ 1048576))
  have HH := Lib.hid H
  have HS := Lib.hid hs
  have H0 := Lib.hid h0
  have HL := Lib.hid hl
  have HPP := Lib.hid hP
  clear H hb hl hP hs h0
  go_enter Tryz.func35, Tryz.ntmps35
  go_upto_region 5 with (first | (go_at_call 70; refine PW.mono ?_; rintro e w5 ⟨rfl, rfl⟩) | (go_at_call 55; refine FX.out.mono ?_; rintro e w1 ⟨⟨u, rfl, hu1, hu2⟩, hbe⟩))
  have H1 := HH.out.keep (Step.below (S := fun _ => false) hbe H0.out) ⟨rfl, rfl, rfl, rfl⟩
  have S1 : Step γ dkS w5 w1 := Step.below hbe H0.out
  have h01 : γ.lim ≤ w1.heap.size := Nat.le_trans H0.out hbe.size
  clear PW FX HH hbe
  obtain ⟨sa, so, c0, e0, _⟩ := H1.d0
  have WI := within_ok (s := (s : Int)) e0
  rw [show decide (0 ≤ (s : Int) ∧ (s : Int) < (N : Int)) = true by simp; exact HS.out] at WI
  obtain ⟨pv, vs, e1, PE⟩ := H1.d1
  have hdl := cell_lt' e1
  have hdz := H1.dz 1 (by decide)
  have HH1 := Lib.hid H1
  have HU := Lib.hid hu2
  have HUC := Lib.hid hu1
  have HPE := Lib.hid PE
  have HS1 := Lib.hid S1
  have H01 := Lib.hid h01
  clear H1 hu2 PE S1 hu1 h01
  go_upto_region 7 with (go_at_call 71; refine WI.mono ?_; rintro e w6 ⟨rfl, rfl⟩)
  obtain ⟨i, hi, i1, i2, i3⟩ := i139
  have hul : ∃ ua ul uc, u = .slice ua ul uc := by obtain ⟨ua, uc, e, _⟩ := HU.out; exact ⟨_, _, _, e⟩
  have HUB := Lib.hid (HU.out.rb H0.out)
  obtain ⟨ua, ul, uc, rfl⟩ := hul
  obtain ⟨W, hW⟩ : ∃ W, w6.alloc (.cells #[.int .i64 (s : Int), .slice ua ul uc] 124) = W := ⟨_, rfl⟩
  have hbW : Below w6.heap.size w6 W := hW ▸ Below.alloc (Below.refl _ _) (Nat.le_refl _) _
  have hSW : Step γ dkS w6 W := Step.below hbW H01.out
  have hown : W.ownsRow γ.B 124 2 pv P.length (flatP P vs) := (HPE.out.keep (Step.below (S := fun _ => false) hbW H01.out) rfl rfl).own
  have hnb : W.heap[w6.heap.size]? = some (.cells #[.int .i64 (s : Int), .slice ua ul uc] 124 (0, 0)) := hW ▸ (Go.MapKept.heap_alloc w6 _).1
  have hnews : ∀ j x, [Value.int .i64 (s : Int), .slice ua ul uc][j]? = some x → W.cell? ((⟨w6.heap.size, 0, none⟩ : Addr).add j) = some x := fun j x hx => by
    rw [add_cell, Nat.zero_add]
    unfold World.cell?
    simp only [hnb]
    simpa using hx
  have h01W : γ.lim ≤ W.heap.size := Nat.le_trans H01.out hbW.size
  have hcW : W.cell? ⟨db, 1, none⟩ = some pv := cells_below hbW _ _ e1
  have hzW : W.frozen? ⟨db, 1, none⟩ = false := (cell_of_heap (a := ⟨db, 1, none⟩) (hbW.block db hdl)).2.trans hdz
  have hTd : Tag γ W db 93 := hSW.tg _ _ (by decide) hdl HH1.out.tg
  have hpd : ∀ g, pv.ownBlock = some g → γ.B ≤ g ∧ Tag γ W g 124 := fun g hg => by
    have h1 := hown.lt g hg
    exact ⟨h1.1, (HPE.out.keep (Step.below (S := fun _ => false) hbW H01.out) rfl rfl).tg g hg⟩
  have hne : some db ≠ pv.ownBlock := fun e => by
    have := hTd.uniq (hpd db e.symm).2
    cases this
  have hgc : ∀ w', W.grownBy w' pv.ownBlock → w'.cell? ⟨db, 1, none⟩ = some pv ∧ w'.frozen? ⟨db, 1, none⟩ = false := fun w' q => by
    have e := q.block db (cell_lt' hcW) hne
    exact ⟨(cell_of_heap (a := ⟨db, 1, none⟩) e).1.trans hcW, (cell_of_heap (a := ⟨db, 1, none⟩) e).2.trans hzW⟩
  have hdl2 : ∀ w', W.grownBy w' pv.ownBlock → db < w'.heap.size := fun w' q => Nat.lt_of_lt_of_le (cell_lt' hcW) q.size
  have HGC := Lib.hid hgc
  have HDL := Lib.hid hdl2
  have HTD := Lib.hid hTd
  have HPD := Lib.hid hpd
  have HNE := Lib.hid hne
  clear hgc hTd hpd hne hdl2 hcW hzW hdz
  have HOW := Lib.hid hown
  have HNW := Lib.hid hnews
  have H0W := Lib.hid h01W
  have HBW := Lib.hid hbW
  have HSW := Lib.hid hSW
  clear hown hnews hbW hnb h01W hSW
  have HI := Lib.hid hi
  clear hi
  go_upto_region 8 with (at_builtin; (try rw [hW]); go_loud (refine wpList_append_own _ rfl _ _ 91 rfl γ.B 124 i _ 2 32 Tryz.underlying91 HI.out i3 i1 i2 rfl (by decide) _ P.length (flatP P vs) rfl HOW.out _ 1 _ _ rfl rfl HNW.out (by intro u hu; simp at hu; rcases hu with rfl | rfl <;> rfl) (by have := HPP.out; simp [maxLen]; omega) (by have := HPP.out; omega) (Nat.le_trans γ.hB H0W.out) ?_; intro v' w' q1 q2 q3; obtain ⟨c1, z1⟩ := HGC.out w' q2; obtain ⟨va, vc, rfl⟩ := ownsRow_shape q1; have l1 := HDL.out w' q2))
  have q3' := q2
  have sg : Step γ (fun T => T == 124) W w' := Step.grown q2 (Nat.le_trans γ.hB H0W.out) rfl HPD.out
  have sw : Step γ (fun _ => false) w6 W := Step.below HBW.out H01.out
  have sw' : Step γ (fun T => T == 124) w6 W := Step.below HBW.out H01.out
  have hpe : PeV γ w' N (.slice va (P.length + 1) vc) (P ++ [(s, pad 256 bs)]) (vs ++ [.slice ua ul uc]) :=
    PeV.push HPE.out.len (fun i p u hp hu => ⟨(HPE.out.rb i p u hp hu).1, ((HPE.out.rb i p u hp hu).2.keep sw rfl).keep sg rfl⟩) q1 HS.out ((HUB.out.keep sw rfl).keep sg rfl)
  obtain ⟨D1, D2⟩ := HH1.out.pend (sw'.trans sg) hpe
  clear hpe sg sw sw' q1 q2 q3 q3' HPE HOW HNW HBW HSW HGC HDL HTD HPD HNE c1 z1 hW
  have hl2 := cell_lt' D1.d2
  generalize w'.setCell ⟨db, 1, none⟩ (.slice va (P.length + 1) vc) = W2 at D1 D2 hl2 ⊢
  have ST := step_ok D1 rfl
  have HD2 := Lib.hid D2
  clear D1 D2
  go_wp2_with (go_at_call 72; refine ST.mono ?_; rintro e w9 ⟨rfl, D3, D4⟩; have HD3 := Lib.hid D3; have HD4 := Lib.hid D4; clear D3 D4)
  go_ret
  exact ⟨rfl, HD3.out, (HS1.out.trans HD2.out).trans HD4.out⟩
end Go.Tb
namespace Go.Tb
open Go Go.RowKit Go.Proofs Go.Maps Go.Sp
theorem DkV.sector {γ : Gh} {w : World} {db : Nat} {d : Dk} (H : DkV γ w db d) {s : Nat} (hs : s < d.N) {u : Value} {bs : Bs} (hb : RB γ w u bs) {sa so c : Nat} (e0 : w.cell? ⟨db, 0, none⟩ = some (.slice (some ⟨sa, so, none⟩) d.N c)) :
    DkV γ (w.setCell ⟨sa, so + s, none⟩ u) db { d with S := setS d.S (s, bs) } ∧ Step γ (fun T => T == 33) w (w.setCell ⟨sa, so + s, none⟩ u) := by
  obtain ⟨sa', so', c', e0', e1, e2, e2', e3, e4⟩ := H.d0
  rw [e0] at e0'
  injection e0' with e0'
  injection e0' with e5 _ e6
  injection e5 with e5
  injection e5 with e7 e8 _
  subst e7 e8 e6
  obtain ⟨v, vs, e5, e6⟩ := H.d1
  obtain ⟨k0, e7, e8⟩ := H.d4
  obtain ⟨u0, g1, _⟩ := e4 s hs
  have s2 : Step γ (fun T => T == 33) w (w.setCell ⟨sa, so + s, none⟩ u) := Step.set e1 rfl e2 g1
  refine ⟨⟨H.tg.set g1, H.Bd, H.hN, H.ha, fun o ho => by rw [World.frozen?_setCell]; exact H.dz o ho, ⟨sa, so, c, cell_keep s2 H.tg rfl e0, e1.set g1, e2, by simpa [World.setCell] using e2', fun x h1 => by rw [World.frozen?_setCell]; exact e3 x h1, fun x h1 => ?_⟩, ⟨v, vs, cell_keep s2 H.tg rfl e5, e6.keep s2 rfl rfl⟩, cell_keep s2 H.tg rfl H.d2, cell_keep s2 H.tg rfl H.d3, ⟨k0, cell_keep s2 H.tg rfl e7, e8⟩⟩, s2⟩
  by_cases e : x = s
  · subst e
    refine ⟨u, World.cell?_setCell_same w _ _ g1, ?_⟩
    show RB γ _ u (setS d.S (x, bs) x)
    unfold setS; rw [if_pos rfl]; exact hb.keep s2 rfl
  · obtain ⟨u1, g3, g4⟩ := e4 x h1
    refine ⟨u1, ?_, ?_⟩
    · rw [World.cell?_setCell_other _ _ _ _ (by intro h; injection h with _ h; omega)]; exact g3
    · show RB γ _ u1 (setS d.S (s, bs) x)
      unfold setS; rw [if_neg e]; exact g4.keep s2 rfl
theorem dk37 : ∀ T, dkS T = false → (T == 33) = false := fun T h => by simp [dkS] at h ⊢; exact h.1.2
theorem PeV.nil (γ : Gh) (w : World) (N : Nat) : PeV γ w N (.slice none 0 0) [] [] := ⟨rfl, World.ownsRow_nil _ _ _ _, fun i p u hp _ => by simp at hp⟩
theorem flatP_get : ∀ (P : List (Nat × Bs)) (vs : List Value) (k : Nat) (p : Nat × Bs) (v : Value), P[k]? = some p → vs[k]? = some v → (flatP P vs)[k * 2]? = some (.int .i64 (p.1 : Int)) ∧ (flatP P vs)[k * 2 + 1]? = some v
  | q :: P, u :: vs, 0, p, v, hp, hv => by
    injection hp with hp; injection hv with hv; subst hp hv
    exact ⟨rfl, rfl⟩
  | q :: P, u :: vs, k + 1, p, v, hp, hv => by
    have := flatP_get P vs k p v hp hv
    rw [show (k + 1) * 2 = k * 2 + 2 by omega]
    exact this
  | [], _, _, _, _, hp, _ => by simp at hp
  | _ :: _, [], _, _, _, _, hv => by simp at hv
theorem enters_of' {P : Program} {f : Nat} {fn : Func} (h : P.funcs[f]? = some fn) (hb : fn.body.isSome = true) (hn : (fn.name == "runtime.NumGoroutine") = false) : ∀ args w, (callFunc f args).run P w = .ok (.enter f args) w := by
  obtain ⟨c, hc⟩ := Option.isSome_iff_exists.1 hb
  have hn' : ¬ fn.name = "runtime.NumGoroutine" := by intro e; rw [e] at hn; simp at hn
  intro args w
  simp [callFunc, h, hn', hc]
theorem wrapS {k : Nat} (h : k < 2000001) : wrap64 ((k : Int) + 1) = (k : Int) + 1 := by simp [wrap64]; omega
theorem measS {n k : Nat} (e : k < n) (hwr : wrap64 ((k : Int) + 1) = (k : Int) + 1) : n - (Go.RowKit.intOf (.int .i64 (wrap64 ((k : Int) + 1)))).toNat < n - (Go.RowKit.intOf (.int .i64 (k : Int))).toNat := by
  rw [hwr]
  show n - (k + 1) < n - k
  omega
def Asks (γ : Gh) (w : World) (g : Nat) (lb : Array Value) (tn kp : Nat → Bool) : Prop :=
  ∀ (W : World) (i : Nat) (s : Int) (a : Option Addr) (n c : Nat), Step γ dkS w W → γ.lim ≤ W.heap.size → Calls Tryz.prog g (#[.int .i64 (i : Int), .agg #[.int .i64 s, .slice a n c]] ++ lb) W fun e W' => e = .returned (.tuple #[if tn i then .slice none 0 0 else .slice a n c, .bool (tn i || kp i)]) ∧ Below W.heap.size W W'
theorem upK_succ {tn kp : Nat → Bool} {S : Nat → Bs} {P : List (Nat × Bs)} {k : Nat} {p : Nat × Bs} (h : P[k]? = some p) : upK tn kp S P (k + 1) = setK tn kp (upK tn kp S P k) k p := by
  show (match P[k]? with | none => upK tn kp S P k | some p => setK tn kp (upK tn kp S P k) k p) = _
  rw [h]
theorem settle_ok {γ : Gh} {w : World} {db : Nat} {d : Dk} (H : DkV γ w db d) (h0 : γ.lim ≤ w.heap.size) (hcap : d.P.length < 2000000) {g : Nat} {lb : Array Value} {tn kp : Nat → Bool} (eg : ∀ args w, (callFunc g args).run Tryz.prog w = .ok (.enter g args) w) (hq : Asks γ w g lb tn kp) :
    Calls Tryz.prog 73 #[.pointer (some ⟨db, 0, none⟩), .func (.func g) #[] lb] w fun e w' => (∃ v, e = .returned v) ∧ DkV γ w' db (d.settle tn kp) ∧ Step γ dkS w w' := by
  rcases d with ⟨N, S, P, dd, ar, st⟩
  dsimp only at hcap
  obtain ⟨pv, vs, c1, PE⟩ := H.d1
  obtain ⟨pa, pc, rfl⟩ := ownsRow_shape PE.own
  dsimp only at c1
  obtain ⟨n, hn⟩ : ∃ n, n = P.length := ⟨_, rfl⟩
  rw [← hn] at c1 hcap
  have HCAP := Lib.hid hcap
  clear hcap
  have HN := Lib.hid hn
  have hl := cell_lt' c1
  have HH := Lib.hid H
  have H0 := Lib.hid h0
  have HC := Lib.hid c1
  have HQ := Lib.hid hq
  clear H PE h0 hn hq
  go_enter Tryz.func73, Tryz.ntmps73
  go_wp2
  clear c1
  go_loopw [13] (fun v wr => ∃ k : Nat, v = .int .i64 k ∧ k ≤ n ∧ Hid (DkV γ wr db ⟨N, upK tn kp S P k, P, dd, ar, st⟩ ∧ wr.cell? ⟨db, 1, none⟩ = some (.slice pa n pc) ∧ Step γ dkS w wr)) (fun v _ => n - (Go.RowKit.intOf v).toNat)
  case atStart => exact ⟨0, rfl, Nat.zero_le _, Lib.hid ⟨HH.out, HC.out, Step.refl _ _ _⟩⟩
  case round =>
    obtain ⟨k, rfl, hk, hI⟩ := hrel
    by_cases e : k < n
    · have i1 : (k : Int) < (n : Int) := by omega
      have i2 : (0 : Int) ≤ (k : Int) := by omega
      obtain ⟨D, cp, ST⟩ := hI.out
      obtain ⟨pv, vs, c1, PE⟩ := D.d1
      dsimp only at c1 PE
      rw [cp] at c1
      injection c1 with c1
      subst c1
      have hkP : k < P.length := by rw [← HN.out]; exact e
      obtain ⟨p, hp⟩ : ∃ p, P[k]? = some p := ⟨P[k], List.getElem?_eq_getElem hkP⟩
      obtain ⟨u, hu⟩ : ∃ u, vs[k]? = some u := ⟨vs[k]'(by rw [PE.len]; exact hkP), List.getElem?_eq_getElem _⟩
      obtain ⟨f1, f2⟩ := flatP_get P vs k p u hp hu
      obtain ⟨hsN, hrb⟩ := PE.rb k p u hp hu
      have ho := PE.own
      rcases ho.2 with ⟨_, h3⟩ | ⟨g', cap, cur, e3, hg, hcur, _⟩
      · omega
      · injection e3 with e3 e4 e5
        subst e3 e5
        clear e4
        have hgl := (ho.lt g' rfl).2
        have hc := ho.cells rfl
        have q1 := hc _ _ f1
        have q2 := hc _ _ f2
        rw [add_cell, Nat.zero_add] at q1 q2
        obtain ⟨s, bs⟩ := p
        obtain ⟨ua, uc, rfl, _⟩ := id hrb
        have HD := Lib.hid D
        have HSt := Lib.hid ST
        have HX := Lib.hid hp
        have HR := Lib.hid hrb
        have HL := Lib.hid hsN
        have H0r : Hid (γ.lim ≤ wr.heap.size) := Lib.hid (Nat.le_trans H0.out ST.size)
        clear PE D ST hp hu hrb ho hc hsN f1 f2 hcur hI
        dsimp only at q1
        go_upto_region 3 with (fail)
        have hb1 : Below wr.heap.size wr (wr.alloc (.cells #[.int .i64 (s : Int), .slice ua bs.length uc] 124)) := Below.alloc (Below.refl _ _) (Nat.le_refl _) _
        have hnb : (wr.alloc (.cells #[.int .i64 (s : Int), .slice ua bs.length uc] 124)).heap[wr.heap.size]? = some (.cells #[.int .i64 (s : Int), .slice ua bs.length uc] 124 (0, 0)) := (Go.MapKept.heap_alloc wr _).1
        generalize hnw : wr.alloc (.cells #[.int .i64 (s : Int), .slice ua bs.length uc] 124) = W1 at hb1 hnb ⊢
        have b0 : W1.cell? ⟨wr.heap.size, 0, none⟩ = some (.int .i64 (s : Int)) := by simp [World.cell?, hnb]
        have b1 : W1.cell? ⟨wr.heap.size, 1, none⟩ = some (.slice ua bs.length uc) := by simp [World.cell?, hnb]
        clear hnw hnb
        have hgb : wr.heap.size < W1.heap.size := cell_lt' b0
        have s01 : Step γ (fun _ => false) wr W1 := Step.below hb1 H0r.out
        obtain ⟨va, vn, vc, bbs, last, BA, hvb, hup⟩ : ∃ va vn vc bbs last, (Calls Tryz.prog g (#[.int .i64 (k : Int), .agg #[.int .i64 (s : Int), .slice ua bs.length uc]] ++ lb) W1 fun e W' => e = .returned (.tuple #[.slice va vn vc, .bool last]) ∧ Below W1.heap.size W1 W') ∧ RB γ wr (.slice va vn vc) bbs ∧ upK tn kp S P (k + 1) = if last then setS (upK tn kp S P k) (s, bbs) else upK tn kp S P k := by
          have BA := HQ.out W1 k (s : Int) ua bs.length uc (HSt.out.trans (s01.mono fun _ _ => rfl)) (Nat.le_trans H0r.out s01.size)
          have hu := upK_succ (tn := tn) (kp := kp) (S := S) HX.out
          unfold setK at hu
          dsimp only at hu
          cases htn : tn k with
          | true => rw [htn] at BA hu; exact ⟨none, 0, 0, [], true, BA, RB.nil _ _ _ _, hu⟩
          | false => rw [htn] at BA hu; exact ⟨ua, bs.length, uc, bs, kp k, BA, HR.out, hu⟩
        generalize hrs : wr.heap.size = rb at b0 b1 hgb
        have HB1 := Lib.hid hb1
        have HRS := Lib.hid hrs
        have HS01 := Lib.hid s01
        clear hb1 hrs q1 q2 s01
        have HUP := Lib.hid hup
        have HVB := Lib.hid hvb
        clear hup hvb
        go_wp2_with fail
        refine BA.mono ?_
        rintro e W2 ⟨rfl, hb2⟩
        have c20 := (cell_of_heap (a := ⟨rb, 0, none⟩) (hb2.block rb hgb)).1.trans b0
        have hrb2 : rb < W2.heap.size := cell_lt' c20
        clear b0 b1 BA hgb
        have s12 : Step γ (fun _ => false) W1 W2 := Step.below hb2 (Nat.le_trans H0r.out HS01.out.size)
        have s02 := HS01.out.trans s12
        have D2 := HD.out.keep s02 ⟨rfl, rfl, rfl, rfl⟩
        obtain ⟨sa, so, sc, e0, _, _, _, e3, e4⟩ := D2.d0
        dsimp only at e0 e3 e4
        obtain ⟨ov, g1, _⟩ := e4 s HL.out
        have g2 := e3 s HL.out
        have hsl := cell_lt' g1
        have hd2 := cell_lt' e0
        have i3 : (s : Int) < (N : Int) := by have := HL.out; omega
        have i4 : (0 : Int) ≤ (s : Int) := by omega
        have HD2 := Lib.hid D2
        have HS2 := Lib.hid s02
        have HSW := Lib.hid (HSt.out.trans (s02.mono fun _ _ => rfl))
        have hcp : W2.cell? ⟨db, 1, none⟩ = some _ := cell_keep s02 HD.out.tg rfl cp
        have HCP := Lib.hid hcp
        have hwr : Hid (wrap64 ((k : Int) + 1) = (k : Int) + 1) := Lib.hid (wrapS (Nat.lt_trans e (Nat.lt_trans HCAP.out (by decide))))
        clear D2 s02 s12 hb2 e3 e4 hcp
        cases last with
        | false =>
          rw [if_neg (by decide)] at HUP
          have hfin : Hid (DkV γ W2 db ⟨N, upK tn kp S P (k + 1), P, dd, ar, st⟩ ∧ W2.cell? ⟨db, 1, none⟩ = some (.slice (some ⟨g', 0, none⟩) n pc) ∧ Step γ dkS w W2) := Lib.hid (by rw [HUP.out]; exact ⟨HD2.out, HCP.out, HSW.out⟩)
          clear e0 g1
          go_wp2_with fail
          go_roundw
          all_goals have hwr := hwr.out
          · exact ⟨k + 1, by simp [hwr], e, hfin⟩
          · exact measS e hwr
        | true =>
          rw [if_pos rfl] at HUP
          obtain ⟨D3, s3⟩ := HD2.out.sector HL.out (HVB.out.keep HS2.out rfl) e0
          have hfin : Hid (DkV γ (W2.setCell ⟨sa, so + s, none⟩ (.slice va vn vc)).drew db ⟨N, upK tn kp S P (k + 1), P, dd, ar, st⟩ ∧ (W2.setCell ⟨sa, so + s, none⟩ (.slice va vn vc)).drew.cell? ⟨db, 1, none⟩ = some (.slice (some ⟨g', 0, none⟩) n pc) ∧ Step γ dkS w (W2.setCell ⟨sa, so + s, none⟩ (.slice va vn vc)).drew) :=
            Lib.hid (by rw [HUP.out]; exact ⟨D3.keep (Step.refl γ (fun _ => false) _).drew ⟨rfl, rfl, rfl, rfl⟩, cell_keep s3 HD2.out.tg rfl HCP.out, (HSW.out.trans (s3.mono dk37)).drew⟩)
          clear D3 s3
          go_wp2
          go_region
          go_wp2_with fail
          go_roundw
          all_goals have hwr := hwr.out
          · exact ⟨k + 1, by simp [hwr], e, hfin⟩
          · exact measS e hwr
    · have ek : k = n := by omega
      subst ek
      obtain ⟨D, cp, ST⟩ := hI.out
      have HD := Lib.hid D
      have HSt := Lib.hid ST
      have hz := D.dz 1 (by decide)
      have hdl := cell_lt' cp
      clear D ST hI
      go_wp2
      go_end0
      obtain ⟨D1, D2⟩ := HD.out.pend (Step.refl γ (fun T => T == 124) wr) (PeV.nil γ wr N)
      refine ⟨⟨_, rfl⟩, ?_, HSt.out.trans D2⟩
      have := HN.out
      subst this
      exact D1
theorem barrier1_ok (w : World) (i s : Int) (a : Option Addr) (n c : Nat) :
    Calls Tryz.prog 74 #[.int .i64 i, .agg #[.int .i64 s, .slice a n c]] w fun e w' => e = .returned (.tuple #[.slice a n c, .bool true]) ∧ Below w.heap.size w w' := by
  go_enter Tryz.func74, Tryz.ntmps74
  go_wp2
  go_ret2
  exact ⟨rfl, Below.alloc (Below.refl _ _) (Nat.le_refl _) _⟩
theorem asks_barrier (γ : Gh) (w : World) : Asks γ w 74 #[] (fun _ => false) (fun _ => true) := fun W i s a n c _ _ => barrier1_ok W i s a n c
theorem barrier_ok {γ : Gh} {w : World} {db : Nat} {d : Dk} (H : DkV γ w db d) (h0 : γ.lim ≤ w.heap.size) (hcap : d.P.length < 2000000) :
    Calls Tryz.prog 36 #[.pointer (some ⟨db, 0, none⟩)] w fun e w' => e = .returned (.int .i64 (d.barrier.1 : Nat)) ∧ DkV γ w' db d.barrier.2 ∧ Step γ dkS w w' := by
  have PW := power_ok H.d2
  cases hd : d.dead with
  | true =>
    rw [hd] at PW
    have e1 : d.barrier = (4, d) := by simp [Dk.barrier, hd]
    rw [e1]
    have HH := Lib.hid H
    clear H e1
    go_enter Tryz.func36, Tryz.ntmps36
    go_wp2_with (go_at_call 70; refine PW.mono ?_; rintro e w5 ⟨rfl, rfl⟩)
    go_ret
    exact ⟨rfl, HH.out, Step.refl _ _ _⟩
  | false =>
    rw [hd] at PW
    have ST := step_ok H hd
    have H0 := Lib.hid h0
    have HC := Lib.hid hcap
    cases ht : d.tick.dead with
    | true =>
      have e1 : d.barrier = (4, d.tick) := by simp [Dk.barrier, hd, ht]
      have e2 : d.tick.pw = 4 := by simp [Dk.pw, ht]
      rw [e1]
      rw [e2] at ST
      clear H h0 hcap hd ht e1 e2
      go_enter Tryz.func36, Tryz.ntmps36
      go_wp2_with (first | (go_at_call 70; refine PW.mono ?_; rintro e w5 ⟨rfl, rfl⟩) | (go_at_call 72; refine ST.mono ?_; rintro e w6 ⟨rfl, D1, S1⟩; have HD1 := Lib.hid D1; have HS1 := Lib.hid S1; clear D1 S1))
      go_ret
      exact ⟨rfl, HD1.out, HS1.out⟩
    | false =>
      have e1 : d.barrier = (0, d.tick.flat) := by simp [Dk.barrier, hd, ht]
      have e2 : d.tick.pw = 0 := by simp [Dk.pw, ht]
      rw [e1]
      rw [e2] at ST
      have e3 : d.tick.P.length < 2000000 := hcap
      have E3 := Lib.hid e3
      clear H h0 hcap hd ht e1 e2 HC e3
      go_enter Tryz.func36, Tryz.ntmps36
      go_upto_region 7 with (first | (go_at_call 70; refine PW.mono ?_; rintro e w5 ⟨rfl, rfl⟩) | (go_at_call 72; refine ST.mono ?_; rintro e w6 ⟨rfl, D1, S1⟩))
      have SE := settle_ok D1 (Nat.le_trans H0.out S1.size) E3.out (enters_of' Tryz.func74 (by kernel_rfl) (by kernel_rfl)) (asks_barrier γ w6)
      rw [Dk.flat_eq] at SE
      have HS1 := Lib.hid S1
      clear D1 S1 PW ST
      go_wp2_with (go_at_call 73; refine SE.mono ?_; rintro e w7 ⟨⟨v, rfl⟩, D2, S2⟩)
      go_ret
      exact ⟨rfl, D2, HS1.out.trans S2⟩
end Go.Tb
namespace Go.Tb
open Go Go.RowKit Go.Proofs Go.Maps Go.Sp
theorem i5' : ∃ i : TypeInfo, Tryz.prog.info? 5 = some i ∧ i.size = 1 ∧ i.bytes = 1 ∧ i.zero = some (.int .u8 0) := by
  obtain ⟨i, hi, hi2⟩ := Option.map_eq_some_iff.1 i5
  injection hi2 with h1 h2
  injection h2 with h2 h3
  exact ⟨i, hi, h1, h2, h3⟩
theorem eql37_nil (c : Nat) (w : World) : (binOp .eql 33 (.slice none 0 c) (.slice none 0 0)).run Tryz.prog w = .ok (.bool true) w := by
  have := run_equal_slice_nil (P := Tryz.prog) w 33 5 none 0 c Tryz.underlying33
  simp [binOp, this]
theorem eql37_some (a : Addr) (n c : Nat) (w : World) : (binOp .eql 33 (.slice (some a) n c) (.slice none 0 0)).run Tryz.prog w = .ok (.bool false) w := by
  have := run_equal_slice_nil (P := Tryz.prog) w 33 5 (some a) n c Tryz.underlying33
  simp [binOp, this]
theorem u8s_one {bs : Bs} : ∀ u ∈ u8s bs, u.oneCell' = true := fun u hu => by obtain ⟨x, _, rfl⟩ := List.mem_map.1 hu; rfl
theorem RN.of {base : Nat} {w : World} {v : Value} {n : Nat} {bs : Bs} (h : w.ownsRow base 5 1 v n (u8s bs)) (hx : ∀ x ∈ bs, x < 256) : RN base w v bs := by
  have h1 := h.1
  rw [u8s_len] at h1
  have h1 : n = bs.length := by omega
  rcases h.2 with ⟨rfl, h0⟩ | ⟨g, cap, cur, rfl, hg, hh, hcap, _⟩
  · have : bs = [] := List.length_eq_zero_iff.1 (by omega)
    subst this
    exact RN.nil _ _ _ _
  · subst h1
    refine ⟨_, _, rfl, ⟨hx, hcap⟩, fun _ => ⟨g, 0, ⟨(0, 0), rfl⟩, _, rfl, hg, hh, fun j x hj => ?_⟩⟩
    have := h.cells rfl j (.int .u8 (x : Int)) (by simp [u8s, hj])
    rwa [add_cell] at this
theorem RV.news {w w' : World} {a : Option Addr} {n c : Nat} {bs : Bs} (h : RV w (.slice a n c) bs) (hb : Below w.heap.size w w') : ∀ ad, a = some ad → ∀ j u, (u8s bs)[j]? = some u → w'.cell? (ad.add j) = some u := by
  obtain ⟨a', c', e, hx, h⟩ := h
  injection e with e1 e2 e3
  subst e1
  intro ad ea j u hu
  rw [u8s, List.getElem?_map] at hu
  obtain ⟨x, hx', rfl⟩ := Option.map_eq_some_iff.1 hu
  obtain ⟨g, o, e4, hg, hc⟩ := h (Nat.lt_of_le_of_lt (Nat.zero_le j) (List.getElem?_eq_some_iff.1 hx').1)
  rw [ea] at e4
  injection e4 with e4
  subst e4
  rw [add_cell]
  exact (cell_of_heap (a := ⟨g, o + j, none⟩) (hb.block g hg)).1.trans (hc j x hx')
theorem clone_o {w : World} {v : Value} {bs : Bs} (h : RV w v bs) (hn : bs.length ≤ 1048576) :
    Calls Tryz.prog 29 #[v] w fun e w' => (∃ v', e = .returned v' ∧ w'.ownsRow w.heap.size 5 1 v' bs.length (u8s bs)) ∧ Below w.heap.size w w' := by
  obtain ⟨i, hi, i1, i2, i3⟩ := i5'
  obtain ⟨a, c, rfl, hx, _⟩ := id h
  cases a with
  | none =>
    have h0 : bs.length = 0 := by
      obtain ⟨a', c', e, hx, h⟩ := h
      injection e with e1 e2 e3
      by_cases hp : 0 < bs.length
      · obtain ⟨g, o, e4, _⟩ := h hp; rw [← e1] at e4; cases e4
      · omega
    have : bs = [] := List.length_eq_zero_iff.1 h0
    subst this
    have E := eql37_nil c w
    clear h
    go_enter Tryz.func29, Tryz.ntmps29
    go_wp2
    go_ret
    exact ⟨⟨_, rfl, World.ownsRow_nil _ _ _ _⟩, Below.refl _ _⟩
  | some ad =>
    obtain ⟨n, hnn⟩ : ∃ n, n = bs.length := ⟨_, rfl⟩
    rw [← hnn] at h hn ⊢
    have hbel : Below w.heap.size w (w.alloc (.cells #[] 5)) := Below.alloc (Below.refl _ _) (Nat.le_refl _) _
    have hnews := h.news hbel ad rfl
    have hmade : (w.alloc (.cells #[] 5)).ownsRow w.heap.size 5 1 (.slice (some ⟨w.heap.size, 0, none⟩) 0 0) 0 [] := World.ownsRow_made w #[] 0 (Nat.le_refl _) (by decide) rfl
    have hsz : w.heap.size ≤ (w.alloc (.cells #[] 5)).heap.size := hbel.size
    have hlen : (u8s bs).length = n * 1 := by rw [u8s_len, hnn, Nat.mul_one]
    generalize hW : w.alloc (.cells #[] 5) = W at hnews hmade hbel hsz
    have HN := Lib.hid hnews
    have HM := Lib.hid hmade
    have HL := Lib.hid hlen
    have HB := Lib.hid hbel
    have HS := Lib.hid hsz
    have HI := Lib.hid hi
    have HX : Hid (n ≤ 1048576) := Lib.hid hn
    have HBS := Lib.hid hx
    clear hnews hmade hlen hbel hsz hi hn hx h hnn
    have E := eql37_some ad n c w
    go_enter Tryz.func29, Tryz.ntmps29
    go_wp2_with (at_builtin; go_loud (refine wpList_append_own _ rfl _ _ 33 rfl w.heap.size 5 i (.int .u8 0) 1 1 Tryz.underlying33 HI.out i3 i1 i2 rfl (by decide) _ 0 [] rfl HM.out _ n _ _ rfl HL.out HN.out u8s_one (Nat.le_trans (by simpa using HX.out) (by decide)) (by have := HX.out; omega) HS.out ?_; intro v' w' q1 q2 q3))
    go_ret
    refine ⟨⟨_, rfl, ?_⟩, HB.out.grown q2 HS.out ?_⟩
    · simpa using q1
    · intro k hk; cases hk; exact Nat.le_refl _
theorem clone_x {w : World} {v : Value} {bs : Bs} (h : RV w v bs) (hn : bs.length ≤ 1048576) :
    Calls Tryz.prog 29 #[v] w fun e w' => (∃ v', e = .returned v' ∧ RN w.heap.size w' v' bs) ∧ Below w.heap.size w w' :=
  (clone_o h hn).mono fun e w' ⟨⟨v', h1, h2⟩, h3⟩ => ⟨⟨v', h1, RN.of h2 h.byte⟩, h3⟩
end Go.Tb
namespace Go.Tb
open Go Go.RowKit Go.Proofs Go.Maps Go.Sp
theorem below_drewN' {B : Nat} {a w : World} (h : Below B a w) (n : Nat) : Below B a (w.drewN n) := h.trans ⟨rfl, rfl, rfl, Nat.le_refl _, fun _ _ => rfl⟩
end Go.Tb
namespace Go.Tb
open Go Go.RowKit Go.Proofs Go.Maps Go.Sp
theorem dread_ok {γ : Gh} {w : World} {db : Nat} {d : Dk} (H : DkV γ w db d) (h0 : γ.lim ≤ w.heap.size) (hok : d.Ok) (hcap : d.P.length < 2000000) (s : Nat) :
    Calls Tryz.prog 103 #[.pointer (some ⟨db, 0, none⟩), .int .i64 (s : Int)] w fun e w' => (∃ v, e = .returned (.tuple #[v, .int .i64 ((d.read s).1 : Nat)]) ∧ RN w.heap.size w' v (d.read s).2) ∧ Below w.heap.size w w' := by
  have hsy := hok.says s
  have PW := power_ok H.d2
  rcases d with ⟨N, S, P, dd, ar, st⟩
  dsimp only at PW hcap
  cases dd with
  | true =>
    have e1 : Dk.read ⟨N, S, P, true, ar, st⟩ s = (4, []) := rfl
    rw [e1]
    clear H hsy hok
    go_enter Tryz.func103, Tryz.ntmps103
    go_wp2_with (go_at_call 70; refine PW.mono ?_; rintro e w5 ⟨rfl, rfl⟩)
    go_ret2
    exact ⟨⟨_, rfl, RN.nil _ _ _ _⟩, Below.refl _ _⟩
  | false =>
    obtain ⟨sa, so, c0, e0, _, _, _, _, e4⟩ := H.d0
    dsimp only at e0 e4
    have WI := within_ok (s := (s : Int)) e0
    by_cases hs : s < N
    · rw [show decide (0 ≤ (s : Int) ∧ (s : Int) < (N : Int)) = true by simp; exact hs] at WI
      obtain ⟨v0, g1, rb0⟩ := e4 s hs
      obtain ⟨pv, vs, c1, PE⟩ := H.d1
      obtain ⟨pa, pc, rfl⟩ := ownsRow_shape PE.own
      obtain ⟨va0, vc0, rfl, _⟩ := id rb0
      dsimp only at c1 PE
      obtain ⟨n, hn⟩ : ∃ n, n = P.length := ⟨_, rfl⟩
      rw [← hn] at c1 hcap
      have i1 : (s : Int) < (N : Int) := by omega
      have i0 : (0 : Int) ≤ (s : Int) := by omega
      have hl := cell_lt' c1
      have hl2 := cell_lt' g1
      have HCAP := Lib.hid hcap
      have HN := Lib.hid hn
      have HPE := Lib.hid PE
      have HSY := Lib.hid hsy
      have H0 := Lib.hid h0
      have HR0 := Lib.hid rb0
      have HSN := Lib.hid hs
      obtain ⟨l0, hl0⟩ : ∃ l0, l0 = (S s).length := ⟨_, rfl⟩
      rw [← hl0] at g1
      have HL0 := Lib.hid hl0
      clear e4 H PE hsy hok h0 rb0 hn hcap hs hl0
      have hrd : ∃ r, Dk.read ⟨N, S, P, false, ar, st⟩ s = r ∧ r = if P.foldl setS S s = [] then (5, []) else (0, P.foldl setS S s) := ⟨_, rfl, by
        unfold Dk.read
        rw [if_neg (by simp), if_neg (by have := HSN.out; show ¬ N ≤ s; omega)]
        rfl⟩
      obtain ⟨r, hr1, hr2⟩ := hrd
      rw [hr1]
      have HRD := Lib.hid hr2
      clear hr1 hr2
      go_enter Tryz.func103, Tryz.ntmps103
      go_upto_region 8 with (first | (go_at_call 70; refine PW.mono ?_; rintro e w5 ⟨rfl, rfl⟩) | (go_at_call 71; refine WI.mono ?_; rintro e w6 ⟨rfl, rfl⟩))
      clear e0 c1 g1 PW WI
      go_loopw [7, 31] (fun u v wr => ∃ k : Nat, v = .int .i64 k ∧ k ≤ n ∧ Hid (RV w6 u ((P.take k).foldl setS S s) ∧ Below w6.heap.size w6 wr)) (fun _ v _ => n - (Go.RowKit.intOf v).toNat)
      case atStart => exact ⟨0, rfl, Nat.zero_le _, Lib.hid ⟨by rw [HL0.out]; exact HR0.out.rv, Below.refl _ _⟩⟩
      case round =>
        obtain ⟨k, rfl, hk, hI⟩ := hrel
        obtain ⟨hrv, hbl⟩ := hI.out
        by_cases e : k < n
        · have i2 : (k : Int) < (n : Int) := by omega
          have i3 : (0 : Int) ≤ (k : Int) := by omega
          have hkP : k < P.length := by rw [← HN.out]; exact e
          obtain ⟨p, hp⟩ : ∃ p, P[k]? = some p := ⟨P[k], List.getElem?_eq_getElem hkP⟩
          obtain ⟨u', hu⟩ : ∃ u', vs[k]? = some u' := ⟨vs[k]'(by rw [HPE.out.len]; exact hkP), List.getElem?_eq_getElem _⟩
          obtain ⟨f1, f2⟩ := flatP_get P vs k p u' hp hu
          obtain ⟨hsN, hrb⟩ := HPE.out.rb k p u' hp hu
          obtain ⟨x, bs⟩ := p
          have hsy := take_says hp S s
          rcases HPE.out.own.2 with ⟨_, h3⟩ | ⟨g', cap, cur, e3, hg, hcur, _⟩
          · omega
          · injection e3 with e3 e4 e5
            subst e3 e5
            clear e4
            have hc := HPE.out.own.cells rfl
            have q1 := cells_below hbl _ _ (hc _ _ f1)
            have q2 := cells_below hbl _ _ (hc _ _ f2)
            rw [add_cell, Nat.zero_add] at q1 q2
            obtain ⟨ua, uc, rfl, _⟩ := id hrb
            have hgl := cell_lt' q1
            dsimp only at q1
            have hwr : Hid (wrap64 ((k : Int) + 1) = (k : Int) + 1) := Lib.hid (wrapS (Nat.lt_trans e (Nat.lt_trans HCAP.out (by decide))))
            have hb1 : Below w6.heap.size w6 (wr.alloc (.cells #[.int .i64 (x : Int), .slice ua bs.length uc] 124)) := hbl.alloc hbl.size _
            have HX := Lib.hid hrb.rv
            have HB1 := Lib.hid hb1
            have HRV := Lib.hid hrv
            obtain ⟨lb, hlb⟩ : ∃ lb, lb = bs.length := ⟨_, rfl⟩
            rw [← hlb] at q2 HB1
            by_cases exs : s = x
            · subst exs
              rw [if_pos rfl] at hsy
              have HSY2 := Lib.hid hsy
              have hb : ((s : Int) == (s : Int)) = true := by simp
              rw [← hlb] at HX
              clear hsy hp hu f1 f2 hsN hrb hc hcur hb1 hrv hbl hI hlb hkP
              go_wp2
              go_roundw
              all_goals have hwr := hwr.out
              · exact ⟨k + 1, by simp [hwr], e, Lib.hid ⟨by rw [HSY2.out]; exact HX.out, HB1.out⟩⟩
              · exact measS e hwr
            · rw [if_neg exs] at hsy
              have HSY2 := Lib.hid hsy
              have hb : ((x : Int) == (s : Int)) = false := by simp; omega
              clear hsy hp hu f1 f2 hsN hrb hc hcur hb1 hrv hbl hI hlb hkP exs
              go_wp2
              go_roundw
              all_goals have hwr := hwr.out
              · exact ⟨k + 1, by simp [hwr], e, Lib.hid ⟨by rw [HSY2.out]; exact HRV.out, HB1.out⟩⟩
              · exact measS e hwr
        · have ek : k = P.length := by rw [← HN.out]; omega
          rw [ek, List.take_length] at hrv
          have hsd : Dk.says ⟨N, S, P, false, ar, st⟩ s = P.foldl setS S s := rfl
          have hsy := HSY.out
          rw [hsd] at hsy
          have hrd := HRD.out
          generalize P.foldl setS S s = bs at hrv hsy hrd
          obtain ⟨a, c, rfl, _⟩ := id hrv
          obtain ⟨lb, hlb⟩ : ∃ lb, lb = bs.length := ⟨_, rfl⟩
          have HB := Lib.hid hbl
          rw [← hlb] at hrv ⊢
          by_cases hz : bs = []
          · subst hz
            clear hrv hsy hbl hI hsd HRD
            go_wp2
            go_ret2
            exact ⟨⟨_, rfl, RN.nil _ _ _ _⟩, HB.out⟩
          · rw [if_neg hz] at hrd
            subst hrd
            have hln : bs.length = 256 := hsy.resolve_right hz
            have CL := clone_x (hrv.keep hbl) (by omega)
            obtain rfl : lb = 256 := hlb.trans hln
            have CLH := Lib.hid CL
            clear hrv hsy hbl hI hsd hln hz CL HRD hlb
            go_wp2_with (go_at_call 29; refine CLH.out.mono ?_; rintro e w9 ⟨⟨v', rfl, hv⟩, hb9⟩; have HV := Lib.hid hv; have HB9 := Lib.hid hb9; clear hv hb9)
            go_ret2
            exact ⟨⟨_, rfl, HV.out.mono HB.out.size⟩, HB.out.trans (HB9.out.mono HB.out.size)⟩
    · rw [show decide (0 ≤ (s : Int) ∧ (s : Int) < (N : Int)) = false by simp; omega] at WI
      have e1 : Dk.read ⟨N, S, P, false, ar, st⟩ s = (1, []) := by
        unfold Dk.read
        rw [if_neg (by simp), if_pos (by show N ≤ s; omega)]
      rw [e1]
      clear H hsy hok e4 e0
      go_enter Tryz.func103, Tryz.ntmps103
      go_wp2_with (first | (go_at_call 70; refine PW.mono ?_; rintro e w5 ⟨rfl, rfl⟩) | (go_at_call 71; refine WI.mono ?_; rintro e w6 ⟨rfl, rfl⟩))
      go_ret2
      exact ⟨⟨_, rfl, RN.nil _ _ _ _⟩, Below.refl _ _⟩
end Go.Tb
namespace Go.Tb
open Go Go.RowKit Go.Proofs Go.Maps Go.Sp
theorem Below.allocs {w x : World} (h : Below w.heap.size w x) (o : Obj) : Below w.heap.size w (x.alloc o) := h.alloc h.size _
theorem step_append_own {P : Program} {ops : Array Oper} {o : Oper} {a : Act} {w : World} {K : Act → World → Prop} {Q : Exit → Act → World → Prop} {E : Prop} (hgd : o.guard = none) (s x : Operand) (t : TypeId)
    (ho : o.op = .call { callee := .builtin .append, args := #[s, x], argTypes := #[t, t] })
    (base : Nat) (e : TypeId) (i : TypeInfo) (z : Value) (size bytes : Nat) (ht : P.underlying t = some (.slice e)) (hi : P.info? e = some i) (hz : i.zero = some z)
    (hsize : i.size = size) (hby : i.bytes = bytes) (hzs : z.cells.size = size) (hsz : 0 < size)
    (v : Value) (n : Nat) (xs : List Value) (hs : a.eval s = v) (hown : w.ownsRow base e size v n xs)
    (ad : Addr) (m c : Nat) (news : List Value) (hx : a.eval x = .slice (some ad) m c) (hl : news.length = m * size) (hnews : ∀ j u, news[j]? = some u → w.cell? (ad.add j) = some u) (h1 : ∀ u ∈ news, u.oneCell' = true)
    (h63 : n + m ≤ maxLen) (hbytes : (n + m) * bytes ≤ 140737488355328) (hbase : base ≤ w.heap.size)
    (h : ∀ v' w', w'.ownsRow base e size v' (n + m) (xs ++ news) → w.grownBy w' v.ownBlock → (v' = .slice none 0 0 ↔ v = .slice none 0 0 ∧ m = 0) → K (a.put o.dst v') w') : if Region.wanted o (yielded ops a.tmps) = true then Oper.wp P o a w K Q else E := by
  have hw : Region.wanted o (yielded ops a.tmps) = true := by simp [Region.wanted, hgd]
  rw [if_pos hw]
  exact wp_append_own w s x t ho base e i z size bytes ht hi hz hsize hby hzs hsz v n xs hs hown ad m c news hx hl hnews h1 h63 hbytes hbase h
theorem blank_ok (w : World) : Calls Tryz.prog 48 #[] w fun e w' => e = .returned (.slice (some ⟨w.heap.size, 0, none⟩) 256 256) ∧ w' = w.alloc (.cells (zrs 256).toArray 5) := by
  have MK : (Instr.makeSlice 33 (.int .i64 256) (.int .i64 256)).run Tryz.prog w = .ok (.slice (some ⟨w.heap.size, 0, none⟩) 256 256) (w.alloc (.cells (zrs 256).toArray 5)) := mk22n (m := 256) (by decide) w
  go_enter Tryz.func48, Tryz.ntmps48
  go_wp2
  go_ret
  exact ⟨rfl, rfl⟩
theorem right_ok (n : Int) (w : World) : Calls Tryz.prog 47 #[.int .i64 n] w fun e w' => e = .returned (.bool (decide (16 ≤ n ∧ n ≤ 4096))) ∧ w' = w := by
  by_cases h1 : 16 ≤ n
  · by_cases h2 : n ≤ 4096
    · rw [show decide (16 ≤ n ∧ n ≤ 4096) = true by simp [h1, h2]]
      go_enter Tryz.func47, Tryz.ntmps47
      go_wp2
      go_ret
      exact ⟨rfl, rfl⟩
    · rw [show decide (16 ≤ n ∧ n ≤ 4096) = false by simp [h2]]
      have i2 : decide (n ≤ 4096) = false := by simpa using h2
      go_enter Tryz.func47, Tryz.ntmps47
      go_wp2
      go_ret
      exact ⟨rfl, rfl⟩
  · rw [show decide (16 ≤ n ∧ n ≤ 4096) = false by simp [h1]]
    have i2 : decide (16 ≤ n) = false := by simpa using h1
    go_enter Tryz.func47, Tryz.ntmps47
    go_wp2
    go_ret
    exact ⟨rfl, rfl⟩
theorem i37 : ∃ i : TypeInfo, Tryz.prog.info? 33 = some i ∧ i.size = 1 ∧ i.bytes = 24 ∧ i.zero = some (.slice none 0 0) := by
  have : (Tryz.prog.info? 33).map (fun i => (i.size, i.bytes, i.zero)) = some (1, 24, some (.slice none 0 0)) := by kernel_rfl
  obtain ⟨i, hi, hi2⟩ := Option.map_eq_some_iff.1 this
  injection hi2 with h1 h2
  injection h2 with h2 h3
  exact ⟨i, hi, h1, h2, h3⟩
def dk5 (v : Value) : Array Value := #[v, .slice none 0 0, .bool false, .int .i64 0, .int .i64 0]
structure NewJ (w wr : World) (k : Nat) (v : Value) (us : List Value) : Prop where
  bk : wr.heap[w.heap.size]? = some (.cells (dk5 v) 93 (0, 0))
  own : wr.ownsRow (w.heap.size + 1) 33 1 v k us
  rows : ∀ u ∈ us, ∃ g, u = .slice (some ⟨g, 0, none⟩) 256 256 ∧ w.heap.size < g ∧ wr.heap[g]? = some (.cells (zrs 256).toArray 5 (0, 0))
  be : Below w.heap.size w wr
theorem NewJ.len {w wr : World} {k : Nat} {v : Value} {us : List Value} (h : NewJ w wr k v us) : us.length = k := by have := h.own.1; omega
theorem NewJ.next {w wr X w3 : World} {k : Nat} {v v' : Value} {us : List Value} {g : Nat} (h : NewJ w wr k v us) (hb : Below wr.heap.size wr X) (hg : X.heap[g]? = some (.cells (zrs 256).toArray 5 (0, 0))) (hgs : wr.heap.size ≤ g)
    (ho : w3.ownsRow (w.heap.size + 1) 33 1 v' (k + 1) (us ++ [.slice (some ⟨g, 0, none⟩) 256 256])) (hgr : X.grownBy w3 v.ownBlock) :
    NewJ w (w3.setCell ⟨w.heap.size, 0, none⟩ v') (k + 1) v' (us ++ [.slice (some ⟨g, 0, none⟩) 256 256]) := by
  have hl : w.heap.size < wr.heap.size := (Array.getElem?_eq_some_iff.1 h.bk).1
  have hne : ∀ r, v.ownBlock = some r → w.heap.size < r ∧ r < wr.heap.size ∧ ∃ cs, wr.heap[r]? = some (.cells cs 33 (0, 0)) := fun r hr => by
    have := h.own.lt r hr
    refine ⟨by omega, this.2, ?_⟩
    rcases h.own.2 with ⟨rfl, _⟩ | ⟨g', cap, cur, rfl, _, h2, _⟩
    · cases hr
    · injection hr with hr; subst hr; exact ⟨_, h2⟩
  have hk3 : ∀ j, j < wr.heap.size → (∀ cs, wr.heap[j]? ≠ some (.cells cs 33 (0, 0))) → w3.heap[j]? = wr.heap[j]? := fun j hj hn =>
    (hgr.block j (Nat.lt_of_lt_of_le hj hb.size) (fun e => by obtain ⟨_, _, cs, hcs⟩ := hne j e.symm; exact hn cs hcs)).trans (hb.block j hj)
  have hd3 : w3.heap[w.heap.size]? = some (.cells (dk5 v) 93 (0, 0)) := (hk3 _ hl (fun cs e => by rw [h.bk] at e; injection e with e; injection e with _ e; cases e)).trans h.bk
  have hset : ∀ j, j ≠ w.heap.size → (w3.setCell ⟨w.heap.size, 0, none⟩ v').heap[j]? = w3.heap[j]? := fun j hj => heap_setCell_other w3 (⟨w.heap.size, 0, none⟩ : Addr) j v' hj
  have hg3 : w3.heap[g]? = X.heap[g]? := hgr.block g (Array.getElem?_eq_some_iff.1 hg).1 (fun e => by have := (hne g e.symm).2.1; omega)
  have hszX : w.heap.size ≤ X.heap.size := Nat.le_trans h.be.size hb.size
  refine ⟨?_, ownsRow_same ho fun r hr => hset r (by have := (ho.lt r hr).1; omega), fun u hu => ?_, ?_⟩
  · obtain ⟨c, T, r, e1, _, e2⟩ := heap_set_same w3 (k := w.heap.size) (o := 0) (v := v') (v0 := v) (by simp [World.cell?, hd3, dk5])
    rw [hd3] at e1
    injection e1 with e1
    injection e1 with e1 e3 e4
    subst e1 e3 e4
    exact e2
  · rcases List.mem_append.1 hu with hu | hu
    · obtain ⟨g', e1, e2, e3⟩ := h.rows u hu
      exact ⟨g', e1, e2, (hset g' (by omega)).trans ((hk3 g' (Array.getElem?_eq_some_iff.1 e3).1 (fun cs e => by rw [e3] at e; injection e with e; injection e with _ e; cases e)).trans e3)⟩
    · simp only [List.mem_singleton] at hu
      subst hu
      exact ⟨g, rfl, by omega, (hset g (by omega)).trans (hg3.trans hg)⟩
  · refine ⟨hgr.os.trans (hb.os.trans h.be.os), hgr.tape.trans (hb.tape.trans h.be.tape), hgr.output.trans (hb.output.trans h.be.output), by have := hgr.size; simp [World.setCell]; omega, fun j hj => ?_⟩
    exact (hset j (by omega)).trans ((hgr.block j (Nat.lt_of_lt_of_le hj hszX) (fun e => by have := (hne j e.symm).1; omega)).trans ((hb.block j (by omega)).trans (h.be.block j hj)))
theorem dnew_ok {w : World} (n : Nat) (hn : 16 ≤ n ∧ n ≤ 4096) :
    Calls Tryz.prog 19 #[.int .i64 (n : Int)] w fun e w' => e = .returned (.tuple #[.pointer (some ⟨w.heap.size, 0, none⟩), .int .i64 0]) ∧ ∃ v us, NewJ w w' n v us := by
  have RI := right_ok (n : Int) w
  rw [show decide (16 ≤ (n : Int) ∧ (n : Int) ≤ 4096) = true by simp; omega] at RI
  obtain ⟨i, hi, i1, i2, i3⟩ := i37
  have HN := Lib.hid hn
  have HI := Lib.hid hi
  have hbk : (w.alloc (.cells (dk5 (.slice none 0 0)) 93)).heap[w.heap.size]? = some (.cells (dk5 (.slice none 0 0)) 93 (0, 0)) := (Go.MapKept.heap_alloc w _).1
  have hJ0 : NewJ w (w.alloc (.cells (dk5 (.slice none 0 0)) 93)) 0 (.slice none 0 0) [] := ⟨hbk, World.ownsRow_nil _ _ _ _, fun u hu => by simp at hu, Below.alloc (Below.refl _ _) (Nat.le_refl _) _⟩
  have HJ0 := Lib.hid hJ0
  clear hn hi hbk hJ0
  go_enter Tryz.func19, Tryz.ntmps19
  go_upto_region 5 with (go_at_call 47; refine RI.mono ?_; rintro e w5 ⟨rfl, rfl⟩)
  go_loopw [11] (fun u wr => ∃ k : Nat, u = .int .i64 k ∧ k ≤ n ∧ Hid (∃ v us, NewJ w5 wr k v us)) (fun u _ => n - (Go.RowKit.intOf u).toNat)
  case atStart => exact ⟨0, rfl, Nat.zero_le _, Lib.hid ⟨_, _, HJ0.out⟩⟩
  case round =>
    obtain ⟨k, rfl, hk, hI⟩ := hrel
    obtain ⟨v, us, J⟩ := hI.out
    by_cases e : k < n
    · have i4 : (k : Int) < (n : Int) := by omega
      have i5 : (0 : Int) ≤ (k : Int) := by omega
      have hwr : Hid (wrap64 ((k : Int) + 1) = (k : Int) + 1) := Lib.hid (wrapS (Nat.lt_of_lt_of_le (Nat.lt_of_lt_of_le e HN.out.2) (by decide)))
      have hl : w5.heap.size < wr.heap.size := (Array.getElem?_eq_some_iff.1 J.bk).1
      have c0 : wr.cell? ⟨w5.heap.size, 0, none⟩ = some v := by simp [World.cell?, J.bk, dk5]
      have z0 : wr.frozen? ⟨w5.heap.size, 0, none⟩ = false := by simp [World.frozen?, J.bk, dk5]
      have HC : Hid (∀ x, Below wr.heap.size wr x → x.cell? ⟨w5.heap.size, 0, none⟩ = some v ∧ x.frozen? ⟨w5.heap.size, 0, none⟩ = false ∧ w5.heap.size < x.heap.size ∧ x.ownsRow (w5.heap.size + 1) 33 1 v k us) := Lib.hid fun x hx => ⟨cells_below hx _ _ c0, (cell_of_heap (a := ⟨w5.heap.size, 0, none⟩) (hx.block _ hl)).2.trans z0, Nat.lt_of_lt_of_le hl hx.size, ownsRow_same J.own fun r hr => hx.block r (J.own.lt r hr).2⟩
      have HJ := Lib.hid J
      obtain ⟨va, vc, rfl⟩ := ownsRow_shape J.own
      clear J hI
      obtain ⟨X, hX⟩ : ∃ X, ((wr.alloc (.cells (zrs 256).toArray 5)).alloc (.cells #[.slice (some ⟨wr.heap.size, 0, none⟩) 256 256] 33)).drew = X := ⟨_, rfl⟩
      have hbX : Below wr.heap.size wr X := by rw [← hX]; (repeat (first | exact Below.refl _ _ | assumption | refine Below.drew ?_ | refine Below.allocs ?_ _))
      have hXs : X.heap.size = wr.heap.size + 2 := by rw [← hX]; simp
      have hX0 : X.heap[wr.heap.size]? = some (.cells (zrs 256).toArray 5 (0, 0)) := by
        rw [← hX]; exact (Below.heap_alloc _ _ _ (by simp)).trans (Go.MapKept.heap_alloc wr _).1
      have hX1 : X.heap[wr.heap.size + 1]? = some (.cells #[.slice (some ⟨wr.heap.size, 0, none⟩) 256 256] 33 (0, 0)) := by
        rw [← hX]
        have := (Go.MapKept.heap_alloc (wr.alloc (.cells (zrs 256).toArray 5)) (.cells #[.slice (some ⟨wr.heap.size, 0, none⟩) 256 256] 33)).1
        rwa [show (wr.alloc (.cells (zrs 256).toArray 5)).heap.size = wr.heap.size + 1 by simp] at this
      have hnews : ∀ j u, [Value.slice (some ⟨wr.heap.size, 0, none⟩) 256 256][j]? = some u → X.cell? ((⟨wr.heap.size + 1, 0, none⟩ : Addr).add j) = some u := fun j u hu => by
        rw [add_cell, Nat.zero_add]
        unfold World.cell?
        simp only [hX1]
        simpa using hu
      obtain ⟨q1, q2, q3, q4⟩ := HC.out X hbX
      have hgc : ∀ w', X.grownBy w' (Value.slice va k vc).ownBlock → w'.cell? ⟨w5.heap.size, 0, none⟩ = some (.slice va k vc) ∧ w'.frozen? ⟨w5.heap.size, 0, none⟩ = false ∧ w5.heap.size < w'.heap.size := fun w' q => by
        have e := q.block w5.heap.size q3 (fun e => by have := (q4.lt _ e.symm).1; omega)
        exact ⟨(cell_of_heap (a := ⟨w5.heap.size, 0, none⟩) e).1.trans q1, (cell_of_heap (a := ⟨w5.heap.size, 0, none⟩) e).2.trans q2, Nat.lt_of_lt_of_le q3 q.size⟩
      have HGC := Lib.hid hgc
      have HNW := Lib.hid hnews
      have HOW := Lib.hid q4
      have HBX := Lib.hid hbX
      have HX0 := Lib.hid hX0
      have HSZ : Hid (w5.heap.size + 1 ≤ X.heap.size) := Lib.hid (by omega)
      clear hgc hnews q2 q4 hbX hX0 hX1 hXs HC
      generalize hdb : w5.heap.size = db at c0 z0 hl q1 q3 HGC HSZ HOW ⊢
      go_wp2_with fail
      go_region_law (first | (go_simp; go_at_call 48; refine (blank_ok _).mono ?_; rintro e w' ⟨rfl, rfl⟩) | (go_loud ((try rw [hX]); refine step_append_own rfl _ _ 90 rfl (db + 1) 33 i (.slice none 0 0) 1 24 Tryz.underlying90 HI.out i3 i1 i2 rfl (by decide) _ k us rfl HOW.out _ 1 1 _ rfl rfl HNW.out (by simp [Value.oneCell']) (Nat.le_trans (show k + 1 ≤ 4096 by have := HN.out; omega) (by decide)) (by have := HN.out; omega) HSZ.out ?_; intro v' w' g1 g2 g3; obtain ⟨c1, z1, l1⟩ := HGC.out w' g2; obtain ⟨va', vc', rfl⟩ := ownsRow_shape g1; have G1 := Lib.hid g1; have G2 := Lib.hid g2; clear g1 g2 g3)))
      all_goals
        subst hdb
        have hfin := Lib.hid (HJ.out.next HBX.out HX0.out (Nat.le_refl _) G1.out G2.out)
        clear c1 z1 l1 q1 q3
        go_wp2_with fail
        go_roundw
        all_goals have hwr := hwr.out
        · exact ⟨k + 1, by simp [hwr], e, Lib.hid ⟨_, _, hfin.out⟩⟩
        · exact measS e hwr
    · obtain rfl : k = n := by omega
      have HJ := Lib.hid J
      clear J hI
      go_wp2
      go_ret2
      exact ⟨rfl, _, _, HJ.out⟩
end Go.Tb
namespace Go.Tb
open Go Go.RowKit Go.Proofs Go.Maps Go.Sp
attribute [local go_sem] Oper.semAt_some
theorem digits_in (F : Fence) (n : Nat) (h213 : F.fn 117) (hro : F.round = none) (hn : 1 ≤ n) (l bn bx m : Nat) (hm : m ≤ 8) (hnx : bn ≠ bx) (J : Nat → World → Prop) (x : Nat)
    (hY : ∀ j W, J j W → j < m → YieldAt F (n - 1) Tryz.prog l #[.int .u8 ((x / 256 ^ j % 256 : Nat) : Int)] W fun e W' => e = .returned (.bool true) ∧ J (j + 1) W' ∧ (∀ v, Boxed W bn 3 v → Boxed W' bn 3 v) ∧ (∀ v, Boxed W bx 101 v → Boxed W' bx 101 v))
    (hJn : ∀ j W v, J j W → J j (W.setCell ⟨bn, 0, none⟩ v)) (hJx : ∀ j W v, J j W → J j (W.setCell ⟨bx, 0, none⟩ v))
    (W : World) (hx : x < 2 ^ 64) (hbn : Boxed W bn 3 (.int .i64 (m : Int))) (hbx : Boxed W bx 101 (.int .u64 (x : Int))) (h0 : J 0 W) :
    CallsIn F n Tryz.prog 117 #[.func (.yield l) #[] #[], .pointer (some ⟨bn, 0, none⟩), .pointer (some ⟨bx, 0, none⟩)] W fun e W' => (∃ v, e = .returned v) ∧ J m W' := by
  refine callsIn_of_wp Tryz.func117 rfl h213 ?_ hro
  simp only [Tryz.ntmps117, List.size_toArray, List.length_cons, List.length_nil, Nat.reduceAdd, Nat.reduceSub, Array.replicate_succ, Array.replicate_zero, List.push_toArray, List.append_toArray, List.nil_append, List.cons_append]
  gi_wp2
  gi_loopw [] (fun wr => ∃ (k y : Nat), k ≤ m ∧ y < 2 ^ 64 ∧ Hid (y = x / 256 ^ k) ∧ Boxed wr bn 3 (.int .i64 ((m - k : Nat) : Int)) ∧ Boxed wr bx 101 (.int .u64 (y : Int)) ∧ J k wr)
    (fun wr => match wr.cell? ⟨bn, 0, none⟩ with | some v => (Go.RowKit.intOf v).toNat | none => 0)
  case atStart => exact ⟨0, x, Nat.zero_le _, hx, Lib.hid (by simp), by simpa using hbn, hbx, h0⟩
  case round =>
    obtain ⟨k, y, hk, hy, HY, hb1, hb2, hJ⟩ := hrel
    have c1 := hb1.cell
    have f1 := hb1.frozen
    have c2 := hb2.cell
    have f2 := hb2.frozen
    have l1 := hb1.lt
    have l2 := hb2.lt
    by_cases e : k = m
    · subst e
      have c1' : wr.cell? ⟨bn, 0, none⟩ = some (.int .i64 0) := by simpa using c1
      clear c1
      gi_wp2
      refine ⟨(fun _ h => by cases h), ?_⟩
      gi_wp2_with fail
      go_end0
      exact ⟨⟨_, rfl⟩, hJ⟩
    · have hkm : 0 < ((m - k : Nat) : Int) := by omega
      obtain ⟨fn, tmps, assign, body, hyy, hR⟩ := hY k wr hJ (by omega)
      rw [← HY.out] at hyy
      have hw : IntKind.u8.wrap (y : Int) = ((y % 256 : Nat) : Int) := by simp [IntKind.wrap, IntKind.signed, IntKind.bits]
      rw [show (((y % 256 : Nat) : Nat) : Int) = (y : Int) % 256 from by omega] at hyy
      generalize hq : m - k = q at *
      gi_wp2
      refine hR.mono ?_
      rintro e W3 ⟨rfl, hJ3, hk3, hk4⟩
      have b1 := hk3 _ hb1
      have b2 := hk4 _ hb2
      have c31 := b1.cell
      have f31 := b1.frozen
      have c32 := b2.cell
      have f32 := b2.frozen
      have l31 := b1.lt
      have l32 := b2.lt
      gi_wp2
      have b3 : Boxed (W3.setCell ⟨bx, 0, none⟩ (.int .u64 ((y : Int) / 256))) bn 3 (.int .i64 (q : Int)) := (heap_setCell_other W3 (⟨bx, 0, none⟩ : Addr) bn _ hnx).trans b1
      have b4 := b3.set (.int .i64 ((q : Int) - 1))
      have b5 := b2.set (.int .u64 ((y : Int) / 256))
      have b6 : Boxed ((W3.setCell ⟨bx, 0, none⟩ (.int .u64 ((y : Int) / 256))).setCell ⟨bn, 0, none⟩ (.int .i64 ((q : Int) - 1))) bx 101 (.int .u64 ((y : Int) / 256)) := (heap_setCell_other _ (⟨bn, 0, none⟩ : Addr) bx _ (Ne.symm hnx)).trans b5
      refine ⟨⟨k + 1, y / 256, by omega, by omega, Lib.hid (by rw [HY.out, Nat.div_div_eq_div_mul, Nat.pow_succ]), ?_, by simpa using b6, hJn _ _ _ (hJx _ _ _ hJ3)⟩, ?_⟩
      · have : ((m - (k + 1) : Nat) : Int) = (q : Int) - 1 := by omega
        rw [this]; exact b4
      · rw [b4.cell, c1]; simp [Go.RowKit.intOf]; omega
end Go.Tb
namespace Go.Tb
open Go Go.RowKit Go.Proofs Go.Maps Go.Sp
structure KeepsBut (B bn bx : Nat) (W W' : World) : Prop where
  os : W'.os = W.os
  tape : W'.tape = W.tape
  output : W'.output = W.output
  size : W.heap.size ≤ W'.heap.size
  same : ∀ (k : Nat) (o : Obj), W.heap[k]? = some o → (k < B ∨ o.isCells = true) → k ≠ bn → k ≠ bx → W'.heap[k]? = some o
theorem KeepsBut.put {B bn bx : Nat} {W : World} {l : Nat} {o o' : Obj} (h : W.heap[l]? = some o) (hc : o.isCells = false) (hl : B ≤ l) : KeepsBut B bn bx W (W.putObj l o') :=
  ⟨rfl, rfl, rfl, by simp [World.putObj], fun k o2 hk hor _ _ => by
    have hne : k ≠ l := fun e => by
      subst e
      rw [h] at hk; cases hk
      rcases hor with h1 | h1
      · omega
      · rw [hc] at h1; cases h1
    exact (World.putObj_heap_other hne).trans hk⟩
theorem KeepsBut.setN {B bn bx : Nat} {W : World} {v : Value} {b : Nat} (h : b = bn ∨ b = bx) : KeepsBut B bn bx W (W.setCell ⟨b, 0, none⟩ v) :=
  ⟨rfl, rfl, rfl, by simp [World.setCell], fun k o2 hk _ h1 h2 => by
    have hne : k ≠ b := by rcases h with rfl | rfl <;> assumption
    exact (heap_setCell_other W (⟨b, 0, none⟩ : Addr) k v hne).trans hk⟩
theorem KeepsBut.news {B bn bx : Nat} {W : World} {o : Obj} : KeepsBut B bn bx W (W.alloc o) :=
  ⟨rfl, rfl, rfl, by simp, fun k o2 hk _ h1 h2 => (Below.heap_alloc _ _ k (Array.getElem?_eq_some_iff.1 hk).1).trans hk⟩
theorem range_digits {F : Fence} {n : Nat} {g : Operand} {p : Tmp} {assign body : Code} {Q : Exit → Act → World → Prop} {a : Act} {w : World}
    (hro : F.round = none) (h2 : 2 ≤ n) (h213 : F.fn 117) (e213 : ∀ args w, (callFunc 117 args).run Tryz.prog w = .ok (.enter 117 args) w) {bn bx m x : Nat} (hm : m ≤ 8) (hnx : bn ≠ bx) (hx : x < 2 ^ 64)
    (hg : a.eval g = .func (.func 117) #[] #[.pointer (some ⟨bn, 0, none⟩), .pointer (some ⟨bx, 0, none⟩)])
    (hbn : Boxed w bn 3 (.int .i64 (m : Int))) (hbx : Boxed w bx 101 (.int .u64 (x : Int)))
    (I : Nat → World → Prop) (a₁ : Nat → Act)
    (hI : ∀ j W W', I j W → (∃ v, Boxed W bn 3 v) → (∃ v, Boxed W bx 101 v) → KeepsBut w.heap.size bn bx W W' → I j W') (h0 : I 0 w)
    (hassign : ∀ (l c : Nat) (W : World) (K : Act → World → Prop), K (a₁ c) W → assign.wpIn (F.inRound l) (n - 1 - 1) Tryz.prog (Exit.then K (fun _ _ _ => False)) { tmps := a.tmps.setIfInBounds p (.int .u8 (c : Int)), defers := [] } W)
    (hbody : ∀ (l j : Nat) (W : World), I j W → j < m → w.heap.size ≤ W.heap.size → (∃ v, Boxed W bn 3 v) → (∃ v, Boxed W bx 101 v) →
      body.wpIn (F.inRound l) (n - 1 - 1) Tryz.prog (fun e _ W' => e = .normal ∧ I (j + 1) W' ∧ KeepsOthers W W' ∧ (∀ v, Boxed W bn 3 v → Boxed W' bn 3 v) ∧ (∀ v, Boxed W bx 101 v → Boxed W' bx 101 v)) (a₁ (x / 256 ^ j % 256)) W)
    (hdone : ∀ (D : Nat) (W : World), w.heap.size ≤ D → I m W → (∃ v, Boxed W bn 3 v) → (∃ v, Boxed W bx 101 v) → W.heap[D]? = some (.deferred (some [])) → Q .normal { a with defers := { target := .collected D, args := #[] } :: a.defers } W) :
    (Code.rangeFunc g #[p] assign body).wpIn F n Tryz.prog Q a w := by
  refine wpIn_rangeFunc ?_
  intro fn hfn
  rw [hro]
  obtain ⟨rec, hrec⟩ : ∃ rec : LoopState → Option Code → Loop, rec = fun st pe => { state := st, pending := pe, fn, tmps := a.tmps, params := #[p], assign, body, defers := w.heap.size } := ⟨_, rfl⟩
  obtain ⟨l, hl⟩ : ∃ l, l = w.heap.size + 1 := ⟨_, rfl⟩
  obtain ⟨W1, hW1⟩ : ∃ W1, (w.alloc (.deferred (some []))).alloc (.loop (rec .ready none)) = W1 := ⟨_, rfl⟩
  have hL1 : W1.heap[l]? = some (.loop (rec .ready none)) := by
    rw [← hW1, hl]; have := World.alloc_heap_new (w.alloc (.deferred (some []))) (.loop (rec .ready none)); rwa [World.size_alloc] at this
  have hK1 : W1.heap[w.heap.size]? = some (.deferred (some [])) := by
    rw [← hW1]; exact (Below.heap_alloc _ _ _ (by simp)).trans (World.alloc_heap_new w _)
  have hbnl := hbn.lt
  have hbxl := hbx.lt
  have hold : ∀ k, k < w.heap.size → W1.heap[k]? = w.heap[k]? := fun k hk => by
    rw [← hW1]; exact (Below.heap_alloc _ _ k (by simp; omega)).trans (Below.heap_alloc _ _ k hk)
  have hs1 : w.heap.size ≤ W1.heap.size := by rw [← hW1]; simp; omega
  have hbn1 : Boxed W1 bn 3 (.int .i64 (m : Int)) := (hold bn hbnl).trans hbn
  have hbx1 : Boxed W1 bx 101 (.int .u64 (x : Int)) := (hold bx hbxl).trans hbx
  have hI1 : I 0 W1 := by rw [← hW1]; exact hI 0 _ _ (hI 0 _ _ h0 ⟨_, hbn⟩ ⟨_, hbx⟩ KeepsBut.news) ⟨_, hbn.alloc _⟩ ⟨_, hbx.alloc _⟩ KeepsBut.news
  have hne1 : bn ≠ l := by omega
  have hne2 : bx ≠ l := by omega
  have hne3 : w.heap.size ≠ l := by omega
  refine ⟨l, [{ target := .collected w.heap.size, args := #[] }], W1, { target := .fn (.func 117) #[.pointer (some ⟨bn, 0, none⟩), .pointer (some ⟨bx, 0, none⟩)], args := #[.func (.yield l) #[] #[]] }, W1, 117,
    #[.func (.yield l) #[] #[]] ++ #[.pointer (some ⟨bn, 0, none⟩), .pointer (some ⟨bx, 0, none⟩)], W1, ?_, ?_, ?_, ?_, fun _ => by omega, ?_⟩
  · rw [← hW1, hrec, hl]; exact run_enterLoop_outer _ _ _ _ _
  · simp only [resolve, hg]
    simp [go_sem]
  · intro f' hf'; simp [Target.leads] at hf'; subst hf'; exact h213
  · simp [invoke, go_sem, e213]
  · refine (digits_in F (n - 1) h213 hro (by omega) l bn bx m hm hnx
      (fun j W => I j W ∧ W.heap[l]? = some (.loop (rec .ready none)) ∧ W.heap[w.heap.size]? = some (.deferred (some [])) ∧ (∃ v, Boxed W bn 3 v) ∧ (∃ v, Boxed W bx 101 v) ∧ w.heap.size ≤ W.heap.size) x
      ?_ ?_ ?_ W1 hx hbn1 hbx1 ⟨hI1, hL1, hK1, ⟨_, hbn1⟩, ⟨_, hbx1⟩, hs1⟩).mono ?_
    · rintro j W ⟨hi, hL, hK, hBn, hBx, hsz⟩ hj
      have hbj := fun W h1 h2 h3 h4 => hbody l j W h1 hj h2 h3 h4
      generalize x / 256 ^ j % 256 = c at hbj ⊢
      have hlt : l < W.heap.size := (Array.getElem?_eq_some_iff.1 hL).1
      have hy := run_yield (P := Tryz.prog) (args := #[.int .u8 (c : Int)]) hL (by rw [hrec]; rfl)
      rw [hrec] at hy
      have hKB : KeepsBut w.heap.size bn bx W (W.putObj l (.loop { rec .ready none with state := .busy })) := KeepsBut.put hL rfl (by omega)
      have hL2 : (W.putObj l (.loop { rec .ready none with state := .busy })).heap[l]? = some (.loop { rec .ready none with state := .busy }) := World.putObj_heap_same hlt
      have hK2 : (W.putObj l (.loop { rec .ready none with state := .busy })).heap[w.heap.size]? = some (.deferred (some [])) := (World.putObj_heap_other hne3).trans hK
      have hB2 : ∀ v, Boxed W bn 3 v → Boxed (W.putObj l (.loop { rec .ready none with state := .busy })) bn 3 v := fun v h => (World.putObj_heap_other hne1).trans h
      have hB3 : ∀ v, Boxed W bx 101 v → Boxed (W.putObj l (.loop { rec .ready none with state := .busy })) bx 101 v := fun v h => (World.putObj_heap_other hne2).trans h
      refine ⟨fn, _, assign, body, hy, roundIn_of_wpIn hfn ?_⟩
      refine Eq.mp (congrArg (fun t => Code.wpIn (F.inRound l) (n - 1 - 1) Tryz.prog assign _ { tmps := t, defers := [] } W) ?_) (hassign l c W _ ⟨_, run_beginRound hL (by rw [hrec]), Code.wpIn_mono ?_ (hbj _ (hI j _ _ hi hBn hBx hKB) (Nat.le_trans hsz hKB.size) (hBn.imp hB2) (hBx.imp hB3))⟩)
      · simp
      rintro e a' W' ⟨rfl, hi', hk', hb1, hb2⟩
      have hL3 := hk'.same _ _ hL2 rfl
      have hK3 := hk'.same _ _ hK2 rfl
      have hlt3 : l < W'.heap.size := (Array.getElem?_eq_some_iff.1 hL3).1
      have hBn3 : ∀ v, Boxed W bn 3 v → Boxed W' bn 3 v := fun v h => hb1 v (hB2 v h)
      have hBx3 : ∀ v, Boxed W bx 101 v → Boxed W' bx 101 v := fun v h => hb2 v (hB3 v h)
      refine ⟨_, _, run_endRound none hL3, rfl, ⟨?_, ?_, ?_, ?_, ?_, ?_⟩, ?_, ?_⟩
      · exact hI _ _ _ hi' (hBn.imp hBn3) (hBx.imp hBx3) (KeepsBut.put hL3 rfl (by omega))
      · rw [World.putObj_heap_same hlt3, hrec]; rfl
      · exact (World.putObj_heap_other hne3).trans hK3
      · obtain ⟨v, h⟩ := hBn; exact ⟨v, (World.putObj_heap_other hne1).trans (hBn3 v h)⟩
      · obtain ⟨v, h⟩ := hBx; exact ⟨v, (World.putObj_heap_other hne2).trans (hBx3 v h)⟩
      · have := hk'.size; have := hKB.size; simp [World.putObj] at *; omega
      · intro v h; exact (World.putObj_heap_other hne1).trans (hBn3 v h)
      · intro v h; exact (World.putObj_heap_other hne2).trans (hBx3 v h)
    · rintro j W v ⟨hi, hL, hK, ⟨v1, hBn⟩, ⟨v2, hBx⟩, hsz⟩
      have ho := fun k (hk : k ≠ bn) => heap_setCell_other W (⟨bn, 0, none⟩ : Addr) k v hk
      exact ⟨hI _ _ _ hi ⟨_, hBn⟩ ⟨_, hBx⟩ (KeepsBut.setN (.inl rfl)), (ho l (Ne.symm hne1)).trans hL, (ho _ (by omega)).trans hK, ⟨_, hBn.set v⟩, ⟨_, (ho bx (Ne.symm hnx)).trans hBx⟩, by simpa [World.setCell] using hsz⟩
    · rintro j W v ⟨hi, hL, hK, ⟨v1, hBn⟩, ⟨v2, hBx⟩, hsz⟩
      have ho := fun k (hk : k ≠ bx) => heap_setCell_other W (⟨bx, 0, none⟩ : Addr) k v hk
      exact ⟨hI _ _ _ hi ⟨_, hBn⟩ ⟨_, hBx⟩ (KeepsBut.setN (.inr rfl)), (ho l (Ne.symm hne2)).trans hL, (ho _ (by omega)).trans hK, ⟨_, (ho bn hnx).trans hBn⟩, ⟨_, hBx.set v⟩, by simpa [World.setCell] using hsz⟩
    · rintro e W2 ⟨⟨v0, rfl⟩, hi, hL, hK, ⟨v1, hBn⟩, ⟨v2, hBx⟩, hsz⟩
      have hend := run_endLoop (P := Tryz.prog) hL (by rw [hrec]; simp)
      refine ⟨_, _, hend, ?_⟩
      have hpe : (rec .ready none).pending = none := by rw [hrec]
      rw [hpe]
      exact hdone w.heap.size _ (Nat.le_refl _) (hI _ _ _ hi ⟨_, hBn⟩ ⟨_, hBx⟩ (KeepsBut.put hL rfl (by omega))) ⟨v1, (World.putObj_heap_other hne1).trans hBn⟩ ⟨v2, (World.putObj_heap_other hne2).trans hBx⟩ ((World.putObj_heap_other hne3).trans hK)
end Go.Tb
namespace Go.Tb
open Go Go.RowKit Go.Proofs Go.Maps Go.Sp
attribute [local go_sem] Oper.semAt_some
theorem says_ok {m : Nat} (hm : m = 2 ∨ m = 4) (w : World) : Calls Tryz.prog 92 #[.int .i64 (m : Int)] w fun e w' => e = .returned (.bool true) ∧ w' = w := by
  rcases hm with rfl | rfl
  all_goals
    go_enter Tryz.func92, Tryz.ntmps92
    go_wp2
    go_ret
    exact ⟨rfl, rfl⟩
theorem digits_ok (x m : Int) (w : World) : Calls Tryz.prog 93 #[.int .u64 x, .int .i64 m] w fun e w' => e = .returned (.func (.func 117) #[] #[.pointer (some ⟨w.heap.size + 1, 0, none⟩), .pointer (some ⟨w.heap.size, 0, none⟩)]) ∧ w' = (w.alloc (.cells #[.int .u64 x] 101)).alloc (.cells #[.int .i64 m] 3) := by
  go_enter Tryz.func93, Tryz.ntmps93
  go_wp2
  go_ret
  exact ⟨by simp, rfl⟩
theorem Below.up {A W w' : World} (h : Below A.heap.size A W) (hb : Below W.heap.size W w') : Below A.heap.size A w' := h.trans (hb.mono h.size)
def leUp (x : Nat) : Nat → Bs
  | 0 => []
  | j + 1 => leUp x j ++ [x / 256 ^ j % 256]
theorem le_succ : ∀ (n x : Nat), le x (n + 1) = le x n ++ [x / 256 ^ n % 256]
  | 0, x => by simp [le]
  | n + 1, x => by
    show x % 256 :: le (x / 256) (n + 1) = x % 256 :: le (x / 256) n ++ _
    rw [le_succ n (x / 256), Nat.div_div_eq_div_mul, Nat.pow_succ, Nat.mul_comm 256 (256 ^ n)]
    rfl
theorem leUp_eq (x : Nat) : ∀ j, leUp x j = le x j
  | 0 => rfl
  | j + 1 => by rw [le_succ, leUp, leUp_eq x j]
theorem le_byte : ∀ (n x y : Nat), y ∈ le x n → y < 256
  | 0, _, _, h => by simp [le] at h
  | n + 1, x, y, h => by
    simp only [le, List.mem_cons] at h
    rcases h with rfl | h
    · omega
    · exact le_byte n _ _ h
theorem le_len : ∀ (n x : Nat), (le x n).length = n
  | 0, _ => rfl
  | n + 1, x => by simp [le, le_len n]
theorem leUp_len (x j : Nat) : (leUp x j).length = j := by rw [leUp_eq, le_len]
structure PutJ (w : World) (B : Nat) (bs : Bs) (x j : Nat) (W : World) : Prop where
  box : ∃ v, Boxed W B 33 v ∧ W.ownsRow w.heap.size 5 1 v (bs.length + j) (u8s (bs ++ leUp x j))
  below : Below w.heap.size w W
  Bl : w.heap.size ≤ B
theorem own_keepB {w w' : World} {base n B bn bx : Nat} {v v1 v2 : Value} {xs : List Value} (h : w.ownsRow base 5 1 v n xs) (h1 : Boxed w bn 3 v1) (h2 : Boxed w bx 101 v2) (hk : KeepsBut B bn bx w w') : w'.ownsRow base 5 1 v n xs := by
  obtain ⟨hl, ho⟩ := h
  refine ⟨hl, ho.imp id fun ⟨g, cap, cur, e, hg, hh, r⟩ => ⟨g, cap, cur, e, hg, hk.same g _ hh (.inr rfl) (fun e => ?_) (fun e => ?_), r⟩⟩
  · subst e; rw [show w.heap[g]? = _ from h1] at hh; simp at hh
  · subst e; rw [show w.heap[g]? = _ from h2] at hh; simp at hh
theorem PutJ.keep {w W W' : World} {bb x j B bn bx : Nat} {bs : Bs} {v1 v2 : Value} (h : PutJ w bb bs x j W) (h1 : Boxed W bn 3 v1) (h2 : Boxed W bx 101 v2) (hw : w.heap.size ≤ B) (hn : w.heap.size ≤ bn) (hx : w.heap.size ≤ bx) (hk : KeepsBut B bn bx W W') : PutJ w bb bs x j W' := by
  obtain ⟨⟨v, hv, hr⟩, hb, hB⟩ := h
  refine ⟨⟨v, hk.same bb _ hv (.inr rfl) (fun e => ?_) (fun e => ?_), own_keepB hr h1 h2 hk⟩, ⟨hk.os.trans hb.os, hk.tape.trans hb.tape, hk.output.trans hb.output, Nat.le_trans hb.size hk.size, fun k hk' => ?_⟩, hB⟩
  · subst e; have e := Option.some.inj ((show W.heap[bb]? = _ from h1).symm.trans hv); simp at e
  · subst e; have e := Option.some.inj ((show W.heap[bb]? = _ from h2).symm.trans hv); simp at e
  · have hlt : k < W.heap.size := Nat.lt_of_lt_of_le hk' hb.size
    rw [← hb.block k hk']
    exact (hk.same k _ (Array.getElem?_eq_getElem hlt) (.inl (by omega)) (by omega) (by omega)).trans (Array.getElem?_eq_getElem hlt).symm
theorem put_o {w : World} {v : Value} {bs : Bs} {x m : Nat} (hv : RV w v bs) (hn : bs.length ≤ 1048000) (hm : m = 2 ∨ m = 4) (hx : x < 2 ^ 64) :
    Calls Tryz.prog 56 #[v, .int .u64 (x : Int), .int .i64 (m : Int)] w fun e w' => (∃ v', e = .returned v' ∧ w'.ownsRow w.heap.size 5 1 v' (bs ++ le x m).length (u8s (bs ++ le x m))) ∧ Below w.heap.size w w' := by
  have C := Lib.hid (clone_o hv (by omega))
  have HM := Lib.hid hm
  have HX := Lib.hid hx
  have HN := Lib.hid hn
  obtain ⟨n, hnn⟩ : ∃ n, n = bs.length := ⟨_, rfl⟩
  rw [← hnn] at C HN
  have HNN := Lib.hid hnn
  clear hv hm hx hn hnn
  refine (callsIn_wide (n := 5)).1 ?_
  refine callsIn_of_wp_marks Tryz.func56 rfl trivial ?_ rfl
  simp only [Tryz.ntmps56, List.size_toArray, List.length_cons, List.length_nil, Nat.reduceAdd, Nat.reduceSub, Array.replicate_succ, Array.replicate_zero, List.push_toArray, List.append_toArray, List.nil_append, List.cons_append]
  gi_wp2_with fail
  refine ⟨trivial, (callsIn_wide.2 C.out).mono ?_⟩
  rintro e w1 ⟨⟨v1, rfl, hR1⟩, hb1⟩
  have HR1 := Lib.hid hR1
  have HB1 := Lib.hid hb1
  obtain ⟨a1, c1, rfl⟩ := ownsRow_shape hR1
  clear hR1 hb1
  gi_wp2_with fail
  refine ⟨trivial, (callsIn_wide.2 (says_ok HM.out _)).mono ?_⟩
  rintro e w2 ⟨rfl, rfl⟩
  gi_wp2_with fail
  refine ⟨trivial, (callsIn_wide.2 (digits_ok _ _ _)).mono ?_⟩
  rintro e w3 ⟨rfl, rfl⟩
  gi_wp2_with fail
  obtain ⟨i, hi, i1, i2, i3⟩ := i5'
  have hs1 := HB1.out.size
  obtain ⟨W0, hW0⟩ : ∃ W0, ((w1.alloc (.cells #[.slice a1 n c1] 33)).alloc (.cells #[.int .u64 (x : Int)] 101)).alloc (.cells #[.int .i64 (m : Int)] 3) = W0 := ⟨_, rfl⟩
  have hsz : W0.heap.size = w1.heap.size + 3 := by rw [← hW0]; simp
  have hbn : Boxed W0 (w1.heap.size + 1 + 1) 3 (.int .i64 (m : Int)) := by
    rw [← hW0]; have := Boxed.new ((w1.alloc (.cells #[.slice a1 n c1] 33)).alloc (.cells #[.int .u64 (x : Int)] 101)) 3 (.int .i64 (m : Int)); simpa using this
  have hbx : Boxed W0 (w1.heap.size + 1) 101 (.int .u64 (x : Int)) := by
    rw [← hW0]; have := (Boxed.new (w1.alloc (.cells #[.slice a1 n c1] 33)) 101 (.int .u64 (x : Int))).alloc (.cells #[.int .i64 (m : Int)] 3); simpa using this
  have hbs : Boxed W0 w1.heap.size 33 (.slice a1 n c1) := by
    rw [← hW0]; exact ((Boxed.new w1 33 (.slice a1 n c1)).alloc _).alloc _
  have hbel : Below w1.heap.size w1 W0 := by
    rw [← hW0]; exact (((Below.refl _ w1).alloc (Nat.le_refl _) _).alloc (by simp) _).alloc (by simp; omega) _
  have h0 : PutJ w w1.heap.size bs x 0 W0 := ⟨⟨_, hbs, by rw [← HNN.out, Nat.add_zero, leUp, List.append_nil]; exact ownsRow_same HR1.out fun r hr => hbel.block r (HR1.out.lt r hr).2⟩, Below.up HB1.out hbel, hs1⟩
  rw [hW0]
  clear hW0 hbel hbs
  have HI := Lib.hid hi
  have HBN := Lib.hid hbn
  have HBX := Lib.hid hbx
  have HSZ := Lib.hid hsz
  have HS1 := Lib.hid hs1
  have H0 := Lib.hid h0
  clear hi hbn hbx hsz hs1 h0 C HR1
  refine range_digits (bn := w1.heap.size + 1 + 1) (bx := w1.heap.size + 1) (m := m) (x := x) rfl (by decide) trivial (enters_of' Tryz.func117 (by kernel_rfl) (by kernel_rfl)) (by have := HM.out; omega) (by omega) HX.out rfl HBN.out HBX.out
    (PutJ w w1.heap.size bs x) (fun c => { tmps := #[v, .int .u64 (x : Int), .int .i64 (m : Int), undef, undef, undef, .slice none 0 0, .pointer (some ⟨w1.heap.size, 0, none⟩), .int .u8 (c : Int), v, .slice a1 n c1, .int .i64 (m : Int), .bool true, .int .u64 (x : Int), .int .i64 (m : Int), .func (.func 117) #[] #[.pointer (some ⟨w1.heap.size + 1 + 1, 0, none⟩), .pointer (some ⟨w1.heap.size + 1, 0, none⟩)], .int .u8 (c : Int), undef, undef, undef, undef, undef], defers := [] })
    ?_ H0.out ?_ ?_ ?_
  · rintro j W W' hJ ⟨v1, h1⟩ ⟨v2, h2⟩ hk
    have := HS1.out
    exact hJ.keep h1 h2 (by have := HSZ.out; omega) (by omega) (by omega) hk
  · intro l c W K hK
    gi_wp2_with (rw [Oper.semAt_eq _ _ _ (fun c h => by cases h)]; go_simp; try go_bits)
    exact hK
  · rintro l j W hJ hj hsz ⟨v1, h1⟩ ⟨v2, h2⟩
    obtain ⟨⟨v3, hv, ho⟩, hb, hB⟩ := hJ
    have hnm : bs.length + j + 1 ≤ 1048100 := by have := HN.out; have := HM.out; have := HNN.out; omega
    have hup : leUp x (j + 1) = leUp x j ++ [x / 256 ^ j % 256] := rfl
    have HUP := Lib.hid hup
    generalize x / 256 ^ j % 256 = c at HUP ⊢
    have hWs : w.heap.size ≤ W.heap.size := hb.size
    have k1 := fun (u : Value) (h : Boxed W (w1.heap.size + 1 + 1) 3 u) => h.cell
    have hvc := hv.cell
    have hvf := hv.frozen
    have hvl := hv.lt
    have HV := Lib.hid hv
    have HO := Lib.hid ho
    have HB := Lib.hid hb
    have HWS := Lib.hid hWs
    have HNM := Lib.hid hnm
    have HHB := Lib.hid hB
    clear hv ho hb hWs hnm hB k1 hup
    gi_wp2_with (first
      | (gi_at_builtin; refine wpListIn_append_own _ rfl _ _ 33 rfl w.heap.size 5 i (.int .u8 0) 1 1 Tryz.underlying33 HI.out i3 i1 i2 rfl (by decide) _ _ _ rfl (HO.out.alloc _) ⟨W.heap.size, 0, none⟩ 1 1 [.int .u8 (c : Int)] rfl rfl (cell_one_new _ _ _) (by simp [Value.oneCell']) (Nat.le_trans HNM.out (by decide)) (by have := HNM.out; omega) (by have := HWS.out; simp; omega) ?_; intro v' w3 hown' hg3 hnil3
         have hA := Boxed.appended HV.out (by decide) HO.out HWS.out HHB.out hown' hg3
         obtain ⟨q1, q2, q3, q4, q5⟩ := hA
         have hbk : ∀ (B : Nat) (t : TypeId) (u : Value), t ≠ 5 → B ≠ w1.heap.size → Boxed W B t u → Boxed (w3.setCell ⟨w1.heap.size, 0, none⟩ v') B t u := fun B t u ht hBn h => (heap_setCell_other w3 (⟨w1.heap.size, 0, none⟩ : Addr) B v' hBn).trans ((h.alloc _).kept hg3 (h.not_row ht HO.out))
         have HBK := Lib.hid hbk
         have Q2 := Lib.hid q2
         have Q3 := Lib.hid q3
         have Q4 := Lib.hid q4
         have Q5 := Lib.hid q5
         obtain ⟨a', c', rfl⟩ := own_slice hown'
         clear hbk q2 q3 q4 q5 hown' hnil3 hg3
         have hc3 := q1.cell
         have hf3 := q1.frozen
         have hl3 := q1.lt)
      | (rw [Oper.semAt_eq _ _ _ (fun c h => by cases h)]; go_simp; try go_bits))
    refine ⟨⟨⟨_, Q2.out, ?_⟩, Below.trans HB.out Q5.out, HHB.out⟩, Q4.out, fun u h => HBK.out _ _ _ (by decide) (by omega) h, fun u h => HBK.out _ _ _ (by decide) (by omega) h⟩
    have := Q3.out
    rw [HUP.out, ← List.append_assoc]
    simpa [u8s, Nat.add_assoc] using this
  · intro D W hD hJ hb1 hb2 hK
    obtain ⟨⟨v3, hv, hr⟩, hb, hB⟩ := hJ
    have hvc := hv.cell
    have hvf := hv.frozen
    have hvl := hv.lt
    obtain ⟨a3, c3, rfl⟩ := ownsRow_shape hr
    have hb' := hb
    gi_wp2_with fail
    refine ⟨by simp, .inl ⟨_, _, rfl, run_takeDeferred hK, ?_⟩⟩
    have hs1 := HS1.out
    have hsz := HSZ.out
    have hlen : (bs ++ le x m).length = bs.length + m := by rw [List.length_append, le_len]
    rw [leUp_eq] at hr
    refine ⟨_, results_tmp rfl _ _ _, ⟨_, rfl, ?_⟩, hb'.grown (grownBy_putObj' W D _) hb'.size (fun k e => by cases e; omega)⟩
    rw [hlen]
    refine ownsRow_same hr fun r hr2 => World.putObj_heap_other (fun e => ?_)
    subst e
    rcases hr.2 with ⟨e, _⟩ | ⟨g, cap, cur, e, hg, hh, _⟩
    · rw [e] at hr2; cases hr2
    · rw [e] at hr2; injection hr2 with hr2; subst hr2; rw [hK] at hh; cases hh
theorem put_x {w : World} {v : Value} {bs : Bs} {x m : Nat} (hv : RV w v bs) (hn : bs.length ≤ 1048000) (hm : m = 2 ∨ m = 4) (hx : x < 2 ^ 64) :
    Calls Tryz.prog 56 #[v, .int .u64 (x : Int), .int .i64 (m : Int)] w fun e w' => (∃ v', e = .returned v' ∧ RN w.heap.size w' v' (bs ++ le x m)) ∧ Below w.heap.size w w' :=
  (put_o hv hn hm hx).mono fun e w' ⟨⟨v', h1, h2⟩, h3⟩ => ⟨⟨v', h1, RN.of h2 fun y hy => (List.mem_append.1 hy).elim (hv.byte y) (le_byte m x y)⟩, h3⟩
end Go.Tb
namespace Go.Tb
open Go Go.RowKit Go.Proofs Go.Maps Go.Sp
theorem cut_x {w : World} {v : Value} {bs : Bs} (h : RV w v bs) {at' n : Nat} (ha : at' < bs.length) (hn : at' + n ≤ bs.length) (hL : bs.length ≤ 1048576) :
    Calls Tryz.prog 87 #[v, .int .i64 (at' : Int), .int .i64 (n : Int)] w fun e w' => (∃ v', e = .returned (.tuple #[v', .bool true]) ∧ RN w.heap.size w' v' ((bs.drop at').take n)) ∧ Below w.heap.size w w' := by
  obtain ⟨a, c, rfl, hx, h⟩ := h
  obtain ⟨g, o, rfl, hg, hc⟩ := h (by omega)
  have hcap := hx.2
  obtain ⟨len, hlen⟩ : ∃ len, len = bs.length := ⟨_, rfl⟩
  have hR : RV w (.slice (some ⟨g, o + at', none⟩) n (c - at')) ((bs.drop at').take n) := by
    have hl : ((bs.drop at').take n).length = n := by simp; omega
    refine ⟨_, _, by rw [hl], ⟨fun x hm => hx.1 x (List.mem_of_mem_drop (List.mem_of_mem_take hm)), by rw [hl]; omega⟩, fun _ => ⟨g, o + at', rfl, hg, fun j x hj => ?_⟩⟩
    have hj2 : j < n := by have := (List.getElem?_eq_some_iff.1 hj).1; omega
    rw [List.getElem?_take_of_lt hj2, List.getElem?_drop] at hj
    have := hc (at' + j) x hj
    rwa [← Nat.add_assoc] at this
  have CL := clone_x hR (by simp; omega)
  rw [← hlen] at ha hn hcap hL ⊢
  have i0 : ¬ (at' : Int) < 0 := by omega
  have i1 : ¬ (len : Int) < (at' : Int) := by omega
  have i1' : decide ((len : Int) < (at' : Int)) = false := by simp; omega
  have i1n : decide (len < at') = false := by simp; omega
  have i2 : (0 : Int) ≤ (at' : Int) := by omega
  have i3 : (at' : Int) ≤ (len : Int) := by omega
  have i4 : (0 : Int) ≤ (n : Int) := by omega
  have i5 : n ≤ len - at' := by omega
  have i6 : len ≤ c := hcap
  have i7 : at' < c := by omega
  have i8 : n ≤ c - at' := by omega
  have CLH := Lib.hid CL
  clear hx h hc hlen CL hR
  go_enter Tryz.func87, Tryz.ntmps87
  go_wp2_with (go_at_call 29; refine CLH.out.mono ?_; rintro e w9 ⟨⟨v', rfl, hv⟩, hb9⟩; have HV := Lib.hid hv; have HB9 := Lib.hid hb9; clear hv hb9)
  go_ret2
  exact ⟨⟨_, rfl, HV.out⟩, HB9.out⟩
end Go.Tb
namespace Go.Tb
open Go Go.RowKit Go.Proofs Go.Maps Go.Sp
theorem tabN_lt (k : Nat) : tabN k < 4294967296 := Nat.mod_lt _ (by decide)
theorem nib_lt {x : Nat} (h : x < 4294967296) : nib x < 4294967296 := Nat.xor_lt_two_pow (n := 32) (show x / 16 < _ by omega) (tabN_lt _)
theorem crcStep_lt {r c : Nat} (h : r < 4294967296) (hc : c < 256) : crcStep r c < 4294967296 := nib_lt (nib_lt (Nat.xor_lt_two_pow (n := 32) h (by omega)))
theorem crcR_lt : ∀ (bs : Bs) (r : Nat), r < 4294967296 → (∀ x ∈ bs, x < 256) → crcR r bs < 4294967296
  | [], r, h, _ => h
  | x :: bs, r, h, hb => crcR_lt bs (crcStep r x) (crcStep_lt h (hb x List.mem_cons_self)) fun y hy => hb y (List.mem_cons_of_mem _ hy)
theorem crcR_take {bs : Bs} {k x : Nat} (h : bs[k]? = some x) (r : Nat) : crcR r (bs.take (k + 1)) = crcStep (crcR r (bs.take k)) x := by
  unfold crcR
  rw [List.take_add_one, h, List.foldl_append]
  rfl
theorem and15 {x : Nat} (h : x < 4294967296) : bits .and .u32 (x : Int) 15 = ((x % 16 : Nat) : Int) := by
  have := u32_and_nat x 15 h (by decide)
  rw [nat_mask4] at this
  exact this
theorem xorDiv {x y : Nat} (h : x < 4294967296) (hy : y < 4294967296) : bits .xor .u32 ((x : Int) / 16) (y : Int) = ((Nat.xor (x / 16) y : Nat) : Int) := u32_xor_nat (x / 16) y (by omega) hy
def stepF (x : Nat) : Nat := if x % 2 = 1 then Nat.xor (x / 2) 3988292384 else x / 2
def stepN (x : Nat) : Nat → Nat
  | 0 => x
  | n + 1 => stepF (stepN x n)
theorem stepN_lt {x : Nat} (h : x < 4294967296) : ∀ n, stepN x n < 4294967296
  | 0 => h
  | n + 1 => by
    have := stepN_lt h n
    show stepF _ < _
    unfold stepF
    split
    · exact Nat.xor_lt_two_pow (n := 32) (by omega) (by decide)
    · omega
theorem tab_step : ∀ k, k < 16 → stepN k 4 = tabN k := by decide
def fours0 : Array Value := #[.int .u32 0, .int .u32 498536548, .int .u32 997073096, .int .u32 651767980, .int .u32 1994146192, .int .u32 1802195444, .int .u32 1303535960, .int .u32 1342533948, .int .u32 3988292384, .int .u32 4027552580, .int .u32 3604390888, .int .u32 3412177804, .int .u32 2607071920, .int .u32 2262029012, .int .u32 2685067896, .int .u32 3183342108]
def z16 : Array Value := #[.int .u32 0, .int .u32 0, .int .u32 0, .int .u32 0, .int .u32 0, .int .u32 0, .int .u32 0, .int .u32 0, .int .u32 0, .int .u32 0, .int .u32 0, .int .u32 0, .int .u32 0, .int .u32 0, .int .u32 0, .int .u32 0]
theorem and1 {x : Nat} (h : x < 4294967296) : bits .and .u32 (x : Int) 1 = ((x % 2 : Nat) : Int) := by
  have := u32_and_nat x 1 h (by decide)
  rw [Nat.and_one_is_mod] at this
  exact this
def P16 (db : Nat) (W : World) : Prop := ∀ j, j < 16 → W.cell? ⟨db, j, none⟩ = some (fours0.getD j undef)
theorem P16.set {db : Nat} {W : World} (h : P16 db W) {i : Nat} {v : Value} (hi : i < 16) (hv : fours0.getD i undef = v) : P16 db (W.setCell ⟨db, i, none⟩ v) := fun j hj => by
  by_cases e : j = i
  · subst e; rw [World.cell?_setCell_same _ _ _ (h j hj), hv]
  · rw [World.cell?_setCell_other _ _ _ _ (by intro h; injection h with _ h; exact e h.symm)]; exact h j hj
theorem fours_ok (w : World) : Calls Tryz.prog 122 #[] w fun e w' => e = .returned (.agg fours0) ∧ Below w.heap.size w w' := by
  have hb : Below w.heap.size w (w.alloc (.cells z16 186)) := Below.alloc (Below.refl _ _) (Nat.le_refl _) _
  have hnb : (w.alloc (.cells z16 186)).heap[w.heap.size]? = some (.cells z16 186 (0, 0)) := (Go.MapKept.heap_alloc w _).1
  have HB := Lib.hid hb
  have HNB := Lib.hid hnb
  clear hb hnb
  go_enter Tryz.func122, Tryz.ntmps122
  go_upto_region 2 with fail
  generalize hdb : w.heap.size = db at *
  go_loopw [3] (fun v wr => ∃ k : Nat, v = .int .i64 k ∧ k ≤ 16 ∧ Hid ((∀ j, j < 16 → wr.cell? ⟨db, j, none⟩ = some (.int .u32 ((if j < k then tabN j else 0 : Nat) : Int)) ∧ wr.frozen? ⟨db, j, none⟩ = false) ∧ Below db w wr)) (fun v _ => 16 - (Go.RowKit.intOf v).toNat)
  case atStart =>
    subst hdb
    refine ⟨0, rfl, Nat.zero_le _, Lib.hid ⟨fun j hj => ?_, HB.out⟩⟩
    have hk' : j = 0 ∨ j = 1 ∨ j = 2 ∨ j = 3 ∨ j = 4 ∨ j = 5 ∨ j = 6 ∨ j = 7 ∨ j = 8 ∨ j = 9 ∨ j = 10 ∨ j = 11 ∨ j = 12 ∨ j = 13 ∨ j = 14 ∨ j = 15 := by omega
    have e1 : w.alloc (.cells z16 186) = w.alloc (.cells #[.int .u32 0, .int .u32 0, .int .u32 0, .int .u32 0, .int .u32 0, .int .u32 0, .int .u32 0, .int .u32 0, .int .u32 0, .int .u32 0, .int .u32 0, .int .u32 0, .int .u32 0, .int .u32 0, .int .u32 0, .int .u32 0] 186) := rfl
    rw [← e1]
    unfold World.cell? World.frozen?
    simp only [HNB.out]
    rcases hk' with rfl | rfl | rfl | rfl | rfl | rfl | rfl | rfl | rfl | rfl | rfl | rfl | rfl | rfl | rfl | rfl <;> exact ⟨rfl, rfl⟩
  case round =>
    obtain ⟨k, rfl, hk, hI⟩ := hrel
    by_cases e : k < 16
    · have i1 : (k : Int) < 16 := by omega
      have i2 : (0 : Int) ≤ (k : Int) := by omega
      have hw : IntKind.u32.wrap (k : Int) = (k : Int) := by simp [IntKind.wrap, IntKind.signed, IntKind.bits]; omega
      obtain ⟨c0, z0⟩ := hI.out.1 k e
      have hl := cell_lt' c0
      go_wp2_with fail
      go_loop [2, 8] (fun x i => ∃ j : Nat, i = .int .i64 j ∧ j ≤ 4 ∧ x = .int .u32 (stepN k j : Nat)) (fun _ i => 4 - (Go.RowKit.intOf i).toNat)
      case atStart => exact ⟨0, rfl, Nat.zero_le _, rfl⟩
      case round =>
        obtain ⟨j, rfl, hj, rfl⟩ := hrel
        by_cases ej : j < 4
        · have i3 : (j : Int) < 4 := by omega
          have hx : stepN k j < 4294967296 := stepN_lt (by omega) j
          have hst : stepN k (j + 1) = stepF (stepN k j) := rfl
          unfold stepF at hst
          generalize stepN k j = x at hx hst
          have e1 := and1 hx
          by_cases ex : x % 2 = 1
          · rw [if_pos ex] at hst
            rw [ex] at e1
            have e2 : bits .xor .u32 ((x : Int) / 2) 3988292384 = ((Nat.xor (x / 2) 3988292384 : Nat) : Int) := u32_xor_nat (x / 2) 3988292384 (by omega) (by decide)
            generalize Nat.xor (x / 2) 3988292384 = y at e2 hst
            go_hidden (go_wp2)
            go_round
            case rel => exact ⟨j + 1, by simp, by omega, by rw [hst]⟩
            case measure => simp [Go.RowKit.intOf]; omega
          · have ex0 : x % 2 = 0 := by omega
            rw [if_neg ex] at hst
            rw [ex0] at e1
            clear ex
            go_hidden (go_wp2)
            go_round
            case rel => exact ⟨j + 1, by simp, by omega, by rw [hst]; simp⟩
            case measure => simp [Go.RowKit.intOf]; omega
        · obtain rfl : j = 4 := by omega
          rw [tab_step k e]
          have hI2 : Hid ((∀ j, j < 16 → (wr.setCell ⟨db, k, none⟩ (.int .u32 (tabN k : Nat))).cell? ⟨db, j, none⟩ = some (.int .u32 ((if j < k + 1 then tabN j else 0 : Nat) : Int)) ∧ (wr.setCell ⟨db, k, none⟩ (.int .u32 (tabN k : Nat))).frozen? ⟨db, j, none⟩ = false) ∧ Below db w (wr.setCell ⟨db, k, none⟩ (.int .u32 (tabN k : Nat)))) := Lib.hid ⟨fun j hj => by
            refine ⟨?_, by rw [World.frozen?_setCell]; exact (hI.out.1 j hj).2⟩
            by_cases ejk : j = k
            · subst ejk
              rw [if_pos (by omega)]
              exact World.cell?_setCell_same _ _ _ c0
            · rw [World.cell?_setCell_other _ _ _ _ (by intro h; injection h with _ h; exact ejk h.symm), (hI.out.1 j hj).1]
              by_cases h : j < k
              · rw [if_pos h, if_pos (by omega)]
              · rw [if_neg h, if_neg (by omega)], hI.out.2.setCell (by show db ≤ db; exact Nat.le_refl _) _⟩
          generalize tabN k = tk at hI2 ⊢
          clear hI
          go_wp2
          go_roundw
          · exact ⟨k + 1, by simp, e, hI2⟩
          · simp [Go.RowKit.intOf]; omega
    · obtain rfl : k = 16 := by omega
      have hc := fun j (hj : j < 16) => hI.out.1 j hj
      have g0 : wr.cell? ⟨db, 0, none⟩ = some (.int .u32 0) := (hc 0 (by decide)).1.trans (by rw [if_pos (by decide), show tabN 0 = 0 by decide]; rfl)
      have g1 : wr.cell? ⟨db, 1, none⟩ = some (.int .u32 498536548) := (hc 1 (by decide)).1.trans (by rw [if_pos (by decide), show tabN 1 = 498536548 by decide]; rfl)
      have g2 : wr.cell? ⟨db, 2, none⟩ = some (.int .u32 997073096) := (hc 2 (by decide)).1.trans (by rw [if_pos (by decide), show tabN 2 = 997073096 by decide]; rfl)
      have g3 : wr.cell? ⟨db, 3, none⟩ = some (.int .u32 651767980) := (hc 3 (by decide)).1.trans (by rw [if_pos (by decide), show tabN 3 = 651767980 by decide]; rfl)
      have g4 : wr.cell? ⟨db, 4, none⟩ = some (.int .u32 1994146192) := (hc 4 (by decide)).1.trans (by rw [if_pos (by decide), show tabN 4 = 1994146192 by decide]; rfl)
      have g5 : wr.cell? ⟨db, 5, none⟩ = some (.int .u32 1802195444) := (hc 5 (by decide)).1.trans (by rw [if_pos (by decide), show tabN 5 = 1802195444 by decide]; rfl)
      have g6 : wr.cell? ⟨db, 6, none⟩ = some (.int .u32 1303535960) := (hc 6 (by decide)).1.trans (by rw [if_pos (by decide), show tabN 6 = 1303535960 by decide]; rfl)
      have g7 : wr.cell? ⟨db, 7, none⟩ = some (.int .u32 1342533948) := (hc 7 (by decide)).1.trans (by rw [if_pos (by decide), show tabN 7 = 1342533948 by decide]; rfl)
      have g8 : wr.cell? ⟨db, 8, none⟩ = some (.int .u32 3988292384) := (hc 8 (by decide)).1.trans (by rw [if_pos (by decide), show tabN 8 = 3988292384 by decide]; rfl)
      have g9 : wr.cell? ⟨db, 9, none⟩ = some (.int .u32 4027552580) := (hc 9 (by decide)).1.trans (by rw [if_pos (by decide), show tabN 9 = 4027552580 by decide]; rfl)
      have g10 : wr.cell? ⟨db, 10, none⟩ = some (.int .u32 3604390888) := (hc 10 (by decide)).1.trans (by rw [if_pos (by decide), show tabN 10 = 3604390888 by decide]; rfl)
      have g11 : wr.cell? ⟨db, 11, none⟩ = some (.int .u32 3412177804) := (hc 11 (by decide)).1.trans (by rw [if_pos (by decide), show tabN 11 = 3412177804 by decide]; rfl)
      have g12 : wr.cell? ⟨db, 12, none⟩ = some (.int .u32 2607071920) := (hc 12 (by decide)).1.trans (by rw [if_pos (by decide), show tabN 12 = 2607071920 by decide]; rfl)
      have g13 : wr.cell? ⟨db, 13, none⟩ = some (.int .u32 2262029012) := (hc 13 (by decide)).1.trans (by rw [if_pos (by decide), show tabN 13 = 2262029012 by decide]; rfl)
      have g14 : wr.cell? ⟨db, 14, none⟩ = some (.int .u32 2685067896) := (hc 14 (by decide)).1.trans (by rw [if_pos (by decide), show tabN 14 = 2685067896 by decide]; rfl)
      have g15 : wr.cell? ⟨db, 15, none⟩ = some (.int .u32 3183342108) := (hc 15 (by decide)).1.trans (by rw [if_pos (by decide), show tabN 15 = 3183342108 by decide]; rfl)
      have z0 := (hc 0 (by decide)).2
      have z1 := (hc 1 (by decide)).2
      have z2 := (hc 2 (by decide)).2
      have z3 := (hc 3 (by decide)).2
      have z4 := (hc 4 (by decide)).2
      have z5 := (hc 5 (by decide)).2
      have z6 := (hc 6 (by decide)).2
      have z7 := (hc 7 (by decide)).2
      have z8 := (hc 8 (by decide)).2
      have z9 := (hc 9 (by decide)).2
      have z10 := (hc 10 (by decide)).2
      have z11 := (hc 11 (by decide)).2
      have z12 := (hc 12 (by decide)).2
      have z13 := (hc 13 (by decide)).2
      have z14 := (hc 14 (by decide)).2
      have z15 := (hc 15 (by decide)).2
      have hl := cell_lt' g0
      have HB2 := Lib.hid hI.out.2
      have HP : Hid (P16 db wr) := Lib.hid fun j hj => by
        have hk' : j = 0 ∨ j = 1 ∨ j = 2 ∨ j = 3 ∨ j = 4 ∨ j = 5 ∨ j = 6 ∨ j = 7 ∨ j = 8 ∨ j = 9 ∨ j = 10 ∨ j = 11 ∨ j = 12 ∨ j = 13 ∨ j = 14 ∨ j = 15 := by omega
        rcases hk' with rfl | rfl | rfl | rfl | rfl | rfl | rfl | rfl | rfl | rfl | rfl | rfl | rfl | rfl | rfl | rfl <;> assumption
      clear hc hI
      go_wp2
      generalize hW : World.setCell _ _ _ = W'
      have hP : P16 db W' := by
        rw [← hW]
        iterate 16 refine P16.set ?_ (by decide) rfl
        exact HP.out
      have hBW : Below db w W' := by
        rw [← hW]
        iterate 16 refine Below.setCell ?_ (show db ≤ db from Nat.le_refl _) _
        exact HB2.out
      clear hW g0 g1 g2 g3 g4 g5 g6 g7 g8 g9 g10 g11 g12 g13 g14 g15 z0 z1 z2 z3 z4 z5 z6 z7 z8 z9 z10 z11 z12 z13 z14 z15
      have g0 : W'.cell? ⟨db, 0, none⟩ = some (.int .u32 0) := hP 0 (by decide)
      have g1 : W'.cell? ⟨db, 1, none⟩ = some (.int .u32 498536548) := hP 1 (by decide)
      have g2 : W'.cell? ⟨db, 2, none⟩ = some (.int .u32 997073096) := hP 2 (by decide)
      have g3 : W'.cell? ⟨db, 3, none⟩ = some (.int .u32 651767980) := hP 3 (by decide)
      have g4 : W'.cell? ⟨db, 4, none⟩ = some (.int .u32 1994146192) := hP 4 (by decide)
      have g5 : W'.cell? ⟨db, 5, none⟩ = some (.int .u32 1802195444) := hP 5 (by decide)
      have g6 : W'.cell? ⟨db, 6, none⟩ = some (.int .u32 1303535960) := hP 6 (by decide)
      have g7 : W'.cell? ⟨db, 7, none⟩ = some (.int .u32 1342533948) := hP 7 (by decide)
      have g8 : W'.cell? ⟨db, 8, none⟩ = some (.int .u32 3988292384) := hP 8 (by decide)
      have g9 : W'.cell? ⟨db, 9, none⟩ = some (.int .u32 4027552580) := hP 9 (by decide)
      have g10 : W'.cell? ⟨db, 10, none⟩ = some (.int .u32 3604390888) := hP 10 (by decide)
      have g11 : W'.cell? ⟨db, 11, none⟩ = some (.int .u32 3412177804) := hP 11 (by decide)
      have g12 : W'.cell? ⟨db, 12, none⟩ = some (.int .u32 2607071920) := hP 12 (by decide)
      have g13 : W'.cell? ⟨db, 13, none⟩ = some (.int .u32 2262029012) := hP 13 (by decide)
      have g14 : W'.cell? ⟨db, 14, none⟩ = some (.int .u32 2685067896) := hP 14 (by decide)
      have g15 : W'.cell? ⟨db, 15, none⟩ = some (.int .u32 3183342108) := hP 15 (by decide)
      clear hP
      refine bodyPost_ret (v := .agg fours0) ?_ rfl ⟨rfl, hdb ▸ hBW⟩
      simp [results, Tryz.results122, fours0, go_sem, g0, g1, g2, g3, g4, g5, g6, g7, g8, g9, g10, g11, g12, g13, g14, g15]
def crcUpto (bs : Nat → Nat) (s : Nat) : Nat → Nat
  | 0 => s
  | k + 1 => crcStep (crcUpto bs s k) (bs k)
theorem crcUpto_lt {bs : Nat → Nat} {s : Nat} (hs : s < 4294967296) : ∀ k, (∀ i, i < k → bs i < 256) → crcUpto bs s k < 4294967296
  | 0, _ => hs
  | k + 1, h => crcStep_lt (crcUpto_lt hs k fun i hi => h i (by omega)) (h k (by omega))
theorem crc_walk {w : World} {B o n c s : Nat} {bs : Nat → Nat} (hs : s < 4294967296) (hn : n ≤ 1048576) (hb : ∀ k, k < n → bs k < 256 ∧ w.cell? ⟨B, o + k, none⟩ = some (.int .u8 (bs k))) :
    Calls Tryz.prog 102 #[.int .u32 s, .slice (some ⟨B, o, none⟩) n c] w fun e w' => e = .returned (.int .u32 ((Nat.xor 4294967295 (crcUpto bs (Nat.xor 4294967295 s) n) : Nat) : Int)) ∧ Below w.heap.size w w' := by
  go_enter Tryz.func102, Tryz.ntmps102
  go_wp2_with fail
  go_call fours_ok w as e w1 ⟨he, hb1⟩
  unfold fours0 at he
  subst he
  go_wp2
  have hW : ∃ W, W = (w1.alloc (Obj.cells #[.int .u32 0, .int .u32 498536548, .int .u32 997073096, .int .u32 651767980, .int .u32 1994146192, .int .u32 1802195444, .int .u32 1303535960, .int .u32 1342533948, .int .u32 3988292384, .int .u32 4027552580, .int .u32 3604390888, .int .u32 3412177804, .int .u32 2607071920, .int .u32 2262029012, .int .u32 2685067896, .int .u32 3183342108] 186)) := ⟨_, rfl⟩
  obtain ⟨W, hW⟩ := hW
  rw [← hW]
  have hT : ∀ k, k < 16 → W.cell? ⟨w1.heap.size, k, none⟩ = some (.int .u32 (tabN k)) := by
    subst hW
    intro k hk
    rw [World.cell?_alloc_new]
    have hk' : k = 0 ∨ k = 1 ∨ k = 2 ∨ k = 3 ∨ k = 4 ∨ k = 5 ∨ k = 6 ∨ k = 7 ∨ k = 8 ∨ k = 9 ∨ k = 10 ∨ k = 11 ∨ k = 12 ∨ k = 13 ∨ k = 14 ∨ k = 15 := by omega
    rcases hk' with rfl | rfl | rfl | rfl | rfl | rfl | rfl | rfl | rfl | rfl | rfl | rfl | rfl | rfl | rfl | rfl <;> rfl
  have hbl : Below w.heap.size w W := by subst hW; exact hb1.alloc hb1.size _
  have hc : ∀ k, k < n → W.cell? ⟨B, o + k, none⟩ = some (.int .u8 (bs k)) := by
    intro k hk
    have h1 := (hb k hk).2
    rw [hbl.cell]
    · exact h1
    · show B < w.heap.size
      rcases Nat.lt_or_ge B w.heap.size with h | h
      · exact h
      · have : w.heap[B]? = none := Array.getElem?_eq_none h
        simp [World.cell?, this] at h1
  clear hW
  have hsx : bits .xor .u32 IntKind.u32.max (s : Int) = ((Nat.xor 4294967295 s : Nat) : Int) := u32_xor_nat 4294967295 s (by decide) hs
  rw [hsx]
  have hs1 : Nat.xor 4294967295 s < 4294967296 := Nat.xor_lt_two_pow (n := 32) (by decide) hs
  generalize hs1e : Nat.xor 4294967295 s = s1 at hs1
  go_loop [6, 14] (fun r i => ∃ k : Nat, k ≤ n ∧ i = .int .i64 k ∧ r = .int .u32 (crcUpto bs s1 k : Nat)) (fun _ i => n - (Go.RowKit.intOf i).toNat)
  case atStart => exact ⟨0, Nat.zero_le _, rfl, rfl⟩
  case round =>
    obtain ⟨k, hk, rfl, rfl⟩ := hrel
    have hx : crcUpto bs s1 k < 4294967296 := crcUpto_lt hs1 k fun i hi => (hb i (by omega)).1
    have hst : crcUpto bs s1 (k + 1) = crcStep (crcUpto bs s1 k) (bs k) := rfl
    generalize hxx : crcUpto bs s1 k = x at hx hst
    by_cases hkn : k < n
    · have hcell := hc k hkn
      have hbk := (hb k hkn).1
      have e1 : bits .xor .u32 (x : Int) (bs k : Int) = ((Nat.xor x (bs k) : Nat) : Int) := u32_xor_nat x (bs k) hx (by omega)
      have hx1 : Nat.xor x (bs k) < 4294967296 := Nat.xor_lt_two_pow (n := 32) hx (by omega)
      unfold crcStep at hst
      generalize Nat.xor x (bs k) = x1 at e1 hx1 hst
      have e2 := and15 hx1
      have t1 := hT (x1 % 16) (by omega)
      have e3 := xorDiv hx1 (tabN_lt (x1 % 16))
      have hx2 : nib x1 < 4294967296 := nib_lt hx1
      change bits .xor .u32 ((x1 : Int) / 16) _ = ((nib x1 : Nat) : Int) at e3
      generalize tabN (x1 % 16) = y1 at t1 e3
      generalize nib x1 = x2 at e3 hx2 hst
      have e4 := and15 hx2
      have t2 := hT (x2 % 16) (by omega)
      have e5 := xorDiv hx2 (tabN_lt (x2 % 16))
      change bits .xor .u32 ((x2 : Int) / 16) _ = ((nib x2 : Nat) : Int) at e5
      generalize tabN (x2 % 16) = y2 at t2 e5
      generalize nib x2 = x3 at e5 hst
      go_hidden (go_wp2)
      go_round
      case rel => exact ⟨k + 1, by omega, by simp, by rw [hst]⟩
      case measure => simp [Go.RowKit.intOf]; omega
    · obtain rfl : k = n := by omega
      have e6 : bits .xor .u32 IntKind.u32.max (x : Int) = ((Nat.xor 4294967295 x : Nat) : Int) := u32_xor_nat 4294967295 x (by decide) hx
      go_hidden (go_wp2)
      go_ret
      show _ = Ending.returned (.int .u32 ((Nat.xor 4294967295 (crcUpto bs (Nat.xor 4294967295 s) k) : Nat) : Int)) ∧ _
      rw [hs1e, hxx]
      exact ⟨rfl, hbl⟩
theorem crcUpto_eq {bs : Bs} (s : Nat) : ∀ k, k ≤ bs.length → crcUpto (fun i => bs.getD i 0) s k = crcR s (bs.take k)
  | 0, _ => by simp [crcUpto, crcR]
  | k + 1, h => by
    have hk : bs[k]? = some bs[k] := List.getElem?_eq_getElem (by omega)
    rw [crcR_take hk]
    show crcStep (crcUpto _ s k) (bs.getD k 0) = _
    rw [crcUpto_eq s k (by omega), List.getD_eq_getElem?_getD, hk]
    rfl
theorem crc_lt {bs : Bs} (h : ∀ x ∈ bs, x < 256) : crc bs < 4294967296 := Nat.xor_lt_two_pow (n := 32) (by decide) (crcR_lt bs 4294967295 (by decide) h)
theorem sum_x {w : World} {v : Value} {bs : Bs} (h : RV w v bs) (hL : bs.length ≤ 1048576) (h0 : 0 < bs.length) :
    Calls Tryz.prog 69 #[v] w fun e w' => e = .returned (.int .u32 (crc bs : Nat)) ∧ Below w.heap.size w w' := by
  obtain ⟨a, c, rfl, hx, h⟩ := h
  obtain ⟨g, o, rfl, hg, hc⟩ := h h0
  have H := crc_walk (w := w) (B := g) (o := o) (n := bs.length) (c := c) (s := 0) (bs := fun i => bs.getD i 0) (by decide) hL (fun k hk => by
    have hk' : bs[k]? = some bs[k] := List.getElem?_eq_getElem hk
    have e : bs.getD k 0 = bs[k] := by rw [List.getD_eq_getElem?_getD, hk']; rfl
    show bs.getD k 0 < 256 ∧ w.cell? ⟨g, o + k, none⟩ = some (Value.int .u8 ((bs.getD k 0 : Nat) : Int))
    rw [e]
    exact ⟨hx.1 _ (List.getElem_mem hk), hc k _ hk'⟩)
  rw [crcUpto_eq _ _ (Nat.le_refl _), List.take_length] at H
  have e : Nat.xor 4294967295 (crcR (Nat.xor 4294967295 0) bs) = crc bs := rfl
  rw [e] at H
  generalize crc bs = x at H ⊢
  generalize bs.length = len at H ⊢
  clear hc hx h hL h0 e
  go_enter Tryz.func69, Tryz.ntmps69
  go_wp2_with (go_at_call 102; refine H.mono ?_; rintro e w5 ⟨rfl, hb⟩)
  go_ret
  exact ⟨rfl, hb⟩
end Go.Tb
