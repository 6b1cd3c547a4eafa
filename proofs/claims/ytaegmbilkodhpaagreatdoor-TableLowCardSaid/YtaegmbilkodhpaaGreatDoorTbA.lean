/- A part of the proof of TableLow: what a function of the program answers, walked by hand. Each theorem says its own conditions. -/
import Derived.Test.YtaegmbilkodhpaaGreatDoorProg
import Derived.WalkKit
import Derived.Handy
import Derived.LoopTactic
import Derived.KernelRfl
import Derived.Lib.Hide
import Derived.Deep.RegionHeld3
import Derived.Deep.RegionWith
import Derived.Deep.Cut
import Derived.Laws.AppendOwn
import Derived.Laws.OwnMore
import Derived.Laws.AppendOwnNone
import Derived.Maps.AppendAt
import Derived.Carry
import Derived.Below
import Derived.MapKept
import Derived.Maps.OwnSet
import Derived.Maps.OwnOps
import Derived.Maps.Views
import Derived.Maps.RangeWalk
import Derived.Deep.RegionLaw
import Derived.Laws.CopyOwn
import Derived.Deep.Heap
import Derived.Laws.BitsAllLaws
import Derived.LaidEql
import Derived.Laws.Cover3
set_option linter.unusedVariables false
set_option linter.unusedSimpArgs false
set_option maxRecDepth 100000
set_option maxHeartbeats 1600000
namespace Go.Tb
open Go Go.RowKit Go.Proofs
theorem cell_lt' {w : World} {b o : Nat} {v : Value} (h : w.cell? ⟨b, o, none⟩ = some v) : b < w.heap.size := by
  by_cases hb : b < w.heap.size
  · exact hb
  · simp [World.cell?, Array.getElem?_eq_none (Nat.le_of_not_lt hb)] at h
theorem own_slice {w : World} {b e size n : Nat} {v : Value} {xs : List Value} (h : w.ownsRow b e size v n xs) : ∃ a c, v = .slice a n c := by
  rcases h.2 with ⟨rfl, rfl⟩ | ⟨g, cap, cur, rfl, _⟩
  · exact ⟨_, _, rfl⟩
  · exact ⟨_, _, rfl⟩
def MapV (w : World) (mb : Nat) (f : Nat → Nat) : Prop := (∀ i, i < 1024 → w.cell? ⟨mb, i, none⟩ = some (.int .u16 (f i)) ∧ f i < 65536) ∧ ∀ i, i < 1024 → w.frozen? ⟨mb, i, none⟩ = false
theorem MapV.at {w : World} {mb : Nat} {f : Nat → Nat} (h : MapV w mb f) {i : Nat} (hi : i < 1024) : w.cell? ⟨mb, i, none⟩ = some (.int .u16 (f i)) ∧ w.frozen? ⟨mb, i, none⟩ = false ∧ f i < 65536 :=
  ⟨(h.1 i hi).1, h.2 i hi, (h.1 i hi).2⟩
theorem MapV.keep {w w' : World} {mb : Nat} {f : Nat → Nat} (h : MapV w mb f) (hb : w'.heap[mb]? = w.heap[mb]?) : MapV w' mb f :=
  ⟨fun i hi => ⟨by rw [← (h.1 i hi).1]; simp [World.cell?, hb], (h.1 i hi).2⟩, fun i hi => by rw [← h.2 i hi]; simp [World.frozen?, hb]⟩
theorem MapV.set {w : World} {mb : Nat} {f : Nat → Nat} (h : MapV w mb f) {i x : Nat} (hi : i < 1024) (hx : x < 65536) : MapV (w.setCell ⟨mb, i, none⟩ (.int .u16 x)) mb (fun k => if k = i then x else f k) := by
  refine ⟨fun k hk => ?_, fun k hk => by rw [World.frozen?_setCell]; exact h.2 k hk⟩
  by_cases e : k = i
  · subst e; simp only [if_pos]; exact ⟨World.cell?_setCell_same w _ _ (h.1 k hk).1, hx⟩
  · simp only [if_neg e]
    rw [World.cell?_setCell_other w _ _ _ (fun q => e (by simp only [Addr.mk.injEq] at q; exact q.2.1.symm))]
    exact h.1 k hk
theorem has_ok {w : World} {mb : Nat} {f : Nat → Nat} (h : MapV w mb f) {p : Nat} (hp : p < 1024) :
    Calls Tryz.prog 88 #[.pointer (some ⟨mb, 0, none⟩), .int .i64 p] w fun e w' => e = .returned (.bool (decide (0 < f p))) ∧ w' = w := by
  obtain ⟨c0, _, c1⟩ := h.at hp
  have hl := cell_lt' c0
  have i1 : (p : Int) < 1024 := by omega
  have i0 : (0 : Int) ≤ (p : Int) := by omega
  clear h
  go_enter Tryz.func88, Tryz.ntmps88
  go_wp2
  go_ret
  exact ⟨by simp, rfl⟩
theorem get_ok {w : World} {mb : Nat} {f : Nat → Nat} (h : MapV w mb f) {p : Nat} (hp : p < 1024) :
    Calls Tryz.prog 49 #[.pointer (some ⟨mb, 0, none⟩), .int .i64 p] w fun e w' => e = .returned (.tuple #[.int .i64 (f p), .bool (decide (0 < f p))]) ∧ w' = w := by
  obtain ⟨c0, _, c1⟩ := h.at hp
  have hl := cell_lt' c0
  have H := has_ok h hp
  have i1 : (p : Int) < 1024 := by omega
  have i0 : (0 : Int) ≤ (p : Int) := by omega
  have hw : IntKind.i64.wrap (f p : Int) = (f p : Int) := by rw [IntKind.wrap_i64]; omega
  clear h
  by_cases hf : 0 < f p
  · rw [decide_eq_true hf] at H ⊢
    go_enter Tryz.func49, Tryz.ntmps49
    go_wp2_with (go_at_call 88; refine H.mono ?_; rintro e w5 ⟨rfl, rfl⟩)
    go_ret2
    exact ⟨rfl, rfl⟩
  · rw [decide_eq_false hf] at H ⊢
    have h0 : f p = 0 := by omega
    rw [h0]
    go_enter Tryz.func49, Tryz.ntmps49
    go_wp2_with (go_at_call 88; refine H.mono ?_; rintro e w5 ⟨rfl, rfl⟩)
    go_ret2
    exact ⟨rfl, rfl⟩
theorem clear_ok {w : World} {mb : Nat} {f : Nat → Nat} (h : MapV w mb f) {p : Nat} (hp : p < 1024) (hf : 0 < f p) :
    Calls Tryz.prog 95 #[.pointer (some ⟨mb, 0, none⟩), .int .i64 p] w fun e w' => e = .returned (.bool true) ∧ w' = w.setCell ⟨mb, p, none⟩ (.int .u16 0) := by
  obtain ⟨c0, cz, c1⟩ := h.at hp
  have hl := cell_lt' c0
  have H := has_ok h hp
  rw [decide_eq_true hf] at H
  have i1 : (p : Int) < 1024 := by omega
  have i0 : (0 : Int) ≤ (p : Int) := by omega
  clear h
  go_enter Tryz.func95, Tryz.ntmps95
  go_wp2_with (go_at_call 88; refine H.mono ?_; rintro e w5 ⟨rfl, rfl⟩)
  go_ret
  exact ⟨rfl, rfl⟩
theorem set_ok {w : World} {mb : Nat} {f : Nat → Nat} (h : MapV w mb f) {p s : Nat} (hp : p < 1024) (hs : 1 ≤ s ∧ s < 65536) :
    Calls Tryz.prog 63 #[.pointer (some ⟨mb, 0, none⟩), .int .i64 p, .int .i64 s] w fun e w' => e = .returned (.bool true) ∧ w' = w.setCell ⟨mb, p, none⟩ (.int .u16 s) := by
  obtain ⟨c0, cz, c1⟩ := h.at hp
  have hl := cell_lt' c0
  have i1 : (p : Int) < 1024 := by omega
  have i0 : (0 : Int) ≤ (p : Int) := by omega
  have i2 : (1 : Int) ≤ (s : Int) := by omega
  have i3 : ¬ (s : Int) < 1 := by omega
  have i4 : ¬ (65535 : Int) < (s : Int) := by omega
  have i5 : ¬ (p : Int) < 0 := by omega
  have i6 : ¬ (1024 : Int) ≤ (p : Int) := by omega
  have hw : IntKind.u16.wrap (s : Int) = (s : Int) := by simp [IntKind.wrap, IntKind.signed, IntKind.bits]; omega
  clear h
  go_enter Tryz.func63, Tryz.ntmps63
  go_wp2
  go_ret
  exact ⟨rfl, rfl⟩
end Go.Tb
namespace Go.Tb
open Go Go.RowKit Go.Proofs
theorem dead_ok {w : World} {db : Nat} (h : w.cell? ⟨db, 2, none⟩ = some (.bool false)) :
    Calls Tryz.prog 41 #[.pointer (some ⟨db, 0, none⟩)] w fun e w' => e = .returned (.bool false) ∧ w' = w := by
  have hl := cell_lt' h
  go_enter Tryz.func41, Tryz.ntmps41
  go_wp2
  go_ret
  exact ⟨rfl, rfl⟩
theorem on_ok {w : World} {sb db : Nat} (h0 : w.cell? ⟨sb, 0, none⟩ = some (.pointer (some ⟨db, 0, none⟩))) (h : w.cell? ⟨db, 2, none⟩ = some (.bool false)) :
    Calls Tryz.prog 31 #[.pointer (some ⟨sb, 0, none⟩)] w fun e w' => e = .returned (.int .i64 0) ∧ w' = w := by
  have hl := cell_lt' h0
  have H := dead_ok h
  clear h
  go_enter Tryz.func31, Tryz.ntmps31
  go_wp2_with (go_at_call 41; refine H.mono ?_; rintro e w5 ⟨rfl, rfl⟩)
  go_ret
  exact ⟨rfl, rfl⟩
theorem con_ok {w : World} {cb db : Nat} (h0 : w.cell? ⟨cb, 0, none⟩ = some (.pointer (some ⟨db, 0, none⟩))) (h : w.cell? ⟨db, 2, none⟩ = some (.bool false)) :
    Calls Tryz.prog 69 #[.pointer (some ⟨cb, 0, none⟩)] w fun e w' => e = .returned (.int .i64 0) ∧ w' = w := by
  have hl := cell_lt' h0
  have H := dead_ok h
  clear h
  go_enter Tryz.func69, Tryz.ntmps69
  go_wp2_with (go_at_call 41; refine H.mono ?_; rintro e w5 ⟨rfl, rfl⟩)
  go_ret
  exact ⟨rfl, rfl⟩
theorem may_ok {w : World} {sb db p : Nat} (h0 : w.cell? ⟨sb, 0, none⟩ = some (.pointer (some ⟨db, 0, none⟩))) (h : w.cell? ⟨db, 2, none⟩ = some (.bool false)) (hp : p < 1024) :
    Calls Tryz.prog 48 #[.pointer (some ⟨sb, 0, none⟩), .int .i64 p] w fun e w' => e = .returned (.int .i64 0) ∧ w' = w := by
  have H := on_ok h0 h
  have i1 : (p : Int) < 1024 := by omega
  have i0 : (0 : Int) ≤ (p : Int) := by omega
  have i2 : ¬ (p : Int) < 0 := by omega
  have i3 : ¬ (1024 : Int) ≤ (p : Int) := by omega
  clear h h0
  go_enter Tryz.func48, Tryz.ntmps48
  go_wp2_with (go_at_call 31; refine H.mono ?_; rintro e w5 ⟨rfl, rfl⟩)
  go_ret
  exact ⟨rfl, rfl⟩
theorem sectors_ok {w : World} {db : Nat} {a : Option Addr} {c : Nat} (h : w.cell? ⟨db, 0, none⟩ = some (.slice a 130 c)) :
    Calls Tryz.prog 82 #[.pointer (some ⟨db, 0, none⟩)] w fun e w' => e = .returned (.int .i64 130) ∧ w' = w := by
  have hl := cell_lt' h
  go_enter Tryz.func82, Tryz.ntmps82
  go_wp2
  go_ret
  exact ⟨rfl, rfl⟩
theorem cmay_ok {w : World} {cb db s : Nat} {a : Option Addr} {c : Nat} (h0 : w.cell? ⟨cb, 0, none⟩ = some (.pointer (some ⟨db, 0, none⟩))) (h1 : w.cell? ⟨db, 0, none⟩ = some (.slice a 130 c)) (h : w.cell? ⟨db, 2, none⟩ = some (.bool false)) (hs : s < 130) :
    Calls Tryz.prog 111 #[.pointer (some ⟨cb, 0, none⟩), .int .i64 s] w fun e w' => e = .returned (.int .i64 0) ∧ w' = w := by
  have H := con_ok h0 h
  have H2 := sectors_ok h1
  have hl := cell_lt' h0
  have i1 : (s : Int) < 130 := by omega
  have i0 : (0 : Int) ≤ (s : Int) := by omega
  have i2 : ¬ (s : Int) < 0 := by omega
  have i3 : ¬ (130 : Int) ≤ (s : Int) := by omega
  clear h h1
  go_enter Tryz.func111, Tryz.ntmps111
  go_wp2_with (first | (go_at_call 69; refine H.mono ?_; rintro e w5 ⟨rfl, rfl⟩) | (go_at_call 82; refine H2.mono ?_; rintro e w6 ⟨rfl, rfl⟩))
  go_ret
  exact ⟨rfl, rfl⟩
end Go.Tb
namespace Go.Tb
open Go Go.RowKit Go.Proofs Go.Maps
def heldR (v : Value) : Option (DataW Value × List MemPlace) := some (.held v, [])
theorem held_look {P : Program} {w : World} {k : TypeId} {b n : Nat} {D : DataW Value} (h : w.ownsMap P k heldR b n D) {t e : TypeId} (K : Keyed P k) (ht : P.underlying t = some (.map k e)) {z : Value} (hz : (zeroValue e).run P w = .ok z w) {key : Value} {kl : Lit} (hkey : keyOf P k key = some kl) :
    ∃ v, (Instr.lookup t (.map (some b)) key false).run P w = .ok v w ∧ D.atKey kl (.held z) = .held v := by
  obtain ⟨v, ps, h1, h2⟩ := h.lookup K ht hz (zd := .held z) (zp := []) rfl hkey
  simp only [heldR, Option.some.injEq, Prod.mk.injEq] at h2
  exact ⟨v, h1, h2.1.symm⟩
theorem held_look_ok {P : Program} {w : World} {k : TypeId} {b n : Nat} {D : DataW Value} (h : w.ownsMap P k heldR b n D) {t e : TypeId} (K : Keyed P k) (ht : P.underlying t = some (.map k e)) {z : Value} (hz : (zeroValue e).run P w = .ok z w) {key : Value} {kl : Lit} (hkey : keyOf P k key = some kl) :
    ∃ v, (Instr.lookup t (.map (some b)) key true).run P w = .ok (.tuple #[v, .bool (Maps.has D kl)]) w ∧ D.atKey kl (.held z) = .held v := by
  obtain ⟨v, ps, h1, h2⟩ := h.look_ok K ht hz (zd := .held z) (zp := []) rfl hkey
  simp only [heldR, Option.some.injEq, Prod.mk.injEq] at h2
  exact ⟨v, h1, h2.1.symm⟩
theorem wpList_look_held {P : Program} (w : World) {ops : Array Oper} {rest : List Oper} {o : Oper} {a : Act} {Q : Exit → Act → World → Prop}
    (hg : o.guard = none) (m x : Operand) (t : TypeId) (hop : o.op = Op.lookup t m x false)
    (k e : TypeId) (K : Keyed P k) (ht : P.underlying t = some (.map k e)) (z : Value) (hz : (zeroValue e).run P w = .ok z w) (b n : Nat) (D : DataW Value)
    (hm : a.eval m = .map (some b)) (hown : w.ownsMap P k heldR b n D) (key : Value) (kl : Lit) (hx : a.eval x = key) (hkey : keyOf P k key = some kl)
    (hK : ∀ v, D.atKey kl (.held z) = .held v → wpList P ops Q rest (a.put o.dst v) w) :
    wpList P ops Q (o :: rest) a w := by
  refine wpList_plain hg fun K' hK' => ?_
  obtain ⟨v, hrun, hat⟩ := held_look hown K ht hz hkey
  unfold Oper.wp
  simp [execOp, hop, hm, hx, hrun, Result.andThen]
  exact hK' _ _ (hK v hat)
theorem wpList_look_held_ok {P : Program} (w : World) {ops : Array Oper} {rest : List Oper} {o : Oper} {a : Act} {Q : Exit → Act → World → Prop}
    (hg : o.guard = none) (m x : Operand) (t : TypeId) (hop : o.op = Op.lookup t m x true)
    (k e : TypeId) (K : Keyed P k) (ht : P.underlying t = some (.map k e)) (z : Value) (hz : (zeroValue e).run P w = .ok z w) (b n : Nat) (D : DataW Value)
    (hm : a.eval m = .map (some b)) (hown : w.ownsMap P k heldR b n D) (key : Value) (kl : Lit) (hx : a.eval x = key) (hkey : keyOf P k key = some kl)
    (hK : ∀ v, D.atKey kl (.held z) = .held v → wpList P ops Q rest (a.put o.dst (.tuple #[v, .bool (Maps.has D kl)])) w) :
    wpList P ops Q (o :: rest) a w := by
  refine wpList_plain hg fun K' hK' => ?_
  obtain ⟨v, hrun, hat⟩ := held_look_ok hown K ht hz hkey
  unfold Oper.wp
  simp [execOp, hop, hm, hx, hrun, Result.andThen]
  exact hK' _ _ (hK v hat)
theorem atKey_has {D : DataW Value} {kl : Lit} (h : Maps.has D kl = true) (z z' : DataW Value) : D.atKey kl z = D.atKey kl z' := by
  cases D with
  | map es =>
    rw [Maps.has_eq, List.any_eq_true] at h
    obtain ⟨p, hp, hk⟩ := h
    have : (es.find? fun p => p.1.sameKey kl).isSome = true := List.find?_isSome.2 ⟨p, hp, hk⟩
    obtain ⟨q, hq⟩ := Option.isSome_iff_exists.1 this
    simp [DataW.atKey, hq]
  | _ => simp [Maps.has] at h
theorem wf_nat {n : Nat} (h : n < 2 ^ 62) : (Lit.int .i64 (n : Int)).wf = true := by
  simp [Lit.wf, IntKind.min, IntKind.max, IntKind.signed, IntKind.bits]; omega
theorem key_nat {n : Nat} (h : n < 2 ^ 62) : keyOf Tryz.prog 3 (.int .i64 (n : Int)) = some (.int .i64 (n : Int)) := Maps.keyOf_int_mk Tryz.underlying3 (wf_nat h)
def FrOK (w : World) (b : Nat) : Prop := (∃ v, w.cell? ⟨b, 0, none⟩ = some v) ∧ (∃ u, w.cell? ⟨b, 1, none⟩ = some (.int .i64 u)) ∧ (∃ v, w.cell? ⟨b, 2, none⟩ = some (.bool v)) ∧ (∃ u, w.cell? ⟨b, 3, none⟩ = some (.int .i64 u)) ∧ ∀ o, w.frozen? ⟨b, o, none⟩ = false
theorem FrOK.lt {w : World} {b : Nat} (h : FrOK w b) : b < w.heap.size := by obtain ⟨⟨v, h⟩, _⟩ := h; exact cell_lt' h
structure CV (B : Nat) (w : World) (cb fb db : Nat) (D : DataW Value) (n : Nat) (K : Nat → Prop) : Prop where
  c0 : w.cell? ⟨cb, 0, none⟩ = some (.pointer (some ⟨db, 0, none⟩))
  c1 : w.cell? ⟨cb, 1, none⟩ = some (.int .i64 20)
  c2 : ∃ k, w.cell? ⟨cb, 2, none⟩ = some (.int .i64 k)
  c3 : w.cell? ⟨cb, 3, none⟩ = some (.map (some fb))
  cz : ∀ o, o < 4 → w.frozen? ⟨cb, o, none⟩ = false
  own : w.ownsMap Tryz.prog 3 heldR fb n D
  fr : ∀ x, Maps.has D (.int .i64 x) = true → ∃ b, (∀ z, D.atKey (.int .i64 x) z = .held (.pointer (some ⟨b, 0, none⟩))) ∧ B ≤ b ∧ ¬ K b ∧ FrOK w b
  kc : K cb
  kf : K fb
  kd : K db
  ks : ∀ b, K b → b < w.heap.size
  Bc : B ≤ cb
  Bf : B ≤ fb
  cf : cb ≠ fb
end Go.Tb
namespace Go.Tb
open Go Go.RowKit Go.Proofs Go.Maps
theorem key3 : Keyed Tryz.prog 3 := int_keyed Tryz.underlying3
theorem look_run {w : World} {fb n : Nat} {D : DataW Value} (h : w.ownsMap Tryz.prog 3 heldR fb n D) {s b : Nat} (hs : s < 2 ^ 62) (hv : ∀ z, D.atKey (.int .i64 (s : Int)) z = .held (.pointer (some ⟨b, 0, none⟩))) :
    (Instr.lookup 119 (.map (some fb)) (.int .i64 (s : Int)) false).run Tryz.prog w = .ok (.pointer (some ⟨b, 0, none⟩)) w := by
  obtain ⟨v, h1, h2⟩ := held_look h key3 Tryz.underlying119 (Tryz.zeroValue118 w) (key_nat hs)
  rw [hv] at h2
  injection h2 with h2
  rw [h2]; exact h1
theorem use_ok {B : Nat} {w : World} {cb fb db : Nat} {D : DataW Value} {n : Nat} {K : Nat → Prop} (H : CV B w cb fb db D n K) {s b : Nat} (hs : s < 2 ^ 62) (hbc : b ≠ cb) (hbf : b ≠ fb) (hf : FrOK w b)
    (hv : ∀ z, D.atKey (.int .i64 (s : Int)) z = .held (.pointer (some ⟨b, 0, none⟩))) :
    Calls Tryz.prog 113 #[.pointer (some ⟨cb, 0, none⟩), .int .i64 s] w fun e w' => e = .returned (.pointer (some ⟨b, 0, none⟩)) ∧ ∃ k, w' = ((w.setCell ⟨cb, 2, none⟩ (.int .i64 k)).setCell ⟨b, 1, none⟩ (.int .i64 k)).drew := by
  obtain ⟨k, c2⟩ := H.c2
  have c3 := H.c3
  have cz := H.cz 2 (by decide)
  have hl := cell_lt' c2
  have own := H.own
  have hfl := hf.lt
  obtain ⟨f0, ⟨u, f1⟩, f2, f3, fz⟩ := hf
  have fz1 := fz 1
  have hL : ∀ x, (Instr.lookup 119 (.map (some fb)) (.int .i64 (s : Int)) false).run Tryz.prog ((w.setCell ⟨cb, 2, none⟩ x).drew) = .ok (.pointer (some ⟨b, 0, none⟩)) ((w.setCell ⟨cb, 2, none⟩ x).drew) := fun x =>
    look_run (show ((w.setCell ⟨cb, 2, none⟩ x).drew).ownsMap Tryz.prog 3 heldR fb _ D from (own.setCell (Ne.symm H.cf) x)) hs hv
  have hL' : ∀ y x, (Instr.lookup 119 (.map (some fb)) (.int .i64 (s : Int)) false).run Tryz.prog (((w.setCell ⟨cb, 2, none⟩ x).setCell ⟨b, 1, none⟩ y).drew) = .ok (.pointer (some ⟨b, 0, none⟩)) (((w.setCell ⟨cb, 2, none⟩ x).setCell ⟨b, 1, none⟩ y).drew) := fun y x =>
    look_run (show (((w.setCell ⟨cb, 2, none⟩ x).setCell ⟨b, 1, none⟩ y).drew).ownsMap Tryz.prog 3 heldR fb _ D from World.ownsMap.setCell (own.setCell (Ne.symm H.cf) x) (Ne.symm hbf) y) hs hv
  have hcb : cb ≠ b := Ne.symm hbc
  clear H own hv fz
  go_enter Tryz.func113, Tryz.ntmps113
  go_wp2
  go_region
  go_wp2
  go_ret
  exact ⟨rfl, _, rfl⟩
end Go.Tb
namespace Go.Tb
open Go Go.RowKit Go.Proofs Go.Maps
theorem room_ok {B : Nat} {w : World} {cb fb db : Nat} {D : DataW Value} {n : Nat} {K : Nat → Prop} (H : CV B w cb fb db D n K) (hn : n < 20) :
    Calls Tryz.prog 112 #[.pointer (some ⟨cb, 0, none⟩)] w fun e w' => e = .returned (.int .i64 0) ∧ w' = w.drew := by
  have c1 := H.c1
  have c3 := H.c3
  have hl := cell_lt' c3
  have hs : Maps.size D < 20 := Nat.lt_of_le_of_lt H.own.size_le hn
  have hL : ∀ ty, (Builtin.len_ #[119] ty #[.map (some fb)]).run Tryz.prog w.drew = .ok (.int .i64 (Maps.size D)) w.drew := fun ty => World.ownsMap.len (show w.drew.ownsMap Tryz.prog 3 heldR fb n D from H.own) Tryz.underlying119 ty
  generalize Maps.size D = q at hs hL
  have hd : decide ((q : Int) < 20) = true := by simp; omega
  have hd2 : (q : Int) < 20 := by omega
  clear H
  go_enter Tryz.func112, Tryz.ntmps112
  go_wp2
  go_region
  go_wp2
  go_ret
  exact ⟨rfl, rfl⟩
end Go.Tb
namespace Go.Tb
open Go Go.RowKit Go.Proofs Go.Maps
theorem cell_of_heap {w w' : World} {a : Addr} (h : w'.heap[a.block]? = w.heap[a.block]?) : w'.cell? a = w.cell? a ∧ w'.frozen? a = w.frozen? a := by
  simp [World.cell?, World.frozen?, h]
theorem FrOK.same {w w' : World} {b : Nat} (h : FrOK w b) (hs : w'.heap[b]? = w.heap[b]?) : FrOK w' b := by
  have hc := fun o => (cell_of_heap (a := ⟨b, o, none⟩) hs).1
  have hf := fun o => (cell_of_heap (a := ⟨b, o, none⟩) hs).2
  unfold FrOK
  simp only [hc, hf]
  exact h
theorem FrOK.set {w : World} {b c o : Nat} {v : Value} (h : FrOK w b) (hc : c < w.heap.size) (hz : w.frozen? ⟨c, o, none⟩ = false) (hv : (∃ u, w.cell? ⟨c, o, none⟩ = some u) ∧ (o = 1 ∨ o = 3 → ∃ u, v = .int .i64 u) ∧ (o = 2 → ∃ u, v = .bool u)) : FrOK (w.setCell ⟨c, o, none⟩ v) b := by
  obtain ⟨⟨v0, h0⟩, ⟨v1, h1⟩, ⟨v2, h2⟩, ⟨v3, h3⟩, hz'⟩ := h
  have key : ∀ i, (w.setCell ⟨c, o, none⟩ v).cell? ⟨b, i, none⟩ = if b = c ∧ i = o then some v else w.cell? ⟨b, i, none⟩ := fun i => by
    by_cases e : b = c ∧ i = o
    · obtain ⟨rfl, rfl⟩ := e
      obtain ⟨⟨u, hu⟩, _⟩ := hv
      rw [if_pos ⟨rfl, rfl⟩]
      exact World.cell?_setCell_same w _ _ hu
    · rw [if_neg e]
      exact World.cell?_setCell_other w _ _ _ (fun h => e (by simp only [Addr.mk.injEq] at h; exact ⟨h.1.symm, h.2.1.symm⟩))
  refine ⟨?_, ?_, ?_, ?_, fun i => by rw [World.frozen?_setCell]; exact hz' i⟩
  · rw [key]; split <;> exact ⟨_, by first | rfl | exact h0⟩
  · rw [key]; split
    · rename_i e; obtain ⟨u, rfl⟩ := hv.2.1 (.inl e.2.symm); exact ⟨_, rfl⟩
    · exact ⟨_, h1⟩
  · rw [key]; split
    · rename_i e; obtain ⟨u, rfl⟩ := hv.2.2 e.2.symm; exact ⟨_, rfl⟩
    · exact ⟨_, h2⟩
  · rw [key]; split
    · rename_i e; obtain ⟨u, rfl⟩ := hv.2.1 (.inr e.2.symm); exact ⟨_, rfl⟩
    · exact ⟨_, h3⟩
theorem CV.same {B : Nat} {w w' : World} {cb fb db : Nat} {D : DataW Value} {n : Nat} {K : Nat → Prop} (H : CV B w cb fb db D n K) (hs : ∀ b, b < w.heap.size → w'.heap[b]? = w.heap[b]?) (hz : w.heap.size ≤ w'.heap.size) : CV B w' cb fb db D n K := by
  have hc := fun o => (cell_of_heap (a := ⟨cb, o, none⟩) (hs cb (H.ks cb H.kc))).1
  have hf := fun o => (cell_of_heap (a := ⟨cb, o, none⟩) (hs cb (H.ks cb H.kc))).2
  refine { c0 := (hc _).trans H.c0, c1 := (hc _).trans H.c1, c2 := ?_, c3 := (hc _).trans H.c3, cz := fun o ho => (hf o).trans (H.cz o ho), own := ?_, fr := fun x hx => ?_, kc := H.kc, kf := H.kf, kd := H.kd, ks := fun b hb => Nat.lt_of_lt_of_le (H.ks b hb) hz, Bc := H.Bc, Bf := H.Bf, cf := H.cf }
  · obtain ⟨k, h⟩ := H.c2; exact ⟨k, (hc _).trans h⟩
  · obtain ⟨es, clock, hb, h⟩ := H.own
    exact ⟨es, clock, (hs fb (H.ks fb H.kf)).trans hb, h⟩
  · obtain ⟨b, h1, h2, h3, h4⟩ := H.fr x hx
    exact ⟨b, h1, h2, h3, h4.same (hs b h4.lt)⟩
theorem CV.clock {B : Nat} {w : World} {cb fb db : Nat} {D : DataW Value} {n : Nat} {K : Nat → Prop} (H : CV B w cb fb db D n K) (k : Int) : CV B (w.setCell ⟨cb, 2, none⟩ (.int .i64 k)) cb fb db D n K := by
  obtain ⟨k0, h0⟩ := H.c2
  have hc : ∀ o, o ≠ 2 → (w.setCell ⟨cb, 2, none⟩ (.int .i64 k)).cell? ⟨cb, o, none⟩ = w.cell? ⟨cb, o, none⟩ := fun o ho => World.cell?_setCell_other w _ _ _ (fun h => ho (by simp only [Addr.mk.injEq] at h; exact h.2.1.symm))
  refine { c0 := (hc _ (by decide)).trans H.c0, c1 := (hc _ (by decide)).trans H.c1, c2 := ⟨k, World.cell?_setCell_same w _ _ h0⟩, c3 := (hc _ (by decide)).trans H.c3, cz := fun o ho => by rw [World.frozen?_setCell]; exact H.cz o ho, own := World.ownsMap.setCell H.own (Ne.symm H.cf) _, fr := fun x hx => ?_, kc := H.kc, kf := H.kf, kd := H.kd, ks := fun b hb => by simpa [World.setCell] using H.ks b hb, Bc := H.Bc, Bf := H.Bf, cf := H.cf }
  obtain ⟨b, h1, h2, h3, h4⟩ := H.fr x hx
  exact ⟨b, h1, h2, h3, h4.same (heap_setCell_other w _ b _ (fun e => h3 (e ▸ H.kc)))⟩
theorem CV.frame {B : Nat} {w : World} {cb fb db : Nat} {D : DataW Value} {n : Nat} {K : Nat → Prop} (H : CV B w cb fb db D n K) {b o : Nat} {v : Value} (hb : ¬ K b) (hf : FrOK w b) (ho : o < 4) (hv : (o = 1 ∨ o = 3 → ∃ u, v = .int .i64 u) ∧ (o = 2 → ∃ u, v = .bool u)) : CV B (w.setCell ⟨b, o, none⟩ v) cb fb db D n K := by
  have hbc : cb ≠ b := fun e => hb (e ▸ H.kc)
  have hbf : fb ≠ b := fun e => hb (e ▸ H.kf)
  have hc : ∀ i, (w.setCell ⟨b, o, none⟩ v).cell? ⟨cb, i, none⟩ = w.cell? ⟨cb, i, none⟩ := fun i => World.cell?_setCell_other w _ _ _ (fun h => hbc (by simp only [Addr.mk.injEq] at h; exact h.1.symm))
  refine { c0 := (hc _).trans H.c0, c1 := (hc _).trans H.c1, c2 := ?_, c3 := (hc _).trans H.c3, cz := fun o ho => by rw [World.frozen?_setCell]; exact H.cz o ho, own := World.ownsMap.setCell H.own hbf _, fr := fun x hx => ?_, kc := H.kc, kf := H.kf, kd := H.kd, ks := fun b hb => by simpa [World.setCell] using H.ks b hb, Bc := H.Bc, Bf := H.Bf, cf := H.cf }
  · obtain ⟨k, h⟩ := H.c2; exact ⟨k, (hc _).trans h⟩
  · obtain ⟨b', h1, h2, h3, h4⟩ := H.fr x hx
    refine ⟨b', h1, h2, h3, h4.set hf.lt (hf.2.2.2.2 o) ⟨?_, hv⟩⟩
    obtain ⟨⟨v0, h0⟩, ⟨v1, h1⟩, ⟨v2, h2⟩, ⟨v3, h3⟩, _⟩ := hf
    match o, ho with
    | 0, _ => exact ⟨_, h0⟩
    | 1, _ => exact ⟨_, h1⟩
    | 2, _ => exact ⟨_, h2⟩
    | 3, _ => exact ⟨_, h3⟩
end Go.Tb
namespace Go.Tb
open Go Go.RowKit Go.Proofs Go.Maps
def zer : List Value := List.replicate 256 (.int .u8 0)
theorem zer_len : zer.length = 256 := by simp [zer]
theorem i5 : (Tryz.prog.info? 5).map (fun i => (i.size, i.bytes, i.zero)) = some (1, 1, some (.int .u8 0)) := by kernel_rfl
theorem sz5 : (Tryz.prog.info? 5).map (·.size) = some 1 := by kernel_rfl
theorem mk22 (w : World) : (Instr.makeSlice 22 (.int .i64 256) (.int .i64 256)).run Tryz.prog w = .ok (.slice (some ⟨w.heap.size, 0, none⟩) 256 256) (w.alloc (.cells zer.toArray 5)) := by
  obtain ⟨i, hi, hi2⟩ := Option.map_eq_some_iff.1 i5
  injection hi2 with h1 h2
  injection h2 with h2 h3
  have := run_makeSlice (P := Tryz.prog) w 22 5 i _ Tryz.underlying22 hi h3 .i64 .i64 256 256 (by decide) (by decide) (by rw [h1]; decide) (by rw [h2]; decide) (by decide)
  rw [this, h1]
  have e : madeCells (Value.int .u8 0).cells (256 * 1) = zer.toArray := by kernel_rfl
  show Result.ok _ (w.alloc (.cells (madeCells (Value.int .u8 0).cells (256 * 1)) 5)) = _
  rw [e]; rfl
def BytesAt (w : World) (g : Nat) (m : Nat) : Prop := ∃ bs : List Nat, bs.length = m ∧ ∀ j v, (bs.map (fun (x : Nat) => Value.int .u8 x))[j]? = some v → w.cell? ⟨g, j, none⟩ = some v
theorem BytesAt.same {w w' : World} {g m : Nat} (h : BytesAt w g m) (hs : w'.heap[g]? = w.heap[g]?) : BytesAt w' g m := by
  obtain ⟨bs, h1, h2⟩ := h
  exact ⟨bs, h1, fun j v hv => (cell_of_heap (a := ⟨g, j, none⟩) hs).1.trans (h2 j v hv)⟩
def Wrote (B : Nat) (w w' : World) (cb fb db : Nat) (D' : DataW Value) (n' : Nat) (K : Nat → Prop) : Prop :=
  CV B w' cb fb db D' n' K ∧ (∀ b, K b → b ≠ cb → b ≠ fb → w'.heap[b]? = w.heap[b]?) ∧ Below B w w'
theorem below_set {B : Nat} {w0 w : World} (h : Below B w0 w) {a : Addr} (ha : B ≤ a.block) (v : Value) : Below B w0 (w.setCell a v) :=
  h.trans ⟨rfl, rfl, rfl, by simp [World.setCell], fun k hk => heap_setCell_other w a k v (by omega)⟩
theorem used {B : Nat} {w : World} {cb fb db : Nat} {D : DataW Value} {n : Nat} {K : Nat → Prop} (H : CV B w cb fb db D n K) {b : Nat} (hb : ¬ K b) (hB : B ≤ b) (hf : FrOK w b) (k : Int) :
    Wrote B w ((w.setCell ⟨cb, 2, none⟩ (.int .i64 k)).setCell ⟨b, 1, none⟩ (.int .i64 k)).drew cb fb db D n K ∧ FrOK ((w.setCell ⟨cb, 2, none⟩ (.int .i64 k)).setCell ⟨b, 1, none⟩ (.int .i64 k)).drew b := by
  have hbc : b ≠ cb := fun e => hb (e ▸ H.kc)
  have h1 := H.clock k
  have hf1 : FrOK (w.setCell ⟨cb, 2, none⟩ (.int .i64 k)) b := hf.same (heap_setCell_other w _ b _ hbc)
  have h2 := h1.frame (o := 1) (v := .int .i64 k) hb hf1 (by decide) ⟨fun _ => ⟨_, rfl⟩, fun h => by cases h⟩
  refine ⟨⟨h2.same (fun _ _ => rfl) (Nat.le_refl _), fun c hc h3 h4 => ?_, ?_⟩, ?_⟩
  · show ((w.setCell ⟨cb, 2, none⟩ (.int .i64 k)).setCell ⟨b, 1, none⟩ (.int .i64 k)).heap[c]? = _
    rw [heap_setCell_other _ (⟨b, 1, none⟩ : Addr) c _ (fun e => hb ((show c = b from e) ▸ hc)), heap_setCell_other _ (⟨cb, 2, none⟩ : Addr) c _ h3]
  · exact Below.drew (below_set (below_set (Below.refl _ _) H.Bc _) hB _)
  · obtain ⟨u, hu⟩ := hf1.2.1
    exact (hf1.set hf1.lt (hf1.2.2.2.2 1) ⟨⟨_, hu⟩, fun _ => ⟨_, rfl⟩, fun h => by cases h⟩).same rfl
theorem stored {B : Nat} {w : World} {cb fb db : Nat} {D : DataW Value} {n : Nat} {K : Nat → Prop} (H : CV B w cb fb db D n K) {b : Nat} (hb : ¬ K b) (hB : B ≤ b) (hf : FrOK w b) (x : Value) (y : Bool) :
    Wrote B w ((w.setCell ⟨b, 0, none⟩ x).setCell ⟨b, 2, none⟩ (.bool y)) cb fb db D n K ∧ ((w.setCell ⟨b, 0, none⟩ x).setCell ⟨b, 2, none⟩ (.bool y)).cell? ⟨b, 0, none⟩ = some x := by
  obtain ⟨v0, q0⟩ := hf.1
  have h1 := H.frame (o := 0) (v := x) hb hf (by decide) ⟨fun h => (by rcases h with h | h <;> cases h), fun h => by cases h⟩
  have hf1 : FrOK (w.setCell ⟨b, 0, none⟩ x) b := hf.set hf.lt (hf.2.2.2.2 0) ⟨⟨_, q0⟩, fun h => (by rcases h with h | h <;> cases h), fun h => by cases h⟩
  have h2 := h1.frame (o := 2) (v := .bool y) hb hf1 (by decide) ⟨fun h => (by rcases h with h | h <;> cases h), fun _ => ⟨_, rfl⟩⟩
  refine ⟨⟨h2, fun c hc h3 h4 => ?_, below_set (below_set (Below.refl _ _) hB _) hB _⟩, ?_⟩
  · have e : c ≠ b := fun e => hb (e ▸ hc)
    rw [heap_setCell_other _ _ c _ e, heap_setCell_other _ _ c _ e]
  · rw [World.cell?_setCell_other _ _ _ _ (by intro h; injection h with _ h; cases h)]
    exact World.cell?_setCell_same w _ _ q0
theorem Wrote.trans {B : Nat} {w w1 w2 : World} {cb fb db : Nat} {D D2 : DataW Value} {n n2 : Nat} {K : Nat → Prop} (h : Wrote B w w1 cb fb db D n K) (h2 : Wrote B w1 w2 cb fb db D2 n2 K) : Wrote B w w2 cb fb db D2 n2 K :=
  ⟨h2.1, fun b h3 h4 h5 => (h2.2.1 b h3 h4 h5).trans (h.2.1 b h3 h4 h5), h.2.2.trans h2.2.2⟩
theorem Wrote.more {B : Nat} {w w1 w2 : World} {cb fb db : Nat} {D : DataW Value} {n : Nat} {K : Nat → Prop} (h : Wrote B w w1 cb fb db D n K) (hB : B ≤ w1.heap.size) (h2 : Below w1.heap.size w1 w2) : Wrote B w w2 cb fb db D n K := by
  have hs : ∀ b, b < w1.heap.size → w2.heap[b]? = w1.heap[b]? := fun b hb => h2.block b hb
  exact ⟨h.1.same hs h2.size, fun b h3 h4 h5 => (hs b (h.1.ks b h3)).trans (h.2.1 b h3 h4 h5), h.2.2.trans ⟨h2.os, h2.tape, h2.output, h2.size, fun k hk => h2.block k (Nat.lt_of_lt_of_le hk hB)⟩⟩
theorem cwrite_old {B : Nat} {w : World} {cb fb db : Nat} {D : DataW Value} {n : Nat} {K : Nat → Prop} (H : CV B w cb fb db D n K) {s : Nat} (hs : s < 130) {a : Option Addr} {c : Nat} (hd0 : w.cell? ⟨db, 0, none⟩ = some (.slice a 130 c)) (hd2 : w.cell? ⟨db, 2, none⟩ = some (.bool false))
    (hh : Maps.has D (.int .i64 (s : Int)) = true) {g m cp : Nat} (hm : m ≤ 256) (hg : BytesAt w g m) (hK : K g) (hgc : g ≠ cb) (hgf : g ≠ fb) :
    Calls Tryz.prog 99 #[.pointer (some ⟨cb, 0, none⟩), .int .i64 s, .slice (some ⟨g, 0, none⟩) m cp] w fun e w' => e = .returned (.int .i64 0) ∧ Wrote B w w' cb fb db D n K := by
  obtain ⟨b, hv, hB, hKb, hf⟩ := H.fr _ hh
  have M := cmay_ok H.c0 hd0 hd2 hs
  have hs2 : s < 2 ^ 62 := Nat.lt_trans hs (by decide)
  have hbc : b ≠ cb := fun e => hKb (e ▸ H.kc)
  have hbf : b ≠ fb := fun e => hKb (e ▸ H.kf)
  have hgb : g ≠ b := fun e => hKb (e ▸ hK)
  have U := use_ok H hs2 hbc hbf hf hv
  have hL := look_run H.own hs2 hv
  have c3 := H.c3
  have hl := cell_lt' c3
  have hm2 : decide (256 < (m : Int)) = false := by simp; omega
  have hm3 : ¬ (256 : Int) < (m : Int) := by omega
  have hgl := H.ks g hK
  have UU := Lib.hid (fun k => used H hKb hB hf k)
  have HH := Lib.hid H
  have HG := Lib.hid hg
  have HV := Lib.hid hv
  clear H hv hf hg hh hd0 hd2
  go_enter Tryz.func99, Tryz.ntmps99
  go_upto_region 12 with (first | (go_at_call 111; refine M.mono ?_; rintro e w5 ⟨rfl, rfl⟩) | (go_at_call 113; refine U.mono ?_; rintro e w5 ⟨rfl, k, rfl⟩))
  obtain ⟨hW, hF⟩ := UU.out k
  clear UU U M hL
  generalize ((w5.setCell ⟨cb, 2, none⟩ (.int .i64 k)).setCell ⟨b, 1, none⟩ (.int .i64 k)).drew = W1 at hW hF ⊢
  have hSt := fun x => stored hW.1 hKb hB hF x true
  obtain ⟨⟨v0, q0⟩, ⟨v1, q1⟩, ⟨v2, q2⟩, ⟨v3, q3⟩, fz⟩ := hF
  have fz0 := fz 0
  have fz2 := fz 2
  have hbl := cell_lt' q0
  have MK := mk22 W1
  have hHW := Lib.hid hW
  have hSH := Lib.hid hSt
  clear hW hSt
  go_upto_region 13 with (fail)
  obtain ⟨g1, g2⟩ := hSH.out (.slice (some ⟨W1.heap.size, 0, none⟩) 256 256)
  have g3 := hHW.out.trans g1
  have hz : ((W1.setCell ⟨b, 0, none⟩ (.slice (some ⟨W1.heap.size, 0, none⟩) 256 256)).setCell ⟨b, 2, none⟩ (.bool true)).heap.size = W1.heap.size := by simp [World.setCell]
  clear MK q0 q1 q2 q3 fz fz0 fz2 hSH g1
  generalize (W1.setCell ⟨b, 0, none⟩ (.slice (some ⟨W1.heap.size, 0, none⟩) 256 256)).setCell ⟨b, 2, none⟩ (.bool true) = W2 at g2 g3 hz ⊢
  rw [← hz] at g2 ⊢
  have hgW : BytesAt W2 g m := HG.out.same (g3.2.1 g hK hgc hgf)
  have hg2 : g < W2.heap.size := g3.1.ks g hK
  have hb2 := cell_lt' g2
  have hBW : B ≤ W2.heap.size := Nat.le_of_lt (Nat.lt_of_le_of_lt hB hb2)
  obtain ⟨bs, e1, e2⟩ := hgW
  have hnew : (W2.alloc (.cells zer.toArray 5)).heap[W2.heap.size]? = some (.cells zer.toArray 5 (0, 0)) := (Go.MapKept.heap_alloc W2 _).1
  have hsrc : ∀ j v, (bs.map (fun (x : Nat) => Value.int .u8 x))[j]? = some v → (W2.alloc (.cells zer.toArray 5)).cell? ((⟨g, 0, none⟩ : Addr).add j) = some v := fun j v hv => by
    have h5 : (⟨g, 0, none⟩ : Addr).add j = ⟨g, j, none⟩ := by simp [Addr.add]; intro h; exact h.symm
    rw [h5, (cell_of_heap (w := W2) (a := (⟨g, j, none⟩ : Addr)) (Go.Deep.blk_alloc_lt W2 _ g hg2)).1]
    exact e2 j v hv
  have hcell : (W2.alloc (.cells zer.toArray 5)).cell? ⟨b, 0, none⟩ = some (.slice (some ⟨W2.heap.size, 0, none⟩) 256 256) := by
    rw [(cell_of_heap (w := W2) (a := (⟨b, 0, none⟩ : Addr)) (Go.Deep.blk_alloc_lt W2 _ b hb2)).1]; exact g2
  have hbelow : Below W2.heap.size W2 (W2.alloc (.cells zer.toArray 5)) := Below.alloc (Below.refl _ _) (Nat.le_refl _) _
  have hlt3 : b < (W2.alloc (.cells zer.toArray 5)).heap.size := cell_lt' hcell
  generalize hW3 : W2.alloc (.cells zer.toArray 5) = W3 at hnew hsrc hcell hbelow hlt3 ⊢
  have HSRC := Lib.hid hsrc
  have HN := Lib.hid hnew
  have HB3 := Lib.hid hbelow
  have HG3 := Lib.hid g3
  clear hsrc hnew hbelow g3 g2 e2 hW3 HH hz
  generalize hnb : W2.heap.size = nb at hcell HN HB3 HG3 hg2 hb2 hBW
  have hfit : 0 + (bs.map (fun (x : Nat) => Value.int .u8 x)).length ≤ zer.length := by rw [zer_len, List.length_map, e1]; omega
  have hone : ∀ v ∈ bs.map (fun (x : Nat) => Value.int .u8 x), v.oneCell' = true := by intro v hv; obtain ⟨x, _, rfl⟩ := List.mem_map.1 hv; rfl
  have hmin : (bs.map (fun (x : Nat) => Value.int .u8 x)).length = Nat.min m 256 := by rw [List.length_map, e1]; exact (Nat.min_eq_left hm).symm
  generalize hCS : bs.map (fun (x : Nat) => Value.int .u8 x) = cs at hfit hone hmin HSRC
  clear hCS
  have HF := Lib.hid hfit
  have HO := Lib.hid hone
  have HM := Lib.hid hmin
  clear hfit hone hmin
  go_wp2_with (refine wpList_copy_splice rfl _ _ 22 22 rfl 5 Tryz.underlying22 sz5 _ _ _ _ _ _ rfl rfl nb 0 zer 5 HN.out cs HM.out (fun _ => ⟨rfl, ⟨_, rfl, HSRC.out⟩⟩) HF.out HO.out nb W2 HB3.out (Nat.le_refl _) ?_; intro w6 hg6 hb6)
  go_ret
  have hfin := HG3.out.more (hnb ▸ hBW) (by rw [hnb]; exact hb6)
  first | exact ⟨rfl, hfin⟩ | exact ⟨rfl, _, hfin⟩
end Go.Tb
namespace Go.Tb
open Go Go.RowKit Go.Proofs Go.Maps
theorem lit_ne {x y : Int} (h : x ≠ y) : (Lit.int .i64 x) ≠ .int .i64 y := fun e => h (by injection e)
theorem CV.added {B : Nat} {w w1 w2 : World} {cb fb db : Nat} {D : DataW Value} {n : Nat} {K : Nat → Prop} (H : CV B w cb fb db D n K) (hb1 : Below w.heap.size w w1) {nb : Nat} (hnb : w.heap.size ≤ nb) (hf : FrOK w1 nb) {s : Nat}
    (own : w2.ownsMap Tryz.prog 3 heldR fb (n + 1) (D.put (.int .i64 (s : Int)) (.held (.pointer (some ⟨nb, 0, none⟩))))) (hm : w1.mapTurned w2 fb) :
    Wrote B w w2 cb fb db (D.put (.int .i64 (s : Int)) (.held (.pointer (some ⟨nb, 0, none⟩)))) (n + 1) K ∧ FrOK w2 nb ∧ ¬ K nb ∧ B ≤ nb ∧ ∀ z, (D.put (.int .i64 (s : Int)) (.held (.pointer (some ⟨nb, 0, none⟩)))).atKey (.int .i64 (s : Int)) z = .held (.pointer (some ⟨nb, 0, none⟩)) := by
  have hs : ∀ b, b < w.heap.size → w1.heap[b]? = w.heap[b]? := hb1.block
  have hz := hb1.size
  have hB : B ≤ w.heap.size := Nat.le_trans H.Bc (Nat.le_of_lt (H.ks cb H.kc))
  have hg := hm.grown
  have hbl : ∀ b, b < w1.heap.size → b ≠ fb → w2.heap[b]? = w1.heap[b]? := fun b hb hne => hg.block b hb (fun e => hne (Option.some.inj e))
  have hbl2 : ∀ b, b < w.heap.size → b ≠ fb → w2.heap[b]? = w.heap[b]? := fun b hb hne => (hbl b (Nat.lt_of_lt_of_le hb hz) hne).trans (hs b hb)
  have hc := fun o => (cell_of_heap (a := ⟨cb, o, none⟩) (hbl2 cb (H.ks cb H.kc) H.cf)).1
  have hfz := fun o => (cell_of_heap (a := ⟨cb, o, none⟩) (hbl2 cb (H.ks cb H.kc) H.cf)).2
  have hK : ¬ K nb := fun h => absurd (H.ks nb h) (Nat.not_lt.2 hnb)
  have hne : nb ≠ fb := fun e => hK (e ▸ H.kf)
  have hf2 : FrOK w2 nb := hf.same (hbl nb hf.lt hne)
  have hD := H.own.isMap
  have hsz : w.heap.size ≤ w2.heap.size := Nat.le_trans hz hg.size
  have hat : ∀ z, (D.put (.int .i64 (s : Int)) (.held (.pointer (some ⟨nb, 0, none⟩)))).atKey (.int .i64 (s : Int)) z = .held (.pointer (some ⟨nb, 0, none⟩)) := fun z => atKey_put_same hD (by trivial) _ _
  refine ⟨⟨{ c0 := (hc _).trans H.c0, c1 := (hc _).trans H.c1, c2 := ?_, c3 := (hc _).trans H.c3, cz := fun o ho => (hfz o).trans (H.cz o ho), own := own, fr := fun x hx => ?_, kc := H.kc, kf := H.kf, kd := H.kd, ks := fun b hb => Nat.lt_of_lt_of_le (H.ks b hb) hsz, Bc := H.Bc, Bf := H.Bf, cf := H.cf }, fun b h1 h2 h3 => hbl2 b (H.ks b h1) h3, ?_⟩, hf2, hK, Nat.le_trans hB hnb, hat⟩
  · obtain ⟨k, h⟩ := H.c2; exact ⟨k, (hc _).trans h⟩
  · by_cases e : x = (s : Int)
    · subst e; exact ⟨nb, hat, Nat.le_trans hB hnb, hK, hf2⟩
    · rw [has_put_other (lit_ne e)] at hx
      obtain ⟨b, h1, h2, h3, h4⟩ := H.fr x hx
      exact ⟨b, fun z => by rw [atKey_put_other (lit_ne e)]; exact h1 z, h2, h3, h4.same (hbl2 b h4.lt (fun e => h3 (e ▸ H.kf)))⟩
  · exact Below.grown (w := w1) ⟨hb1.os, hb1.tape, hb1.output, hb1.size, fun k hk => hb1.block k (Nat.lt_of_lt_of_le hk hB)⟩ hg (Nat.le_trans hB hz) (fun k hk => by cases hk; exact H.Bf)
theorem look_none {w : World} {fb n : Nat} {D : DataW Value} (h : w.ownsMap Tryz.prog 3 heldR fb n D) {s : Nat} (hs : s < 2 ^ 62) (hh : Maps.has D (.int .i64 (s : Int)) = false) :
    (Instr.lookup 119 (.map (some fb)) (.int .i64 (s : Int)) false).run Tryz.prog w = .ok (.pointer none) w := by
  obtain ⟨v, h1, h2⟩ := held_look h key3 Tryz.underlying119 (Tryz.zeroValue118 w) (key_nat hs)
  rw [atKey_of_not_has hh] at h2
  injection h2 with h2
  rw [h2]; exact h1
def fr0 : Array Value := #[.slice none 0 0, .int .i64 0, .bool false, .int .i64 0]
theorem cell_new (w : World) (cs : Array Value) (t : TypeId) (i : Nat) : (w.alloc (.cells cs t)).cell? ⟨w.heap.size, i, none⟩ = cs[i]? := by
  have h := (Go.MapKept.heap_alloc w (.cells cs t)).1
  generalize w.alloc (.cells cs t) = W at h ⊢
  simp [World.cell?, h]
theorem fz_new (w : World) (cs : Array Value) (t : TypeId) (i : Nat) : (w.alloc (.cells cs t)).frozen? ⟨w.heap.size, i, none⟩ = false := by
  have h := (Go.MapKept.heap_alloc w (.cells cs t)).1
  generalize w.alloc (.cells cs t) = W at h ⊢
  simp [World.frozen?, h]
theorem fr0_ok (w : World) (t : TypeId) : FrOK (w.alloc (.cells fr0 t)) w.heap.size :=
  ⟨⟨_, (cell_new w fr0 t 0).trans rfl⟩, ⟨_, (cell_new w fr0 t 1).trans rfl⟩, ⟨_, (cell_new w fr0 t 2).trans rfl⟩, ⟨_, (cell_new w fr0 t 3).trans rfl⟩, fun o => fz_new w fr0 t o⟩
theorem Wrote.trans2 {B : Nat} {w w1 w2 : World} {cb fb db : Nat} {D D2 : DataW Value} {n n2 : Nat} {K : Nat → Prop} (h : Wrote B w w1 cb fb db D n K) (h2 : Wrote B w1 w2 cb fb db D2 n2 K) : Wrote B w w2 cb fb db D2 n2 K := h.trans h2
theorem cwrite_new {B : Nat} {w : World} {cb fb db : Nat} {D : DataW Value} {n : Nat} {K : Nat → Prop} (H : CV B w cb fb db D n K) (hn : n < 20) {s : Nat} (hs : s < 130) {a : Option Addr} {c : Nat} (hd0 : w.cell? ⟨db, 0, none⟩ = some (.slice a 130 c)) (hd2 : w.cell? ⟨db, 2, none⟩ = some (.bool false))
    (hh : Maps.has D (.int .i64 (s : Int)) = false) {g m cp : Nat} (hm : m ≤ 256) (hg : BytesAt w g m) (hK : K g) (hgc : g ≠ cb) (hgf : g ≠ fb) :
    Calls Tryz.prog 99 #[.pointer (some ⟨cb, 0, none⟩), .int .i64 s, .slice (some ⟨g, 0, none⟩) m cp] w fun e w' => e = .returned (.int .i64 0) ∧ ∃ nb, Wrote B w w' cb fb db (D.put (.int .i64 (s : Int)) (.held (.pointer (some ⟨nb, 0, none⟩)))) (n + 1) K := by
  have M := cmay_ok H.c0 hd0 hd2 hs
  have R := room_ok H hn
  have hs2 : s < 2 ^ 62 := Nat.lt_trans hs (by decide)
  have hL := look_none H.own hs2 hh
  have c3 := H.c3
  have hl := cell_lt' c3
  have hm2 : decide (256 < (m : Int)) = false := by simp; omega
  have hm3 : ¬ (256 : Int) < (m : Int) := by omega
  have hgl := H.ks g hK
  have hown : ∀ o, (w.alloc o).drew.ownsMap Tryz.prog 3 heldR fb n D := fun o => World.ownsMap.drew (World.ownsMap.alloc H.own o)
  have HOWN := Lib.hid hown
  have HH := Lib.hid H
  have HG := Lib.hid hg
  clear H hg hh hd0 hd2 hown
  go_enter Tryz.func99, Tryz.ntmps99
  go_upto_region 11 with (first | (go_at_call 111; refine M.mono ?_; rintro e w5 ⟨rfl, rfl⟩) | (go_at_call 112; refine R.mono ?_; rintro e w5 ⟨rfl, rfl⟩) | (at_mapUpdate; go_loud (refine wpList_mapUpdate_in _ rfl _ _ _ 119 rfl 3 118 key3 Tryz.underlying119 heldR fb n D rfl (HOWN.out _) (Nat.lt_trans hn (by decide)) _ (.pointer (some ⟨w5.heap.size, 0, none⟩)) _ rfl rfl (key_nat hs2) _ _ rfl ?_; intro w7 how hmt)))
  obtain ⟨A1, A2, hKb, hB, A5⟩ := CV.added HH.out (w1 := (w5.alloc (.cells fr0 117)).drew) (Below.drew (Below.alloc (Below.refl _ _) (Nat.le_refl _) _)) (Nat.le_refl _) (FrOK.same (fr0_ok w5 117) rfl) how hmt
  have hgw : g < w5.heap.size := hgl
  clear how hmt HOWN M R hL c3 hl hgl
  generalize w5.heap.size = b at A1 A2 hKb hB A5 hgw ⊢
  generalize hDD : D.put (.int .i64 (s : Int)) (.held (.pointer (some ⟨b, 0, none⟩))) = DD at A1 A5
  have hgb : g ≠ b := fun e => hKb (e ▸ hK)
  have hbc : b ≠ cb := fun e => hKb (e ▸ A1.1.kc)
  have hbf : b ≠ fb := fun e => hKb (e ▸ A1.1.kf)
  have U := use_ok A1.1 hs2 hbc hbf A2 A5
  have UU := Lib.hid (fun k => used A1.1 hKb hB A2 k)
  have HA := Lib.hid A1
  have HDD := Lib.hid hDD
  clear A1 A2 A5 hDD
  go_upto_region 12 with (first | (go_at_call 113; refine U.mono ?_; rintro e w8 ⟨rfl, k, rfl⟩))
  obtain ⟨hW0, hF⟩ := UU.out k
  have hW := HA.out.trans hW0
  clear UU U hW0
  generalize ((w7.setCell ⟨cb, 2, none⟩ (.int .i64 k)).setCell ⟨b, 1, none⟩ (.int .i64 k)).drew = W1 at hW hF ⊢
  obtain rfl := HDD.out
  clear HDD HA
  have hSt := fun x => stored hW.1 hKb hB hF x true
  obtain ⟨⟨v0, q0⟩, ⟨v1, q1⟩, ⟨v2, q2⟩, ⟨v3, q3⟩, fz⟩ := hF
  have fz0 := fz 0
  have fz2 := fz 2
  have hbl := cell_lt' q0
  have MK := mk22 W1
  have hHW := Lib.hid hW
  have hSH := Lib.hid hSt
  clear hW hSt
  go_upto_region 13 with (fail)
  obtain ⟨g1, g2⟩ := hSH.out (.slice (some ⟨W1.heap.size, 0, none⟩) 256 256)
  have g3 := hHW.out.trans g1
  have hz : ((W1.setCell ⟨b, 0, none⟩ (.slice (some ⟨W1.heap.size, 0, none⟩) 256 256)).setCell ⟨b, 2, none⟩ (.bool true)).heap.size = W1.heap.size := by simp [World.setCell]
  clear MK q0 q1 q2 q3 fz fz0 fz2 hSH g1
  generalize (W1.setCell ⟨b, 0, none⟩ (.slice (some ⟨W1.heap.size, 0, none⟩) 256 256)).setCell ⟨b, 2, none⟩ (.bool true) = W2 at g2 g3 hz ⊢
  rw [← hz] at g2 ⊢
  have hgW : BytesAt W2 g m := HG.out.same (g3.2.1 g hK hgc hgf)
  have hg2 : g < W2.heap.size := g3.1.ks g hK
  have hb2 := cell_lt' g2
  have hBW : B ≤ W2.heap.size := Nat.le_of_lt (Nat.lt_of_le_of_lt hB hb2)
  obtain ⟨bs, e1, e2⟩ := hgW
  have hnew : (W2.alloc (.cells zer.toArray 5)).heap[W2.heap.size]? = some (.cells zer.toArray 5 (0, 0)) := (Go.MapKept.heap_alloc W2 _).1
  have hsrc : ∀ j v, (bs.map (fun (x : Nat) => Value.int .u8 x))[j]? = some v → (W2.alloc (.cells zer.toArray 5)).cell? ((⟨g, 0, none⟩ : Addr).add j) = some v := fun j v hv => by
    have h5 : (⟨g, 0, none⟩ : Addr).add j = ⟨g, j, none⟩ := by simp [Addr.add]; intro h; exact h.symm
    rw [h5, (cell_of_heap (w := W2) (a := (⟨g, j, none⟩ : Addr)) (Go.Deep.blk_alloc_lt W2 _ g hg2)).1]
    exact e2 j v hv
  have hcell : (W2.alloc (.cells zer.toArray 5)).cell? ⟨b, 0, none⟩ = some (.slice (some ⟨W2.heap.size, 0, none⟩) 256 256) := by
    rw [(cell_of_heap (w := W2) (a := (⟨b, 0, none⟩ : Addr)) (Go.Deep.blk_alloc_lt W2 _ b hb2)).1]; exact g2
  have hbelow : Below W2.heap.size W2 (W2.alloc (.cells zer.toArray 5)) := Below.alloc (Below.refl _ _) (Nat.le_refl _) _
  have hlt3 : b < (W2.alloc (.cells zer.toArray 5)).heap.size := cell_lt' hcell
  generalize hW3 : W2.alloc (.cells zer.toArray 5) = W3 at hnew hsrc hcell hbelow hlt3 ⊢
  have HSRC := Lib.hid hsrc
  have HN := Lib.hid hnew
  have HB3 := Lib.hid hbelow
  have HG3 := Lib.hid g3
  clear hsrc hnew hbelow g3 g2 e2 hW3 HH hz
  generalize hnb : W2.heap.size = nb at hcell HN HB3 HG3 hg2 hb2 hBW
  have hfit : 0 + (bs.map (fun (x : Nat) => Value.int .u8 x)).length ≤ zer.length := by rw [zer_len, List.length_map, e1]; omega
  have hone : ∀ v ∈ bs.map (fun (x : Nat) => Value.int .u8 x), v.oneCell' = true := by intro v hv; obtain ⟨x, _, rfl⟩ := List.mem_map.1 hv; rfl
  have hmin : (bs.map (fun (x : Nat) => Value.int .u8 x)).length = Nat.min m 256 := by rw [List.length_map, e1]; exact (Nat.min_eq_left hm).symm
  generalize hCS : bs.map (fun (x : Nat) => Value.int .u8 x) = cs at hfit hone hmin HSRC
  clear hCS
  have HF := Lib.hid hfit
  have HO := Lib.hid hone
  have HM := Lib.hid hmin
  clear hfit hone hmin
  go_wp2_with (refine wpList_copy_splice rfl _ _ 22 22 rfl 5 Tryz.underlying22 sz5 _ _ _ _ _ _ rfl rfl nb 0 zer 5 HN.out cs HM.out (fun _ => ⟨rfl, ⟨_, rfl, HSRC.out⟩⟩) HF.out HO.out nb W2 HB3.out (Nat.le_refl _) ?_; intro w6 hg6 hb6)
  go_ret
  have hfin := HG3.out.more (hnb ▸ hBW) (by rw [hnb]; exact hb6)
  first | exact ⟨rfl, hfin⟩ | exact ⟨rfl, _, hfin⟩
end Go.Tb
namespace Go.Tb
open Go Go.RowKit Go.Proofs Go.Maps
theorem cwrite_ok {B : Nat} {w : World} {cb fb db : Nat} {D : DataW Value} {n : Nat} {K : Nat → Prop} (H : CV B w cb fb db D n K) (hn : n < 20) {s : Nat} (hs : s < 130) {a : Option Addr} {c : Nat} (hd0 : w.cell? ⟨db, 0, none⟩ = some (.slice a 130 c)) (hd2 : w.cell? ⟨db, 2, none⟩ = some (.bool false))
    {g m cp : Nat} (hm : m ≤ 256) (hg : BytesAt w g m) (hK : K g) (hgc : g ≠ cb) (hgf : g ≠ fb) :
    Calls Tryz.prog 99 #[.pointer (some ⟨cb, 0, none⟩), .int .i64 s, .slice (some ⟨g, 0, none⟩) m cp] w fun e w' => e = .returned (.int .i64 0) ∧
      ∃ D' n', Wrote B w w' cb fb db D' n' K ∧ (∀ x : Int, Maps.has D' (.int .i64 x) = (Maps.has D (.int .i64 x) || decide (x = (s : Int)))) ∧ n' ≤ n + 1 ∧ (Maps.has D (.int .i64 (s : Int)) = true → n' = n) := by
  cases hh : Maps.has D (.int .i64 (s : Int)) with
  | true =>
    refine (cwrite_old H hs hd0 hd2 hh hm hg hK hgc hgf (cp := cp)).mono ?_
    rintro e w' ⟨rfl, hW⟩
    refine ⟨rfl, D, n, hW, fun x => ?_, Nat.le_succ _, fun _ => rfl⟩
    by_cases e : x = (s : Int)
    · subst e; simp [hh]
    · simp [e]
  | false =>
    refine (cwrite_new H hn hs hd0 hd2 hh hm hg hK hgc hgf (cp := cp)).mono ?_
    rintro e w' ⟨rfl, nb, hW⟩
    refine ⟨rfl, _, n + 1, hW, fun x => ?_, Nat.le_refl _, fun h => by cases h⟩
    by_cases e : x = (s : Int)
    · subst e; simp [has_put_same H.own.isMap (show WideAt.IsKeyLit (.int .i64 (s : Int)) from trivial)]
    · rw [has_put_other (lit_ne e)]; simp [e]
theorem turned_ok {w : World} {sb ob rb : Nat} {fo fr : Nat → Nat} {p : Nat} (h14 : w.cell? ⟨sb, 14, none⟩ = some (.pointer (some ⟨ob, 0, none⟩))) (h13 : w.cell? ⟨sb, 13, none⟩ = some (.pointer (some ⟨rb, 0, none⟩))) (ho : MapV w ob fo) (hr : MapV w rb fr) (hp : p < 1024) (h0 : fr p = 0) :
    Calls Tryz.prog 59 #[.pointer (some ⟨sb, 0, none⟩), .int .i64 p] w fun e w' => e = .returned (.tuple #[.int .i64 (fo p), .bool (decide (0 < fo p))]) ∧ w' = w := by
  have hne0 : ob = ob := rfl
  have G1 := get_ok ho hp
  have G2 := get_ok hr hp
  rw [h0] at G2
  have hl := cell_lt' h14
  clear ho hr
  by_cases hf : 0 < fo p
  · rw [decide_eq_true hf] at G1 ⊢
    have hne : ((fo p : Int) == 0) = false := by simp; omega
    have hne2 : ¬ (fo p : Int) = 0 := by omega
    generalize fo p = q at G1 hne hne2 hf
    have HQ := Lib.hid hf
    clear hf
    go_enter Tryz.func59, Tryz.ntmps59
    go_wp2_with (first | (go_at_call_of 49 (Value.pointer (some ⟨ob, 0, none⟩)); refine G1.mono ?_; rintro e w5 ⟨rfl, hw⟩; subst hw) | (go_at_call_of 49 (Value.pointer (some ⟨rb, 0, none⟩)); refine G2.mono ?_; rintro e w5 ⟨rfl, hw⟩; subst hw))
    go_ret2
    have hb : ((q : Int) != 0) = true := by simp [bne, hne]
    refine ⟨?_, rfl⟩
    show Ending.returned (.tuple #[.int .i64 (q : Int), .bool ((q : Int) != 0)]) = _
    rw [hb]
  · rw [decide_eq_false hf] at G1 ⊢
    have e : fo p = 0 := by omega
    rw [e] at G1 ⊢
    go_enter Tryz.func59, Tryz.ntmps59
    go_wp2_with (first | (go_at_call_of 49 (Value.pointer (some ⟨ob, 0, none⟩)); refine G1.mono ?_; rintro e w5 ⟨rfl, hw⟩; subst hw) | (go_at_call_of 49 (Value.pointer (some ⟨rb, 0, none⟩)); refine G2.mono ?_; rintro e w5 ⟨rfl, hw⟩; subst hw))
    go_ret2
    exact ⟨rfl, rfl⟩
end Go.Tb
namespace Go.Tb
open Go Go.RowKit Go.Proofs Go.Maps
def tabN (k : Nat) : Nat := Nat.mod (Nat.shiftRight 9937593612760466100516450665319420528403982636753068485404800763335476026940182181175496972418787619281442302519629725716261212251300561153615832085954560 (Nat.mul 32 k)) 4294967296
theorem tabN_lt (k : Nat) : tabN k < 4294967296 := Nat.mod_lt _ (by decide)
def nib (x : Nat) : Nat := Nat.xor (Nat.div x 16) (tabN (Nat.mod x 16))
theorem nib_lt {x : Nat} (h : x < 4294967296) : nib x < 4294967296 := Nat.xor_lt_two_pow (n := 32) (show x / 16 < _ by omega) (tabN_lt _)
def crcStep (r c : Nat) : Nat := nib (nib (Nat.xor r c))
theorem crcStep_lt {r c : Nat} (h : r < 4294967296) (hc : c < 256) : crcStep r c < 4294967296 := nib_lt (nib_lt (Nat.xor_lt_two_pow (n := 32) h (by omega)))
def crcUpto (bs : Nat → Nat) (s : Nat) : Nat → Nat
  | 0 => s
  | k + 1 => crcStep (crcUpto bs s k) (bs k)
theorem crcUpto_lt {bs : Nat → Nat} {s : Nat} (hs : s < 4294967296) : ∀ k, (∀ i, i < k → bs i < 256) → crcUpto bs s k < 4294967296
  | 0, _ => hs
  | k + 1, h => crcStep_lt (crcUpto_lt hs k fun i hi => h i (by omega)) (h k (by omega))
theorem and15 {x : Nat} (h : x < 4294967296) : bits .and .u32 (x : Int) 15 = ((x % 16 : Nat) : Int) := by
  have := u32_and_nat x 15 h (by decide)
  rw [nat_mask4] at this
  exact this
theorem xorDiv {x y : Nat} (h : x < 4294967296) (hy : y < 4294967296) : bits .xor .u32 ((x : Int) / 16) (y : Int) = ((Nat.xor (x / 16) y : Nat) : Int) := u32_xor_nat (x / 16) y (by omega) hy
def Fours : Prop := ∀ w : World, Calls Tryz.prog 134 #[] w fun e w' => e = .returned (.agg #[.int .u32 0, .int .u32 498536548, .int .u32 997073096, .int .u32 651767980, .int .u32 1994146192, .int .u32 1802195444, .int .u32 1303535960, .int .u32 1342533948, .int .u32 3988292384, .int .u32 4027552580, .int .u32 3604390888, .int .u32 3412177804, .int .u32 2607071920, .int .u32 2262029012, .int .u32 2685067896, .int .u32 3183342108]) ∧ Below w.heap.size w w'
theorem crc_walk {w : World} {B o n c s : Nat} {bs : Nat → Nat} (hs : s < 4294967296) (hn : n ≤ 1048576) (hb : ∀ k, k < n → bs k < 256 ∧ w.cell? ⟨B, o + k, none⟩ = some (.int .u8 (bs k)))
    (hf : Fours) :
    Calls Tryz.prog 106 #[.int .u32 s, .slice (some ⟨B, o, none⟩) n c] w fun e w' => e = .returned (.int .u32 ((Nat.xor 4294967295 (crcUpto bs (Nat.xor 4294967295 s) n) : Nat) : Int)) ∧ Below w.heap.size w w' := by
  go_enter Tryz.func106, Tryz.ntmps106
  go_wp2_with fail
  go_call hf w as e w1 ⟨he, hb1⟩
  subst he
  go_wp2
  have hW : ∃ W, W = (w1.alloc (Obj.cells #[.int .u32 0, .int .u32 498536548, .int .u32 997073096, .int .u32 651767980, .int .u32 1994146192, .int .u32 1802195444, .int .u32 1303535960, .int .u32 1342533948, .int .u32 3988292384, .int .u32 4027552580, .int .u32 3604390888, .int .u32 3412177804, .int .u32 2607071920, .int .u32 2262029012, .int .u32 2685067896, .int .u32 3183342108] 196)) := ⟨_, rfl⟩
  obtain ⟨W, hW⟩ := hW
  rw [← hW]
  have hT : ∀ k, k < 16 → W.cell? ⟨w1.heap.size, k, none⟩ = some (.int .u32 (tabN k)) := by
    subst hW
    intro k hk
    rw [World.cell?_alloc_new]
    have hk' : k = 0 ∨ k = 1 ∨ k = 2 ∨ k = 3 ∨ k = 4 ∨ k = 5 ∨ k = 6 ∨ k = 7 ∨ k = 8 ∨ k = 9 ∨ k = 10 ∨ k = 11 ∨ k = 12 ∨ k = 13 ∨ k = 14 ∨ k = 15 := by omega
    rcases hk' with rfl | rfl | rfl | rfl | rfl | rfl | rfl | rfl | rfl | rfl | rfl | rfl | rfl | rfl | rfl | rfl <;> rfl
  have hbl : Below w.heap.size w W := by subst hW; exact hb1.alloc hb1.size _
  have hc : ∀ k, k < n → W.cell? ⟨B, o + k, none⟩ = some (.int .u8 (bs k)) := by
    intro k hk
    have h1 := (hb k hk).2
    rw [hbl.cell]
    · exact h1
    · show B < w.heap.size
      rcases Nat.lt_or_ge B w.heap.size with h | h
      · exact h
      · have : w.heap[B]? = none := Array.getElem?_eq_none h
        simp [World.cell?, this] at h1
  clear hW
  have hsx : bits .xor .u32 IntKind.u32.max (s : Int) = ((Nat.xor 4294967295 s : Nat) : Int) := u32_xor_nat 4294967295 s (by decide) hs
  rw [hsx]
  have hs1 : Nat.xor 4294967295 s < 4294967296 := Nat.xor_lt_two_pow (n := 32) (by decide) hs
  generalize hs1e : Nat.xor 4294967295 s = s1 at hs1
  go_loop [6, 14] (fun r i => ∃ k : Nat, k ≤ n ∧ i = .int .i64 k ∧ r = .int .u32 (crcUpto bs s1 k : Nat)) (fun _ i => n - (Go.RowKit.intOf i).toNat)
  case atStart => exact ⟨0, Nat.zero_le _, rfl, rfl⟩
  case round =>
    obtain ⟨k, hk, rfl, rfl⟩ := hrel
    have hx : crcUpto bs s1 k < 4294967296 := crcUpto_lt hs1 k fun i hi => (hb i (by omega)).1
    have hst : crcUpto bs s1 (k + 1) = crcStep (crcUpto bs s1 k) (bs k) := rfl
    generalize hxx : crcUpto bs s1 k = x at hx hst
    by_cases hkn : k < n
    · have hcell := hc k hkn
      have hbk := (hb k hkn).1
      have e1 : bits .xor .u32 (x : Int) (bs k : Int) = ((Nat.xor x (bs k) : Nat) : Int) := u32_xor_nat x (bs k) hx (by omega)
      have hx1 : Nat.xor x (bs k) < 4294967296 := Nat.xor_lt_two_pow (n := 32) hx (by omega)
      unfold crcStep at hst
      generalize Nat.xor x (bs k) = x1 at e1 hx1 hst
      have e2 := and15 hx1
      have t1 := hT (x1 % 16) (by omega)
      have e3 := xorDiv hx1 (tabN_lt (x1 % 16))
      have hx2 : nib x1 < 4294967296 := nib_lt hx1
      change bits .xor .u32 ((x1 : Int) / 16) _ = ((nib x1 : Nat) : Int) at e3
      generalize tabN (x1 % 16) = y1 at t1 e3
      generalize nib x1 = x2 at e3 hx2 hst
      have e4 := and15 hx2
      have t2 := hT (x2 % 16) (by omega)
      have e5 := xorDiv hx2 (tabN_lt (x2 % 16))
      change bits .xor .u32 ((x2 : Int) / 16) _ = ((nib x2 : Nat) : Int) at e5
      generalize tabN (x2 % 16) = y2 at t2 e5
      generalize nib x2 = x3 at e5 hst
      go_hidden (go_wp2)
      go_round
      case rel => exact ⟨k + 1, by omega, by simp, by rw [hst]⟩
      case measure => simp [Go.RowKit.intOf]; omega
    · obtain rfl : k = n := by omega
      have e6 : bits .xor .u32 IntKind.u32.max (x : Int) = ((Nat.xor 4294967295 x : Nat) : Int) := u32_xor_nat 4294967295 x (by decide) hx
      go_hidden (go_wp2)
      go_ret
      show _ = Ending.returned (.int .u32 ((Nat.xor 4294967295 (crcUpto bs (Nat.xor 4294967295 s) k) : Nat) : Int)) ∧ _
      rw [hs1e, hxx]
      exact ⟨rfl, hbl⟩
theorem sum_ok (hf : Fours) {w : World} {B n c : Nat} {bs : Nat → Nat} (hn : n ≤ 1048576) (hb : ∀ k, k < n → bs k < 256 ∧ w.cell? ⟨B, 0 + k, none⟩ = some (.int .u8 (bs k))) :
    Calls Tryz.prog 73 #[.slice (some ⟨B, 0, none⟩) n c] w fun e w' => (∃ x : Nat, x < 4294967296 ∧ e = .returned (.int .u32 x)) ∧ Below w.heap.size w w' := by
  have H := crc_walk (w := w) (B := B) (o := 0) (n := n) (c := c) (s := 0) (bs := bs) (by decide) hn hb hf
  have hx : Nat.xor 4294967295 (crcUpto bs (Nat.xor 4294967295 0) n) < 4294967296 := Nat.xor_lt_two_pow (n := 32) (by decide) (crcUpto_lt (by decide) n fun i hi => (hb i hi).1)
  generalize Nat.xor 4294967295 (crcUpto bs (Nat.xor 4294967295 0) n) = x at H hx
  have HX := Lib.hid hx
  clear hx hb
  go_enter Tryz.func73, Tryz.ntmps73
  go_wp2_with (go_at_call 106; refine H.mono ?_; rintro e w5 ⟨rfl, hb⟩)
  go_ret
  exact ⟨⟨x, HX.out, rfl⟩, hb⟩
end Go.Tb
namespace Go.Tb
open Go Go.RowKit Go.Proofs Go.Maps
structure EV (w : World) (eb : Nat) (E : DataW Value) (n : Nat) : Prop where
  own : w.ownsMap Tryz.prog 3 heldR eb n E
  val : ∀ x : Int, Maps.has E (.int .i64 x) = true → ∃ p s : Int, ∀ z, E.atKey (.int .i64 x) z = .held (.agg #[.int .i64 p, .int .i64 s])
theorem EV.at {w : World} {eb : Nat} {E : DataW Value} {n : Nat} (h : EV w eb E n) (x : Int) : ∃ p s : Int, ∀ v, E.atKey (.int .i64 x) (.held (.agg #[.int .i64 0, .int .i64 0])) = .held v → v = .agg #[.int .i64 p, .int .i64 s] := by
  cases hh : Maps.has E (.int .i64 x) with
  | true =>
    obtain ⟨p, s, hv⟩ := h.val x hh
    refine ⟨p, s, fun v h => ?_⟩
    rw [hv] at h; injection h with h; exact h.symm
  | false =>
    refine ⟨0, 0, fun v h => ?_⟩
    rw [atKey_of_not_has hh] at h; injection h with h; exact h.symm
theorem EV.look_ok {w : World} {eb : Nat} {E : DataW Value} {n : Nat} (h : EV w eb E n) {x : Nat} (hx : x < 2 ^ 62) : ∃ p s : Int, ∀ W : World, W.heap[eb]? = w.heap[eb]? →
    (Instr.lookup 55 (.map (some eb)) (.int .i64 (x : Int)) true).run Tryz.prog W = .ok (.tuple #[.agg #[.int .i64 p, .int .i64 s], .bool (Maps.has E (.int .i64 (x : Int)))]) W := by
  obtain ⟨p, s, hv⟩ := h.at x
  refine ⟨p, s, fun W hW => ?_⟩
  have hown : W.ownsMap Tryz.prog 3 heldR eb n E := by
    obtain ⟨es, clock, hb, hr⟩ := h.own
    exact ⟨es, clock, hW.trans hb, hr⟩
  obtain ⟨v, h1, h2⟩ := held_look_ok hown key3 Tryz.underlying55 (Tryz.zeroValue62 W) (key_nat hx)
  rw [hv v h2] at h1
  exact h1
theorem EV.same {w w' : World} {eb : Nat} {E : DataW Value} {n : Nat} (h : EV w eb E n) (hs : w'.heap[eb]? = w.heap[eb]?) : EV w' eb E n := by
  obtain ⟨es, clock, hb, hr⟩ := h.own
  exact ⟨⟨es, clock, hs.trans hb, hr⟩, h.val⟩
theorem tget_ok {w : World} {tb eb : Nat} {E : DataW Value} {n : Nat} (h1 : w.cell? ⟨tb, 1, none⟩ = some (.map (some eb))) (h : EV w eb E n) {x : Nat} (hx : x < 2 ^ 62) :
    Calls Tryz.prog 12 #[.pointer (some ⟨tb, 0, none⟩), .int .i64 x] w fun e w' => (∃ p s : Int, e = .returned (.tuple #[.int .i64 p, .int .i64 s, .bool (Maps.has E (.int .i64 (x : Int)))])) ∧ Below w.heap.size w w' := by
  obtain ⟨p, s, hL⟩ := h.look_ok hx
  have hL1 := hL w rfl
  have hl := cell_lt' h1
  generalize Maps.has E (.int .i64 (x : Int)) = hb at hL1
  clear hL h
  go_enter Tryz.func12, Tryz.ntmps12
  go_wp2
  go_region
  go_wp2
  go_ret3
  exact ⟨⟨p, s, rfl⟩, by (repeat (first | exact Below.refl _ _ | assumption | refine Below.drew ?_ | refine Below.alloc ?_ (by first | (simp; done) | (simp; omega)) _))⟩
theorem low_ok {w : World} {tb eb : Nat} {E : DataW Value} {n : Nat} (h1 : w.cell? ⟨tb, 1, none⟩ = some (.map (some eb))) (h : EV w eb E n) {q : Nat} (hq : 1 ≤ q ∧ q ≤ 16384) (hn : Maps.has E (.int .i64 (q : Int)) = false) (ha : ∀ x : Nat, 1 ≤ x → x < q → Maps.has E (.int .i64 (x : Int)) = true) :
    Calls Tryz.prog 9 #[.pointer (some ⟨tb, 0, none⟩)] w fun e w' => e = .returned (.tuple #[.int .i64 q, .bool true]) ∧ Below w.heap.size w w' := by
  have hl := cell_lt' h1
  have HE := Lib.hid h
  have HA := Lib.hid ha
  have HN := Lib.hid hn
  have HQ := Lib.hid hq
  have hel := h.own.lt
  clear h ha hn hq
  go_enter Tryz.func9, Tryz.ntmps9
  go_wp2
  go_loopw [4] (fun v wr => ∃ k : Nat, v = .int .i64 k ∧ 1 ≤ k ∧ k ≤ q ∧ Below w.heap.size w wr) (fun v _ => q + 1 - (Go.RowKit.intOf v).toNat)
  case atStart => exact ⟨1, rfl, Nat.le_refl _, HQ.out.1, Below.refl _ _⟩
  case round =>
    obtain ⟨k, rfl, hk1, hk2, hbl⟩ := hrel
    have hq2 := HQ.out.2
    have i1 : (k : Int) ≤ 16384 := by omega
    have HB := Lib.hid hbl
    have c1 := (hbl.cell (p := ⟨tb, 1, none⟩) hl).trans h1
    have hl2 := cell_lt' c1
    obtain ⟨p, s, hL⟩ := HE.out.look_ok (x := k) (by omega)
    have hL1 := hL wr (hbl.block eb hel)
    clear hL hbl
    by_cases e : k = q
    · subst e
      rw [HN.out] at hL1
      go_hidden (go_wp2)
      go_ret2
      exact ⟨rfl, HB.out.alloc HB.out.size _⟩
    · rw [HA.out k hk1 (by omega)] at hL1
      go_hidden (go_wp2)
      exact ⟨⟨k + 1, by simp, by omega, by omega, HB.out.alloc HB.out.size _⟩, by simp [Go.RowKit.intOf]; omega⟩
end Go.Tb
namespace Go.Tb
open Go Go.RowKit Go.Proofs Go.Maps
def ByR (w : World) (base : Nat) (v : Value) (n : Nat) : Prop := ∃ bs : List Nat, (∀ x ∈ bs, x < 256) ∧ w.ownsRow base 5 1 v n (bs.map fun (x : Nat) => Value.int .u8 x)
theorem ByR.nil (w : World) (base : Nat) : ByR w base (.slice none 0 0) 0 := ⟨[], by simp, World.ownsRow_nil _ _ _ _⟩
theorem ByR.shape {w : World} {base n : Nat} {v : Value} (h : ByR w base v n) : ∃ a c cs, v = .slice a n c ∧ (cs : List Value).length = n ∧ (∀ u ∈ cs, u.oneCell' = true) ∧ (∀ u ∈ cs, ∃ x : Nat, x < 256 ∧ u = .int .u8 x) ∧ (0 < n → ∃ g, base ≤ g ∧ g < w.heap.size ∧ a = some ⟨g, 0, none⟩ ∧ ∀ j u, cs[j]? = some u → w.cell? ((⟨g, 0, none⟩ : Addr).add j) = some u) := by
  obtain ⟨bs, hb, ho⟩ := h
  have h1 := ho.1
  have hmem : ∀ u ∈ bs.map (fun (x : Nat) => Value.int .u8 x), ∃ x : Nat, x < 256 ∧ u = .int .u8 x := fun u hu => by
    obtain ⟨x, hx, rfl⟩ := List.mem_map.1 hu; exact ⟨x, hb x hx, rfl⟩
  have hone : ∀ u ∈ bs.map (fun (x : Nat) => Value.int .u8 x), u.oneCell' = true := fun u hu => by obtain ⟨x, _, rfl⟩ := hmem u hu; rfl
  have ho' := ho
  rcases ho.2 with ⟨rfl, rfl⟩ | ⟨g, cap, cur, rfl, hg, _⟩
  · exact ⟨none, 0, _, rfl, by simpa using h1, hone, hmem, fun h => absurd h (by decide)⟩
  · exact ⟨_, _, _, rfl, by simpa using h1, hone, hmem, fun _ => ⟨g, hg, (ho'.lt g rfl).2, rfl, ho'.cells rfl⟩⟩
def zrs (m : Nat) : List Value := List.replicate m (.int .u8 0)
theorem zrs_len (m : Nat) : (zrs m).length = m := by simp [zrs]
theorem made_zrs (m : Nat) : madeCells (Value.int .u8 0).cells (m * 1) = (zrs m).toArray := by
  simp [madeCells, zrs, Value.cells]
  apply Array.ext
  · simp
  · intro i h1 h2; simp [Nat.mod_one]
theorem mk22n {m : Nat} (hm : m ≤ 1048576) (w : World) : (Instr.makeSlice 22 (.int .i64 (m : Int)) (.int .i64 (m : Int))).run Tryz.prog w = .ok (.slice (some ⟨w.heap.size, 0, none⟩) m m) (w.alloc (.cells (zrs m).toArray 5)) := by
  obtain ⟨i, hi, hi2⟩ := Option.map_eq_some_iff.1 i5
  injection hi2 with h1 h2
  injection h2 with h2 h3
  have := run_makeSlice (P := Tryz.prog) w 22 5 i _ Tryz.underlying22 hi h3 .i64 .i64 (m : Int) (m : Int) (by omega) (by omega) (by rw [h1]; simp [maxLen]; omega) (by rw [h2]; simp [maxLen]; omega) (by omega)
  rw [this, h1, ← made_zrs]
  rfl
end Go.Tb
namespace Go.Tb
open Go Go.RowKit Go.Proofs Go.Maps
theorem bytes_of (cs : List Value) (h : ∀ u ∈ cs, ∃ x : Nat, x < 256 ∧ u = .int .u8 x) : ∃ bs : List Nat, (∀ x ∈ bs, x < 256) ∧ cs = bs.map fun (x : Nat) => Value.int .u8 x := by
  induction cs with
  | nil => exact ⟨[], by simp, rfl⟩
  | cons u cs ih =>
    obtain ⟨bs, h1, h2⟩ := ih (fun v hv => h v (List.mem_cons_of_mem _ hv))
    obtain ⟨x, hx, rfl⟩ := h u List.mem_cons_self
    exact ⟨x :: bs, (fun y hy => (List.mem_cons.1 hy).elim (fun e => e ▸ hx) (h1 y)), by rw [h2]; rfl⟩
theorem ByR.made {w : World} {g base n : Nat} {cs : List Value} (hg : w.heap[g]? = some (.cells cs.toArray 5 (0, 0))) (hb : base ≤ g) (hn : cs.length = n) (hm : n ≤ maxLen) (h : ∀ u ∈ cs, ∃ x : Nat, x < 256 ∧ u = .int .u8 x) : ByR w base (.slice (some ⟨g, 0, none⟩) n n) n := by
  obtain ⟨bs, h1, rfl⟩ := bytes_of cs h
  exact ⟨bs, h1, by simpa using hn, .inr ⟨g, n, _, rfl, hb, hg, Nat.le_refl _, hm, by simpa using hn, by rw [← hn]; simp; exact List.take_of_length_le (by simp)⟩⟩
theorem fill_ok {w : World} {base n m : Nat} {v : Value} (h : ByR w base v n) (hn : n ≤ m) (hm : m ≤ 1048576) :
    Calls Tryz.prog 53 #[v, .int .i64 m] w fun e w' => (∃ v', e = .returned (.tuple #[v', .bool true]) ∧ ByR w' w.heap.size v' m) ∧ Below w.heap.size w w' := by
  obtain ⟨a, c, cs, rfl, h1, h2, h3, h4⟩ := h.shape
  have MK := mk22n hm w
  have i1 : ¬ (1048576 : Int) < (m : Int) := by omega
  have i2 : ¬ (m : Int) < (n : Int) := by omega
  have i3 : decide ((1048576 : Int) < (m : Int)) = false := by simpa using i1
  have i4 : decide ((m : Int) < (n : Int)) = false := by simpa using i2
  have hnew : (w.alloc (.cells (zrs m).toArray 5)).heap[w.heap.size]? = some (.cells (zrs m).toArray 5 (0, 0)) := (Go.MapKept.heap_alloc w _).1
  have hbelow : Below w.heap.size w (w.alloc (.cells (zrs m).toArray 5)) := Below.alloc (Below.refl _ _) (Nat.le_refl _) _
  have hpos : 0 < cs.length → (some (⟨w.heap.size, 0, none⟩ : Addr) = some ⟨w.heap.size, 0, none⟩ ∧ ∃ ad, a = some ad ∧ ∀ j u, cs[j]? = some u → (w.alloc (.cells (zrs m).toArray 5)).cell? (ad.add j) = some u) := fun hp => by
    obtain ⟨g, _, hg, rfl, hc⟩ := h4 (by omega)
    refine ⟨rfl, _, rfl, fun j u hu => ?_⟩
    have h5 : (⟨g, 0, none⟩ : Addr).add j = ⟨g, j, none⟩ := by simp [Addr.add]; intro h; exact h.symm
    rw [h5, (cell_of_heap (w := w) (a := (⟨g, j, none⟩ : Addr)) (Go.Deep.blk_alloc_lt w _ g hg)).1, ← h5]
    exact hc j u hu
  have HN := Lib.hid hnew
  have HB := Lib.hid hbelow
  have HP := Lib.hid hpos
  have HO := Lib.hid h2
  have HC := Lib.hid h3
  have HM : Hid (cs.length = Nat.min n m) := Lib.hid (by rw [h1]; exact (Nat.min_eq_left hn).symm)
  have HF : Hid (0 + cs.length ≤ (zrs m).length) := Lib.hid (by rw [zrs_len]; omega)
  have HL := Lib.hid h1
  have HS : Hid (m ≤ 1048576) := Lib.hid hm
  have HNM : Hid (n ≤ m) := Lib.hid hn
  clear hnew hbelow hpos h2 h3 h1 h4 h hm hn
  go_enter Tryz.func53, Tryz.ntmps53
  go_wp2_with (refine wpList_copy_splice rfl _ _ 22 22 rfl 5 Tryz.underlying22 sz5 _ _ _ _ _ _ rfl rfl w.heap.size 0 (zrs m) 5 HN.out cs HM.out HP.out HF.out HO.out w.heap.size w HB.out (Nat.le_refl _) ?_; intro w6 hg6 hb6)
  go_ret2
  refine ⟨⟨_, rfl, ByR.made hg6.out (Nat.le_refl _) ?_ ?_ ?_⟩, hb6⟩
  · rw [length_splice _ _ _ HF.out, zrs_len]
  · exact Nat.le_trans HS.out (by decide)
  · intro u hu
    unfold splice at hu
    simp only [List.take_zero, List.nil_append, List.mem_append] at hu
    rcases hu with hu | hu
    · exact HC.out u hu
    · exact ⟨0, by decide, List.eq_of_mem_replicate (List.mem_of_mem_drop hu)⟩
end Go.Tb
namespace Go.Tb
open Go Go.RowKit Go.Proofs Go.Maps
theorem i5' : ∃ i : TypeInfo, Tryz.prog.info? 5 = some i ∧ i.size = 1 ∧ i.bytes = 1 ∧ i.zero = some (.int .u8 0) := by
  obtain ⟨i, hi, hi2⟩ := Option.map_eq_some_iff.1 i5
  injection hi2 with h1 h2
  injection h2 with h2 h3
  exact ⟨i, hi, h1, h2, h3⟩
theorem eql22_nil (c : Nat) (w : World) : (binOp .eql 22 (.slice none 0 c) (.slice none 0 0)).run Tryz.prog w = .ok (.bool true) w := by
  have := run_equal_slice_nil (P := Tryz.prog) w 22 5 none 0 c Tryz.underlying22
  simp [binOp, this]
theorem eql22_some (a : Addr) (n c : Nat) (w : World) : (binOp .eql 22 (.slice (some a) n c) (.slice none 0 0)).run Tryz.prog w = .ok (.bool false) w := by
  have := run_equal_slice_nil (P := Tryz.prog) w 22 5 (some a) n c Tryz.underlying22
  simp [binOp, this]
theorem clone_ok {w : World} {base n : Nat} {v : Value} (h : ByR w base v n) (hn : n ≤ 1048576) :
    Calls Tryz.prog 32 #[v] w fun e w' => (∃ v', e = .returned v' ∧ ByR w' w.heap.size v' n) ∧ Below w.heap.size w w' := by
  obtain ⟨i, hi, i1, i2, i3⟩ := i5'
  obtain ⟨bs, hb, ho⟩ := h
  have h1 := ho.1
  rcases ho.2 with ⟨rfl, rfl⟩ | ⟨g, cap, cur, rfl, hg, _⟩
  · have E := eql22_nil 0 w
    go_enter Tryz.func32, Tryz.ntmps32
    go_wp2
    go_ret
    exact ⟨⟨_, rfl, ByR.nil _ _⟩, Below.refl _ _⟩
  · have hgl := (ho.lt g rfl).2
    have hc := ho.cells rfl
    have hnews : ∀ j u, (bs.map fun (x : Nat) => Value.int .u8 x)[j]? = some u → (w.alloc (.cells #[] 5)).cell? ((⟨g, 0, none⟩ : Addr).add j) = some u := fun j u hu => by
      have h5 : (⟨g, 0, none⟩ : Addr).add j = ⟨g, j, none⟩ := by simp [Addr.add]; intro h; exact h.symm
      rw [h5, (cell_of_heap (w := w) (a := (⟨g, j, none⟩ : Addr)) (Go.Deep.blk_alloc_lt w _ g hgl)).1, ← h5]
      exact hc j u hu
    have hone : ∀ u ∈ bs.map (fun (x : Nat) => Value.int .u8 x), u.oneCell' = true := fun u hu => by obtain ⟨x, _, rfl⟩ := List.mem_map.1 hu; rfl
    have hmade : (w.alloc (.cells #[] 5)).ownsRow w.heap.size 5 1 (.slice (some ⟨w.heap.size, 0, none⟩) 0 0) 0 [] := World.ownsRow_made w #[] 0 (Nat.le_refl _) (by decide) rfl
    have hbel : Below w.heap.size w (w.alloc (.cells #[] 5)) := Below.alloc (Below.refl _ _) (Nat.le_refl _) _
    have hsz : w.heap.size ≤ (w.alloc (.cells #[] 5)).heap.size := hbel.size
    have hlen : (bs.map fun (x : Nat) => Value.int .u8 x).length = n * 1 := h1
    generalize hW : w.alloc (.cells #[] 5) = W at hnews hmade hbel hsz
    have HN := Lib.hid hnews
    have HM := Lib.hid hmade
    have HO := Lib.hid hone
    have HL := Lib.hid hlen
    have HB := Lib.hid hbel
    have HS := Lib.hid hsz
    have HI := Lib.hid hi
    have HX : Hid (n ≤ 1048576) := Lib.hid hn
    have HBS := Lib.hid hb
    clear hnews hmade hone hlen hbel hsz ho h1 hc hi hn hb
    have E := eql22_some ⟨g, 0, none⟩ n cap w
    go_enter Tryz.func32, Tryz.ntmps32
    go_wp2_with (at_builtin; go_loud (refine wpList_append_own _ rfl _ _ 22 rfl w.heap.size 5 i (.int .u8 0) 1 1 Tryz.underlying22 HI.out i3 i1 i2 rfl (by decide) _ 0 [] rfl HM.out _ n _ _ rfl HL.out HN.out HO.out (Nat.le_trans (by simpa using HX.out) (by decide)) (by have := HX.out; omega) HS.out ?_; intro v' w' q1 q2 q3))
    go_ret
    refine ⟨⟨_, rfl, bs, HBS.out, ?_⟩, HB.out.grown q2 HS.out ?_⟩
    · simpa using q1
    · intro k hk; cases hk; exact Nat.le_refl _
end Go.Tb
