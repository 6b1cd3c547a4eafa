/- A part of the proof of TableLow: what a function of the program answers, walked by hand. Each theorem says its own conditions. -/
import Derived.Test.YtaegmbilkodhpaaGreatDoorTbA
import Derived.ArgAppend
import Derived.DeepKeys
import Derived.RangeFuncGives
import Derived.Lib.SlKeysI
import Derived.Sort.MapsRangeIn
import Derived.WalkKit
import Derived.OwnWalkIn
import Derived.TacticsInMore
import Derived.RegionIn
import Derived.LoopNIn
import Derived.LoopIn
import Derived.Shelf.SlIterI.Sorted
import Derived.Shelf.SortM.Plain
import Derived.Shelf.SortM.SortNone
import Derived.Ground.GgzProg
import Derived.Ground.SlgmProg
import Derived.Shelf.SlGeneric
import Derived.Test.YtaegmbilkodhpaaGreatDoorProg
set_option linter.unusedVariables false
set_option linter.unusedSimpArgs false
set_option maxRecDepth 100000
set_option maxHeartbeats 1600000
namespace Go.Tb
open Go Go.RowKit Go.Proofs Go.Maps
def OnceV (w : World) (kb : Nat) : Prop := w.cell? ⟨kb, 0, none⟩ = some (.int .u32 0) ∧ w.cell? ⟨kb, 1, none⟩ = some (.int .i32 0) ∧ ∀ o, o < 2 → w.frozen? ⟨kb, o, none⟩ = false
theorem OnceV.same {w w' : World} {kb : Nat} (h : OnceV w kb) (hb : w'.heap[kb]? = w.heap[kb]?) : OnceV w' kb :=
  ⟨(cell_of_heap (a := ⟨kb, 0, none⟩) hb).1.trans h.1, (cell_of_heap (a := ⟨kb, 1, none⟩) hb).1.trans h.2.1, fun o ho => (cell_of_heap (a := ⟨kb, o, none⟩) hb).2.trans (h.2.2 o ho)⟩
theorem OnceV.of_block {w : World} {kb : Nat} (h : w.heap[kb]? = some (.cells #[.int .u32 0, .int .i32 0, .int .u32 0] 139 (0, 0))) : OnceV w kb := by
  refine ⟨?_, ?_, fun o _ => ?_⟩ <;> simp [World.cell?, World.frozen?, h]
structure Blk where
  sb : Nat
  db : Nat
  cb : Nat
  fb : Nat
  ob : Nat
  rb : Nat
structure SpV (B : Nat) (w : World) (b : Blk) (D : DataW Value) (n : Nat) (fo : Nat → Nat) (K : Nat → Prop) : Prop where
  s0 : w.cell? ⟨b.sb, 0, none⟩ = some (.pointer (some ⟨b.db, 0, none⟩))
  s1 : w.cell? ⟨b.sb, 1, none⟩ = some (.pointer (some ⟨b.cb, 0, none⟩))
  sp : ∀ i, i < 9 → w.cell? ⟨b.sb, 3 + i, none⟩ = some (.int .i64 0)
  s13 : w.cell? ⟨b.sb, 13, none⟩ = some (.pointer (some ⟨b.rb, 0, none⟩))
  s14 : w.cell? ⟨b.sb, 14, none⟩ = some (.pointer (some ⟨b.ob, 0, none⟩))
  s15 : ∃ kb, w.cell? ⟨b.sb, 15, none⟩ = some (.pointer (some ⟨kb, 0, none⟩)) ∧ OnceV w kb ∧ B ≤ kb ∧ kb ≠ b.ob ∧ kb ≠ b.sb
  s16 : ∃ v, w.cell? ⟨b.sb, 16, none⟩ = some v
  sz : ∀ o, o < 17 → w.frozen? ⟨b.sb, o, none⟩ = false
  d0 : ∃ a c, w.cell? ⟨b.db, 0, none⟩ = some (.slice a 130 c)
  d2 : w.cell? ⟨b.db, 2, none⟩ = some (.bool false)
  cv : CV B w b.cb b.fb b.db D n K
  mo : MapV w b.ob fo
  mr : MapV w b.rb (fun _ => 0)
  ks : K b.sb
  ko : K b.ob
  kr : K b.rb
  Bs : B ≤ b.sb
  Bo : B ≤ b.ob
  nd : [b.sb, b.db, b.cb, b.fb, b.ob, b.rb].Nodup
  fs : ∀ p, fo p ≠ 0 → p < 5 ∧ 2 ≤ fo p ∧ fo p < 130 ∧ Maps.has D (.int .i64 (fo p : Int)) = true
def once0 : Array Value := #[.int .u32 0, .int .i32 0, .int .u32 0]
def turnW (w : World) (b : Blk) : World := (w.setCell ⟨b.sb, 15, none⟩ (.pointer (some ⟨w.heap.size, 0, none⟩))).alloc (.cells once0 139)
theorem turn_ok {B : Nat} {w : World} {b : Blk} {D : DataW Value} {n : Nat} {fo : Nat → Nat} {K : Nat → Prop} (H : SpV B w b D n fo K) :
    Calls Tryz.prog 40 #[.pointer (some ⟨b.sb, 0, none⟩)] w fun e w' => (∃ v, e = .returned v) ∧ w' = turnW w b := by
  obtain ⟨kb, h15, _⟩ := H.s15
  have hz := H.sz 15 (by decide)
  have hl := cell_lt' h15
  clear H
  go_enter Tryz.func40, Tryz.ntmps40
  go_wp2
  go_end0
  exact ⟨⟨_, rfl⟩, rfl⟩
theorem nodup6 {a b c d e f : Nat} (h : [a, b, c, d, e, f].Nodup) : a ≠ b ∧ a ≠ c ∧ a ≠ d ∧ a ≠ e ∧ a ≠ f ∧ b ≠ c ∧ b ≠ d ∧ b ≠ e ∧ b ≠ f ∧ c ≠ d ∧ c ≠ e ∧ c ≠ f ∧ d ≠ e ∧ d ≠ f ∧ e ≠ f := by
  simp only [List.nodup_cons, List.mem_cons, not_or, List.not_mem_nil, not_false_eq_true, List.nodup_nil, and_true] at h
  omega
theorem CV.beside {B : Nat} {w w' : World} {cb fb db : Nat} {D : DataW Value} {n : Nat} {K : Nat → Prop} (H : CV B w cb fb db D n K) {x : Nat} (hx : K x) (hc : x ≠ cb) (hf : x ≠ fb) (hs : ∀ k, k < w.heap.size → k ≠ x → w'.heap[k]? = w.heap[k]?) (hz : w.heap.size ≤ w'.heap.size) : CV B w' cb fb db D n K := by
  have e1 := hs cb (H.ks cb H.kc) (Ne.symm hc)
  have e2 := hs fb (H.ks fb H.kf) (Ne.symm hf)
  have hcc := fun o => (cell_of_heap (a := ⟨cb, o, none⟩) e1).1
  have hff := fun o => (cell_of_heap (a := ⟨cb, o, none⟩) e1).2
  refine { c0 := (hcc _).trans H.c0, c1 := (hcc _).trans H.c1, c2 := ?_, c3 := (hcc _).trans H.c3, cz := fun o ho => (hff o).trans (H.cz o ho), own := ?_, fr := fun y hy => ?_, kc := H.kc, kf := H.kf, kd := H.kd, ks := fun b hb => Nat.lt_of_lt_of_le (H.ks b hb) hz, Bc := H.Bc, Bf := H.Bf, cf := H.cf }
  · obtain ⟨k, h⟩ := H.c2; exact ⟨k, (hcc _).trans h⟩
  · obtain ⟨es, clock, hb, h⟩ := H.own
    exact ⟨es, clock, e2.trans hb, h⟩
  · obtain ⟨b, h1, h2, h3, h4⟩ := H.fr y hy
    exact ⟨b, h1, h2, h3, h4.same (hs b h4.lt (fun e => h3 (e ▸ hx)))⟩
theorem turnW_heap (w : World) (b : Blk) {k : Nat} (hk : k < w.heap.size) (hne : k ≠ b.sb) : (turnW w b).heap[k]? = w.heap[k]? := by
  unfold turnW
  rw [Go.Deep.blk_alloc_lt _ _ k (by simpa [World.setCell] using hk)]
  exact heap_setCell_other w (⟨b.sb, 15, none⟩ : Addr) k _ hne
theorem turnW_size (w : World) (b : Blk) : (turnW w b).heap.size = w.heap.size + 1 := by simp [turnW, World.setCell]
theorem SpV.turn {B : Nat} {w : World} {b : Blk} {D : DataW Value} {n : Nat} {fo : Nat → Nat} {K : Nat → Prop} (H : SpV B w b D n fo K) : SpV B (turnW w b) b D n fo K ∧ Below B w (turnW w b) := by
  obtain ⟨n1, n2, n3, n4, n5, n6, n7, n8, n9, n10, n11, n12, n13, n14, n15⟩ := nodup6 H.nd
  have hh := fun k => turnW_heap w b (k := k)
  have hsb : b.sb < w.heap.size := H.cv.ks _ H.ks
  have hdb : b.db < w.heap.size := H.cv.ks _ H.cv.kd
  have hob : b.ob < w.heap.size := H.cv.ks _ H.ko
  have hrb : b.rb < w.heap.size := H.cv.ks _ H.kr
  have hB : B ≤ w.heap.size := Nat.le_trans H.Bs (Nat.le_of_lt hsb)
  obtain ⟨kb, h15, _⟩ := H.s15
  have hal : ∀ o, (turnW w b).cell? ⟨b.sb, o, none⟩ = (w.setCell ⟨b.sb, 15, none⟩ (.pointer (some ⟨w.heap.size, 0, none⟩))).cell? ⟨b.sb, o, none⟩ ∧ (turnW w b).frozen? ⟨b.sb, o, none⟩ = w.frozen? ⟨b.sb, o, none⟩ := fun o => by
    have := cell_of_heap (w := w.setCell ⟨b.sb, 15, none⟩ (.pointer (some ⟨w.heap.size, 0, none⟩))) (w' := turnW w b) (a := (⟨b.sb, o, none⟩ : Addr)) (Go.Deep.blk_alloc_lt _ _ b.sb (by simpa [World.setCell] using hsb))
    exact ⟨this.1, by rw [this.2, World.frozen?_setCell]⟩
  have hc : ∀ o, o ≠ 15 → (turnW w b).cell? ⟨b.sb, o, none⟩ = w.cell? ⟨b.sb, o, none⟩ := fun o ho => by
    rw [(hal o).1]
    exact World.cell?_setCell_other w _ _ _ (fun q => ho (by simp only [Addr.mk.injEq] at q; exact q.2.1.symm))
  have hd := fun o => (cell_of_heap (a := ⟨b.db, o, none⟩) (hh b.db hdb (Ne.symm n1))).1
  have hbel : Below B w (turnW w b) := ⟨rfl, rfl, rfl, by rw [turnW_size]; exact Nat.le_succ _, fun k hk => hh k (Nat.lt_of_lt_of_le hk hB) (fun e => by have := H.Bs; omega)⟩
  refine ⟨{ s0 := (hc _ (by decide)).trans H.s0, s1 := (hc _ (by decide)).trans H.s1, sp := fun i hi => (hc _ (by omega)).trans (H.sp i hi), s13 := (hc _ (by decide)).trans H.s13, s14 := (hc _ (by decide)).trans H.s14, s15 := ⟨w.heap.size, ?_, ?_, hB, by omega, by omega⟩, s16 := ?_, sz := fun o ho => (hal o).2.trans (H.sz o ho), d0 := ?_, d2 := (hd _).trans H.d2, cv := H.cv.beside H.ks n2 n3 (fun k hk hne => hh k hk hne) hbel.size, mo := H.mo.keep (hh _ hob (Ne.symm n4)), mr := H.mr.keep (hh _ hrb (Ne.symm n5)), ks := H.ks, ko := H.ko, kr := H.kr, Bs := H.Bs, Bo := H.Bo, nd := H.nd, fs := H.fs }, hbel⟩
  · rw [(hal 15).1]; exact World.cell?_setCell_same w _ _ h15
  · have := (Go.MapKept.heap_alloc (w.setCell ⟨b.sb, 15, none⟩ (.pointer (some ⟨w.heap.size, 0, none⟩))) (.cells once0 139)).1
    have e : (w.setCell ⟨b.sb, 15, none⟩ (.pointer (some ⟨w.heap.size, 0, none⟩))).heap.size = w.heap.size := by simp [World.setCell]
    rw [e] at this
    exact OnceV.of_block this
  · obtain ⟨v, h⟩ := H.s16; exact ⟨v, (hc _ (by decide)).trans h⟩
  · obtain ⟨a, c, h⟩ := H.d0; exact ⟨a, c, (hd _).trans h⟩
end Go.Tb
namespace Go.Tb
open Go Go.RowKit Go.Proofs Go.Maps
theorem SpV.setOwn {B : Nat} {w : World} {b : Blk} {D : DataW Value} {n : Nat} {fo : Nat → Nat} {K : Nat → Prop} (H : SpV B w b D n fo K) {i x : Nat} (hi : i < 1024) (hx : x = 0 ∨ (i < 5 ∧ 2 ≤ x ∧ x < 130 ∧ Maps.has D (.int .i64 (x : Int)) = true)) :
    SpV B (w.setCell ⟨b.ob, i, none⟩ (.int .u16 x)) b D n (fun k => if k = i then x else fo k) K ∧ Below B w (w.setCell ⟨b.ob, i, none⟩ (.int .u16 x)) := by
  obtain ⟨n1, n2, n3, n4, n5, n6, n7, n8, n9, n10, n11, n12, n13, n14, n15⟩ := nodup6 H.nd
  have hh : ∀ k, k ≠ b.ob → (w.setCell ⟨b.ob, i, none⟩ (.int .u16 x)).heap[k]? = w.heap[k]? := fun k hk => heap_setCell_other w (⟨b.ob, i, none⟩ : Addr) k _ hk
  have hc := fun o => (cell_of_heap (a := ⟨b.sb, o, none⟩) (hh b.sb n4)).1
  have hd := fun o => (cell_of_heap (a := ⟨b.db, o, none⟩) (hh b.db n8)).1
  have hsz : (w.setCell ⟨b.ob, i, none⟩ (.int .u16 x)).heap.size = w.heap.size := by simp [World.setCell]
  have hbel : Below B w (w.setCell ⟨b.ob, i, none⟩ (.int .u16 x)) := below_set (Below.refl _ _) H.Bo _
  refine ⟨{ s0 := (hc _).trans H.s0, s1 := (hc _).trans H.s1, sp := fun i hi => (hc _).trans (H.sp i hi), s13 := (hc _).trans H.s13, s14 := (hc _).trans H.s14, s15 := ?_, s16 := ?_, sz := fun o ho => by rw [World.frozen?_setCell]; exact H.sz o ho, d0 := ?_, d2 := (hd _).trans H.d2, cv := H.cv.beside H.ko (Ne.symm n11) (Ne.symm n13) (fun k hk hne => hh k hne) (Nat.le_of_eq hsz.symm), mo := H.mo.set hi (by omega), mr := H.mr.keep (hh _ (Ne.symm n15)), ks := H.ks, ko := H.ko, kr := H.kr, Bs := H.Bs, Bo := H.Bo, nd := H.nd, fs := fun p hp => ?_ }, hbel⟩
  · obtain ⟨kb, h1, h2, h3, h4, h5⟩ := H.s15
    exact ⟨kb, (hc _).trans h1, h2.same (hh kb h4), h3, h4, h5⟩
  · obtain ⟨v, h⟩ := H.s16; exact ⟨v, (hc _).trans h⟩
  · obtain ⟨a, c, h⟩ := H.d0; exact ⟨a, c, (hd _).trans h⟩
  · by_cases e : p = i
    · subst e
      simp only [if_pos] at hp ⊢
      rcases hx with rfl | hx
      · exact absurd rfl hp
      · exact hx
    · simp only [if_neg e] at hp ⊢; exact H.fs p hp
theorem drop_ok {B : Nat} {w : World} {b : Blk} {D : DataW Value} {n : Nat} {fo : Nat → Nat} {K : Nat → Prop} (H : SpV B w b D n fo K) {p : Nat} (hp : p < 1024) (hf : 0 < fo p) :
    Calls Tryz.prog 55 #[.pointer (some ⟨b.sb, 0, none⟩), .int .i64 p] w fun e w' => e = .returned (.int .i64 0) ∧ SpV B w' b D n (fun k => if k = p then 0 else fo k) K ∧ Below B w w' ∧ ∀ k, K k → k ≠ b.sb → k ≠ b.ob → w'.heap[k]? = w.heap[k]? := by
  have M := may_ok H.s0 H.d2 hp
  have C := clear_ok H.mo hp hf
  obtain ⟨H2, hb2⟩ := H.setOwn hp (x := 0) (.inl rfl)
  have T := turn_ok H2
  have c14 := H.s14
  have hl := cell_lt' c14
  have hfr : ∀ k, K k → k ≠ b.sb → k ≠ b.ob → (turnW (w.setCell ⟨b.ob, p, none⟩ (.int .u16 0)) b).heap[k]? = w.heap[k]? := fun k hk h1 h2 => by
    rw [turnW_heap _ _ (by simpa [World.setCell] using H.cv.ks k hk) h1]
    exact heap_setCell_other w (⟨b.ob, p, none⟩ : Addr) k _ h2
  have HF := Lib.hid hfr
  have HS := Lib.hid (H2.turn)
  have HB := Lib.hid hb2
  clear H H2 hb2 hfr
  go_enter Tryz.func55, Tryz.ntmps55
  go_wp2_with (first | (go_at_call 48; refine M.mono ?_; rintro e w5 ⟨rfl, hw⟩; subst hw) | (go_at_call 95; refine C.mono ?_; rintro e w6 ⟨rfl, hw⟩; subst hw) | (go_at_call 40; refine T.mono ?_; rintro e w7 ⟨⟨v, rfl⟩, hw⟩; subst hw))
  go_ret
  exact ⟨rfl, HS.out.1, HB.out.trans HS.out.2, HF.out⟩
end Go.Tb
namespace Go.Tb
open Go Go.RowKit Go.Proofs Go.Maps
theorem sz122 : (Tryz.prog.info? 122).map (·.size) = some 4 := by kernel_rfl
theorem front_ok (w : World) (m : Nat) (hm : m ≤ 248) : Calls Tryz.prog 72 #[.int .u8 3, .int .i64 (m : Int)] w fun e w' => (∃ x y : Nat, x < 256 ∧ y < 256 ∧ e = .returned (.agg #[.int .u8 3, .int .u8 0, .int .u8 (x : Int), .int .u8 (y : Int)])) ∧ Below w.heap.size w w' := by
  have e1 : IntKind.u8.wrap (m : Int) = (m : Int) := by simp [IntKind.wrap, IntKind.signed, IntKind.bits]; omega
  go_enter Tryz.func72, Tryz.ntmps72
  go_wp2
  refine bodyPost_ret_by (results_cell_row rfl _ _ w.heap.size 122 _ (0, 0) _ rfl (Go.MapKept.heap_alloc w _).1 Tryz.underlying122 rfl sz122) rfl ?_
  refine ⟨⟨m, 0, by omega, by decide, ?_⟩, Below.alloc (Below.refl _ _) (Nat.le_refl _) _⟩
  have e2 : (m : Int) / 256 = 0 := by omega
  rw [e2]; rfl
def PutC : Prop := ∀ (w : World) (base n m : Nat) (v : Value) (x : Nat), ByR w base v n → n ≤ 1048000 → (m = 2 ∨ m = 4) → x < 2 ^ 64 →
  Calls Tryz.prog 54 #[v, .int .u64 (x : Int), .int .i64 (m : Int)] w fun e w' => (∃ v', e = .returned v' ∧ ByR w' w.heap.size v' (n + m)) ∧ Below w.heap.size w w'
theorem ByR.keep {w w' : World} {base base' n : Nat} {v : Value} (h : ByR w base v n) (hb : Below w.heap.size w w') (hbase : base' ≤ base) : ByR w' base' v n := by
  obtain ⟨bs, h1, h2⟩ := h
  have h3 := h2.lt
  refine ⟨bs, h1, h2.1, h2.2.imp id fun ⟨g, cap, cur, e, hg, hh, r⟩ => ⟨g, cap, cur, e, Nat.le_trans hbase hg, (hb.block g (by subst e; exact (h3 g rfl).2)).trans hh, r⟩⟩
theorem Below.up {w w1 w2 : World} (h1 : Below w.heap.size w w1) (h2 : Below w1.heap.size w1 w2) : Below w.heap.size w w2 :=
  h1.trans ⟨h2.os, h2.tape, h2.output, h2.size, fun k hk => h2.block k (Nat.lt_of_lt_of_le hk h1.size)⟩
theorem ByR.sum {w : World} {base n : Nat} {v : Value} (h : ByR w base v n) (hn : 0 < n) : ∃ g c, v = .slice (some ⟨g, 0, none⟩) n c ∧ base ≤ g ∧ g < w.heap.size ∧ ∃ bs : Nat → Nat, ∀ k, k < n → bs k < 256 ∧ w.cell? ⟨g, 0 + k, none⟩ = some (.int .u8 (bs k)) := by
  obtain ⟨a, c, cs, rfl, h1, h2, h3, h4⟩ := h.shape
  obtain ⟨g, hb, hg, rfl, hc⟩ := h4 hn
  refine ⟨g, c, rfl, hb, hg, ?_⟩
  have hex : ∀ k, ∃ x : Nat, k < n → x < 256 ∧ w.cell? ⟨g, 0 + k, none⟩ = some (.int .u8 (x : Int)) := fun k => by
    by_cases hk : k < n
    · have hk' : k < cs.length := by omega
      obtain ⟨x, hx, e⟩ := h3 _ (List.getElem_mem hk')
      have hcc := hc k _ (List.getElem?_eq_getElem hk')
      have h5 : (⟨g, 0, none⟩ : Addr).add k = ⟨g, 0 + k, none⟩ := by simp [Addr.add]; intro h; exact h.symm
      rw [h5, e] at hcc
      exact ⟨x, fun _ => ⟨hx, hcc⟩⟩
    · exact ⟨0, fun h => absurd h hk⟩
  exact ⟨fun k => (hex k).choose, fun k hk => (hex k).choose_spec hk⟩
end Go.Tb
namespace Go.Tb
open Go Go.RowKit Go.Proofs Go.Maps
theorem seal_ok (hF : Fours) (hP : PutC) {w : World} {base n : Nat} {v : Value} (h : ByR w base v n) (h0 : 0 < n) (hn : n ≤ 248) :
    Calls Tryz.prog 36 #[.int .u8 3, v] w fun e w' => (∃ v', e = .returned (.tuple #[v', .int .i64 0]) ∧ ByR w' w.heap.size v' 256) ∧ Below w.heap.size w w' := by
  obtain ⟨i, hi, i1, i2, i3⟩ := i5'
  have hgt : ¬ (248 : Int) < (n : Int) := by omega
  have hgt2 : decide ((248 : Int) < (n : Int)) = false := by simpa using hgt
  obtain ⟨a, c, cs, rfl, hlen, hone, hby, hsrc⟩ := h.shape
  obtain ⟨g, hg1, hg2, rfl, hcell⟩ := hsrc h0
  have HI := Lib.hid hi
  have HN : Hid (0 < n ∧ n ≤ 248) := Lib.hid ⟨h0, hn⟩
  have HL := Lib.hid hlen
  have HO := Lib.hid hone
  have HC := Lib.hid hcell
  have HBY := Lib.hid hby
  clear h hsrc hi hlen hone hcell hby h0 hn
  go_enter Tryz.func36, Tryz.ntmps36
  go_upto_region 4 with (first | (go_at_call 72; refine (front_ok _ n HN.out.2).mono ?_; rintro e w1 ⟨⟨x, y, hx, hy, rfl⟩, hb1⟩))
  have hb2 : Below w.heap.size w (w1.alloc (.cells #[.int .u8 3, .int .u8 0, .int .u8 (x : Int), .int .u8 (y : Int)] 122)) := Below.alloc hb1 hb1.size _
  have hold : ∀ j u, ([.int .u8 3, .int .u8 0, .int .u8 (x : Int), .int .u8 (y : Int)] : List Value)[j]? = some u → (w1.alloc (.cells #[.int .u8 3, .int .u8 0, .int .u8 (x : Int), .int .u8 (y : Int)] 122)).cell? ((⟨w1.heap.size, 0, none⟩ : Addr).add j) = some u := fun j u hu => by
    have h5 : (⟨w1.heap.size, 0, none⟩ : Addr).add j = ⟨w1.heap.size, j, none⟩ := by simp [Addr.add]; intro h; exact h.symm
    rw [h5, cell_new]
    simpa using hu
  have hnew : ∀ j u, cs[j]? = some u → (w1.alloc (.cells #[.int .u8 3, .int .u8 0, .int .u8 (x : Int), .int .u8 (y : Int)] 122)).cell? ((⟨g, 0, none⟩ : Addr).add j) = some u := fun j u hu => by
    have h5 : (⟨g, 0, none⟩ : Addr).add j = ⟨g, j, none⟩ := by simp [Addr.add]; intro h; exact h.symm
    rw [h5, (cell_of_heap (w := w) (a := (⟨g, j, none⟩ : Addr)) (hb2.block g hg2)).1, ← h5]
    exact HC.out j u hu
  generalize hW : w1.alloc (.cells #[.int .u8 3, .int .u8 0, .int .u8 (x : Int), .int .u8 (y : Int)] 122) = W at hb2 hold hnew ⊢
  have HOL := Lib.hid hold
  have HNW := Lib.hid hnew
  have HB2 := Lib.hid hb2
  have HX : Hid (x < 256 ∧ y < 256) := Lib.hid ⟨hx, hy⟩
  clear hold hnew hb2 hx hy hW
  generalize w1.heap.size = nb at HOL ⊢
  go_upto_region 5 with (first
    | (at_builtin; go_loud (refine wpList_append_grows _ rfl _ _ 22 rfl 5 i (.int .u8 0) 1 1 Tryz.underlying22 HI.out i3 i1 i2 rfl (by decide) (some ⟨nb, 0, none⟩) 4 4 [.int .u8 3, .int .u8 0, .int .u8 (x : Int), .int .u8 (y : Int)] rfl (fun h => by cases h) rfl (fun b hb => by cases hb; exact HOL.out) ⟨g, 0, none⟩ n c cs rfl (by rw [HL.out]; omega) HNW.out HO.out (by have := HN.out; omega) (by have := HN.out; exact Nat.le_trans (show 4 + n ≤ 252 by omega) (by decide)) (by have := HN.out; omega) ?_; intro v3 w3 q1 q2)))
  have hall : ∀ u ∈ ([.int .u8 3, .int .u8 0, .int .u8 (x : Int), .int .u8 (y : Int)] ++ cs : List Value), ∃ z : Nat, z < 256 ∧ u = .int .u8 (z : Int) := fun u hu => by
    simp only [List.cons_append, List.nil_append, List.mem_cons] at hu
    rcases hu with rfl | rfl | rfl | rfl | hu
    · exact ⟨3, by decide, rfl⟩
    · exact ⟨0, by decide, rfl⟩
    · exact ⟨x, HX.out.1, rfl⟩
    · exact ⟨y, HX.out.2, rfl⟩
    · exact HBY.out u hu
  obtain ⟨bs, hb1', hb2'⟩ := bytes_of _ hall
  rw [hb2'] at q1
  have hR3 : ByR w3 W.heap.size v3 (4 + n) := ⟨bs, hb1', q1⟩
  have hB3 : Below w.heap.size w w3 := HB2.out.grown q2 HB2.out.size (fun k hk => by cases hk)
  refine (fill_ok hR3 (m := 252) (by have := HN.out; omega) (by decide)).mono ?_
  rintro e w4 ⟨⟨v4, rfl, hR4⟩, hB4⟩
  have HB4 := Lib.hid (Below.up hB3 hB4)
  have hle : w.heap.size ≤ w3.heap.size := hB3.size
  have hR4' : ByR w4 w.heap.size v4 252 := by
    obtain ⟨bs, h1, h2⟩ := hR4
    exact ⟨bs, h1, h2.1, h2.2.imp id fun ⟨g, cap, cur, e, hg, r⟩ => ⟨g, cap, cur, e, Nat.le_trans hle hg, r⟩⟩
  have HR4 := Lib.hid hR4'
  clear hall hb1' hb2' q1 q2 hR3 hB3 hB4 hR4 hle hR4'
  go_upto_region 5 with (fail)
  obtain ⟨g4, c4, rfl, hg4, hg4', bs4, hbs4⟩ := HR4.out.sum (by decide)
  have S := sum_ok hF (w := w4) (B := g4) (n := 252) (c := c4) (bs := bs4) (by decide) hbs4
  clear hbs4
  go_wp2_with (first
    | (go_at_call 73; refine S.mono ?_; rintro e w5 ⟨⟨z, hz, rfl⟩, hb5⟩)
    | (go_at_call 54; refine (hP _ w.heap.size 252 4 _ z (HR4.out.keep hb5 (Nat.le_refl _)) (by decide) (.inr rfl) (by omega)).mono ?_; rintro e w6 ⟨⟨v6, rfl, hR6⟩, hb6⟩))
  have hB5 := Below.up HB4.out hb5
  have hB6 := Below.up hB5 hb6
  go_ret2
  obtain ⟨bs, h1, h2⟩ := hR6
  exact ⟨⟨_, rfl, bs, h1, h2.1, h2.2.imp id fun ⟨g, cap, cur, e, hg, r⟩ => ⟨g, cap, cur, e, Nat.le_trans hB5.size hg, r⟩⟩, hB6⟩
end Go.Tb
namespace Go.Tb
open Go Go.RowKit Go.Proofs Go.Maps
theorem ByR.bytesAt {w : World} {base n : Nat} {v : Value} (h : ByR w base v n) (hn : 0 < n) : ∃ g c, v = .slice (some ⟨g, 0, none⟩) n c ∧ base ≤ g ∧ g < w.heap.size ∧ BytesAt w g n := by
  obtain ⟨bs, hb, ho⟩ := h
  rcases ho.2 with ⟨rfl, rfl⟩ | ⟨g, cap, cur, rfl, hg, _⟩
  · exact absurd hn (by decide)
  · refine ⟨g, cap, rfl, hg, (ho.lt g rfl).2, bs, by simpa using ho.1, fun j u hu => ?_⟩
    have h5 : (⟨g, 0, none⟩ : Addr).add j = ⟨g, j, none⟩ := by simp [Addr.add]; intro h; exact h.symm
    have := ho.cells rfl j u hu
    rw [h5] at this
    exact this
theorem CV.more {B : Nat} {w : World} {cb fb db : Nat} {D : DataW Value} {n : Nat} {K : Nat → Prop} (H : CV B w cb fb db D n K) {g : Nat} (hg : g < w.heap.size) (hf : ∀ x b, Maps.has D (.int .i64 x) = true → (∀ z, D.atKey (.int .i64 x) z = .held (.pointer (some ⟨b, 0, none⟩))) → b ≠ g) :
    CV B w cb fb db D n (fun k => K k ∨ k = g) :=
  { c0 := H.c0, c1 := H.c1, c2 := H.c2, c3 := H.c3, cz := H.cz, own := H.own, kc := .inl H.kc, kf := .inl H.kf, kd := .inl H.kd, Bc := H.Bc, Bf := H.Bf, cf := H.cf
    ks := fun b hb => hb.elim (H.ks b) (fun e => e ▸ hg)
    fr := fun x hx => by
      obtain ⟨b, h1, h2, h3, h4⟩ := H.fr x hx
      exact ⟨b, h1, h2, fun h => h.elim h3 (hf x b hx h1), h4⟩ }
theorem CV.less {B : Nat} {w : World} {cb fb db : Nat} {D : DataW Value} {n : Nat} {K K' : Nat → Prop} (H : CV B w cb fb db D n K) (hk : ∀ k, K' k → K k) (kc : K' cb) (kf : K' fb) (kd : K' db) : CV B w cb fb db D n K' :=
  { c0 := H.c0, c1 := H.c1, c2 := H.c2, c3 := H.c3, cz := H.cz, own := H.own, kc := kc, kf := kf, kd := kd, Bc := H.Bc, Bf := H.Bf, cf := H.cf
    ks := fun b hb => H.ks b (hk b hb)
    fr := fun x hx => by
      obtain ⟨b, h1, h2, h3, h4⟩ := H.fr x hx
      exact ⟨b, h1, h2, fun h => h3 (hk b h), h4⟩ }
theorem put_ok (hF : Fours) (hP : PutC) {B : Nat} {w : World} {b : Blk} {D : DataW Value} {n : Nat} {K : Nat → Prop} (h1 : w.cell? ⟨b.sb, 1, none⟩ = some (.pointer (some ⟨b.cb, 0, none⟩))) (hsb : b.sb < w.heap.size) (H : CV B w b.cb b.fb b.db D n K) (hn : n < 20)
    {a : Option Addr} {c : Nat} (hd0 : w.cell? ⟨b.db, 0, none⟩ = some (.slice a 130 c)) (hd2 : w.cell? ⟨b.db, 2, none⟩ = some (.bool false)) {s : Nat} (hs : s < 130) {base m : Nat} {v : Value} (hv : ByR w base v m) (h0 : 0 < m) (hm : m ≤ 248) :
    Calls Tryz.prog 61 #[.pointer (some ⟨b.sb, 0, none⟩), .int .i64 (s : Int), .int .u8 3, v] w fun e w' => e = .returned (.int .i64 0) ∧
      ∃ D' n', Wrote B w w' b.cb b.fb b.db D' n' K ∧ (∀ x : Int, Maps.has D' (.int .i64 x) = (Maps.has D (.int .i64 x) || decide (x = (s : Int)))) ∧ n' ≤ n + 1 ∧ (Maps.has D (.int .i64 (s : Int)) = true → n' = n) := by
  have S := seal_ok hF hP hv h0 hm
  have hB : B ≤ w.heap.size := Nat.le_trans H.Bc (Nat.le_of_lt (H.ks _ H.kc))
  have HH := Lib.hid H
  have HS := Lib.hid hs
  have HN := Lib.hid hn
  have HB := Lib.hid hB
  clear hv H hF hP hn h0 hm hB hs
  go_enter Tryz.func61, Tryz.ntmps61
  go_upto_region 4 with (go_at_call 36; refine S.mono ?_; rintro e w1 ⟨⟨v1, rfl, hR⟩, hb1⟩)
  obtain ⟨g, c1, rfl, hg, hgl, hby⟩ := hR.bytesAt (by decide)
  have hH1 := HH.out.same hb1.block hb1.size
  have hlt := HH.out.ks
  have hcb := HH.out.ks _ HH.out.kc
  have hfb := HH.out.ks _ HH.out.kf
  have hdb := HH.out.ks _ HH.out.kd
  have hM := hH1.more hgl (fun x b' hx hat e => by
    obtain ⟨b2, k1, k2, k3, k4⟩ := HH.out.fr x hx
    have h5 := hat .nil
    rw [k1] at h5
    injection h5 with h5; injection h5 with h5; injection h5 with h5; injection h5 with h5
    have := k4.lt
    omega)
  have c1' := (hb1.cell (p := ⟨b.sb, 1, none⟩) hsb).trans h1
  have d0' := (hb1.cell (p := ⟨b.db, 0, none⟩) hdb).trans hd0
  have d2' := (hb1.cell (p := ⟨b.db, 2, none⟩) hdb).trans hd2
  have W := cwrite_ok hM HN.out HS.out d0' d2' (g := g) (m := 256) (cp := c1) (by decide) hby (.inr rfl) (by omega) (by omega)
  have hl1 := cell_lt' c1'
  have HB1 := Lib.hid hb1
  clear hM hH1 hby d0' d2' h1 hd0 hd2 hlt hb1 hR
  go_wp2_with (go_at_call 99; refine W.mono ?_; rintro e w2 ⟨rfl, D', n', hW, hx, hn1, hn2⟩)
  go_ret
  refine ⟨rfl, D', n', ⟨hW.1.less (fun k hk => .inl hk) HH.out.kc HH.out.kf HH.out.kd, fun k h1 h2 h3 => (hW.2.1 k (.inl h1) h2 h3).trans (HB1.out.block k (HH.out.ks k h1)), ?_⟩, hx, hn1, hn2⟩
  exact Below.trans ⟨HB1.out.os, HB1.out.tape, HB1.out.output, HB1.out.size, fun k hk => HB1.out.block k (Nat.lt_of_lt_of_le hk HB.out)⟩ hW.2.2
end Go.Tb
namespace Go.Tb
open Go Go.RowKit Go.Proofs Go.Maps
theorem OnceV.lt {w : World} {kb : Nat} (h : OnceV w kb) : kb < w.heap.size := cell_lt' h.1
theorem OnceV.ne_frame {w : World} {kb b : Nat} (h : OnceV w kb) (hf : FrOK w b) : b ≠ kb := fun e => by
  obtain ⟨_, ⟨u, h1⟩, _⟩ := hf
  subst e
  rw [h.2.1] at h1
  cases h1
theorem OnceV.ne_cache {B : Nat} {w : World} {cb fb db kb : Nat} {D : DataW Value} {n : Nat} {K : Nat → Prop} (h : OnceV w kb) (H : CV B w cb fb db D n K) : kb ≠ cb ∧ kb ≠ fb := by
  refine ⟨fun e => ?_, fun e => ?_⟩
  · subst e
    have := H.c0
    rw [h.1] at this
    cases this
  · subst e
    obtain ⟨es, clock, hb, _⟩ := H.own
    have := h.1
    simp [World.cell?, hb] at this
theorem CV.once {B : Nat} {w : World} {cb fb db kb : Nat} {D : DataW Value} {n : Nat} {K : Nat → Prop} (H : CV B w cb fb db D n K) (h : OnceV w kb) : CV B w cb fb db D n (fun k => K k ∨ k = kb) :=
  H.more h.lt (fun x b hx hat e => by
    obtain ⟨b2, k1, _, _, k4⟩ := H.fr x hx
    have h5 := hat .nil
    rw [k1] at h5
    injection h5 with h5; injection h5 with h5; injection h5 with h5; injection h5 with h5
    exact h.ne_frame k4 (h5.trans e))
theorem SpV.wrote {B : Nat} {w w' : World} {b : Blk} {D D' : DataW Value} {n n' kb : Nat} {fo : Nat → Nat} {K : Nat → Prop} (H : SpV B w b D n fo K) (h15 : w.cell? ⟨b.sb, 15, none⟩ = some (.pointer (some ⟨kb, 0, none⟩))) (hO : OnceV w kb) (hkB : B ≤ kb) (hko : kb ≠ b.ob) (hks : kb ≠ b.sb)
    (hW : Wrote B w w' b.cb b.fb b.db D' n' (fun k => K k ∨ k = kb)) (hx : ∀ x : Int, Maps.has D (.int .i64 x) = true → Maps.has D' (.int .i64 x) = true) : SpV B w' b D' n' fo K := by
  obtain ⟨n1, n2, n3, n4, n5, n6, n7, n8, n9, n10, n11, n12, n13, n14, n15⟩ := nodup6 H.nd
  obtain ⟨hC, hh, hbel⟩ := hW
  have hsb := hh b.sb (.inl H.ks) n2 n3
  have hdb := hh b.db (.inl H.cv.kd) n6 n7
  have hob := hh b.ob (.inl H.ko) (Ne.symm n11) (Ne.symm n13)
  have hrb := hh b.rb (.inl H.kr) (Ne.symm n12) (Ne.symm n14)
  have hkc := hO.ne_cache H.cv
  have hkb := hh kb (.inr rfl) hkc.1 hkc.2
  have hc := fun o => (cell_of_heap (a := ⟨b.sb, o, none⟩) hsb).1
  have hz := fun o => (cell_of_heap (a := ⟨b.sb, o, none⟩) hsb).2
  have hd := fun o => (cell_of_heap (a := ⟨b.db, o, none⟩) hdb).1
  exact { s0 := (hc _).trans H.s0, s1 := (hc _).trans H.s1, sp := fun i hi => (hc _).trans (H.sp i hi), s13 := (hc _).trans H.s13, s14 := (hc _).trans H.s14, s15 := ⟨kb, (hc _).trans h15, hO.same hkb, hkB, hko, hks⟩, s16 := (by obtain ⟨v, h⟩ := H.s16; exact ⟨v, (hc _).trans h⟩), sz := fun o ho => (hz o).trans (H.sz o ho), d0 := (by obtain ⟨a, c, h⟩ := H.d0; exact ⟨a, c, (hd _).trans h⟩), d2 := (hd _).trans H.d2, cv := hC.less (fun k hk => .inl hk) H.cv.kc H.cv.kf H.cv.kd, mo := H.mo.keep hob, mr := H.mr.keep hrb, ks := H.ks, ko := H.ko, kr := H.kr, Bs := H.Bs, Bo := H.Bo, nd := H.nd, fs := fun p hp => ⟨(H.fs p hp).1, (H.fs p hp).2.1, (H.fs p hp).2.2.1, hx _ (H.fs p hp).2.2.2⟩ }
theorem swrite_old (hF : Fours) (hP : PutC) {B : Nat} {w : World} {b : Blk} {D : DataW Value} {n : Nat} {fo : Nat → Nat} {K : Nat → Prop} (H : SpV B w b D n fo K) (hn : n < 20) {p : Nat} (hp : p < 1024) (h0 : 0 < fo p) {base m : Nat} {v : Value} (hv : ByR w base v m) (hm0 : 0 < m) (hm : m ≤ 248) :
    Calls Tryz.prog 29 #[.pointer (some ⟨b.sb, 0, none⟩), .int .i64 (p : Int), v] w fun e w' => e = .returned (.int .i64 0) ∧
      ∃ D', SpV B w' b D' n fo K ∧ Below B w w' ∧ ∀ k, K k → k ≠ b.cb → k ≠ b.fb → w'.heap[k]? = w.heap[k]? := by
  obtain ⟨kb, h15, hO, hkB, hko, hks⟩ := H.s15
  obtain ⟨a, c, d0⟩ := H.d0
  obtain ⟨_, hf2, hf3, hf4⟩ := H.fs p (by omega)
  have hsb : b.sb < w.heap.size := H.cv.ks _ H.ks
  have M := may_ok H.s0 H.d2 hp
  have T := turned_ok H.s14 H.s13 H.mo H.mr hp rfl
  rw [decide_eq_true h0] at T
  have P := put_ok hF hP (v := v) H.s1 hsb (H.cv.once hO) hn d0 H.d2 hf3 hv hm0 hm
  obtain ⟨a1, c1, cs, rfl, _⟩ := hv.shape
  have i1 : ¬ (248 : Int) < (m : Int) := by omega
  have i2 : decide ((248 : Int) < (m : Int)) = false := by simpa using i1
  have HS := Lib.hid (fun w' D' n' => H.wrote (w' := w') (D' := D') (n' := n') h15 hO hkB hko hks)
  have H4 := Lib.hid hf4
  clear H hv h15 hO d0 hF hP hf4 hf2 hf3 h0 hm hm0
  generalize fo p = q at T P H4
  go_enter Tryz.func29, Tryz.ntmps29
  go_wp2_with (first | (go_at_call 48; refine M.mono ?_; rintro e w5 ⟨rfl, hw⟩; subst hw) | (go_at_call 59; refine T.mono ?_; rintro e w6 ⟨rfl, hw⟩; subst hw) | (go_at_call 61; refine P.mono ?_; rintro e w7 ⟨rfl, D', n', hW, hx, hn1, hn2⟩))
  go_ret
  obtain rfl := hn2 H4.out
  exact ⟨rfl, D', HS.out _ _ _ hW (fun x h => by rw [hx, h]; rfl), hW.2.2, fun k h1 h2 h3 => hW.2.1 k (.inl h1) h2 h3⟩
end Go.Tb
namespace Go.Tb
open Go Go.RowKit Go.Proofs Go.Maps
def entOf (E : DataW Value) (x : Int) (p s : Int) : Prop := ∀ v, E.atKey (.int .i64 x) (.held (.agg #[.int .i64 0, .int .i64 0])) = .held v → v = .agg #[.int .i64 p, .int .i64 s]
theorem EV.look {w : World} {eb : Nat} {E : DataW Value} {n : Nat} (h : EV w eb E n) {x : Nat} (hx : x < 2 ^ 62) : ∃ p s : Int, (Maps.has E (.int .i64 (x : Int)) = false → p = 0 ∧ s = 0) ∧ (∀ p' s' : Int, (∀ z, E.atKey (.int .i64 (x : Int)) z = .held (.agg #[.int .i64 p', .int .i64 s'])) → p = p' ∧ s = s') ∧ ∀ W : World, W.heap[eb]? = w.heap[eb]? →
    (Instr.lookup 55 (.map (some eb)) (.int .i64 (x : Int)) false).run Tryz.prog W = .ok (.agg #[.int .i64 p, .int .i64 s]) W := by
  obtain ⟨p, s, hv⟩ := h.at x
  have hown : ∀ W : World, W.heap[eb]? = w.heap[eb]? → W.ownsMap Tryz.prog 3 heldR eb n E := fun W hW => by
    obtain ⟨es, clock, hb, hr⟩ := h.own
    exact ⟨es, clock, hW.trans hb, hr⟩
  obtain ⟨v0, k1, k2⟩ := held_look (hown w rfl) key3 Tryz.underlying55 (Tryz.zeroValue62 w) (key_nat hx)
  have hv0 := hv v0 k2
  subst hv0
  refine ⟨p, s, fun hh => ?_, fun p' s' hat => ?_, fun W hW => ?_⟩
  · rw [atKey_of_not_has hh] at k2
    injection k2 with k2; injection k2 with k2
    simp only [Array.mk.injEq, List.cons.injEq, Value.int.injEq, and_true, true_and] at k2
    exact ⟨k2.1.symm, k2.2.symm⟩
  · rw [hat] at k2
    injection k2 with k2; injection k2 with k2
    simp only [Array.mk.injEq, List.cons.injEq, Value.int.injEq, and_true, true_and] at k2
    exact ⟨k2.1.symm, k2.2.symm⟩
  · obtain ⟨v, h1, h2⟩ := held_look (hown W hW) key3 Tryz.underlying55 (Tryz.zeroValue62 W) (key_nat hx)
    rw [hv v h2] at h1
    exact h1
theorem u64_nat (x : Int) : ∃ n : Nat, n < 2 ^ 64 ∧ IntKind.u64.wrap x = (n : Int) := by
  refine ⟨(x % 18446744073709551616).toNat, ?_, ?_⟩
  · omega
  · simp [IntKind.wrap, IntKind.signed, IntKind.bits]; omega
theorem may24 (w : World) (p s : Nat) (hp : 265 ≤ p ∧ p < 1024) (hs : s ≤ 65535) : Calls Tryz.prog 24 #[.agg #[.int .i64 (p : Int), .int .i64 (s : Int)]] w fun e w' => e = .returned (.bool true) ∧ Below w.heap.size w w' := by
  have i1 : (265 : Int) ≤ (p : Int) := by omega
  have i2 : (p : Int) < 1024 := by omega
  have i3 : (0 : Int) ≤ (s : Int) := by omega
  have i4 : (s : Int) ≤ 65535 := by omega
  go_enter Tryz.func24, Tryz.ntmps24
  go_wp2
  go_ret
  exact ⟨rfl, Below.alloc (Below.refl _ _) (Nat.le_refl _) _⟩
end Go.Tb
namespace Go.Tb
open Go Go.Proofs
set_option maxHeartbeats 1000000
theorem co62 : Tryz.prog.cellsOf 62 = 2 := by kernel_rfl
theorem co3 : Tryz.prog.cellsOf 3 = 1 := by kernel_rfl
theorem kl62 (d : Nat) {a b : Int} (ha : (Lit.int .i64 a).wf = true) (hb : (Lit.int .i64 b).wf = true) : Tryz.prog.keyLits (d + 1 + 1) 62 (Value.agg #[.int .i64 a, .int .i64 b]).cells.toList = some [.int .i64 a, .int .i64 b] := by
  simp [Program.keyLits, Tryz.underlying62, Tryz.underlying3, Value.cells, ha, hb, co62, co3, List.range_succ]
theorem eq62 {a b c d : Int} (ha : (Lit.int .i64 a).wf = true) (hb : (Lit.int .i64 b).wf = true) (hc : (Lit.int .i64 c).wf = true) (hd : (Lit.int .i64 d).wf = true) (w : World) : ∃ r : Bool, (Op.equalIn 10000 62 (.agg #[.int .i64 a, .int .i64 b]) (.agg #[.int .i64 c, .int .i64 d])).run Tryz.prog w = .ok r w ∧ (r = true ↔ a = c ∧ b = d) := by
  have h := run_equalIn_deep (P := Tryz.prog) 9990 10 62 (by kernel_rfl)
  obtain ⟨r, h1, h2⟩ := h w (0+1+1) (0+1+1) (.agg #[.int .i64 a, .int .i64 b]) (.agg #[.int .i64 c, .int .i64 d]) [.int .i64 a, .int .i64 b] [.int .i64 c, .int .i64 d] (by rfl) (by rfl) (kl62 0 ha hb) (kl62 0 hc hd)
  exact ⟨r, h1, h2.trans (by simp)⟩
end Go.Tb
namespace Go.Tb
open Go Go.Proofs
open Go.RowKit Go.Maps Go.Sort
set_option maxHeartbeats 1000000 in
theorem keys58 {H : Type} (F : Fence) (n : Nat) (h58 : F.fn 58) (hro : F.round = none) (hn : 1 ≤ n) (l : Nat) (a : Addr) (b nn : Nat) (D0 : DataW H) {R : Value → Option (DataW H × List MemPlace)} (J : List Int → World → Prop)
    (hY : ∀ pre x W, J pre W → pre.length < Maps.size D0 → YieldAt F (n - 1) Tryz.prog l #[encZ x] W fun e W' => e = .returned (.bool true) ∧ J (pre ++ [x]) W' ∧ KeepsWalks W W')
    (W : World) (hJ : AbidesFrom W.heap.size J) (hm : W.cell? a = some (.map (some b))) (hown : W.ownsMap Tryz.prog 3 R b nn D0) (h0 : J [] W) :
    CallsIn F n Tryz.prog 58 #[.func (.yield l) #[] #[], .pointer (some a)] W fun e W' => (∃ v, e = .returned v) ∧ ∃ ss : List Int, ss.Perm (intKeys D0) ∧ J ss W' := by
  refine callsIn_of_wp Tryz.func58 rfl h58 ?_ hro
  simp only [Tryz.ntmps58, List.size_toArray, List.length_cons, List.length_nil, Nat.reduceAdd, Nat.reduceSub, Array.replicate_succ, Array.replicate_zero, List.push_toArray, List.append_toArray, List.nil_append, List.cons_append]
  gi_wp2_with (first
    | (gi_at_range; refine wpListIn_range_own _ rfl _ 55 rfl 3 _ key3 Tryz.underlying55 _ b nn _ rfl hown ?_; intro w0 hrg0 hg0 hs0)
    | gi_in)
  go_frame
  gi_loopw [3] (fun _ wr => ∃ (left : Lit → Bool) (cnt : Nat) (ss : List Int), wr.ranges Tryz.prog 3 R b W.heap.size nn D0 left cnt ∧ ss.length + cnt ≤ Maps.size D0 ∧ CollectedI D0 left ss ∧ J ss wr)
    (fun _ wr => wr.rangeLeft b W.heap.size)
  case atStart =>
    exact ⟨_, _, [], hrg0, by simp, CollectedI.start D0, hJ [] W w0 none h0 hg0 (fun r e => by cases e)⟩
  case round =>
    obtain ⟨left, cnt, ss, hrg, hcs, hC, hJs⟩ := hrel
    gi_wp2_with (first
      | (gi_at_next; refine wpListIn_next_ranges _ rfl _ rfl 3 key3 R encZ id (fun key kl hk => by obtain ⟨x, hx, _⟩ := Maps.keyOf_i64 Tryz.underlying3 hk; exact ⟨x, hx⟩) (fun v _ _ => ⟨v, rfl⟩) b W.heap.size nn _ _ _ rfl hrg ?_ ?_)
      | gi_in)
    · intro hc0 hl0
      gi_wp2
      go_end0
      exact ⟨⟨_, rfl⟩, ss, hC.perm hown key3 Tryz.underlying3 hl0, hJs⟩
    · intro x c kl yd yp w2 cnt2 hkey hlk hv hat hrg2 hlt hg2 hs2 hen
      obtain ⟨x', ex, rfl, _⟩ := Maps.keyOf_i64 Tryz.underlying3 hkey
      obtain rfl : x = x' := encZ_inj ex
      have hJ2 : J ss w2 := hJ ss wr w2 (some W.heap.size) hJs hg2 (fun r e => by cases e; exact ⟨Nat.le_refl _, hrg.iter_walk⟩)
      obtain ⟨fn, tmps, assign, body, hy, hR⟩ := hY ss x w2 hJ2 (by omega)
      clear hs2
      gi_wp2
      refine hR.mono ?_
      rintro e W3 ⟨rfl, hJ3, hk3⟩
      gi_wp2
      have hrg3 := hrg2.of_walks hk3
      go_roundw
      case rel => exact ⟨_, cnt2, ss ++ [x], hrg3, by simp; omega, hC.step hlk hat, hJ3⟩
      case measure => rw [hrg3.left_eq, hrg.left_eq]; exact hlt
theorem keys58_gives {H : Type} (F : Fence) (n : Nat) (h58 : F.fn 58) (hro : F.round = none) (hn : 1 ≤ n) (a : Addr) (b nn : Nat) (D0 : DataW H) {R : Value → Option (DataW H × List MemPlace)} (w : World) (ha : a.block < w.heap.size)
    (hm : w.cell? a = some (.map (some b))) (hown : w.ownsMap Tryz.prog 3 R b nn D0) :
    SeqGives F n Tryz.prog 58 #[.pointer (some a)] encZ (fun ss => ss.Perm (intKeys D0)) (Maps.size D0) w := fun l J W hW hJ hY h0 => by
  have hown' : W.ownsMap Tryz.prog 3 R b nn D0 := by
    have hbl := hown.lt
    obtain ⟨es, clock, hb, Ft, hs, hD⟩ := hown
    exact ⟨es, clock, (hW.block b hbl).trans hb, Ft, hs, hD⟩
  exact keys58 F n h58 hro hn l a b nn D0 J hY W hJ ((hW.cell (p := a) ha).trans hm) hown' h0
end Go.Tb
namespace Go.Proofs
open Go.Shelf
def Tryz.sortedS_ren : Go.Shelf.Ren := ⟨fun | 6 => 26 | 8 => 56 | 9 => 57 | 11 => 96 | 13 => 98 | 12 => 97 | 23 => 129 | 24 => 130 | 14 => 120 | 15 => 121 | 16 => 122 | 17 => 123 | 18 => 124 | 19 => 125 | 20 => 126 | 21 => 127 | 22 => 128 | 25 => 141 | 26 => 142 | 27 => 143 | 28 => 144 | 29 => 145 | 30 => 146 | 31 => 152 | n => n, fun | 26 => 3 | 28 => 67 | 24 => 38 | 0 => 0 | 3 => 3 | 37 => 159 | 48 => 71 | 50 => 104 | 4 => 4 | 40 => 189 | 39 => 188 | 45 => 32 | 5 => 5 | 9 => 9 | 51 => 202 | 55 => 206 | 57 => 212 | 58 => 213 | 33 => 91 | n => n, fun | n => n⟩
theorem Tryz.sortedS : Go.Proofs.SlLaysZI.n6 Tryz.prog Tryz.sortedS_ren := {
  mixed := by kernel_rfl
  f6 := ⟨Tryz.f26.name, by decide, Tryz.func26.trans (congrArg some (by kernel_rfl))⟩
  f8 := ⟨Tryz.f56.name, by decide, Tryz.func56.trans (congrArg some (by kernel_rfl))⟩
  f11 := ⟨Tryz.f96.name, by decide, Tryz.func96.trans (congrArg some (by kernel_rfl))⟩
  t0 := Tryz.underlying0
  a0 := Tryz.isAgg0
  z0 := Tryz.sizeOf0
  v0 := Tryz.zeroValue0
  t24 := Tryz.underlying38
  a24 := Tryz.isAgg38
  z24 := Tryz.sizeOf38
  v24 := Tryz.zeroValue38
  t26 := Tryz.underlying3
  a26 := Tryz.isAgg3
  z26 := Tryz.sizeOf3
  v26 := Tryz.zeroValue3
  t28 := Tryz.underlying67
  a28 := Tryz.isAgg67
  z28 := Tryz.sizeOf67
  v28 := Tryz.zeroValue67
  i26 := by kernel_rfl }
def Tryz.sortS_ren : Go.Shelf.Ren := ⟨fun | 5 => 57 | 8 => 98 | 7 => 97 | 19 => 129 | 20 => 130 | 10 => 120 | 11 => 121 | 12 => 122 | 13 => 123 | 14 => 124 | 15 => 125 | 16 => 126 | 17 => 127 | 18 => 128 | 30 => 141 | 31 => 142 | 32 => 143 | 33 => 144 | 34 => 145 | 35 => 146 | 40 => 152 | n => n, fun | 23 => 38 | 25 => 3 | 3 => 3 | 32 => 159 | 22 => 38 | 0 => 0 | 44 => 71 | 46 => 104 | 4 => 4 | 36 => 189 | 35 => 188 | 41 => 32 | 5 => 5 | 9 => 9 | 53 => 202 | 57 => 206 | 63 => 212 | 64 => 213 | n => n, fun | n => n⟩
theorem Tryz.sortS : Go.Proofs.SlLaysM.n5 Tryz.prog Tryz.sortS_ren := {
  mixed := by kernel_rfl
  f5 := ⟨Tryz.f57.name, by decide, Tryz.func57.trans (congrArg some (by kernel_rfl))⟩
  f7 := ⟨Tryz.f97.name, by decide, Tryz.func97.trans (congrArg some (by kernel_rfl))⟩
  f8 := Tryz.func98.trans (congrArg some (by kernel_rfl))
  f10 := ⟨Tryz.f120.name, by decide, Tryz.func120.trans (congrArg some (by kernel_rfl))⟩
  f11 := ⟨Tryz.f121.name, by decide, Tryz.func121.trans (congrArg some (by kernel_rfl))⟩
  f12 := ⟨Tryz.f122.name, by decide, Tryz.func122.trans (congrArg some (by kernel_rfl))⟩
  f13 := ⟨Tryz.f123.name, by decide, Tryz.func123.trans (congrArg some (by kernel_rfl))⟩
  f14 := ⟨Tryz.f124.name, by decide, Tryz.func124.trans (congrArg some (by kernel_rfl))⟩
  f15 := ⟨Tryz.f125.name, by decide, Tryz.func125.trans (congrArg some (by kernel_rfl))⟩
  f16 := ⟨Tryz.f126.name, by decide, Tryz.func126.trans (congrArg some (by kernel_rfl))⟩
  f17 := ⟨Tryz.f127.name, by decide, Tryz.func127.trans (congrArg some (by kernel_rfl))⟩
  f18 := ⟨Tryz.f128.name, by decide, Tryz.func128.trans (congrArg some (by kernel_rfl))⟩
  f19 := Tryz.func129.trans (congrArg some (by kernel_rfl))
  f20 := Tryz.func130.trans (congrArg some (by kernel_rfl))
  f30 := ⟨Tryz.f141.name, by decide, Tryz.func141.trans (congrArg some (by kernel_rfl))⟩
  f31 := Tryz.func142.trans (congrArg some (by kernel_rfl))
  f32 := Tryz.func143.trans (congrArg some (by kernel_rfl))
  f33 := ⟨Tryz.f144.name, by decide, Tryz.func144.trans (congrArg some (by kernel_rfl))⟩
  f34 := ⟨Tryz.f145.name, by decide, Tryz.func145.trans (congrArg some (by kernel_rfl))⟩
  f35 := ⟨Tryz.f146.name, by decide, Tryz.func146.trans (congrArg some (by kernel_rfl))⟩
  f40 := ⟨Tryz.f152.name, by decide, Tryz.func152.trans (congrArg some (by kernel_rfl))⟩
  t0 := Tryz.underlying0
  a0 := Tryz.isAgg0
  z0 := Tryz.sizeOf0
  v0 := Tryz.zeroValue0
  t3 := Tryz.underlying3
  a3 := Tryz.isAgg3
  z3 := Tryz.sizeOf3
  v3 := Tryz.zeroValue3
  t4 := Tryz.underlying4
  a4 := Tryz.isAgg4
  z4 := Tryz.sizeOf4
  v4 := Tryz.zeroValue4
  t5 := Tryz.underlying5
  a5 := Tryz.isAgg5
  z5 := Tryz.sizeOf5
  v5 := Tryz.zeroValue5
  t9 := Tryz.underlying9
  a9 := Tryz.isAgg9
  z9 := Tryz.sizeOf9
  v9 := Tryz.zeroValue9
  t22 := Tryz.underlying38
  a22 := Tryz.isAgg38
  z22 := Tryz.sizeOf38
  v22 := Tryz.zeroValue38
  t23 := Tryz.underlying38
  a23 := Tryz.isAgg38
  z23 := Tryz.sizeOf38
  v23 := Tryz.zeroValue38
  t25 := Tryz.underlying3
  a25 := Tryz.isAgg3
  z25 := Tryz.sizeOf3
  v25 := Tryz.zeroValue3
  t32 := Tryz.underlying159
  a32 := Tryz.isAgg159
  z32 := Tryz.sizeOf159
  v32 := Tryz.zeroValue159
  t35 := Tryz.underlying188
  a35 := Tryz.isAgg188
  z35 := Tryz.sizeOf188
  v35 := Tryz.zeroValue188
  t36 := Tryz.underlying189
  a36 := Tryz.isAgg189
  z36 := Tryz.sizeOf189
  v36 := Tryz.zeroValue189
  t41 := Tryz.underlying32
  a41 := Tryz.isAgg32
  z41 := Tryz.sizeOf32
  v41 := Tryz.zeroValue32
  t44 := Tryz.underlying71
  a44 := Tryz.isAgg71
  z44 := Tryz.sizeOf71
  v44 := Tryz.zeroValue71
  t46 := Tryz.underlying104
  a46 := Tryz.isAgg104
  z46 := Tryz.sizeOf104
  v46 := Tryz.zeroValue104
  t53 := Tryz.underlying202
  a53 := Tryz.isAgg202
  z53 := Tryz.sizeOf202
  v53 := Tryz.zeroValue202
  t57 := Tryz.underlying206
  a57 := Tryz.isAgg206
  z57 := Tryz.sizeOf206
  v57 := Tryz.zeroValue206
  t63 := Tryz.underlying212
  a63 := Tryz.isAgg212
  z63 := Tryz.sizeOf212
  v63 := Tryz.zeroValue212
  t64 := Tryz.underlying213
  a64 := Tryz.isAgg213
  z64 := Tryz.sizeOf213
  v64 := Tryz.zeroValue213 }
end Go.Proofs
set_option maxHeartbeats 1600000
namespace Go.Tb
open Go Go.RowKit Go.Proofs Go.Maps Go.Sort Go.Shelf
def Enters (P : Program) (f : Nat) : Prop := ∀ args w, (callFunc f args).run P w = .ok (.enter f args) w
theorem enters_of {P : Program} {f : Nat} {fn : Func} (h : P.funcs[f]? = some fn) (hb : fn.body.isSome = true) (hn : (fn.name == "runtime.NumGoroutine") = false) : Enters P f := by
  obtain ⟨c, hc⟩ := Option.isSome_iff_exists.1 hb
  have hn' : ¬ fn.name = "runtime.NumGoroutine" := by intro e; rw [e] at hn; simp at hn
  intro args w
  simp [callFunc, h, hn', hc]
theorem enters58 : Enters Tryz.prog 58 := enters_of Tryz.func58 (by kernel_rfl) (by kernel_rfl)
theorem enters57 : Enters Tryz.prog 57 := enters_of Tryz.func57 (by kernel_rfl) (by kernel_rfl)
theorem sortsT (m : Nat) : AnyZI.SortsIn Tryz.prog Tryz.sortedS_ren Fence.wide m :=
  ⟨fun blk off cap ss W hH hblk hsz => callsIn_wide.2 (AnyM.slices_Sort_int Tryz.sortS blk off cap ss W hH hblk hsz),
   fun p cap W => callsIn_wide.2 (AnyM.slices_Sort_int_none Tryz.sortS p cap W)⟩
theorem sorted_ok {H : Type} {a : Addr} {b nn : Nat} {D0 : DataW H} {R : Value → Option (DataW H × List MemPlace)} {w : World} (ha : a.block < w.heap.size) (hm : w.cell? a = some (.map (some b))) (hown : w.ownsMap Tryz.prog 3 R b nn D0) (hmax : Maps.size D0 ≤ maxLen) (hbytes : Maps.size D0 * 8 ≤ 140737488355328) :
    Calls Tryz.prog 26 #[.func (.func 58) #[] #[.pointer (some a)]] w fun e w' => ∃ (v : Value) (ss : List Int), e = .returned v ∧ ss.Perm (intKeys D0) ∧
      w'.ownsRow w.heap.size 3 1 v ss.length ((ss.mergeSort (fun x y => decide (x ≤ y))).map encZ) ∧ (v = .slice none 0 0 ↔ ss = []) ∧ Below w.heap.size w w' := by
  refine (callsIn_wide (n := 5)).1 ?_
  have hseq : SeqGives Fence.wide 2 Tryz.prog 58 #[.pointer (some a)] encZ (fun ss => ss.Perm (intKeys D0)) (Maps.size D0) w :=
    keys58_gives Fence.wide 2 trivial rfl (by omega) a b nn D0 w ha hm hown
  exact AnyZI.sorted_in Tryz.sortedS Fence.wide 5 trivial trivial trivial trivial rfl (by omega) (sortsT _) enters57 58 #[.pointer (some a)] trivial enters58 _ _ hmax hbytes _ hseq
theorem keys_ok {w : World} {eb : Nat} : Calls Tryz.prog 27 #[.map (some eb)] w fun e w' => e = .returned (.func (.func 58) #[] #[.pointer (some ⟨w.heap.size, 0, none⟩)]) ∧ w' = w.alloc (.cells #[.map (some eb)] 55) := by
  go_enter Tryz.func27, Tryz.ntmps27
  go_wp2
  go_ret
  exact ⟨rfl, rfl⟩
theorem oids_ok {w : World} {tb eb : Nat} {E : DataW Value} {n : Nat} (h1 : w.cell? ⟨tb, 1, none⟩ = some (.map (some eb))) (h : EV w eb E n) (hn : n ≤ 1048576) :
    Calls Tryz.prog 13 #[.pointer (some ⟨tb, 0, none⟩)] w fun e w' => ∃ (v : Value) (ss : List Int), e = .returned v ∧ ss.Perm (intKeys E) ∧
      w'.ownsRow w.heap.size 3 1 v ss.length ((ss.mergeSort (fun x y => decide (x ≤ y))).map encZ) ∧ Below w.heap.size w w' := by
  have hl := cell_lt' h1
  have K1 := keys_ok (w := w) (eb := eb)
  have hown : (w.alloc (.cells #[.map (some eb)] 55)).ownsMap Tryz.prog 3 heldR eb n E := World.ownsMap.alloc h.own _
  have hc : (w.alloc (.cells #[.map (some eb)] 55)).cell? ⟨w.heap.size, 0, none⟩ = some (.map (some eb)) := by
    have := (Go.MapKept.heap_alloc w (.cells #[.map (some eb)] 55)).1
    generalize w.alloc (.cells #[.map (some eb)] 55) = W at this ⊢
    simp [World.cell?, this]
  have hsz := h.own.size_le
  have hbel : Below w.heap.size w (w.alloc (.cells #[.map (some eb)] 55)) := Below.alloc (Below.refl _ _) (Nat.le_refl _) _
  have S := sorted_ok (cell_lt' hc) hc hown (Nat.le_trans hsz (Nat.le_trans hn (by decide))) (by omega)
  generalize w.alloc (.cells #[.map (some eb)] 55) = W at K1 S hbel
  have HB := Lib.hid hbel
  clear hown hc hsz h hbel
  go_enter Tryz.func13, Tryz.ntmps13
  go_wp2_with (first | (go_at_call 27; refine K1.mono ?_; rintro e w5 ⟨rfl, rfl⟩) | (go_at_call 26; refine S.mono ?_; rintro e w6 ⟨v, ss, rfl, q1, q2, q3, q4⟩))
  go_ret
  have hB := HB.out
  refine ⟨_, ss, rfl, q1, ?_, ?_⟩
  · exact ⟨q2.1, q2.2.imp id fun ⟨g, cap, cur, e, hb, r⟩ => ⟨g, cap, cur, e, Nat.le_trans hB.size hb, r⟩⟩
  · exact hB.trans ⟨q4.os, q4.tape, q4.output, q4.size, fun k hk => q4.block k (Nat.lt_of_lt_of_le hk hB.size)⟩
end Go.Tb
