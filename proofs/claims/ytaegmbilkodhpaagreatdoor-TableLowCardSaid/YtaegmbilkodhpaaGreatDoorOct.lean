/- A part of the proof of TableLow: what a function of the program answers, walked by hand. Each theorem says its own conditions. -/
import Derived.Test.YtaegmbilkodhpaaGreatDoorTbB
import Derived.RangeFuncBox
import Derived.RangeFuncSeq
import Derived.OwnWalkIn
import Derived.TacticsInMore
import Derived.RegionIn
import Derived.LoopNIn
import Derived.LoopIn
set_option linter.unusedVariables false
set_option linter.unusedSimpArgs false
set_option maxRecDepth 100000
set_option maxHeartbeats 1600000
namespace Go.Tb
open Go Go.RowKit Go.Proofs Go.Maps
attribute [local go_sem] Oper.semAt_some
theorem digits_in (F : Fence) (n : Nat) (h119 : F.fn 119) (hro : F.round = none) (hn : 1 ≤ n) (l bn bx m : Nat) (hm : m ≤ 8) (hnx : bn ≠ bx) (J : Nat → World → Prop)
    (hY : ∀ j x W, J j W → j < m → x < 256 → YieldAt F (n - 1) Tryz.prog l #[.int .u8 (x : Nat)] W fun e W' => e = .returned (.bool true) ∧ J (j + 1) W' ∧ (∀ v, Boxed W bn 3 v → Boxed W' bn 3 v) ∧ (∀ v, Boxed W bx 104 v → Boxed W' bx 104 v))
    (hJn : ∀ j W v, J j W → J j (W.setCell ⟨bn, 0, none⟩ v)) (hJx : ∀ j W v, J j W → J j (W.setCell ⟨bx, 0, none⟩ v))
    (W : World) (x : Nat) (hx : x < 2 ^ 64) (hbn : Boxed W bn 3 (.int .i64 (m : Int))) (hbx : Boxed W bx 104 (.int .u64 (x : Int))) (h0 : J 0 W) :
    CallsIn F n Tryz.prog 119 #[.func (.yield l) #[] #[], .pointer (some ⟨bn, 0, none⟩), .pointer (some ⟨bx, 0, none⟩)] W fun e W' => (∃ v, e = .returned v) ∧ J m W' := by
  refine callsIn_of_wp Tryz.func119 rfl h119 ?_ hro
  simp only [Tryz.ntmps119, List.size_toArray, List.length_cons, List.length_nil, Nat.reduceAdd, Nat.reduceSub, Array.replicate_succ, Array.replicate_zero, List.push_toArray, List.append_toArray, List.nil_append, List.cons_append]
  gi_wp2
  gi_loopw [] (fun wr => ∃ (k y : Nat), k ≤ m ∧ y < 2 ^ 64 ∧ Boxed wr bn 3 (.int .i64 ((m - k : Nat) : Int)) ∧ Boxed wr bx 104 (.int .u64 (y : Int)) ∧ J k wr)
    (fun wr => match wr.cell? ⟨bn, 0, none⟩ with | some v => (Go.RowKit.intOf v).toNat | none => 0)
  case atStart => exact ⟨0, x, Nat.zero_le _, hx, by simpa using hbn, hbx, h0⟩
  case round =>
    obtain ⟨k, y, hk, hy, hb1, hb2, hJ⟩ := hrel
    have c1 := hb1.cell
    have f1 := hb1.frozen
    have c2 := hb2.cell
    have f2 := hb2.frozen
    have l1 := hb1.lt
    have l2 := hb2.lt
    by_cases e : k = m
    · subst e
      have c1' : wr.cell? ⟨bn, 0, none⟩ = some (.int .i64 0) := by simpa using c1
      clear c1
      gi_wp2
      refine ⟨(fun _ h => by cases h), ?_⟩
      gi_wp2_with fail
      go_end0
      exact ⟨⟨_, rfl⟩, hJ⟩
    · have hkm : 0 < ((m - k : Nat) : Int) := by omega
      obtain ⟨fn, tmps, assign, body, hyy, hR⟩ := hY k (y % 256) wr hJ (by omega) (by omega)
      have hw : IntKind.u8.wrap (y : Int) = ((y % 256 : Nat) : Int) := by simp [IntKind.wrap, IntKind.signed, IntKind.bits]
      rw [show (((y % 256 : Nat) : Nat) : Int) = (y : Int) % 256 from by omega] at hyy
      generalize hq : m - k = q at *
      gi_wp2
      refine hR.mono ?_
      rintro e W3 ⟨rfl, hJ3, hk3, hk4⟩
      have b1 := hk3 _ hb1
      have b2 := hk4 _ hb2
      have c31 := b1.cell
      have f31 := b1.frozen
      have c32 := b2.cell
      have f32 := b2.frozen
      have l31 := b1.lt
      have l32 := b2.lt
      gi_wp2
      have b3 : Boxed (W3.setCell ⟨bx, 0, none⟩ (.int .u64 ((y : Int) / 256))) bn 3 (.int .i64 (q : Int)) := (heap_setCell_other W3 (⟨bx, 0, none⟩ : Addr) bn _ hnx).trans b1
      have b4 := b3.set (.int .i64 ((q : Int) - 1))
      have b5 := b2.set (.int .u64 ((y : Int) / 256))
      have b6 : Boxed ((W3.setCell ⟨bx, 0, none⟩ (.int .u64 ((y : Int) / 256))).setCell ⟨bn, 0, none⟩ (.int .i64 ((q : Int) - 1))) bx 104 (.int .u64 ((y : Int) / 256)) := (heap_setCell_other _ (⟨bn, 0, none⟩ : Addr) bx _ (Ne.symm hnx)).trans b5
      refine ⟨⟨k + 1, y / 256, by omega, by omega, ?_, by simpa using b6, hJn _ _ _ (hJx _ _ _ hJ3)⟩, ?_⟩
      · have : ((m - (k + 1) : Nat) : Int) = (q : Int) - 1 := by omega
        rw [this]; exact b4
      · rw [b4.cell, c1]; simp [Go.RowKit.intOf]; omega
end Go.Tb
namespace Go.Tb
open Go Go.RowKit Go.Proofs Go.Maps
structure KeepsBut (B bn bx : Nat) (W W' : World) : Prop where
  os : W'.os = W.os
  tape : W'.tape = W.tape
  output : W'.output = W.output
  size : W.heap.size ≤ W'.heap.size
  same : ∀ (k : Nat) (o : Obj), W.heap[k]? = some o → (k < B ∨ o.isCells = true) → k ≠ bn → k ≠ bx → W'.heap[k]? = some o
theorem KeepsBut.put {B bn bx : Nat} {W : World} {l : Nat} {o o' : Obj} (h : W.heap[l]? = some o) (hc : o.isCells = false) (hl : B ≤ l) : KeepsBut B bn bx W (W.putObj l o') :=
  ⟨rfl, rfl, rfl, by simp [World.putObj], fun k o2 hk hor _ _ => by
    have hne : k ≠ l := fun e => by
      subst e
      rw [h] at hk; cases hk
      rcases hor with h1 | h1
      · omega
      · rw [hc] at h1; cases h1
    exact (World.putObj_heap_other hne).trans hk⟩
theorem KeepsBut.setN {B bn bx : Nat} {W : World} {v : Value} {b : Nat} (h : b = bn ∨ b = bx) : KeepsBut B bn bx W (W.setCell ⟨b, 0, none⟩ v) :=
  ⟨rfl, rfl, rfl, by simp [World.setCell], fun k o2 hk _ h1 h2 => by
    have hne : k ≠ b := by rcases h with rfl | rfl <;> assumption
    exact (heap_setCell_other W (⟨b, 0, none⟩ : Addr) k v hne).trans hk⟩
theorem KeepsBut.news {B bn bx : Nat} {W : World} {o : Obj} : KeepsBut B bn bx W (W.alloc o) :=
  ⟨rfl, rfl, rfl, by simp, fun k o2 hk _ h1 h2 => (Below.heap_alloc _ _ k (Array.getElem?_eq_some_iff.1 hk).1).trans hk⟩
theorem range_digits {F : Fence} {n : Nat} {g : Operand} {p : Tmp} {assign body : Code} {Q : Exit → Act → World → Prop} {a : Act} {w : World}
    (hro : F.round = none) (h2 : 2 ≤ n) (h119 : F.fn 119) (e119 : ∀ args w, (callFunc 119 args).run Tryz.prog w = .ok (.enter 119 args) w) {bn bx m x : Nat} (hm : m ≤ 8) (hnx : bn ≠ bx) (hx : x < 2 ^ 64)
    (hg : a.eval g = .func (.func 119) #[] #[.pointer (some ⟨bn, 0, none⟩), .pointer (some ⟨bx, 0, none⟩)])
    (hbn : Boxed w bn 3 (.int .i64 (m : Int))) (hbx : Boxed w bx 104 (.int .u64 (x : Int)))
    (I : Nat → World → Prop) (a₁ : Nat → Act)
    (hI : ∀ j W W', I j W → (∃ v, Boxed W bn 3 v) → (∃ v, Boxed W bx 104 v) → KeepsBut w.heap.size bn bx W W' → I j W') (h0 : I 0 w)
    (hassign : ∀ (l c : Nat) (W : World) (K : Act → World → Prop), K (a₁ c) W → assign.wpIn (F.inRound l) (n - 1 - 1) Tryz.prog (Exit.then K (fun _ _ _ => False)) { tmps := a.tmps.setIfInBounds p (.int .u8 (c : Int)), defers := [] } W)
    (hbody : ∀ (l j c : Nat) (W : World), I j W → j < m → c < 256 → w.heap.size ≤ W.heap.size → (∃ v, Boxed W bn 3 v) → (∃ v, Boxed W bx 104 v) →
      body.wpIn (F.inRound l) (n - 1 - 1) Tryz.prog (fun e _ W' => e = .normal ∧ I (j + 1) W' ∧ KeepsOthers W W' ∧ (∀ v, Boxed W bn 3 v → Boxed W' bn 3 v) ∧ (∀ v, Boxed W bx 104 v → Boxed W' bx 104 v)) (a₁ c) W)
    (hdone : ∀ (D : Nat) (W : World), w.heap.size ≤ D → I m W → (∃ v, Boxed W bn 3 v) → (∃ v, Boxed W bx 104 v) → W.heap[D]? = some (.deferred (some [])) → Q .normal { a with defers := { target := .collected D, args := #[] } :: a.defers } W) :
    (Code.rangeFunc g #[p] assign body).wpIn F n Tryz.prog Q a w := by
  refine wpIn_rangeFunc ?_
  intro fn hfn
  rw [hro]
  obtain ⟨rec, hrec⟩ : ∃ rec : LoopState → Option Code → Loop, rec = fun st pe => { state := st, pending := pe, fn, tmps := a.tmps, params := #[p], assign, body, defers := w.heap.size } := ⟨_, rfl⟩
  obtain ⟨l, hl⟩ : ∃ l, l = w.heap.size + 1 := ⟨_, rfl⟩
  obtain ⟨W1, hW1⟩ : ∃ W1, (w.alloc (.deferred (some []))).alloc (.loop (rec .ready none)) = W1 := ⟨_, rfl⟩
  have hL1 : W1.heap[l]? = some (.loop (rec .ready none)) := by
    rw [← hW1, hl]; have := World.alloc_heap_new (w.alloc (.deferred (some []))) (.loop (rec .ready none)); rwa [World.size_alloc] at this
  have hK1 : W1.heap[w.heap.size]? = some (.deferred (some [])) := by
    rw [← hW1]; exact (Below.heap_alloc _ _ _ (by simp)).trans (World.alloc_heap_new w _)
  have hbnl := hbn.lt
  have hbxl := hbx.lt
  have hold : ∀ k, k < w.heap.size → W1.heap[k]? = w.heap[k]? := fun k hk => by
    rw [← hW1]; exact (Below.heap_alloc _ _ k (by simp; omega)).trans (Below.heap_alloc _ _ k hk)
  have hs1 : w.heap.size ≤ W1.heap.size := by rw [← hW1]; simp; omega
  have hbn1 : Boxed W1 bn 3 (.int .i64 (m : Int)) := (hold bn hbnl).trans hbn
  have hbx1 : Boxed W1 bx 104 (.int .u64 (x : Int)) := (hold bx hbxl).trans hbx
  have hI1 : I 0 W1 := by rw [← hW1]; exact hI 0 _ _ (hI 0 _ _ h0 ⟨_, hbn⟩ ⟨_, hbx⟩ KeepsBut.news) ⟨_, hbn.alloc _⟩ ⟨_, hbx.alloc _⟩ KeepsBut.news
  have hne1 : bn ≠ l := by omega
  have hne2 : bx ≠ l := by omega
  have hne3 : w.heap.size ≠ l := by omega
  refine ⟨l, [{ target := .collected w.heap.size, args := #[] }], W1, { target := .fn (.func 119) #[.pointer (some ⟨bn, 0, none⟩), .pointer (some ⟨bx, 0, none⟩)], args := #[.func (.yield l) #[] #[]] }, W1, 119,
    #[.func (.yield l) #[] #[]] ++ #[.pointer (some ⟨bn, 0, none⟩), .pointer (some ⟨bx, 0, none⟩)], W1, ?_, ?_, ?_, ?_, fun _ => by omega, ?_⟩
  · rw [← hW1, hrec, hl]; exact run_enterLoop_outer _ _ _ _ _
  · simp only [resolve, hg]
    simp [go_sem]
  · intro f' hf'; simp [Target.leads] at hf'; subst hf'; exact h119
  · simp [invoke, go_sem, e119]
  · refine (digits_in F (n - 1) h119 hro (by omega) l bn bx m hm hnx
      (fun j W => I j W ∧ W.heap[l]? = some (.loop (rec .ready none)) ∧ W.heap[w.heap.size]? = some (.deferred (some [])) ∧ (∃ v, Boxed W bn 3 v) ∧ (∃ v, Boxed W bx 104 v) ∧ w.heap.size ≤ W.heap.size)
      ?_ ?_ ?_ W1 x hx hbn1 hbx1 ⟨hI1, hL1, hK1, ⟨_, hbn1⟩, ⟨_, hbx1⟩, hs1⟩).mono ?_
    · rintro j c W ⟨hi, hL, hK, hBn, hBx, hsz⟩ hj hc
      have hlt : l < W.heap.size := (Array.getElem?_eq_some_iff.1 hL).1
      have hy := run_yield (P := Tryz.prog) (args := #[.int .u8 (c : Int)]) hL (by rw [hrec]; rfl)
      rw [hrec] at hy
      have hKB : KeepsBut w.heap.size bn bx W (W.putObj l (.loop { rec .ready none with state := .busy })) := KeepsBut.put hL rfl (by omega)
      have hL2 : (W.putObj l (.loop { rec .ready none with state := .busy })).heap[l]? = some (.loop { rec .ready none with state := .busy }) := World.putObj_heap_same hlt
      have hK2 : (W.putObj l (.loop { rec .ready none with state := .busy })).heap[w.heap.size]? = some (.deferred (some [])) := (World.putObj_heap_other hne3).trans hK
      have hB2 : ∀ v, Boxed W bn 3 v → Boxed (W.putObj l (.loop { rec .ready none with state := .busy })) bn 3 v := fun v h => (World.putObj_heap_other hne1).trans h
      have hB3 : ∀ v, Boxed W bx 104 v → Boxed (W.putObj l (.loop { rec .ready none with state := .busy })) bx 104 v := fun v h => (World.putObj_heap_other hne2).trans h
      refine ⟨fn, _, assign, body, hy, roundIn_of_wpIn hfn ?_⟩
      refine Eq.mp (congrArg (fun t => Code.wpIn (F.inRound l) (n - 1 - 1) Tryz.prog assign _ { tmps := t, defers := [] } W) ?_) (hassign l c W _ ⟨_, run_beginRound hL (by rw [hrec]), Code.wpIn_mono ?_ (hbody l j c _ (hI j _ _ hi hBn hBx hKB) hj hc (Nat.le_trans hsz hKB.size) (hBn.imp hB2) (hBx.imp hB3))⟩)
      · simp
      rintro e a' W' ⟨rfl, hi', hk', hb1, hb2⟩
      have hL3 := hk'.same _ _ hL2 rfl
      have hK3 := hk'.same _ _ hK2 rfl
      have hlt3 : l < W'.heap.size := (Array.getElem?_eq_some_iff.1 hL3).1
      have hBn3 : ∀ v, Boxed W bn 3 v → Boxed W' bn 3 v := fun v h => hb1 v (hB2 v h)
      have hBx3 : ∀ v, Boxed W bx 104 v → Boxed W' bx 104 v := fun v h => hb2 v (hB3 v h)
      refine ⟨_, _, run_endRound none hL3, rfl, ⟨?_, ?_, ?_, ?_, ?_, ?_⟩, ?_, ?_⟩
      · exact hI _ _ _ hi' (hBn.imp hBn3) (hBx.imp hBx3) (KeepsBut.put hL3 rfl (by omega))
      · rw [World.putObj_heap_same hlt3, hrec]; rfl
      · exact (World.putObj_heap_other hne3).trans hK3
      · obtain ⟨v, h⟩ := hBn; exact ⟨v, (World.putObj_heap_other hne1).trans (hBn3 v h)⟩
      · obtain ⟨v, h⟩ := hBx; exact ⟨v, (World.putObj_heap_other hne2).trans (hBx3 v h)⟩
      · have := hk'.size; have := hKB.size; simp [World.putObj] at *; omega
      · intro v h; exact (World.putObj_heap_other hne1).trans (hBn3 v h)
      · intro v h; exact (World.putObj_heap_other hne2).trans (hBx3 v h)
    · rintro j W v ⟨hi, hL, hK, ⟨v1, hBn⟩, ⟨v2, hBx⟩, hsz⟩
      have ho := fun k (hk : k ≠ bn) => heap_setCell_other W (⟨bn, 0, none⟩ : Addr) k v hk
      exact ⟨hI _ _ _ hi ⟨_, hBn⟩ ⟨_, hBx⟩ (KeepsBut.setN (.inl rfl)), (ho l (Ne.symm hne1)).trans hL, (ho _ (by omega)).trans hK, ⟨_, hBn.set v⟩, ⟨_, (ho bx (Ne.symm hnx)).trans hBx⟩, by simpa [World.setCell] using hsz⟩
    · rintro j W v ⟨hi, hL, hK, ⟨v1, hBn⟩, ⟨v2, hBx⟩, hsz⟩
      have ho := fun k (hk : k ≠ bx) => heap_setCell_other W (⟨bx, 0, none⟩ : Addr) k v hk
      exact ⟨hI _ _ _ hi ⟨_, hBn⟩ ⟨_, hBx⟩ (KeepsBut.setN (.inr rfl)), (ho l (Ne.symm hne2)).trans hL, (ho _ (by omega)).trans hK, ⟨_, (ho bn hnx).trans hBn⟩, ⟨_, hBx.set v⟩, by simpa [World.setCell] using hsz⟩
    · rintro e W2 ⟨⟨v0, rfl⟩, hi, hL, hK, ⟨v1, hBn⟩, ⟨v2, hBx⟩, hsz⟩
      have hend := run_endLoop (P := Tryz.prog) hL (by rw [hrec]; simp)
      refine ⟨_, _, hend, ?_⟩
      have hpe : (rec .ready none).pending = none := by rw [hrec]
      rw [hpe]
      exact hdone w.heap.size _ (Nat.le_refl _) (hI _ _ _ hi ⟨_, hBn⟩ ⟨_, hBx⟩ (KeepsBut.put hL rfl (by omega))) ⟨v1, (World.putObj_heap_other hne1).trans hBn⟩ ⟨v2, (World.putObj_heap_other hne2).trans hBx⟩ ((World.putObj_heap_other hne3).trans hK)
end Go.Tb
namespace Go.Tb
open Go Go.RowKit Go.Proofs Go.Maps
attribute [local go_sem] Oper.semAt_some
theorem enters_of' {P : Program} {f : Nat} {fn : Func} (h : P.funcs[f]? = some fn) (hb : fn.body.isSome = true) (hn : (fn.name == "runtime.NumGoroutine") = false) : ∀ args w, (callFunc f args).run P w = .ok (.enter f args) w := by
  obtain ⟨c, hc⟩ := Option.isSome_iff_exists.1 hb
  have hn' : ¬ fn.name = "runtime.NumGoroutine" := by intro e; rw [e] at hn; simp at hn
  intro args w
  simp [callFunc, h, hn', hc]
theorem says_ok {m : Nat} (hm : m = 2 ∨ m = 4) (w : World) : Calls Tryz.prog 93 #[.int .i64 (m : Int)] w fun e w' => e = .returned (.bool true) ∧ w' = w := by
  rcases hm with rfl | rfl
  all_goals
    go_enter Tryz.func93, Tryz.ntmps93
    go_wp2
    go_ret
    exact ⟨rfl, rfl⟩
theorem digits_ok (x m : Int) (w : World) : Calls Tryz.prog 94 #[.int .u64 x, .int .i64 m] w fun e w' => e = .returned (.func (.func 119) #[] #[.pointer (some ⟨w.heap.size + 1, 0, none⟩), .pointer (some ⟨w.heap.size, 0, none⟩)]) ∧ w' = (w.alloc (.cells #[.int .u64 x] 104)).alloc (.cells #[.int .i64 m] 3) := by
  go_enter Tryz.func94, Tryz.ntmps94
  go_wp2
  go_ret
  exact ⟨by simp, rfl⟩
structure PutJ (w : World) (Bs n j : Nat) (W : World) : Prop where
  box : ∃ v, Boxed W Bs 22 v ∧ ByR W w.heap.size v (n + j)
  below : Below w.heap.size w W
  Bl : w.heap.size ≤ Bs
theorem ByR.keepB {w w' : World} {base n B bn bx : Nat} {v v1 v2 : Value} (h : ByR w base v n) (h1 : Boxed w bn 3 v1) (h2 : Boxed w bx 104 v2) (hk : KeepsBut B bn bx w w') : ByR w' base v n := by
  obtain ⟨bs, hb, hl, ho⟩ := h
  refine ⟨bs, hb, hl, ho.imp id fun ⟨g, cap, cur, e, hg, hh, r⟩ => ⟨g, cap, cur, e, hg, hk.same g _ hh (.inr rfl) (fun e => ?_) (fun e => ?_), r⟩⟩
  · subst e; rw [show w.heap[g]? = _ from h1] at hh; simp at hh
  · subst e; rw [show w.heap[g]? = _ from h2] at hh; simp at hh
theorem PutJ.keep {w W W' : World} {Bs n j B bn bx : Nat} {v1 v2 : Value} (h : PutJ w Bs n j W) (h1 : Boxed W bn 3 v1) (h2 : Boxed W bx 104 v2) (hw : w.heap.size ≤ B) (hn : w.heap.size ≤ bn) (hx : w.heap.size ≤ bx) (hk : KeepsBut B bn bx W W') : PutJ w Bs n j W' := by
  obtain ⟨⟨v, hv, hr⟩, hb, hB⟩ := h
  refine ⟨⟨v, hk.same Bs _ hv (.inr rfl) (fun e => ?_) (fun e => ?_), hr.keepB h1 h2 hk⟩, ⟨hk.os.trans hb.os, hk.tape.trans hb.tape, hk.output.trans hb.output, Nat.le_trans hb.size hk.size, fun k hk' => ?_⟩, hB⟩
  · subst e; have e := Option.some.inj ((show W.heap[Bs]? = _ from h1).symm.trans hv); simp at e
  · subst e; have e := Option.some.inj ((show W.heap[Bs]? = _ from h2).symm.trans hv); simp at e
  · have hlt : k < W.heap.size := Nat.lt_of_lt_of_le hk' hb.size
    rw [← hb.block k hk']
    exact (hk.same k _ (Array.getElem?_eq_getElem hlt) (.inl (by omega)) (by omega) (by omega)).trans (Array.getElem?_eq_getElem hlt).symm
theorem putC : PutC := by
  intro w base n m v x hv hn hm hx
  have C := Lib.hid (clone_ok hv (by omega))
  have HM := Lib.hid hm
  have HX := Lib.hid hx
  have HN := Lib.hid hn
  clear hv hm hx hn
  refine (callsIn_wide (n := 5)).1 ?_
  refine callsIn_of_wp_marks Tryz.func54 rfl trivial ?_ rfl
  simp only [Tryz.ntmps54, List.size_toArray, List.length_cons, List.length_nil, Nat.reduceAdd, Nat.reduceSub, Array.replicate_succ, Array.replicate_zero, List.push_toArray, List.append_toArray, List.nil_append, List.cons_append]
  gi_wp2_with fail
  refine ⟨trivial, (callsIn_wide.2 C.out).mono ?_⟩
  rintro e w1 ⟨⟨v1, rfl, hR1⟩, hb1⟩
  have HR1 := Lib.hid hR1
  have HB1 := Lib.hid hb1
  obtain ⟨a1, c1, cs1, rfl, _⟩ := hR1.shape
  clear hR1 hb1
  gi_wp2_with fail
  refine ⟨trivial, (callsIn_wide.2 (says_ok HM.out _)).mono ?_⟩
  rintro e w2 ⟨rfl, rfl⟩
  gi_wp2_with fail
  refine ⟨trivial, (callsIn_wide.2 (digits_ok _ _ _)).mono ?_⟩
  rintro e w3 ⟨rfl, rfl⟩
  gi_wp2_with fail
  obtain ⟨i, hi, i1, i2, i3⟩ := i5'
  have hs1 := HB1.out.size
  obtain ⟨W0, hW0⟩ : ∃ W0, ((w1.alloc (.cells #[.slice a1 n c1] 22)).alloc (.cells #[.int .u64 (x : Int)] 104)).alloc (.cells #[.int .i64 (m : Int)] 3) = W0 := ⟨_, rfl⟩
  have hsz : W0.heap.size = w1.heap.size + 3 := by rw [← hW0]; simp
  have hbn : Boxed W0 (w1.heap.size + 1 + 1) 3 (.int .i64 (m : Int)) := by
    rw [← hW0]; have := Boxed.new ((w1.alloc (.cells #[.slice a1 n c1] 22)).alloc (.cells #[.int .u64 (x : Int)] 104)) 3 (.int .i64 (m : Int)); simpa using this
  have hbx : Boxed W0 (w1.heap.size + 1) 104 (.int .u64 (x : Int)) := by
    rw [← hW0]; have := (Boxed.new (w1.alloc (.cells #[.slice a1 n c1] 22)) 104 (.int .u64 (x : Int))).alloc (.cells #[.int .i64 (m : Int)] 3); simpa using this
  have hbs : Boxed W0 w1.heap.size 22 (.slice a1 n c1) := by
    rw [← hW0]; exact ((Boxed.new w1 22 (.slice a1 n c1)).alloc _).alloc _
  have hbel : Below w1.heap.size w1 W0 := by
    rw [← hW0]; exact (((Below.refl _ w1).alloc (Nat.le_refl _) _).alloc (by simp) _).alloc (by simp; omega) _
  have h0 : PutJ w w1.heap.size n 0 W0 := ⟨⟨_, hbs, HR1.out.keep hbel (Nat.le_refl _)⟩, Below.up HB1.out hbel, hs1⟩
  rw [hW0]
  clear hW0 hbel hbs
  have HI := Lib.hid hi
  have HBN := Lib.hid hbn
  have HBX := Lib.hid hbx
  have HSZ := Lib.hid hsz
  have HS1 := Lib.hid hs1
  have H0 := Lib.hid h0
  clear hi hbn hbx hsz hs1 h0 C HR1
  refine range_digits (bn := w1.heap.size + 1 + 1) (bx := w1.heap.size + 1) (m := m) (x := x) rfl (by decide) trivial (enters_of' Tryz.func119 (by kernel_rfl) (by kernel_rfl)) (by have := HM.out; omega) (by omega) HX.out rfl HBN.out HBX.out
    (PutJ w w1.heap.size n) (fun c => { tmps := #[v, .int .u64 (x : Int), .int .i64 (m : Int), undef, undef, undef, .slice none 0 0, .pointer (some ⟨w1.heap.size, 0, none⟩), .int .u8 (c : Int), v, .slice a1 n c1, .int .i64 (m : Int), .bool true, .int .u64 (x : Int), .int .i64 (m : Int), .func (.func 119) #[] #[.pointer (some ⟨w1.heap.size + 1 + 1, 0, none⟩), .pointer (some ⟨w1.heap.size + 1, 0, none⟩)], .int .u8 (c : Int), undef, undef, undef, undef, undef], defers := [] })
    ?_ H0.out ?_ ?_ ?_
  · rintro j W W' hJ ⟨v1, h1⟩ ⟨v2, h2⟩ hk
    have := HS1.out
    exact hJ.keep h1 h2 (by have := HSZ.out; omega) (by omega) (by omega) hk
  · intro l c W K hK
    gi_wp2_with (rw [Oper.semAt_eq _ _ _ (fun c h => by cases h)]; go_simp; try go_bits)
    exact hK
  · rintro l j c W hJ hj hc hsz ⟨v1, h1⟩ ⟨v2, h2⟩
    obtain ⟨⟨v3, hv, bs, hbb, ho⟩, hb, hB⟩ := hJ
    have hnm : n + j + 1 ≤ 1048100 := by have := HN.out; have := HM.out; omega
    have hWs : w.heap.size ≤ W.heap.size := hb.size
    have k1 := fun (u : Value) (h : Boxed W (w1.heap.size + 1 + 1) 3 u) => h.cell
    have hvc := hv.cell
    have hvf := hv.frozen
    have hvl := hv.lt
    have HV := Lib.hid hv
    have HO := Lib.hid ho
    have HB := Lib.hid hb
    have HWS := Lib.hid hWs
    have HNM := Lib.hid hnm
    have HBB := Lib.hid hbb
    have HHB := Lib.hid hB
    have HC := Lib.hid hc
    clear hv ho hb hWs hnm hbb hB hc k1
    gi_wp2_with (first
      | (gi_at_builtin; refine wpListIn_append_own _ rfl _ _ 22 rfl w.heap.size 5 i (.int .u8 0) 1 1 Tryz.underlying22 HI.out i3 i1 i2 rfl (by decide) _ _ _ rfl (HO.out.alloc _) ⟨W.heap.size, 0, none⟩ 1 1 [.int .u8 (c : Int)] rfl rfl (cell_one_new _ _ _) (by simp [Value.oneCell']) (Nat.le_trans HNM.out (by decide)) (by have := HNM.out; omega) (by have := HWS.out; simp; omega) ?_; intro v' w3 hown' hg3 hnil3
         have hA := Boxed.appended HV.out (by decide) HO.out HWS.out HHB.out hown' hg3
         obtain ⟨q1, q2, q3, q4, q5⟩ := hA
         have hbk : ∀ (B : Nat) (t : TypeId) (u : Value), t ≠ 5 → B ≠ w1.heap.size → Boxed W B t u → Boxed (w3.setCell ⟨w1.heap.size, 0, none⟩ v') B t u := fun B t u ht hBn h => (heap_setCell_other w3 (⟨w1.heap.size, 0, none⟩ : Addr) B v' hBn).trans ((h.alloc _).kept hg3 (h.not_row ht HO.out))
         have HBK := Lib.hid hbk
         have Q2 := Lib.hid q2
         have Q3 := Lib.hid q3
         have Q4 := Lib.hid q4
         have Q5 := Lib.hid q5
         obtain ⟨a', c', rfl⟩ := own_slice hown'
         clear hbk q2 q3 q4 q5 hown' hnil3 hg3
         have hc3 := q1.cell
         have hf3 := q1.frozen
         have hl3 := q1.lt)
      | (rw [Oper.semAt_eq _ _ _ (fun c h => by cases h)]; go_simp; try go_bits))
    refine ⟨⟨⟨_, Q2.out, bs ++ [c], ?_, ?_⟩, Below.trans HB.out Q5.out, HHB.out⟩, Q4.out, fun u h => HBK.out _ _ _ (by decide) (by omega) h, fun u h => HBK.out _ _ _ (by decide) (by omega) h⟩
    · intro y hy
      rcases List.mem_append.1 hy with h | h
      · exact HBB.out y h
      · rw [List.mem_singleton.1 h]; exact HC.out
    · have := Q3.out
      simpa [Nat.add_assoc] using this
  · intro D W hD hJ hb1 hb2 hK
    obtain ⟨⟨v3, hv, hr⟩, hb, hB⟩ := hJ
    have hvc := hv.cell
    have hvf := hv.frozen
    have hvl := hv.lt
    obtain ⟨a3, c3, cs3, rfl, _⟩ := hr.shape
    have hb' := hb
    gi_wp2_with fail
    refine ⟨by simp, .inl ⟨_, _, rfl, run_takeDeferred hK, ?_⟩⟩
    have hs1 := HS1.out
    have hsz := HSZ.out
    exact ⟨_, results_tmp rfl _ _ _, ⟨_, rfl, by
      obtain ⟨bs, k1, k2, k3⟩ := hr
      refine ⟨bs, k1, k2, k3.imp id fun ⟨g, cap, cur, e, hg, hh, r⟩ => ⟨g, cap, cur, e, hg, (World.putObj_heap_other (fun e => ?_)).trans hh, r⟩⟩
      subst e; rw [hK] at hh; cases hh⟩, hb'.grown (grownBy_putObj' W D _) hb'.size (fun k e => by cases e; omega)⟩
end Go.Tb
