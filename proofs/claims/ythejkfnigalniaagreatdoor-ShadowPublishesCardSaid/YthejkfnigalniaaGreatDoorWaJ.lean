/- A part of a proof about the shadow space: what a function of the program answers, walked by hand. Each theorem says its own conditions. -/
import Derived.Test.YthejkfnigalniaaGreatDoorWaA
import Derived.Test.YthejkfnigalniaaGreatDoorWaI
import Derived.Test.YthejkfnigalniaaGreatDoorWaE
import Derived.Test.YthejkfnigalniaaGreatDoorPlb
set_option linter.unusedVariables false
set_option linter.unusedSimpArgs false
set_option maxRecDepth 100000
set_option maxHeartbeats 1600000
namespace Go.Tb
open Go Go.RowKit Go.Proofs Go.Maps Go.Sp
theorem twin_o {w : World} {v : Value} {bs : Bs} (h : RV w v bs) (hn : bs.length ≤ 1048576) :
    Calls Tryz.prog 101 #[v] w fun e w' => (∃ v', e = .returned v' ∧ w'.ownsRow w.heap.size 5 1 v' bs.length (u8s bs)) ∧ Below w.heap.size w w' := by
  obtain ⟨i, hi, i1, i2, i3⟩ := i5'
  obtain ⟨a, c, rfl, hx, _⟩ := id h
  cases a with
  | none =>
    have h0 : bs.length = 0 := by
      obtain ⟨a', c', e, hx, h⟩ := h
      injection e with e1 e2 e3
      by_cases hp : 0 < bs.length
      · obtain ⟨g, o, e4, _⟩ := h hp; rw [← e1] at e4; cases e4
      · omega
    have : bs = [] := List.length_eq_zero_iff.1 h0
    subst this
    have hmade : (w.alloc (.cells #[] 5)).ownsRow w.heap.size 5 1 (.slice (some ⟨w.heap.size, 0, none⟩) 0 0) 0 [] := World.ownsRow_made w #[] 0 (Nat.le_refl _) (by decide) rfl
    have HM := Lib.hid hmade
    clear h hmade
    go_enter Tryz.func101, Tryz.ntmps101
    go_wp2
    go_ret
    exact ⟨⟨_, rfl, HM.out⟩, Below.alloc (Below.refl _ _) (Nat.le_refl _) _⟩
  | some ad =>
    obtain ⟨n, hnn⟩ : ∃ n, n = bs.length := ⟨_, rfl⟩
    rw [← hnn] at h hn ⊢
    have hbel : Below w.heap.size w (w.alloc (.cells #[] 5)) := Below.alloc (Below.refl _ _) (Nat.le_refl _) _
    have hnews := h.news hbel ad rfl
    have hmade : (w.alloc (.cells #[] 5)).ownsRow w.heap.size 5 1 (.slice (some ⟨w.heap.size, 0, none⟩) 0 0) 0 [] := World.ownsRow_made w #[] 0 (Nat.le_refl _) (by decide) rfl
    have hsz : w.heap.size ≤ (w.alloc (.cells #[] 5)).heap.size := hbel.size
    have hlen : (u8s bs).length = n * 1 := by rw [u8s_len, hnn, Nat.mul_one]
    generalize hW : w.alloc (.cells #[] 5) = W at hnews hmade hbel hsz
    have HN := Lib.hid hnews
    have HM := Lib.hid hmade
    have HL := Lib.hid hlen
    have HB := Lib.hid hbel
    have HS := Lib.hid hsz
    have HI := Lib.hid hi
    have HX : Hid (n ≤ 1048576) := Lib.hid hn
    have HBS := Lib.hid hx
    have HW := Lib.hid hW
    clear hnews hmade hlen hbel hsz hi hn hx h hnn hW
    go_enter Tryz.func101, Tryz.ntmps101
    go_wp2_with (at_builtin; rw [HW.out]; go_loud (refine wpList_append_own _ rfl _ _ 37 rfl w.heap.size 5 i (.int .u8 0) 1 1 Tryz.underlying37 HI.out i3 i1 i2 rfl (by decide) _ 0 [] rfl HM.out _ n _ _ rfl HL.out HN.out u8s_one (Nat.le_trans (by simpa using HX.out) (by decide)) (by have := HX.out; omega) HS.out ?_; intro v' w' q1 q2 q3))
    go_ret
    refine ⟨⟨_, rfl, ?_⟩, HB.out.grown q2 HS.out ?_⟩
    · simpa using q1
    · intro k hk; cases hk; exact Nat.le_refl _
theorem twin_x {w : World} {v : Value} {bs : Bs} (h : RV w v bs) (hn : bs.length ≤ 1048576) :
    Calls Tryz.prog 101 #[v] w fun e w' => (∃ v', e = .returned v' ∧ RN w.heap.size w' v' bs) ∧ Below w.heap.size w w' :=
  (twin_o h hn).mono fun e w' ⟨⟨v', h1, h2⟩, h3⟩ => ⟨⟨v', h1, RN.of h2 h.byte⟩, h3⟩
end Go.Tb
set_option maxHeartbeats 800000
namespace Go.Tb
open Go Go.RowKit Go.Proofs Go.Maps Go.Sp
def clS : TypeId → Bool := fun T => T == 33 || (T == 0 || T == 79)
def cl0 : TypeId → Bool := fun T => T == 0 || T == 79
theorem cl0S : ∀ T, clS T = false → cl0 T = false := fun T h => by simp [clS] at h; simp [cl0, h.2]
theorem SpV.client {γ : Gh} {W W' : World} {sb db : Nat} {s : Sp} (H : SpV γ W sb db s) (hs : Step γ clS W W') : SpV γ W' sb db s := by
  obtain ⟨cb, rb, ob, kb, H, K⟩ := H
  have H' := H.keep hs (H.ca.keep hs ⟨rfl, rfl, rfl, rfl⟩ ⟨rfl, rfl, rfl⟩) rfl rfl rfl
  exact ⟨cb, rb, ob, kb, H', K.keep H.tg hs rfl rfl rfl⟩
theorem SpV.stay {γ : Gh} {W W' : World} {sb db : Nat} {s : Sp} (H : SpV γ W sb db s) (hs : Step γ (fun _ => false) W W') : SpV γ W' sb db s := H.client (hs.mono fun _ _ => rfl)
def Gh.add (γ : Gh) (n m g : Nat) (h0 : γ.lim ≤ n) (hn : n ≤ m) : Gh where
  B := γ.B
  lim := m
  told := fun k => if n ≤ k ∧ k < m ∧ k = g then some 0 else γ.told k
  hB := Nat.le_trans γ.hB (Nat.le_trans h0 hn)
  ht := fun k T h => by
    split at h
    · omega
    · have := γ.ht k T h; omega
theorem Gh.add_le {γ : Gh} {w : World} {m g : Nat} (h0 : γ.lim ≤ w.heap.size) (hn : w.heap.size ≤ m) : Gh.Le w γ (γ.add w.heap.size m g h0 hn) := ⟨rfl, fun k hk => if_neg (by omega)⟩
def RC (γ : Gh) (w : World) (v : Value) (bs : Bs) : Prop :=
  ∃ a c, v = .slice a bs.length c ∧ ((∀ x ∈ bs, x < 256) ∧ bs.length ≤ c) ∧ (0 < bs.length → ∃ g o, a = some ⟨g, o, none⟩ ∧ g < w.heap.size ∧ (γ.B ≤ g ∧ Tag γ w g 0 ∧ ∀ j, j < bs.length → w.frozen? ⟨g, o + j, none⟩ = false) ∧ ∀ (j x : Nat), bs[j]? = some x → w.cell? ⟨g, o + j, none⟩ = some (.int .u8 (x : Int)))
theorem RC.ra {γ : Gh} {w : World} {v : Value} {bs : Bs} (h : RC γ w v bs) : RA γ w v bs := by
  obtain ⟨a, c, e, hx, h⟩ := h
  exact ⟨a, c, e, hx, fun hp => by obtain ⟨g, o, e1, e2, e4, e3⟩ := h hp; exact ⟨g, o, e1, e2, .inr e4.2.1, e3⟩⟩
theorem rn_frozen {w : World} {g o : Nat} {r : {r : Nat × Nat // r.2 = 0}} {cs : Array Value} (h : w.heap[g]? = some (.cells cs 5 r.1)) : w.frozen? ⟨g, o, none⟩ = false := by
  obtain ⟨⟨lo, hi⟩, hr⟩ := r
  have : hi = 0 := hr
  simp [World.frozen?, h, this]
theorem RN.client {γ : Gh} {w w' : World} {v : Value} {bs : Bs} (h : RN w.heap.size w' v bs) (h0 : γ.lim ≤ w.heap.size) (hb : Below w.heap.size w w') :
    ∃ γ', Gh.Le w γ γ' ∧ γ'.lim ≤ w'.heap.size ∧ RC γ' w' v bs := by
  obtain ⟨a, c, e, hx, h⟩ := h
  by_cases hp : 0 < bs.length
  · obtain ⟨g, o, r, cs, rfl, f1, f2, f3⟩ := h hp
    have hl := (Array.getElem?_eq_some_iff.1 f2).1
    refine ⟨γ.add w.heap.size w'.heap.size g h0 hb.size, Gh.add_le h0 hb.size, Nat.le_refl _, _, c, e, hx, fun _ => ⟨g, o, rfl, hl, ⟨Nat.le_trans γ.hB (Nat.le_trans h0 f1), Tag.told (if_pos ⟨f1, hl, rfl⟩) (by simp [kindOf, f2]), fun j _ => rn_frozen f2⟩, f3⟩⟩
  · exact ⟨γ.add w.heap.size w'.heap.size 0 h0 hb.size, Gh.add_le h0 hb.size, Nat.le_refl _, a, c, e, hx, fun h => absurd h hp⟩
def Spo (lb : Nat) (W wr : World) (a : Option Addr) (n : Nat) : Prop :=
  0 < n → ∃ g o, a = some ⟨g, o, none⟩ ∧ lb ≤ g ∧ g < W.heap.size ∧ OnlyB g W wr ∧ kindOf wr g = kindOf W g ∧ W.heap.size = wr.heap.size ∧ ∀ j, j < n → (∃ u, wr.cell? ⟨g, o + j, none⟩ = some u) ∧ wr.frozen? ⟨g, o + j, none⟩ = false
theorem Spo.set {lb : Nat} {W wr : World} {g o n : Nat} (h : lb ≤ g ∧ g < W.heap.size ∧ OnlyB g W wr ∧ kindOf wr g = kindOf W g ∧ W.heap.size = wr.heap.size ∧ ∀ j, j < n → (∃ u, wr.cell? ⟨g, o + j, none⟩ = some u) ∧ wr.frozen? ⟨g, o + j, none⟩ = false) {k : Nat} (hk : k < n) (v : Value) : Spo lb W (wr.setCell ⟨g, o + k, none⟩ v) (some ⟨g, o, none⟩) n := fun _ => by
  obtain ⟨h1, h2, h3, h4, h5, h6⟩ := h
  obtain ⟨⟨u, hu⟩, hz⟩ := h6 k hk
  refine ⟨g, o, rfl, h1, h2, h3.trans (OnlyB.set _ _ _ _), (kindOf_set hu).trans h4, by rw [h5]; simp [World.setCell], fun j hj => ⟨?_, ?_⟩⟩
  · by_cases e : j = k
    · subst e; exact ⟨v, World.cell?_setCell_same _ _ _ hu⟩
    · rw [World.cell?_setCell_other _ _ _ _ (fun hh => e (by injection hh with _ hh; omega))]; exact (h6 j hj).1
  · rw [World.frozen?_setCell]; exact (h6 j hj).2
theorem Spo.below {lb : Nat} {W wr W1 : World} {a : Option Addr} {n : Nat} (h : Spo lb W wr a n) (hn : 0 < n) (hb : Below lb W1 W) : Below lb W1 wr := by
  obtain ⟨g, o, _, h1, h2, h3, _⟩ := h hn
  exact ⟨h3.os.trans hb.os, h3.tape.trans hb.tape, h3.output.trans hb.output, Nat.le_trans hb.size h3.size, fun k hk => by
    by_cases hkW : k < W.heap.size
    · exact (h3.block k hkW (by omega)).trans (hb.block k hk)
    · omega⟩
theorem RC.spo {γ : Gh} {w : World} {a : Option Addr} {n c : Nat} {bs : Bs} (h : RC γ w (.slice a n c) bs) : n = bs.length ∧ Spo γ.B w w a n := by
  obtain ⟨a', c', e, ⟨hx, hc⟩, h⟩ := h
  injection e with e1 e2 e3
  subst e1 e2
  refine ⟨rfl, fun hp => ?_⟩
  obtain ⟨g, o, e1, e2, ⟨e4, e5, e6⟩, e7⟩ := h hp
  exact ⟨g, o, e1, e4, e2, OnlyB.refl _ _, rfl, rfl, fun j hj => ⟨⟨_, e7 j _ (List.getElem?_eq_getElem hj)⟩, e6 j hj⟩⟩
theorem Spo.step {γ : Gh} {w wr : World} {a : Option Addr} {n c : Nat} {bs : Bs} (h : Spo γ.B w wr a n) (hn : 0 < n) (hr : RC γ w (.slice a n c) bs) : Step γ (fun T => T == 0) w wr := by
  obtain ⟨a', c', e, ⟨hx, hc⟩, hr⟩ := hr
  injection e with e1 e2 e3
  subst e1
  obtain ⟨g, o, e1, e2, ⟨e4, e5, e6⟩, e7⟩ := hr (by omega)
  obtain ⟨g', o', f1, f2, f3, f4, f5, f6, f7⟩ := h hn
  rw [e1] at f1
  injection f1 with f1
  injection f1 with f1 _
  subst f1
  exact ⟨⟨f4.os, f4.tape, f4.output, f4.size, fun k hk => f4.block k (by omega) (by omega)⟩, fun k hk hS => f4.block k hk (fun ek => by subst ek; have := hS 0 e5; cases this), fun k T _ hk ht => by
    by_cases ek : k = g
    · subst ek; exact (Gh.kind_of f5).trans ht
    · exact ht.same (f4.block k hk ek)⟩
end Go.Tb
namespace Go.Tb
open Go Go.RowKit Go.Proofs Go.Maps Go.Sp
def spC : TypeId → Bool := fun T => spS T || cl0 T
theorem spSC : ∀ T, spC T = false → spS T = false := fun T h => by simp [spC] at h; exact h.1
theorem clSC : ∀ T, spC T = false → cl0 T = false := fun T h => by simp [spC] at h; exact h.2
def opV (k p : Int) (b l : Value) (t : Int) : Value := .agg #[.int .i64 k, .int .i64 p, b, l, .int .i64 t]
def DoesP (γ : Gh) (W : World) (sb db : Nat) (q : (Bs × Bool × Nat) × Sp) (e : Ending) (W' : World) : Prop :=
  ∃ a c, e = .returned (.agg #[.slice a q.1.1.length c, .bool q.1.2.1, .int .i64 (q.1.2.2 : Nat)]) ∧ Hid (∃ γ', Gh.Le W γ γ' ∧ γ'.lim ≤ W'.heap.size ∧ SpV γ' W' sb db q.2 ∧ Step γ' spC W W' ∧ RV W' (.slice a q.1.1.length c) q.1.1)
def Sp.does (s : Sp) (k p : Int) (b : Bs) : (Bs × Bool × Nat) × Sp :=
  if k = 0 then (((s.read p).2.1, false, (s.read p).1), (s.read p).2.2)
  else if k = 1 then (([], false, (s.write p b).1), (s.write p b).2)
  else if k = 2 then (([], false, (s.drop p).1), (s.drop p).2)
  else if k = 3 then (([], false, (s.commit b).1), (s.commit b).2)
  else if k = 4 then (([], false, s.abort.1), s.abort.2)
  else if k = 5 then (([], (s.c.evict p).1, (s.c.evict p).2.1), s.withC (s.c.evict p).2.2)
  else (([], false, 0), s)
def z79 : Array Value := #[.slice none 0 0, .bool false, .int .i64 0]
structure P46 (W W2 : World) (O A B : Nat) (k p : Int) (b : Value) : Prop where
  be : Below W.heap.size W W2
  hn : O = W.heap.size ∧ A = O + 1 ∧ B = A + 1 ∧ W2.heap.size = B + 1
  hO : ∃ l t, W2.heap[O]? = some (.cells #[.int .i64 k, .int .i64 p, b, l, .int .i64 t] 73 (0, 0))
  hA : W2.heap[A]? = some (.cells z79 79 (0, 0))
  hB : W2.heap[B]? = some (.cells z79 79 (0, 0))
theorem P46.made (W : World) (k p t : Int) (b l : Value) : P46 W (((W.alloc (.cells #[.int .i64 k, .int .i64 p, b, l, .int .i64 t] 73)).alloc (.cells #[.slice none 0 0, .bool false, .int .i64 0] 79)).alloc (.cells #[.slice none 0 0, .bool false, .int .i64 0] 79)) W.heap.size (W.heap.size + 1) (W.heap.size + 1 + 1) k p b := by
  have hb1 : Below W.heap.size W (W.alloc (.cells #[.int .i64 k, .int .i64 p, b, l, .int .i64 t] 73)) := Below.alloc (Below.refl _ _) (Nat.le_refl _) _
  have hb2 := Below.alloc hb1 hb1.size (.cells #[.slice none 0 0, .bool false, .int .i64 0] 79)
  have hb3 := Below.alloc hb2 hb2.size (.cells #[.slice none 0 0, .bool false, .int .i64 0] 79)
  have hs1 : (W.alloc (.cells #[.int .i64 k, .int .i64 p, b, l, .int .i64 t] 73)).heap.size = W.heap.size + 1 := by simp
  have hs2 : ((W.alloc (.cells #[.int .i64 k, .int .i64 p, b, l, .int .i64 t] 73)).alloc (.cells #[.slice none 0 0, .bool false, .int .i64 0] 79)).heap.size = W.heap.size + 1 + 1 := by simp
  refine ⟨hb3, ⟨rfl, rfl, rfl, by simp⟩, ⟨l, t, ?_⟩, ?_, ?_⟩
  · rw [Below.heap_alloc _ _ _ (by simp; omega), Below.heap_alloc _ _ _ (by simp)]; exact (Go.MapKept.heap_alloc W _).1
  · rw [Below.heap_alloc _ _ _ (by simp), ← hs1]; exact (Go.MapKept.heap_alloc _ _).1
  · rw [← hs2]; exact (Go.MapKept.heap_alloc _ _).1
theorem op_cells {W : World} {O : Nat} {k p t : Int} {b l : Value} (h : W.heap[O]? = some (.cells #[.int .i64 k, .int .i64 p, b, l, .int .i64 t] 73 (0, 0))) : W.cell? ⟨O, 0, none⟩ = some (.int .i64 k) ∧ W.cell? ⟨O, 1, none⟩ = some (.int .i64 p) ∧ W.cell? ⟨O, 2, none⟩ = some b ∧ O < W.heap.size := ⟨by simp [World.cell?, h], by simp [World.cell?, h], by simp [World.cell?, h], (Array.getElem?_eq_some_iff.1 h).1⟩
theorem z79_cells {W : World} {A : Nat} (h : W.heap[A]? = some (.cells z79 79 (0, 0))) : W.cell? ⟨A, 0, none⟩ = some (.slice none 0 0) ∧ W.cell? ⟨A, 1, none⟩ = some (.bool false) ∧ W.cell? ⟨A, 2, none⟩ = some (.int .i64 0) ∧ W.frozen? ⟨A, 0, none⟩ = false ∧ W.frozen? ⟨A, 1, none⟩ = false ∧ W.frozen? ⟨A, 2, none⟩ = false ∧ A < W.heap.size := ⟨by simp [World.cell?, h, z79], by simp [World.cell?, h, z79], by simp [World.cell?, h, z79], by simp [World.frozen?, h], by simp [World.frozen?, h], by simp [World.frozen?, h], (Array.getElem?_eq_some_iff.1 h).1⟩
theorem u79 : ∃ d, Tryz.prog.underlying 79 = some d ∧ d.isRow = true := ⟨_, Tryz.underlying79, rfl⟩
theorem s79 : (Tryz.prog.info? 79).map (·.size) = some 3 := by kernel_rfl
theorem does_ret {tmps : Array Value} {W : World} {A : Nat} {v b e : Value} (h2 : tmps.getD 4 undef = .pointer (some ⟨A, 0, none⟩)) (hr : W.heap[A]? = some (.cells #[v, b, e] 79 (0, 0))) :
    (results Tryz.f46 tmps).run Tryz.prog W = .ok (.agg #[v, b, e]) W := by
  obtain ⟨d, hu, hd⟩ := u79
  have hl := run_loadVar_mid (P := Tryz.prog) W A 0 79 [v, b, e] d (fun j u hu => by simp [World.cell?, hr, ← hu]) hu hd s79
  have hres : Tryz.f46.results = #[.cell 4 79] := rfl
  have h2' : tmps[4]?.getD undef = .pointer (some ⟨A, 0, none⟩) := by simpa using h2
  simp only [results, hres]
  simp [Sem.run_bind, Result.andThen, h2', asAddr, hl]
theorem does_else {γ : Gh} {W : World} {sb db : Nat} {s : Sp} (H : SpV γ W sb db s) (h0 : γ.lim ≤ W.heap.size) {k p t : Int} (h : k ≠ 0 ∧ k ≠ 1 ∧ k ≠ 2 ∧ k ≠ 3 ∧ k ≠ 4 ∧ k ≠ 5) {ba la : Option Addr} {bn bc ln lc : Nat} :
    Calls Tryz.prog 46 #[.pointer (some ⟨sb, 0, none⟩), opV k p (.slice ba bn bc) (.slice la ln lc) t] W (DoesP γ W sb db (([], false, 0), s)) := by
  unfold opV
  obtain ⟨a0, a1, a2, a3, a4, a5⟩ := h
  have b0 : (k == 0) = false := by rw [beq_eq_false_iff_ne]; exact a0
  have b1 : (k == 1) = false := by rw [beq_eq_false_iff_ne]; exact a1
  have b2 : (k == 2) = false := by rw [beq_eq_false_iff_ne]; exact a2
  have b3 : (k == 3) = false := by rw [beq_eq_false_iff_ne]; exact a3
  have b4 : (k == 4) = false := by rw [beq_eq_false_iff_ne]; exact a4
  have b5 : (k == 5) = false := by rw [beq_eq_false_iff_ne]; exact a5
  have HP := Lib.hid (P46.made W k p t (.slice ba bn bc) (.slice la ln lc))
  have HH := Lib.hid (And.intro H h0)
  clear H h0
  go_enter Tryz.func46, Tryz.ntmps46
  go_wp2_with fail
  refine bodyPost_ret (does_ret (A := W.heap.size + 1) (v := .slice none 0 0) (b := .bool false) (e := .int .i64 0) rfl HP.out.hA) rfl ?_
  have hst : Step γ spC W _ := Step.below HP.out.be HH.out.2
  exact ⟨none, 0, rfl, Lib.hid ⟨γ, Gh.Le.refl _ _, Nat.le_trans HH.out.2 hst.size, HH.out.1.below HP.out.be HH.out.2, hst, RV.nil _ _ _⟩⟩
end Go.Tb
namespace Go.Tb
open Go Go.RowKit Go.Proofs Go.Maps Go.Sp
structure Q46s (γ : Gh) (W W3 : World) (sb db A B : Nat) (s' : Sp) : Prop where
  sp : SpV γ W3 sb db s'
  st : Step γ spC W W3
  hA : W3.heap[A]? = some (.cells z79 79 (0, 0))
  hB : Tag γ W3 B 79 ∧ ∃ c, W3.heap[B]? = some (.cells c 79 (0, 0)) ∧ c.size = 3
  lt : γ.B ≤ A ∧ A < B ∧ Tag γ W3 A 79
theorem Q46s.set {γ : Gh} {W W3 : World} {sb db A B : Nat} {s' : Sp} (h : Q46s γ W W3 sb db A B s') {o : Nat} (ho : o < 3) (v : Value) : Q46s γ W (W3.setCell ⟨B, o, none⟩ v) sb db A B s' := by
  obtain ⟨tB, c, hc, hz⟩ := h.hB
  have hcell : W3.cell? ⟨B, o, none⟩ = some (c.getD o undef) := by
    simp only [World.cell?, hc]
    rw [Array.getElem?_eq_getElem (by omega)]
    simp [Array.getD, hz, ho]
  have hs : Step γ cl0 W3 (W3.setCell ⟨B, o, none⟩ v) := Step.set tB rfl (by have := h.lt; omega) hcell
  refine ⟨h.sp.client (hs.mono cl0S), h.st.trans (hs.mono clSC), (heap_setCell_other _ _ _ _ (by show A ≠ B; have := h.lt; omega)).trans h.hA, ⟨tB.set hcell, c.setIfInBounds o v, ?_, by simp [hz]⟩, h.lt.1, h.lt.2.1, h.lt.2.2.set hcell⟩
  unfold World.setCell
  simp only [Array.getElem?_modify]
  rw [hc]
  simp
theorem P46.act {γ : Gh} {W W2 W3 : World} {O A B : Nat} {k p : Int} {b : Value} {sb db : Nat} {s' : Sp} (h : P46 W W2 O A B k p b) (h0 : γ.lim ≤ W.heap.size) (hs : SpV γ W3 sb db s') (hst : Step γ spS W2 W3) : Q46s γ W W3 sb db A B s' ∧ W3.heap[B]? = some (.cells z79 79 (0, 0)) := by
  obtain ⟨n1, n2, n3, n4⟩ := h.hn
  have tA : Tag γ W2 A 79 := Tag.new (by omega) h.hA
  have tB : Tag γ W2 B 79 := Tag.new (by omega) h.hB
  have hB := (hst.heap tB rfl (by omega)).trans h.hB
  have hBB := γ.hB
  exact ⟨⟨hs, (Step.below h.be h0).trans (hst.mono spSC), (hst.heap tA rfl (by omega)).trans h.hA, ⟨hst.tg _ _ (by decide) (by omega) tB, _, hB, rfl⟩, by omega, by omega, hst.tg _ _ (by decide) (by omega) tA⟩, hB⟩
theorem Q46s.fin {γ : Gh} {W W8 : World} {sb db A B : Nat} {s' : Sp} (h : Q46s γ W W8 sb db A B s') {γ0 : Gh} (hl : Gh.Le W γ0 γ) (hlim : γ.lim ≤ W8.heap.size) {n : Nat} {a : Option Addr} {is : Bool} {m c : Nat} {bs : Bs} (hm : m = bs.length) (hr : Step γ cl0 W8 (((W8.setCell ⟨A, 0, none⟩ (.slice a m c)).setCell ⟨A, 1, none⟩ (.bool is)).setCell ⟨A, 2, none⟩ (.int .i64 (n : Int))) → RV (((W8.setCell ⟨A, 0, none⟩ (.slice a m c)).setCell ⟨A, 1, none⟩ (.bool is)).setCell ⟨A, 2, none⟩ (.int .i64 (n : Int))) (.slice a m c) bs) :
    ∀ W9, ((W8.setCell ⟨A, 0, none⟩ (.slice a m c)).setCell ⟨A, 1, none⟩ (.bool is)).setCell ⟨A, 2, none⟩ (.int .i64 (n : Int)) = W9 → W9.heap[A]? = some (.cells #[.slice a m c, .bool is, .int .i64 (n : Int)] 79 (0, 0)) ∧ DoesP γ0 W sb db ((bs, is, n), s') (.returned (.agg #[.slice a m c, .bool is, .int .i64 (n : Int)])) W9 := by
  intro W9 h9
  have hset : ∀ (W : World) (K : Nat) (c : Array Value) (o : Nat) (u : Value), W.heap[K]? = some (.cells c 79 (0, 0)) → (W.setCell ⟨K, o, none⟩ u).heap[K]? = some (.cells (c.setIfInBounds o u) 79 (0, 0)) := fun W K c o u h => by
    unfold World.setCell
    simp only [Array.getElem?_modify]
    rw [h]
    simp
  have h1 := hset _ A _ 0 (.slice a m c) h.hA
  have h2 := hset _ A _ 1 (.bool is) h1
  have h3 := hset _ A _ 2 (.int .i64 (n : Int)) h2
  obtain ⟨x0, x1, x2, _⟩ := z79_cells h.hA
  have s1 : Step γ cl0 W8 (W8.setCell ⟨A, 0, none⟩ (.slice a m c)) := Step.set h.lt.2.2 rfl h.lt.1 x0
  have y1 : (W8.setCell ⟨A, 0, none⟩ (.slice a m c)).cell? ⟨A, 1, none⟩ = some (.bool false) := (World.cell?_setCell_other _ _ _ _ (fun e => by injection e with _ e; cases e)).trans x1
  have s2 : Step γ cl0 W8 ((W8.setCell ⟨A, 0, none⟩ (.slice a m c)).setCell ⟨A, 1, none⟩ (.bool is)) := s1.trans (Step.set (h.lt.2.2.set x0) rfl h.lt.1 y1)
  have y2 : ((W8.setCell ⟨A, 0, none⟩ (.slice a m c)).setCell ⟨A, 1, none⟩ (.bool is)).cell? ⟨A, 2, none⟩ = some (.int .i64 0) := (World.cell?_setCell_other _ _ _ _ (fun e => by injection e with _ e; cases e)).trans ((World.cell?_setCell_other _ _ _ _ (fun e => by injection e with _ e; cases e)).trans x2)
  have s3 := s2.trans (Step.set (v := .int .i64 (n : Int)) ((h.lt.2.2.set x0).set y1) rfl h.lt.1 y2)
  have hrv := hr s3
  rw [h9] at h3 s3 hrv
  have hst : Step γ spC W W9 := h.st.trans (s3.mono clSC)
  subst hm
  exact ⟨h3, a, c, rfl, Lib.hid ⟨γ, hl, Nat.le_trans hlim s3.size, h.sp.client (s3.mono cl0S), hst, hrv⟩⟩
theorem does_drop {γ : Gh} {W : World} {sb db : Nat} {s : Sp} (H : SpV γ W sb db s) (hok : s.Ok) (h0 : γ.lim ≤ W.heap.size) {p t : Int} {ba la : Option Addr} {bn bc ln lc : Nat} :
    Calls Tryz.prog 46 #[.pointer (some ⟨sb, 0, none⟩), opV 2 p (.slice ba bn bc) (.slice la ln lc) t] W (DoesP γ W sb db (([], false, (s.drop p).1), (s.drop p).2)) := by
  unfold opV
  obtain ⟨W2, hW2⟩ : ∃ W2, (((W.alloc (.cells #[.int .i64 2, .int .i64 p, .slice ba bn bc, .slice la ln lc, .int .i64 t] 73)).alloc (.cells #[.slice none 0 0, .bool false, .int .i64 0] 79)).alloc (.cells #[.slice none 0 0, .bool false, .int .i64 0] 79)) = W2 := ⟨_, rfl⟩
  have HP := P46.made W 2 p t (.slice ba bn bc) (.slice la ln lc)
  rw [hW2] at HP
  have HW := Lib.hid hW2
  have AC := (drop_s (H.below HP.be h0) (Nat.le_trans h0 HP.be.size) p).mono (R' := fun e W3 => e = .returned (.int .i64 ((s.drop p).1 : Nat)) ∧ Hid (Q46s γ W W3 sb db (W.heap.size + 1) (W.heap.size + 1 + 1) (s.drop p).2 ∧ W3.heap[W.heap.size + 1 + 1]? = some (.cells z79 79 (0, 0)))) fun e W3 ⟨h1, h2⟩ => ⟨h1, Lib.hid (HP.act h0 h2.out.1 h2.out.2)⟩
  obtain ⟨l', t', hO⟩ := HP.hO
  obtain ⟨o0, o1, o2, lO⟩ := op_cells hO
  obtain ⟨x0, x1, x2, zx0, zx1, zx2, lA⟩ := z79_cells HP.hA
  obtain ⟨y0, y1, y2, zy0, zy1, zy2, lB⟩ := z79_cells HP.hB
  generalize (s.drop p).2 = s' at *
  generalize (s.drop p).1 = m at *
  have H0 := Lib.hid h0
  clear H h0 HP hO hW2
  go_enter Tryz.func46, Tryz.ntmps46
  go_upto_region 2 with fail
  rw [HW.out]
  go_upto_region 30 with (go_at_call 14; refine AC.mono ?_; rintro e w5 ⟨rfl, hq5⟩; obtain ⟨u0, u1, u2, zu0, zu1, zu2, mA⟩ := z79_cells hq5.out.1.hA; obtain ⟨v0, v1, v2, zv0, zv1, zv2, mB⟩ := z79_cells hq5.out.2)
  have hQ := Lib.hid (hq5.out.1.set (o := 2) (by decide) (.int .i64 (m : Int)))
  go_wp2_with fail
  refine take_last ?_
  intro W9 hW9
  obtain ⟨g1, g2⟩ := hQ.out.fin (Gh.Le.refl _ _) (Nat.le_trans H0.out hQ.out.st.size) (n := m) (a := none) (is := false) (m := 0) (c := 0) (bs := []) rfl (fun _ => RV.nil _ _ _) W9 hW9
  refine bodyPost_ret (does_ret (A := W.heap.size + 1) rfl g1) rfl ?_
  exact g2
theorem does_abort {γ : Gh} {W : World} {sb db : Nat} {s : Sp} (H : SpV γ W sb db s) (hok : s.Ok) (h0 : γ.lim ≤ W.heap.size) {p t : Int} {ba la : Option Addr} {bn bc ln lc : Nat} :
    Calls Tryz.prog 46 #[.pointer (some ⟨sb, 0, none⟩), opV 4 p (.slice ba bn bc) (.slice la ln lc) t] W (DoesP γ W sb db (([], false, (s.abort).1), (s.abort).2)) := by
  unfold opV
  obtain ⟨W2, hW2⟩ : ∃ W2, (((W.alloc (.cells #[.int .i64 4, .int .i64 p, .slice ba bn bc, .slice la ln lc, .int .i64 t] 73)).alloc (.cells #[.slice none 0 0, .bool false, .int .i64 0] 79)).alloc (.cells #[.slice none 0 0, .bool false, .int .i64 0] 79)) = W2 := ⟨_, rfl⟩
  have HP := P46.made W 4 p t (.slice ba bn bc) (.slice la ln lc)
  rw [hW2] at HP
  have HW := Lib.hid hW2
  have AC := (abort_s (H.below HP.be h0) hok (Nat.le_trans h0 HP.be.size)).mono (R' := fun e W3 => e = .returned (.int .i64 ((s.abort).1 : Nat)) ∧ Hid (Q46s γ W W3 sb db (W.heap.size + 1) (W.heap.size + 1 + 1) (s.abort).2 ∧ W3.heap[W.heap.size + 1 + 1]? = some (.cells z79 79 (0, 0)))) fun e W3 ⟨h1, h2⟩ => ⟨h1, Lib.hid (HP.act h0 h2.out.1 h2.out.2)⟩
  obtain ⟨l', t', hO⟩ := HP.hO
  obtain ⟨o0, o1, o2, lO⟩ := op_cells hO
  obtain ⟨x0, x1, x2, zx0, zx1, zx2, lA⟩ := z79_cells HP.hA
  obtain ⟨y0, y1, y2, zy0, zy1, zy2, lB⟩ := z79_cells HP.hB
  generalize (s.abort).2 = s' at *
  generalize (s.abort).1 = m at *
  have H0 := Lib.hid h0
  clear H h0 HP hO hW2
  go_enter Tryz.func46, Tryz.ntmps46
  go_upto_region 2 with fail
  rw [HW.out]
  go_upto_region 30 with (go_at_call 66; refine AC.mono ?_; rintro e w5 ⟨rfl, hq5⟩; obtain ⟨u0, u1, u2, zu0, zu1, zu2, mA⟩ := z79_cells hq5.out.1.hA; obtain ⟨v0, v1, v2, zv0, zv1, zv2, mB⟩ := z79_cells hq5.out.2)
  have hQ := Lib.hid (hq5.out.1.set (o := 2) (by decide) (.int .i64 (m : Int)))
  go_wp2_with fail
  refine take_last ?_
  intro W9 hW9
  obtain ⟨g1, g2⟩ := hQ.out.fin (Gh.Le.refl _ _) (Nat.le_trans H0.out hQ.out.st.size) (n := m) (a := none) (is := false) (m := 0) (c := 0) (bs := []) rfl (fun _ => RV.nil _ _ _) W9 hW9
  refine bodyPost_ret (does_ret (A := W.heap.size + 1) rfl g1) rfl ?_
  exact g2
theorem does_evict {γ : Gh} {W : World} {sb db : Nat} {s : Sp} (H : SpV γ W sb db s) (hok : s.Ok) (hbd : s.Bd 0) (h0 : γ.lim ≤ W.heap.size) {p t : Int} (hp : p ≤ 9223372036854775807) {ba la : Option Addr} {bn bc ln lc : Nat} :
    Calls Tryz.prog 46 #[.pointer (some ⟨sb, 0, none⟩), opV 5 p (.slice ba bn bc) (.slice la ln lc) t] W (DoesP γ W sb db (([], (s.c.evict p).1, (s.c.evict p).2.1), s.withC (s.c.evict p).2.2)) := by
  unfold opV
  obtain ⟨W2, hW2⟩ : ∃ W2, (((W.alloc (.cells #[.int .i64 5, .int .i64 p, .slice ba bn bc, .slice la ln lc, .int .i64 t] 73)).alloc (.cells #[.slice none 0 0, .bool false, .int .i64 0] 79)).alloc (.cells #[.slice none 0 0, .bool false, .int .i64 0] 79)) = W2 := ⟨_, rfl⟩
  have HP := P46.made W 5 p t (.slice ba bn bc) (.slice la ln lc)
  rw [hW2] at HP
  have HW := Lib.hid hW2
  have AC := (sevict_s (H.below HP.be h0) hok hbd (Nat.le_trans h0 HP.be.size) p hp).mono (R' := fun e W3 => e = .returned (.tuple #[.bool (s.c.evict p).1, .int .i64 ((s.c.evict p).2.1 : Nat)]) ∧ Hid (Q46s γ W W3 sb db (W.heap.size + 1) (W.heap.size + 1 + 1) (s.withC (s.c.evict p).2.2) ∧ W3.heap[W.heap.size + 1 + 1]? = some (.cells z79 79 (0, 0)))) fun e W3 ⟨h1, h2⟩ => ⟨h1, Lib.hid (HP.act h0 h2.out.1 h2.out.2)⟩
  obtain ⟨l', t', hO⟩ := HP.hO
  obtain ⟨o0, o1, o2, lO⟩ := op_cells hO
  obtain ⟨x0, x1, x2, zx0, zx1, zx2, lA⟩ := z79_cells HP.hA
  obtain ⟨y0, y1, y2, zy0, zy1, zy2, lB⟩ := z79_cells HP.hB
  generalize s.withC (s.c.evict p).2.2 = s' at *
  generalize (s.c.evict p).2.1 = m at *
  generalize (s.c.evict p).1 = is at *
  have H0 := Lib.hid h0
  clear H h0 HP hp hbd hok hO hW2
  go_enter Tryz.func46, Tryz.ntmps46
  go_upto_region 2 with fail
  rw [HW.out]
  go_upto_region 30 with (go_at_call 102; refine AC.mono ?_; rintro e w5 ⟨rfl, hq5⟩; obtain ⟨u0, u1, u2, zu0, zu1, zu2, mA⟩ := z79_cells hq5.out.1.hA; obtain ⟨v0, v1, v2, zv0, zv1, zv2, mB⟩ := z79_cells hq5.out.2)
  have hQ := Lib.hid ((hq5.out.1.set (o := 1) (by decide) (.bool is)).set (o := 2) (by decide) (.int .i64 (m : Int)))
  go_wp2_with fail
  refine take_last ?_
  intro W9 hW9
  obtain ⟨g1, g2⟩ := hQ.out.fin (Gh.Le.refl _ _) (Nat.le_trans H0.out hQ.out.st.size) (n := m) (a := none) (is := is) (m := 0) (c := 0) (bs := []) rfl (fun _ => RV.nil _ _ _) W9 hW9
  refine bodyPost_ret (does_ret (A := W.heap.size + 1) rfl g1) rfl ?_
  exact g2
end Go.Tb
namespace Go.Tb
open Go Go.RowKit Go.Proofs Go.Maps Go.Sp
theorem RC.keep {γ : Gh} {S : TypeId → Bool} {w w' : World} {v : Value} {bs : Bs} (h : RC γ w v bs) (hs : Step γ S w w') (h0 : S 0 = false) : RC γ w' v bs := by
  obtain ⟨a, c, e, hx, h⟩ := h
  refine ⟨a, c, e, hx, fun hp => ?_⟩
  obtain ⟨g, o, e1, e2, ⟨e3, e4, e5⟩, e6⟩ := h hp
  exact ⟨g, o, e1, Nat.lt_of_lt_of_le e2 hs.size, ⟨e3, hs.tg _ _ (by decide) e2 e4, fun j hj => fz_keep hs e4 h0 e2 (e5 j hj)⟩, fun j x hj => cell_keep hs e4 h0 (e6 j x hj)⟩
theorem Gh.Le.mono {w w' : World} {γ γ' : Gh} (h : Gh.Le w' γ γ') (hs : w.heap.size ≤ w'.heap.size) : Gh.Le w γ γ' := ⟨h.B, fun k hk => h.told k (by omega)⟩
theorem Q46s.only {γ : Gh} {W W8 W9 : World} {sb db A B : Nat} {s' : Sp} (h : Q46s γ W W8 sb db A B s') (hs : Step γ (fun T => T == 0) W8 W9) : Q46s γ W W9 sb db A B s' := by
  have h0 : Step γ cl0 W8 W9 := hs.mono fun T hT => by simp [cl0] at hT; simp [hT.1]
  obtain ⟨tB, c, hc, hz⟩ := h.hB
  have lA := (Array.getElem?_eq_some_iff.1 h.hA).1
  have lB := (Array.getElem?_eq_some_iff.1 hc).1
  exact ⟨h.sp.client (h0.mono cl0S), h.st.trans (h0.mono clSC), (hs.heap h.lt.2.2 rfl lA).trans h.hA, ⟨hs.tg _ _ (by decide) lB tB, c, (hs.heap tB rfl lB).trans hc, hz⟩, h.lt.1, h.lt.2.1, hs.tg _ _ (by decide) lA h.lt.2.2⟩
structure R46 (γ : Gh) (W w3 : World) (sb db O A B : Nat) (s : Sp) (k p : Int) (v : Value) (bs : Bs) : Prop where
  lim : γ.lim ≤ w3.heap.size
  sp : SpV γ w3 sb db s
  be : Below W.heap.size W w3
  rc : RC γ w3 v bs
  hO : ∃ b l t, w3.heap[O]? = some (.cells #[.int .i64 k, .int .i64 p, b, l, .int .i64 t] 73 (0, 0))
  hA : Tag γ w3 A 79 ∧ w3.heap[A]? = some (.cells z79 79 (0, 0))
  hB : Tag γ w3 B 79 ∧ w3.heap[B]? = some (.cells z79 79 (0, 0))
  lt : γ.B ≤ W.heap.size ∧ γ.B ≤ A ∧ A < B
theorem P46.twin {γ : Gh} {W W2 : World} {O A B : Nat} {k p : Int} {b : Value} {sb db : Nat} {s : Sp} {bs : Bs} (h : P46 W W2 O A B k p b) (h0 : γ.lim ≤ W.heap.size) (H : SpV γ W sb db s) (hb : RV W b bs) (hn : bs.length ≤ 1048576) :
    Calls Tryz.prog 101 #[b] W2 fun e w3 => ∃ a c, e = .returned (.slice a bs.length c) ∧ Hid (∃ γ', Gh.Le W γ γ' ∧ R46 γ' W w3 sb db O A B s k p (.slice a bs.length c) bs) := by
  obtain ⟨n1, n2, n3, n4⟩ := h.hn
  refine (twin_x (hb.keep h.be) hn).mono ?_
  rintro e w3 ⟨⟨v, rfl, hv⟩, hb3⟩
  obtain ⟨a, c, rfl⟩ := hv.rv.len
  have h2 : γ.lim ≤ W2.heap.size := Nat.le_trans h0 h.be.size
  obtain ⟨γ', g1, g2, g3⟩ := hv.client h2 hb3
  have hB' : γ'.B ≤ W.heap.size := by rw [g1.B]; exact Nat.le_trans γ.hB h0
  have hsp : SpV γ' w3 sb db s := ((H.below h.be h0).more g1).stay (Step.belowB hb3 (Nat.le_trans hB' h.be.size))
  have tA : Tag γ' W2 A 79 := (Tag.new (by omega) h.hA : Tag γ W2 A 79).more g1 (by omega)
  have tB : Tag γ' W2 B 79 := (Tag.new (by omega) h.hB : Tag γ W2 B 79).more g1 (by omega)
  obtain ⟨l, t, hO⟩ := h.hO
  have bA := hb3.block A (by omega)
  have bB := hb3.block B (by omega)
  exact ⟨a, c, rfl, Lib.hid ⟨γ', g1.mono h.be.size, g2, hsp, Below.up h.be hb3, g3, ⟨b, l, t, (hb3.block O (by omega)).trans hO⟩, ⟨tA.same bA, bA.trans h.hA⟩, ⟨tB.same bB, bB.trans h.hB⟩, hB', by omega, by omega⟩⟩
theorem R46.act {γ : Gh} {W w3 W5 : World} {O A B : Nat} {k p : Int} {v : Value} {bs : Bs} {sb db : Nat} {s s' : Sp} (h : R46 γ W w3 sb db O A B s k p v bs) (hs : SpV γ W5 sb db s') (hst : Step γ spS w3 W5) : Q46s γ W W5 sb db A B s' ∧ W5.heap[B]? = some (.cells z79 79 (0, 0)) ∧ RC γ W5 v bs := by
  have lA := (Array.getElem?_eq_some_iff.1 h.hA.2).1
  have lB := (Array.getElem?_eq_some_iff.1 h.hB.2).1
  have hB := (hst.heap h.hB.1 rfl lB).trans h.hB.2
  exact ⟨⟨hs, (Step.belowB h.be h.lt.1).trans (hst.mono spSC), (hst.heap h.hA.1 rfl lA).trans h.hA.2, ⟨hst.tg _ _ (by decide) lB h.hB.1, _, hB, rfl⟩, h.lt.2.1, h.lt.2.2, hst.tg _ _ (by decide) lA h.hA.1⟩, hB, h.rc.keep hst rfl⟩
def LpR (lb : Nat) (W wr : World) (a : Option Addr) (n : Nat) : Prop := (n = 0 → wr = W) ∧ Spo lb W wr a n
theorem LpR.step {γ : Gh} {w wr : World} {a : Option Addr} {n c : Nat} {bs : Bs} (h : LpR γ.B w wr a n) (hr : RC γ w (.slice a n c) bs) : Step γ (fun T => T == 0) w wr := by
  by_cases e : n = 0
  · rw [h.1 e]; exact Step.refl _ _ _
  · exact h.2.step (by omega) hr
end Go.Tb
namespace Go.Tb
open Go Go.RowKit Go.Proofs Go.Maps Go.Sp
theorem does_write {γ : Gh} {W : World} {sb db : Nat} {s : Sp} (H : SpV γ W sb db s) (hok : s.Ok) (hbd : s.Bd 5000) (h0 : γ.lim ≤ W.heap.size) {p t : Int} {ba la : Option Addr} {bn bc ln lc : Nat} {bs : Bs} (hb : RV W (.slice ba bn bc) bs) (hn : bs.length ≤ 1000000) :
    Calls Tryz.prog 46 #[.pointer (some ⟨sb, 0, none⟩), opV 1 p (.slice ba bn bc) (.slice la ln lc) t] W (DoesP γ W sb db (([], false, (s.write p bs).1), (s.write p bs).2)) := by
  unfold opV
  obtain ⟨W2, hW2⟩ : ∃ W2, (((W.alloc (.cells #[.int .i64 1, .int .i64 p, .slice ba bn bc, .slice la ln lc, .int .i64 t] 73)).alloc (.cells #[.slice none 0 0, .bool false, .int .i64 0] 79)).alloc (.cells #[.slice none 0 0, .bool false, .int .i64 0] 79)) = W2 := ⟨_, rfl⟩
  have HP := P46.made W 1 p t (.slice ba bn bc) (.slice la ln lc)
  rw [hW2] at HP
  have HW := Lib.hid hW2
  have TW := HP.twin h0 H hb (by omega)
  have AC := Lib.hid (fun (γ' : Gh) (w3 : World) (v : Value) (h : R46 γ' W w3 sb db W.heap.size (W.heap.size + 1) (W.heap.size + 1 + 1) s 1 p v bs) => show Calls Tryz.prog 11 #[.pointer (some ⟨sb, 0, none⟩), .int .i64 p, v] w3 (fun e W5 => e = .returned (.int .i64 ((s.write p bs).1 : Nat)) ∧ Hid (Q46s γ' W W5 sb db (W.heap.size + 1) (W.heap.size + 1 + 1) (s.write p bs).2 ∧ W5.heap[W.heap.size + 1 + 1]? = some (.cells z79 79 (0, 0)) ∧ RC γ' W5 v bs ∧ γ'.lim ≤ W5.heap.size)) from (write_s h.sp hok (bd_up hbd (Ca.In.refl _ 0) (by omega)) h.lim p h.rc.ra).mono fun e W5 ⟨h1, h2⟩ => ⟨h1, Lib.hid (have q := h.act h2.out.1 h2.out.2; ⟨q.1, q.2.1, q.2.2, Nat.le_trans h.lim h2.out.2.size⟩)⟩)
  obtain ⟨n, hnn⟩ : ∃ n, bs.length = n := ⟨_, rfl⟩
  obtain ⟨l', t', hO⟩ := HP.hO
  obtain ⟨o0, o1, o2, lO⟩ := op_cells hO
  obtain ⟨x0, x1, x2, zx0, zx1, zx2, lA⟩ := z79_cells HP.hA
  obtain ⟨y0, y1, y2, zy0, zy1, zy2, lB⟩ := z79_cells HP.hB
  generalize (s.write p bs).2 = s' at *
  generalize (s.write p bs).1 = m at *
  rw [hnn] at TW hn
  have HNN := Lib.hid hnn
  have H0 := Lib.hid h0
  have HL := Lib.hid HP.be.size
  clear H h0 HP hO hW2 hb hok hbd hnn
  go_enter Tryz.func46, Tryz.ntmps46
  go_upto_region 2 with fail
  rw [HW.out]
  go_upto_region 12 with (go_at_call 101; refine TW.mono ?_; rintro e w5 ⟨a5, c5, rfl, hq5⟩)
  obtain ⟨γ', hle, hR⟩ := hq5.out
  have HR := Lib.hid (And.intro hle hR)
  obtain ⟨b', l', t', hO⟩ := hR.hO
  obtain ⟨o0, o1, o2, lO⟩ := op_cells hO
  obtain ⟨x0, x1, x2, zx0, zx1, zx2, lA⟩ := z79_cells hR.hA.2
  obtain ⟨y0, y1, y2, zy0, zy1, zy2, lB⟩ := z79_cells hR.hB.2
  have AC' := AC.out γ' w5 _ hR
  clear hq5 hle hR hO AC TW
  go_upto_region 14 with (go_at_call 11; refine AC'.mono ?_; rintro e w6 ⟨rfl, hq6⟩; obtain ⟨u0, u1, u2, zu0, zu1, zu2, mA⟩ := z79_cells hq6.out.1.hA; obtain ⟨v0, v1, v2, zv0, zv1, zv2, mB⟩ := z79_cells hq6.out.2.1)
  have hQ := Lib.hid (hq6.out.1.set (o := 2) (by decide) (.int .i64 (m : Int)))
  have hC := Lib.hid (hq6.out.2.2.1.keep (Step.set (S := fun T => T == 79) (v := .int .i64 (m : Int)) hq6.out.1.hB.1 rfl (by have := hq6.out.1.lt; omega) v2) rfl)
  have b2 := World.cell?_setCell_same w6 ⟨W.heap.size + 1 + 1, 2, none⟩ (.int .i64 (m : Int)) v2
  have b0 := (World.cell?_setCell_other w6 ⟨W.heap.size + 1 + 1, 2, none⟩ ⟨W.heap.size + 1 + 1, 0, none⟩ (.int .i64 (m : Int)) (fun e => by injection e with _ e; cases e)).trans v0
  have b1 := (World.cell?_setCell_other w6 ⟨W.heap.size + 1 + 1, 2, none⟩ ⟨W.heap.size + 1 + 1, 1, none⟩ (.int .i64 (m : Int)) (fun e => by injection e with _ e; cases e)).trans v1
  have HSZ : Hid (γ'.lim ≤ (w6.setCell ⟨W.heap.size + 1 + 1, 2, none⟩ (.int .i64 (m : Int))).heap.size) := Lib.hid (by rw [show (w6.setCell ⟨W.heap.size + 1 + 1, 2, none⟩ (.int .i64 (m : Int))).heap.size = w6.heap.size by simp [World.setCell]]; exact hq6.out.2.2.2)
  have HB := Lib.hid (And.intro b0 (And.intro b1 b2))
  clear hq6 AC' o0 o1 o2 lO x0 x1 x2 zx0 zx1 zx2 lA y0 y1 y2 zy0 zy1 zy2 lB u0 u1 u2 zu0 zu1 zu2 mA v0 v1 v2 zv0 zv1 zv2 mB b0 b1 b2
  refine take_last ?_
  intro W6 hW6
  rw [hW6] at hQ hC HB HSZ
  clear hW6
  obtain ⟨hnb, hsp⟩ := hC.out.spo
  have HI0 : Hid (LpR γ'.B W6 W6 a5 n) := Lib.hid ⟨fun _ => rfl, hsp⟩
  clear hnb hsp
  go_loopw [10] (fun u wr => ∃ k : Nat, u = .int .i64 (k : Int) ∧ k ≤ n ∧ Hid (LpR γ'.B W6 wr a5 n)) (fun u _ => n - (Go.RowKit.intOf u).toNat)
  case atStart => exact ⟨0, rfl, Nat.zero_le _, HI0⟩
  case round =>
    obtain ⟨k, rfl, hk, hI⟩ := hrel
    by_cases e : k < n
    · have j1 : (k : Int) < (n : Int) := by omega
      have j0 : (0 : Int) ≤ (k : Int) := by omega
      have hk2 : k < 2000001 := by omega
      obtain ⟨g, o, rfl, hS⟩ := hI.out.2 (by omega)
      have HS := Lib.hid (Spo.set hS e (.int .u8 85))
      obtain ⟨⟨uc, hc⟩, hz⟩ := hS.2.2.2.2.2 k e
      have lg := cell_lt' hc
      clear hI hS
      go_wp2_with fail
      exact ⟨⟨k + 1, rfl, by omega, Lib.hid ⟨fun h => absurd h (by omega), HS.out⟩⟩, measT e⟩
    · have ek : k = n := by omega
      subst ek
      have j1 : ¬ (k : Int) < (k : Int) := by omega
      have hs := hI.out.step hC.out
      have hQ2 := hQ.out.only hs
      obtain ⟨u0, u1, u2, zu0, zu1, zu2, mA⟩ := z79_cells hQ2.hA
      have hBh : wr.heap[W.heap.size + 1 + 1]? = W6.heap[W.heap.size + 1 + 1]? := hs.heap hQ.out.hB.1 rfl (cell_lt' HB.out.1)
      have v0 := (cell_of_heap (a := ⟨W.heap.size + 1 + 1, 0, none⟩) hBh).1.trans HB.out.1
      have v1 := (cell_of_heap (a := ⟨W.heap.size + 1 + 1, 1, none⟩) hBh).1.trans HB.out.2.1
      have v2 := (cell_of_heap (a := ⟨W.heap.size + 1 + 1, 2, none⟩) hBh).1.trans HB.out.2.2
      have mB := cell_lt' v0
      have HF := Lib.hid (hQ2.fin HR.out.1 (Nat.le_trans HSZ.out hs.size) (n := m) (a := none) (is := false) (m := 0) (c := 0) (bs := []) rfl (fun _ => RV.nil _ _ _))
      clear hI hs hQ2 hBh
      go_wp2_with fail
      refine take_last ?_
      intro W9 hW9
      obtain ⟨g1, g2⟩ := HF.out W9 hW9
      refine bodyPost_ret (does_ret (A := W.heap.size + 1) rfl g1) rfl ?_
      exact g2
theorem does_commit {γ : Gh} {W : World} {sb db : Nat} {s : Sp} (H : SpV γ W sb db s) (hok : s.Ok) (hbd : s.Bd 5000) (h0 : γ.lim ≤ W.heap.size) (hN : 2 ≤ s.c.d.N ∧ s.c.d.N ≤ 4096) {p t : Int} {ba la : Option Addr} {bn bc ln lc : Nat} {bs : Bs} (hb : RV W (.slice ba bn bc) bs) (hn : bs.length ≤ 1000000) :
    Calls Tryz.prog 46 #[.pointer (some ⟨sb, 0, none⟩), opV 3 p (.slice ba bn bc) (.slice la ln lc) t] W (DoesP γ W sb db (([], false, (s.commit bs).1), (s.commit bs).2)) := by
  unfold opV
  obtain ⟨W2, hW2⟩ : ∃ W2, (((W.alloc (.cells #[.int .i64 3, .int .i64 p, .slice ba bn bc, .slice la ln lc, .int .i64 t] 73)).alloc (.cells #[.slice none 0 0, .bool false, .int .i64 0] 79)).alloc (.cells #[.slice none 0 0, .bool false, .int .i64 0] 79)) = W2 := ⟨_, rfl⟩
  have HP := P46.made W 3 p t (.slice ba bn bc) (.slice la ln lc)
  rw [hW2] at HP
  have HW := Lib.hid hW2
  have TW := HP.twin h0 H hb (by omega)
  have AC := Lib.hid (fun (γ' : Gh) (w3 : World) (v : Value) (h : R46 γ' W w3 sb db W.heap.size (W.heap.size + 1) (W.heap.size + 1 + 1) s 3 p v bs) => show Calls Tryz.prog 12 #[.pointer (some ⟨sb, 0, none⟩), v] w3 (fun e W5 => e = .returned (.int .i64 ((s.commit bs).1 : Nat)) ∧ Hid (Q46s γ' W W5 sb db (W.heap.size + 1) (W.heap.size + 1 + 1) (s.commit bs).2 ∧ W5.heap[W.heap.size + 1 + 1]? = some (.cells z79 79 (0, 0)) ∧ RC γ' W5 v bs ∧ γ'.lim ≤ W5.heap.size)) from (commit_s h.sp hok hbd h.lim hN h.rc.ra hn).mono fun e W5 ⟨h1, h2⟩ => ⟨h1, Lib.hid (have q := h.act h2.out.1 h2.out.2; ⟨q.1, q.2.1, q.2.2, Nat.le_trans h.lim h2.out.2.size⟩)⟩)
  obtain ⟨n, hnn⟩ : ∃ n, bs.length = n := ⟨_, rfl⟩
  obtain ⟨l', t', hO⟩ := HP.hO
  obtain ⟨o0, o1, o2, lO⟩ := op_cells hO
  obtain ⟨x0, x1, x2, zx0, zx1, zx2, lA⟩ := z79_cells HP.hA
  obtain ⟨y0, y1, y2, zy0, zy1, zy2, lB⟩ := z79_cells HP.hB
  generalize (s.commit bs).2 = s' at *
  generalize (s.commit bs).1 = m at *
  rw [hnn] at TW hn
  have HNN := Lib.hid hnn
  have H0 := Lib.hid h0
  have HL := Lib.hid HP.be.size
  clear H h0 HP hO hW2 hb hok hbd hnn
  go_enter Tryz.func46, Tryz.ntmps46
  go_upto_region 2 with fail
  rw [HW.out]
  go_upto_region 21 with (go_at_call 101; refine TW.mono ?_; rintro e w5 ⟨a5, c5, rfl, hq5⟩)
  obtain ⟨γ', hle, hR⟩ := hq5.out
  have HR := Lib.hid (And.intro hle hR)
  obtain ⟨b', l', t', hO⟩ := hR.hO
  obtain ⟨o0, o1, o2, lO⟩ := op_cells hO
  obtain ⟨x0, x1, x2, zx0, zx1, zx2, lA⟩ := z79_cells hR.hA.2
  obtain ⟨y0, y1, y2, zy0, zy1, zy2, lB⟩ := z79_cells hR.hB.2
  have AC' := AC.out γ' w5 _ hR
  clear hq5 hle hR hO AC TW
  go_upto_region 23 with (go_at_call 12; refine AC'.mono ?_; rintro e w6 ⟨rfl, hq6⟩; obtain ⟨u0, u1, u2, zu0, zu1, zu2, mA⟩ := z79_cells hq6.out.1.hA; obtain ⟨v0, v1, v2, zv0, zv1, zv2, mB⟩ := z79_cells hq6.out.2.1)
  have hQ := Lib.hid (hq6.out.1.set (o := 2) (by decide) (.int .i64 (m : Int)))
  have hC := Lib.hid (hq6.out.2.2.1.keep (Step.set (S := fun T => T == 79) (v := .int .i64 (m : Int)) hq6.out.1.hB.1 rfl (by have := hq6.out.1.lt; omega) v2) rfl)
  have b2 := World.cell?_setCell_same w6 ⟨W.heap.size + 1 + 1, 2, none⟩ (.int .i64 (m : Int)) v2
  have b0 := (World.cell?_setCell_other w6 ⟨W.heap.size + 1 + 1, 2, none⟩ ⟨W.heap.size + 1 + 1, 0, none⟩ (.int .i64 (m : Int)) (fun e => by injection e with _ e; cases e)).trans v0
  have b1 := (World.cell?_setCell_other w6 ⟨W.heap.size + 1 + 1, 2, none⟩ ⟨W.heap.size + 1 + 1, 1, none⟩ (.int .i64 (m : Int)) (fun e => by injection e with _ e; cases e)).trans v1
  have HSZ : Hid (γ'.lim ≤ (w6.setCell ⟨W.heap.size + 1 + 1, 2, none⟩ (.int .i64 (m : Int))).heap.size) := Lib.hid (by rw [show (w6.setCell ⟨W.heap.size + 1 + 1, 2, none⟩ (.int .i64 (m : Int))).heap.size = w6.heap.size by simp [World.setCell]]; exact hq6.out.2.2.2)
  have HB := Lib.hid (And.intro b0 (And.intro b1 b2))
  clear hq6 AC' o0 o1 o2 lO x0 x1 x2 zx0 zx1 zx2 lA y0 y1 y2 zy0 zy1 zy2 lB u0 u1 u2 zu0 zu1 zu2 mA v0 v1 v2 zv0 zv1 zv2 mB b0 b1 b2
  refine take_last ?_
  intro W6 hW6
  rw [hW6] at hQ hC HB HSZ
  clear hW6
  obtain ⟨hnb, hsp⟩ := hC.out.spo
  have HI0 : Hid (LpR γ'.B W6 W6 a5 n) := Lib.hid ⟨fun _ => rfl, hsp⟩
  clear hnb hsp
  go_loopw [12] (fun u wr => ∃ k : Nat, u = .int .i64 (k : Int) ∧ k ≤ n ∧ Hid (LpR γ'.B W6 wr a5 n)) (fun u _ => n - (Go.RowKit.intOf u).toNat)
  case atStart => exact ⟨0, rfl, Nat.zero_le _, HI0⟩
  case round =>
    obtain ⟨k, rfl, hk, hI⟩ := hrel
    by_cases e : k < n
    · have j1 : (k : Int) < (n : Int) := by omega
      have j0 : (0 : Int) ≤ (k : Int) := by omega
      have hk2 : k < 2000001 := by omega
      obtain ⟨g, o, rfl, hS⟩ := hI.out.2 (by omega)
      have HS := Lib.hid (Spo.set hS e (.int .u8 85))
      obtain ⟨⟨uc, hc⟩, hz⟩ := hS.2.2.2.2.2 k e
      have lg := cell_lt' hc
      clear hI hS
      go_wp2_with fail
      exact ⟨⟨k + 1, rfl, by omega, Lib.hid ⟨fun h => absurd h (by omega), HS.out⟩⟩, measT e⟩
    · have ek : k = n := by omega
      subst ek
      have j1 : ¬ (k : Int) < (k : Int) := by omega
      have hs := hI.out.step hC.out
      have hQ2 := hQ.out.only hs
      obtain ⟨u0, u1, u2, zu0, zu1, zu2, mA⟩ := z79_cells hQ2.hA
      have hBh : wr.heap[W.heap.size + 1 + 1]? = W6.heap[W.heap.size + 1 + 1]? := hs.heap hQ.out.hB.1 rfl (cell_lt' HB.out.1)
      have v0 := (cell_of_heap (a := ⟨W.heap.size + 1 + 1, 0, none⟩) hBh).1.trans HB.out.1
      have v1 := (cell_of_heap (a := ⟨W.heap.size + 1 + 1, 1, none⟩) hBh).1.trans HB.out.2.1
      have v2 := (cell_of_heap (a := ⟨W.heap.size + 1 + 1, 2, none⟩) hBh).1.trans HB.out.2.2
      have mB := cell_lt' v0
      have HF := Lib.hid (hQ2.fin HR.out.1 (Nat.le_trans HSZ.out hs.size) (n := m) (a := none) (is := false) (m := 0) (c := 0) (bs := []) rfl (fun _ => RV.nil _ _ _))
      clear hI hs hQ2 hBh
      go_wp2_with fail
      refine take_last ?_
      intro W9 hW9
      obtain ⟨g1, g2⟩ := HF.out W9 hW9
      refine bodyPost_ret (does_ret (A := W.heap.size + 1) rfl g1) rfl ?_
      exact g2
end Go.Tb
namespace Go.Tb
open Go Go.RowKit Go.Proofs Go.Maps Go.Sp
theorem Q46s.below {γ : Gh} {W W8 W9 : World} {sb db A B : Nat} {s' : Sp} (h : Q46s γ W W8 sb db A B s') (hb : Below W8.heap.size W8 W9) : Q46s γ W W9 sb db A B s' := by
  have lA := (Array.getElem?_eq_some_iff.1 h.hA).1
  exact h.only (Step.belowB hb (by have := h.lt; omega))
theorem Q46s.setS {γ : Gh} {W W3 : World} {sb db A B : Nat} {s' : Sp} (h : Q46s γ W W3 sb db A B s') {o : Nat} (ho : o < 3) (v : Value) : Step γ (fun T => T == 79) W3 (W3.setCell ⟨B, o, none⟩ v) := by
  obtain ⟨tB, c, hc, hz⟩ := h.hB
  have hcell : W3.cell? ⟨B, o, none⟩ = some (c.getD o undef) := by
    simp only [World.cell?, hc]
    rw [Array.getElem?_eq_getElem (by omega)]
    simp [Array.getD, hz, ho]
  exact Step.set tB rfl (by have := h.lt; omega) hcell
theorem z79_set3 {W : World} {B : Nat} (h : W.heap[B]? = some (.cells z79 79 (0, 0))) (v b e : Value) : (((W.setCell ⟨B, 0, none⟩ v).setCell ⟨B, 1, none⟩ b).setCell ⟨B, 2, none⟩ e).heap[B]? = some (.cells #[v, b, e] 79 (0, 0)) := by
  have hset : ∀ (W : World) (K : Nat) (c : Array Value) (o : Nat) (u : Value), W.heap[K]? = some (.cells c 79 (0, 0)) → (W.setCell ⟨K, o, none⟩ u).heap[K]? = some (.cells (c.setIfInBounds o u) 79 (0, 0)) := fun W K c o u h => by
    unfold World.setCell
    simp only [Array.getElem?_modify]
    rw [h]
    simp
  exact hset _ B _ 2 e (hset _ B _ 1 b (hset _ B _ 0 v h))
theorem c79 {W : World} {B : Nat} {v b e : Value} (h : W.heap[B]? = some (.cells #[v, b, e] 79 (0, 0))) : W.cell? ⟨B, 0, none⟩ = some v ∧ W.cell? ⟨B, 1, none⟩ = some b ∧ W.cell? ⟨B, 2, none⟩ = some e ∧ B < W.heap.size := ⟨by simp [World.cell?, h], by simp [World.cell?, h], by simp [World.cell?, h], (Array.getElem?_eq_some_iff.1 h).1⟩
structure RdI (γ : Gh) (W w5 : World) (sb db A B : Nat) (s' : Sp) (v : Value) (bs : Bs) : Prop where
  q : Q46s γ W w5 sb db A B s'
  hB : w5.heap[B]? = some (.cells z79 79 (0, 0))
  rc : RC γ w5 v bs
  lim : γ.lim ≤ w5.heap.size
theorem P46.read {γ : Gh} {W W2 w5 : World} {O A B : Nat} {k p : Int} {b : Value} {sb db : Nat} {s' : Sp} {v : Value} {bs : Bs} (h : P46 W W2 O A B k p b) (h0 : γ.lim ≤ W.heap.size) (ha : Aft γ spS (fun w1 => SpV γ w1 sb db s') W2 w5 v bs) :
    ∃ γ', Gh.Le W γ γ' ∧ RdI γ' W w5 sb db A B s' v bs := by
  obtain ⟨w1, h1, h2, h3, h4⟩ := ha
  obtain ⟨q1, q2⟩ := h.act h0 h1 h2
  have l1 : γ.lim ≤ w1.heap.size := Nat.le_trans h0 q1.st.size
  obtain ⟨γ', g1, g2, g3⟩ := h4.client l1 h3
  have hWw : W.heap.size ≤ w1.heap.size := q1.st.size
  have hB' : γ'.B ≤ W.heap.size := by rw [g1.B]; exact Nat.le_trans γ.hB h0
  have lA := (Array.getElem?_eq_some_iff.1 q1.hA).1
  have lB := (Array.getElem?_eq_some_iff.1 q2).1
  have st' : Step γ' spC W w1 := ⟨by rw [g1.B]; exact q1.st.be, fun k hk hS => q1.st.on k hk (fun T hT => hS T (hT.more (g1.mono hWw) hk)), fun k T hn hk ht => by
    have e : Tag γ W k T := by
      unfold Tag Gh.kind at ht ⊢
      rw [g1.told k (by omega)] at ht; exact ht
    exact (q1.st.tg k T hn hk e).more g1 (by omega)⟩
  have q1' : Q46s γ' W w1 sb db A B s' := ⟨q1.sp.more g1, st', q1.hA, ⟨q1.hB.1.more g1 lB, q1.hB.2⟩, by rw [g1.B]; exact q1.lt.1, q1.lt.2.1, q1.lt.2.2.more g1 lA⟩
  exact ⟨γ', g1.mono hWw, q1'.below h3, (h3.block B lB).trans q2, g3, g2⟩
theorem does_read {γ : Gh} {W : World} {sb db : Nat} {s : Sp} (H : SpV γ W sb db s) (hok : s.Ok) (hbd : s.Bd 5000) (h0 : γ.lim ≤ W.heap.size) {p t : Int} {ba la : Option Addr} {bn bc ln lc : Nat} (hlen : (s.read p).2.1.length ≤ 1000000) :
    Calls Tryz.prog 46 #[.pointer (some ⟨sb, 0, none⟩), opV 0 p (.slice ba bn bc) (.slice la ln lc) t] W (DoesP γ W sb db (((s.read p).2.1, false, (s.read p).1), (s.read p).2.2)) := by
  unfold opV
  obtain ⟨W2, hW2⟩ : ∃ W2, (((W.alloc (.cells #[.int .i64 0, .int .i64 p, .slice ba bn bc, .slice la ln lc, .int .i64 t] 73)).alloc (.cells #[.slice none 0 0, .bool false, .int .i64 0] 79)).alloc (.cells #[.slice none 0 0, .bool false, .int .i64 0] 79)) = W2 := ⟨_, rfl⟩
  have HP := P46.made W 0 p t (.slice ba bn bc) (.slice la ln lc)
  rw [hW2] at HP
  have HW := Lib.hid hW2
  have RD := (read_s (H.below HP.be h0) hok (bd_up hbd (Ca.In.refl _ 0) (by omega)) (Nat.le_trans h0 HP.be.size) p).mono (R' := fun e w5 => ∃ a n c, e = .returned (.tuple #[.slice a n c, .int .i64 ((s.read p).1 : Nat)]) ∧ Hid (∃ γ', Gh.Le W γ γ' ∧ RdI γ' W w5 sb db (W.heap.size + 1) (W.heap.size + 1 + 1) (s.read p).2.2 (.slice a n c) (s.read p).2.1)) fun e w5 ⟨a, n, c, h1, h2⟩ => ⟨a, n, c, h1, Lib.hid (HP.read h0 h2.out)⟩
  obtain ⟨l', t', hO⟩ := HP.hO
  obtain ⟨o0, o1, o2, lO⟩ := op_cells hO
  obtain ⟨x0, x1, x2, zx0, zx1, zx2, lA⟩ := z79_cells HP.hA
  obtain ⟨y0, y1, y2, zy0, zy1, zy2, lB⟩ := z79_cells HP.hB
  generalize (s.read p).2.2 = s' at *
  generalize (s.read p).2.1 = bs at *
  generalize (s.read p).1 = m at *
  have H0 := Lib.hid h0
  have HL := Lib.hid HP.be.size
  clear H h0 HP hO hW2 hok hbd
  go_enter Tryz.func46, Tryz.ntmps46
  go_upto_region 2 with fail
  rw [HW.out]
  go_upto_region 5 with (go_at_call 32; refine RD.mono ?_; rintro e w5 ⟨a5, n5, c5, rfl, hq5⟩)
  obtain ⟨γ', hle, hR⟩ := hq5.out
  have hn5 : n5 = bs.length := by obtain ⟨a, c, e, _⟩ := hR.rc; injection e
  have HR := Lib.hid (And.intro hle hR)
  obtain ⟨u0, u1, u2, zu0, zu1, zu2, mA⟩ := z79_cells hR.q.hA
  obtain ⟨v0, v1, v2, zv0, zv1, zv2, mB⟩ := z79_cells hR.hB
  clear o0 o1 o2 lO x0 x1 x2 zx0 zx1 zx2 lA y0 y1 y2 zy0 zy1 zy2 lB
  have TW := twin_x hR.rc.ra.rv (by omega)
  subst hn5
  clear hR hq5 hle
  go_upto_region 6 with (go_at_call 101; refine TW.mono ?_; rintro e w6 ⟨⟨v6, rfl, hv6⟩, hb6⟩; obtain ⟨a6, c6, rfl⟩ := hv6.rv.len; obtain ⟨u0, u1, u2, zu0, zu1, zu2, mA⟩ := z79_cells ((hb6.block _ mA).trans HR.out.2.q.hA); obtain ⟨v0, v1, v2, zv0, zv1, zv2, mB⟩ := z79_cells ((hb6.block _ mB).trans HR.out.2.hB))
  have hQ6 := HR.out.2.q.below hb6
  have hB6 := (hb6.block _ (cell_lt' (c79 HR.out.2.hB).1)).trans HR.out.2.hB
  have sb6 : Step γ' (fun _ => false) w5 w6 := Step.belowB hb6 (Nat.le_trans γ'.hB HR.out.2.lim)
  have t1 := hQ6.setS (o := 0) (by decide) (.slice a6 bs.length c6)
  have q1 := hQ6.set (o := 0) (by decide) (.slice a6 bs.length c6)
  have t2 := q1.setS (o := 1) (by decide) (.bool false)
  have q2 := q1.set (o := 1) (by decide) (.bool false)
  have t3 := q2.setS (o := 2) (by decide) (.int .i64 (m : Int))
  have hQ := Lib.hid (q2.set (o := 2) (by decide) (.int .i64 (m : Int)))
  have t4 := (t1.trans t2).trans t3
  have hC := Lib.hid ((HR.out.2.rc.keep sb6 rfl).keep t4 rfl)
  have hV := Lib.hid ((hv6.rb HR.out.2.lim).keep t4 rfl)
  have hB := Lib.hid (z79_set3 hB6 (.slice a6 bs.length c6) (.bool false) (.int .i64 (m : Int)))
  have HSZ : Hid (γ'.lim ≤ (((w6.setCell ⟨W.heap.size + 1 + 1, 0, none⟩ (.slice a6 bs.length c6)).setCell ⟨W.heap.size + 1 + 1, 1, none⟩ (.bool false)).setCell ⟨W.heap.size + 1 + 1, 2, none⟩ (.int .i64 (m : Int))).heap.size) := Lib.hid (Nat.le_trans HR.out.2.lim (Nat.le_trans sb6.size t4.size))
  clear hQ6 hB6 sb6 t1 q1 t2 q2 t3 t4 hv6 hb6 TW RD u0 u1 u2 zu0 zu1 zu2 mA v0 v1 v2 zv0 zv1 zv2 mB
  refine take_last ?_
  intro W6 hW6
  rw [hW6] at hQ hC hV hB HSZ
  clear hW6
  obtain ⟨hnb, hsp⟩ := hC.out.spo
  obtain ⟨n, hnn⟩ : ∃ n, bs.length = n := ⟨_, rfl⟩
  have HI0 : Hid (LpR γ'.B W6 W6 a5 n) := Lib.hid ⟨fun _ => rfl, hnn ▸ hsp⟩
  have HNN := Lib.hid hnn
  simp only [hnn] at hC hV hB hlen ⊢
  clear hnb hsp hnn
  go_upto_region 7 with fail
  go_loopw [8] (fun u wr => ∃ k : Nat, u = .int .i64 (k : Int) ∧ k ≤ n ∧ Hid (LpR γ'.B W6 wr a5 n)) (fun u _ => n - (Go.RowKit.intOf u).toNat)
  case atStart => exact ⟨0, rfl, Nat.zero_le _, HI0⟩
  case round =>
    obtain ⟨k, rfl, hk, hI⟩ := hrel
    by_cases e : k < n
    · have j1 : (k : Int) < (n : Int) := by omega
      have j0 : (0 : Int) ≤ (k : Int) := by omega
      have hk2 : k < 2000001 := by omega
      obtain ⟨g, o, rfl, hS⟩ := hI.out.2 (by omega)
      have HS := Lib.hid (Spo.set hS e (.int .u8 85))
      obtain ⟨⟨uc, hc⟩, hz⟩ := hS.2.2.2.2.2 k e
      have lg := cell_lt' hc
      clear hI hS
      go_wp2_with fail
      exact ⟨⟨k + 1, rfl, by omega, Lib.hid ⟨fun h => absurd h (by omega), HS.out⟩⟩, measT e⟩
    · have ek : k = n := by omega
      subst ek
      have j1 : ¬ (k : Int) < (k : Int) := by omega
      have hs := hI.out.step hC.out
      have hQ2 := hQ.out.only hs
      obtain ⟨u0, u1, u2, zu0, zu1, zu2, mA⟩ := z79_cells hQ2.hA
      obtain ⟨v0, v1, v2, mB⟩ := c79 ((hs.heap hQ.out.hB.1 rfl (c79 hB.out).2.2.2).trans hB.out)
      have hv := hV.out.keep hs rfl
      have HF := Lib.hid (hQ2.fin HR.out.1 (Nat.le_trans HSZ.out hs.size) (n := m) (a := a6) (is := false) (m := k) (c := c6) (bs := bs) HNN.out.symm (fun h => (hv.keep h rfl).rv))
      clear hI hs hQ2 hv
      go_wp2_with fail
      refine take_last ?_
      intro W9 hW9
      obtain ⟨g1, g2⟩ := HF.out W9 hW9
      refine bodyPost_ret (does_ret (A := W.heap.size + 1) rfl g1) rfl ?_
      exact g2
end Go.Tb
namespace Go.Tb
open Go Go.RowKit Go.Proofs Go.Maps Go.Sp
def stL (x : St) : List Value := (List.range 1024).map (fun p => Value.bool (x.on p)) ++ ((List.range 1024).map (fun p => Value.string (txt (x.b p))) ++ [Value.string (txt x.mt)])
theorem stL_len (x : St) : (stL x).length = 2049 := by simp [stL]
theorem stL_on (x : St) {p : Nat} (hp : p < 1024) : (stL x)[p]? = some (.bool (x.on p)) := by
  unfold stL
  rw [List.getElem?_append_left (by simp; exact hp)]
  simp [hp]
theorem stL_b (x : St) {p : Nat} (hp : p < 1024) : (stL x)[1024 + p]? = some (.string (txt (x.b p))) := by
  unfold stL
  rw [List.getElem?_append_right (by simp), List.getElem?_append_left (by simp; exact hp)]
  simp [hp]
theorem stL_mt (x : St) : (stL x)[2048]? = some (.string (txt x.mt)) := by
  unfold stL
  rw [List.getElem?_append_right (by simp), List.getElem?_append_right (by simp)]
  simp
structure SR (W : World) (wb off : Nat) (x : St) : Prop where
  r : W.rangeAt wb off (stL x)
theorem SR.on {W : World} {wb off : Nat} {x : St} (h : SR W wb off x) {p : Nat} (hp : p < 1024) : W.cell? ⟨wb, off + p, none⟩ = some (.bool (x.on p)) := h.r _ _ (stL_on x hp)
theorem SR.b {W : World} {wb off : Nat} {x : St} (h : SR W wb off x) {p : Nat} (hp : p < 1024) : W.cell? ⟨wb, off + 1024 + p, none⟩ = some (.string (txt (x.b p))) := by
  rw [Nat.add_assoc]; exact h.r _ _ (stL_b x hp)
theorem SR.mt {W : World} {wb off : Nat} {x : St} (h : SR W wb off x) : W.cell? ⟨wb, off + 2048, none⟩ = some (.string (txt x.mt)) := h.r _ _ (stL_mt x)
theorem SR.keep {γ : Gh} {S : TypeId → Bool} {W W' : World} {wb off : Nat} {x : St} (h : SR W wb off x) (ht : Tag γ W wb 33) (hs : Step γ S W W') (h33 : S 33 = false) : SR W' wb off x := ⟨fun j v hj => cell_keep hs ht h33 (h.r j v hj)⟩
theorem conv_rv {w : World} {v : Value} {a : Bs} (h : RV w v a) : (convert 37 9 v).run Tryz.prog w = .ok (.string (txt a)) w := by
  obtain ⟨ad, c, rfl, ⟨hx, hc⟩, hr⟩ := h
  by_cases hz : 0 < a.length
  · obtain ⟨g, o, rfl, hg, hcell⟩ := hr hz
    exact conv_txt hcell _ rfl
  · have h0 : a = [] := List.length_eq_zero_iff.1 (by omega)
    subst h0
    rw [run_convert_bytes_string w 37 9 5 _ _ c Tryz.underlying37 Tryz.underlying5 (by kernel_rfl)]
    cases ad <;> simp [Conv.bytesToString, loadCells] <;> rfl
theorem txt_beq {a b : Bs} (ha : Go.Sp.bytes a) (hb : Go.Sp.bytes b) : ((txt a).toList == (txt b).toList) = decide (a = b) := by
  have := txt_is (l := a) (m := b) ha hb
  rw [← txt_list (l := b) []] at this
  exact this
def St.cnt (x : St) (i : Nat) : Nat := ((List.range i).filter fun p => x.on p).length
theorem St.cnt_succ (x : St) (i : Nat) : St.cnt x (i + 1) = St.cnt x i + (if x.on i then 1 else 0) := by
  unfold St.cnt
  rw [List.range_succ, List.filter_append, List.length_append]
  cases h : x.on i <;> simp [h]
theorem St.cnt_le (x : St) (i : Nat) : St.cnt x i ≤ i := by
  have := List.length_filter_le (fun p => x.on p) (List.range i)
  simpa [St.cnt] using this
theorem Aft.now {γ : Gh} {w w' : World} {sb db : Nat} {s : Sp} {v : Value} {bs : Bs} (h : Aft γ spS (fun w1 => SpV γ w1 sb db s) w w' v bs) (h0 : γ.lim ≤ w.heap.size) : SpV γ w' sb db s ∧ Step γ spS w w' ∧ RV w' v bs := by
  obtain ⟨w1, h1, h2, h3, h4⟩ := h
  have l1 := Nat.le_trans h0 h2.size
  exact ⟨h1.below h3 l1, h2.trans (Step.below h3 l1), h4.rv⟩
structure HoI (γ : Gh) (w7 W : World) (sb db : Nat) (s : Sp) (x : St) (q : Bool × Sp) (k : Nat) (s' : Sp) : Prop where
  sp : SpV γ W sb db s'
  st : Step γ spS w7 W
  ok : s'.Ok
  inn : Ca.In s.c s'.c (2 * k)
  rd : readAll x ((pgs s.own).drop k) s' = q
theorem HoI.drew {γ : Gh} {w7 W : World} {sb db : Nat} {s : Sp} {x : St} {q : Bool × Sp} {k : Nat} {s' : Sp} (h : HoI γ w7 W sb db s x q k s') (hw : γ.lim ≤ W.heap.size) : HoI γ w7 W.drew sb db s x q k s' := ⟨h.sp.below (Below.drew (Below.refl _ _)) hw, h.st.drew, h.ok, h.inn, h.rd⟩
theorem HoI.next {γ : Gh} {w7 W W' : World} {sb db : Nat} {s : Sp} {x : St} {q : Bool × Sp} {k p : Nat} {s' : Sp} (h : HoI γ w7 W sb db s x q k s') (hp : (pgs s.own)[k]? = some p) (hs : SpV γ W' sb db (s'.read (p : Int)).2.2) (hst : Step γ spS W W') :
    ((s'.read (p : Int)).1 ≠ 0 ∨ x.on p = false ∨ x.b p ≠ (s'.read (p : Int)).2.1 → q = (false, (s'.read (p : Int)).2.2)) ∧ ((s'.read (p : Int)).1 = 0 → x.on p = true → x.b p = (s'.read (p : Int)).2.1 → HoI γ w7 W' sb db s x q (k + 1) (s'.read (p : Int)).2.2) := by
  obtain ⟨hk, hg⟩ := List.getElem?_eq_some_iff.1 hp
  have hd : (pgs s.own).drop k = p :: (pgs s.own).drop (k + 1) := by rw [List.drop_eq_getElem_cons hk, hg]
  obtain ⟨i1, i2, i3, i4⟩ := read_in h.ok (p : Int)
  have hr := h.rd
  rw [hd] at hr
  unfold readAll at hr
  refine ⟨fun hc => ?_, fun h1 h2 h3 => ⟨hs, h.st.trans hst, i2, (h.inn.trans i1).mono (by omega), ?_⟩⟩
  · rw [if_pos hc] at hr; exact hr.symm
  · rw [if_neg (fun hc => by rcases hc with hc | hc | hc; exact hc h1; rw [h2] at hc; cases hc; exact hc h3)] at hr; exact hr
theorem holds_ok {γ : Gh} {W : World} {sb db wb off : Nat} {s : Sp} {x : St} (H : SpV γ W sb db s) (hok : s.Ok) (hbd : s.Bd 2100) (h0 : γ.lim ≤ W.heap.size) (tw : Tag γ W wb 33) (hx : SR W wb off x) (hxb : ∀ p, Go.Sp.bytes (x.b p)) (hxm : Go.Sp.bytes x.mt) :
    Calls Tryz.prog 48 #[.pointer (some ⟨wb, off, none⟩), .pointer (some ⟨sb, 0, none⟩)] W fun e W' => e = .returned (.bool (x.holds s).1) ∧ Hid (SpV γ W' sb db (x.holds s).2 ∧ Step γ spS W W') := by
  obtain ⟨q, hq⟩ : ∃ q, x.holds s = q := ⟨_, rfl⟩
  rw [hq]
  have HQ := Lib.hid hq
  clear hq
  have hmb : Go.Sp.bytes s.r.mt := by
    obtain ⟨cb, rb, ob, kb, HU, HK⟩ := H
    obtain ⟨v, _, hv⟩ := HU.s12
    exact hv.rv.byte
  have hti := txt_beq hmb hxm
  have cm := hx.mt
  have lw := cell_lt' cm
  have ME := Lib.hid (fun (W1 : World) (hb : Below W.heap.size W W1) => (meta_s (H.below hb h0)).mono (R' := fun e w' => ∃ a n c, e = .returned (.slice a n c) ∧ (convert 37 9 (.slice a n c)).run Tryz.prog w' = .ok (.string (txt s.r.mt)) w' ∧ Hid (Below W.heap.size W w')) fun e w' ⟨⟨v, h1, h2⟩, h3⟩ => by
    obtain ⟨a, c, rfl⟩ := h2.rv.len
    exact ⟨a, _, c, h1, conv_rv h2.rv, Lib.hid (Below.up hb h3)⟩)
  have HS := Lib.hid (fun (W1 : World) (hb : Below W.heap.size W W1) => show W1.cell? ⟨wb, off + 2048, none⟩ = some (.string (txt x.mt)) from cells_below hb _ _ cm)
  have HH := Lib.hid H
  have HX := Lib.hid (And.intro h0 (And.intro tw hx))
  generalize txt s.r.mt = A at *
  generalize txt x.mt = B at *
  clear H h0 tw hx
  go_enter Tryz.func48, Tryz.ntmps48
  go_upto_region 1 with fail
  refine wp_region_held_drew (S := (fun W => W.cell? ⟨wb, off + 2048, none⟩ = some (.string B))) (by kernel_rfl) ?_ (fun hHeld => ?_)
  · (with_reducible refine HS.out _ ?_; (repeat (first | with_reducible exact Below.refl _ _ | with_reducible assumption | with_reducible refine Below.drew ?_ | with_reducible refine Below.allocs ?_ _)); done)
  refine wpAnyH_take (i := 0) (oi := { dst := some 11, op := .move (.tmp 1), type := _, pos := _, after := _, guard := none }) (v := ?va1) rfl (by kernel_rfl) (by kernel_rfl) (by kernel_rfl) (fun _ _ _ h => h) (Or.inl ⟨by rfl, ?hya1⟩) (by assumption) ?resta1
  case hya1 => (intro w hSw; (try dsimp only at hSw); go_simp; try with_reducible rfl)
  try simp only [Act.put, List.setIfInBounds_toArray, List.set_cons_zero, List.set_cons_succ]
  refine wpAnyH_take (i := 3) (oi := { dst := some 14, op := .move (.tmp 0), type := _, pos := _, after := _, guard := none }) (v := ?va2) rfl (by kernel_rfl) (by kernel_rfl) (by kernel_rfl) (fun _ _ _ h => h) (Or.inl ⟨by rfl, ?hya2⟩) (by assumption) ?resta2
  case hya2 => (intro w hSw; (try dsimp only at hSw); go_simp; try with_reducible rfl)
  try simp only [Act.put, List.setIfInBounds_toArray, List.set_cons_zero, List.set_cons_succ]
  refine wpAnyH_take (i := 4) (oi := { dst := some 15, op := .nilCheck (.tmp 14), type := _, pos := _, after := _, guard := none }) (v := ?va3) rfl (by kernel_rfl) (by kernel_rfl) (by kernel_rfl) (fun _ _ _ h => h) (Or.inl ⟨by rfl, ?hya3⟩) (by assumption) ?resta3
  case hya3 => (intro w hSw; (try dsimp only at hSw); go_simp; try with_reducible rfl)
  try simp only [Act.put, List.setIfInBounds_toArray, List.set_cons_zero, List.set_cons_succ]
  refine wpAnyH_take (i := 5) (oi := { dst := some 16, op := .fieldAddr 31 (.tmp 15) 2, type := _, pos := _, after := _, guard := none }) (v := ?va4) rfl (by kernel_rfl) (by kernel_rfl) (by kernel_rfl) (fun _ _ _ h => h) (Or.inl ⟨by rfl, ?hya4⟩) (by assumption) ?resta4
  case hya4 => (intro w hSw; (try dsimp only at hSw); go_simp; try with_reducible rfl)
  try simp only [Act.put, List.setIfInBounds_toArray, List.set_cons_zero, List.set_cons_succ]
  refine wpAnyH_take (i := 6) (oi := { dst := some 17, op := .load 9 (.tmp 16), type := _, pos := _, after := _, guard := none }) (v := ?va5) rfl (by kernel_rfl) (by kernel_rfl) (by kernel_rfl) (fun _ _ _ h => h) (Or.inl ⟨by rfl, ?hya5⟩) (by assumption) ?resta5
  case hya5 => (intro w hSw; (try dsimp only at hSw); go_simp; try with_reducible rfl)
  try simp only [Act.put, List.setIfInBounds_toArray, List.set_cons_zero, List.set_cons_succ]
  refine wpAnyH_ready (rs := [1]) (by kernel_rfl) (by simp) ?_
  refine AllReadyH.cons (o := { dst := some 12, op := .call { callee := .value (.func 27), args := #[(.tmp 11)], argTypes := #[27] }, type := _, pos := _, after := _, guard := none }) rfl (fun K hK => ?_) AllReadyH.nil
  go_simp
  go_at_call 27
  refine (ME.out _ ?_).mono ?_
  · (repeat (first | with_reducible exact Below.refl _ _ | with_reducible assumption | with_reducible refine Below.drew ?_ | with_reducible refine Below.allocs ?_ _))
  rintro e w5 ⟨a5, n5, c5, rfl, hcv, hb5⟩
  have hb5' := hb5.out
  refine hK.out _ _ ?_ (fun hHeld => ?_)
  · (with_reducible refine HS.out _ ?_; (repeat (first | with_reducible exact Below.refl _ _ | with_reducible assumption | with_reducible refine Below.drew ?_ | with_reducible refine Below.allocs ?_ _)); done)
  clear hK K
  try simp only [Act.put, List.setIfInBounds_toArray, List.set_cons_zero, List.set_cons_succ]
  refine wpAnyH_ready (rs := [2]) (by kernel_rfl) (by simp) ?_
  refine AllReadyH.cons (o := { dst := some 13, op := .convert 37 9 (.tmp 12), type := _, pos := _, after := _, guard := none }) rfl (fun K hK => ?_) AllReadyH.nil
  go_simp
  refine hK.out _ _ ?_ (fun hHeld => ?_)
  · (with_reducible refine HS.out _ ?_; (repeat (first | with_reducible exact Below.refl _ _ | with_reducible assumption | with_reducible refine Below.drew ?_ | with_reducible refine Below.allocs ?_ _)); done)
  clear hK K
  try simp only [Act.put, List.setIfInBounds_toArray, List.set_cons_zero, List.set_cons_succ]
  refine wpAnyH_take (i := 7) (oi := { dst := some 18, op := .binOp .neq 9 (.tmp 13) (.tmp 17) 9, type := _, pos := _, after := _, guard := none }) (v := ?va6) rfl (by kernel_rfl) (by kernel_rfl) (by kernel_rfl) (fun _ _ _ h => h) (Or.inl ⟨by rfl, ?hya6⟩) (by assumption) ?resta6
  case hya6 => (intro w hSw; (try dsimp only at hSw); go_simp; try with_reducible rfl)
  try simp only [Act.put, List.setIfInBounds_toArray, List.set_cons_zero, List.set_cons_succ]
  refine wpAnyH_done (by kernel_rfl) ?_ _
  by_cases hm : s.r.mt = x.mt
  · have hm1 : decide (s.r.mt = x.mt) = true := decide_eq_true hm
    simp only [hm1]
    have HX5 : Hid (SR w5 wb off x) := Lib.hid (HX.out.2.2.keep HX.out.2.1 (Step.below (S := fun _ => false) hb5.out HX.out.1) rfl)
    go_upto_region 5 with fail
    go_loopw [5, 6] (fun u v wr => ∃ k : Nat, u = .int .i64 (St.cnt x k : Int) ∧ v = .int .i64 (k : Int) ∧ k ≤ 1024 ∧ wr = w5) (fun _ v _ => 1024 - (Go.RowKit.intOf v).toNat)
    case atStart => exact ⟨0, rfl, rfl, Nat.zero_le _, rfl⟩
    case round =>
      obtain ⟨k, rfl, rfl, hk, rfl⟩ := hrel
      by_cases e : k < 1024
      · have j1 : (k : Int) < 1024 := by omega
        have j0 : (0 : Int) ≤ (k : Int) := by omega
        have hk2 : k < 2000001 := by omega
        have hc := HX5.out.on e
        have lc := cell_lt' hc
        have hcl := St.cnt_le x k
        have hcs := Lib.hid (St.cnt_succ x k)
        cases hon : x.on k with
        | true =>
          rw [hon] at hc hcs
          generalize St.cnt x k = y at *
          go_wp2_with fail
          exact ⟨⟨k + 1, by rw [hcs.out]; rfl, rfl, by omega, by trivial⟩, measT e⟩
        | false =>
          rw [hon] at hc hcs
          generalize St.cnt x k = y at *
          go_wp2_with fail
          exact ⟨⟨k + 1, by rw [hcs.out]; rfl, rfl, by omega, by trivial⟩, measT e⟩
      · have ek : k = 1024 := by omega
        subst ek
        have j1 : ¬ ((1024 : Nat) : Int) < 1024 := by omega
        have hcl := St.cnt_le x 1024
        have h05 : γ.lim ≤ wr.heap.size := Nat.le_trans HX.out.1 hb5.out.size
        obtain ⟨L, hL⟩ : ∃ L, (pgs s.own).length = L := ⟨_, rfl⟩
        have PG := (pages_s (HH.out.below hb5.out HX.out.1) h05).mono (R' := fun e w' => ∃ a c, e = .returned (.slice a L c) ∧ Hid (NR γ w' (.slice a L c) (pgs s.own) ∧ Below W.heap.size W w')) fun e w' ⟨⟨v, h1, h2⟩, h3⟩ => by
          obtain ⟨a, c, rfl⟩ := h2.shape
          exact ⟨a, c, by rw [h1, hL], Lib.hid ⟨by rw [← hL]; exact h2, Below.up hb5.out h3⟩⟩
        have hLl : L ≤ 1024 := by
          have := List.length_filter_le (fun p => decide (0 < s.own p)) (List.range 1024)
          rw [← hL]; simpa [pgs] using this
        obtain ⟨y, hy⟩ : ∃ y, St.cnt x 1024 = y := ⟨_, rfl⟩
        simp only [hy]
        rw [hy] at hcl
        have HL := Lib.hid hL
        have HY : Hid (x.count = y) := Lib.hid hy
        clear hL hy h05 hb5'
        go_upto_region 10 with (go_at_call 15; refine PG.mono ?_; rintro e w7 ⟨a7, c7, rfl, hq7⟩)
        clear PG
        have HNR := Lib.hid hq7.out.1
        have HW7 := Lib.hid hq7.out.2
        have HX7 : Hid (SR w7 wb off x ∧ Tag γ w7 wb 33) := Lib.hid ⟨HX.out.2.2.keep HX.out.2.1 (Step.below (S := fun _ => false) hq7.out.2 HX.out.1) rfl, (Step.below (S := fun _ => false) hq7.out.2 HX.out.1).tg _ _ (by decide) lw HX.out.2.1⟩
        have HI0 : SpV γ w7 sb db s := HH.out.below hq7.out.2 HX.out.1
        by_cases hl : L = y
        · subst hl
          have hq2 : readAll x (pgs s.own) s = q := by rw [← HQ.out]; unfold St.holds; rw [if_neg (fun h => h hm), if_neg (fun h => h (HL.out.trans HY.out.symm))]
          have HI0 : Hid (HoI γ w7 w7 sb db s x q 0 s) := Lib.hid ⟨HI0, Step.refl _ _ _, hok, Ca.In.refl _ _, hq2⟩
          clear hq2
          go_upto_region 13 with fail
          go_loopw [8] (fun u wr => ∃ k : Nat, u = .int .i64 (k : Int) ∧ k ≤ L ∧ Hid (∃ s', HoI γ w7 wr sb db s x q k s')) (fun u _ => L - (Go.RowKit.intOf u).toNat)
          case atStart => exact ⟨0, rfl, Nat.zero_le _, Lib.hid ⟨_, HI0.out⟩⟩
          case round =>
            obtain ⟨k, rfl, hk, hII⟩ := hrel
            obtain ⟨s', hI⟩ := hII.out
            have hI := Lib.hid hI
            by_cases e : k < L
            · have j1 : (k : Int) < (L : Int) := by omega
              have j0 : (0 : Int) ≤ (k : Int) := by omega
              have hk2 : k < 2000001 := by omega
              obtain ⟨pg, hpg⟩ : ∃ pg, (pgs s.own)[k]? = some pg := ⟨_, List.getElem?_eq_getElem (by rw [HL.out]; exact e)⟩
              have hp := (mem_pgs.1 (List.mem_of_getElem? hpg)).1
              obtain ⟨a', c', e1, hc7, hg7⟩ := HNR.out.keep hI.out.st rfl
              injection e1 with e1 e2 e3
              subst e1 e3
              obtain ⟨g, o, rfl, lg, tg, hcell⟩ := hg7 (by rw [HL.out]; omega)
              have cp := hcell k pg hpg
              have j2 : ¬ (pg : Int) < 0 := by omega
              have j3 : ¬ (1024 : Int) ≤ (pg : Int) := by omega
              have j4 : (pg : Int) < 1024 := by omega
              have j5 : (0 : Int) ≤ (pg : Int) := by omega
              have hw0 : γ.lim ≤ wr.heap.size := Nat.le_trans HX.out.1 (Nat.le_trans HW7.out.size hI.out.st.size)
              have RD := (read_s hI.out.sp hI.out.ok (bd_up hbd hI.out.inn (by omega)) hw0 (pg : Int)).mono (R' := fun e w' => ∃ a n c, e = .returned (.tuple #[.slice a n c, .int .i64 ((s'.read (pg : Int)).1 : Nat)]) ∧ Hid (SpV γ w' sb db (s'.read (pg : Int)).2.2 ∧ Step γ spS wr w' ∧ RV w' (.slice a n c) (s'.read (pg : Int)).2.1)) fun e w' ⟨a, n, c, h1, h2⟩ => ⟨a, n, c, h1, Lib.hid (h2.out.now hw0)⟩
              have HPG := Lib.hid hpg
              have HTG := Lib.hid tg
              clear hcell hg7 hpg e2 hII tg hc7
              go_upto_region 18 with (go_at_call 32; refine RD.mono ?_; rintro e w8 ⟨a8, n8, c8, rfl, hq8⟩)
              have HN := Lib.hid (hI.out.next HPG.out hq8.out.1 hq8.out.2.1)
              have cp8 := cell_keep hq8.out.2.1 HTG.out rfl cp
              have s78 := hI.out.st.trans hq8.out.2.1
              have x8 := HX7.out.1.keep HX7.out.2 s78 rfl
              have con := x8.on hp
              have cb := x8.b hp
              have hti := txt_beq (hxb pg) hq8.out.2.2.byte
              have HS8 : Hid (∀ W, Below w8.heap.size w8 W → W.cell? ⟨g, o + k, none⟩ = some (.int .i64 (pg : Int)) ∧ W.cell? ⟨wb, off + pg, none⟩ = some (.bool (x.on pg)) ∧ W.cell? ⟨wb, off + 1024 + pg, none⟩ = some (.string (txt (x.b pg))) ∧ (convert 37 9 (.slice a8 n8 c8)).run Tryz.prog W = .ok (.string (txt (s'.read (pg : Int)).2.1)) W) := Lib.hid fun W hb => ⟨cells_below hb _ _ cp8, cells_below hb _ _ con, cells_below hb _ _ cb, conv_rv (hq8.out.2.2.keep hb)⟩
              obtain ⟨bt, hbt⟩ : ∃ bt, decide (x.b pg = (s'.read (pg : Int)).2.1) = bt := ⟨_, rfl⟩
              rw [hbt] at hti
              have HBT := Lib.hid hbt
              generalize txt (x.b pg) = T at *
              generalize txt (s'.read (pg : Int)).2.1 = U at *
              obtain ⟨ON, hon⟩ : ∃ ON, x.on pg = ON := ⟨_, rfl⟩
              rw [hon] at con HS8
              have HON := Lib.hid hon
              clear hon
              generalize (s'.read (pg : Int)).1 = m at *
              generalize (s'.read (pg : Int)).2.2 = s2 at *
              generalize (s'.read (pg : Int)).2.1 = b2 at *
              have HZ := Lib.hid (And.intro j2 (And.intro j3 e))
              clear cp cp8 s78 x8 con cb hbt RD j2 j3
              by_cases hm0 : m = 0
              · subst hm0
                cases ON with
                | false =>
                  refine wp_region_held_drew (S := (fun W => W.cell? ⟨g, o + k, none⟩ = some (.int .i64 (pg : Int)) ∧ W.cell? ⟨wb, off + pg, none⟩ = some (.bool false) ∧ W.cell? ⟨wb, off + 1024 + pg, none⟩ = some (.string T) ∧ (convert 37 9 (.slice a8 n8 c8)).run Tryz.prog W = .ok (.string U) W)) (by kernel_rfl) ?_ (fun hHeld => ?_)
                  · (with_reducible refine HS8.out _ ?_; (repeat (first | with_reducible exact Below.refl _ _ | with_reducible assumption | with_reducible refine Below.drew ?_ | with_reducible refine Below.allocs ?_ _)); done)
                  refine wpAnyH_take (i := 0) (oi := { dst := some 64, op := .move (.tmp 10), type := _, pos := _, after := _, guard := none }) (v := ?vc1) rfl (by kernel_rfl) (by kernel_rfl) (by kernel_rfl) (fun _ _ _ h => h) (Or.inl ⟨by rfl, ?hyc1⟩) (by assumption) ?restc1
                  case hyc1 => (intro w hSw; (try dsimp only at hSw); go_simp; try with_reducible rfl)
                  try simp only [Act.put, List.setIfInBounds_toArray, List.set_cons_zero, List.set_cons_succ]
                  refine wpAnyH_take (i := 1) (oi := { dst := some 65, op := .binOp .neq 35 (.tmp 64) (.const (.int .i64 0)) 35, type := _, pos := _, after := _, guard := none }) (v := ?vc2) rfl (by kernel_rfl) (by kernel_rfl) (by kernel_rfl) (fun _ _ _ h => h) (Or.inl ⟨by rfl, ?hyc2⟩) (by assumption) ?restc2
                  case hyc2 => (intro w hSw; (try dsimp only at hSw); go_simp; try with_reducible rfl)
                  try simp only [Act.put, List.setIfInBounds_toArray, List.set_cons_zero, List.set_cons_succ]
                  refine wpAnyH_take (i := 2) (oi := { dst := some 66, op := .move (.tmp 65), type := _, pos := _, after := _, guard := none }) (v := ?vc3) rfl (by kernel_rfl) (by kernel_rfl) (by kernel_rfl) (fun _ _ _ h => h) (Or.inl ⟨by rfl, ?hyc3⟩) (by assumption) ?restc3
                  case hyc3 => (intro w hSw; (try dsimp only at hSw); go_simp; try with_reducible rfl)
                  try simp only [Act.put, List.setIfInBounds_toArray, List.set_cons_zero, List.set_cons_succ]
                  refine wpAnyH_take (i := 3) (oi := { dst := some 67, op := .move (.tmp 0), type := _, pos := _, after := _, guard := some (2, false) }) (v := ?vc4) rfl (by kernel_rfl) (by kernel_rfl) (by kernel_rfl) (fun _ _ _ h => h) (Or.inl ⟨by rfl, ?hyc4⟩) (by assumption) ?restc4
                  case hyc4 => (intro w hSw; (try dsimp only at hSw); go_simp; try with_reducible rfl)
                  try simp only [Act.put, List.setIfInBounds_toArray, List.set_cons_zero, List.set_cons_succ]
                  refine wpAnyH_take (i := 4) (oi := { dst := some 68, op := .move (.tmp 7), type := _, pos := _, after := _, guard := some (2, false) }) (v := ?vc5) rfl (by kernel_rfl) (by kernel_rfl) (by kernel_rfl) (fun _ _ _ h => h) (Or.inl ⟨by rfl, ?hyc5⟩) (by assumption) ?restc5
                  case hyc5 => (intro w hSw; (try dsimp only at hSw); go_simp; try with_reducible rfl)
                  try simp only [Act.put, List.setIfInBounds_toArray, List.set_cons_zero, List.set_cons_succ]
                  refine wpAnyH_take (i := 5) (oi := { dst := some 69, op := .move (.tmp 8), type := _, pos := _, after := _, guard := some (2, false) }) (v := ?vc6) rfl (by kernel_rfl) (by kernel_rfl) (by kernel_rfl) (fun _ _ _ h => h) (Or.inl ⟨by rfl, ?hyc6⟩) (by assumption) ?restc6
                  case hyc6 => (intro w hSw; (try dsimp only at hSw); go_simp; try with_reducible rfl)
                  try simp only [Act.put, List.setIfInBounds_toArray, List.set_cons_zero, List.set_cons_succ]
                  refine wpAnyH_take (i := 6) (oi := { dst := some 70, op := .indexAddr 42 (.tmp 68) (.tmp 69), type := _, pos := _, after := _, guard := some (2, false) }) (v := ?vc7) rfl (by kernel_rfl) (by kernel_rfl) (by kernel_rfl) (fun _ _ _ h => h) (Or.inl ⟨by rfl, ?hyc7⟩) (by assumption) ?restc7
                  case hyc7 => (intro w hSw; (try dsimp only at hSw); go_simp; try with_reducible rfl)
                  try simp only [Act.put, List.setIfInBounds_toArray, List.set_cons_zero, List.set_cons_succ]
                  refine wpAnyH_take (i := 7) (oi := { dst := some 71, op := .load 3 (.tmp 70), type := _, pos := _, after := _, guard := some (2, false) }) (v := ?vc8) rfl (by kernel_rfl) (by kernel_rfl) (by kernel_rfl) (fun _ _ _ h => h) (Or.inl ⟨by rfl, ?hyc8⟩) (by assumption) ?restc8
                  case hyc8 => (intro w hSw; (try dsimp only at hSw); go_simp; try with_reducible rfl)
                  try simp only [Act.put, List.setIfInBounds_toArray, List.set_cons_zero, List.set_cons_succ]
                  refine wpAnyH_take (i := 8) (oi := { dst := some 72, op := .nilCheck (.tmp 67), type := _, pos := _, after := _, guard := some (2, false) }) (v := ?vc9) rfl (by kernel_rfl) (by kernel_rfl) (by kernel_rfl) (fun _ _ _ h => h) (Or.inl ⟨by rfl, ?hyc9⟩) (by assumption) ?restc9
                  case hyc9 => (intro w hSw; (try dsimp only at hSw); go_simp; try with_reducible rfl)
                  try simp only [Act.put, List.setIfInBounds_toArray, List.set_cons_zero, List.set_cons_succ]
                  refine wpAnyH_take (i := 9) (oi := { dst := some 73, op := .fieldAddr 31 (.tmp 72) 0, type := _, pos := _, after := _, guard := some (2, false) }) (v := ?vc10) rfl (by kernel_rfl) (by kernel_rfl) (by kernel_rfl) (fun _ _ _ h => h) (Or.inl ⟨by rfl, ?hyc10⟩) (by assumption) ?restc10
                  case hyc10 => (intro w hSw; (try dsimp only at hSw); go_simp; try with_reducible rfl)
                  try simp only [Act.put, List.setIfInBounds_toArray, List.set_cons_zero, List.set_cons_succ]
                  refine wpAnyH_take (i := 10) (oi := { dst := some 74, op := .indexAddr 28 (.tmp 73) (.tmp 71), type := _, pos := _, after := _, guard := some (2, false) }) (v := ?vc11) rfl (by kernel_rfl) (by kernel_rfl) (by kernel_rfl) (fun _ _ _ h => h) (Or.inl ⟨by rfl, ?hyc11⟩) (by assumption) ?restc11
                  case hyc11 => (intro w hSw; (try dsimp only at hSw); go_simp; try with_reducible rfl)
                  try simp only [Act.put, List.setIfInBounds_toArray, List.set_cons_zero, List.set_cons_succ]
                  refine wpAnyH_take (i := 11) (oi := { dst := some 75, op := .load 4 (.tmp 74), type := _, pos := _, after := _, guard := some (2, false) }) (v := ?vc12) rfl (by kernel_rfl) (by kernel_rfl) (by kernel_rfl) (fun _ _ _ h => h) (Or.inl ⟨by rfl, ?hyc12⟩) (by assumption) ?restc12
                  case hyc12 => (intro w hSw; (try dsimp only at hSw); go_simp; try with_reducible rfl)
                  try simp only [Act.put, List.setIfInBounds_toArray, List.set_cons_zero, List.set_cons_succ]
                  refine wpAnyH_take (i := 12) (oi := { dst := some 76, op := .unOp .not 4 (.tmp 75), type := _, pos := _, after := _, guard := some (2, false) }) (v := ?vc13) rfl (by kernel_rfl) (by kernel_rfl) (by kernel_rfl) (fun _ _ _ h => h) (Or.inl ⟨by rfl, ?hyc13⟩) (by assumption) ?restc13
                  case hyc13 => (intro w hSw; (try dsimp only at hSw); go_simp; try with_reducible rfl)
                  try simp only [Act.put, List.setIfInBounds_toArray, List.set_cons_zero, List.set_cons_succ]
                  refine wpAnyH_take (i := 13) (oi := { dst := some 77, op := .pick (.tmp 66) (.const (.bool true)) (.tmp 76), type := _, pos := _, after := _, guard := none }) (v := ?vc14) rfl (by kernel_rfl) (by kernel_rfl) (by kernel_rfl) (fun _ _ _ h => h) (Or.inl ⟨by rfl, ?hyc14⟩) (by assumption) ?restc14
                  case hyc14 => (intro w hSw; (try dsimp only at hSw); go_simp; try with_reducible rfl)
                  try simp only [Act.put, List.setIfInBounds_toArray, List.set_cons_zero, List.set_cons_succ]
                  refine wpAnyH_take (i := 14) (oi := { dst := some 78, op := .move (.tmp 77), type := _, pos := _, after := _, guard := none }) (v := ?vc15) rfl (by kernel_rfl) (by kernel_rfl) (by kernel_rfl) (fun _ _ _ h => h) (Or.inl ⟨by rfl, ?hyc15⟩) (by assumption) ?restc15
                  case hyc15 => (intro w hSw; (try dsimp only at hSw); go_simp; try with_reducible rfl)
                  try simp only [Act.put, List.setIfInBounds_toArray, List.set_cons_zero, List.set_cons_succ]
                  refine wpAnyH_take (i := 15) (oi := { dst := some 79, op := .move (.tmp 0), type := _, pos := _, after := _, guard := some (14, false) }) (v := undef) rfl (by kernel_rfl) (by kernel_rfl) (by kernel_rfl) (fun _ _ _ h => h) (Or.inr ⟨by first | kernel_rfl | rfl, rfl⟩) (by assumption) ?_
                  try simp only [Act.put, List.setIfInBounds_toArray, List.set_cons_zero, List.set_cons_succ]
                  refine wpAnyH_take (i := 16) (oi := { dst := some 80, op := .move (.tmp 7), type := _, pos := _, after := _, guard := some (14, false) }) (v := undef) rfl (by kernel_rfl) (by kernel_rfl) (by kernel_rfl) (fun _ _ _ h => h) (Or.inr ⟨by first | kernel_rfl | rfl, rfl⟩) (by assumption) ?_
                  try simp only [Act.put, List.setIfInBounds_toArray, List.set_cons_zero, List.set_cons_succ]
                  refine wpAnyH_take (i := 17) (oi := { dst := some 81, op := .move (.tmp 8), type := _, pos := _, after := _, guard := some (14, false) }) (v := undef) rfl (by kernel_rfl) (by kernel_rfl) (by kernel_rfl) (fun _ _ _ h => h) (Or.inr ⟨by first | kernel_rfl | rfl, rfl⟩) (by assumption) ?_
                  try simp only [Act.put, List.setIfInBounds_toArray, List.set_cons_zero, List.set_cons_succ]
                  refine wpAnyH_take (i := 18) (oi := { dst := some 82, op := .indexAddr 42 (.tmp 80) (.tmp 81), type := _, pos := _, after := _, guard := some (14, false) }) (v := undef) rfl (by kernel_rfl) (by kernel_rfl) (by kernel_rfl) (fun _ _ _ h => h) (Or.inr ⟨by first | kernel_rfl | rfl, rfl⟩) (by assumption) ?_
                  try simp only [Act.put, List.setIfInBounds_toArray, List.set_cons_zero, List.set_cons_succ]
                  refine wpAnyH_take (i := 19) (oi := { dst := some 83, op := .load 3 (.tmp 82), type := _, pos := _, after := _, guard := some (14, false) }) (v := undef) rfl (by kernel_rfl) (by kernel_rfl) (by kernel_rfl) (fun _ _ _ h => h) (Or.inr ⟨by first | kernel_rfl | rfl, rfl⟩) (by assumption) ?_
                  try simp only [Act.put, List.setIfInBounds_toArray, List.set_cons_zero, List.set_cons_succ]
                  refine wpAnyH_take (i := 20) (oi := { dst := some 84, op := .nilCheck (.tmp 79), type := _, pos := _, after := _, guard := some (14, false) }) (v := undef) rfl (by kernel_rfl) (by kernel_rfl) (by kernel_rfl) (fun _ _ _ h => h) (Or.inr ⟨by first | kernel_rfl | rfl, rfl⟩) (by assumption) ?_
                  try simp only [Act.put, List.setIfInBounds_toArray, List.set_cons_zero, List.set_cons_succ]
                  refine wpAnyH_take (i := 21) (oi := { dst := some 85, op := .fieldAddr 31 (.tmp 84) 1, type := _, pos := _, after := _, guard := some (14, false) }) (v := undef) rfl (by kernel_rfl) (by kernel_rfl) (by kernel_rfl) (fun _ _ _ h => h) (Or.inr ⟨by first | kernel_rfl | rfl, rfl⟩) (by assumption) ?_
                  try simp only [Act.put, List.setIfInBounds_toArray, List.set_cons_zero, List.set_cons_succ]
                  refine wpAnyH_take (i := 22) (oi := { dst := some 86, op := .indexAddr 29 (.tmp 85) (.tmp 83), type := _, pos := _, after := _, guard := some (14, false) }) (v := undef) rfl (by kernel_rfl) (by kernel_rfl) (by kernel_rfl) (fun _ _ _ h => h) (Or.inr ⟨by first | kernel_rfl | rfl, rfl⟩) (by assumption) ?_
                  try simp only [Act.put, List.setIfInBounds_toArray, List.set_cons_zero, List.set_cons_succ]
                  refine wpAnyH_take (i := 23) (oi := { dst := some 87, op := .load 9 (.tmp 86), type := _, pos := _, after := _, guard := some (14, false) }) (v := undef) rfl (by kernel_rfl) (by kernel_rfl) (by kernel_rfl) (fun _ _ _ h => h) (Or.inr ⟨by first | kernel_rfl | rfl, rfl⟩) (by assumption) ?_
                  try simp only [Act.put, List.setIfInBounds_toArray, List.set_cons_zero, List.set_cons_succ]
                  refine wpAnyH_take (i := 24) (oi := { dst := some 88, op := .move (.tmp 9), type := _, pos := _, after := _, guard := some (14, false) }) (v := undef) rfl (by kernel_rfl) (by kernel_rfl) (by kernel_rfl) (fun _ _ _ h => h) (Or.inr ⟨by first | kernel_rfl | rfl, rfl⟩) (by assumption) ?_
                  try simp only [Act.put, List.setIfInBounds_toArray, List.set_cons_zero, List.set_cons_succ]
                  refine wpAnyH_take (i := 25) (oi := { dst := some 89, op := .convert 37 9 (.tmp 88), type := _, pos := _, after := _, guard := some (14, false) }) (v := undef) rfl (by kernel_rfl) (by kernel_rfl) (by kernel_rfl) (fun _ _ _ h => h) (Or.inr ⟨by first | kernel_rfl | rfl, rfl⟩) (by assumption) ?_
                  try simp only [Act.put, List.setIfInBounds_toArray, List.set_cons_zero, List.set_cons_succ]
                  refine wpAnyH_take (i := 26) (oi := { dst := some 90, op := .binOp .neq 9 (.tmp 87) (.tmp 89) 9, type := _, pos := _, after := _, guard := some (14, false) }) (v := undef) rfl (by kernel_rfl) (by kernel_rfl) (by kernel_rfl) (fun _ _ _ h => h) (Or.inr ⟨by first | kernel_rfl | rfl, rfl⟩) (by assumption) ?_
                  try simp only [Act.put, List.setIfInBounds_toArray, List.set_cons_zero, List.set_cons_succ]
                  refine wpAnyH_take (i := 27) (oi := { dst := some 91, op := .pick (.tmp 78) (.const (.bool true)) (.tmp 90), type := _, pos := _, after := _, guard := none }) (v := ?vc16) rfl (by kernel_rfl) (by kernel_rfl) (by kernel_rfl) (fun _ _ _ h => h) (Or.inl ⟨by rfl, ?hyc16⟩) (by assumption) ?restc16
                  case hyc16 => (intro w hSw; (try dsimp only at hSw); go_simp; try with_reducible rfl)
                  try simp only [Act.put, List.setIfInBounds_toArray, List.set_cons_zero, List.set_cons_succ]
                  refine wpAnyH_done (by kernel_rfl) ?_ _
                  have HF := Lib.hid (And.intro (HN.out.1 (.inr (.inl HON.out))) (And.intro (hq8.out.1) hq8.out.2.1))
                  go_wp2_with fail
                  go_ret
                  have e := HF.out.1
                  exact ⟨by rw [e]; rfl, Lib.hid ⟨by rw [e]; exact HF.out.2.1.below (Below.drew (Below.refl _ _)) (Nat.le_trans HX.out.1 (Nat.le_trans HW7.out.size (Nat.le_trans hI.out.st.size HF.out.2.2.size))), (((Step.below HW7.out HX.out.1).trans hI.out.st).trans HF.out.2.2).drew⟩⟩
                | true =>
                  cases bt with
                  | false =>
                    refine wp_region_held_drew (S := (fun W => W.cell? ⟨g, o + k, none⟩ = some (.int .i64 (pg : Int)) ∧ W.cell? ⟨wb, off + pg, none⟩ = some (.bool true) ∧ W.cell? ⟨wb, off + 1024 + pg, none⟩ = some (.string T) ∧ (convert 37 9 (.slice a8 n8 c8)).run Tryz.prog W = .ok (.string U) W)) (by kernel_rfl) ?_ (fun hHeld => ?_)
                    · (with_reducible refine HS8.out _ ?_; (repeat (first | with_reducible exact Below.refl _ _ | with_reducible assumption | with_reducible refine Below.drew ?_ | with_reducible refine Below.allocs ?_ _)); done)
                    refine wpAnyH_take (i := 0) (oi := { dst := some 64, op := .move (.tmp 10), type := _, pos := _, after := _, guard := none }) (v := ?vd1) rfl (by kernel_rfl) (by kernel_rfl) (by kernel_rfl) (fun _ _ _ h => h) (Or.inl ⟨by rfl, ?hyd1⟩) (by assumption) ?restd1
                    case hyd1 => (intro w hSw; (try dsimp only at hSw); go_simp; try with_reducible rfl)
                    try simp only [Act.put, List.setIfInBounds_toArray, List.set_cons_zero, List.set_cons_succ]
                    refine wpAnyH_take (i := 1) (oi := { dst := some 65, op := .binOp .neq 35 (.tmp 64) (.const (.int .i64 0)) 35, type := _, pos := _, after := _, guard := none }) (v := ?vd2) rfl (by kernel_rfl) (by kernel_rfl) (by kernel_rfl) (fun _ _ _ h => h) (Or.inl ⟨by rfl, ?hyd2⟩) (by assumption) ?restd2
                    case hyd2 => (intro w hSw; (try dsimp only at hSw); go_simp; try with_reducible rfl)
                    try simp only [Act.put, List.setIfInBounds_toArray, List.set_cons_zero, List.set_cons_succ]
                    refine wpAnyH_take (i := 2) (oi := { dst := some 66, op := .move (.tmp 65), type := _, pos := _, after := _, guard := none }) (v := ?vd3) rfl (by kernel_rfl) (by kernel_rfl) (by kernel_rfl) (fun _ _ _ h => h) (Or.inl ⟨by rfl, ?hyd3⟩) (by assumption) ?restd3
                    case hyd3 => (intro w hSw; (try dsimp only at hSw); go_simp; try with_reducible rfl)
                    try simp only [Act.put, List.setIfInBounds_toArray, List.set_cons_zero, List.set_cons_succ]
                    refine wpAnyH_take (i := 3) (oi := { dst := some 67, op := .move (.tmp 0), type := _, pos := _, after := _, guard := some (2, false) }) (v := ?vd4) rfl (by kernel_rfl) (by kernel_rfl) (by kernel_rfl) (fun _ _ _ h => h) (Or.inl ⟨by rfl, ?hyd4⟩) (by assumption) ?restd4
                    case hyd4 => (intro w hSw; (try dsimp only at hSw); go_simp; try with_reducible rfl)
                    try simp only [Act.put, List.setIfInBounds_toArray, List.set_cons_zero, List.set_cons_succ]
                    refine wpAnyH_take (i := 4) (oi := { dst := some 68, op := .move (.tmp 7), type := _, pos := _, after := _, guard := some (2, false) }) (v := ?vd5) rfl (by kernel_rfl) (by kernel_rfl) (by kernel_rfl) (fun _ _ _ h => h) (Or.inl ⟨by rfl, ?hyd5⟩) (by assumption) ?restd5
                    case hyd5 => (intro w hSw; (try dsimp only at hSw); go_simp; try with_reducible rfl)
                    try simp only [Act.put, List.setIfInBounds_toArray, List.set_cons_zero, List.set_cons_succ]
                    refine wpAnyH_take (i := 5) (oi := { dst := some 69, op := .move (.tmp 8), type := _, pos := _, after := _, guard := some (2, false) }) (v := ?vd6) rfl (by kernel_rfl) (by kernel_rfl) (by kernel_rfl) (fun _ _ _ h => h) (Or.inl ⟨by rfl, ?hyd6⟩) (by assumption) ?restd6
                    case hyd6 => (intro w hSw; (try dsimp only at hSw); go_simp; try with_reducible rfl)
                    try simp only [Act.put, List.setIfInBounds_toArray, List.set_cons_zero, List.set_cons_succ]
                    refine wpAnyH_take (i := 6) (oi := { dst := some 70, op := .indexAddr 42 (.tmp 68) (.tmp 69), type := _, pos := _, after := _, guard := some (2, false) }) (v := ?vd7) rfl (by kernel_rfl) (by kernel_rfl) (by kernel_rfl) (fun _ _ _ h => h) (Or.inl ⟨by rfl, ?hyd7⟩) (by assumption) ?restd7
                    case hyd7 => (intro w hSw; (try dsimp only at hSw); go_simp; try with_reducible rfl)
                    try simp only [Act.put, List.setIfInBounds_toArray, List.set_cons_zero, List.set_cons_succ]
                    refine wpAnyH_take (i := 7) (oi := { dst := some 71, op := .load 3 (.tmp 70), type := _, pos := _, after := _, guard := some (2, false) }) (v := ?vd8) rfl (by kernel_rfl) (by kernel_rfl) (by kernel_rfl) (fun _ _ _ h => h) (Or.inl ⟨by rfl, ?hyd8⟩) (by assumption) ?restd8
                    case hyd8 => (intro w hSw; (try dsimp only at hSw); go_simp; try with_reducible rfl)
                    try simp only [Act.put, List.setIfInBounds_toArray, List.set_cons_zero, List.set_cons_succ]
                    refine wpAnyH_take (i := 8) (oi := { dst := some 72, op := .nilCheck (.tmp 67), type := _, pos := _, after := _, guard := some (2, false) }) (v := ?vd9) rfl (by kernel_rfl) (by kernel_rfl) (by kernel_rfl) (fun _ _ _ h => h) (Or.inl ⟨by rfl, ?hyd9⟩) (by assumption) ?restd9
                    case hyd9 => (intro w hSw; (try dsimp only at hSw); go_simp; try with_reducible rfl)
                    try simp only [Act.put, List.setIfInBounds_toArray, List.set_cons_zero, List.set_cons_succ]
                    refine wpAnyH_take (i := 9) (oi := { dst := some 73, op := .fieldAddr 31 (.tmp 72) 0, type := _, pos := _, after := _, guard := some (2, false) }) (v := ?vd10) rfl (by kernel_rfl) (by kernel_rfl) (by kernel_rfl) (fun _ _ _ h => h) (Or.inl ⟨by rfl, ?hyd10⟩) (by assumption) ?restd10
                    case hyd10 => (intro w hSw; (try dsimp only at hSw); go_simp; try with_reducible rfl)
                    try simp only [Act.put, List.setIfInBounds_toArray, List.set_cons_zero, List.set_cons_succ]
                    refine wpAnyH_take (i := 10) (oi := { dst := some 74, op := .indexAddr 28 (.tmp 73) (.tmp 71), type := _, pos := _, after := _, guard := some (2, false) }) (v := ?vd11) rfl (by kernel_rfl) (by kernel_rfl) (by kernel_rfl) (fun _ _ _ h => h) (Or.inl ⟨by rfl, ?hyd11⟩) (by assumption) ?restd11
                    case hyd11 => (intro w hSw; (try dsimp only at hSw); go_simp; try with_reducible rfl)
                    try simp only [Act.put, List.setIfInBounds_toArray, List.set_cons_zero, List.set_cons_succ]
                    refine wpAnyH_take (i := 11) (oi := { dst := some 75, op := .load 4 (.tmp 74), type := _, pos := _, after := _, guard := some (2, false) }) (v := ?vd12) rfl (by kernel_rfl) (by kernel_rfl) (by kernel_rfl) (fun _ _ _ h => h) (Or.inl ⟨by rfl, ?hyd12⟩) (by assumption) ?restd12
                    case hyd12 => (intro w hSw; (try dsimp only at hSw); go_simp; try with_reducible rfl)
                    try simp only [Act.put, List.setIfInBounds_toArray, List.set_cons_zero, List.set_cons_succ]
                    refine wpAnyH_take (i := 12) (oi := { dst := some 76, op := .unOp .not 4 (.tmp 75), type := _, pos := _, after := _, guard := some (2, false) }) (v := ?vd13) rfl (by kernel_rfl) (by kernel_rfl) (by kernel_rfl) (fun _ _ _ h => h) (Or.inl ⟨by rfl, ?hyd13⟩) (by assumption) ?restd13
                    case hyd13 => (intro w hSw; (try dsimp only at hSw); go_simp; try with_reducible rfl)
                    try simp only [Act.put, List.setIfInBounds_toArray, List.set_cons_zero, List.set_cons_succ]
                    refine wpAnyH_take (i := 13) (oi := { dst := some 77, op := .pick (.tmp 66) (.const (.bool true)) (.tmp 76), type := _, pos := _, after := _, guard := none }) (v := ?vd14) rfl (by kernel_rfl) (by kernel_rfl) (by kernel_rfl) (fun _ _ _ h => h) (Or.inl ⟨by rfl, ?hyd14⟩) (by assumption) ?restd14
                    case hyd14 => (intro w hSw; (try dsimp only at hSw); go_simp; try with_reducible rfl)
                    try simp only [Act.put, List.setIfInBounds_toArray, List.set_cons_zero, List.set_cons_succ]
                    refine wpAnyH_take (i := 14) (oi := { dst := some 78, op := .move (.tmp 77), type := _, pos := _, after := _, guard := none }) (v := ?vd15) rfl (by kernel_rfl) (by kernel_rfl) (by kernel_rfl) (fun _ _ _ h => h) (Or.inl ⟨by rfl, ?hyd15⟩) (by assumption) ?restd15
                    case hyd15 => (intro w hSw; (try dsimp only at hSw); go_simp; try with_reducible rfl)
                    try simp only [Act.put, List.setIfInBounds_toArray, List.set_cons_zero, List.set_cons_succ]
                    refine wpAnyH_take (i := 15) (oi := { dst := some 79, op := .move (.tmp 0), type := _, pos := _, after := _, guard := some (14, false) }) (v := ?vd16) rfl (by kernel_rfl) (by kernel_rfl) (by kernel_rfl) (fun _ _ _ h => h) (Or.inl ⟨by rfl, ?hyd16⟩) (by assumption) ?restd16
                    case hyd16 => (intro w hSw; (try dsimp only at hSw); go_simp; try with_reducible rfl)
                    try simp only [Act.put, List.setIfInBounds_toArray, List.set_cons_zero, List.set_cons_succ]
                    refine wpAnyH_take (i := 16) (oi := { dst := some 80, op := .move (.tmp 7), type := _, pos := _, after := _, guard := some (14, false) }) (v := ?vd17) rfl (by kernel_rfl) (by kernel_rfl) (by kernel_rfl) (fun _ _ _ h => h) (Or.inl ⟨by rfl, ?hyd17⟩) (by assumption) ?restd17
                    case hyd17 => (intro w hSw; (try dsimp only at hSw); go_simp; try with_reducible rfl)
                    try simp only [Act.put, List.setIfInBounds_toArray, List.set_cons_zero, List.set_cons_succ]
                    refine wpAnyH_take (i := 17) (oi := { dst := some 81, op := .move (.tmp 8), type := _, pos := _, after := _, guard := some (14, false) }) (v := ?vd18) rfl (by kernel_rfl) (by kernel_rfl) (by kernel_rfl) (fun _ _ _ h => h) (Or.inl ⟨by rfl, ?hyd18⟩) (by assumption) ?restd18
                    case hyd18 => (intro w hSw; (try dsimp only at hSw); go_simp; try with_reducible rfl)
                    try simp only [Act.put, List.setIfInBounds_toArray, List.set_cons_zero, List.set_cons_succ]
                    refine wpAnyH_take (i := 18) (oi := { dst := some 82, op := .indexAddr 42 (.tmp 80) (.tmp 81), type := _, pos := _, after := _, guard := some (14, false) }) (v := ?vd19) rfl (by kernel_rfl) (by kernel_rfl) (by kernel_rfl) (fun _ _ _ h => h) (Or.inl ⟨by rfl, ?hyd19⟩) (by assumption) ?restd19
                    case hyd19 => (intro w hSw; (try dsimp only at hSw); go_simp; try with_reducible rfl)
                    try simp only [Act.put, List.setIfInBounds_toArray, List.set_cons_zero, List.set_cons_succ]
                    refine wpAnyH_take (i := 19) (oi := { dst := some 83, op := .load 3 (.tmp 82), type := _, pos := _, after := _, guard := some (14, false) }) (v := ?vd20) rfl (by kernel_rfl) (by kernel_rfl) (by kernel_rfl) (fun _ _ _ h => h) (Or.inl ⟨by rfl, ?hyd20⟩) (by assumption) ?restd20
                    case hyd20 => (intro w hSw; (try dsimp only at hSw); go_simp; try with_reducible rfl)
                    try simp only [Act.put, List.setIfInBounds_toArray, List.set_cons_zero, List.set_cons_succ]
                    refine wpAnyH_take (i := 20) (oi := { dst := some 84, op := .nilCheck (.tmp 79), type := _, pos := _, after := _, guard := some (14, false) }) (v := ?vd21) rfl (by kernel_rfl) (by kernel_rfl) (by kernel_rfl) (fun _ _ _ h => h) (Or.inl ⟨by rfl, ?hyd21⟩) (by assumption) ?restd21
                    case hyd21 => (intro w hSw; (try dsimp only at hSw); go_simp; try with_reducible rfl)
                    try simp only [Act.put, List.setIfInBounds_toArray, List.set_cons_zero, List.set_cons_succ]
                    refine wpAnyH_take (i := 21) (oi := { dst := some 85, op := .fieldAddr 31 (.tmp 84) 1, type := _, pos := _, after := _, guard := some (14, false) }) (v := ?vd22) rfl (by kernel_rfl) (by kernel_rfl) (by kernel_rfl) (fun _ _ _ h => h) (Or.inl ⟨by rfl, ?hyd22⟩) (by assumption) ?restd22
                    case hyd22 => (intro w hSw; (try dsimp only at hSw); go_simp; try with_reducible rfl)
                    try simp only [Act.put, List.setIfInBounds_toArray, List.set_cons_zero, List.set_cons_succ]
                    refine wpAnyH_take (i := 22) (oi := { dst := some 86, op := .indexAddr 29 (.tmp 85) (.tmp 83), type := _, pos := _, after := _, guard := some (14, false) }) (v := ?vd23) rfl (by kernel_rfl) (by kernel_rfl) (by kernel_rfl) (fun _ _ _ h => h) (Or.inl ⟨by rfl, ?hyd23⟩) (by assumption) ?restd23
                    case hyd23 => (intro w hSw; (try dsimp only at hSw); go_simp; try with_reducible rfl)
                    try simp only [Act.put, List.setIfInBounds_toArray, List.set_cons_zero, List.set_cons_succ]
                    refine wpAnyH_take (i := 23) (oi := { dst := some 87, op := .load 9 (.tmp 86), type := _, pos := _, after := _, guard := some (14, false) }) (v := ?vd24) rfl (by kernel_rfl) (by kernel_rfl) (by kernel_rfl) (fun _ _ _ h => h) (Or.inl ⟨by rfl, ?hyd24⟩) (by assumption) ?restd24
                    case hyd24 => (intro w hSw; (try dsimp only at hSw); go_simp; try with_reducible rfl)
                    try simp only [Act.put, List.setIfInBounds_toArray, List.set_cons_zero, List.set_cons_succ]
                    refine wpAnyH_take (i := 24) (oi := { dst := some 88, op := .move (.tmp 9), type := _, pos := _, after := _, guard := some (14, false) }) (v := ?vd25) rfl (by kernel_rfl) (by kernel_rfl) (by kernel_rfl) (fun _ _ _ h => h) (Or.inl ⟨by rfl, ?hyd25⟩) (by assumption) ?restd25
                    case hyd25 => (intro w hSw; (try dsimp only at hSw); go_simp; try with_reducible rfl)
                    try simp only [Act.put, List.setIfInBounds_toArray, List.set_cons_zero, List.set_cons_succ]
                    refine wpAnyH_take (i := 25) (oi := { dst := some 89, op := .convert 37 9 (.tmp 88), type := _, pos := _, after := _, guard := some (14, false) }) (v := ?vd26) rfl (by kernel_rfl) (by kernel_rfl) (by kernel_rfl) (fun _ _ _ h => h) (Or.inl ⟨by rfl, ?hyd26⟩) (by assumption) ?restd26
                    case hyd26 => (intro w hSw; (try dsimp only at hSw); go_simp; try with_reducible rfl)
                    try simp only [Act.put, List.setIfInBounds_toArray, List.set_cons_zero, List.set_cons_succ]
                    refine wpAnyH_take (i := 26) (oi := { dst := some 90, op := .binOp .neq 9 (.tmp 87) (.tmp 89) 9, type := _, pos := _, after := _, guard := some (14, false) }) (v := ?vd27) rfl (by kernel_rfl) (by kernel_rfl) (by kernel_rfl) (fun _ _ _ h => h) (Or.inl ⟨by rfl, ?hyd27⟩) (by assumption) ?restd27
                    case hyd27 => (intro w hSw; (try dsimp only at hSw); go_simp; try with_reducible rfl)
                    try simp only [Act.put, List.setIfInBounds_toArray, List.set_cons_zero, List.set_cons_succ]
                    refine wpAnyH_take (i := 27) (oi := { dst := some 91, op := .pick (.tmp 78) (.const (.bool true)) (.tmp 90), type := _, pos := _, after := _, guard := none }) (v := ?vd28) rfl (by kernel_rfl) (by kernel_rfl) (by kernel_rfl) (fun _ _ _ h => h) (Or.inl ⟨by rfl, ?hyd28⟩) (by assumption) ?restd28
                    case hyd28 => (intro w hSw; (try dsimp only at hSw); go_simp; try with_reducible rfl)
                    try simp only [Act.put, List.setIfInBounds_toArray, List.set_cons_zero, List.set_cons_succ]
                    refine wpAnyH_done (by kernel_rfl) ?_ _
                    have HF := Lib.hid (And.intro (HN.out.1 (.inr (.inr (by have := HBT.out; simpa using this)))) (And.intro (hq8.out.1) hq8.out.2.1))
                    go_wp2_with fail
                    go_ret
                    have e := HF.out.1
                    exact ⟨by rw [e]; rfl, Lib.hid ⟨by rw [e]; exact HF.out.2.1.below (Below.drew (Below.refl _ _)) (Nat.le_trans HX.out.1 (Nat.le_trans HW7.out.size (Nat.le_trans hI.out.st.size HF.out.2.2.size))), (((Step.below HW7.out HX.out.1).trans hI.out.st).trans HF.out.2.2).drew⟩⟩
                  | true =>
                    refine wp_region_held_drew (S := (fun W => W.cell? ⟨g, o + k, none⟩ = some (.int .i64 (pg : Int)) ∧ W.cell? ⟨wb, off + pg, none⟩ = some (.bool true) ∧ W.cell? ⟨wb, off + 1024 + pg, none⟩ = some (.string T) ∧ (convert 37 9 (.slice a8 n8 c8)).run Tryz.prog W = .ok (.string U) W)) (by kernel_rfl) ?_ (fun hHeld => ?_)
                    · (with_reducible refine HS8.out _ ?_; (repeat (first | with_reducible exact Below.refl _ _ | with_reducible assumption | with_reducible refine Below.drew ?_ | with_reducible refine Below.allocs ?_ _)); done)
                    refine wpAnyH_take (i := 0) (oi := { dst := some 64, op := .move (.tmp 10), type := _, pos := _, after := _, guard := none }) (v := ?ve1) rfl (by kernel_rfl) (by kernel_rfl) (by kernel_rfl) (fun _ _ _ h => h) (Or.inl ⟨by rfl, ?hye1⟩) (by assumption) ?reste1
                    case hye1 => (intro w hSw; (try dsimp only at hSw); go_simp; try with_reducible rfl)
                    try simp only [Act.put, List.setIfInBounds_toArray, List.set_cons_zero, List.set_cons_succ]
                    refine wpAnyH_take (i := 1) (oi := { dst := some 65, op := .binOp .neq 35 (.tmp 64) (.const (.int .i64 0)) 35, type := _, pos := _, after := _, guard := none }) (v := ?ve2) rfl (by kernel_rfl) (by kernel_rfl) (by kernel_rfl) (fun _ _ _ h => h) (Or.inl ⟨by rfl, ?hye2⟩) (by assumption) ?reste2
                    case hye2 => (intro w hSw; (try dsimp only at hSw); go_simp; try with_reducible rfl)
                    try simp only [Act.put, List.setIfInBounds_toArray, List.set_cons_zero, List.set_cons_succ]
                    refine wpAnyH_take (i := 2) (oi := { dst := some 66, op := .move (.tmp 65), type := _, pos := _, after := _, guard := none }) (v := ?ve3) rfl (by kernel_rfl) (by kernel_rfl) (by kernel_rfl) (fun _ _ _ h => h) (Or.inl ⟨by rfl, ?hye3⟩) (by assumption) ?reste3
                    case hye3 => (intro w hSw; (try dsimp only at hSw); go_simp; try with_reducible rfl)
                    try simp only [Act.put, List.setIfInBounds_toArray, List.set_cons_zero, List.set_cons_succ]
                    refine wpAnyH_take (i := 3) (oi := { dst := some 67, op := .move (.tmp 0), type := _, pos := _, after := _, guard := some (2, false) }) (v := ?ve4) rfl (by kernel_rfl) (by kernel_rfl) (by kernel_rfl) (fun _ _ _ h => h) (Or.inl ⟨by rfl, ?hye4⟩) (by assumption) ?reste4
                    case hye4 => (intro w hSw; (try dsimp only at hSw); go_simp; try with_reducible rfl)
                    try simp only [Act.put, List.setIfInBounds_toArray, List.set_cons_zero, List.set_cons_succ]
                    refine wpAnyH_take (i := 4) (oi := { dst := some 68, op := .move (.tmp 7), type := _, pos := _, after := _, guard := some (2, false) }) (v := ?ve5) rfl (by kernel_rfl) (by kernel_rfl) (by kernel_rfl) (fun _ _ _ h => h) (Or.inl ⟨by rfl, ?hye5⟩) (by assumption) ?reste5
                    case hye5 => (intro w hSw; (try dsimp only at hSw); go_simp; try with_reducible rfl)
                    try simp only [Act.put, List.setIfInBounds_toArray, List.set_cons_zero, List.set_cons_succ]
                    refine wpAnyH_take (i := 5) (oi := { dst := some 69, op := .move (.tmp 8), type := _, pos := _, after := _, guard := some (2, false) }) (v := ?ve6) rfl (by kernel_rfl) (by kernel_rfl) (by kernel_rfl) (fun _ _ _ h => h) (Or.inl ⟨by rfl, ?hye6⟩) (by assumption) ?reste6
                    case hye6 => (intro w hSw; (try dsimp only at hSw); go_simp; try with_reducible rfl)
                    try simp only [Act.put, List.setIfInBounds_toArray, List.set_cons_zero, List.set_cons_succ]
                    refine wpAnyH_take (i := 6) (oi := { dst := some 70, op := .indexAddr 42 (.tmp 68) (.tmp 69), type := _, pos := _, after := _, guard := some (2, false) }) (v := ?ve7) rfl (by kernel_rfl) (by kernel_rfl) (by kernel_rfl) (fun _ _ _ h => h) (Or.inl ⟨by rfl, ?hye7⟩) (by assumption) ?reste7
                    case hye7 => (intro w hSw; (try dsimp only at hSw); go_simp; try with_reducible rfl)
                    try simp only [Act.put, List.setIfInBounds_toArray, List.set_cons_zero, List.set_cons_succ]
                    refine wpAnyH_take (i := 7) (oi := { dst := some 71, op := .load 3 (.tmp 70), type := _, pos := _, after := _, guard := some (2, false) }) (v := ?ve8) rfl (by kernel_rfl) (by kernel_rfl) (by kernel_rfl) (fun _ _ _ h => h) (Or.inl ⟨by rfl, ?hye8⟩) (by assumption) ?reste8
                    case hye8 => (intro w hSw; (try dsimp only at hSw); go_simp; try with_reducible rfl)
                    try simp only [Act.put, List.setIfInBounds_toArray, List.set_cons_zero, List.set_cons_succ]
                    refine wpAnyH_take (i := 8) (oi := { dst := some 72, op := .nilCheck (.tmp 67), type := _, pos := _, after := _, guard := some (2, false) }) (v := ?ve9) rfl (by kernel_rfl) (by kernel_rfl) (by kernel_rfl) (fun _ _ _ h => h) (Or.inl ⟨by rfl, ?hye9⟩) (by assumption) ?reste9
                    case hye9 => (intro w hSw; (try dsimp only at hSw); go_simp; try with_reducible rfl)
                    try simp only [Act.put, List.setIfInBounds_toArray, List.set_cons_zero, List.set_cons_succ]
                    refine wpAnyH_take (i := 9) (oi := { dst := some 73, op := .fieldAddr 31 (.tmp 72) 0, type := _, pos := _, after := _, guard := some (2, false) }) (v := ?ve10) rfl (by kernel_rfl) (by kernel_rfl) (by kernel_rfl) (fun _ _ _ h => h) (Or.inl ⟨by rfl, ?hye10⟩) (by assumption) ?reste10
                    case hye10 => (intro w hSw; (try dsimp only at hSw); go_simp; try with_reducible rfl)
                    try simp only [Act.put, List.setIfInBounds_toArray, List.set_cons_zero, List.set_cons_succ]
                    refine wpAnyH_take (i := 10) (oi := { dst := some 74, op := .indexAddr 28 (.tmp 73) (.tmp 71), type := _, pos := _, after := _, guard := some (2, false) }) (v := ?ve11) rfl (by kernel_rfl) (by kernel_rfl) (by kernel_rfl) (fun _ _ _ h => h) (Or.inl ⟨by rfl, ?hye11⟩) (by assumption) ?reste11
                    case hye11 => (intro w hSw; (try dsimp only at hSw); go_simp; try with_reducible rfl)
                    try simp only [Act.put, List.setIfInBounds_toArray, List.set_cons_zero, List.set_cons_succ]
                    refine wpAnyH_take (i := 11) (oi := { dst := some 75, op := .load 4 (.tmp 74), type := _, pos := _, after := _, guard := some (2, false) }) (v := ?ve12) rfl (by kernel_rfl) (by kernel_rfl) (by kernel_rfl) (fun _ _ _ h => h) (Or.inl ⟨by rfl, ?hye12⟩) (by assumption) ?reste12
                    case hye12 => (intro w hSw; (try dsimp only at hSw); go_simp; try with_reducible rfl)
                    try simp only [Act.put, List.setIfInBounds_toArray, List.set_cons_zero, List.set_cons_succ]
                    refine wpAnyH_take (i := 12) (oi := { dst := some 76, op := .unOp .not 4 (.tmp 75), type := _, pos := _, after := _, guard := some (2, false) }) (v := ?ve13) rfl (by kernel_rfl) (by kernel_rfl) (by kernel_rfl) (fun _ _ _ h => h) (Or.inl ⟨by rfl, ?hye13⟩) (by assumption) ?reste13
                    case hye13 => (intro w hSw; (try dsimp only at hSw); go_simp; try with_reducible rfl)
                    try simp only [Act.put, List.setIfInBounds_toArray, List.set_cons_zero, List.set_cons_succ]
                    refine wpAnyH_take (i := 13) (oi := { dst := some 77, op := .pick (.tmp 66) (.const (.bool true)) (.tmp 76), type := _, pos := _, after := _, guard := none }) (v := ?ve14) rfl (by kernel_rfl) (by kernel_rfl) (by kernel_rfl) (fun _ _ _ h => h) (Or.inl ⟨by rfl, ?hye14⟩) (by assumption) ?reste14
                    case hye14 => (intro w hSw; (try dsimp only at hSw); go_simp; try with_reducible rfl)
                    try simp only [Act.put, List.setIfInBounds_toArray, List.set_cons_zero, List.set_cons_succ]
                    refine wpAnyH_take (i := 14) (oi := { dst := some 78, op := .move (.tmp 77), type := _, pos := _, after := _, guard := none }) (v := ?ve15) rfl (by kernel_rfl) (by kernel_rfl) (by kernel_rfl) (fun _ _ _ h => h) (Or.inl ⟨by rfl, ?hye15⟩) (by assumption) ?reste15
                    case hye15 => (intro w hSw; (try dsimp only at hSw); go_simp; try with_reducible rfl)
                    try simp only [Act.put, List.setIfInBounds_toArray, List.set_cons_zero, List.set_cons_succ]
                    refine wpAnyH_take (i := 15) (oi := { dst := some 79, op := .move (.tmp 0), type := _, pos := _, after := _, guard := some (14, false) }) (v := ?ve16) rfl (by kernel_rfl) (by kernel_rfl) (by kernel_rfl) (fun _ _ _ h => h) (Or.inl ⟨by rfl, ?hye16⟩) (by assumption) ?reste16
                    case hye16 => (intro w hSw; (try dsimp only at hSw); go_simp; try with_reducible rfl)
                    try simp only [Act.put, List.setIfInBounds_toArray, List.set_cons_zero, List.set_cons_succ]
                    refine wpAnyH_take (i := 16) (oi := { dst := some 80, op := .move (.tmp 7), type := _, pos := _, after := _, guard := some (14, false) }) (v := ?ve17) rfl (by kernel_rfl) (by kernel_rfl) (by kernel_rfl) (fun _ _ _ h => h) (Or.inl ⟨by rfl, ?hye17⟩) (by assumption) ?reste17
                    case hye17 => (intro w hSw; (try dsimp only at hSw); go_simp; try with_reducible rfl)
                    try simp only [Act.put, List.setIfInBounds_toArray, List.set_cons_zero, List.set_cons_succ]
                    refine wpAnyH_take (i := 17) (oi := { dst := some 81, op := .move (.tmp 8), type := _, pos := _, after := _, guard := some (14, false) }) (v := ?ve18) rfl (by kernel_rfl) (by kernel_rfl) (by kernel_rfl) (fun _ _ _ h => h) (Or.inl ⟨by rfl, ?hye18⟩) (by assumption) ?reste18
                    case hye18 => (intro w hSw; (try dsimp only at hSw); go_simp; try with_reducible rfl)
                    try simp only [Act.put, List.setIfInBounds_toArray, List.set_cons_zero, List.set_cons_succ]
                    refine wpAnyH_take (i := 18) (oi := { dst := some 82, op := .indexAddr 42 (.tmp 80) (.tmp 81), type := _, pos := _, after := _, guard := some (14, false) }) (v := ?ve19) rfl (by kernel_rfl) (by kernel_rfl) (by kernel_rfl) (fun _ _ _ h => h) (Or.inl ⟨by rfl, ?hye19⟩) (by assumption) ?reste19
                    case hye19 => (intro w hSw; (try dsimp only at hSw); go_simp; try with_reducible rfl)
                    try simp only [Act.put, List.setIfInBounds_toArray, List.set_cons_zero, List.set_cons_succ]
                    refine wpAnyH_take (i := 19) (oi := { dst := some 83, op := .load 3 (.tmp 82), type := _, pos := _, after := _, guard := some (14, false) }) (v := ?ve20) rfl (by kernel_rfl) (by kernel_rfl) (by kernel_rfl) (fun _ _ _ h => h) (Or.inl ⟨by rfl, ?hye20⟩) (by assumption) ?reste20
                    case hye20 => (intro w hSw; (try dsimp only at hSw); go_simp; try with_reducible rfl)
                    try simp only [Act.put, List.setIfInBounds_toArray, List.set_cons_zero, List.set_cons_succ]
                    refine wpAnyH_take (i := 20) (oi := { dst := some 84, op := .nilCheck (.tmp 79), type := _, pos := _, after := _, guard := some (14, false) }) (v := ?ve21) rfl (by kernel_rfl) (by kernel_rfl) (by kernel_rfl) (fun _ _ _ h => h) (Or.inl ⟨by rfl, ?hye21⟩) (by assumption) ?reste21
                    case hye21 => (intro w hSw; (try dsimp only at hSw); go_simp; try with_reducible rfl)
                    try simp only [Act.put, List.setIfInBounds_toArray, List.set_cons_zero, List.set_cons_succ]
                    refine wpAnyH_take (i := 21) (oi := { dst := some 85, op := .fieldAddr 31 (.tmp 84) 1, type := _, pos := _, after := _, guard := some (14, false) }) (v := ?ve22) rfl (by kernel_rfl) (by kernel_rfl) (by kernel_rfl) (fun _ _ _ h => h) (Or.inl ⟨by rfl, ?hye22⟩) (by assumption) ?reste22
                    case hye22 => (intro w hSw; (try dsimp only at hSw); go_simp; try with_reducible rfl)
                    try simp only [Act.put, List.setIfInBounds_toArray, List.set_cons_zero, List.set_cons_succ]
                    refine wpAnyH_take (i := 22) (oi := { dst := some 86, op := .indexAddr 29 (.tmp 85) (.tmp 83), type := _, pos := _, after := _, guard := some (14, false) }) (v := ?ve23) rfl (by kernel_rfl) (by kernel_rfl) (by kernel_rfl) (fun _ _ _ h => h) (Or.inl ⟨by rfl, ?hye23⟩) (by assumption) ?reste23
                    case hye23 => (intro w hSw; (try dsimp only at hSw); go_simp; try with_reducible rfl)
                    try simp only [Act.put, List.setIfInBounds_toArray, List.set_cons_zero, List.set_cons_succ]
                    refine wpAnyH_take (i := 23) (oi := { dst := some 87, op := .load 9 (.tmp 86), type := _, pos := _, after := _, guard := some (14, false) }) (v := ?ve24) rfl (by kernel_rfl) (by kernel_rfl) (by kernel_rfl) (fun _ _ _ h => h) (Or.inl ⟨by rfl, ?hye24⟩) (by assumption) ?reste24
                    case hye24 => (intro w hSw; (try dsimp only at hSw); go_simp; try with_reducible rfl)
                    try simp only [Act.put, List.setIfInBounds_toArray, List.set_cons_zero, List.set_cons_succ]
                    refine wpAnyH_take (i := 24) (oi := { dst := some 88, op := .move (.tmp 9), type := _, pos := _, after := _, guard := some (14, false) }) (v := ?ve25) rfl (by kernel_rfl) (by kernel_rfl) (by kernel_rfl) (fun _ _ _ h => h) (Or.inl ⟨by rfl, ?hye25⟩) (by assumption) ?reste25
                    case hye25 => (intro w hSw; (try dsimp only at hSw); go_simp; try with_reducible rfl)
                    try simp only [Act.put, List.setIfInBounds_toArray, List.set_cons_zero, List.set_cons_succ]
                    refine wpAnyH_take (i := 25) (oi := { dst := some 89, op := .convert 37 9 (.tmp 88), type := _, pos := _, after := _, guard := some (14, false) }) (v := ?ve26) rfl (by kernel_rfl) (by kernel_rfl) (by kernel_rfl) (fun _ _ _ h => h) (Or.inl ⟨by rfl, ?hye26⟩) (by assumption) ?reste26
                    case hye26 => (intro w hSw; (try dsimp only at hSw); go_simp; try with_reducible rfl)
                    try simp only [Act.put, List.setIfInBounds_toArray, List.set_cons_zero, List.set_cons_succ]
                    refine wpAnyH_take (i := 26) (oi := { dst := some 90, op := .binOp .neq 9 (.tmp 87) (.tmp 89) 9, type := _, pos := _, after := _, guard := some (14, false) }) (v := ?ve27) rfl (by kernel_rfl) (by kernel_rfl) (by kernel_rfl) (fun _ _ _ h => h) (Or.inl ⟨by rfl, ?hye27⟩) (by assumption) ?reste27
                    case hye27 => (intro w hSw; (try dsimp only at hSw); go_simp; try with_reducible rfl)
                    try simp only [Act.put, List.setIfInBounds_toArray, List.set_cons_zero, List.set_cons_succ]
                    refine wpAnyH_take (i := 27) (oi := { dst := some 91, op := .pick (.tmp 78) (.const (.bool true)) (.tmp 90), type := _, pos := _, after := _, guard := none }) (v := ?ve28) rfl (by kernel_rfl) (by kernel_rfl) (by kernel_rfl) (fun _ _ _ h => h) (Or.inl ⟨by rfl, ?hye28⟩) (by assumption) ?reste28
                    case hye28 => (intro w hSw; (try dsimp only at hSw); go_simp; try with_reducible rfl)
                    try simp only [Act.put, List.setIfInBounds_toArray, List.set_cons_zero, List.set_cons_succ]
                    refine wpAnyH_done (by kernel_rfl) ?_ _
                    have HF := Lib.hid ((HN.out.2 rfl HON.out (by have := HBT.out; simpa using this)))
                    go_wp2_with fail
                    exact ⟨⟨k + 1, rfl, by omega, Lib.hid ⟨_, HF.out.drew (Nat.le_trans hw0 (hq8.out.2.1.size))⟩⟩, measT e⟩
              · have i5 : ¬ (m : Int) = 0 := by omega
                have i6 : ((m : Int) == 0) = false := by rw [beq_eq_false_iff_ne]; exact i5
                have i7 : ((m : Int) != 0) = true := by rw [bne_iff_ne]; exact i5
                refine wp_region_held_drew (S := (fun W => W.cell? ⟨g, o + k, none⟩ = some (.int .i64 (pg : Int)) ∧ W.cell? ⟨wb, off + pg, none⟩ = some (.bool ON) ∧ W.cell? ⟨wb, off + 1024 + pg, none⟩ = some (.string T) ∧ (convert 37 9 (.slice a8 n8 c8)).run Tryz.prog W = .ok (.string U) W)) (by kernel_rfl) ?_ (fun hHeld => ?_)
                · (with_reducible refine HS8.out _ ?_; (repeat (first | with_reducible exact Below.refl _ _ | with_reducible assumption | with_reducible refine Below.drew ?_ | with_reducible refine Below.allocs ?_ _)); done)
                refine wpAnyH_take (i := 0) (oi := { dst := some 64, op := .move (.tmp 10), type := _, pos := _, after := _, guard := none }) (v := ?vb1) rfl (by kernel_rfl) (by kernel_rfl) (by kernel_rfl) (fun _ _ _ h => h) (Or.inl ⟨by rfl, ?hyb1⟩) (by assumption) ?restb1
                case hyb1 => (intro w hSw; (try dsimp only at hSw); go_simp; try with_reducible rfl)
                try simp only [Act.put, List.setIfInBounds_toArray, List.set_cons_zero, List.set_cons_succ]
                refine wpAnyH_take (i := 1) (oi := { dst := some 65, op := .binOp .neq 35 (.tmp 64) (.const (.int .i64 0)) 35, type := _, pos := _, after := _, guard := none }) (v := ?vb2) rfl (by kernel_rfl) (by kernel_rfl) (by kernel_rfl) (fun _ _ _ h => h) (Or.inl ⟨by rfl, ?hyb2⟩) (by assumption) ?restb2
                case hyb2 => (intro w hSw; (try dsimp only at hSw); go_simp; try with_reducible rfl)
                try simp only [Act.put, List.setIfInBounds_toArray, List.set_cons_zero, List.set_cons_succ]
                refine wpAnyH_take (i := 2) (oi := { dst := some 66, op := .move (.tmp 65), type := _, pos := _, after := _, guard := none }) (v := ?vb3) rfl (by kernel_rfl) (by kernel_rfl) (by kernel_rfl) (fun _ _ _ h => h) (Or.inl ⟨by rfl, ?hyb3⟩) (by assumption) ?restb3
                case hyb3 => (intro w hSw; (try dsimp only at hSw); go_simp; try with_reducible rfl)
                try simp only [Act.put, List.setIfInBounds_toArray, List.set_cons_zero, List.set_cons_succ]
                refine wpAnyH_take (i := 3) (oi := { dst := some 67, op := .move (.tmp 0), type := _, pos := _, after := _, guard := some (2, false) }) (v := undef) rfl (by kernel_rfl) (by kernel_rfl) (by kernel_rfl) (fun _ _ _ h => h) (Or.inr ⟨by first | kernel_rfl | rfl, rfl⟩) (by assumption) ?_
                try simp only [Act.put, List.setIfInBounds_toArray, List.set_cons_zero, List.set_cons_succ]
                refine wpAnyH_take (i := 4) (oi := { dst := some 68, op := .move (.tmp 7), type := _, pos := _, after := _, guard := some (2, false) }) (v := undef) rfl (by kernel_rfl) (by kernel_rfl) (by kernel_rfl) (fun _ _ _ h => h) (Or.inr ⟨by first | kernel_rfl | rfl, rfl⟩) (by assumption) ?_
                try simp only [Act.put, List.setIfInBounds_toArray, List.set_cons_zero, List.set_cons_succ]
                refine wpAnyH_take (i := 5) (oi := { dst := some 69, op := .move (.tmp 8), type := _, pos := _, after := _, guard := some (2, false) }) (v := undef) rfl (by kernel_rfl) (by kernel_rfl) (by kernel_rfl) (fun _ _ _ h => h) (Or.inr ⟨by first | kernel_rfl | rfl, rfl⟩) (by assumption) ?_
                try simp only [Act.put, List.setIfInBounds_toArray, List.set_cons_zero, List.set_cons_succ]
                refine wpAnyH_take (i := 6) (oi := { dst := some 70, op := .indexAddr 42 (.tmp 68) (.tmp 69), type := _, pos := _, after := _, guard := some (2, false) }) (v := undef) rfl (by kernel_rfl) (by kernel_rfl) (by kernel_rfl) (fun _ _ _ h => h) (Or.inr ⟨by first | kernel_rfl | rfl, rfl⟩) (by assumption) ?_
                try simp only [Act.put, List.setIfInBounds_toArray, List.set_cons_zero, List.set_cons_succ]
                refine wpAnyH_take (i := 7) (oi := { dst := some 71, op := .load 3 (.tmp 70), type := _, pos := _, after := _, guard := some (2, false) }) (v := undef) rfl (by kernel_rfl) (by kernel_rfl) (by kernel_rfl) (fun _ _ _ h => h) (Or.inr ⟨by first | kernel_rfl | rfl, rfl⟩) (by assumption) ?_
                try simp only [Act.put, List.setIfInBounds_toArray, List.set_cons_zero, List.set_cons_succ]
                refine wpAnyH_take (i := 8) (oi := { dst := some 72, op := .nilCheck (.tmp 67), type := _, pos := _, after := _, guard := some (2, false) }) (v := undef) rfl (by kernel_rfl) (by kernel_rfl) (by kernel_rfl) (fun _ _ _ h => h) (Or.inr ⟨by first | kernel_rfl | rfl, rfl⟩) (by assumption) ?_
                try simp only [Act.put, List.setIfInBounds_toArray, List.set_cons_zero, List.set_cons_succ]
                refine wpAnyH_take (i := 9) (oi := { dst := some 73, op := .fieldAddr 31 (.tmp 72) 0, type := _, pos := _, after := _, guard := some (2, false) }) (v := undef) rfl (by kernel_rfl) (by kernel_rfl) (by kernel_rfl) (fun _ _ _ h => h) (Or.inr ⟨by first | kernel_rfl | rfl, rfl⟩) (by assumption) ?_
                try simp only [Act.put, List.setIfInBounds_toArray, List.set_cons_zero, List.set_cons_succ]
                refine wpAnyH_take (i := 10) (oi := { dst := some 74, op := .indexAddr 28 (.tmp 73) (.tmp 71), type := _, pos := _, after := _, guard := some (2, false) }) (v := undef) rfl (by kernel_rfl) (by kernel_rfl) (by kernel_rfl) (fun _ _ _ h => h) (Or.inr ⟨by first | kernel_rfl | rfl, rfl⟩) (by assumption) ?_
                try simp only [Act.put, List.setIfInBounds_toArray, List.set_cons_zero, List.set_cons_succ]
                refine wpAnyH_take (i := 11) (oi := { dst := some 75, op := .load 4 (.tmp 74), type := _, pos := _, after := _, guard := some (2, false) }) (v := undef) rfl (by kernel_rfl) (by kernel_rfl) (by kernel_rfl) (fun _ _ _ h => h) (Or.inr ⟨by first | kernel_rfl | rfl, rfl⟩) (by assumption) ?_
                try simp only [Act.put, List.setIfInBounds_toArray, List.set_cons_zero, List.set_cons_succ]
                refine wpAnyH_take (i := 12) (oi := { dst := some 76, op := .unOp .not 4 (.tmp 75), type := _, pos := _, after := _, guard := some (2, false) }) (v := undef) rfl (by kernel_rfl) (by kernel_rfl) (by kernel_rfl) (fun _ _ _ h => h) (Or.inr ⟨by first | kernel_rfl | rfl, rfl⟩) (by assumption) ?_
                try simp only [Act.put, List.setIfInBounds_toArray, List.set_cons_zero, List.set_cons_succ]
                refine wpAnyH_take (i := 13) (oi := { dst := some 77, op := .pick (.tmp 66) (.const (.bool true)) (.tmp 76), type := _, pos := _, after := _, guard := none }) (v := ?vb4) rfl (by kernel_rfl) (by kernel_rfl) (by kernel_rfl) (fun _ _ _ h => h) (Or.inl ⟨by rfl, ?hyb4⟩) (by assumption) ?restb4
                case hyb4 => (intro w hSw; (try dsimp only at hSw); go_simp; try with_reducible rfl)
                try simp only [Act.put, List.setIfInBounds_toArray, List.set_cons_zero, List.set_cons_succ]
                refine wpAnyH_take (i := 14) (oi := { dst := some 78, op := .move (.tmp 77), type := _, pos := _, after := _, guard := none }) (v := ?vb5) rfl (by kernel_rfl) (by kernel_rfl) (by kernel_rfl) (fun _ _ _ h => h) (Or.inl ⟨by rfl, ?hyb5⟩) (by assumption) ?restb5
                case hyb5 => (intro w hSw; (try dsimp only at hSw); go_simp; try with_reducible rfl)
                try simp only [Act.put, List.setIfInBounds_toArray, List.set_cons_zero, List.set_cons_succ]
                refine wpAnyH_take (i := 15) (oi := { dst := some 79, op := .move (.tmp 0), type := _, pos := _, after := _, guard := some (14, false) }) (v := undef) rfl (by kernel_rfl) (by kernel_rfl) (by kernel_rfl) (fun _ _ _ h => h) (Or.inr ⟨by first | kernel_rfl | rfl, rfl⟩) (by assumption) ?_
                try simp only [Act.put, List.setIfInBounds_toArray, List.set_cons_zero, List.set_cons_succ]
                refine wpAnyH_take (i := 16) (oi := { dst := some 80, op := .move (.tmp 7), type := _, pos := _, after := _, guard := some (14, false) }) (v := undef) rfl (by kernel_rfl) (by kernel_rfl) (by kernel_rfl) (fun _ _ _ h => h) (Or.inr ⟨by first | kernel_rfl | rfl, rfl⟩) (by assumption) ?_
                try simp only [Act.put, List.setIfInBounds_toArray, List.set_cons_zero, List.set_cons_succ]
                refine wpAnyH_take (i := 17) (oi := { dst := some 81, op := .move (.tmp 8), type := _, pos := _, after := _, guard := some (14, false) }) (v := undef) rfl (by kernel_rfl) (by kernel_rfl) (by kernel_rfl) (fun _ _ _ h => h) (Or.inr ⟨by first | kernel_rfl | rfl, rfl⟩) (by assumption) ?_
                try simp only [Act.put, List.setIfInBounds_toArray, List.set_cons_zero, List.set_cons_succ]
                refine wpAnyH_take (i := 18) (oi := { dst := some 82, op := .indexAddr 42 (.tmp 80) (.tmp 81), type := _, pos := _, after := _, guard := some (14, false) }) (v := undef) rfl (by kernel_rfl) (by kernel_rfl) (by kernel_rfl) (fun _ _ _ h => h) (Or.inr ⟨by first | kernel_rfl | rfl, rfl⟩) (by assumption) ?_
                try simp only [Act.put, List.setIfInBounds_toArray, List.set_cons_zero, List.set_cons_succ]
                refine wpAnyH_take (i := 19) (oi := { dst := some 83, op := .load 3 (.tmp 82), type := _, pos := _, after := _, guard := some (14, false) }) (v := undef) rfl (by kernel_rfl) (by kernel_rfl) (by kernel_rfl) (fun _ _ _ h => h) (Or.inr ⟨by first | kernel_rfl | rfl, rfl⟩) (by assumption) ?_
                try simp only [Act.put, List.setIfInBounds_toArray, List.set_cons_zero, List.set_cons_succ]
                refine wpAnyH_take (i := 20) (oi := { dst := some 84, op := .nilCheck (.tmp 79), type := _, pos := _, after := _, guard := some (14, false) }) (v := undef) rfl (by kernel_rfl) (by kernel_rfl) (by kernel_rfl) (fun _ _ _ h => h) (Or.inr ⟨by first | kernel_rfl | rfl, rfl⟩) (by assumption) ?_
                try simp only [Act.put, List.setIfInBounds_toArray, List.set_cons_zero, List.set_cons_succ]
                refine wpAnyH_take (i := 21) (oi := { dst := some 85, op := .fieldAddr 31 (.tmp 84) 1, type := _, pos := _, after := _, guard := some (14, false) }) (v := undef) rfl (by kernel_rfl) (by kernel_rfl) (by kernel_rfl) (fun _ _ _ h => h) (Or.inr ⟨by first | kernel_rfl | rfl, rfl⟩) (by assumption) ?_
                try simp only [Act.put, List.setIfInBounds_toArray, List.set_cons_zero, List.set_cons_succ]
                refine wpAnyH_take (i := 22) (oi := { dst := some 86, op := .indexAddr 29 (.tmp 85) (.tmp 83), type := _, pos := _, after := _, guard := some (14, false) }) (v := undef) rfl (by kernel_rfl) (by kernel_rfl) (by kernel_rfl) (fun _ _ _ h => h) (Or.inr ⟨by first | kernel_rfl | rfl, rfl⟩) (by assumption) ?_
                try simp only [Act.put, List.setIfInBounds_toArray, List.set_cons_zero, List.set_cons_succ]
                refine wpAnyH_take (i := 23) (oi := { dst := some 87, op := .load 9 (.tmp 86), type := _, pos := _, after := _, guard := some (14, false) }) (v := undef) rfl (by kernel_rfl) (by kernel_rfl) (by kernel_rfl) (fun _ _ _ h => h) (Or.inr ⟨by first | kernel_rfl | rfl, rfl⟩) (by assumption) ?_
                try simp only [Act.put, List.setIfInBounds_toArray, List.set_cons_zero, List.set_cons_succ]
                refine wpAnyH_take (i := 24) (oi := { dst := some 88, op := .move (.tmp 9), type := _, pos := _, after := _, guard := some (14, false) }) (v := undef) rfl (by kernel_rfl) (by kernel_rfl) (by kernel_rfl) (fun _ _ _ h => h) (Or.inr ⟨by first | kernel_rfl | rfl, rfl⟩) (by assumption) ?_
                try simp only [Act.put, List.setIfInBounds_toArray, List.set_cons_zero, List.set_cons_succ]
                refine wpAnyH_take (i := 25) (oi := { dst := some 89, op := .convert 37 9 (.tmp 88), type := _, pos := _, after := _, guard := some (14, false) }) (v := undef) rfl (by kernel_rfl) (by kernel_rfl) (by kernel_rfl) (fun _ _ _ h => h) (Or.inr ⟨by first | kernel_rfl | rfl, rfl⟩) (by assumption) ?_
                try simp only [Act.put, List.setIfInBounds_toArray, List.set_cons_zero, List.set_cons_succ]
                refine wpAnyH_take (i := 26) (oi := { dst := some 90, op := .binOp .neq 9 (.tmp 87) (.tmp 89) 9, type := _, pos := _, after := _, guard := some (14, false) }) (v := undef) rfl (by kernel_rfl) (by kernel_rfl) (by kernel_rfl) (fun _ _ _ h => h) (Or.inr ⟨by first | kernel_rfl | rfl, rfl⟩) (by assumption) ?_
                try simp only [Act.put, List.setIfInBounds_toArray, List.set_cons_zero, List.set_cons_succ]
                refine wpAnyH_take (i := 27) (oi := { dst := some 91, op := .pick (.tmp 78) (.const (.bool true)) (.tmp 90), type := _, pos := _, after := _, guard := none }) (v := ?vb6) rfl (by kernel_rfl) (by kernel_rfl) (by kernel_rfl) (fun _ _ _ h => h) (Or.inl ⟨by rfl, ?hyb6⟩) (by assumption) ?restb6
                case hyb6 => (intro w hSw; (try dsimp only at hSw); go_simp; try with_reducible rfl)
                try simp only [Act.put, List.setIfInBounds_toArray, List.set_cons_zero, List.set_cons_succ]
                refine wpAnyH_done (by kernel_rfl) ?_ _
                have HF := Lib.hid (And.intro (HN.out.1 (.inl hm0)) (And.intro (hq8.out.1) hq8.out.2.1))
                go_wp2_with fail
                go_ret
                have e := HF.out.1
                exact ⟨by rw [e]; rfl, Lib.hid ⟨by rw [e]; exact HF.out.2.1.below (Below.drew (Below.refl _ _)) (Nat.le_trans HX.out.1 (Nat.le_trans HW7.out.size (Nat.le_trans hI.out.st.size HF.out.2.2.size))), (((Step.below HW7.out HX.out.1).trans hI.out.st).trans HF.out.2.2).drew⟩⟩
            · have ek : k = L := by omega
              subst ek
              have j1 : ¬ (k : Int) < (k : Int) := by omega
              have hqq : q = (true, s') := by
                have := hI.out.rd
                rw [List.drop_eq_nil_of_le (by rw [HL.out]; exact Nat.le_refl _)] at this
                exact this.symm
              have HQQ := Lib.hid hqq
              clear hqq
              go_wp2_with fail
              go_ret
              have e := HQQ.out
              exact ⟨by rw [e]; rfl, Lib.hid ⟨by rw [e]; exact hI.out.sp, (Step.below HW7.out HX.out.1).trans hI.out.st⟩⟩
        · have i1 : ¬ (L : Int) = (y : Int) := by omega
          have hqq : q = (false, s) := by rw [← HQ.out]; unfold St.holds; rw [if_neg (fun h => h hm), if_pos (fun h => hl ((HL.out.symm.trans h).trans HY.out))]
          have HQQ := Lib.hid hqq
          have HI1 := Lib.hid HI0
          clear hqq HI0
          go_wp2_with fail
          go_ret
          have e := HQQ.out
          exact ⟨by rw [e]; rfl, Lib.hid ⟨by rw [e]; exact HI1.out, Step.below HW7.out HX.out.1⟩⟩
  · have hm1 : decide (s.r.mt = x.mt) = false := decide_eq_false hm
    simp only [hm1]
    have hqq : q = (false, s) := by rw [← HQ.out]; exact if_pos hm
    have HQQ := Lib.hid hqq
    clear hqq
    go_wp2_with fail
    go_ret
    have e := HQQ.out
    exact ⟨by rw [e]; rfl, Lib.hid ⟨by rw [e]; exact HH.out.below hb5.out HX.out.1, Step.below hb5.out HX.out.1⟩⟩
end Go.Tb
