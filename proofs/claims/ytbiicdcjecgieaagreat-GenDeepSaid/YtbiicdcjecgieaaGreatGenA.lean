/- The making of code, walked by hand, for a tuple of n numbers: what the maker holds, put, plain, needs, core, top and Program. Each says its own conditions. -/
import Derived.Test.YtbiicdcjecgieaaGreatProg
import Derived.WalkKit
import Derived.Handy
import Derived.LoopTactic
import Derived.Lib.Hide
import Derived.Outline
import Derived.Deep.RegionWith
import Derived.Deep.RegionLaw
import Derived.Laws.AppendOwn
import Derived.Maps.AppendAt
import Derived.Carry
import Derived.Lib.SmallJoins
import Derived.Laws.MakeOwn
set_option linter.unusedVariables false
set_option linter.unusedSimpArgs false
set_option maxRecDepth 100000
namespace Go.Gen
open Go Go.RowKit Go.Proofs
theorem cell_lt {w : World} {b o : Nat} {v : Value} (h : w.cell? ⟨b, o, none⟩ = some v) : b < w.heap.size := by
  rcases Nat.lt_or_ge b w.heap.size with h' | h'
  · exact h'
  · have : w.heap[b]? = none := Array.getElem?_eq_none h'
    simp [World.cell?, this] at h
theorem ownsRow_below {w w' : World} {base e size n : Nat} {v : Value} {xs : List Value} (h : w.ownsRow base e size v n xs) (hb : Below w.heap.size w w') : w'.ownsRow base e size v n xs := by
  refine ⟨h.1, ?_⟩
  rcases h.2 with h | ⟨g, cap, cur, h1, h2, h3, h4⟩
  · exact .inl h
  · exact .inr ⟨g, cap, cur, h1, h2, (hb.block g (Array.getElem?_eq_some_iff.1 h3).1).trans h3, h4⟩
theorem cells_new (w : World) (cs : List Value) (t : TypeId) : ∀ j u, cs[j]? = some u → (w.alloc (.cells ⟨cs⟩ t)).cell? ((⟨w.heap.size, 0, none⟩ : Addr).add j) = some u := by
  intro j u hj
  have e := heap_alloc_new w (.cells ⟨cs⟩ t)
  rw [show (⟨w.heap.size, 0, none⟩ : Addr).add j = ⟨w.heap.size, 0 + j, none⟩ by unfold Addr.add; split <;> simp_all]
  simp only [World.cell?, e]
  simpa using hj
theorem step_append_own {P : Program} {ops : Array Oper} {o : Oper} {a : Act} {w : World} {K : Act → World → Prop} {Q : Exit → Act → World → Prop} {E : Prop} (hgd : o.guard = none) (s x : Operand) (t : TypeId)
    (ho : o.op = .call { callee := .builtin .append, args := #[s, x], argTypes := #[t, t] })
    (base : Nat) (e : TypeId) (i : TypeInfo) (z : Value) (size bytes : Nat) (ht : P.underlying t = some (.slice e)) (hi : P.info? e = some i) (hz : i.zero = some z)
    (hsize : i.size = size) (hby : i.bytes = bytes) (hzs : z.cells.size = size) (hsz : 0 < size)
    (v : Value) (n : Nat) (xs : List Value) (hs : a.eval s = v) (hown : w.ownsRow base e size v n xs)
    (ad : Addr) (m c : Nat) (news : List Value) (hx : a.eval x = .slice (some ad) m c) (hl : news.length = m * size) (hnews : ∀ j u, news[j]? = some u → w.cell? (ad.add j) = some u) (h1 : ∀ u ∈ news, u.oneCell' = true)
    (h63 : n + m ≤ maxLen) (hbytes : (n + m) * bytes ≤ 140737488355328) (hbase : base ≤ w.heap.size)
    (h : ∀ v' w', w'.ownsRow base e size v' (n + m) (xs ++ news) → w.grownBy w' v.ownBlock → (v' = .slice none 0 0 ↔ v = .slice none 0 0 ∧ m = 0) → K (a.put o.dst v') w') : if Region.wanted o (yielded ops a.tmps) = true then Oper.wp P o a w K Q else E := by
  have hw : Region.wanted o (yielded ops a.tmps) = true := by simp [Region.wanted, hgd]
  rw [if_pos hw]
  exact wp_append_own w s x t ho base e i z size bytes ht hi hz hsize hby hzs hsz v n xs hs hown ad m c news hx hl hnews h1 h63 hbytes hbase h

/-! ## What the maker and the function hold -/
/-- an instruction's cells -/
def ins (op : Int) (a b c : Int) (s : ByteArray) : List Value := [.int .u8 op, .int .i64 a, .int .i64 b, .int .i64 c, .string s]
def zeroIns : List Value := ins 0 0 0 0 { data := #[] }
theorem i50 : (Tryz.prog.info? 50).map (fun i => (i.size, i.bytes, i.zero)) = some (5, 48, some (.agg ⟨zeroIns⟩)) := by kernel_rfl
theorem ins_one (op a b c : Int) (s : ByteArray) : ∀ u ∈ ins op a b c s, u.oneCell' = true := by simp [ins, Value.oneCell']
structure MF (B : Nat) (w : World) (mb fb : Nat) (fv rv bv code : Value) (n : Nat) (xs : List Value) (h many : Int) (deep : Bool) : Prop where
  mblk : w.heap[mb]? = some (.cells #[fv, rv, .int .i64 many, .bool deep] 41 (0, 0))
  fblk : w.heap[fb]? = some (.cells #[code, .int .i64 h, bv] 46 (0, 0))
  row : w.ownsRow B 50 5 code n xs
  mge : B ≤ mb
  fge : B ≤ fb
/-- what putting leaves alone -/
structure KeptG (B mb fb : Nat) (w w' : World) : Prop where
  below : Below B w w'
  keep : ∀ b, b < w.heap.size → b ≠ mb → b ≠ fb → (∀ cs fr, w.heap[b]? ≠ some (.cells cs 50 fr)) → w'.heap[b]? = w.heap[b]?
theorem KeptG.trans {B mb fb : Nat} {w w' w'' : World} (h : KeptG B mb fb w w') (h' : KeptG B mb fb w' w'') : KeptG B mb fb w w'' :=
  ⟨h.below.trans h'.below, fun b hb h1 h2 h3 => by
    have e := h.keep b hb h1 h2 h3
    rw [h'.keep b (Nat.lt_of_lt_of_le hb h.below.size) h1 h2 (by rw [e]; exact h3), e]⟩
theorem KeptG.of_below {B mb fb : Nat} {w w' : World} (hB : B ≤ w.heap.size) (h : Below w.heap.size w w') : KeptG B mb fb w w' := ⟨h.mono hB, fun b hb _ _ _ => h.block b hb⟩
theorem MF.c0 {B : Nat} {w : World} {mb fb : Nat} {fv rv bv code : Value} {n : Nat} {xs : List Value} {h many : Int} {deep : Bool} (H : MF B w mb fb fv rv bv code n xs h many deep) :
    (w.cell? ⟨mb, 0, none⟩ = some fv ∧ w.cell? ⟨mb, 1, none⟩ = some rv ∧ w.cell? ⟨mb, 2, none⟩ = some (.int .i64 many) ∧ w.cell? ⟨mb, 3, none⟩ = some (.bool deep)) ∧
    (w.cell? ⟨fb, 0, none⟩ = some code ∧ w.cell? ⟨fb, 1, none⟩ = some (.int .i64 h) ∧ w.cell? ⟨fb, 2, none⟩ = some bv) ∧
    (∀ o, w.frozen? ⟨mb, o, none⟩ = false) ∧ (∀ o, w.frozen? ⟨fb, o, none⟩ = false) ∧ mb < w.heap.size ∧ fb < w.heap.size ∧ mb ≠ fb :=
  ⟨⟨by simp [World.cell?, H.mblk], by simp [World.cell?, H.mblk], by simp [World.cell?, H.mblk], by simp [World.cell?, H.mblk]⟩, ⟨by simp [World.cell?, H.fblk], by simp [World.cell?, H.fblk], by simp [World.cell?, H.fblk]⟩,
    fun o => by simp [World.frozen?, H.mblk], fun o => by simp [World.frozen?, H.fblk], (Array.getElem?_eq_some_iff.1 H.mblk).1, (Array.getElem?_eq_some_iff.1 H.fblk).1, fun e => by have h1 := H.mblk; rw [e, H.fblk] at h1; cases h1⟩
theorem MF.below {B : Nat} {w w' : World} {mb fb : Nat} {fv rv bv code : Value} {n : Nat} {xs : List Value} {h many : Int} {deep : Bool} (H : MF B w mb fb fv rv bv code n xs h many deep) (hb : Below w.heap.size w w') : MF B w' mb fb fv rv bv code n xs h many deep :=
  ⟨(hb.block mb (Array.getElem?_eq_some_iff.1 H.mblk).1).trans H.mblk, (hb.block fb (Array.getElem?_eq_some_iff.1 H.fblk).1).trans H.fblk, ownsRow_below H.row hb, H.mge, H.fge⟩
theorem cells_new' (w : World) (cs : List Value) (t : TypeId) (n : Nat) (hn : n = w.heap.size) : ∀ j u, cs[j]? = some u → (w.alloc (.cells ⟨cs⟩ t)).cell? ((⟨n, 0, none⟩ : Addr).add j) = some u := by
  subst hn
  exact cells_new w cs t
theorem MF.own {B : Nat} {w : World} {mb fb : Nat} {fv rv bv code : Value} {n : Nat} {xs : List Value} {h many : Int} {deep : Bool} (H : MF B w mb fb fv rv bv code n xs h many deep) : code.ownBlock ≠ some mb ∧ code.ownBlock ≠ some fb := by
  rcases H.row.2 with ⟨rfl, _⟩ | ⟨g, cap, cur, rfl, _, h3, _⟩
  · exact ⟨fun e => (by cases e), fun e => (by cases e)⟩
  · refine ⟨fun e => ?_, fun e => ?_⟩
    · simp [Value.ownBlock] at e; subst e; rw [H.mblk] at h3; cases h3
    · simp [Value.ownBlock] at e; subst e; rw [H.fblk] at h3; cases h3
theorem keepH {w X w' : World} {row : Option Nat} (hX : Below w.heap.size w X) (hg : X.grownBy w' row) {pb : Nat} {ob : Obj} (hb : w.heap[pb]? = some ob) (hne : row ≠ some pb) : w'.heap[pb]? = some ob := by
  have hl := (Array.getElem?_eq_some_iff.1 hb).1
  exact ((hg.block pb (by have := hX.size; omega) (fun e => hne e.symm)).trans (hX.block pb hl)).trans hb
theorem row_form {w : World} {base e size n : Nat} {v : Value} {xs : List Value} (h : w.ownsRow base e size v (n + 1) xs) : ∃ g cap, v = .slice (some ⟨g, 0, none⟩) (n + 1) cap ∧ base ≤ g ∧ g < w.heap.size := by
  rcases h.2 with ⟨_, h0⟩ | ⟨g, cap, cur, rfl, hbg, hg, _⟩
  · omega
  · exact ⟨g, cap, rfl, hbg, (Array.getElem?_eq_some_iff.1 hg).1⟩
theorem row_setCell {w : World} {base e size n : Nat} {v : Value} {xs : List Value} (h : w.ownsRow base e size v n xs) {p : Addr} {u : Value} (hp : v.ownBlock ≠ some p.block) : (w.setCell p u).ownsRow base e size v n xs := by
  refine ⟨h.1, ?_⟩
  rcases h.2 with h | ⟨g, cap, cur, rfl, h2, h3, h4⟩
  · exact .inl h
  · exact .inr ⟨g, cap, cur, rfl, h2, by rw [Below.heap_setCell _ _ _ _ (fun e => hp (by rw [← e]; rfl))]; exact h3, h4⟩
theorem KeptG.setCell {B mb fb : Nat} {w w' : World} (h : KeptG B mb fb w w') {p : Addr} (hp : p.block = mb ∨ p.block = fb) (hB : B ≤ p.block) (u : Value) : KeptG B mb fb w (w'.setCell p u) :=
  ⟨h.below.setCell hB u, fun b hb h1 h2 h3 => by
    rw [Below.heap_setCell _ _ _ _ (by rcases hp with e | e <;> rw [e] <;> assumption)]
    exact h.keep b hb h1 h2 h3⟩
theorem MF.setH {B : Nat} {w : World} {mb fb : Nat} {fv rv bv code : Value} {n : Nat} {xs : List Value} {h many : Int} {deep : Bool} (H : MF B w mb fb fv rv bv code n xs h many deep) (h' : Int) : MF B (w.setCell ⟨fb, 1, none⟩ (.int .i64 h')) mb fb fv rv bv code n xs h' many deep :=
  ⟨by rw [Below.heap_setCell _ _ _ _ H.c0.2.2.2.2.2.2]; exact H.mblk, Go.Joins.block_setCell (cs := #[code, .int .i64 h, bv]) H.fblk _, row_setCell H.row H.own.2, H.mge, H.fge⟩
theorem MF.setMany {B : Nat} {w : World} {mb fb : Nat} {fv rv bv code : Value} {n : Nat} {xs : List Value} {h many : Int} {deep : Bool} (H : MF B w mb fb fv rv bv code n xs h many deep) (many' : Int) : MF B (w.setCell ⟨mb, 2, none⟩ (.int .i64 many')) mb fb fv rv bv code n xs h many' deep :=
  ⟨Go.Joins.block_setCell (cs := #[fv, rv, .int .i64 many, .bool deep]) H.mblk _, by rw [Below.heap_setCell _ _ _ _ (Ne.symm H.c0.2.2.2.2.2.2)]; exact H.fblk, row_setCell H.row H.own.1, H.mge, H.fge⟩
theorem MF.setDeep {B : Nat} {w : World} {mb fb : Nat} {fv rv bv code : Value} {n : Nat} {xs : List Value} {h many : Int} {deep : Bool} (H : MF B w mb fb fv rv bv code n xs h many deep) (d : Bool) : MF B (w.setCell ⟨mb, 3, none⟩ (.bool d)) mb fb fv rv bv code n xs h many d :=
  ⟨Go.Joins.block_setCell (cs := #[fv, rv, .int .i64 many, .bool deep]) H.mblk _, by rw [Below.heap_setCell _ _ _ _ (Ne.symm H.c0.2.2.2.2.2.2)]; exact H.fblk, row_setCell H.row H.own.1, H.mge, H.fge⟩
end Go.Gen
set_option linter.unusedVariables false
set_option linter.unusedSimpArgs false
set_option maxRecDepth 100000
set_option maxHeartbeats 4000000
namespace Go.Gen
open Go Go.RowKit Go.Proofs
/-- what put answers and leaves -/
def PutP (B : Nat) (w : World) (mb fb : Nat) (fv rv bv : Value) (n : Nat) (xs : List Value) (h many : Int) (deep : Bool) (x : List Value) (more : Int) (e : Ending) (w' : World) : Prop :=
  e = .returned (.int .i64 n) ∧ KeptG B mb fb w w' ∧ ∃ code', MF B w' mb fb fv rv bv code' (n + 1) (xs ++ x) (h + more) (many + 1) (deep || decide (60000 < h + more) || decide (1048576 < many + 1))
theorem put_ok {B : Nat} {w : World} {mb fb : Nat} {fv rv bv code : Value} {n : Nat} {xs : List Value} {h many : Int} {deep : Bool} (H : MF B w mb fb fv rv bv code n xs h many deep) (hB : B ≤ w.heap.size)
    (hn : n ≤ 1000000) (hh : -1000000 ≤ h ∧ h ≤ 1000000) (hm : 0 ≤ many ∧ many ≤ 10000000) (op a b c : Int) (s : ByteArray) (more : Int) (hmo : -1000000 ≤ more ∧ more ≤ 1000000) :
    Calls Tryz.prog 8 #[.pointer (some ⟨mb, 0, none⟩), .pointer (some ⟨fb, 0, none⟩), .agg #[.int .u8 op, .int .i64 a, .int .i64 b, .int .i64 c, .string s], .int .i64 more] w fun e w' => PutP B w mb fb fv rv bv n xs h many deep (ins op a b c s) more e w' := by
  obtain ⟨⟨m0, m1, m2, m3⟩, ⟨f0, f1, f2⟩, fzm, fzf, ml, fl, hne⟩ := H.c0
  have hzm2 := fzm 2
  have hzm3 := fzm 3
  have hzf0 := fzf 0
  have hzf1 := fzf 1
  have HH := Lib.hid H
  obtain ⟨i, hi, hi2⟩ := Option.map_eq_some_iff.1 i50
  have HI := Lib.hid hi
  have HZ1 := Lib.hid (congrArg Prod.fst hi2 : i.size = 5)
  have HZ2 := Lib.hid (congrArg (fun x => x.2.1) hi2 : i.bytes = 48)
  have HZ0 := Lib.hid (congrArg (fun x => x.2.2) hi2 : i.zero = some (.agg ⟨zeroIns⟩))
  clear hi hi2 H fzm fzf
  obtain ⟨ca, cc, rfl⟩ : ∃ ca cc, code = .slice ca n cc := by
    rcases HH.out.row.2 with ⟨h, h0⟩ | ⟨g, cap, cur, h1, _⟩
    · exact ⟨none, 0, by rw [h, h0]⟩
    · exact ⟨_, _, h1⟩
  go_enter Tryz.func8, Tryz.ntmps8
  go_wp2
  obtain ⟨hom, hof⟩ := HH.out.own
  go_region_law ((refine step_append_own rfl _ _ 43 rfl B 50 i (.agg ⟨zeroIns⟩) 5 48 Tryz.underlying43 HI.out HZ0.out HZ1.out HZ2.out rfl (by decide) _ n xs rfl (ownsRow_below HH.out.row (by repeat (first | exact Below.refl _ _ | refine Below.drew ?_ | refine Below.alloc ?_ (by first | (simp; done) | (simp; omega)) _))) ⟨w.heap.size + 1, 0, none⟩ 1 1 (ins op a b c s) rfl rfl (cells_new' _ _ _ _ (by simp)) (ins_one op a b c s) (by simp only [maxLen]; omega) (by omega) (by simp; omega) ?_; intro v' w' ho hgr hnil; obtain ⟨g, cap, rfl, hgg, hgl⟩ := row_form ho; (have hX : ∃ X, Below w.heap.size w X ∧ X.grownBy w' (Value.slice ca n cc).ownBlock := ⟨_, (by repeat (first | exact Below.refl _ _ | refine Below.drew ?_ | refine Below.alloc ?_ (by first | (simp; done) | (simp; omega)) _)), hgr⟩); (have hfb := keepH (w := w) (by repeat (first | exact Below.refl _ _ | refine Below.drew ?_ | refine Below.alloc ?_ (by first | (simp; done) | (simp; omega)) _)) hgr HH.out.fblk hof); (have hmb := keepH (w := w) (by repeat (first | exact Below.refl _ _ | refine Below.drew ?_ | refine Below.alloc ?_ (by first | (simp; done) | (simp; omega)) _)) hgr HH.out.mblk hom); (have r0 : w'.cell? ⟨fb, 0, none⟩ = some (.slice ca n cc) := by simp [World.cell?, hfb]); (have rf : w'.frozen? ⟨fb, 0, none⟩ = false := by simp [World.frozen?, hfb]); (have HO := Lib.hid ho); (have HX := Lib.hid hX); (have HFB := Lib.hid hfb); (have HMB := Lib.hid hmb); clear ho hgr hX hfb hmb hnil))
  all_goals
    have hM1 : MF B (w'.setCell ⟨fb, 0, none⟩ (.slice (some ⟨g, 0, none⟩) (n + 1) cap)) mb fb fv rv bv (.slice (some ⟨g, 0, none⟩) (n + 1) cap) (n + 1) (xs ++ ins op a b c s) h many deep := by
      have hgb : g ≠ fb := by
        rintro rfl
        rcases HO.out.2 with ⟨e, _⟩ | ⟨g', cap', cur, e, _, h3, _⟩
        · cases e
        · cases e; rw [HFB.out] at h3; cases h3
      refine ⟨by rw [Below.heap_setCell _ _ _ _ hne]; exact HMB.out, Go.Joins.block_setCell (cs := #[.slice ca n cc, .int .i64 h, bv]) HFB.out _, row_setCell HO.out (by intro e; injection e with e; exact hgb e), HH.out.mge, HH.out.fge⟩
    have hK1 : KeptG B mb fb w (w'.setCell ⟨fb, 0, none⟩ (.slice (some ⟨g, 0, none⟩) (n + 1) cap)) := by
      obtain ⟨X, hX1, hX2⟩ := HX.out
      refine KeptG.setCell (p := ⟨fb, 0, none⟩) ⟨(hX1.mono hB).grown hX2 (by have := hX1.size; omega) (fun k hk => ?_), fun b hb h1 h2 h3 => ?_⟩ (.inr rfl) HH.out.fge _
      · rcases HH.out.row.2 with ⟨e, _⟩ | ⟨g', cap', cur, e, h2, _⟩
        · cases e; cases hk
        · cases e; simp [Value.ownBlock] at hk; subst hk; exact h2
      · refine (hX2.block b (by have := hX1.size; omega) (fun e => ?_)).trans (hX1.block b hb)
        rcases HH.out.row.2 with ⟨e', _⟩ | ⟨g', cap', cur, e', _, h5, _⟩
        · cases e'; cases e
        · cases e'; simp [Value.ownBlock] at e; subst e; exact h3 _ _ h5
    clear r0 rf m0 m1 m2 m3 f0 f1 f2 hzm2 hzm3 hzf0 hzf1 HO HX HFB HMB hom hof hgg hgl
    generalize (w'.setCell ⟨fb, 0, none⟩ (.slice (some ⟨g, 0, none⟩) (n + 1) cap)) = w1 at *
    obtain ⟨⟨m0, m1, m2, m3⟩, ⟨f0, f1, f2⟩, fzm, fzf, ml1, fl1, _⟩ := hM1.c0
    have hzm2 := fzm 2
    have hzm3 := fzm 3
    have hzf1 := fzf 1
    have HM1 := Lib.hid hM1
    have HK1 := Lib.hid hK1
    clear hM1 hK1 fzm fzf
    cases deep with
    | true =>
      have hd : (true || decide (60000 < h + more) || decide (1048576 < many + 1)) = true := by simp
      go_wp2
      go_ret
      refine ⟨?_, ((HK1.out.setCell (p := ⟨fb, 1, none⟩) (.inr rfl) HH.out.fge (.int .i64 (h + more))).setCell (p := ⟨mb, 2, none⟩) (.inl rfl) HH.out.mge (.int .i64 (many + 1))).setCell (p := ⟨mb, 3, none⟩) (.inl rfl) HH.out.mge (.bool (true)), .slice (some ⟨g, 0, none⟩) (n + 1) cap, ?_⟩
      · first | rfl | (congr 2; omega)
      · rw [hd]; exact (((HM1.out.setH (h + more)).setMany (many + 1)).setDeep (true))
    | false =>
      by_cases h6 : 60000 < h + more
      · have hd : (false || decide (60000 < h + more) || decide (1048576 < many + 1)) = true := by simp [h6]
        go_wp2
        go_ret
        refine ⟨?_, ((HK1.out.setCell (p := ⟨fb, 1, none⟩) (.inr rfl) HH.out.fge (.int .i64 (h + more))).setCell (p := ⟨mb, 2, none⟩) (.inl rfl) HH.out.mge (.int .i64 (many + 1))).setCell (p := ⟨mb, 3, none⟩) (.inl rfl) HH.out.mge (.bool (true)), .slice (some ⟨g, 0, none⟩) (n + 1) cap, ?_⟩
        · first | rfl | (congr 2; omega)
        · rw [hd]; exact (((HM1.out.setH (h + more)).setMany (many + 1)).setDeep (true))
      · have hd : (false || decide (60000 < h + more) || decide (1048576 < many + 1)) = decide (1048576 < many + 1) := by simp [h6]
        go_wp2
        go_ret
        refine ⟨?_, ((HK1.out.setCell (p := ⟨fb, 1, none⟩) (.inr rfl) HH.out.fge (.int .i64 (h + more))).setCell (p := ⟨mb, 2, none⟩) (.inl rfl) HH.out.mge (.int .i64 (many + 1))).setCell (p := ⟨mb, 3, none⟩) (.inl rfl) HH.out.mge (.bool (decide (1048576 < many + 1))), .slice (some ⟨g, 0, none⟩) (n + 1) cap, ?_⟩
        · first | rfl | (congr 2; omega)
        · rw [hd]; exact (((HM1.out.setH (h + more)).setMany (many + 1)).setDeep (decide (1048576 < many + 1)))
end Go.Gen
set_option linter.unusedVariables false
set_option linter.unusedSimpArgs false
set_option maxRecDepth 100000
set_option maxHeartbeats 4000000
namespace Go.Gen
open Go Go.RowKit Go.Proofs
/-- one instruction is laid -/
def LaidP (B : Nat) (w : World) (mb fb : Nat) (fv rv bv : Value) (n : Nat) (xs : List Value) (h many : Int) (deep : Bool) (x : List Value) (more : Int) (e : Ending) (w' : World) : Prop :=
  e = .returned (.tuple #[]) ∧ KeptG B mb fb w w' ∧ ∃ code', MF B w' mb fb fv rv bv code' (n + 1) (xs ++ x) (h + more) (many + 1) (deep || decide (60000 < h + more) || decide (1048576 < many + 1))
theorem plain_int {B : Nat} {w : World} {mb fb : Nat} {fv rv bv code : Value} {n : Nat} {xs : List Value} {h many : Int} {deep : Bool} (H : MF B w mb fb fv rv bv code n xs h many deep) (hB : B ≤ w.heap.size)
    (hn : n ≤ 1000000) (hh : -1000000 ≤ h ∧ h ≤ 1000000) (hm : 0 ≤ many ∧ many ≤ 10000000) (num : Int) (s : ByteArray) (ka : Option Addr) (kc : Nat) :
    Calls Tryz.prog 31 #[.pointer (some ⟨mb, 0, none⟩), .pointer (some ⟨fb, 0, none⟩), .agg #[.int .u8 1, .int .i64 num, .string s, .slice ka 0 kc]] w fun e w' => LaidP B w mb fb fv rv bv n xs h many deep (ins 1 num 0 0 { data := #[] }) 1 e w' := by
  have HH := Lib.hid H
  have HP : Hid (∀ w1, Below w.heap.size w w1 → Calls Tryz.prog 8 #[.pointer (some ⟨mb, 0, none⟩), .pointer (some ⟨fb, 0, none⟩), .agg #[.int .u8 1, .int .i64 num, .int .i64 0, .int .i64 0, .string { data := #[] }], .int .i64 1] w1 fun e w' => PutP B w1 mb fb fv rv bv n xs h many deep (ins 1 num 0 0 { data := #[] }) 1 e w') :=
    Lib.hid fun w1 hb => put_ok (H.below hb) (by have := hb.size; omega) hn hh hm 1 num 0 0 _ 1 (by omega)
  clear H
  go_enter Tryz.func31, Tryz.ntmps31
  go_wp2
  refine wp_loop_rounds 1 ?_
  rw [rounds_succ]
  go_wp2_with fail
  refine (HP.out _ (by repeat (first | exact Below.refl _ _ | refine Below.drew ?_ | refine Below.alloc ?_ (by first | (simp; done) | (simp; omega)) _))).mono ?_
  rintro e w2 ⟨rfl, hk, code', hM⟩
  have HK := Lib.hid ((KeptG.of_below hB (by repeat (first | exact Below.refl _ _ | refine Below.drew ?_ | refine Below.alloc ?_ (by first | (simp; done) | (simp; omega)) _))).trans hk)
  have HM := Lib.hid hM
  clear hk hM
  go_wp2
  go_end0
  exact ⟨rfl, HK.out, code', HM.out⟩
end Go.Gen
set_option linter.unusedVariables false
set_option linter.unusedSimpArgs false
set_option maxRecDepth 100000
set_option maxHeartbeats 4000000
namespace Go.Gen
open Go Go.RowKit Go.Proofs
theorem needs1 (w : World) : Calls Tryz.prog 27 #[.int .u8 1] w fun e w' => e = .returned (.int .i64 0) ∧ w' = w := by
  go_enter Tryz.func27, Tryz.ntmps27
  go_wp2
  go_ret
  exact ⟨rfl, rfl⟩
theorem needs9 (w : World) : Calls Tryz.prog 27 #[.int .u8 9] w fun e w' => e = .returned (.int .i64 2) ∧ w' = w := by
  go_enter Tryz.func27, Tryz.ntmps27
  go_wp2
  go_ret
  exact ⟨rfl, rfl⟩
/-- a number is laid, unless it is too deep already -/
theorem core_int {B : Nat} {w : World} {mb fb : Nat} {fv rv bv code : Value} {n : Nat} {xs : List Value} {h many : Int} (H : MF B w mb fb fv rv bv code n xs h many false) (hB : B ≤ w.heap.size)
    (hn : n ≤ 1000000) (hh : -1000000 ≤ h ∧ h ≤ 1000000) (hm : 0 ≤ many ∧ many ≤ 10000000) (num : Int) (s : ByteArray) (ka : Option Addr) (kc : Nat) :
    Calls Tryz.prog 17 #[.pointer (some ⟨mb, 0, none⟩), .pointer (some ⟨fb, 0, none⟩), .agg #[.int .u8 1, .int .i64 num, .string s, .slice ka 0 kc]] w fun e w' => LaidP B w mb fb fv rv bv n xs h many false (ins 1 num 0 0 { data := #[] }) 1 e w' := by
  obtain ⟨⟨m0, m1, m2, m3⟩, ⟨f0, f1, f2⟩, fzm, fzf, ml, fl, hne⟩ := H.c0
  have HP : Hid (∀ w1, Below w.heap.size w w1 → Calls Tryz.prog 31 #[.pointer (some ⟨mb, 0, none⟩), .pointer (some ⟨fb, 0, none⟩), .agg #[.int .u8 1, .int .i64 num, .string s, .slice ka 0 kc]] w1 fun e w' => LaidP B w1 mb fb fv rv bv n xs h many false (ins 1 num 0 0 { data := #[] }) 1 e w') :=
    Lib.hid fun w1 hb => plain_int (H.below hb) (by have := hb.size; omega) hn hh hm num s ka kc
  clear H fzm fzf m0 m1 m2 f0 f1 f2
  go_enter Tryz.func17, Tryz.ntmps17
  go_wp2
  go_region_with (go_at_call 27; refine (needs1 _).mono ?_; rintro e w' ⟨rfl, rfl⟩)
  all_goals
    go_wp2_with fail
    refine (HP.out _ (by repeat (first | exact Below.refl _ _ | refine Below.drew ?_ | refine Below.alloc ?_ (by first | (simp; done) | (simp; omega)) _))).mono ?_
    rintro e w2 ⟨rfl, hk, code', hM⟩
    have HK := Lib.hid ((KeptG.of_below hB (by repeat (first | exact Below.refl _ _ | refine Below.drew ?_ | refine Below.alloc ?_ (by first | (simp; done) | (simp; omega)) _))).trans hk)
    have HM := Lib.hid hM
    clear hk hM
    go_wp2
    go_end0
    exact ⟨rfl, HK.out, code', HM.out⟩
/-- too deep: nothing is laid -/
theorem core_deep {B : Nat} {w : World} {mb fb : Nat} {fv rv bv code : Value} {n : Nat} {xs : List Value} {h many : Int} (H : MF B w mb fb fv rv bv code n xs h many true) (hB : B ≤ w.heap.size) (c0 c1 c2 c3 : Value) :
    Calls Tryz.prog 17 #[.pointer (some ⟨mb, 0, none⟩), .pointer (some ⟨fb, 0, none⟩), .agg #[c0, c1, c2, c3]] w fun e w' => e = .returned (.tuple #[]) ∧ Below w.heap.size w w' := by
  obtain ⟨⟨m0, m1, m2, m3⟩, ⟨f0, f1, f2⟩, fzm, fzf, ml, fl, hne⟩ := H.c0
  clear H fzm fzf m0 m1 m2 f0 f1 f2
  go_enter Tryz.func17, Tryz.ntmps17
  go_wp2
  go_region
  all_goals
    go_wp2
    first
      | go_end0
      | ((try simp only [Exit.inBlock, Exit.then]); refine bodyPost_ret (results_none rfl _ _ _) rfl ?_)
    exact ⟨rfl, (by repeat (first | exact Below.refl _ _ | refine Below.drew ?_ | refine Below.alloc ?_ (by first | (simp; done) | (simp; omega)) _))⟩
end Go.Gen
set_option linter.unusedVariables false
set_option linter.unusedSimpArgs false
set_option maxRecDepth 100000
set_option maxHeartbeats 4000000
namespace Go.Gen
open Go Go.RowKit Go.Proofs
/-- so many numbers, as instructions -/
def insL : Nat → List Value
  | 0 => []
  | m + 1 => insL m ++ ins 1 m 0 0 { data := #[] }
/-- how many are laid of k -/
def laid (k : Nat) : Nat := min k 60001
/-- the tuple's kids -/
def KidsV (W : World) (kb ko N : Nat) : Prop := ∀ i, i < N → W.cell? ⟨kb, ko + i * 4, none⟩ = some (.int .u8 1) ∧ W.cell? ⟨kb, ko + i * 4 + 1, none⟩ = some (.int .i64 i) ∧ W.cell? ⟨kb, ko + i * 4 + 2, none⟩ = some (.string { data := #[] }) ∧ W.cell? ⟨kb, ko + i * 4 + 3, none⟩ = some (.slice none 0 0)
theorem KeptG.box {B mb fb : Nat} {w w' : World} (h : KeptG B mb fb w w') {b : Nat} {cs : Array Value} {T : TypeId} {fr : Nat × Nat} (hb : w.heap[b]? = some (.cells cs T fr)) (hT : T ≠ 50) (h1 : b ≠ mb) (h2 : b ≠ fb) : w'.heap[b]? = some (.cells cs T fr) :=
  (h.keep b (Array.getElem?_eq_some_iff.1 hb).1 h1 h2 fun cs' fr' e => by rw [hb] at e; injection e with e; injection e with _ e; exact hT e).trans hb
/-- what is laid so far -/
def SoFar (B mb fb : Nat) (fv rv bv : Value) (w w1 wr : World) (k : Nat) : Prop := KeptG B mb fb w1 wr ∧ ∃ code, MF B wr mb fb fv rv bv code (laid k) (insL (laid k)) (laid k : Nat) (laid k : Nat) (decide (60000 < laid k))
theorem laid_small {k : Nat} (h : ¬ 60000 < laid k) : laid k = k ∧ laid (k + 1) = k + 1 := by unfold laid at *; omega
theorem laid_big {k : Nat} (h : 60000 < laid k) : laid k = 60001 ∧ laid (k + 1) = 60001 := by unfold laid at *; omega
theorem plain_tuple {B : Nat} {w W0 : World} {mb fb : Nat} {fv rv bv code : Value} (H : MF B w mb fb fv rv bv code 0 [] 0 0 false) (hB : B ≤ w.heap.size) (hB0 : B = W0.heap.size) (hW : Below B W0 w) {kb ko kc N : Nat} (hK : KidsV W0 kb ko N) (hN : N ≤ 65001) (num : Int) (s : ByteArray) :
    Calls Tryz.prog 31 #[.pointer (some ⟨mb, 0, none⟩), .pointer (some ⟨fb, 0, none⟩), .agg #[.int .u8 9, .int .i64 num, .string s, .slice (some ⟨kb, ko, none⟩) N kc]] w fun e w' =>
      e = .returned (.tuple #[]) ∧ KeptG B mb fb w w' ∧ ∃ code', MF B w' mb fb fv rv bv code' (laid N + 1) (insL (laid N) ++ ins 11 N 0 0 { data := #[] }) ((laid N : Nat) + (1 - (N : Int))) ((laid N : Nat) + 1) (decide (60000 < laid N) || decide (60000 < ((laid N : Nat) : Int) + (1 - (N : Int))) || decide (1048576 < ((laid N : Nat) : Int) + 1)) := by
  obtain ⟨_, _, _, _, ml, fl, hne⟩ := H.c0
  have HH := Lib.hid H
  have HKV := Lib.hid hK
  have HW := Lib.hid hW
  have hbk := heap_alloc_new w (.cells #[.int .u8 9, .int .i64 num, .string s, .slice (some ⟨kb, ko, none⟩) N kc] 25)
  have HBK := Lib.hid hbk
  have HST : Hid (SoFar B mb fb fv rv bv w (w.alloc (.cells #[.int .u8 9, .int .i64 num, .string s, .slice (some ⟨kb, ko, none⟩) N kc] 25)) (w.alloc (.cells #[.int .u8 9, .int .i64 num, .string s, .slice (some ⟨kb, ko, none⟩) N kc] 25)) 0) :=
    Lib.hid ⟨KeptG.of_below (by simp; omega) (Below.refl _ _), _, H.below ((Below.refl _ _).alloc (Nat.le_refl _) _)⟩
  have HK0 : Hid (KeptG B mb fb w (w.alloc (.cells #[.int .u8 9, .int .i64 num, .string s, .slice (some ⟨kb, ko, none⟩) N kc] 25))) := Lib.hid (KeptG.of_below hB ((Below.refl _ _).alloc (Nat.le_refl _) _))
  have hsz : (w.alloc (.cells #[.int .u8 9, .int .i64 num, .string s, .slice (some ⟨kb, ko, none⟩) N kc] 25)).heap.size = w.heap.size + 1 := by simp
  clear H hK hW hbk
  go_enter Tryz.func31, Tryz.ntmps31
  go_wp2
  generalize hw1 : (w.alloc (.cells #[.int .u8 9, .int .i64 num, .string s, .slice (some ⟨kb, ko, none⟩) N kc] 25)) = w1 at *
  go_loopw [13] (fun j wr => ∃ k : Nat, k ≤ N ∧ j = .int .i64 k ∧ Hid (SoFar B mb fb fv rv bv w w1 wr k)) (fun j _ => N - (intOf j).toNat)
  case atStart => exact ⟨0, Nat.zero_le _, rfl, HST⟩
  case round =>
    obtain ⟨k, hk, rfl, hS⟩ := hrel
    have hbw : wr.heap[w.heap.size]? = some (.cells #[.int .u8 9, .int .i64 num, .string s, .slice (some ⟨kb, ko, none⟩) N kc] 25 (0, 0)) := hS.out.1.box HBK.out (by decide) (by omega) (by omega)
    have t0 : wr.cell? ⟨w.heap.size, 0, none⟩ = some (.int .u8 9) := by simp [World.cell?, hbw]
    have t1 : wr.cell? ⟨w.heap.size, 1, none⟩ = some (.int .i64 num) := by simp [World.cell?, hbw]
    have t3 : wr.cell? ⟨w.heap.size, 3, none⟩ = some (.slice (some ⟨kb, ko, none⟩) N kc) := by simp [World.cell?, hbw]
    have hbl := cell_lt t0
    clear hbw
    by_cases hlt : k < N
    · have hbb : Below B W0 wr := (HW.out.trans HK0.out.below).trans hS.out.1.below
      obtain ⟨q0, q1, q2, q3⟩ := HKV.out k hlt
      have hkb : kb < B := by rw [hB0]; exact cell_lt q0
      have k0 := (hbb.cell (p := ⟨kb, ko + k * 4, none⟩) hkb).trans q0
      have k1 := (hbb.cell (p := ⟨kb, ko + k * 4 + 1, none⟩) hkb).trans q1
      have k2 := (hbb.cell (p := ⟨kb, ko + k * 4 + 2, none⟩) hkb).trans q2
      have k3 := (hbb.cell (p := ⟨kb, ko + k * 4 + 3, none⟩) hkb).trans q3
      have hBr : B ≤ wr.heap.size := by
        have h1 := HW.out.size
        have := hbb.size
        omega
      obtain ⟨hkp, code2, hM⟩ := hS.out
      have HKP := Lib.hid hkp
      clear q0 q1 q2 q3 hbb hkp
      by_cases hd : 60000 < laid k
      · rw [decide_eq_true hd] at hM
        obtain ⟨e1, e2⟩ := laid_big hd
        have HC : Hid (∀ obj, Calls Tryz.prog 17 #[.pointer (some ⟨mb, 0, none⟩), .pointer (some ⟨fb, 0, none⟩), .agg #[.int .u8 1, .int .i64 k, .string { data := #[] }, .slice none 0 0]] (wr.alloc obj) fun e w' => e = .returned (.tuple #[]) ∧ Below (wr.alloc obj).heap.size (wr.alloc obj) w') := Lib.hid fun obj => core_deep (hM.below ((Below.refl _ _).alloc (Nat.le_refl _) obj)) (by simp; omega) _ _ _ _
        have HM := Lib.hid hM
        clear hM
        go_wp2_with fail
        refine (HC.out _).mono ?_
        rintro e w2 ⟨rfl, hb⟩
        have hb2 := ((Below.refl wr.heap.size wr).alloc (Nat.le_refl _) (.cells #[.int .u8 1, .int .i64 k, .string { data := #[] }, .slice none 0 0] 25)).trans (hb.mono (by simp))
        have HN : Hid (SoFar B mb fb fv rv bv w w1 w2 (k + 1)) := Lib.hid ⟨HKP.out.trans (KeptG.of_below hBr hb2), code2, by rw [e2, ← e1, decide_eq_true hd]; exact HM.out.below hb2⟩
        clear hb hb2
        go_wp2
        go_round
        case rel => exact ⟨k + 1, by omega, by simp, HN⟩
        case measure => simp [intOf]; omega
      · rw [decide_eq_false hd] at hM
        obtain ⟨e1, e2⟩ := laid_small hd
        have HC : Hid (∀ obj, Calls Tryz.prog 17 #[.pointer (some ⟨mb, 0, none⟩), .pointer (some ⟨fb, 0, none⟩), .agg #[.int .u8 1, .int .i64 k, .string { data := #[] }, .slice none 0 0]] (wr.alloc obj) fun e w' => LaidP B (wr.alloc obj) mb fb fv rv bv (laid k) (insL (laid k)) (laid k : Nat) (laid k : Nat) false (ins 1 k 0 0 { data := #[] }) 1 e w') := Lib.hid fun obj => core_int (hM.below ((Below.refl _ _).alloc (Nat.le_refl _) obj)) (by simp; omega) (by omega) (by omega) (by omega) _ _ _ _
        clear hM
        go_wp2_with fail
        refine (HC.out _).mono ?_
        rintro e w2 ⟨rfl, hk2, code3, hM3⟩
        have HN : Hid (SoFar B mb fb fv rv bv w w1 w2 (k + 1)) := Lib.hid (by
          refine ⟨(HKP.out.trans (KeptG.of_below hBr ((Below.refl _ _).alloc (Nat.le_refl _) _))).trans hk2, code3, ?_⟩
          rw [e2]
          rw [e1] at hM3
          have hx : (false || decide (60000 < (k : Int) + 1) || decide (1048576 < (k : Int) + 1)) = decide (60000 < k + 1) := by
            have h3 : decide (1048576 < (k : Int) + 1) = false := decide_eq_false (by omega)
            rw [h3, Bool.false_or, Bool.or_false]
            exact decide_eq_decide.2 (by omega)
          rw [hx] at hM3
          exact hM3)
        clear hk2 hM3
        go_wp2
        go_round
        case rel => exact ⟨k + 1, by omega, by simp, HN⟩
        case measure => simp [intOf]; omega
    · obtain rfl : k = N := by omega
      obtain ⟨hkp, code2, hM⟩ := hS.out
      have hBr : B ≤ wr.heap.size := Nat.le_trans (by omega : B ≤ w1.heap.size) hkp.below.size
      have hl : laid k ≤ 60001 := by unfold laid; omega
      have HC : Hid (∀ obj, Calls Tryz.prog 8 #[.pointer (some ⟨mb, 0, none⟩), .pointer (some ⟨fb, 0, none⟩), .agg #[.int .u8 11, .int .i64 k, .int .i64 0, .int .i64 0, .string { data := #[] }], .int .i64 (1 - (k : Int))] (wr.alloc obj) fun e w' => PutP B (wr.alloc obj) mb fb fv rv bv (laid k) (insL (laid k)) (laid k : Nat) (laid k : Nat) (decide (60000 < laid k)) (ins 11 k 0 0 { data := #[] }) (1 - (k : Int)) e w') := Lib.hid fun obj => put_ok (hM.below ((Below.refl _ _).alloc (Nat.le_refl _) obj)) (by simp; omega) (by omega) (by omega) (by omega) 11 k 0 0 _ (1 - (k : Int)) (by omega)
      have HKP := Lib.hid hkp
      clear hM hkp
      go_wp2_with fail
      refine (HC.out _).mono ?_
      rintro e w2 ⟨rfl, hk2, code3, hM3⟩
      have HKF := Lib.hid (((HK0.out.trans HKP.out).trans (KeptG.of_below hBr ((Below.refl _ _).alloc (Nat.le_refl _) _))).trans hk2)
      have HM := Lib.hid hM3
      clear hk2 hM3
      go_wp2
      go_end0
      exact ⟨rfl, HKF.out, code3, HM.out⟩
end Go.Gen
set_option linter.unusedVariables false
set_option linter.unusedSimpArgs false
set_option maxRecDepth 100000
set_option maxHeartbeats 4000000
namespace Go.Gen
open Go Go.RowKit Go.Proofs
/-- what the tuple leaves -/
def TupP (B : Nat) (w : World) (mb fb : Nat) (fv rv bv : Value) (N : Nat) (e : Ending) (w' : World) : Prop :=
  e = .returned (.tuple #[]) ∧ KeptG B mb fb w w' ∧ ∃ code', MF B w' mb fb fv rv bv code' (laid N + 1) (insL (laid N) ++ ins 11 N 0 0 { data := #[] }) ((laid N : Nat) + (1 - (N : Int))) ((laid N : Nat) + 1) (decide (60000 < laid N))
theorem tup_deep {N : Nat} (hN : N ≤ 65001) (h2 : 2 ≤ N) : (decide (60000 < laid N) || decide (60000 < ((laid N : Nat) : Int) + (1 - (N : Int))) || decide (1048576 < ((laid N : Nat) : Int) + 1)) = decide (60000 < laid N) := by
  have h1 : laid N ≤ 60001 := by unfold laid; omega
  have h3 : laid N ≤ N := by unfold laid; omega
  rw [decide_eq_false (show ¬ 60000 < ((laid N : Nat) : Int) + (1 - (N : Int)) by omega), decide_eq_false (show ¬ 1048576 < ((laid N : Nat) : Int) + 1 by omega), Bool.or_false, Bool.or_false]
theorem core_tuple {B : Nat} {w W0 : World} {mb fb : Nat} {fv rv bv code : Value} (H : MF B w mb fb fv rv bv code 0 [] 0 0 false) (hB : B ≤ w.heap.size) (hB0 : B = W0.heap.size) (hW : Below B W0 w) {kb ko kc N : Nat} (hK : KidsV W0 kb ko N) (hN : N ≤ 65001) (h2 : 2 ≤ N) (num : Int) (s : ByteArray) :
    Calls Tryz.prog 17 #[.pointer (some ⟨mb, 0, none⟩), .pointer (some ⟨fb, 0, none⟩), .agg #[.int .u8 9, .int .i64 num, .string s, .slice (some ⟨kb, ko, none⟩) N kc]] w fun e w' => TupP B w mb fb fv rv bv N e w' := by
  obtain ⟨⟨m0, m1, m2, m3⟩, ⟨f0, f1, f2⟩, fzm, fzf, ml, fl, hne⟩ := H.c0
  have HP : Hid (∀ w1, Below w.heap.size w w1 → Calls Tryz.prog 31 #[.pointer (some ⟨mb, 0, none⟩), .pointer (some ⟨fb, 0, none⟩), .agg #[.int .u8 9, .int .i64 num, .string s, .slice (some ⟨kb, ko, none⟩) N kc]] w1 fun e w' => TupP B w1 mb fb fv rv bv N e w') :=
    Lib.hid fun w1 hb => by
      refine (plain_tuple (H.below hb) (by have := hb.size; omega) hB0 (hW.trans (hb.mono hB)) hK hN num s).mono ?_
      rintro e w' ⟨h1, h3, code', h4⟩
      rw [tup_deep hN h2] at h4
      exact ⟨h1, h3, code', h4⟩
  have hlt : ¬ ((N : Int) < 2) := by omega
  clear H fzm fzf m0 m1 m2 f0 f1 f2 hW hK
  go_enter Tryz.func17, Tryz.ntmps17
  go_wp2
  go_region_with (go_at_call 27; refine (needs9 _).mono ?_; rintro e w' ⟨rfl, rfl⟩)
  all_goals
    go_wp2_with fail
    refine (HP.out _ (by repeat (first | exact Below.refl _ _ | refine Below.drew ?_ | refine Below.alloc ?_ (by first | (simp; done) | (simp; omega)) _))).mono ?_
    rintro e w2 ⟨rfl, hk, code', hM⟩
    have HK := Lib.hid ((KeptG.of_below hB (by repeat (first | exact Below.refl _ _ | refine Below.drew ?_ | refine Below.alloc ?_ (by first | (simp; done) | (simp; omega)) _))).trans hk)
    have HM := Lib.hid hM
    clear hk hM
    go_wp2
    go_end0
    exact ⟨rfl, HK.out, code', HM.out⟩
/-- what the step leaves -/
def TopP (B : Nat) (w : World) (mb fb : Nat) (fv rv bv : Value) (N : Nat) (e : Ending) (w' : World) : Prop :=
  e = .returned (.tuple #[]) ∧ KeptG B mb fb w w' ∧ ∃ code', MF B w' mb fb fv rv bv code' (laid N + 2) (insL (laid N) ++ ins 11 N 0 0 { data := #[] } ++ ins 21 0 0 0 { data := #[] }) ((laid N : Nat) + (1 - (N : Int)) + -1) ((laid N : Nat) + 2) (decide (60000 < laid N))
theorem top_ok {B : Nat} {w W0 : World} {mb fb : Nat} {fv rv bv code : Value} (H : MF B w mb fb fv rv bv code 0 [] 0 0 false) (hB : B ≤ w.heap.size) (hB0 : B = W0.heap.size) (hW : Below B W0 w) {kb ko kc N : Nat} (hK : KidsV W0 kb ko N) (hN : N ≤ 65001) (h2 : 2 ≤ N) (num : Int) (s : ByteArray) (nm st : ByteArray) :
    Calls Tryz.prog 7 #[.pointer (some ⟨mb, 0, none⟩), .pointer (some ⟨fb, 0, none⟩), .agg #[.int .u8 4, .string nm, .string st, .int .u8 9, .int .i64 num, .string s, .slice (some ⟨kb, ko, none⟩) N kc]] w fun e w' => TopP B w mb fb fv rv bv N e w' := by
  obtain ⟨_, _, _, _, ml, fl, hne⟩ := H.c0
  have hl : laid N ≤ 60001 := by unfold laid; omega
  have hl2 : laid N ≤ N := by unfold laid; omega
  have HP : Hid (∀ w1, Below w.heap.size w w1 → Calls Tryz.prog 17 #[.pointer (some ⟨mb, 0, none⟩), .pointer (some ⟨fb, 0, none⟩), .agg #[.int .u8 9, .int .i64 num, .string s, .slice (some ⟨kb, ko, none⟩) N kc]] w1 fun e w' => TupP B w1 mb fb fv rv bv N e w') :=
    Lib.hid fun w1 hb => core_tuple (H.below hb) (by have := hb.size; omega) hB0 (hW.trans (hb.mono hB)) hK hN h2 num s
  have hbk := heap_alloc_new w (.cells #[.int .u8 4, .string nm, .string st, .int .u8 9, .int .i64 num, .string s, .slice (some ⟨kb, ko, none⟩) N kc] 34)
  have HBK := Lib.hid hbk
  clear H hW hK hbk
  go_enter Tryz.func7, Tryz.ntmps7
  go_wp2_with fail
  refine (HP.out _ (by repeat (first | exact Below.refl _ _ | refine Below.drew ?_ | refine Below.alloc ?_ (by first | (simp; done) | (simp; omega)) _))).mono ?_
  rintro e w2 ⟨rfl, hk, code', hM⟩
  have hbw : w2.heap[w.heap.size]? = some (.cells #[.int .u8 4, .string nm, .string st, .int .u8 9, .int .i64 num, .string s, .slice (some ⟨kb, ko, none⟩) N kc] 34 (0, 0)) := hk.box HBK.out (by decide) (by omega) (by omega)
  have t0 : w2.cell? ⟨w.heap.size, 0, none⟩ = some (.int .u8 4) := by simp [World.cell?, hbw]
  have hB2 : B ≤ w2.heap.size := by have := hk.below.size; simp at this; omega
  have HC : Hid (Calls Tryz.prog 8 #[.pointer (some ⟨mb, 0, none⟩), .pointer (some ⟨fb, 0, none⟩), .agg #[.int .u8 21, .int .i64 0, .int .i64 0, .int .i64 0, .string { data := #[] }], .int .i64 (-1)] w2 fun e w' => PutP B w2 mb fb fv rv bv (laid N + 1) (insL (laid N) ++ ins 11 N 0 0 { data := #[] }) ((laid N : Nat) + (1 - (N : Int))) ((laid N : Nat) + 1) (decide (60000 < laid N)) (ins 21 0 0 0 { data := #[] }) (-1) e w') := Lib.hid (put_ok hM hB2 (by omega) (by omega) (by omega) 21 0 0 0 _ (-1) (by omega))
  have HK := Lib.hid ((KeptG.of_below hB (by repeat (first | exact Below.refl _ _ | refine Below.drew ?_ | refine Below.alloc ?_ (by first | (simp; done) | (simp; omega)) _))).trans hk)
  clear hk hM hbw
  go_wp2_with fail
  refine HC.out.mono ?_
  rintro e w3 ⟨rfl, hk3, code3, hM3⟩
  have HKF := Lib.hid (HK.out.trans hk3)
  have hx : (decide (60000 < laid N) || decide (60000 < ((laid N : Nat) : Int) + (1 - (N : Int)) + -1) || decide (1048576 < ((laid N : Nat) : Int) + 1 + 1)) = decide (60000 < laid N) := by
    rw [decide_eq_false (show ¬ 60000 < ((laid N : Nat) : Int) + (1 - (N : Int)) + -1 by omega), decide_eq_false (show ¬ 1048576 < ((laid N : Nat) : Int) + 1 + 1 by omega), Bool.or_false, Bool.or_false]
  rw [hx] at hM3
  have HM := Lib.hid hM3
  clear hk3 hM3
  go_wp2
  first
    | go_end0
    | ((try simp only [Exit.inBlock, Exit.then]); refine bodyPost_ret (results_none rfl _ _ _) rfl ?_)
  refine ⟨rfl, HKF.out, code3, ?_⟩
  have := HM.out
  rw [show ((laid N : Nat) : Int) + 1 + 1 = (laid N : Nat) + 2 by omega] at this
  exact this
end Go.Gen
set_option linter.unusedVariables false
set_option linter.unusedSimpArgs false
set_option maxRecDepth 100000
set_option maxHeartbeats 4000000
namespace Go.Gen
open Go Go.RowKit Go.Proofs
theorem i43 : (Tryz.prog.info? 43).map (fun i => (i.size, i.bytes, i.zero)) = some (1, 24, some (.slice none 0 0)) := by kernel_rfl
theorem made1 : madeCells (Value.slice none 0 0).cells (Int.toNat 1 * 1) = #[.slice none 0 0] := by kernel_rfl
theorem mk1 (w : World) : (Instr.makeSlice 26 (.int .i64 1) (.int .i64 1)).run Tryz.prog w = .ok (.slice (some ⟨w.heap.size, 0, none⟩) 1 1) (w.alloc (.cells #[.slice none 0 0] 43)) := by
  obtain ⟨i, hi, hi2⟩ := Option.map_eq_some_iff.1 i43
  injection hi2 with h1 h2
  injection h2 with h2 h3
  have := run_makeSlice (P := Tryz.prog) w 26 43 i (.slice none 0 0) Tryz.underlying26 hi h3 .i64 .i64 1 1 (by decide) (by decide) (by rw [h1]; decide) (by rw [h2]; decide) (by decide)
  rw [this, h1, made1]; rfl
attribute [local simp] mk1
/-- the world as the program's code is begun -/
def W4 (W : World) : World := (((W.alloc (.cells #[.slice none 0 0, .slice none 0 0] 29)).alloc (.cells #[.slice none 0 0] 43)).alloc (.cells #[.slice (some ⟨W.heap.size + 1, 0, none⟩) 1 1, .slice none 0 0, .int .i64 0, .bool false] 41)).alloc (.cells #[.slice none 0 0, .int .i64 0, .slice none 0 0] 46)
theorem w4_facts (W : World) : Below W.heap.size W (W4 W) ∧ (W4 W).heap.size = W.heap.size + 4 ∧ (W4 W).heap[W.heap.size]? = some (.cells #[.slice none 0 0, .slice none 0 0] 29 (0, 0)) ∧ (W4 W).heap[W.heap.size + 1]? = some (.cells #[.slice none 0 0] 43 (0, 0)) ∧
    MF W.heap.size (W4 W) (W.heap.size + 1 + 1) (W.heap.size + 1 + 1 + 1) (.slice (some ⟨W.heap.size + 1, 0, none⟩) 1 1) (.slice none 0 0) (.slice none 0 0) (.slice none 0 0) 0 [] 0 0 false := by
  have push : ∀ (w : World) (o : Obj) (k : Nat), k < w.heap.size → (w.alloc o).heap[k]? = w.heap[k]? := fun w o k hk => Below.heap_alloc w o k hk
  have new : ∀ (w : World) (o : Obj) (k : Nat), k = w.heap.size → (w.alloc o).heap[k]? = some o := fun w o k hk => by subst hk; exact heap_alloc_new w o
  unfold W4
  refine ⟨(by repeat (first | exact Below.refl _ _ | refine Below.drew ?_ | refine Below.alloc ?_ (by first | (simp; done) | (simp; omega)) _)), by simp, ?_, ?_, ⟨?_, ?_, World.ownsRow_nil _ _ _ _, by omega, by omega⟩⟩
  · rw [push _ _ _ (by first | (simp; done) | (simp; omega)), push _ _ _ (by first | (simp; done) | (simp; omega)), push _ _ _ (by simp)]; exact new _ _ _ rfl
  · rw [push _ _ _ (by first | (simp; done) | (simp; omega)), push _ _ _ (by simp)]; exact new _ _ _ (by simp)
  · rw [push _ _ _ (by simp)]; exact new _ _ _ (by simp)
  · exact new _ _ _ (by simp)
/-- what the code's making answers -/
def ProgP (W : World) (N : Nat) (e : Ending) (w' : World) : Prop :=
  Below W.heap.size W w' ∧ ((60000 < laid N ∧ e = .returned (.tuple #[.agg #[.slice none 0 0, .slice none 0 0], .int .i64 16])) ∨
    (¬ 60000 < laid N ∧ ∃ q code', W.heap.size ≤ q ∧ e = .returned (.tuple #[.agg #[.slice (some ⟨q, 0, none⟩) 1 1, .slice none 0 0], .int .i64 0]) ∧ w'.heap[q]? = some (.cells #[code'] 43 (0, 0)) ∧ w'.ownsRow W.heap.size 50 5 code' (N + 3) (insL N ++ ins 11 N 0 0 { data := #[] } ++ ins 21 0 0 0 { data := #[] } ++ ins 25 0 0 0 { data := #[] })))
theorem program_ok {W : World} {kb ko kc N tb to : Nat} {tc : Nat} (hK : KidsV W kb ko N) (hN : N ≤ 65001) (h2 : 2 ≤ N) {num : Int} {s nm st : ByteArray}
    (c0 : W.cell? ⟨tb, to, none⟩ = some (.int .u8 4)) (c1 : W.cell? ⟨tb, to + 1, none⟩ = some (.string nm)) (c2 : W.cell? ⟨tb, to + 2, none⟩ = some (.string st)) (c3 : W.cell? ⟨tb, to + 3, none⟩ = some (.int .u8 9)) (c4 : W.cell? ⟨tb, to + 4, none⟩ = some (.int .i64 num)) (c5 : W.cell? ⟨tb, to + 5, none⟩ = some (.string s)) (c6 : W.cell? ⟨tb, to + 6, none⟩ = some (.slice (some ⟨kb, ko, none⟩) N kc)) :
    Calls Tryz.prog 4 #[.slice (some ⟨tb, to, none⟩) 1 tc] W fun e w' => ProgP W N e w' := by
  have htl := cell_lt c0
  have hl : laid N ≤ 60001 := by unfold laid; omega
  have hl2 : laid N ≤ N := by unfold laid; omega
  obtain ⟨hB1, hz1, hb29, hb43, hM1⟩ := w4_facts W
  have HTOP : Hid (∀ obj, Calls Tryz.prog 7 #[.pointer (some ⟨W.heap.size + 1 + 1, 0, none⟩), .pointer (some ⟨W.heap.size + 1 + 1 + 1, 0, none⟩), .agg #[.int .u8 4, .string nm, .string st, .int .u8 9, .int .i64 num, .string s, .slice (some ⟨kb, ko, none⟩) N kc]] ((W4 W).alloc obj) fun e w' => TopP W.heap.size ((W4 W).alloc obj) (W.heap.size + 1 + 1) (W.heap.size + 1 + 1 + 1) (.slice (some ⟨W.heap.size + 1, 0, none⟩) 1 1) (.slice none 0 0) (.slice none 0 0) N e w') :=
    Lib.hid fun obj => top_ok (hM1.below ((Below.refl _ _).alloc (Nat.le_refl _) obj)) (by simp; omega) rfl (hB1.alloc (by omega) obj) hK hN h2 num s nm st
  have HB1 := Lib.hid hB1
  have H29 := Lib.hid hb29
  have H43 := Lib.hid hb43
  have c0' := (hB1.cell (p := ⟨tb, to, none⟩) htl).trans c0
  have c1' := (hB1.cell (p := ⟨tb, to + 1, none⟩) htl).trans c1
  have c2' := (hB1.cell (p := ⟨tb, to + 2, none⟩) htl).trans c2
  have c3' := (hB1.cell (p := ⟨tb, to + 3, none⟩) htl).trans c3
  have c4' := (hB1.cell (p := ⟨tb, to + 4, none⟩) htl).trans c4
  have c5' := (hB1.cell (p := ⟨tb, to + 5, none⟩) htl).trans c5
  have c6' := (hB1.cell (p := ⟨tb, to + 6, none⟩) htl).trans c6
  clear hB1 hb29 hb43 hM1 c0 c1 c2 c3 c4 c5 c6 hK
  go_enter Tryz.func4, Tryz.ntmps4
  go_wp2
  generalize hW4 : (((W.alloc (.cells #[.slice none 0 0, .slice none 0 0] 29)).alloc (.cells #[.slice none 0 0] 43)).alloc (.cells #[.slice (some ⟨W.heap.size + 1, 0, none⟩) 1 1, .slice none 0 0, .int .i64 0, .bool false] 41)).alloc (.cells #[.slice none 0 0, .int .i64 0, .slice none 0 0] 46) = w4
  have hww : W4 W = w4 := hW4
  rw [hww] at hz1 HTOP HB1 H29 H43 c0' c1' c2' c3' c4' c5' c6'
  refine wp_loop_rounds 2 ?_
  rw [rounds_succ]
  go_wp2_with fail
  refine (HTOP.out _).mono ?_
  rintro e w2 ⟨rfl, hk, code', hM⟩
  have hk4 : KeptG W.heap.size (W.heap.size + 1 + 1) (W.heap.size + 1 + 1 + 1) w4 w2 := (KeptG.of_below (by omega) ((Below.refl _ _).alloc (Nat.le_refl _) _)).trans hk
  have HPUT : Hid (Calls Tryz.prog 8 #[.pointer (some ⟨W.heap.size + 1 + 1, 0, none⟩), .pointer (some ⟨W.heap.size + 1 + 1 + 1, 0, none⟩), .agg #[.int .u8 25, .int .i64 0, .int .i64 0, .int .i64 0, .string { data := #[] }], .int .i64 0] w2 fun e w' => PutP W.heap.size w2 (W.heap.size + 1 + 1) (W.heap.size + 1 + 1 + 1) (.slice (some ⟨W.heap.size + 1, 0, none⟩) 1 1) (.slice none 0 0) (.slice none 0 0) (laid N + 2) (insL (laid N) ++ ins 11 N 0 0 { data := #[] } ++ ins 21 0 0 0 { data := #[] }) ((laid N : Nat) + (1 - (N : Int)) + -1) ((laid N : Nat) + 2) (decide (60000 < laid N)) (ins 25 0 0 0 { data := #[] }) 0 e w') :=
    Lib.hid (put_ok hM (by have := hk4.below.size; omega) (by omega) (by omega) (by omega) 25 0 0 0 _ 0 (by omega))
  have HK4 := Lib.hid hk4
  clear hk hk4 hM c0' c1' c2' c3' c4' c5' c6' HTOP
  go_wp2
  rw [rounds_succ]
  go_wp2_with fail
  refine HPUT.out.mono ?_
  rintro e w3 ⟨rfl, hk3, code3, hM3⟩
  have hk5 := HK4.out.trans hk3
  have hx : (decide (60000 < laid N) || decide (60000 < ((laid N : Nat) : Int) + (1 - (N : Int)) + -1 + 0) || decide (1048576 < ((laid N : Nat) : Int) + 2 + 1)) = decide (60000 < laid N) := by
    rw [decide_eq_false (show ¬ 60000 < ((laid N : Nat) : Int) + (1 - (N : Int)) + -1 + 0 by omega), decide_eq_false (show ¬ 1048576 < ((laid N : Nat) : Int) + 2 + 1 by omega), Bool.or_false, Bool.or_false]
  rw [hx] at hM3
  have h29 := hk5.box H29.out (by decide) (by omega) (by omega)
  have h43 := hk5.box H43.out (by decide) (by omega) (by omega)
  obtain ⟨⟨m0, m1, m2, m3⟩, ⟨f0, f1, f2⟩, fzm, fzf, ml, fl, hne⟩ := hM3.c0
  have p0 : w3.cell? ⟨W.heap.size, 0, none⟩ = some (.slice none 0 0) := by simp [World.cell?, h29]
  have p1 : w3.cell? ⟨W.heap.size, 1, none⟩ = some (.slice none 0 0) := by simp [World.cell?, h29]
  have pz0 : w3.frozen? ⟨W.heap.size, 0, none⟩ = false := by simp [World.frozen?, h29]
  have pz1 : w3.frozen? ⟨W.heap.size, 1, none⟩ = false := by simp [World.frozen?, h29]
  have q0 : w3.cell? ⟨W.heap.size + 1, 0, none⟩ = some (.slice none 0 0) := by simp [World.cell?, h43]
  have qz0 : w3.frozen? ⟨W.heap.size + 1, 0, none⟩ = false := by simp [World.frozen?, h43]
  have HB3 : Hid (Below W.heap.size W w3) := Lib.hid (HB1.out.trans hk5.below)
  have HM3 := Lib.hid hM3
  have HH43 := Lib.hid h43
  have hnb : ∀ k cs, w3.heap[k]? = some (.cells cs 29 (0, 0)) ∨ w3.heap[k]? = some (.cells cs 43 (0, 0)) → code3.ownBlock ≠ some k := by
    intro k cs hk he
    rcases hM3.row.2 with ⟨_, h0⟩ | ⟨g, cap, cur, hc, hbg, hg, _⟩
    · omega
    · rw [hc] at he
      have : g = k := by simpa [Value.ownBlock] using he
      subst this
      rcases hk with hk | hk <;> rw [hk] at hg <;> simp at hg
  have hn0 := hnb _ _ (.inl h29)
  have hn1 := hnb _ _ (.inr h43)
  clear hnb
  obtain ⟨ca, cc, hcode⟩ : ∃ ca cc, code3 = .slice ca (laid N + 2 + 1) cc := by
    obtain ⟨g, cap, e, _⟩ := row_form hM3.row
    exact ⟨_, _, e⟩
  subst hcode
  clear hk3 hk5 hM3 h29 h43 fzm fzf HPUT HK4 hx
  by_cases hd : 60000 < laid N
  · rw [decide_eq_true hd] at m3
    go_wp2

    have X1 : ((w3.setCell ⟨W.heap.size, 0, none⟩ (.slice none 0 0)).setCell ⟨W.heap.size, 1, none⟩ (.slice none 0 0)).cell? ⟨W.heap.size, 1, none⟩ = some (.slice none 0 0) := World.cell?_setCell_same _ _ _ (u := .slice none 0 0) (by rw [World.cell?_setCell_other]; (first | exact p1); (first | done | (intro e; simp at e; done) | (simp; done)))
    refine bodyPost_ret (v := .tuple #[.agg #[.slice none 0 0, .slice none 0 0], .int .i64 16]) (by simp [results, Tryz.results4, go_sem, World.cell?_setCell_same _ _ _ p0, X1]) rfl ?_
    · refine ⟨(HB3.out.setCell (Nat.le_refl _) _).setCell (Nat.le_refl _) _, .inl ⟨hd, rfl⟩⟩
  · rw [decide_eq_false hd] at m3
    go_wp2

    go_region
    all_goals
      generalize hw5 : w3.setCell ⟨W.heap.size + 1, 0, none⟩ (.slice ca (laid N + 2 + 1) cc) = w5
      have m0' : w5.cell? ⟨W.heap.size + 1 + 1, 0, none⟩ = _ := (by rw [← hw5, World.cell?_setCell_other]; (first | exact m0 | exact fun e => by simp at e); (first | done | (intro e; simp at e; done) | (simp; done)))
      have m1' : w5.cell? ⟨W.heap.size + 1 + 1, 1, none⟩ = _ := (by rw [← hw5, World.cell?_setCell_other]; (first | exact m1 | exact fun e => by simp at e); (first | done | (intro e; simp at e; done) | (simp; done)))
      have p0' : w5.cell? ⟨W.heap.size, 0, none⟩ = _ := (by rw [← hw5, World.cell?_setCell_other]; (first | exact p0 | exact fun e => by simp at e); (first | done | (intro e; simp at e; done) | (simp; done)))
      have p1' : w5.cell? ⟨W.heap.size, 1, none⟩ = _ := (by rw [← hw5, World.cell?_setCell_other]; (first | exact p1 | exact fun e => by simp at e); (first | done | (intro e; simp at e; done) | (simp; done)))
      have pz0' : w5.frozen? ⟨W.heap.size, 0, none⟩ = false := (by rw [← hw5]; simpa using pz0)
      have pz1' : w5.frozen? ⟨W.heap.size, 1, none⟩ = false := (by rw [← hw5]; simpa using pz1)
      have hrow := row_setCell HM3.out.row (p := ⟨W.heap.size + 1, 0, none⟩) (u := .slice ca (laid N + 2 + 1) cc) hn1
      rw [hw5] at hrow
      have hb5 : Below W.heap.size W w5 := hw5 ▸ HB3.out.setCell (by simp) _
      have hq5 : w5.heap[W.heap.size + 1]? = some (.cells #[.slice ca (laid N + 2 + 1) cc] 43 (0, 0)) := (by rw [← hw5]; simp [World.setCell, Array.getElem?_modify, HH43.out])
      go_wp2
      go_region
      all_goals
        go_wp2
        have e0 := p0'.trans p0
        have e1 := p1'.trans p1
        have X1 : ((w5.setCell ⟨W.heap.size, 0, none⟩ (.slice (some ⟨W.heap.size + 1, 0, none⟩) 1 1)).setCell ⟨W.heap.size, 1, none⟩ (.slice none 0 0)).cell? ⟨W.heap.size, 1, none⟩ = some (.slice none 0 0) := World.cell?_setCell_same _ _ _ (u := .slice none 0 0) (by rw [World.cell?_setCell_other]; (first | exact e1); (first | done | (intro e; simp at e; done) | (simp; done)))
        refine bodyPost_ret (v := .tuple #[.agg #[.slice (some ⟨W.heap.size + 1, 0, none⟩) 1 1, .slice none 0 0], .int .i64 0]) (by simp [results, Tryz.results4, go_sem, World.cell?_setCell_same _ _ _ e0, X1]) rfl ?_
        have hl' : laid N = N := by unfold laid at hd ⊢; omega
        rw [hl'] at hrow
        have hr1 := row_setCell (row_setCell hrow (p := ⟨W.heap.size, 0, none⟩) (u := .slice (some ⟨W.heap.size + 1, 0, none⟩) 1 1) (by rw [← hl']; exact hn0)) (p := ⟨W.heap.size, 1, none⟩) (u := .slice none 0 0) (by rw [← hl']; exact hn0)
        refine ⟨by repeat (first | exact (hb5.setCell (Nat.le_refl _) _).setCell (Nat.le_refl _) _ | refine Below.drew ?_), .inr ⟨hd, W.heap.size + 1, _, by omega, rfl, ?_, hr1⟩⟩
        exact (Below.heap_setCell _ _ _ _ (by simp)).trans ((Below.heap_setCell _ _ _ _ (by simp)).trans (by rw [← hl']; exact hq5))
end Go.Gen
