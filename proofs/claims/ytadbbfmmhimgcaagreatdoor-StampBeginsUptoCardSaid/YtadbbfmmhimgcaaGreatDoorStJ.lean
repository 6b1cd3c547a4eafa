/- The own names of the document, the come of the law, and the law StampBegins, walked. Each says its own conditions. -/
import Derived.Test.YtadbbfmmhimgcaaGreatDoorStI
import Derived.Test.YtadbbfmmhimgcaaGreatDoorStG
set_option linter.unusedVariables false
set_option linter.unusedSimpArgs false
set_option maxRecDepth 100000
set_option maxHeartbeats 4000000
namespace Go.Stamp
open Go Go.RowKit Go.Proofs Go.Maps
/-! ## The document's Own -/
def nInt : ByteArray := { data := #[105, 110, 116] }
def nString : ByteArray := { data := #[115, 116, 114, 105, 110, 103] }
def nUnit : ByteArray := { data := #[117, 110, 105, 116] }
def nBool : ByteArray := { data := #[98, 111, 111, 108] }
def nRef : ByteArray := { data := #[114, 101, 102] }
def nArray : ByteArray := { data := #[97, 114, 114, 97, 121] }
def ownB (name : ByteArray) : Bool := decide (name = nInt) || decide (name = nString) || decide (name = nUnit) || decide (name = nBool) || decide (name = nRef) || decide (name = nArray)
theorem list_beq {a b : ByteArray} : (a.data.toList == b.data.toList) = decide (a = b) := by
  by_cases h : a = b
  · subst h; simp
  · rw [decide_eq_false h, beq_eq_false_iff_ne]
    exact fun e => h (WideShapes.bytes_inj e)
theorem own_isSome (name : ByteArray) : (ownN name).isSome = ownB name := by
  have hhas : Maps.has ownD (.string name.data.toList) = ownB name := by
    have : Maps.has ownD (.string name.data.toList) = ([((.string [97, 114, 114, 97, 121]), (.lit (.int .i64 1))), ((.string [98, 111, 111, 108]), (.lit (.int .i64 0))), ((.string [105, 110, 116]), (.lit (.int .i64 0))), ((.string [114, 101, 102]), (.lit (.int .i64 1))), ((.string [115, 116, 114, 105, 110, 103]), (.lit (.int .i64 0))), ((.string [117, 110, 105, 116]), (.lit (.int .i64 0)))] : List (Lit × DataW Unit)).any (fun p => p.1.sameKey (.string name.data.toList)) := rfl
    rw [this]
    have k : ∀ b : ByteArray, (Lit.string b.data.toList).sameKey (.string name.data.toList) = decide (name = b) := fun b => by
      show (b.data.toList == name.data.toList) = _
      rw [list_beq]
      exact decide_eq_decide.2 ⟨fun e => e.symm, fun e => e.symm⟩
    have k1 := k nArray
    have k2 := k nBool
    have k3 := k nInt
    have k4 := k nRef
    have k5 := k nString
    have k6 := k nUnit
    show ((Lit.string nArray.data.toList).sameKey _ || ((Lit.string nBool.data.toList).sameKey _ || ((Lit.string nInt.data.toList).sameKey _ || ((Lit.string nRef.data.toList).sameKey _ || ((Lit.string nString.data.toList).sameKey _ || ((Lit.string nUnit.data.toList).sameKey _ || false)))))) = _
    rw [k1, k2, k3, k4, k5, k6]
    unfold ownB
    cases decide (name = nArray) <;> cases decide (name = nBool) <;> cases decide (name = nInt) <;> cases decide (name = nRef) <;> cases decide (name = nString) <;> cases decide (name = nUnit) <;> rfl
  unfold ownN
  obtain ⟨n, hn⟩ := ownD_at (.string name.data.toList)
  rw [hn, hhas]
  cases ownB name <;> rfl
theorem tst {name b : ByteArray} (h : name = b) : (name.toList == b.data.toList) = true := by
  subst h
  rw [Lib.toList_data]; simp
theorem tstn {name b : ByteArray} (h : name ≠ b) : (name.toList == b.data.toList) = false := by
  rw [Lib.toList_data, list_beq, decide_eq_false h]
theorem own24_ok (name : ByteArray) (w : World) : Calls Tryz.prog 24 #[.string name] w fun e w' => (∃ n : Int, e = .returned (.tuple #[.int .i64 n, .bool (ownN name).isSome])) ∧ w' = w := by
  rw [own_isSome]
  by_cases h1 : name = nInt
  · have b1 : (name.toList == [105, 110, 116]) = true := tst h1
    have hT : ownB name = true := by unfold ownB; simp [h1]
    rw [hT]
    clear hT h1 
    go_enter Tryz.func24, Tryz.ntmps24
    go_wp2
    go_ret2
    exact ⟨⟨_, rfl⟩, rfl⟩
  have b1 : (name.toList == [105, 110, 116]) = false := tstn h1
  by_cases h2 : name = nString
  · have b2 : (name.toList == [115, 116, 114, 105, 110, 103]) = true := tst h2
    have hT : ownB name = true := by unfold ownB; simp [h2]
    rw [hT]
    clear hT h2 h1
    go_enter Tryz.func24, Tryz.ntmps24
    go_wp2
    go_ret2
    exact ⟨⟨_, rfl⟩, rfl⟩
  have b2 : (name.toList == [115, 116, 114, 105, 110, 103]) = false := tstn h2
  by_cases h3 : name = nUnit
  · have b3 : (name.toList == [117, 110, 105, 116]) = true := tst h3
    have hT : ownB name = true := by unfold ownB; simp [h3]
    rw [hT]
    clear hT h3 h1 h2
    go_enter Tryz.func24, Tryz.ntmps24
    go_wp2
    go_ret2
    exact ⟨⟨_, rfl⟩, rfl⟩
  have b3 : (name.toList == [117, 110, 105, 116]) = false := tstn h3
  by_cases h4 : name = nBool
  · have b4 : (name.toList == [98, 111, 111, 108]) = true := tst h4
    have hT : ownB name = true := by unfold ownB; simp [h4]
    rw [hT]
    clear hT h4 h1 h2 h3
    go_enter Tryz.func24, Tryz.ntmps24
    go_wp2
    go_ret2
    exact ⟨⟨_, rfl⟩, rfl⟩
  have b4 : (name.toList == [98, 111, 111, 108]) = false := tstn h4
  by_cases h5 : name = nRef
  · have b5 : (name.toList == [114, 101, 102]) = true := tst h5
    have hT : ownB name = true := by unfold ownB; simp [h5]
    rw [hT]
    clear hT h5 h1 h2 h3 h4
    go_enter Tryz.func24, Tryz.ntmps24
    go_wp2
    go_ret2
    exact ⟨⟨_, rfl⟩, rfl⟩
  have b5 : (name.toList == [114, 101, 102]) = false := tstn h5
  by_cases h6 : name = nArray
  · have b6 : (name.toList == [97, 114, 114, 97, 121]) = true := tst h6
    have hT : ownB name = true := by unfold ownB; simp [h6]
    rw [hT]
    clear hT h6 h1 h2 h3 h4 h5
    go_enter Tryz.func24, Tryz.ntmps24
    go_wp2
    go_ret2
    exact ⟨⟨_, rfl⟩, rfl⟩
  have b6 : (name.toList == [97, 114, 114, 97, 121]) = false := tstn h6
  have hF : ownB name = false := by unfold ownB; simp [h1, h2, h3, h4, h5, h6]
  rw [hF]
  clear h1 h2 h3 h4 h5 h6 hF
  go_enter Tryz.func24, Tryz.ntmps24
  go_wp2
  go_ret2
  exact ⟨⟨_, rfl⟩, rfl⟩
end Go.Stamp
set_option linter.unusedVariables false
set_option linter.unusedSimpArgs false
set_option maxRecDepth 100000
set_option maxHeartbeats 8000000
namespace Go.Stamp
open Go Go.RowKit Go.Proofs Go.Maps
/-! ## The law's come -/
/-- a name is no new datatype's -/
def there (D : List Dec) (name : ByteArray) : Bool := (ownN name).isSome || !(find D name).isSome
def lnote (D : List Dec) (kind : Int) (name : ByteArray) (l : List ByteArray) : List ByteArray := if kind = 2 then (if (there D name || l.any (fun v => decide (v = name))) = true then l else l ++ [name]) else l
mutual
def lcome (D : List Dec) : Ty → List ByteArray → List ByteArray
  | .mk kind name _ kids, l => lcomes D kids (lnote D kind name l)
def lcomes (D : List Dec) : List Ty → List ByteArray → List ByteArray
  | [], l => l
  | t :: ts, l => lcomes D ts (lcome D t l)
end
theorem lcome_eq (D : List Dec) (t : Ty) (l : List ByteArray) : lcome D t l = lcomes D t.kids (lnote D t.kind t.name l) := by cases t; rw [lcome]; rfl
theorem lcomes_take {D : List Dec} {kids : List Ty} {k : Nat} (hk : k < kids.length) (l : List ByteArray) : lcomes D (kids.take (k + 1)) l = lcome D kids[k] (lcomes D (kids.take k) l) := by
  have app : ∀ (a b : List Ty) (l : List ByteArray), lcomes D (a ++ b) l = lcomes D b (lcomes D a l) := by
    intro a
    induction a with
    | nil => intro b l; rw [List.nil_append, lcomes]
    | cons x a ih => intro b l; rw [List.cons_append, lcomes, lcomes, ih]
  rw [List.take_succ_eq_append_getElem hk, app, lcomes, lcomes]
theorem lnote_len (D : List Dec) (kind : Int) (name : ByteArray) (l : List ByteArray) : (lnote D kind name l).length ≤ l.length + 1 := by
  unfold lnote
  split
  · split
    · omega
    · simp
  · omega
mutual
theorem lcome_len (D : List Dec) : ∀ (t : Ty) (l : List ByteArray), (lcome D t l).length ≤ l.length + 1 + partsT t
  | .mk kind name num kids, l => by
    rw [lcome, partsT]
    have h1 := lcomes_len D kids (lnote D kind name l)
    have h2 := lnote_len D kind name l
    omega
theorem lcomes_len (D : List Dec) : ∀ (ts : List Ty) (l : List ByteArray), (lcomes D ts l).length ≤ l.length + partsN ts
  | [], l => by rw [lcomes]; omega
  | t :: ts, l => by
    rw [lcomes, partsN_cons]
    have h1 := lcomes_len D ts (lcome D t l)
    have h2 := lcome_len D t l
    omega
end
theorem lcomes_takele (D : List Dec) (ts : List Ty) (l : List ByteArray) (k : Nat) : (lcomes D (ts.take k) l).length ≤ l.length + partsN ts := by
  have h1 := lcomes_len D (ts.take k) l
  have h2 : partsN (ts.take k) ≤ partsN ts := by
    have h3 := partsN_eq (ts.take k)
    have h4 := partsN_eq ts
    have h5 := sumT_le ts k
    have h6 : (ts.take k).length ≤ ts.length := by rw [List.length_take]; omega
    omega
  omega
/-- the row behind some steps -/
structure LP (W wr : World) (out : Value) (w' : World) (out' : Value) (xs' : List ByteArray) : Prop where
  row : OutV W w' out' xs'
  grown : wr.grownBy w' out.ownBlock
  own : out'.ownBlock = out.ownBlock ∨ ∃ g, out'.ownBlock = some g ∧ wr.heap.size ≤ g
theorem grown_of_below {w w' : World} (h : Below w.heap.size w w') (row : Option Nat) : w.grownBy w' row := ⟨h.os, h.tape, h.output, h.size, fun k hk _ => h.block k hk⟩
theorem LP.start {W wr w' : World} {out : Value} {xs : List ByteArray} (h : OutV W wr out xs) (hb : Below wr.heap.size wr w') : LP W wr out w' out xs := ⟨h.below hb, grown_of_below hb _, .inl rfl⟩
theorem LP.trans {W wr w1 w2 : World} {out o1 o2 : Value} {xs ys : List ByteArray} (h : LP W wr out w1 o1 xs) (h' : LP W w1 o1 w2 o2 ys) : LP W wr out w2 o2 ys := by
  refine ⟨h'.row, ⟨h'.grown.os.trans h.grown.os, h'.grown.tape.trans h.grown.tape, h'.grown.output.trans h.grown.output, Nat.le_trans h.grown.size h'.grown.size, fun k hk hne => ?_⟩, ?_⟩
  · have h1 := h.grown.block k hk hne
    have h2 := h'.grown.block k (Nat.lt_of_lt_of_le hk h.grown.size) (by
      rcases h.own with e | ⟨g, e, hg⟩
      · rw [e]; exact hne
      · rw [e]; intro e'; injection e' with e'; omega)
    exact h2.trans h1
  · rcases h'.own with e | ⟨g, e, hg⟩
    · rw [e]; exact h.own
    · exact .inr ⟨g, e, Nat.le_trans h.grown.size hg⟩
theorem LP.below {W wr w1 w2 : World} {out o1 : Value} {xs : List ByteArray} (h : LP W wr out w1 o1 xs) (hb : Below w1.heap.size w1 w2) : LP W wr out w2 o1 xs := h.trans (LP.start h.row hb)
/-- a block that is none of the row's stays -/
theorem LP.block {W wr w1 : World} {out o1 : Value} {ys : List ByteArray} {q : Nat} {ob : Obj} (h : LP W wr out w1 o1 ys) (ho : wr.heap[q]? = some ob) (hq : out.ownBlock ≠ some q) : w1.heap[q]? = some ob :=
  (h.grown.block q (Array.getElem?_eq_some_iff.1 ho).1 (fun e => hq e.symm)).trans ho
theorem OutV.cellAt {W wr : World} {out : Value} {xs : List ByteArray} (h : OutV W wr out xs) : ∃ a c, out = .slice a xs.length c ∧ (xs ≠ [] → ∃ g, a = some ⟨g, 0, none⟩ ∧ ∀ j x, xs[j]? = some x → wr.cell? ⟨g, j, none⟩ = some (.string x)) := by
  rcases h.1.2 with ⟨rfl, h0⟩ | ⟨g, cap, cur, rfl, h2, h3, h4, h5, h6, h7⟩
  · exact ⟨none, 0, by rw [h0], fun e => absurd (List.eq_nil_of_length_eq_zero h0) e⟩
  · refine ⟨_, cap, rfl, fun _ => ⟨g, rfl, fun j x hj => ?_⟩⟩
    have := h.1.cells (g := g) rfl j (.string x) (by rw [List.getElem?_map, hj]; rfl)
    rw [show (⟨g, 0, none⟩ : Addr).add j = ⟨g, 0 + j, none⟩ by unfold Addr.add; split <;> simp_all, Nat.zero_add] at this
    exact this
theorem OutV.ownlt {W wr : World} {out : Value} {xs : List ByteArray} (h : OutV W wr out xs) : out.ownBlock ≠ some wr.heap.size := by
  rcases h.1.2 with ⟨rfl, h0⟩ | ⟨g, cap, cur, rfl, h2, h3, h4, h5, h6, h7⟩
  · intro e; cases e
  · intro e
    simp [Value.ownBlock] at e
    have := (Array.getElem?_eq_some_iff.1 h3).1
    omega
theorem any_take_succ {xs : List ByteArray} {k : Nat} (hk : k < xs.length) (p : ByteArray → Bool) : (xs.take (k + 1)).any p = ((xs.take k).any p || p xs[k]) := by
  rw [List.take_succ_eq_append_getElem hk, List.any_append]
  simp
end Go.Stamp
set_option linter.unusedVariables false
set_option linter.unusedSimpArgs false
set_option linter.unnecessarySimpa false
set_option maxRecDepth 100000
set_option maxHeartbeats 8000000
namespace Go.Stamp
open Go Go.RowKit Go.Proofs Go.Maps
/-- the loop that looks for a name: what it leaves -/
theorem lcome_ok {W : World} {D : List Dec} {dv : Value} (hD : DecsV W D dv) (hDl : D.length ≤ 1048576) :
    ∀ (f : Nat) (t : Ty), partsT t < f → f ≤ 4096 → okT t → ∀ (wr0 : World) (out : Value) (xs : List ByteArray) (vs : List Value), OutV W wr0 out xs → xs.length + 1 + partsT t ≤ 100000 → TyV W t vs →
      Calls Tryz.prog 12 #[out, .agg ⟨vs⟩, dv] wr0 fun e w' => ∃ out', e = .returned out' ∧ LP W wr0 out w' out' (lcome D t xs)
  | 0, t, h, _, _, _, _, _, _, _, _, _ => by omega
  | f + 1, t, hf, hfm, hok, wr0, out, xs, vs, hO, hxs, hT => by
    have IH := fun t h => lcome_ok hD hDl f t h (by omega)
    have IHH := Lib.hid IH
    clear IH
    obtain ⟨da, dc, rfl⟩ := hD.slice
    obtain ⟨s, rfl, hs⟩ := hT.vals
    obtain ⟨ka, kc, rfl, hrow⟩ := hs.slice
    have hname := okT_name hok
    have hlen : t.kids.length ≤ 4096 := by rw [partsT_eq, partsN_eq] at hf; omega
    have HP : Hid (∀ k (hk : k < t.kids.length), partsT t.kids[k] < f) := Lib.hid fun k hk => by
      have := partsT_le (List.getElem?_eq_getElem hk)
      rw [← partsT_eq] at this
      omega
    have HPN : Hid (∀ k (hk : k < t.kids.length) (l : List ByteArray), l.length ≤ xs.length + 1 → (lcomes D (t.kids.take k) l).length + 1 + partsT t.kids[k] ≤ 100000) := Lib.hid fun k hk l hl => by
      have h1 := lcomes_len D (t.kids.take k) l
      have h3 := partsN_eq (t.kids.take k)
      have h4 := partsN_eq t.kids
      have h5 := sumT_take (List.getElem?_eq_getElem hk)
      have h6 := sumT_le t.kids (k + 1)
      have h7 : (t.kids.take k).length = k := by rw [List.length_take]; omega
      rw [partsT_eq] at hxs
      omega
    have HOK := Lib.hid (okT_kids hok)
    have HR := Lib.hid hrow
    have HT := Lib.hid hT
    have HO := Lib.hid hO
    have HD := Lib.hid hD
    have hq := hO.ownlt
    have HQ := Lib.hid hq
    have HLE := Lib.hid (lcome_eq D t xs)
    have hnl := lnote_len D t.kind t.name xs
    have hblk := heap_alloc_new wr0 (.cells ⟨[.int .u8 t.kind, .string t.name, .int .i64 t.num, .slice ka t.kids.length kc]⟩ 24)
    have HBK := Lib.hid hblk
    obtain ⟨i, hi, hi2⟩ := Option.map_eq_some_iff.1 i9
    injection hi2 with hz0 hz1
    injection hz1 with hz1 hz2
    have HL0 := Lib.hid (LP.start hO ((Below.refl _ _).alloc (Nat.le_refl _) (.cells ⟨[.int .u8 t.kind, .string t.name, .int .i64 t.num, .slice ka t.kids.length kc]⟩ 24)))
    have HL1 := Lib.hid (LP.start (hO.below ((Below.refl _ _).alloc (Nat.le_refl _) (.cells ⟨[.int .u8 t.kind, .string t.name, .int .i64 t.num, .slice ka t.kids.length kc]⟩ 24))) (Below.refl _ _))
    obtain ⟨oa, oc, rfl, hcell⟩ := hO.cellAt
    have HCE := Lib.hid hcell
    clear hs hrow hT hok hD hO hq hblk hcell
    have hsz1 : (wr0.alloc (.cells ⟨[.int .u8 t.kind, .string t.name, .int .i64 t.num, .slice ka t.kids.length kc]⟩ 24)).heap.size = wr0.heap.size + 1 := by simp
    by_cases hk2 : t.kind = 2
    · as_aux_lemma =>
        rw [hk2] at HL0 HL1 HBK
        rw [hk2]
        have HOW : Hid (∀ w, Calls Tryz.prog 24 #[.string t.name] w fun e w' => (∃ n : Int, e = .returned (.tuple #[.int .i64 n, .bool (ownN t.name).isSome])) ∧ w' = w) := Lib.hid (own24_ok t.name)
        have HDA : Hid (∀ w, Below W.heap.size W w → Calls Tryz.prog 10 #[.slice da D.length dc, .string t.name] w fun e w' => DataP D t.name e ∧ Below w.heap.size w w') := Lib.hid fun w hb => data_ok (HD.out.below hb) (by omega) _
        have hth : there D t.name = ((ownN t.name).isSome || !(find D t.name).isSome) := rfl
        have HTH := Lib.hid hth
        clear hth
        have hbox := box_cells HBK.out
        obtain ⟨t0, t1, t2, t3⟩ := hbox
        go_enter Tryz.func12, Tryz.ntmps12
        go_wp2_with fail
        refine (HOW.out _).mono ?_
        rintro e w4 ⟨⟨n24, rfl⟩, rfl⟩
        generalize (ownN t.name).isSome = ow at *
        go_wp2_with fail
        generalize hW1 : (wr0.alloc (.cells ⟨[.int .u8 2, .string t.name, .int .i64 t.num, .slice ka t.kids.length kc]⟩ 24)) = W1 at *
        refine (HDA.out _ HL1.out.row.2).mono ?_
        rintro e w5 ⟨⟨dk, ds, dva, dvn, dvc, dca, dcn, dcc, dR, rfl⟩, hb⟩
        have HL5 := Lib.hid (HL1.out.below hb)
        have hbw := HL5.out.block HBK.out HQ.out
        clear t0 t1 t2 t3 hb
        obtain ⟨t0, t1, t2, t3⟩ := box_cells hbw
        have hbl := cell_lt t0
        clear hbw
        generalize (find D t.name).isSome = isd at *
        simp only [Rest.vals]
        cases ow with
        | true =>
          have H6 := Lib.hid (HL5.out.below ((Below.refl _ _).alloc (Nat.le_refl _) (.cells #[.int .u8 dk, .string ds, .slice dva dvn dvc, .slice dca dcn dcc, .slice dR.a1 dR.n1 dR.c1, .int .u8 dR.k1, .string dR.s1, .int .i64 dR.m1, .slice dR.a2 dR.n2 dR.c2, .int .u8 dR.k2, .string dR.s2, .int .i64 dR.m2, .string dR.s3, .slice dR.a3 dR.n3 dR.c3, .slice dR.a4 dR.n4 dR.c4, .slice dR.a5 dR.n5 dR.c5] 39)))
          go_wp2
          generalize hW6 : (w5.alloc (.cells #[.int .u8 dk, .string ds, .slice dva dvn dvc, .slice dca dcn dcc, .slice dR.a1 dR.n1 dR.c1, .int .u8 dR.k1, .string dR.s1, .int .i64 dR.m1, .slice dR.a2 dR.n2 dR.c2, .int .u8 dR.k2, .string dR.s2, .int .i64 dR.m2, .string dR.s3, .slice dR.a3 dR.n3 dR.c3, .slice dR.a4 dR.n4 dR.c4, .slice dR.a5 dR.n5 dR.c5] 39)) = w6 at *
          go_loopw [11, 12] (fun b j w2 => ∃ k : Nat, k ≤ xs.length ∧ j = .int .i64 k ∧ b = .bool (true || (xs.take k).any (fun v => decide (v = t.name))) ∧ Hid (Below w6.heap.size w6 w2)) (fun _ j _ => xs.length - (intOf j).toNat)
          case atStart => exact ⟨0, Nat.zero_le _, rfl, by rw [List.take_zero]; simp, Lib.hid (Below.refl _ _)⟩
          case round =>
            obtain ⟨k, hk, rfl, rfl, hbb⟩ := hrel
            have h7 := H6.out.below hbb.out
            have hbw := h7.block HBK.out HQ.out
            obtain ⟨t0, t1, t2, t3⟩ := box_cells hbw
            have hbl := cell_lt t0
            have H7 := Lib.hid h7
            clear hbw h7
            by_cases hlt : k < xs.length
            · have hat := any_take_succ hlt (fun v => decide (v = t.name))
              have HAT := Lib.hid hat
              obtain ⟨_, _, hco, hcx⟩ := H7.out.row.cellAt
              cases hco
              obtain ⟨g, rfl, hg⟩ := hcx (by intro e; simp [e] at hlt)
              have ck := hg k _ (List.getElem?_eq_getElem hlt)
              have hgl := cell_lt ck
              have heq : (xs[k].toList == t.name.toList) = decide (xs[k] = t.name) := by rw [Lib.toList_data, Lib.toList_data]; exact list_beq
              have HBB := hbb
              clear hat hcx hg hbb
              generalize (xs.take k).any (fun v => decide (v = t.name)) = A at *
              generalize decide (xs[k] = t.name) = pk at *
              generalize xs[k] = x0 at *
              cases hbA : (true || A) with
              | true =>
                have HTB : Hid ((true || (A || pk)) = true) := Lib.hid (by rw [← Bool.or_assoc, hbA]; rfl)
                go_wp2
                go_region
                all_goals
                  go_wp2
                  go_round
                  case rel => exact ⟨k + 1, by omega, by simp, by rw [HAT.out, HTB.out], Lib.hid (by first | exact HBB.out | exact HBB.out.drew)⟩
                  case measure => simp [intOf]; omega
              | false =>
                have HTB : Hid ((true || (A || pk)) = pk) := Lib.hid (by rw [← Bool.or_assoc, hbA]; rfl)
                go_wp2
                go_region
                all_goals
                  go_wp2
                  go_round
                  case rel => exact ⟨k + 1, by omega, by simp, by rw [HAT.out, HTB.out], Lib.hid (by first | exact HBB.out | exact HBB.out.drew)⟩
                  case measure => simp [intOf]; omega
            · obtain rfl : k = xs.length := by omega
              rw [List.take_length]
              cases hfin : (true || xs.any (fun v => decide (v = t.name))) with
              | true =>
                have HLN : Hid (lnote D t.kind t.name xs = xs) := Lib.hid (by unfold lnote; rw [if_pos hk2, if_pos (by rw [HTH.out]; simpa using hfin)])
                go_wp2
                go_loopw [0, 13] (fun l j w2 => ∃ k : Nat, k ≤ t.kids.length ∧ j = .int .i64 k ∧ Hid (LP W W1 (.slice oa xs.length oc) w2 l (lcomes D (t.kids.take k) (xs)))) (fun _ j _ => t.kids.length - (intOf j).toNat)
                case atStart => exact ⟨0, Nat.zero_le _, rfl, by rw [List.take_zero, lcomes]; exact H7⟩
                case round =>
                  obtain ⟨k, hk, rfl, hL⟩ := hrel
                  have hbw := hL.out.block HBK.out HQ.out
                  obtain ⟨t0, t1, t2, t3⟩ := box_cells hbw
                  have hbl := cell_lt t0
                  clear hbw
                  by_cases hlt : k < t.kids.length
                  · obtain ⟨b, o, rfl, hr⟩ := HR.out (by intro e; simp [e] at hlt)
                    have hget : t.kids[k]? = some t.kids[k] := List.getElem?_eq_getElem hlt
                    obtain ⟨us, hc, hv⟩ := hr.get hget
                    have HV := Lib.hid hv
                    obtain ⟨s1, rfl, hs1⟩ := hv.vals
                    obtain ⟨sa, sc, rfl, _⟩ := hs1.slice
                    have hcW := hc.below hL.out.row.2
                    have k0 : wr.cell? ⟨b, o + k * 4, none⟩ = some (.int .u8 t.kids[k].kind) := hcW 0 _ rfl
                    have k1 := hcW 1 _ rfl
                    have k2 := hcW 2 _ rfl
                    have k3 := hcW 3 _ rfl
                    have hok2 := okL_get HOK.out hlt
                    have HCALL := Lib.hid (IHH.out t.kids[k] (HP.out k hlt) hok2 wr u0 (lcomes D (t.kids.take k) (xs)) _ hL.out.row (HPN.out k hlt _ (by first | omega | (simp; done) | (simp; omega))) HV.out)
                    have HTK := Lib.hid (lcomes_take (D := D) hlt (xs))
                    have HL := hL
                    clear hc hcW hv hs1 hr hget hL hok2
                    go_wp2_with fail
                    refine HCALL.out.mono ?_
                    rintro e w4 ⟨o4, rfl, h4⟩
                    have HN : Hid (LP W W1 (.slice oa xs.length oc) w4 o4 (lcomes D (t.kids.take (k + 1)) (xs))) := Lib.hid (by rw [HTK.out]; exact HL.out.trans h4)
                    clear h4 HCALL
                    go_wp2
                    go_round
                    case rel => exact ⟨k + 1, by omega, by simp, HN⟩
                    case measure => simp [intOf]; omega
                  · obtain rfl : k = t.kids.length := by omega
                    rw [List.take_length] at hL
                    have HL := hL
                    clear hL
                    go_wp2
                    go_ret
                    exact ⟨_, rfl, by rw [HLE.out]; rw [HLN.out]; exact HL0.out.trans HL.out⟩
              | false => simp at hfin
        | false =>
          have H6 := Lib.hid (HL5.out.below ((Below.refl _ _).alloc (Nat.le_refl _) (.cells #[.int .u8 dk, .string ds, .slice dva dvn dvc, .slice dca dcn dcc, .slice dR.a1 dR.n1 dR.c1, .int .u8 dR.k1, .string dR.s1, .int .i64 dR.m1, .slice dR.a2 dR.n2 dR.c2, .int .u8 dR.k2, .string dR.s2, .int .i64 dR.m2, .string dR.s3, .slice dR.a3 dR.n3 dR.c3, .slice dR.a4 dR.n4 dR.c4, .slice dR.a5 dR.n5 dR.c5] 39)))
          go_wp2
          generalize hW6 : (w5.alloc (.cells #[.int .u8 dk, .string ds, .slice dva dvn dvc, .slice dca dcn dcc, .slice dR.a1 dR.n1 dR.c1, .int .u8 dR.k1, .string dR.s1, .int .i64 dR.m1, .slice dR.a2 dR.n2 dR.c2, .int .u8 dR.k2, .string dR.s2, .int .i64 dR.m2, .string dR.s3, .slice dR.a3 dR.n3 dR.c3, .slice dR.a4 dR.n4 dR.c4, .slice dR.a5 dR.n5 dR.c5] 39)) = w6 at *
          go_loopw [11, 12] (fun b j w2 => ∃ k : Nat, k ≤ xs.length ∧ j = .int .i64 k ∧ b = .bool (!isd || (xs.take k).any (fun v => decide (v = t.name))) ∧ Hid (Below w6.heap.size w6 w2)) (fun _ j _ => xs.length - (intOf j).toNat)
          case atStart => exact ⟨0, Nat.zero_le _, rfl, by rw [List.take_zero]; simp, Lib.hid (Below.refl _ _)⟩
          case round =>
            obtain ⟨k, hk, rfl, rfl, hbb⟩ := hrel
            have h7 := H6.out.below hbb.out
            have hbw := h7.block HBK.out HQ.out
            obtain ⟨t0, t1, t2, t3⟩ := box_cells hbw
            have hbl := cell_lt t0
            have H7 := Lib.hid h7
            clear hbw h7
            by_cases hlt : k < xs.length
            · have hat := any_take_succ hlt (fun v => decide (v = t.name))
              have HAT := Lib.hid hat
              obtain ⟨_, _, hco, hcx⟩ := H7.out.row.cellAt
              cases hco
              obtain ⟨g, rfl, hg⟩ := hcx (by intro e; simp [e] at hlt)
              have ck := hg k _ (List.getElem?_eq_getElem hlt)
              have hgl := cell_lt ck
              have heq : (xs[k].toList == t.name.toList) = decide (xs[k] = t.name) := by rw [Lib.toList_data, Lib.toList_data]; exact list_beq
              have HBB := hbb
              clear hat hcx hg hbb
              generalize (xs.take k).any (fun v => decide (v = t.name)) = A at *
              generalize decide (xs[k] = t.name) = pk at *
              generalize xs[k] = x0 at *
              cases hbA : (!isd || A) with
              | true =>
                have HTB : Hid ((!isd || (A || pk)) = true) := Lib.hid (by rw [← Bool.or_assoc, hbA]; rfl)
                go_wp2
                go_region
                all_goals
                  go_wp2
                  go_round
                  case rel => exact ⟨k + 1, by omega, by simp, by rw [HAT.out, HTB.out], Lib.hid (by first | exact HBB.out | exact HBB.out.drew)⟩
                  case measure => simp [intOf]; omega
              | false =>
                have HTB : Hid ((!isd || (A || pk)) = pk) := Lib.hid (by rw [← Bool.or_assoc, hbA]; rfl)
                go_wp2
                go_region
                all_goals
                  go_wp2
                  go_round
                  case rel => exact ⟨k + 1, by omega, by simp, by rw [HAT.out, HTB.out], Lib.hid (by first | exact HBB.out | exact HBB.out.drew)⟩
                  case measure => simp [intOf]; omega
            · obtain rfl : k = xs.length := by omega
              rw [List.take_length]
              cases hfin : (!isd || xs.any (fun v => decide (v = t.name))) with
              | true =>
                have HLN : Hid (lnote D t.kind t.name xs = xs) := Lib.hid (by unfold lnote; rw [if_pos hk2, if_pos (by rw [HTH.out]; simpa using hfin)])
                go_wp2
                go_loopw [0, 13] (fun l j w2 => ∃ k : Nat, k ≤ t.kids.length ∧ j = .int .i64 k ∧ Hid (LP W W1 (.slice oa xs.length oc) w2 l (lcomes D (t.kids.take k) (xs)))) (fun _ j _ => t.kids.length - (intOf j).toNat)
                case atStart => exact ⟨0, Nat.zero_le _, rfl, by rw [List.take_zero, lcomes]; exact H7⟩
                case round =>
                  obtain ⟨k, hk, rfl, hL⟩ := hrel
                  have hbw := hL.out.block HBK.out HQ.out
                  obtain ⟨t0, t1, t2, t3⟩ := box_cells hbw
                  have hbl := cell_lt t0
                  clear hbw
                  by_cases hlt : k < t.kids.length
                  · obtain ⟨b, o, rfl, hr⟩ := HR.out (by intro e; simp [e] at hlt)
                    have hget : t.kids[k]? = some t.kids[k] := List.getElem?_eq_getElem hlt
                    obtain ⟨us, hc, hv⟩ := hr.get hget
                    have HV := Lib.hid hv
                    obtain ⟨s1, rfl, hs1⟩ := hv.vals
                    obtain ⟨sa, sc, rfl, _⟩ := hs1.slice
                    have hcW := hc.below hL.out.row.2
                    have k0 : wr.cell? ⟨b, o + k * 4, none⟩ = some (.int .u8 t.kids[k].kind) := hcW 0 _ rfl
                    have k1 := hcW 1 _ rfl
                    have k2 := hcW 2 _ rfl
                    have k3 := hcW 3 _ rfl
                    have hok2 := okL_get HOK.out hlt
                    have HCALL := Lib.hid (IHH.out t.kids[k] (HP.out k hlt) hok2 wr u0 (lcomes D (t.kids.take k) (xs)) _ hL.out.row (HPN.out k hlt _ (by first | omega | (simp; done) | (simp; omega))) HV.out)
                    have HTK := Lib.hid (lcomes_take (D := D) hlt (xs))
                    have HL := hL
                    clear hc hcW hv hs1 hr hget hL hok2
                    go_wp2_with fail
                    refine HCALL.out.mono ?_
                    rintro e w4 ⟨o4, rfl, h4⟩
                    have HN : Hid (LP W W1 (.slice oa xs.length oc) w4 o4 (lcomes D (t.kids.take (k + 1)) (xs))) := Lib.hid (by rw [HTK.out]; exact HL.out.trans h4)
                    clear h4 HCALL
                    go_wp2
                    go_round
                    case rel => exact ⟨k + 1, by omega, by simp, HN⟩
                    case measure => simp [intOf]; omega
                  · obtain rfl : k = t.kids.length := by omega
                    rw [List.take_length] at hL
                    have HL := hL
                    clear hL
                    go_wp2
                    go_ret
                    exact ⟨_, rfl, by rw [HLE.out]; rw [HLN.out]; exact HL0.out.trans HL.out⟩
              | false =>
                have HLN : Hid (lnote D t.kind t.name xs = xs ++ [t.name]) := Lib.hid (by unfold lnote; rw [if_pos hk2, if_neg (by rw [HTH.out, Bool.false_or, hfin]; simp)])
                have hown := H7.out.row.1.alloc (.cells #[.string t.name] 9)
                have hsw := H7.out.row.2.size
                go_wp2_with (at_builtin; refine wpList_append_own_at _ rfl _ _ 31 rfl W.heap.size 9 i (.string { data := #[] }) 1 16 Tryz.underlying31 hi hz2 hz0 hz1 rfl (by decide) _ _ _ rfl hown ⟨wr.heap.size, 0, none⟩ 1 1 [.string t.name] rfl rfl (cell_one_new _ _ _) (str_one t.name) (by simp only [maxLen]; omega) (by omega) (by simp; omega) ?_; intro v' w8 hown' hgrow hnil hat)
                have H8 : Hid (LP W W1 (.slice oa xs.length oc) w8 v' (xs ++ [t.name])) := Lib.hid ((H7.out.below ((Below.refl _ _).alloc (Nat.le_refl _) _)).trans ⟨OutV.grown (H7.out.row.below ((Below.refl _ _).alloc (Nat.le_refl _) _)) hown' hgrow, hgrow, by
                  rcases hat with e | e
                  · exact .inl e
                  · exact .inr ⟨_, e, Nat.le_refl _⟩⟩)
                clear hown' hgrow hnil hat hown
                go_wp2
                go_loopw [0, 13] (fun l j w2 => ∃ k : Nat, k ≤ t.kids.length ∧ j = .int .i64 k ∧ Hid (LP W W1 (.slice oa xs.length oc) w2 l (lcomes D (t.kids.take k) ((xs ++ [t.name]))))) (fun _ j _ => t.kids.length - (intOf j).toNat)
                case atStart => exact ⟨0, Nat.zero_le _, rfl, by rw [List.take_zero, lcomes]; exact H8⟩
                case round =>
                  obtain ⟨k, hk, rfl, hL⟩ := hrel
                  have hbw := hL.out.block HBK.out HQ.out
                  obtain ⟨t0, t1, t2, t3⟩ := box_cells hbw
                  have hbl := cell_lt t0
                  clear hbw
                  by_cases hlt : k < t.kids.length
                  · obtain ⟨b, o, rfl, hr⟩ := HR.out (by intro e; simp [e] at hlt)
                    have hget : t.kids[k]? = some t.kids[k] := List.getElem?_eq_getElem hlt
                    obtain ⟨us, hc, hv⟩ := hr.get hget
                    have HV := Lib.hid hv
                    obtain ⟨s1, rfl, hs1⟩ := hv.vals
                    obtain ⟨sa, sc, rfl, _⟩ := hs1.slice
                    have hcW := hc.below hL.out.row.2
                    have k0 : wr.cell? ⟨b, o + k * 4, none⟩ = some (.int .u8 t.kids[k].kind) := hcW 0 _ rfl
                    have k1 := hcW 1 _ rfl
                    have k2 := hcW 2 _ rfl
                    have k3 := hcW 3 _ rfl
                    have hok2 := okL_get HOK.out hlt
                    have HCALL := Lib.hid (IHH.out t.kids[k] (HP.out k hlt) hok2 wr u0 (lcomes D (t.kids.take k) ((xs ++ [t.name]))) _ hL.out.row (HPN.out k hlt _ (by first | omega | (simp; done) | (simp; omega))) HV.out)
                    have HTK := Lib.hid (lcomes_take (D := D) hlt ((xs ++ [t.name])))
                    have HL := hL
                    clear hc hcW hv hs1 hr hget hL hok2
                    go_wp2_with fail
                    refine HCALL.out.mono ?_
                    rintro e w4 ⟨o4, rfl, h4⟩
                    have HN : Hid (LP W W1 (.slice oa xs.length oc) w4 o4 (lcomes D (t.kids.take (k + 1)) ((xs ++ [t.name])))) := Lib.hid (by rw [HTK.out]; exact HL.out.trans h4)
                    clear h4 HCALL
                    go_wp2
                    go_round
                    case rel => exact ⟨k + 1, by omega, by simp, HN⟩
                    case measure => simp [intOf]; omega
                  · obtain rfl : k = t.kids.length := by omega
                    rw [List.take_length] at hL
                    have HL := hL
                    clear hL
                    go_wp2
                    go_ret
                    exact ⟨_, rfl, by rw [HLE.out]; rw [HLN.out]; exact HL0.out.trans HL.out⟩
    · as_aux_lemma =>
        have HLN : Hid (lnote D t.kind t.name xs = xs) := Lib.hid (by unfold lnote; rw [if_neg hk2])
        have hkb : (t.kind == 2) = false := by simpa using hk2
        clear hk2
        go_enter Tryz.func12, Tryz.ntmps12
        go_wp2
        generalize hW1 : (wr0.alloc (.cells ⟨[.int .u8 t.kind, .string t.name, .int .i64 t.num, .slice ka t.kids.length kc]⟩ 24)) = W1 at *
        go_loopw [0, 13] (fun l j w2 => ∃ k : Nat, k ≤ t.kids.length ∧ j = .int .i64 k ∧ Hid (LP W W1 (.slice oa xs.length oc) w2 l (lcomes D (t.kids.take k) (xs)))) (fun _ j _ => t.kids.length - (intOf j).toNat)
        case atStart => exact ⟨0, Nat.zero_le _, rfl, by rw [List.take_zero, lcomes]; exact HL1⟩
        case round =>
          obtain ⟨k, hk, rfl, hL⟩ := hrel
          have hbw := hL.out.block HBK.out HQ.out
          obtain ⟨t0, t1, t2, t3⟩ := box_cells hbw
          have hbl := cell_lt t0
          clear hbw
          by_cases hlt : k < t.kids.length
          · obtain ⟨b, o, rfl, hr⟩ := HR.out (by intro e; simp [e] at hlt)
            have hget : t.kids[k]? = some t.kids[k] := List.getElem?_eq_getElem hlt
            obtain ⟨us, hc, hv⟩ := hr.get hget
            have HV := Lib.hid hv
            obtain ⟨s1, rfl, hs1⟩ := hv.vals
            obtain ⟨sa, sc, rfl, _⟩ := hs1.slice
            have hcW := hc.below hL.out.row.2
            have k0 : wr.cell? ⟨b, o + k * 4, none⟩ = some (.int .u8 t.kids[k].kind) := hcW 0 _ rfl
            have k1 := hcW 1 _ rfl
            have k2 := hcW 2 _ rfl
            have k3 := hcW 3 _ rfl
            have hok2 := okL_get HOK.out hlt
            have HCALL := Lib.hid (IHH.out t.kids[k] (HP.out k hlt) hok2 wr u0 (lcomes D (t.kids.take k) (xs)) _ hL.out.row (HPN.out k hlt _ (by first | omega | (simp; done) | (simp; omega))) HV.out)
            have HTK := Lib.hid (lcomes_take (D := D) hlt (xs))
            have HL := hL
            clear hc hcW hv hs1 hr hget hL hok2
            go_wp2_with fail
            refine HCALL.out.mono ?_
            rintro e w4 ⟨o4, rfl, h4⟩
            have HN : Hid (LP W W1 (.slice oa xs.length oc) w4 o4 (lcomes D (t.kids.take (k + 1)) (xs))) := Lib.hid (by rw [HTK.out]; exact HL.out.trans h4)
            clear h4 HCALL
            go_wp2
            go_round
            case rel => exact ⟨k + 1, by omega, by simp, HN⟩
            case measure => simp [intOf]; omega
          · obtain rfl : k = t.kids.length := by omega
            rw [List.take_length] at hL
            have HL := hL
            clear hL
            go_wp2
            go_ret
            exact ⟨_, rfl, by rw [HLE.out]; rw [HLN.out]; exact HL0.out.trans HL.out⟩
end Go.Stamp
set_option linter.unusedVariables false
set_option linter.unusedSimpArgs false
set_option maxRecDepth 100000
set_option maxHeartbeats 8000000
namespace Go.Stamp
open Go Go.RowKit Go.Proofs Go.Maps
mutual
theorem come_iff {D : List Dec} {vars : List ByteArray} : ∀ (t : Ty) {row r : List Dec} {l : List ByteArray}, come ownN D vars t row = some r → (row = [] ↔ l = []) → (r = [] ↔ lcome D t l = [])
  | .mk kind name num kids, row, r, l, h, hl => by
    rw [come] at h
    rw [lcome]
    split at h
    · rename_i hk
      split at h
      · exact comes_iff kids h (by unfold lnote; rw [if_neg (by omega)]; exact hl)
      · cases h
    · split at h
      · rename_i hk
        split at h
        · cases h
        · exact comes_iff kids h (by unfold lnote; rw [if_neg (by omega)]; exact hl)
      · split at h
        · rename_i hk
          split at h
          · refine comes_iff kids h ?_
            unfold lnote
            rw [if_pos hk]
            unfold note there
            cases ho : ownN name with
            | some n => simpa using hl
            | none =>
              cases hf : find D name with
              | none => simpa using hl
              | some d =>
                simp only [Option.isSome_none, Option.isSome_some, Bool.not_true, Bool.or_self, Bool.false_or]
                constructor
                · intro e
                  split at e
                  · rename_i ha; subst e; simp at ha
                  · simp at e
                · intro e
                  split at e
                  · rename_i ha; subst e; simp at ha
                  · simp at e
          · cases h
        · cases h
theorem comes_iff {D : List Dec} {vars : List ByteArray} : ∀ (ts : List Ty) {row r : List Dec} {l : List ByteArray}, comes ownN D vars ts row = some r → (row = [] ↔ l = []) → (r = [] ↔ lcomes D ts l = [])
  | [], row, r, l, h, hl => by
    rw [comes] at h
    injection h with h
    subst h
    rw [lcomes]
    exact hl
  | t :: ts, row, r, l, h, hl => by
    rw [comes] at h
    obtain ⟨r1, h1, h2⟩ := Option.bind_eq_some_iff.1 h
    rw [lcomes]
    exact comes_iff ts h2 (come_iff t h1 hl)
end
theorem allOf_iff {D : List Dec} {t : Ty} {row : List Dec} (h : allOf ownN D t = some row) : row = [] ↔ lcome D t [] = [] := by
  unfold allOf at h
  obtain ⟨r1, h1, h2⟩ := Option.bind_eq_some_iff.1 h
  have h3 := come_iff (l := []) t h1 ⟨fun _ => rfl, fun _ => rfl⟩
  rw [← h3]
  constructor
  · rintro rfl
    have := goRow_prefix _ _ h2
    simpa using this
  · rintro rfl
    rw [goRow_end (by simp)] at h2
    injection h2 with h2
    exact h2.symm
/-- what stands behind the type's text -/
def tailT (row : List Dec) : ByteArray := ⟨(Lib.joinTail sSemi.data.toList ((row.map (decT numS)).map (·.data.toList))).toArray⟩
theorem text_tail (t : Ty) (row : List Dec) : textT numS t row = tyT numS t ++ tailT row := by
  apply bytes_of
  rw [append_list]
  unfold textT tailT
  rw [joinB_list, List.map_cons, Lib.join_cons]
theorem tail_size (row : List Dec) : 2 * row.length ≤ (tailT row).size ∧ (row = [] → tailT row = { data := #[] }) := by
  constructor
  · show _ ≤ (Lib.joinTail sSemi.data.toList ((row.map (decT numS)).map (·.data.toList))).toArray.size
    rw [List.size_toArray, Lib.joinTail_length, List.length_map, List.length_map]
    have : sSemi.data.toList.length = 2 := rfl
    rw [this]
    omega
  · rintro rfl; rfl
theorem extract_left (x tl : ByteArray) : (x ++ tl).extract 0 x.size = x := by
  apply bytes_of
  rw [ByteArray.data_extract, ByteArray.data_append]
  show ((x.data ++ tl.data).extract 0 x.data.size).toList = _
  rw [Array.extract_append_left]
  simp
  exact List.take_of_length_le (by rw [Array.length_toList]; exact Nat.le_refl _)
theorem begins_ok (hworks : Works) {W : World} {D : List Dec} {dv : Value} {g : Addr} (hL : Lies W g) (hD : FitD W D dv) (t : Ty) (ht : partsT t ≤ 1048576) (hfit : fitT 1048576 t)
    (hrty : partsT t ≤ 2000 → (∃ row, allOf ownN D t = some row) → ∀ (W0 W : World) (vs : List Value), TyV W0 t vs → Below W0.heap.size W0 W → Calls Tryz.prog 11 #[.agg ⟨vs⟩] W fun e w' => e = .returned (.string (tyT numS t)) ∧ Below W.heap.size W w') (vs : List Value) (hT : TyV W t vs) :
    Calls Tryz.prog 4 #[.agg ⟨vs⟩, dv] W fun e w' => TrueP W e w' := by
  obtain ⟨da, dc, rfl⟩ := hD.decs.slice
  have HT := Lib.hid hT
  obtain ⟨s, rfl, hs⟩ := hT.vals
  obtain ⟨ka, kc, rfl, _⟩ := hs.slice
  have HD := Lib.hid hD
  have HL := Lib.hid hL
  have HLA : Hid (∀ w, Below W.heap.size W w → Calls Tryz.prog 7 #[.agg #[.int .u8 t.kind, .string t.name, .int .i64 t.num, .slice ka t.kids.length kc], .slice da D.length dc] w fun e w' => LargeP w t D e w') := Lib.hid fun w hb => HD.out.large hb t ht _ HT.out
  have HW : Hid (∀ w, Below W.heap.size W w → Calls Tryz.prog 8 #[] w fun e w' => e = .returned (.bool true) ∧ Below w.heap.size w w') := Lib.hid fun w hb => hworks w g (HL.out.below hb)
  have hb0 : Below W.heap.size W (W.alloc (.cells ⟨[.int .u8 t.kind, .string t.name, .int .i64 t.num, .slice ka t.kids.length kc]⟩ 24)) := (Below.refl _ _).alloc (Nat.le_refl _) _
  have HB0 := Lib.hid hb0
  have hbox := box_cells (heap_alloc_new W (.cells ⟨[.int .u8 t.kind, .string t.name, .int .i64 t.num, .slice ka t.kids.length kc]⟩ 24))
  have hz : (W.alloc (.cells ⟨[.int .u8 t.kind, .string t.name, .int .i64 t.num, .slice ka t.kids.length kc]⟩ 24)).heap.size = W.heap.size + 1 := by simp
  have HTX : Hid (NotLarge t D → ∀ w, Below W.heap.size W w → Calls Tryz.prog 9 #[.agg #[.int .u8 t.kind, .string t.name, .int .i64 t.num, .slice ka t.kids.length kc], .slice da D.length dc] w fun e w' => TextP w D t e w') :=
    Lib.hid fun hn w hb => text_ok (HD.out.decs.below hb) (by have := hn.2.1; omega) (HD.out.decB hn.2.2) (HL.out.below hb).err (HL.out.below hb).tab t hn.1 hfit _ (HT.out.below hb)
  have HRT : Hid (partsT t ≤ 2000 → (∃ row, allOf ownN D t = some row) → ∀ w, Below W.heap.size W w → Calls Tryz.prog 11 #[.agg #[.int .u8 t.kind, .string t.name, .int .i64 t.num, .slice ka t.kids.length kc]] w fun e w' => e = .returned (.string (tyT numS t)) ∧ Below w.heap.size w w') := Lib.hid fun h1 h2 w hb => hrty h1 h2 W w _ HT.out hb
  have HCM : Hid (partsT t ≤ 2000 → ∀ w, Below W.heap.size W w → Calls Tryz.prog 12 #[.slice none 0 0, .agg #[.int .u8 t.kind, .string t.name, .int .i64 t.num, .slice ka t.kids.length kc], .slice da D.length dc] w fun e w' => ∃ a c, e = .returned (.slice a (lcome D t []).length c) ∧ Below W.heap.size W w') := Lib.hid fun h1 w hb => by
    refine (lcome_ok HD.out.decs HD.out.many 4096 t (by omega) (Nat.le_refl _) (fit_ok (by decide) t hfit) w _ [] _ ⟨World.ownsRow_nil _ _ _ _, hb⟩ (by simp; omega) HT.out).mono ?_
    rintro e w' ⟨out', rfl, hlp⟩
    obtain ⟨a, c, rfl, _⟩ := hlp.row.cellAt
    exact ⟨a, c, rfl, hlp.row.2⟩
  clear hD hL hT hs hworks hb0 hrty
  go_enter Tryz.func4, Tryz.ntmps4
  go_wp2_with fail
  generalize hW1 : (W.alloc (.cells ⟨[.int .u8 t.kind, .string t.name, .int .i64 t.num, .slice ka t.kids.length kc]⟩ 24)) = w1 at *
  refine (HLA.out _ HB0.out).mono ?_
  rintro e w2 ⟨⟨b, rfl, hnl⟩, hb⟩
  have HQ : Hid (∀ w, Below (W.heap.size + 1) w1 w → (w.cell? ⟨W.heap.size, 0, none⟩ = some (.int .u8 t.kind) ∧ w.cell? ⟨W.heap.size, 1, none⟩ = some (.string t.name) ∧ w.cell? ⟨W.heap.size, 2, none⟩ = some (.int .i64 t.num) ∧ w.cell? ⟨W.heap.size, 3, none⟩ = some (.slice ka t.kids.length kc)) ∧ Below W.heap.size W w ∧ W.heap.size + 1 ≤ w.heap.size) := Lib.hid fun w hb =>
    ⟨⟨(hb.cell (p := ⟨W.heap.size, 0, none⟩) (Nat.lt_succ_self _)).trans hbox.1, (hb.cell (p := ⟨W.heap.size, 1, none⟩) (Nat.lt_succ_self _)).trans hbox.2.1, (hb.cell (p := ⟨W.heap.size, 2, none⟩) (Nat.lt_succ_self _)).trans hbox.2.2.1, (hb.cell (p := ⟨W.heap.size, 3, none⟩) (Nat.lt_succ_self _)).trans hbox.2.2.2⟩, HB0.out.trans (hb.mono (Nat.le_succ _)), by have := hb.size; omega⟩
  have H2 : Hid (Below (W.heap.size + 1) w1 w2) := Lib.hid (hb.mono (Nat.le_of_eq hz.symm))
  obtain ⟨⟨t0, t1, t2, t3⟩, hB2, hs2⟩ := HQ.out _ H2.out
  have HB2 := Lib.hid hB2
  clear hb hB2 hbox
  cases b with
  | true =>
    go_wp2_with fail
    refine (HW.out _ HB2.out).mono ?_
    rintro e w3 ⟨rfl, hb⟩
    have HB3 := Lib.hid (HB2.out.trans (hb.mono HB2.out.size))
    clear hb
    go_wp2
    go_ret
    exact ⟨rfl, HB3.out⟩
  | false =>
    have HN := Lib.hid (hnl rfl)
    clear hnl
    go_wp2_with fail
    refine (HTX.out HN.out w2 HB2.out).mono ?_
    rintro e w4 ⟨rfl, hb⟩
    have H4 : Hid (Below (W.heap.size + 1) w1 w4) := Lib.hid (H2.out.trans (hb.mono hs2))
    clear t0 t1 t2 t3 hb HB2
    obtain ⟨⟨t0, t1, t2, t3⟩, hB4, hs4⟩ := HQ.out _ H4.out
    have HB4 := Lib.hid hB4
    clear hB4
    unfold textR
    cases hall : allOf ownN D t with
    | none =>
      simp only []
      go_wp2_with fail
      refine (HW.out _ HB4.out).mono ?_
      rintro e w5 ⟨rfl, hb⟩
      have HB5 := Lib.hid (HB4.out.trans (hb.mono HB4.out.size))
      clear hb
      go_wp2
      go_ret
      exact ⟨rfl, HB5.out⟩
    | some row =>
      simp only []
      by_cases h200 : 200 < (textT numS t row).size
      · rw [if_pos h200]
        clear h200
        go_wp2_with fail
        refine (HW.out _ HB4.out).mono ?_
        rintro e w5 ⟨rfl, hb⟩
        have HB5 := Lib.hid (HB4.out.trans (hb.mono HB4.out.size))
        clear hb
        go_wp2
        go_ret
        exact ⟨rfl, HB5.out⟩
      · rw [if_neg h200]
        have hiff := allOf_iff hall
        have htt := text_tail t row
        obtain ⟨hts, hte⟩ := tail_size row
        have HRT2 := Lib.hid (HRT.out HN.out.1 ⟨row, hall⟩)
        have HCM2 := Lib.hid (HCM.out HN.out.1)
        rw [htt] at h200 ⊢
        clear hall htt HRT HCM
        generalize tyT numS t = x at *
        generalize hTL : tailT row = tl at *
        have hsz : (x ++ tl).size = x.size + tl.size := by simp
        go_wp2_with fail
        refine (HRT2.out _ HB4.out).mono ?_
        rintro e w5 ⟨rfl, hb⟩
        have H5 : Hid (Below (W.heap.size + 1) w1 w5) := Lib.hid (H4.out.trans (hb.mono hs4))
        clear t0 t1 t2 t3 hb HB4
        obtain ⟨⟨t0, t1, t2, t3⟩, hB5, hs5⟩ := HQ.out _ H5.out
        have HB5 := Lib.hid hB5
        clear hB5
        have hext := extract_left x tl
        have hxx : (x.toList == x.toList) = true := by simp
        go_wp2_with fail
        refine (HCM2.out _ HB5.out).mono ?_
        rintro e w6 ⟨ca, cc, rfl, hb6⟩
        have HB6 := Lib.hid hb6
        clear hb6
        by_cases hrow : row = []
        · have hl0 := hiff.1 hrow
          have ht0 := hte hrow
          rw [hl0, ht0]
          have hsx : (x ++ ({ data := #[] } : ByteArray)).size = x.size := by rw [size_append]; rfl
          have h200' : x.size ≤ 200 := by rw [ht0, hsx] at h200; omega
          clear hrow hl0 hiff hte hts h200 hsz hext
          go_wp2_with fail
          refine (HW.out _ HB6.out).mono ?_
          rintro e w7 ⟨rfl, hb⟩
          have HB7 := Lib.hid (HB6.out.trans (hb.mono HB6.out.size))
          clear hb
          go_wp2
          go_ret
          exact ⟨rfl, HB7.out⟩
        · have hl0 : (lcome D t []).length ≠ 0 := fun e => hrow (hiff.2 (List.eq_nil_of_length_eq_zero e))
          have ht0 : tl.size ≠ 0 := by
            have : 0 < row.length := List.length_pos_iff.2 hrow
            omega
          generalize (lcome D t []).length = cl at *
          have e1 : ((cl : Int) == 0) = false := by simpa using hl0
          have e2 : (((x.size : Int) + (tl.size : Int)) == (x.size : Int)) = false := by rw [beq_eq_false_iff_ne]; omega
          have h200' : x.size + tl.size ≤ 200 := by rw [hsz] at h200; omega
          clear hrow hiff hte hts h200
          go_wp2_with fail
          refine (HW.out _ HB6.out).mono ?_
          rintro e w7 ⟨rfl, hb⟩
          have HB7 := Lib.hid (HB6.out.trans (hb.mono HB6.out.size))
          clear hb
          go_wp2
          go_ret
          exact ⟨rfl, HB7.out⟩
end Go.Stamp
