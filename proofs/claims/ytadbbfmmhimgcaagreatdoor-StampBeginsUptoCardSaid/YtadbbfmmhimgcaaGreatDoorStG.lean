/- What the law reaches beside: large; more datatypes turn nothing. Each says its own conditions. -/
import Derived.Test.YtadbbfmmhimgcaaGreatDoorStF
import Derived.Laws.AppendOwnNone
set_option linter.unusedVariables false
set_option linter.unusedSimpArgs false
set_option maxRecDepth 100000
set_option maxHeartbeats 1600000
namespace Go.Stamp
open Go Go.RowKit Go.Proofs Go.Maps
/-! ## More datatypes turn nothing -/
section
variable {ownN : ByteArray → Option Nat}
theorem goRow_agree {D D' : List Dec} (h : Agree D D') : ∀ (f i : Nat) {row r : List Dec}, goRow ownN D f i row = some r → r.length ≤ i + f → ∀ f', f ≤ f' → goRow ownN D' f' i row = some r
  | 0, i, row, r, hr, hl, f', hf => by
    rw [goRow] at hr
    injection hr with hr
    subst hr
    exact goRow_end (by omega)
  | f + 1, i, row, r, hr, hl, f', hf => by
    by_cases hi : i < row.length
    · rw [goRow_step hi] at hr
      obtain ⟨r1, h1, h2⟩ := Option.bind_eq_some_iff.1 hr
      rw [show f' = (f' - 1) + 1 by omega, goRow_step hi, consL_agree h _ _ _ _ h1]
      exact goRow_agree h f (i + 1) h2 (by omega) (f' - 1) (by omega)
    · rw [goRow_end (by omega)] at hr
      rw [goRow_end (by omega)]
      exact hr
theorem allOf_agree {D D' : List Dec} (h : Agree D D') (hl : D.length ≤ D'.length) {t : Ty} {r : List Dec} (hr : allOf ownN D t = some r) (hrl : r.length ≤ D.length) : allOf ownN D' t = some r := by
  unfold allOf at hr ⊢
  obtain ⟨r1, h1, h2⟩ := Option.bind_eq_some_iff.1 hr
  rw [come_agree h [] t [] r1 h1]
  exact goRow_agree h _ 0 h2 (by omega) _ (by omega)
/-- those of more that are none of D's names -/
def keepD (D more : List Dec) : List Dec := more.filter fun x => !(find D x.name).isSome || !decide (x.kind = 1)
theorem agree_keep (D more : List Dec) : Agree D (keepD D more ++ D ++ more) := by
  intro name d hd
  rw [find_eq] at hd ⊢
  rw [List.find?_append, List.find?_append]
  have : (keepD D more).find? (isD name) = none := by
    rw [List.find?_eq_none]
    intro x hx h
    unfold keepD at hx
    rw [List.mem_filter] at hx
    simp only [isD, Bool.and_eq_true, decide_eq_true_eq] at h
    obtain ⟨_, hx⟩ := hx
    rw [h.2, find_eq, hd, h.1] at hx
    simp at hx
  rw [this, hd]
  rfl
end
/-- all of a row are found by their names, and each once -/
def Src (D row : List Dec) : Prop := (∀ d ∈ row, find D d.name = some d) ∧ (row.map fun d => d.name.data.toList).Nodup
theorem Src.len {D row : List Dec} (h : Src D row) : row.length ≤ D.length := by
  have := nodup_len (m := D.map fun d => d.name.data.toList) h.2 fun x hx => by
    obtain ⟨d, hd, rfl⟩ := List.mem_map.1 hx
    exact List.mem_map_of_mem (find_mem (h.1 d hd)).1
  simpa using this
section
variable {ownN : ByteArray → Option Nat}
theorem note_src {D row : List Dec} (h : Src D row) (name : ByteArray) : Src D (note ownN D row name) := by
  unfold note
  split
  · exact h
  · split
    · exact h
    · rename_i d hd
      split
      · exact h
      · rename_i hn
        obtain ⟨_, hdn, _⟩ := find_mem hd
        refine ⟨fun e he => ?_, ?_⟩
        · rcases List.mem_append.1 he with he | he
          · exact h.1 e he
          · simp at he; subst he; rw [hdn]; exact hd
        · rw [List.map_append, List.nodup_append]
          refine ⟨h.2, by simp, fun a ha b hb => ?_⟩
          simp at hb
          subst hb
          rintro rfl
          obtain ⟨x, hx, e⟩ := List.mem_map.1 ha
          refine hn (List.any_eq_true.2 ⟨x, hx, ?_⟩)
          rw [decide_eq_true_eq, ← hdn]
          exact WideShapes.bytes_inj e
mutual
theorem come_src {D : List Dec} {vars : List ByteArray} : ∀ (t : Ty) {row r : List Dec}, Src D row → come ownN D vars t row = some r → Src D r
  | .mk kind name num kids, row, r, hs, h => by
    rw [come] at h
    split at h
    · split at h
      · exact comes_src kids hs h
      · cases h
    · split at h
      · split at h
        · cases h
        · exact comes_src kids hs h
      · split at h
        · split at h
          · exact comes_src kids (note_src hs name) h
          · cases h
        · cases h
theorem comes_src {D : List Dec} {vars : List ByteArray} : ∀ (l : List Ty) {row r : List Dec}, Src D row → comes ownN D vars l row = some r → Src D r
  | [], row, r, hs, h => by
    rw [comes] at h
    injection h with h
    subst h
    exact hs
  | t :: ts, row, r, hs, h => by
    rw [comes] at h
    obtain ⟨r1, h1, h2⟩ := Option.bind_eq_some_iff.1 h
    exact comes_src ts (come_src t hs h1) h2
end
theorem consL_src {D : List Dec} {vars : List ByteArray} : ∀ (l : List Con) {row r : List Dec}, Src D row → consL ownN D vars l row = some r → Src D r
  | [], row, r, hs, h => by
    rw [consL] at h
    injection h with h
    subst h
    exact hs
  | c :: cs, row, r, hs, h => by
    rw [consL] at h
    split at h
    · obtain ⟨r1, h1, h2⟩ := Option.bind_eq_some_iff.1 h
      exact consL_src cs (come_src _ hs h1) h2
    · exact consL_src cs hs h
theorem goRow_src {D : List Dec} : ∀ (f i : Nat) {row r : List Dec}, Src D row → goRow ownN D f i row = some r → Src D r
  | 0, i, row, r, hs, h => by
    rw [goRow] at h
    injection h with h
    subst h
    exact hs
  | f + 1, i, row, r, hs, h => by
    by_cases hi : i < row.length
    · rw [goRow_step hi] at h
      obtain ⟨r1, h1, h2⟩ := Option.bind_eq_some_iff.1 h
      exact goRow_src f (i + 1) (consL_src _ hs h1) h2
    · rw [goRow_end (by omega)] at h
      injection h with h
      subst h
      exact hs
theorem allOf_src {D : List Dec} {t : Ty} {r : List Dec} (h : allOf ownN D t = some r) : Src D r := by
  unfold allOf at h
  obtain ⟨r1, h1, h2⟩ := Option.bind_eq_some_iff.1 h
  exact goRow_src _ 0 (come_src t ⟨fun d hd => (by cases hd), by simp⟩ h1) h2
theorem textR_cases (ownN : ByteArray → Option Nat) (numT : Int → ByteArray) (D : List Dec) (t : Ty) : ((textR ownN numT D t).1 = { data := #[] } ∧ (textR ownN numT D t).2 = 13) ∨ ((textR ownN numT D t).1 = { data := #[] } ∧ (textR ownN numT D t).2 = 16) ∨ (textR ownN numT D t).2 = 0 := by
  unfold textR
  split
  · exact .inl ⟨rfl, rfl⟩
  · split
    · exact .inr (.inl ⟨rfl, rfl⟩)
    · exact .inr (.inr rfl)
theorem keepD_in {D M : List Dec} {k : Nat} (hk : k < M.length) (h : (find D M[k].name).isSome = false ∨ M[k].kind ≠ 1) : keepD D (M.take (k + 1)) = keepD D (M.take k) ++ [M[k]] := by
  rw [List.take_succ_eq_append_getElem hk]
  unfold keepD
  rw [List.filter_append]
  congr 1
  rw [List.filter_cons_of_pos]
  · rfl
  · rcases h with h | h <;> simp [h]
theorem keepD_out {D M : List Dec} {k : Nat} (hk : k < M.length) (h : (find D M[k].name).isSome = true) (h1 : M[k].kind = 1) : keepD D (M.take (k + 1)) = keepD D (M.take k) := by
  rw [List.take_succ_eq_append_getElem hk]
  unfold keepD
  rw [List.filter_append, List.filter_cons_of_neg]
  · simp
  · simp [h, h1]
theorem keepD_sub {D M : List Dec} : ∀ d ∈ keepD D M, d ∈ M := fun d hd => (List.mem_filter.1 hd).1
theorem keepD_len (D M : List Dec) (k : Nat) : (keepD D (M.take k)).length ≤ k := Nat.le_trans (List.length_filter_le _ _) (by rw [List.length_take]; omega)
/-- StampLess, in plain words: what may be told stays the same under more datatypes -/
theorem text_more {numT : Int → ByteArray} {D more : List Dec} {t : Ty} (h : (textR ownN numT D t).2 = 0) : textR ownN numT (keepD D more ++ D ++ more) t = textR ownN numT D t := by
  unfold textR at h ⊢
  cases ha : allOf ownN D t with
  | none => rw [ha] at h; simp at h
  | some row =>
    rw [allOf_agree (agree_keep D more) (by simp; omega) ha (allOf_src ha).len]
end
/-! ## A row of declarations of the call's own -/
theorem decV_cells {W : World} {d : Dec} {vs : List Value} (h : DecV W d vs) : vs.length = 16 ∧ ∀ u ∈ vs, u.oneCell' = true := by
  obtain ⟨sv, sc, R, rfl, hsv, hsc⟩ := h
  obtain ⟨va, vc, rfl⟩ := hsv.slice
  obtain ⟨ca, cc, rfl⟩ := hsc.slice
  refine ⟨rfl, ?_⟩
  simp [Rest.vals, Value.oneCell']
theorem decs_cells {W : World} {D : List Dec} {b o c : Nat} (h : DecsV W D (.slice (some ⟨b, o, none⟩) D.length c)) : ∀ k, k ≤ D.length → ∃ news : List Value, news.length = k * 16 ∧ (∀ j u, news[j]? = some u → W.cell? ⟨b, o + j, none⟩ = some u) ∧ (∀ u ∈ news, u.oneCell' = true) ∧
    ∀ i (hi : i < D.length), i < k → ∃ vs, vs.length = 16 ∧ (∀ j, j < 16 → news[i * 16 + j]? = vs[j]?) ∧ DecV W D[i] vs
  | 0, _ => ⟨[], rfl, fun j u hj => by simp at hj, fun u hu => (by cases hu), fun i _ h => absurd h (Nat.not_lt_zero _)⟩
  | k + 1, hk => by
    obtain ⟨news, h1, h2, h3, h4⟩ := decs_cells h k (by omega)
    obtain ⟨b', o', vs, e, hc, hv⟩ := h.get (i := k) (by omega)
    cases e
    obtain ⟨hl, ho⟩ := decV_cells hv
    refine ⟨news ++ vs, by rw [List.length_append, h1, hl]; omega, fun j u hj => ?_, fun u hu => ?_, fun i hi hik => ?_⟩
    · by_cases hj2 : j < news.length
      · rw [List.getElem?_append_left hj2] at hj
        exact h2 j u hj
      · rw [List.getElem?_append_right (by omega)] at hj
        have := hc _ _ hj
        rw [h1] at this
        rw [show o + j = o + k * 16 + (j - k * 16) by omega]
        exact this
    · rcases List.mem_append.1 hu with hu | hu
      · exact h3 u hu
      · exact ho u hu
    · by_cases e : i = k
      · subst e
        refine ⟨vs, hl, fun j hj => ?_, hv⟩
        rw [List.getElem?_append_right (by omega)]
        congr 1; omega
      · obtain ⟨vs', a1, a2, a3⟩ := h4 i hi (by omega)
        refine ⟨vs', a1, fun j hj => ?_, a3⟩
        rw [List.getElem?_append_left (by omega)]
        exact a2 j hj
/-- what the row holds -/
def ItemsV (W : World) (l : List Dec) (xs : List Value) : Prop := ∀ i (hi : i < l.length), ∃ vs, vs.length = 16 ∧ (∀ j, j < 16 → xs[i * 16 + j]? = vs[j]?) ∧ DecV W l[i] vs
theorem ItemsV.append {W : World} {l m : List Dec} {xs ys : List Value} (hx : xs.length = l.length * 16) (h : ItemsV W l xs) (h' : ItemsV W m ys) : ItemsV W (l ++ m) (xs ++ ys) := by
  intro i hi
  by_cases e : i < l.length
  · obtain ⟨vs, a1, a2, a3⟩ := h i e
    refine ⟨vs, a1, fun j hj => ?_, by rw [List.getElem_append_left e]; exact a3⟩
    rw [List.getElem?_append_left (by omega)]
    exact a2 j hj
  · rw [List.length_append] at hi
    obtain ⟨vs, a1, a2, a3⟩ := h' (i - l.length) (by omega)
    refine ⟨vs, a1, fun j hj => ?_, by rw [List.getElem_append_right (by omega)]; exact a3⟩
    rw [List.getElem?_append_right (by omega), ← a2 j hj]
    congr 1; omega
structure OwnD (W w : World) (l : List Dec) (out : Value) : Prop where
  row : ∃ xs, w.ownsRow W.heap.size 39 16 out l.length xs ∧ ItemsV W l xs
  below : Below W.heap.size W w
theorem OwnD.grow {W w w' : World} {l : List Dec} {out : Value} (h : OwnD W w l out) (hb : Below w.heap.size w w') : OwnD W w' l out := by
  obtain ⟨⟨xs, h1, h2⟩, h3⟩ := h
  exact ⟨⟨xs, ownsRow_below h1 hb, h2⟩, h3.trans (hb.mono h3.size)⟩
theorem OwnD.nil (W : World) {w : World} (hb : Below W.heap.size W w) : OwnD W w [] (.slice none 0 0) := ⟨⟨[], World.ownsRow_nil _ _ _ _, fun i hi => absurd hi (Nat.not_lt_zero _)⟩, hb⟩
theorem OwnD.added {W w w' : World} {l m : List Dec} {out v' : Value} {xs ys : List Value} (hr : w.ownsRow W.heap.size 39 16 out l.length xs) (hi : ItemsV W l xs) (hb : Below W.heap.size W w) (hy : ItemsV W m ys)
    (ho : w'.ownsRow W.heap.size 39 16 v' (l.length + m.length) (xs ++ ys)) (hg : w.grownBy w' out.ownBlock) : OwnD W w' (l ++ m) v' := by
  refine ⟨⟨xs ++ ys, by rw [List.length_append]; exact ho, hi.append hr.1 hy⟩, hb.grown hg hb.size fun k hk => ?_⟩
  rcases hr.2 with ⟨h', _⟩ | ⟨g, cap, cur, h1, h2, _⟩
  · subst h'; cases hk
  · subst h1; simp [Value.ownBlock] at hk; subst hk; exact h2
theorem OwnD.decs {W w : World} {l : List Dec} {out : Value} (h : OwnD W w l out) : DecsV w l out := by
  obtain ⟨⟨xs, h1, h2⟩, h3⟩ := h
  rcases h1.2 with ⟨rfl, h0⟩ | ⟨g, cap, cur, rfl, a2, a3, a4, a5, a6, a7⟩
  · obtain rfl : l = [] := List.eq_nil_of_length_eq_zero h0
    exact ⟨none, 0, rfl, fun h => absurd rfl h, Nat.le_refl _⟩
  · refine ⟨_, cap, rfl, fun _ => ⟨g, 0, rfl, fun i x hx => ?_⟩, a4⟩
    obtain ⟨hi, rfl⟩ := List.getElem?_eq_some_iff.1 hx
    obtain ⟨vs, b1, b2, b3⟩ := h2 i hi
    refine ⟨vs, fun j v hj => ?_, b3.below h3⟩
    have hjl : j < 16 := by rw [← b1]; exact (List.getElem?_eq_some_iff.1 hj).1
    have hx' := b2 j hjl
    rw [← a7, List.getElem?_take_of_lt (by omega), Array.getElem?_toList, hj] at hx'
    simp [World.cell?, a3, hx']
end Go.Stamp
set_option linter.unusedVariables false
set_option linter.unusedSimpArgs false
set_option maxRecDepth 100000
set_option maxHeartbeats 4000000
namespace Go.Stamp
open Go Go.RowKit Go.Proofs Go.Maps
/-- what is known of the arguments -/
structure FitD (W : World) (D : List Dec) (dv : Value) : Prop where
  decs : DecsV W D dv
  many : D.length ≤ 1048576
  form : dv = .slice none 0 0 ∨ ∃ a n c, dv = .slice (some a) n c
  each : ∀ d ∈ D, decN d ≤ 1048576 ∧ (d.name.size ≤ 1048576) ∧ (∀ v ∈ d.vars, v.size ≤ 1048576) ∧ (∀ c ∈ d.cons, c.name.size ≤ 1048576 ∧ fitT 1048576 c.ty)
theorem FitD.decB {W : World} {D : List Dec} {dv : Value} (h : FitD W D dv) (hn : ∀ d ∈ D, decN d ≤ 2000) : ∀ d ∈ D, DecB 1048576 d := fun d hd => by
  obtain ⟨h1, h2, h3, h4⟩ := h.each d hd
  have h5 := hn d hd
  unfold decN at h5
  exact ⟨h2, h3, by omega, h4, by omega⟩
theorem FitD.large {W w : World} {D : List Dec} {dv : Value} (h : FitD W D dv) (hb : Below W.heap.size W w) (t : Ty) (ht : partsT t ≤ 1048576) (vs : List Value) (hT : TyV W t vs) : Calls Tryz.prog 7 #[.agg ⟨vs⟩, dv] w fun e w' => LargeP w t D e w' :=
  large_ok (h.decs.below hb) (by have := h.many; omega) (fun d hd => ⟨by have := (h.each d hd).1; omega, by
    have := (h.each d hd).1
    unfold decN at this
    rw [partsN_eq, List.length_map] at this
    omega⟩) t (by omega) vs (hT.below hb)
theorem and_if {a b : Bool} : (a && b) = true ↔ a = true ∧ b = true := by simp
/-- the world of the laws: the error and the tables lie where they are to lie -/
structure Lies (W : World) (g : Addr) : Prop where
  err : W.cell? ⟨0, 0, none⟩ = some (.iface 224 (.pointer (some g)))
  tab : TabV W
  plain : g.spot = none
theorem Lies.below {W w : World} {g : Addr} (h : Lies W g) (hb : Below W.heap.size W w) : Lies w g := ⟨(hb.cell (p := ⟨0, 0, none⟩) (cell_lt h.err)).trans h.err, h.tab.below hb, h.plain⟩
/-- the anchor -/
def Works : Prop := ∀ (w : World) (g : Addr), Lies w g → Calls Tryz.prog 8 #[] w fun e w' => e = .returned (.bool true) ∧ Below w.heap.size w w'
theorem block16 {w : World} {b : Nat} {x0 x1 x2 x3 x4 x5 x6 x7 x8 x9 x10 x11 x12 x13 x14 x15 : Value} {T : TypeId} {fr : Nat × Nat} (h : w.heap[b]? = some (.cells #[x0, x1, x2, x3, x4, x5, x6, x7, x8, x9, x10, x11, x12, x13, x14, x15] T fr)) :
    ∀ j v, [x0, x1, x2, x3, x4, x5, x6, x7, x8, x9, x10, x11, x12, x13, x14, x15][j]? = some v → w.cell? ⟨b, j, none⟩ = some v := by
  intro j v hj
  simp only [World.cell?, h]
  simpa using hj
theorem cells_new (w : World) (cs : List Value) (t : TypeId) : ∀ j u, cs[j]? = some u → (w.alloc (.cells ⟨cs⟩ t)).cell? ((⟨w.heap.size, 0, none⟩ : Addr).add j) = some u := by
  intro j u hj
  have e := heap_alloc_new w (.cells ⟨cs⟩ t)
  rw [show (⟨w.heap.size, 0, none⟩ : Addr).add j = ⟨w.heap.size, 0 + j, none⟩ by unfold Addr.add; split <;> simp_all]
  simp only [World.cell?, e]
  simpa using hj
def TrueP (W : World) (e : Ending) (w' : World) : Prop := e = .returned (.bool true) ∧ Below W.heap.size W w'
/-- a row that is appended, whole -/
theorem dec_source {W w : World} {D : List Dec} {dv : Value} (h : FitD W D dv) (hb : Below W.heap.size W w) : ∃ news : List Value, news.length = D.length * 16 ∧ ItemsV w D news ∧ (∀ u ∈ news, u.oneCell' = true) ∧
    ∀ w', Below w.heap.size w w' → ((dv = .slice none 0 0 ∧ D.length = 0 ∧ news = []) ∨ ∃ ad c, dv = .slice (some ad) D.length c ∧ ∀ j u, news[j]? = some u → w'.cell? (ad.add j) = some u) := by
  obtain ⟨a, c, rfl⟩ := h.decs.slice
  have hd := h.decs.below hb
  by_cases h0 : D.length = 0
  · refine ⟨[], by rw [h0]; rfl, fun i hi => by omega, fun u hu => (by cases hu), fun w' _ => ?_⟩
    rcases h.form with e | ⟨a', n', c', e⟩
    · exact .inl ⟨e, h0, rfl⟩
    · cases e
      exact .inr ⟨a', c, rfl, fun j u hj => by simp at hj⟩
  · obtain ⟨b, o, vs, rfl, _⟩ := hd.get (i := 0) (by omega)
    obtain ⟨news, h1, h2, h3, h4⟩ := decs_cells hd D.length (Nat.le_refl _)
    refine ⟨news, h1, fun i hi => h4 i hi hi, h3, fun w' hb' => .inr ⟨_, c, rfl, fun j u hj => ?_⟩⟩
    have := h2 j u hj
    rw [show (⟨b, o, none⟩ : Addr).add j = ⟨b, o + j, none⟩ by unfold Addr.add; split <;> simp_all]
    exact (hb'.cell (p := ⟨b, o + j, none⟩) (cell_lt this)).trans this
theorem wpList_append_any {P : Program} {w : World} {ops : Array Oper} {rest : List Oper} {o : Oper} {a : Act} {Q : Exit → Act → World → Prop} (hgd : o.guard = none) (s x : Operand) (t : TypeId)
    (ho : o.op = .call { callee := .builtin .append, args := #[s, x], argTypes := #[t, t] })
    (base : Nat) (e : TypeId) (i : TypeInfo) (z : Value) (size bytes : Nat) (ht : P.underlying t = some (.slice e)) (hi : P.info? e = some i) (hz : i.zero = some z)
    (hsize : i.size = size) (hby : i.bytes = bytes) (hzs : z.cells.size = size) (hsz : 0 < size)
    (v : Value) (n : Nat) (xs : List Value) (hs : a.eval s = v) (hown : w.ownsRow base e size v n xs)
    (m : Nat) (news : List Value) (u0 : Value) (hx0 : a.eval x = u0) (hx : (u0 = .slice none 0 0 ∧ m = 0 ∧ news = []) ∨ ∃ ad c, u0 = .slice (some ad) m c ∧ ∀ j u, news[j]? = some u → w.cell? (ad.add j) = some u) (hl : news.length = m * size) (h1 : ∀ u ∈ news, u.oneCell' = true)
    (h63 : n + m ≤ maxLen) (hbytes : (n + m) * bytes ≤ 140737488355328) (hbase : base ≤ w.heap.size)
    (h : ∀ v' w', w'.ownsRow base e size v' (n + m) (xs ++ news) → w.grownBy w' v.ownBlock → wpList P ops Q rest (a.put o.dst v') w') : wpList P ops Q (o :: rest) a w := by
  rcases hx with ⟨e1, e2, e3⟩ | ⟨ad, c, e1, e2⟩
  · subst e2; subst e3
    refine wpList_append_own_none hgd s x t ho base e i size ht hi v n xs hs hown (hx0.trans e1) (h v w ?_ ⟨rfl, rfl, rfl, Nat.le_refl _, fun _ _ _ => rfl⟩)
    simpa using hown
  · exact wpList_append_own w hgd s x t ho base e i z size bytes ht hi hz hsize hby hzs hsz v n xs hs hown ad m c news (hx0.trans e1) hl e2 h1 h63 hbytes hbase fun v' w' a1 a2 _ => h v' w' a1 a2
theorem less_ok (hworks : Works) {W : World} {D M : List Dec} {dv mv : Value} {g : Addr} (hL : Lies W g) (hD : FitD W D dv) (hM : FitD W M mv) (t : Ty) (ht : partsT t ≤ 1048576) (hfit : fitT 1048576 t) (vs : List Value) (hT : TyV W t vs) :
    Calls Tryz.prog 3 #[.agg ⟨vs⟩, dv, mv] W fun e w' => TrueP W e w' := by
  obtain ⟨da, dc, rfl⟩ := hD.decs.slice
  obtain ⟨ma, mc, rfl⟩ := hM.decs.slice
  have HT := Lib.hid hT
  obtain ⟨s, rfl, hs⟩ := hT.vals
  obtain ⟨ka, kc, rfl, _⟩ := hs.slice
  have HD := Lib.hid hD
  have HM := Lib.hid hM
  have HL := Lib.hid hL
  have HLA : Hid (∀ w, Below W.heap.size W w → Calls Tryz.prog 7 #[.agg #[.int .u8 t.kind, .string t.name, .int .i64 t.num, .slice ka t.kids.length kc], .slice da D.length dc] w fun e w' => LargeP w t D e w') := Lib.hid fun w hb => HD.out.large hb t ht _ HT.out
  have HLB : Hid (∀ w, Below W.heap.size W w → Calls Tryz.prog 7 #[.agg #[.int .u8 t.kind, .string t.name, .int .i64 t.num, .slice ka t.kids.length kc], .slice ma M.length mc] w fun e w' => LargeP w t M e w') := Lib.hid fun w hb => HM.out.large hb t ht _ HT.out
  have HW : Hid (∀ w, Below W.heap.size W w → Calls Tryz.prog 8 #[] w fun e w' => e = .returned (.bool true) ∧ Below w.heap.size w w') := Lib.hid fun w hb => hworks w g (HL.out.below hb)
  have hb0 : Below W.heap.size W (W.alloc (.cells ⟨[.int .u8 t.kind, .string t.name, .int .i64 t.num, .slice ka t.kids.length kc]⟩ 24)) := (Below.refl _ _).alloc (Nat.le_refl _) _
  have HB0 := Lib.hid hb0
  have hbox := box_cells (heap_alloc_new W (.cells ⟨[.int .u8 t.kind, .string t.name, .int .i64 t.num, .slice ka t.kids.length kc]⟩ 24))
  have hz : (W.alloc (.cells ⟨[.int .u8 t.kind, .string t.name, .int .i64 t.num, .slice ka t.kids.length kc]⟩ 24)).heap.size = W.heap.size + 1 := by simp
  have HTX : Hid (∀ (D' : List Dec) (dv' : Value), partsT t ≤ 2000 → ∀ w, DecsV w D' dv' → D'.length ≤ 1000 → (∀ d ∈ D', DecB 1048576 d) → Below W.heap.size W w → Calls Tryz.prog 9 #[.agg #[.int .u8 t.kind, .string t.name, .int .i64 t.num, .slice ka t.kids.length kc], dv'] w fun e w' => TextP w D' t e w') :=
    Lib.hid fun D' dv' hn w hd hl hdb hb => text_ok hd hl hdb (HL.out.below hb).err (HL.out.below hb).tab t hn hfit _ (HT.out.below hb)
  clear hD hM hL hT hs hworks hb0
  go_enter Tryz.func3, Tryz.ntmps3
  go_wp2_with fail
  generalize hW1 : (W.alloc (.cells ⟨[.int .u8 t.kind, .string t.name, .int .i64 t.num, .slice ka t.kids.length kc]⟩ 24)) = w1 at *
  refine (HLA.out _ HB0.out).mono ?_
  rintro e w2 ⟨⟨b, rfl, hnl⟩, hb⟩
  have HQ : Hid (∀ w, Below (W.heap.size + 1) w1 w → (w.cell? ⟨W.heap.size, 0, none⟩ = some (.int .u8 t.kind) ∧ w.cell? ⟨W.heap.size, 1, none⟩ = some (.string t.name) ∧ w.cell? ⟨W.heap.size, 2, none⟩ = some (.int .i64 t.num) ∧ w.cell? ⟨W.heap.size, 3, none⟩ = some (.slice ka t.kids.length kc)) ∧ Below W.heap.size W w ∧ W.heap.size + 1 ≤ w.heap.size) := Lib.hid fun w hb =>
    ⟨⟨(hb.cell (p := ⟨W.heap.size, 0, none⟩) (Nat.lt_succ_self _)).trans hbox.1, (hb.cell (p := ⟨W.heap.size, 1, none⟩) (Nat.lt_succ_self _)).trans hbox.2.1, (hb.cell (p := ⟨W.heap.size, 2, none⟩) (Nat.lt_succ_self _)).trans hbox.2.2.1, (hb.cell (p := ⟨W.heap.size, 3, none⟩) (Nat.lt_succ_self _)).trans hbox.2.2.2⟩, HB0.out.trans (hb.mono (Nat.le_succ _)), by have := hb.size; omega⟩
  have H2 : Hid (Below (W.heap.size + 1) w1 w2) := Lib.hid (hb.mono (Nat.le_of_eq hz.symm))
  obtain ⟨⟨t0, t1, t2, t3⟩, hB2, hs2⟩ := HQ.out _ H2.out
  have HB2 := Lib.hid hB2
  clear hb hB2 hbox
  cases b with
  | true =>
    go_wp2_with fail
    refine (HW.out _ HB2.out).mono ?_
    rintro e w3 ⟨rfl, hb⟩
    have HB3 := Lib.hid (HB2.out.trans (hb.mono HB2.out.size))
    clear hb
    go_wp2
    go_ret
    exact ⟨rfl, HB3.out⟩
  | false =>
    have HN := Lib.hid (hnl rfl)
    clear hnl
    go_wp2_with fail
    refine (HLB.out _ HB2.out).mono ?_
    rintro e w3 ⟨⟨b, rfl, hnl⟩, hb⟩
    have H3 : Hid (Below (W.heap.size + 1) w1 w3) := Lib.hid (H2.out.trans (hb.mono hs2))
    clear t0 t1 t2 t3 hb HB2
    obtain ⟨⟨t0, t1, t2, t3⟩, hB3, hs3⟩ := HQ.out _ H3.out
    have HB3 := Lib.hid hB3
    clear hB3
    cases b with
    | true =>
      go_wp2_with fail
      refine (HW.out _ HB3.out).mono ?_
      rintro e w4 ⟨rfl, hb⟩
      have HB4 := Lib.hid (HB3.out.trans (hb.mono HB3.out.size))
      clear hb
      go_wp2
      go_ret
      exact ⟨rfl, HB4.out⟩
    | false =>
      have HNM := Lib.hid (hnl rfl)
      clear hnl
      go_wp2_with fail
      refine (HTX.out D (.slice da D.length dc) HN.out.1 w3 (HD.out.decs.below HB3.out) (by have := HN.out.2.1; omega) (HD.out.decB HN.out.2.2) HB3.out).mono ?_
      rintro e w4 ⟨rfl, hb⟩
      have H4 : Hid (Below (W.heap.size + 1) w1 w4) := Lib.hid (H3.out.trans (hb.mono hs3))
      clear t0 t1 t2 t3 hb HB3
      obtain ⟨⟨t0, t1, t2, t3⟩, hB4, hs4⟩ := HQ.out _ H4.out
      have HB4 := Lib.hid hB4
      clear hB4
      have hcases := textR_cases ownN numS D t
      rcases hcases with ⟨e1, e2⟩ | ⟨e1, e2⟩ | e0
      · rw [e1, e2]
        go_wp2_with fail
        refine (HW.out _ HB4.out).mono ?_
        rintro e w5 ⟨rfl, hb⟩
        have HB5 := Lib.hid (HB4.out.trans (hb.mono HB4.out.size))
        clear hb
        go_wp2
        go_ret
        exact ⟨rfl, HB5.out⟩
      · rw [e1, e2]
        go_wp2_with fail
        refine (HW.out _ HB4.out).mono ?_
        rintro e w5 ⟨rfl, hb⟩
        have HB5 := Lib.hid (HB4.out.trans (hb.mono HB4.out.size))
        clear hb
        go_wp2
        go_ret
        exact ⟨rfl, HB5.out⟩
      · have HE0 := Lib.hid (text_more (more := M) e0)
        have HEZ := Lib.hid e0
        rw [e0]
        generalize hTT : (textR ownN numS D t).1 = T at *
        clear e0
        have HMD := Lib.hid (HM.out.decs.below HB4.out)
        have HDD := Lib.hid (HD.out.decs.below HB4.out)
        have hML : M.length ≤ 60 := HNM.out.2.1
        have hDL : D.length ≤ 60 := HN.out.2.1
        obtain ⟨ii, hi, hi2⟩ := Option.map_eq_some_iff.1 i39
        injection hi2 with hz0 hz1
        injection hz1 with hz1 hz2
        have HST : Hid (OwnD w4 w4 (keepD D (M.take 0)) (.slice none 0 0)) := Lib.hid (by rw [List.take_zero]; exact OwnD.nil w4 (Below.refl _ _))
        go_wp2
        go_loopw [9, 10] (fun out i wr => ∃ k : Nat, k ≤ M.length ∧ i = .int .i64 k ∧ Hid (OwnD w4 wr (keepD D (M.take k)) out)) (fun _ i _ => M.length - (intOf i).toNat)
        case atStart => exact ⟨0, Nat.zero_le _, rfl, HST⟩
        case round =>
          obtain ⟨k, hk, rfl, hO⟩ := hrel
          by_cases hlt : k < M.length
          · obtain ⟨b, o, vs, rfl, hc, hdv⟩ := HMD.out.get hlt
            have HDV := Lib.hid hdv
            obtain ⟨sv, sc, R, rfl, hsv, hsc⟩ := hdv
            obtain ⟨va, vc, rfl⟩ := hsv.slice
            obtain ⟨ca, cc, rfl⟩ := hsc.slice
            have hcW := hc.below hO.out.below
            have c0 : wr.cell? ⟨b, o + k * 16, none⟩ = some (.int .u8 M[k].kind) := hcW 0 _ rfl
            have c1 := hcW 1 _ rfl
            have c2 := hcW 2 _ rfl
            have c3 := hcW 3 _ rfl
            have c4 := hcW 4 _ rfl
            have c5 := hcW 5 _ rfl
            have c6 := hcW 6 _ rfl
            have c7 := hcW 7 _ rfl
            have c8 := hcW 8 _ rfl
            have c9 := hcW 9 _ rfl
            have c10 := hcW 10 _ rfl
            have c11 := hcW 11 _ rfl
            have c12 := hcW 12 _ rfl
            have c13 := hcW 13 _ rfl
            have c14 := hcW 14 _ rfl
            have c15 := hcW 15 _ rfl
            have HDA : Hid (∀ w, Below w4.heap.size w4 w → Calls Tryz.prog 10 #[.slice da D.length dc, .string M[k].name] w fun e w' => DataP D M[k].name e ∧ Below w.heap.size w w') := Lib.hid fun w hb => data_ok (HDD.out.below hb) (by omega) _
            have HO := hO
            clear hc hcW hsv hsc hO
            go_wp2_with fail
            refine (HDA.out _ (HO.out.below.alloc HO.out.below.size _)).mono ?_
            rintro e w5 ⟨⟨dk, ds, dva, dvn, dvc, dca, dcn, dcc, dR, rfl⟩, hb⟩
            have hx := (hb.block wr.heap.size (by simp)).trans (heap_alloc_new wr _)
            have hd := block16 hx
            have d0 := hd 0 _ rfl
            have d1 := hd 1 _ rfl
            have d2 := hd 2 _ rfl
            have d3 := hd 3 _ rfl
            have d4 := hd 4 _ rfl
            have d5 := hd 5 _ rfl
            have d6 := hd 6 _ rfl
            have d7 := hd 7 _ rfl
            have d8 := hd 8 _ rfl
            have d9 := hd 9 _ rfl
            have d10 := hd 10 _ rfl
            have d11 := hd 11 _ rfl
            have d12 := hd 12 _ rfl
            have d13 := hd 13 _ rfl
            have d14 := hd 14 _ rfl
            have d15 := hd 15 _ rfl
            have hl5 : wr.heap.size < w5.heap.size := by have := hb.size; simp at this; omega
            have HO5 := Lib.hid ((HO.out.grow ((Below.refl _ _).alloc (Nat.le_refl _) _)).grow hb)
            clear c0 c1 c2 c3 c4 c5 c6 c7 c8 c9 c10 c11 c12 c13 c14 c15 hd hx hb HDA
            have hkl := keepD_len D M k
            have hkin := keepD_in (D := D) hlt
            have hkout := keepD_out (D := D) hlt
            have HKI := Lib.hid hkin
            have HKO := Lib.hid hkout
            have hsw5 := HO5.out.below.size
            clear hkin hkout
            generalize hIS : (find D M[k].name).isSome = isd at *
            simp only [Rest.vals]
            cases isd with
            | false =>
              have HO6 := Lib.hid ((HO5.out.grow ((Below.refl _ _).alloc (Nat.le_refl _) (.cells #[.int .u8 dk, .string ds, .slice dva dvn dvc, .slice dca dcn dcc, .slice dR.a1 dR.n1 dR.c1, .int .u8 dR.k1, .string dR.s1, .int .i64 dR.m1, .slice dR.a2 dR.n2 dR.c2, .int .u8 dR.k2, .string dR.s2, .int .i64 dR.m2, .string dR.s3, .slice dR.a3 dR.n3 dR.c3, .slice dR.a4 dR.n4 dR.c4, .slice dR.a5 dR.n5 dR.c5] 39))).grow ((Below.refl _ _).alloc (Nat.le_refl _) (.cells ⟨[.int .u8 M[k].kind, .string M[k].name, .slice va M[k].vars.length vc, .slice ca M[k].cons.length cc, .slice R.a1 R.n1 R.c1, .int .u8 R.k1, .string R.s1, .int .i64 R.m1, .slice R.a2 R.n2 R.c2, .int .u8 R.k2, .string R.s2, .int .i64 R.m2, .string R.s3, .slice R.a3 R.n3 R.c3, .slice R.a4 R.n4 R.c4, .slice R.a5 R.n5 R.c5]⟩ 39)))
              obtain ⟨xs, hown, hit⟩ := HO6.out.row
              have HIT := Lib.hid hit
              have HOWN := Lib.hid hown
              have hone := (decV_cells HDV.out).2
              have HONE := Lib.hid hone
              clear hit hone
              go_wp2_with (at_builtin; refine wpList_append_own _ rfl _ _ 25 rfl w4.heap.size 39 ii (.agg ⟨zeroDec⟩) 16 272 Tryz.underlying25 hi hz2 hz0 hz1 rfl (by decide) _ _ _ rfl hown ⟨w5.heap.size + 1, 0, none⟩ 1 1 [.int .u8 M[k].kind, .string M[k].name, .slice va M[k].vars.length vc, .slice ca M[k].cons.length cc, .slice R.a1 R.n1 R.c1, .int .u8 R.k1, .string R.s1, .int .i64 R.m1, .slice R.a2 R.n2 R.c2, .int .u8 R.k2, .string R.s2, .int .i64 R.m2, .string R.s3, .slice R.a3 R.n3 R.c3, .slice R.a4 R.n4 R.c4, .slice R.a5 R.n5 R.c5] rfl rfl (by have h := cells_new (w5.alloc (.cells #[.int .u8 dk, .string ds, .slice dva dvn dvc, .slice dca dcn dcc, .slice dR.a1 dR.n1 dR.c1, .int .u8 dR.k1, .string dR.s1, .int .i64 dR.m1, .slice dR.a2 dR.n2 dR.c2, .int .u8 dR.k2, .string dR.s2, .int .i64 dR.m2, .string dR.s3, .slice dR.a3 dR.n3 dR.c3, .slice dR.a4 dR.n4 dR.c4, .slice dR.a5 dR.n5 dR.c5] 39)) [.int .u8 M[k].kind, .string M[k].name, .slice va M[k].vars.length vc, .slice ca M[k].cons.length cc, .slice R.a1 R.n1 R.c1, .int .u8 R.k1, .string R.s1, .int .i64 R.m1, .slice R.a2 R.n2 R.c2, .int .u8 R.k2, .string R.s2, .int .i64 R.m2, .string R.s3, .slice R.a3 R.n3 R.c3, .slice R.a4 R.n4 R.c4, .slice R.a5 R.n5 R.c5] 39; rw [show (w5.alloc (.cells #[.int .u8 dk, .string ds, .slice dva dvn dvc, .slice dca dcn dcc, .slice dR.a1 dR.n1 dR.c1, .int .u8 dR.k1, .string dR.s1, .int .i64 dR.m1, .slice dR.a2 dR.n2 dR.c2, .int .u8 dR.k2, .string dR.s2, .int .i64 dR.m2, .string dR.s3, .slice dR.a3 dR.n3 dR.c3, .slice dR.a4 dR.n4 dR.c4, .slice dR.a5 dR.n5 dR.c5] 39)).heap.size = w5.heap.size + 1 by simp] at h; exact h) HONE.out (by simp only [maxLen]; omega) (by omega) (by simp; omega) ?_; intro v' w6 hown' hgrow hnil)
              have HN : Hid (OwnD w4 w6 (keepD D (M.take (k + 1))) v') := Lib.hid (by
                rw [HKI.out (.inl rfl)]
                refine OwnD.added HOWN.out HIT.out HO6.out.below (m := [M[k]]) ?_ hown' hgrow
                intro i hi
                obtain rfl : i = 0 := by simpa using hi
                exact ⟨_, rfl, fun j hj => by rw [Nat.zero_mul, Nat.zero_add]; rfl, HDV.out⟩)
              clear hown' hgrow hnil hown HO6
              go_wp2
              go_round
              case rel => exact ⟨k + 1, by omega, by simp, HN⟩
              case measure => simp [intOf]; omega
            | true =>
              by_cases hk1 : M[k].kind = 1
              · have HO6 := Lib.hid (HO5.out.grow ((Below.refl _ _).alloc (Nat.le_refl _) (.cells #[.int .u8 dk, .string ds, .slice dva dvn dvc, .slice dca dcn dcc, .slice dR.a1 dR.n1 dR.c1, .int .u8 dR.k1, .string dR.s1, .int .i64 dR.m1, .slice dR.a2 dR.n2 dR.c2, .int .u8 dR.k2, .string dR.s2, .int .i64 dR.m2, .string dR.s3, .slice dR.a3 dR.n3 dR.c3, .slice dR.a4 dR.n4 dR.c4, .slice dR.a5 dR.n5 dR.c5] 39)))
                have HK2 := Lib.hid (HKO.out rfl hk1)
                have hkb : (M[k].kind == 1) = true := by simpa using hk1
                clear hk1
                go_wp2
                go_round
                case rel => exact ⟨k + 1, by omega, by simp, by rw [HK2.out]; exact HO6⟩
                case measure => simp [intOf]; omega
              · have hkb : (M[k].kind == 1) = false := by simpa using hk1
                have HKC := Lib.hid hk1
                clear hk1
                have HO6 := Lib.hid ((HO5.out.grow ((Below.refl _ _).alloc (Nat.le_refl _) (.cells #[.int .u8 dk, .string ds, .slice dva dvn dvc, .slice dca dcn dcc, .slice dR.a1 dR.n1 dR.c1, .int .u8 dR.k1, .string dR.s1, .int .i64 dR.m1, .slice dR.a2 dR.n2 dR.c2, .int .u8 dR.k2, .string dR.s2, .int .i64 dR.m2, .string dR.s3, .slice dR.a3 dR.n3 dR.c3, .slice dR.a4 dR.n4 dR.c4, .slice dR.a5 dR.n5 dR.c5] 39))).grow ((Below.refl _ _).alloc (Nat.le_refl _) (.cells ⟨[.int .u8 M[k].kind, .string M[k].name, .slice va M[k].vars.length vc, .slice ca M[k].cons.length cc, .slice R.a1 R.n1 R.c1, .int .u8 R.k1, .string R.s1, .int .i64 R.m1, .slice R.a2 R.n2 R.c2, .int .u8 R.k2, .string R.s2, .int .i64 R.m2, .string R.s3, .slice R.a3 R.n3 R.c3, .slice R.a4 R.n4 R.c4, .slice R.a5 R.n5 R.c5]⟩ 39)))
                obtain ⟨xs, hown, hit⟩ := HO6.out.row
                have HIT := Lib.hid hit
                have HOWN := Lib.hid hown
                have hone := (decV_cells HDV.out).2
                have HONE := Lib.hid hone
                clear hit hone
                go_wp2_with (at_builtin; refine wpList_append_own _ rfl _ _ 25 rfl w4.heap.size 39 ii (.agg ⟨zeroDec⟩) 16 272 Tryz.underlying25 hi hz2 hz0 hz1 rfl (by decide) _ _ _ rfl hown ⟨w5.heap.size + 1, 0, none⟩ 1 1 [.int .u8 M[k].kind, .string M[k].name, .slice va M[k].vars.length vc, .slice ca M[k].cons.length cc, .slice R.a1 R.n1 R.c1, .int .u8 R.k1, .string R.s1, .int .i64 R.m1, .slice R.a2 R.n2 R.c2, .int .u8 R.k2, .string R.s2, .int .i64 R.m2, .string R.s3, .slice R.a3 R.n3 R.c3, .slice R.a4 R.n4 R.c4, .slice R.a5 R.n5 R.c5] rfl rfl (by have h := cells_new (w5.alloc (.cells #[.int .u8 dk, .string ds, .slice dva dvn dvc, .slice dca dcn dcc, .slice dR.a1 dR.n1 dR.c1, .int .u8 dR.k1, .string dR.s1, .int .i64 dR.m1, .slice dR.a2 dR.n2 dR.c2, .int .u8 dR.k2, .string dR.s2, .int .i64 dR.m2, .string dR.s3, .slice dR.a3 dR.n3 dR.c3, .slice dR.a4 dR.n4 dR.c4, .slice dR.a5 dR.n5 dR.c5] 39)) [.int .u8 M[k].kind, .string M[k].name, .slice va M[k].vars.length vc, .slice ca M[k].cons.length cc, .slice R.a1 R.n1 R.c1, .int .u8 R.k1, .string R.s1, .int .i64 R.m1, .slice R.a2 R.n2 R.c2, .int .u8 R.k2, .string R.s2, .int .i64 R.m2, .string R.s3, .slice R.a3 R.n3 R.c3, .slice R.a4 R.n4 R.c4, .slice R.a5 R.n5 R.c5] 39; rw [show (w5.alloc (.cells #[.int .u8 dk, .string ds, .slice dva dvn dvc, .slice dca dcn dcc, .slice dR.a1 dR.n1 dR.c1, .int .u8 dR.k1, .string dR.s1, .int .i64 dR.m1, .slice dR.a2 dR.n2 dR.c2, .int .u8 dR.k2, .string dR.s2, .int .i64 dR.m2, .string dR.s3, .slice dR.a3 dR.n3 dR.c3, .slice dR.a4 dR.n4 dR.c4, .slice dR.a5 dR.n5 dR.c5] 39)).heap.size = w5.heap.size + 1 by simp] at h; exact h) HONE.out (by simp only [maxLen]; omega) (by omega) (by simp; omega) ?_; intro v' w6 hown' hgrow hnil)
                have HN : Hid (OwnD w4 w6 (keepD D (M.take (k + 1))) v') := Lib.hid (by
                  rw [HKI.out (.inr HKC.out)]
                  refine OwnD.added HOWN.out HIT.out HO6.out.below (m := [M[k]]) ?_ hown' hgrow
                  intro i hi
                  obtain rfl : i = 0 := by simpa using hi
                  exact ⟨_, rfl, fun j hj => by rw [Nat.zero_mul, Nat.zero_add]; rfl, HDV.out⟩)
                clear hown' hgrow hnil hown HO6
                go_wp2
                go_round
                case rel => exact ⟨k + 1, by omega, by simp, HN⟩
                case measure => simp [intOf]; omega
          · obtain rfl : k = M.length := by omega
            rw [List.take_length] at hO
            obtain ⟨xs, hown, hit⟩ := hO.out.row
            obtain ⟨nD, nd1, nd2, nd3, nd4⟩ := dec_source HD.out HB4.out
            obtain ⟨nM, nm1, nm2, nm3, nm4⟩ := dec_source HM.out HB4.out
            have hkl : (keepD D M).length ≤ M.length := by have := keepD_len D M M.length; rwa [List.take_length] at this
            have hb4 := hO.out.below
            have hsw := hb4.size
            have hx1 := nd4 _ hb4
            have HX1 := Lib.hid hx1
            have HX2 := Lib.hid nm4
            have HO := hO
            have HIT := Lib.hid hit
            have HOWN := Lib.hid hown
            have HNM1 := Lib.hid nm1
            have HNM2 := Lib.hid nm2
            have HNM3 := Lib.hid nm3
            have HND2 := Lib.hid nd2
            have HND1 := Lib.hid nd1
            have HND3 := Lib.hid nd3
            clear hO hit nd4 nm4 hx1 hb4 nm1 nm2 nm3 nd2 nd1 nd3 t0 t1 t2 t3
            go_wp2_with (first
              | (at_builtin; refine wpList_append_any rfl _ _ 25 rfl w4.heap.size 39 ii (.agg ⟨zeroDec⟩) 16 272 Tryz.underlying25 hi hz2 hz0 hz1 rfl (by decide) _ _ _ rfl hown D.length nD (.slice da D.length dc) rfl HX1.out HND1.out HND3.out (by simp only [maxLen]; omega) (by omega) (by omega) ?_; intro v5 w5 hown5 hgrow5; (have HO5 : Hid (OwnD w4 w5 (keepD D M ++ D) v5) := Lib.hid (OwnD.added HOWN.out HIT.out HO.out.below HND2.out hown5 hgrow5)); obtain ⟨xs5, hrow5, hit5⟩ := HO5.out.row; (have HIT5 := Lib.hid hit5); (have HROW5 := Lib.hid hrow5); (have hsw5 := HO5.out.below.size); (have hl5 : (keepD D M ++ D).length = (keepD D M).length + D.length := List.length_append); clear hit5 hown5 hgrow5 hown)
              | (at_builtin; refine wpList_append_any rfl _ _ 25 rfl w4.heap.size 39 ii (.agg ⟨zeroDec⟩) 16 272 Tryz.underlying25 hi hz2 hz0 hz1 rfl (by decide) _ _ _ rfl hrow5 M.length nM (.slice ma M.length mc) rfl (HX2.out _ HO5.out.below) HNM1.out HNM3.out (by simp only [maxLen]; omega) (by omega) (by omega) ?_; intro v6 w6 hown6 hgrow6; (have HO6 : Hid (OwnD w4 w6 (keepD D M ++ D ++ M) v6) := Lib.hid (OwnD.added HROW5.out HIT5.out HO5.out.below HNM2.out hown6 hgrow6)); (have H6 : Hid (Below (W.heap.size + 1) w1 w6) := Lib.hid (H4.out.trans (HO6.out.below.mono hs4))); obtain ⟨⟨t0, t1, t2, t3⟩, hB6, hs6⟩ := HQ.out _ H6.out; (have HB6 := Lib.hid hB6); clear hown6 hgrow6 hrow5 hB6)
              | fail)
            refine (HTX.out (keepD D M ++ D ++ M) v6 HN.out.1 w6 HO6.out.decs (by simp only [List.length_append]; omega) ?_ HB6.out).mono ?_
            · intro d hd
              rcases List.mem_append.1 hd with hd | hd
              · rcases List.mem_append.1 hd with hd | hd
                · exact HM.out.decB HNM.out.2.2 d (keepD_sub d hd)
                · exact HD.out.decB HN.out.2.2 d hd
              · exact HM.out.decB HNM.out.2.2 d hd
            · rintro e w7 ⟨rfl, hb⟩
              rw [HE0.out, hTT, HEZ.out]
              have HB7 := Lib.hid (HB6.out.trans (hb.mono HB6.out.size))
              clear hb
              go_wp2_with fail
              refine (HW.out _ HB7.out).mono ?_
              rintro e w8 ⟨rfl, hb⟩
              have HB8 := Lib.hid (HB7.out.trans (hb.mono HB7.out.size))
              clear hb
              go_wp2
              go_ret
              exact ⟨rfl, HB8.out⟩
end Go.Stamp
