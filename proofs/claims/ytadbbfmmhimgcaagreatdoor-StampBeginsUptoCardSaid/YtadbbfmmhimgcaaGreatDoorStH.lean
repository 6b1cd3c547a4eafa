/- How the arguments are read: a type, a row of declarations, of bounded bulk. No conditions of its own. -/
import Derived.Test.YtadbbfmmhimgcaaGreatDoorStG
import Derived.Test.YtadbbfmmhimgcaaGreatDoorRows
import Derived.ChangeArms
import Derived.Lib.SmallJoins
import Derived.Test.YtadbbfmmhimgcaaGreatDoorPost
import Derived.Deep.DeepHandedRow
import Derived.Lib.LaidTab
import Derived.Carry
set_option linter.unusedVariables false
set_option linter.unusedSimpArgs false
set_option maxRecDepth 100000
set_option maxHeartbeats 1600000
namespace Go.Stamp
open Go Go.RowKit Go.Proofs Go.Maps Go.Proofs.YtadbbfmmhimgcaaGreatDoor
/-! ## How the arguments are read -/
section
variable {H : Type} {enc : TypeId × Value → H} {W : World} {sp : Nat → Bool}
theorem cellsOf24 : Tryz.prog.cellsOf 24 = 4 := by kernel_rfl
theorem cellsOf48 : Tryz.prog.cellsOf 48 = 6 := by kernel_rfl
theorem cellsOf39 : Tryz.prog.cellsOf 39 = 16 := by kernel_rfl
theorem cellsOf37 : Tryz.prog.cellsOf 37 = 7 := by kernel_rfl
theorem cellsOf1 {t : TypeId} (h : t = 2 ∨ t = 3 ∨ t = 4 ∨ t = 5 ∨ t = 9 ∨ t = 22 ∨ t = 31 ∨ t = 32 ∨ t = 33 ∨ t = 34 ∨ t = 35 ∨ t = 25) : Tryz.prog.cellsOf t = 1 := by
  rcases h with rfl | rfl | rfl | rfl | rfl | rfl | rfl | rfl | rfl | rfl | rfl | rfl <;> kernel_rfl
theorem bulk_pos (d : DataW H) : 1 ≤ Rows.uptoBulk d := by
  cases d with
  | lit l => cases l <;> simp [Rows.uptoBulk]
  | nil => simp [Rows.uptoBulk]
  | ptr d => simp [Rows.uptoBulk]
  | slice elems spare => simp [Rows.uptoBulk]
  | agg parts => simp [Rows.uptoBulk]
  | iface t d => simp [Rows.uptoBulk]
  | map entries => simp [Rows.uptoBulk]
  | held h => simp [Rows.uptoBulk]
theorem cells_get {a : Addr} {n : Nat} {cs : List Value} (h : W.cells? 0 a n = some cs) (hn : 0 < n) : a.spot = none ∧ ∀ j v, cs[j]? = some v → W.cell? ⟨a.block, a.off + j, none⟩ = some v := by
  unfold World.cells? at h
  rw [if_pos (Nat.zero_le _)] at h
  have hl := mapM_some_length h
  rw [List.length_range] at hl
  have hg : ∀ j v, cs[j]? = some v → W.cell? (a.add j) = some v := fun j v hj => by
    have hjl : j < n := by rw [← hl]; exact (List.getElem?_eq_some_iff.1 hj).1
    have := mapM_some_get h j j (by simp [hjl])
    rw [this]; exact hj
  obtain ⟨b, o, s⟩ := a
  have hs : s = none := by
    obtain ⟨v, hv⟩ : ∃ v, cs[0]? = some v := ⟨cs[0]'(by omega), List.getElem?_eq_getElem (by omega)⟩
    have h0 := hg 0 v hv
    cases s with
    | none => rfl
    | some k =>
      unfold World.cell? at h0
      simp only [Addr.add] at h0
      split at h0 <;> simp at h0
  subst hs
  refine ⟨rfl, fun j v hj => ?_⟩
  have := hg j v hj
  rw [show (⟨b, o, none⟩ : Addr).add j = ⟨b, o + j, none⟩ by unfold Addr.add; split <;> simp_all] at this
  exact this
/-- the elements of a row that is read, one by one -/
theorem rows_read {α : Type} {e : TypeId} {k : Nat} {E : α → List Value → Prop} {R : α → DataW H → Prop} {n : Nat} (hk : Tryz.prog.cellsOf e = k) (h0 : 0 < k)
    (hE : ∀ cs y, DataW.trod enc Tryz.prog W 0 sp true n e cs = some y → ∃ x : α, E x cs ∧ R x y.1) {a : Addr} {elems : List (DataW H × List MemPlace)} :
    ∀ m, m ≤ elems.length → (∀ i, i < elems.length → (W.cells? 0 (a.add (i * Tryz.prog.cellsOf e)) (Tryz.prog.cellsOf e)).bind (DataW.trod enc Tryz.prog W 0 sp true n e) = elems[i]?) →
    ∃ l : List α, l.length = m ∧ (0 < m → a.spot = none) ∧ ∀ i x, l[i]? = some x → (∃ vs, Cells W a.block (a.off + i * k) vs ∧ E x vs) ∧ ∃ y, elems[i]? = some y ∧ R x y.1
  | 0, _, _ => ⟨[], rfl, fun h => absurd h (Nat.lt_irrefl _), fun i x hx => by simp at hx⟩
  | m + 1, hm, hel => by
    obtain ⟨l, h1, h2, h3⟩ := rows_read hk h0 hE m (by omega) hel
    obtain ⟨y, hy⟩ : ∃ y, elems[m]? = some y := ⟨elems[m]'(by omega), List.getElem?_eq_getElem (by omega)⟩
    have h := hel m (by omega)
    rw [hy, hk] at h
    obtain ⟨cs, hc, ht⟩ := Option.bind_eq_some_iff.1 h
    obtain ⟨x, hx, hr⟩ := hE cs y ht
    obtain ⟨hs, hg⟩ := cells_get hc h0
    have hab : (a.add (m * k)).block = a.block ∧ (a.add (m * k)).off = a.off + m * k ∧ a.spot = none := by
      by_cases e0 : m * k = 0
      · have em : m = 0 := by
          rcases Nat.mul_eq_zero.1 e0 with e | e
          · exact e
          · omega
        unfold Addr.add at hs ⊢
        rw [if_pos e0] at hs ⊢
        exact ⟨rfl, by rw [e0]; rfl, hs⟩
      · unfold Addr.add
        rw [if_neg e0]
        exact ⟨rfl, rfl, h2 (Nat.pos_of_ne_zero fun e => e0 (by rw [e, Nat.zero_mul]))⟩
    refine ⟨l ++ [x], by rw [List.length_append, h1]; rfl, fun _ => hab.2.2, fun i x' hx' => ?_⟩
    by_cases hi : i < m
    · rw [List.getElem?_append_left (by omega)] at hx'
      exact h3 i x' hx'
    · rw [List.getElem?_append_right (by omega), h1] at hx'
      have : i = m := by
        have := (List.getElem?_eq_some_iff.1 hx').1
        simp at this
        omega
      subst this
      rw [Nat.sub_self] at hx'
      injection hx' with hx'
      subst hx'
      refine ⟨⟨cs, fun j v hj => ?_, hx⟩, y, hy, hr⟩
      have := hg j v hj
      rw [hab.1, hab.2.1] at this
      exact this
theorem bulkAll_get {α : Type} {R : α → DataW H → Prop} {f : α → Nat} (hR : ∀ x d, R x d → f x ≤ Rows.uptoBulk d) : ∀ (l : List α) (elems : List (DataW H × List MemPlace)), l.length = elems.length → (∀ (i : Nat) (x : α), l[i]? = some x → ∃ y : DataW H × List MemPlace, elems[i]? = some y ∧ R x y.1) → (l.map f).sum ≤ Rows.uptoBulkAll (elems.map (·.1))
  | [], [], _, _ => by simp [Rows.uptoBulkAll]
  | x :: l, y :: es, hl, h => by
    have h1 := bulkAll_get hR l es (by simpa using hl) fun i x hx => h (i + 1) x (by simpa using hx)
    obtain ⟨y', hy, hr⟩ := h 0 x rfl
    injection hy with hy
    subst hy
    have := hR x y.1 hr
    simp only [List.map_cons, List.sum_cons, Rows.uptoBulkAll]
    omega
theorem bulk_mem {d : DataW H} {l : List (DataW H)} (h : d ∈ l) : Rows.uptoBulk d ≤ Rows.uptoBulkAll l := by
  induction l with
  | nil => cases h
  | cons x r ih =>
    simp only [Rows.uptoBulkAll]
    rcases List.mem_cons.1 h with e | e
    · subst e; omega
    · have := ih e; omega
/-- a row that is read -/
theorem row_open {α : Type} {t e : TypeId} {k : Nat} {E : α → List Value → Prop} {R : α → DataW H → Prop} {n : Nat} {cs : List Value} {x : DataW H × List MemPlace} (ht : Tryz.prog.underlying t = some (.slice e)) (hk : Tryz.prog.cellsOf e = k) (h0 : 0 < k)
    (h : DataW.trod enc Tryz.prog W 0 sp true (n + 1) t cs = some x) (hE : ∀ cs y, DataW.trod enc Tryz.prog W 0 sp true n e cs = some y → ∃ x : α, E x cs ∧ R x y.1) :
    ∃ (l : List α) (s : Value), cs = [s] ∧ RowsV W k E l s ∧ (s = .slice none 0 0 ∨ ∃ a n c, s = .slice (some a) n c) ∧ ∃ ds : List (DataW H), l.length = ds.length ∧ (∀ (i : Nat) (x : α), l[i]? = some x → ∃ y : DataW H, ds[i]? = some y ∧ R x y) ∧ Rows.uptoBulkAll ds + 1 ≤ Rows.uptoBulk x.1 ∧ ∀ f : α → Nat, (∀ x d, R x d → f x ≤ Rows.uptoBulk d) → (l.map f).sum + 1 ≤ Rows.uptoBulk x.1 := by
  rcases DataW.trod_slice ht h with ⟨rfl, rfl⟩ | ⟨a, len, cap, elems, rest, n', hn, rfl, rfl, _, hlc, hcm, hel, hget, _, _⟩
  · exact ⟨[], _, rfl, ⟨none, 0, rfl, fun h => absurd rfl h, Nat.le_refl _⟩, .inl rfl, [], rfl, fun i x hx => by simp at hx, by simp [Rows.uptoBulkAll, Rows.uptoBulk], fun f _ => by simp [Rows.uptoBulk]⟩
  · obtain rfl : n' = n := by omega
    obtain ⟨l, h1, h2, h3⟩ := rows_read hk h0 hE elems.length (Nat.le_refl _) (by rw [hel]; exact hget)
    refine ⟨l, _, rfl, ⟨some a, cap, by rw [h1, hel], fun hl => ?_, by omega⟩, .inr ⟨a, len, cap, rfl⟩, elems.map (·.1), by rw [List.length_map]; exact h1, fun i x hx => ?_, ?_, fun f hf => ?_⟩
    · have hs := h2 (by rw [← h1]; exact List.length_pos_iff.2 hl)
      obtain ⟨b, o, s⟩ := a
      simp only at hs
      subst hs
      exact ⟨b, o, rfl, fun i x hx => (h3 i x hx).1⟩
    · obtain ⟨y, hy, hr⟩ := (h3 i x hx).2
      exact ⟨y.1, by rw [List.getElem?_map, hy]; rfl, hr⟩
    · show _ ≤ Rows.uptoBulk (.slice (elems.map (·.1)) (rest.map (·.1)))
      simp only [Rows.uptoBulk]
      omega
    · have := bulkAll_get hf l elems h1 fun i x hx => (h3 i x hx).2
      show _ ≤ Rows.uptoBulk (.slice (elems.map (·.1)) (rest.map (·.1)))
      simp only [Rows.uptoBulk]
      omega
end
end Go.Stamp
set_option linter.unusedVariables false
set_option linter.unusedSimpArgs false
set_option maxRecDepth 100000
set_option maxHeartbeats 1600000
namespace Go.Stamp
open Go Go.RowKit Go.Proofs Go.Maps Go.Proofs.YtadbbfmmhimgcaaGreatDoor
section
variable {H : Type} {enc : TypeId × Value → H} {W : World} {sp : Nat → Bool}
theorem rowV_of {b : Nat} : ∀ (l : List Ty) (o : Nat), (∀ (i : Nat) (t : Ty), l[i]? = some t → ∃ vs, Cells W b (o + i * 4) vs ∧ TyV W t vs) → RowV W l b o
  | [], o, _ => by rw [RowV]; trivial
  | t :: ts, o, h => by
    rw [RowV]
    refine ⟨by have := h 0 t rfl; simpa using this, rowV_of ts (o + 4) fun i x hx => ?_⟩
    obtain ⟨vs, h1, h2⟩ := h (i + 1) x (by simpa using hx)
    exact ⟨vs, by rw [show o + 4 + i * 4 = o + (i + 1) * 4 by omega]; exact h1, h2⟩
theorem slV_of {l : List Ty} {s : Value} (h : RowsV W 4 (TyV W) l s) : SlV W l s := by
  obtain ⟨a, c, rfl, h, hc⟩ := h
  cases l with
  | nil => rw [SlV]; exact ⟨a, c, rfl⟩
  | cons t ts =>
    obtain ⟨b, o, rfl, hr⟩ := h (by simp)
    have := rowV_of (W := W) (b := b) (t :: ts) o hr
    rw [RowV] at this
    rw [SlV]
    exact ⟨b, o, c, rfl, this.1, this.2⟩
def TyR (t : Ty) (d : DataW H) : Prop := 1 + partsT t ≤ Rows.uptoBulk d ∧ ∀ M, Rows.uptoBulk d ≤ M → fitT M t
theorem fitL_of {M : Nat} : ∀ (l : List Ty), (∀ t ∈ l, fitT M t) → fitL M l
  | [], _ => by rw [fitL]; trivial
  | t :: ts, h => by
    rw [fitL]
    exact ⟨h t (by simp), fitL_of ts fun x hx => h x (by simp [hx])⟩
theorem partsN_sum (l : List Ty) : partsN l = (l.map fun t => 1 + partsT t).sum := by
  induction l with
  | nil => rw [partsN_nil]; rfl
  | cons t ts ih => rw [partsN_cons, ih, List.map_cons, List.sum_cons]
theorem i64_wf {n : Int} (h : (Lit.int .i64 n).wf = true) : -9223372036854775808 ≤ n ∧ n ≤ 9223372036854775807 := by
  simpa [Lit.wf, IntKind.min, IntKind.max, IntKind.signed, IntKind.bits] using h
theorem str_bulk (s : ByteArray) : Rows.uptoBulk (DataW.lit (H := H) (.string s.data.toList)) = s.size + 1 := by
  simp only [Rows.uptoBulk, Array.length_toList]; rfl
theorem open_ty (n : Nat) : ∀ (cs : List Value) (y : DataW H × List MemPlace), DataW.trod enc Tryz.prog W 0 sp true n 24 cs = some y → ∃ t : Ty, TyV W t cs ∧ TyR t y.1 := by
  induction n using Nat.strongRecOn with
  | ind n ih =>
    intro cs y h
    obtain ⟨xs, m, rfl, rfl, hl, hxs, hf⟩ := DataW.trod_struct Tryz.underlying24 h
    rw [cellsOf24] at hl
    have hxs : xs.length = 4 := hxs
    obtain ⟨c0, c1, c2, c3, rfl⟩ : ∃ c0 c1 c2 c3, cs = [c0, c1, c2, c3] := by
      match cs, hl with
      | [c0, c1, c2, c3], _ => exact ⟨c0, c1, c2, c3, rfl⟩
    obtain ⟨y0, y1, y2, y3, rfl⟩ : ∃ y0 y1 y2 y3, xs = [y0, y1, y2, y3] := by
      match xs, hxs with
      | [y0, y1, y2, y3], _ => exact ⟨y0, y1, y2, y3, rfl⟩
    have f0 : DataW.trod enc Tryz.prog W 0 sp true m 5 [c0] = some y0 := by
      have h : DataW.trod enc Tryz.prog W 0 sp true m 5 (([c0, c1, c2, c3].drop 0).take (Tryz.prog.cellsOf 5)) = some y0 := hf 0 _ rfl
      rw [cellsOf1 (t := 5) (by simp)] at h
      exact h
    have f1 : DataW.trod enc Tryz.prog W 0 sp true m 9 [c1] = some y1 := by
      have h : DataW.trod enc Tryz.prog W 0 sp true m 9 (([c0, c1, c2, c3].drop 1).take (Tryz.prog.cellsOf 9)) = some y1 := hf 1 _ rfl
      rw [cellsOf1 (t := 9) (by simp)] at h
      exact h
    have f2 : DataW.trod enc Tryz.prog W 0 sp true m 3 [c2] = some y2 := by
      have h : DataW.trod enc Tryz.prog W 0 sp true m 3 (([c0, c1, c2, c3].drop 2).take (Tryz.prog.cellsOf 3)) = some y2 := hf 2 _ rfl
      rw [cellsOf1 (t := 3) (by simp)] at h
      exact h
    have f3 : DataW.trod enc Tryz.prog W 0 sp true m 22 [c3] = some y3 := by
      have h : DataW.trod enc Tryz.prog W 0 sp true m 22 (([c0, c1, c2, c3].drop 3).take (Tryz.prog.cellsOf 22)) = some y3 := hf 3 _ rfl
      rw [cellsOf1 (t := 22) (by simp)] at h
      exact h
    obtain ⟨k, e0, rfl, _⟩ := DataW.trod_int Tryz.underlying5 f0
    obtain ⟨s, e1, rfl, hs⟩ := DataW.trod_string Tryz.underlying9 f1
    obtain ⟨z, e2, rfl, hz⟩ := DataW.trod_int Tryz.underlying3 f2
    injection e0 with e0 _
    injection e1 with e1 _
    injection e2 with e2 _
    subst e0; subst e1; subst e2
    cases m with
    | zero => simp [DataW.trod] at f3
    | succ m =>
      obtain ⟨l, sv, e3, hrow, _, ds, hds, hR, hball, hsum⟩ := row_open (E := TyV W) (R := TyR) Tryz.underlying22 cellsOf24 (by decide) f3 (fun cs y hy => ih m (by omega) cs y hy)
      injection e3 with e3 _
      subst e3
      have hb : Rows.uptoBulk (DataW.agg (H := H) [.lit (.int .u8 k), .lit (.string s.data.toList), .lit (.int .i64 z), y3.1]) = 1 + (s.size + 1) + 1 + Rows.uptoBulk y3.1 + 1 := by
        simp only [Rows.uptoBulk, Rows.uptoBulkAll, Array.length_toList]
        show _ = 1 + (s.data.size + 1) + 1 + _ + 1
        omega
      refine ⟨.mk k s z l, ?_, ?_⟩
      · rw [TyV]; exact ⟨c3, rfl, slV_of hrow⟩
      · show TyR _ (DataW.agg (H := H) [.lit (.int .u8 k), .lit (.string s.data.toList), .lit (.int .i64 z), y3.1])
        unfold TyR
        rw [hb]
        have hp := hsum (fun t => 1 + partsT t) fun x d hx => hx.1
        rw [← partsN_sum] at hp
        refine ⟨by rw [partsT]; omega, fun M hM => ?_⟩
        rw [fitT]
        refine ⟨by omega, i64_wf hz, fitL_of l fun t ht => ?_⟩
        obtain ⟨i, hi, rfl⟩ := List.getElem_of_mem ht
        obtain ⟨d, hd, hr⟩ := hR i _ (List.getElem?_eq_getElem hi)
        have := bulk_mem (List.mem_of_getElem? hd)
        exact hr.2 M (by omega)
/-- a slice of whatever, that is read -/
theorem sl_shape {t e : TypeId} {n : Nat} {cs : List Value} {x : DataW H × List MemPlace} (ht : Tryz.prog.underlying t = some (.slice e)) (h : DataW.trod enc Tryz.prog W 0 sp true n t cs = some x) : ∃ a l c, cs = [.slice a l c] := by
  rcases DataW.trod_slice ht h with ⟨rfl, rfl⟩ | ⟨a, len, cap, elems, rest, n', hn, rfl, _⟩
  · exact ⟨_, _, _, rfl⟩
  · exact ⟨_, _, _, rfl⟩
def ConR (c : Con) (d : DataW H) : Prop := 1 + partsT c.ty ≤ Rows.uptoBulk d ∧ ∀ M, Rows.uptoBulk d ≤ M → c.name.size ≤ M ∧ fitT M c.ty
theorem open_con (n : Nat) (cs : List Value) (y : DataW H × List MemPlace) (h : DataW.trod enc Tryz.prog W 0 sp true n 48 cs = some y) : ∃ c : Con, ConV W c cs ∧ ConR c y.1 := by
  obtain ⟨xs, m, rfl, rfl, hl, hxs, hf⟩ := DataW.trod_struct Tryz.underlying48 h
  rw [cellsOf48] at hl
  have hxs : xs.length = 3 := hxs
  obtain ⟨c0, c1, c2, c3, c4, c5, rfl⟩ : ∃ c0 c1 c2 c3 c4 c5, cs = [c0, c1, c2, c3, c4, c5] := by
    match cs, hl with
    | [c0, c1, c2, c3, c4, c5], _ => exact ⟨c0, c1, c2, c3, c4, c5, rfl⟩
  obtain ⟨y0, y1, y2, rfl⟩ : ∃ y0 y1 y2, xs = [y0, y1, y2] := by
    match xs, hxs with
    | [y0, y1, y2], _ => exact ⟨y0, y1, y2, rfl⟩
  have f0 : DataW.trod enc Tryz.prog W 0 sp true m 9 [c0] = some y0 := by
    have h : DataW.trod enc Tryz.prog W 0 sp true m 9 (([c0, c1, c2, c3, c4, c5].drop 0).take (Tryz.prog.cellsOf 9)) = some y0 := hf 0 _ rfl
    rw [cellsOf1 (t := 9) (by simp)] at h
    exact h
  have f1 : DataW.trod enc Tryz.prog W 0 sp true m 4 [c1] = some y1 := by
    have h : DataW.trod enc Tryz.prog W 0 sp true m 4 (([c0, c1, c2, c3, c4, c5].drop 1).take (Tryz.prog.cellsOf 4)) = some y1 := hf 1 _ rfl
    rw [cellsOf1 (t := 4) (by simp)] at h
    exact h
  have f2 : DataW.trod enc Tryz.prog W 0 sp true m 24 [c2, c3, c4, c5] = some y2 := by
    have h : DataW.trod enc Tryz.prog W 0 sp true m 24 (([c0, c1, c2, c3, c4, c5].drop 2).take (Tryz.prog.cellsOf 24)) = some y2 := hf 2 _ rfl
    rw [cellsOf24] at h
    exact h
  obtain ⟨s, e0, rfl, hs⟩ := DataW.trod_string Tryz.underlying9 f0
  obtain ⟨b, e1, rfl⟩ := DataW.trod_bool Tryz.underlying4 f1
  obtain ⟨t, hty, htr⟩ := open_ty m _ _ f2
  injection e0 with e0 _
  injection e1 with e1 _
  subst e0; subst e1
  have hb : Rows.uptoBulk (DataW.agg (H := H) [.lit (.string s.data.toList), .lit (.bool b), y2.1]) = (s.size + 1) + 1 + Rows.uptoBulk y2.1 + 1 := by
    simp only [Rows.uptoBulk, Rows.uptoBulkAll, Array.length_toList]
    show _ = (s.data.size + 1) + 1 + _ + 1
    omega
  refine ⟨⟨s, b, t⟩, ⟨_, rfl, hty⟩, ?_⟩
  show ConR _ (DataW.agg (H := H) [.lit (.string s.data.toList), .lit (.bool b), y2.1])
  unfold ConR
  rw [hb]
  refine ⟨by have := htr.1; show 1 + partsT t ≤ _; omega, fun M hM => ⟨by show s.size ≤ M; omega, htr.2 M (by omega)⟩⟩
def StrR (s : ByteArray) (d : DataW H) : Prop := s.size + 1 ≤ Rows.uptoBulk d
theorem open_str (n : Nat) (cs : List Value) (y : DataW H × List MemPlace) (h : DataW.trod enc Tryz.prog W 0 sp true n 9 cs = some y) : ∃ s : ByteArray, StrV s cs ∧ StrR s y.1 := by
  obtain ⟨s, rfl, rfl, hs⟩ := DataW.trod_string Tryz.underlying9 h
  exact ⟨s, rfl, Nat.le_of_eq (str_bulk s).symm⟩
def DecR (d : Dec) (x : DataW H) : Prop := decN d + 1 ≤ Rows.uptoBulk x ∧ ∀ M, Rows.uptoBulk x ≤ M → d.name.size ≤ M ∧ (∀ v ∈ d.vars, v.size ≤ M) ∧ ∀ c ∈ d.cons, c.name.size ≤ M ∧ fitT M c.ty
theorem open_dec (n : Nat) (cs : List Value) (y : DataW H × List MemPlace) (h : DataW.trod enc Tryz.prog W 0 sp true n 39 cs = some y) : ∃ d : Dec, DecV W d cs ∧ DecR d y.1 := by
  obtain ⟨xs, m, rfl, rfl, hl, hxs, hf⟩ := DataW.trod_struct Tryz.underlying39 h
  rw [cellsOf39] at hl
  have hxs : xs.length = 7 := hxs
  obtain ⟨c0, c1, c2, c3, c4, c5, c6, c7, c8, c9, c10, c11, c12, c13, c14, c15, rfl⟩ : ∃ c0 c1 c2 c3 c4 c5 c6 c7 c8 c9 c10 c11 c12 c13 c14 c15, cs = [c0, c1, c2, c3, c4, c5, c6, c7, c8, c9, c10, c11, c12, c13, c14, c15] := by
    match cs, hl with
    | [c0, c1, c2, c3, c4, c5, c6, c7, c8, c9, c10, c11, c12, c13, c14, c15], _ => exact ⟨c0, c1, c2, c3, c4, c5, c6, c7, c8, c9, c10, c11, c12, c13, c14, c15, rfl⟩
  obtain ⟨y0, y1, y2, y3, y4, y5, y6, rfl⟩ : ∃ y0 y1 y2 y3 y4 y5 y6, xs = [y0, y1, y2, y3, y4, y5, y6] := by
    match xs, hxs with
    | [y0, y1, y2, y3, y4, y5, y6], _ => exact ⟨y0, y1, y2, y3, y4, y5, y6, rfl⟩
  have f0 : DataW.trod enc Tryz.prog W 0 sp true m 5 [c0] = some y0 := by
    have h : DataW.trod enc Tryz.prog W 0 sp true m 5 (([c0, c1, c2, c3, c4, c5, c6, c7, c8, c9, c10, c11, c12, c13, c14, c15].drop 0).take (Tryz.prog.cellsOf 5)) = some y0 := hf 0 _ rfl
    rw [cellsOf1 (t := 5) (by simp)] at h
    exact h
  have f1 : DataW.trod enc Tryz.prog W 0 sp true m 9 [c1] = some y1 := by
    have h : DataW.trod enc Tryz.prog W 0 sp true m 9 (([c0, c1, c2, c3, c4, c5, c6, c7, c8, c9, c10, c11, c12, c13, c14, c15].drop 1).take (Tryz.prog.cellsOf 9)) = some y1 := hf 1 _ rfl
    rw [cellsOf1 (t := 9) (by simp)] at h
    exact h
  have f2 : DataW.trod enc Tryz.prog W 0 sp true m 31 [c2] = some y2 := by
    have h : DataW.trod enc Tryz.prog W 0 sp true m 31 (([c0, c1, c2, c3, c4, c5, c6, c7, c8, c9, c10, c11, c12, c13, c14, c15].drop 2).take (Tryz.prog.cellsOf 31)) = some y2 := hf 2 _ rfl
    rw [cellsOf1 (t := 31) (by simp)] at h
    exact h
  have f3 : DataW.trod enc Tryz.prog W 0 sp true m 32 [c3] = some y3 := by
    have h : DataW.trod enc Tryz.prog W 0 sp true m 32 (([c0, c1, c2, c3, c4, c5, c6, c7, c8, c9, c10, c11, c12, c13, c14, c15].drop 3).take (Tryz.prog.cellsOf 32)) = some y3 := hf 3 _ rfl
    rw [cellsOf1 (t := 32) (by simp)] at h
    exact h
  have f4 : DataW.trod enc Tryz.prog W 0 sp true m 33 [c4] = some y4 := by
    have h : DataW.trod enc Tryz.prog W 0 sp true m 33 (([c0, c1, c2, c3, c4, c5, c6, c7, c8, c9, c10, c11, c12, c13, c14, c15].drop 4).take (Tryz.prog.cellsOf 33)) = some y4 := hf 4 _ rfl
    rw [cellsOf1 (t := 33) (by simp)] at h
    exact h
  have f5 : DataW.trod enc Tryz.prog W 0 sp true m 24 [c5, c6, c7, c8] = some y5 := by
    have h : DataW.trod enc Tryz.prog W 0 sp true m 24 (([c0, c1, c2, c3, c4, c5, c6, c7, c8, c9, c10, c11, c12, c13, c14, c15].drop 5).take (Tryz.prog.cellsOf 24)) = some y5 := hf 5 _ rfl
    rw [cellsOf24] at h
    exact h
  have f6 : DataW.trod enc Tryz.prog W 0 sp true m 37 [c9, c10, c11, c12, c13, c14, c15] = some y6 := by
    have h : DataW.trod enc Tryz.prog W 0 sp true m 37 (([c0, c1, c2, c3, c4, c5, c6, c7, c8, c9, c10, c11, c12, c13, c14, c15].drop 9).take (Tryz.prog.cellsOf 37)) = some y6 := hf 6 _ rfl
    rw [cellsOf37] at h
    exact h
  obtain ⟨k, e0, rfl, _⟩ := DataW.trod_int Tryz.underlying5 f0
  obtain ⟨s, e1, rfl, hs⟩ := DataW.trod_string Tryz.underlying9 f1
  injection e0 with e0 _
  injection e1 with e1 _
  subst e0; subst e1
  cases m with
  | zero => simp [DataW.trod] at f2
  | succ m =>
    obtain ⟨lv, sv, e2, hv, _, dv, hdv, hRv, hbv, hsv⟩ := row_open (E := StrV) (R := StrR) Tryz.underlying31 (cellsOf1 (t := 9) (by simp)) (by decide) f2 (fun cs y hy => open_str m cs y hy)
    obtain ⟨lc, sc, e3, hc, _, dc, hdc, hRc, hbc, hsc⟩ := row_open (E := ConV W) (R := ConR) Tryz.underlying32 cellsOf48 (by decide) f3 (fun cs y hy => open_con m cs y hy)
    injection e2 with e2 _
    injection e3 with e3 _
    subst e2; subst e3
    obtain ⟨a4, n4, k4, e4⟩ := sl_shape Tryz.underlying33 f4
    injection e4 with e4 _
    subst e4
    obtain ⟨t, hty, _⟩ := open_ty _ _ _ f5
    obtain ⟨st, e5, hst⟩ := hty.vals
    injection e5 with e5 e6
    injection e6 with e6 e7
    injection e7 with e7 e8
    injection e8 with e8 _
    subst e5; subst e6; subst e7; subst e8
    obtain ⟨ka, kc, rfl, _⟩ := hst.slice
    obtain ⟨xs7, m7, _, rfl, hl7, hxs7, hf7⟩ := DataW.trod_struct Tryz.underlying37 f6
    have hxs7 : xs7.length = 7 := hxs7
    obtain ⟨z0, z1, z2, z3, z4, z5, z6, rfl⟩ : ∃ z0 z1 z2 z3 z4 z5 z6, xs7 = [z0, z1, z2, z3, z4, z5, z6] := by
      match xs7, hxs7 with
      | [z0, z1, z2, z3, z4, z5, z6], _ => exact ⟨z0, z1, z2, z3, z4, z5, z6, rfl⟩
    have g0 : DataW.trod enc Tryz.prog W 0 sp true m7 5 [c9] = some z0 := by
      have h : DataW.trod enc Tryz.prog W 0 sp true m7 5 (([c9, c10, c11, c12, c13, c14, c15].drop 0).take (Tryz.prog.cellsOf 5)) = some z0 := hf7 0 _ rfl
      rw [cellsOf1 (t := 5) (by simp)] at h
      exact h
    have g1 : DataW.trod enc Tryz.prog W 0 sp true m7 9 [c10] = some z1 := by
      have h : DataW.trod enc Tryz.prog W 0 sp true m7 9 (([c9, c10, c11, c12, c13, c14, c15].drop 1).take (Tryz.prog.cellsOf 9)) = some z1 := hf7 1 _ rfl
      rw [cellsOf1 (t := 9) (by simp)] at h
      exact h
    have g2 : DataW.trod enc Tryz.prog W 0 sp true m7 2 [c11] = some z2 := by
      have h : DataW.trod enc Tryz.prog W 0 sp true m7 2 (([c9, c10, c11, c12, c13, c14, c15].drop 2).take (Tryz.prog.cellsOf 2)) = some z2 := hf7 2 _ rfl
      rw [cellsOf1 (t := 2) (by simp)] at h
      exact h
    have g3 : DataW.trod enc Tryz.prog W 0 sp true m7 9 [c12] = some z3 := by
      have h : DataW.trod enc Tryz.prog W 0 sp true m7 9 (([c9, c10, c11, c12, c13, c14, c15].drop 3).take (Tryz.prog.cellsOf 9)) = some z3 := hf7 3 _ rfl
      rw [cellsOf1 (t := 9) (by simp)] at h
      exact h
    have g4 : DataW.trod enc Tryz.prog W 0 sp true m7 34 [c13] = some z4 := by
      have h : DataW.trod enc Tryz.prog W 0 sp true m7 34 (([c9, c10, c11, c12, c13, c14, c15].drop 4).take (Tryz.prog.cellsOf 34)) = some z4 := hf7 4 _ rfl
      rw [cellsOf1 (t := 34) (by simp)] at h
      exact h
    have g5 : DataW.trod enc Tryz.prog W 0 sp true m7 35 [c14] = some z5 := by
      have h : DataW.trod enc Tryz.prog W 0 sp true m7 35 (([c9, c10, c11, c12, c13, c14, c15].drop 5).take (Tryz.prog.cellsOf 35)) = some z5 := hf7 5 _ rfl
      rw [cellsOf1 (t := 35) (by simp)] at h
      exact h
    have g6 : DataW.trod enc Tryz.prog W 0 sp true m7 25 [c15] = some z6 := by
      have h : DataW.trod enc Tryz.prog W 0 sp true m7 25 (([c9, c10, c11, c12, c13, c14, c15].drop 6).take (Tryz.prog.cellsOf 25)) = some z6 := hf7 6 _ rfl
      rw [cellsOf1 (t := 25) (by simp)] at h
      exact h
    obtain ⟨k9, e9, _, _⟩ := DataW.trod_int Tryz.underlying5 g0
    obtain ⟨s10, e10, _, _⟩ := DataW.trod_string Tryz.underlying9 g1
    obtain ⟨m11, e11, _, _⟩ := DataW.trod_int Tryz.underlying2 g2
    obtain ⟨s12, e12, _, _⟩ := DataW.trod_string Tryz.underlying9 g3
    obtain ⟨a13, n13, c13', e13⟩ := sl_shape Tryz.underlying34 g4
    obtain ⟨a14, n14, c14', e14⟩ := sl_shape Tryz.underlying35 g5
    obtain ⟨a15, n15, c15', e15⟩ := sl_shape Tryz.underlying25 g6
    injection e9 with e9 _
    injection e10 with e10 _
    injection e11 with e11 _
    injection e12 with e12 _
    injection e13 with e13 _
    injection e14 with e14 _
    injection e15 with e15 _
    subst e9; subst e10; subst e11; subst e12; subst e13; subst e14; subst e15
    have hb : Rows.uptoBulk y2.1 + Rows.uptoBulk y3.1 + s.size + 1 ≤ Rows.uptoBulk (DataW.agg (H := H) ([(DataW.lit (.int .u8 k), ([] : List MemPlace)), (DataW.lit (.string s.data.toList), []), y2, y3, y4, y5, (DataW.agg ([z0, z1, z2, z3, z4, z5, z6].map (·.1)), [z0, z1, z2, z3, z4, z5, z6].flatMap (·.2))].map (·.1))) := by
      simp only [Rows.uptoBulk, Rows.uptoBulkAll, Array.length_toList, List.map_cons]
      show _ + _ + s.data.size + 1 ≤ _
      omega
    refine ⟨⟨k, s, lv, lc⟩, ⟨c2, c3, ⟨a4, n4, k4, t.kind, t.name, t.num, ka, t.kids.length, kc, k9, s10, m11, s12, a13, n13, c13', a14, n14, c14', a15, n15, c15'⟩, rfl, hv, hc⟩, ?_⟩
    show DecR _ (DataW.agg (H := H) ([(DataW.lit (.int .u8 k), ([] : List MemPlace)), (DataW.lit (.string s.data.toList), []), y2, y3, y4, y5, (DataW.agg ([z0, z1, z2, z3, z4, z5, z6].map (·.1)), [z0, z1, z2, z3, z4, z5, z6].flatMap (·.2))].map (·.1)))
    have hp := hsc (fun c => 1 + partsT c.ty) fun x d hx => hx.1
    have hq := hsv (fun s => 1) fun x d hx => by unfold StrR at hx; omega
    rw [sum_const] at hq
    have hpp : partsN (lc.map (·.ty)) = (lc.map fun c => 1 + partsT c.ty).sum := by rw [partsN_sum, List.map_map]; rfl
    refine ⟨?_, fun M hM => ⟨?_, fun v hv' => ?_, fun c hc' => ?_⟩⟩
    · show lv.length + partsN (lc.map (·.ty)) + 1 ≤ _
      omega
    · show s.size ≤ M
      omega
    · obtain ⟨i, hi, rfl⟩ := List.getElem_of_mem hv'
      obtain ⟨d, hd, hr⟩ := hRv i _ (List.getElem?_eq_getElem hi)
      have := bulk_mem (List.mem_of_getElem? hd)
      unfold StrR at hr
      show _ ≤ M
      have : lv[i].size + 1 ≤ Rows.uptoBulk d := hr
      omega
    · obtain ⟨i, hi, rfl⟩ := List.getElem_of_mem hc'
      obtain ⟨d, hd, hr⟩ := hRc i _ (List.getElem?_eq_getElem hi)
      have := bulk_mem (List.mem_of_getElem? hd)
      exact hr.2 M (by omega)
/-- a type that comes in -/
theorem ty_in {v : Value} {d : DataW H} {p : List MemPlace} (h : DataW.Trod enc Tryz.prog W 0 sp true 24 v d p) : ∃ t : Ty, TyV W t v.cells.toList ∧ TyR t d := by
  obtain ⟨n, h⟩ := h
  exact open_ty n _ _ h
/-- a row of declarations that comes in -/
theorem decs_in {v : Value} {d : DataW H} {p : List MemPlace} (h : DataW.Trod enc Tryz.prog W 0 sp true 25 v d p) (hM : Rows.uptoBulk d ≤ 1048576) : ∃ (D : List Dec) (s : Value), v.cells.toList = [s] ∧ FitD W D s := by
  obtain ⟨n, h⟩ := h
  cases n with
  | zero => simp [DataW.trod] at h
  | succ n =>
    obtain ⟨l, s, e, hr, hform, ds, hds, hR, hb, hsum⟩ := row_open (E := DecV W) (R := DecR) Tryz.underlying25 cellsOf39 (by decide) h (fun cs y hy => open_dec n cs y hy)
    have hq := hsum (fun _ => 1) fun x d hx => by have := hx.1; omega
    rw [sum_const] at hq
    have hM : Rows.uptoBulk (d, p).1 ≤ 1048576 := hM
    refine ⟨l, s, e, hr, by omega, hform, fun x hx => ?_⟩
    obtain ⟨i, hi, rfl⟩ := List.getElem_of_mem hx
    obtain ⟨y, hy, hry⟩ := hR i _ (List.getElem?_eq_getElem hi)
    have := bulk_mem (List.mem_of_getElem? hy)
    have h1 := hry.1
    exact ⟨by omega, hry.2 1048576 (by omega)⟩
end
end Go.Stamp
set_option linter.unusedVariables false
set_option linter.unusedSimpArgs false
set_option maxRecDepth 100000
namespace Go.Proofs.YtadbbfmmhimgcaaGreatDoor
open Go.ChangeShapes Go.WideShapes Go.ChangeAt Go.RowKit Go.Stamp
/-! ## What the rows' lists give -/
theorem gTab : Tryz.prog.globalNamed "internal/strconv.uint64pow10" = some 2 := by kernel_rfl
theorem max_cell {w : World} (h : w.ShapedOpen Tryz.prog) : ∃ m : Int, w.cell? ⟨Tryz.laysRep_ren.g 1, 0, none⟩ = some (.int .i64 m) :=
  cell_of_shapedOpen_int (zero := #[.int .i64 0]) (t := 3) h (of_decide_eq_true (by kernel_rfl)) (by kernel_rfl) rfl (by kernel_rfl) (by kernel_rfl) Tryz.underlying3
theorem tab_of {W : World} (h : laidMetH Tryz.prog Rows.stampLongRow.laid W) : Lib.TabIs Tryz.prog W "internal/strconv.uint64pow10" .u64 Lib.pow10Tab := by
  rw [MakeChecks.laidMetH_plain _ _ _ (by kernel_rfl)] at h
  exact Lib.tabIs_of_head gTab (t := 166) (e := 92) (n := 20) (by kernel_rfl) (by kernel_rfl) (by kernel_rfl) (by kernel_rfl) (by kernel_rfl) h.tail.tail
theorem lies_of {W : World} (h : laidMetH Tryz.prog Rows.stampLongRow.laid W) (hs : W.ShapedOpen Tryz.prog) : ∃ g, Lies W g := by
  obtain ⟨B, o, he⟩ := err_cell h
  exact ⟨_, he, ⟨tab_of h, max_cell hs⟩, rfl⟩
end Go.Proofs.YtadbbfmmhimgcaaGreatDoor
