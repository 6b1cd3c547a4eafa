/- Proved: for every row of declarations that is of bulk at most 1048576 the law PrintPrograms answers true, and it reads afterwards as before; the package variables that the row lists hold at the start what the program lays in them (tied). -/
import Derived.Test.YtmkdiiocfnelaaaGreatDoorPb
import Derived.Test.YtmkdiiocfnelaaaGreatDoorRows
import Derived.ChangeArms
import Derived.Lib.SmallJoins
import Derived.Test.YtmkdiiocfnelaaaGreatDoorPk
import Derived.Test.YtmkdiiocfnelaaaGreatDoorPj
import Derived.Deep.DeepHandedRow
import Derived.Lib.LaidTab
import Derived.Carry
set_option linter.unusedVariables false
set_option linter.unusedSimpArgs false
set_option maxRecDepth 100000
set_option maxHeartbeats 4000000
namespace Go.Pr
open Go Go.RowKit Go.Proofs Go.Maps Go.Proofs.YtmkdiiocfnelaaaGreatDoor
section
variable {H : Type} {enc : TypeId × Value → H} {W : World} {sp : Nat → Bool}
theorem cellsOf30 : Tryz.prog.cellsOf 30 = 4 := by kernel_rfl
theorem cellsOf44 : Tryz.prog.cellsOf 44 = 4 := by kernel_rfl
theorem cellsOf34 : Tryz.prog.cellsOf 34 = 7 := by kernel_rfl
theorem cellsOf46 : Tryz.prog.cellsOf 46 = 11 := by kernel_rfl
theorem cellsOf49 : Tryz.prog.cellsOf 49 = 6 := by kernel_rfl
theorem cellsOf55 : Tryz.prog.cellsOf 55 = 9 := by kernel_rfl
theorem cellsOf36 : Tryz.prog.cellsOf 36 = 16 := by kernel_rfl
theorem cellsOf1 {t : TypeId} (h : t = 2 ∨ t = 3 ∨ t = 4 ∨ t = 5 ∨ t = 9 ∨ t = 22 ∨ t = 25 ∨ t = 26 ∨ t = 27 ∨ t = 28 ∨ t = 31 ∨ t = 32 ∨ t = 42) : Tryz.prog.cellsOf t = 1 := by
  rcases h with rfl | rfl | rfl | rfl | rfl | rfl | rfl | rfl | rfl | rfl | rfl | rfl | rfl <;> kernel_rfl
theorem cells_get {a : Addr} {n : Nat} {cs : List Value} (h : W.cells? 0 a n = some cs) (hn : 0 < n) : a.spot = none ∧ ∀ j v, cs[j]? = some v → W.cell? ⟨a.block, a.off + j, none⟩ = some v := by
  unfold World.cells? at h
  rw [if_pos (Nat.zero_le _)] at h
  have hl := mapM_some_length h
  rw [List.length_range] at hl
  have hg : ∀ j v, cs[j]? = some v → W.cell? (a.add j) = some v := fun j v hj => by
    have hjl : j < n := by rw [← hl]; exact (List.getElem?_eq_some_iff.1 hj).1
    have := mapM_some_get h j j (by simp [hjl])
    rw [this]; exact hj
  obtain ⟨b, o, s⟩ := a
  have hs : s = none := by
    obtain ⟨v, hv⟩ : ∃ v, cs[0]? = some v := ⟨cs[0]'(by omega), List.getElem?_eq_getElem (by omega)⟩
    have h0 := hg 0 v hv
    cases s with
    | none => rfl
    | some k =>
      unfold World.cell? at h0
      simp only [Addr.add] at h0
      split at h0 <;> simp at h0
  subst hs
  refine ⟨rfl, fun j v hj => ?_⟩
  have := hg j v hj
  rw [show (⟨b, o, none⟩ : Addr).add j = ⟨b, o + j, none⟩ by unfold Addr.add; split <;> simp_all] at this
  exact this
theorem rows_read {α : Type} {e : TypeId} {k : Nat} {E : α → List Value → Prop} {R : α → DataW H → Prop} {n : Nat} (hk : Tryz.prog.cellsOf e = k) (h0 : 0 < k)
    (hE : ∀ cs y, DataW.trod enc Tryz.prog W 0 sp true n e cs = some y → ∃ x : α, E x cs ∧ R x y.1) {a : Addr} {elems : List (DataW H × List MemPlace)} :
    ∀ m, m ≤ elems.length → (∀ i, i < elems.length → (W.cells? 0 (a.add (i * Tryz.prog.cellsOf e)) (Tryz.prog.cellsOf e)).bind (DataW.trod enc Tryz.prog W 0 sp true n e) = elems[i]?) →
    ∃ l : List α, l.length = m ∧ (0 < m → a.spot = none) ∧ ∀ i x, l[i]? = some x → (∃ vs, Cells W a.block (a.off + i * k) vs ∧ E x vs) ∧ ∃ y, elems[i]? = some y ∧ R x y.1
  | 0, _, _ => ⟨[], rfl, fun h => absurd h (Nat.lt_irrefl _), fun i x hx => by simp at hx⟩
  | m + 1, hm, hel => by
    obtain ⟨l, h1, h2, h3⟩ := rows_read hk h0 hE m (by omega) hel
    obtain ⟨y, hy⟩ : ∃ y, elems[m]? = some y := ⟨elems[m]'(by omega), List.getElem?_eq_getElem (by omega)⟩
    have h := hel m (by omega)
    rw [hy, hk] at h
    obtain ⟨cs, hc, ht⟩ := Option.bind_eq_some_iff.1 h
    obtain ⟨x, hx, hr⟩ := hE cs y ht
    obtain ⟨hs, hg⟩ := cells_get hc h0
    have hab : (a.add (m * k)).block = a.block ∧ (a.add (m * k)).off = a.off + m * k ∧ a.spot = none := by
      by_cases e0 : m * k = 0
      · have em : m = 0 := by
          rcases Nat.mul_eq_zero.1 e0 with e | e
          · exact e
          · omega
        unfold Addr.add at hs ⊢
        rw [if_pos e0] at hs ⊢
        exact ⟨rfl, by rw [e0]; rfl, hs⟩
      · unfold Addr.add
        rw [if_neg e0]
        exact ⟨rfl, rfl, h2 (Nat.pos_of_ne_zero fun e => e0 (by rw [e, Nat.zero_mul]))⟩
    refine ⟨l ++ [x], by rw [List.length_append, h1]; rfl, fun _ => hab.2.2, fun i x' hx' => ?_⟩
    by_cases hi : i < m
    · rw [List.getElem?_append_left (by omega)] at hx'
      exact h3 i x' hx'
    · rw [List.getElem?_append_right (by omega), h1] at hx'
      have : i = m := by
        have := (List.getElem?_eq_some_iff.1 hx').1
        simp at this
        omega
      subst this
      rw [Nat.sub_self] at hx'
      injection hx' with hx'
      subst hx'
      refine ⟨⟨cs, fun j v hj => ?_, hx⟩, y, hy, hr⟩
      have := hg j v hj
      rw [hab.1, hab.2.1] at this
      exact this
theorem bulkAll_get {α : Type} {R : α → DataW H → Prop} {f : α → Nat} (hR : ∀ x d, R x d → f x ≤ Rows.uptoBulk d) : ∀ (l : List α) (elems : List (DataW H × List MemPlace)), l.length = elems.length → (∀ (i : Nat) (x : α), l[i]? = some x → ∃ y : DataW H × List MemPlace, elems[i]? = some y ∧ R x y.1) → (l.map f).sum ≤ Rows.uptoBulkAll (elems.map (·.1))
  | [], [], _, _ => by simp [Rows.uptoBulkAll]
  | x :: l, y :: es, hl, h => by
    have h1 := bulkAll_get hR l es (by simpa using hl) fun i x hx => h (i + 1) x (by simpa using hx)
    obtain ⟨y', hy, hr⟩ := h 0 x rfl
    injection hy with hy
    subst hy
    have := hR x y.1 hr
    simp only [List.map_cons, List.sum_cons, Rows.uptoBulkAll]
    omega
theorem row_open {α : Type} {t e : TypeId} {k : Nat} {E : α → List Value → Prop} {f : α → Nat} {n : Nat} {cs : List Value} {x : DataW H × List MemPlace} (ht : Tryz.prog.underlying t = some (.slice e)) (hk : Tryz.prog.cellsOf e = k) (h0 : 0 < k)
    (h : DataW.trod enc Tryz.prog W 0 sp true n t cs = some x) (hE : ∀ m, m < n → ∀ cs y, DataW.trod enc Tryz.prog W 0 sp true m e cs = some y → ∃ x : α, E x cs ∧ f x ≤ Rows.uptoBulk y.1) :
    ∃ (l : List α) (a : Option Addr) (c : Nat), cs = [.slice a l.length c] ∧ l.length ≤ c ∧ (0 < l.length → ∃ b o, a = some ⟨b, o, none⟩ ∧ ∀ i x, l[i]? = some x → ∃ vs, Cells W b (o + i * k) vs ∧ E x vs) ∧ (l.map f).sum + 1 ≤ Rows.uptoBulk x.1 := by
  cases n with
  | zero => simp [DataW.trod] at h
  | succ n =>
    rcases DataW.trod_slice ht h with ⟨rfl, rfl⟩ | ⟨a, len, cap, elems, rest, n', hn, rfl, rfl, _, hlc, hcm, hel, hget, _, _⟩
    · exact ⟨[], none, 0, rfl, Nat.le_refl _, fun h => absurd h (Nat.lt_irrefl _), by simp [Rows.uptoBulk]⟩
    · obtain rfl : n' = n := by omega
      obtain ⟨l, h1, h2, h3⟩ := rows_read (R := fun x d => f x ≤ Rows.uptoBulk d) hk h0 (hE n' (Nat.lt_succ_self _)) elems.length (Nat.le_refl _) (by rw [hel]; exact hget)
      refine ⟨l, some a, cap, by rw [h1, hel], by omega, fun hl => ?_, ?_⟩
      · have hs := h2 (by omega)
        obtain ⟨b, o, s⟩ := a
        simp only at hs
        subst hs
        exact ⟨b, o, rfl, fun i x hx => (h3 i x hx).1⟩
      · have := bulkAll_get (R := fun x d => f x ≤ Rows.uptoBulk d) (f := f) (fun _ _ h => h) l elems h1 fun i x hx => (h3 i x hx).2
        show _ ≤ Rows.uptoBulk (.slice (elems.map (·.1)) (rest.map (·.1)))
        simp only [Rows.uptoBulk]
        omega
def Opens (enc : TypeId × Value → H) (W : World) (sp : Nat → Bool) (nd : Nd) (t : TypeId) (n : Nat) : Prop := ∀ cs y, DataW.trod enc Tryz.prog W 0 sp true n t cs = some y → ∃ d : D, S W nd d cs ∧ d.w ≤ Rows.uptoBulk y.1
theorem parts_in {nd : Nd} {t e : TypeId} {k : Nat} {n : Nat} {cs : List Value} {x : DataW H × List MemPlace} (ht : Tryz.prog.underlying t = some (.slice e)) (hk : Tryz.prog.cellsOf e = k) (h0 : 0 < k)
    (h : DataW.trod enc Tryz.prog W 0 sp true n t cs = some x) (hE : ∀ m, m < n → Opens enc W sp nd e m) :
    ∃ (l : List D) (s : Value) (vf : Nat → List Value), cs = [s] ∧ RowC W k s l.length vf ∧ (∀ i x, l[i]? = some x → S W nd x (vf i)) ∧ wsum l + 1 ≤ Rows.uptoBulk x.1 := by
  obtain ⟨l, a, c, rfl, hc, hr, hs⟩ := row_open (α := D × List Value) (E := fun p cs => p.2 = cs ∧ S W nd p.1 cs) (f := fun p => p.1.w) ht hk h0 h fun m hm cs y hy => by
    obtain ⟨d, h1, h2⟩ := hE m hm cs y hy
    exact ⟨(d, cs), ⟨rfl, h1⟩, h2⟩
  refine ⟨l.map (·.1), _, fun i => ((l[i]?).map (·.2)).getD [], rfl, ⟨a, c, by rw [List.length_map], by rw [List.length_map]; exact hc, fun hl => ?_⟩, fun i x hx => ?_, ?_⟩
  · rw [List.length_map] at hl
    obtain ⟨b, o, rfl, hg⟩ := hr hl
    refine ⟨b, o, rfl, fun i hi => ?_⟩
    rw [List.length_map] at hi
    obtain ⟨vs, h1, h2, h3⟩ := hg i _ (List.getElem?_eq_getElem hi)
    show Cells W b (o + i * k) (((l[i]?).map (·.2)).getD [])
    rw [List.getElem?_eq_getElem hi]
    subst h2
    exact h1
  · rw [List.getElem?_map] at hx
    obtain ⟨p, hp, rfl⟩ := Option.map_eq_some_iff.1 hx
    have hi := (List.getElem?_eq_some_iff.1 hp).1
    obtain ⟨b, o, _, hg⟩ := hr (by omega)
    obtain ⟨vs, h1, h2, h3⟩ := hg i p hp
    show S W nd p.1 (((l[i]?).map (·.2)).getD [])
    rw [hp]
    subst h2
    exact h3
  · rw [show wsum (l.map (·.1)) = (l.map fun p => p.1.w).sum by unfold wsum; rw [List.map_map]; rfl]
    exact hs
theorem strs_in {n : Nat} {cs : List Value} {x : DataW H × List MemPlace} (h : DataW.trod enc Tryz.prog W 0 sp true n 25 cs = some x) :
    ∃ (l : List ByteArray) (s : Value), cs = [s] ∧ RowC W 1 s l.length (fun i => [.string (l.getD i emp)]) ∧ (l.map fun x => 1 + x.size).sum + 1 ≤ Rows.uptoBulk x.1 := by
  obtain ⟨l, a, c, rfl, hc, hr, hs⟩ := row_open (α := ByteArray) (E := fun p cs => cs = [.string p]) (f := fun p => 1 + p.size) Tryz.underlying25 (cellsOf1 (t := 9) (by simp)) (by decide) h fun m hm cs y hy => by
    obtain ⟨s, rfl, rfl, hs⟩ := DataW.trod_string Tryz.underlying9 hy
    exact ⟨s, rfl, by simp only [Rows.uptoBulk, Array.length_toList]; show 1 + s.data.size ≤ _; omega⟩
  refine ⟨l, _, rfl, ⟨a, c, rfl, hc, fun hl => ?_⟩, hs⟩
  obtain ⟨b, o, rfl, hg⟩ := hr hl
  refine ⟨b, o, rfl, fun i hi => ?_⟩
  obtain ⟨vs, h1, rfl⟩ := hg i _ (List.getElem?_eq_getElem hi)
  rw [Nat.mul_one] at h1 ⊢
  show Cells W b (o + i) [.string (l.getD i emp)]
  rw [show l.getD i emp = l[i] by rw [List.getD_eq_getElem?_getD, List.getElem?_eq_getElem hi]; rfl]
  exact h1
theorem i64_wf {n : Int} (h : (Lit.int .i64 n).wf = true) : i64 n := by
  simpa [i64, Lit.wf, IntKind.min, IntKind.max, IntKind.signed, IntKind.bits] using h
theorem str_bulk (s : ByteArray) : Rows.uptoBulk (DataW.lit (H := H) (.string s.data.toList)) = s.size + 1 := by
  simp only [Rows.uptoBulk, Array.length_toList]; rfl
structure AllIn (enc : TypeId × Value → H) (W : World) (sp : Nat → Bool) (n : Nat) : Prop where
  ty : Opens enc W sp .ty 30 n
  pat : Opens enc W sp .pat 44 n
  exp : Opens enc W sp .exp 34 n
  rule : Opens enc W sp .rule 46 n
  con : Opens enc W sp .con 49 n
  fn : Opens enc W sp .fn 55 n
  dec : Opens enc W sp .dec 36 n
theorem open_ty (n : Nat) (ih : ∀ m, m < n → AllIn enc W sp m) : Opens enc W sp .ty 30 n := by
  intro cs y h
  obtain ⟨xs, m, rfl, rfl, hl, hxs, hf⟩ := DataW.trod_struct Tryz.underlying30 h
  rw [cellsOf30] at hl
  have hxs : xs.length = 4 := hxs
  obtain ⟨c0, c1, c2, c3, rfl⟩ : ∃ c0 c1 c2 c3, cs = [c0, c1, c2, c3] := by
    match cs, hl with
    | [c0, c1, c2, c3], _ => exact ⟨c0, c1, c2, c3, rfl⟩
  obtain ⟨y0, y1, y2, y3, rfl⟩ : ∃ y0 y1 y2 y3, xs = [y0, y1, y2, y3] := by
    match xs, hxs with
    | [y0, y1, y2, y3], _ => exact ⟨y0, y1, y2, y3, rfl⟩
  have f0 : DataW.trod enc Tryz.prog W 0 sp true m 5 [c0] = some y0 := by
    have h : DataW.trod enc Tryz.prog W 0 sp true m 5 (([c0, c1, c2, c3].drop 0).take (Tryz.prog.cellsOf 5)) = some y0 := hf 0 _ rfl
    rw [cellsOf1 (t := 5) (by simp)] at h
    exact h
  have f1 : DataW.trod enc Tryz.prog W 0 sp true m 9 [c1] = some y1 := by
    have h : DataW.trod enc Tryz.prog W 0 sp true m 9 (([c0, c1, c2, c3].drop 1).take (Tryz.prog.cellsOf 9)) = some y1 := hf 1 _ rfl
    rw [cellsOf1 (t := 9) (by simp)] at h
    exact h
  have f2 : DataW.trod enc Tryz.prog W 0 sp true m 3 [c2] = some y2 := by
    have h : DataW.trod enc Tryz.prog W 0 sp true m 3 (([c0, c1, c2, c3].drop 2).take (Tryz.prog.cellsOf 3)) = some y2 := hf 2 _ rfl
    rw [cellsOf1 (t := 3) (by simp)] at h
    exact h
  have f3 : DataW.trod enc Tryz.prog W 0 sp true m 28 [c3] = some y3 := by
    have h : DataW.trod enc Tryz.prog W 0 sp true m 28 (([c0, c1, c2, c3].drop 3).take (Tryz.prog.cellsOf 28)) = some y3 := hf 3 _ rfl
    rw [cellsOf1 (t := 28) (by simp)] at h
    exact h
  obtain ⟨z0, e0, rfl, _⟩ := DataW.trod_int Tryz.underlying5 f0
  injection e0 with e0 _
  subst e0
  obtain ⟨s1, e1, rfl, _⟩ := DataW.trod_string Tryz.underlying9 f1
  injection e1 with e1 _
  subst e1
  obtain ⟨z2, e2, rfl, i2⟩ := DataW.trod_int Tryz.underlying3 f2
  injection e2 with e2 _
  subst e2
  obtain ⟨l3, v3, g3, e3, r3, k3, w3⟩ := parts_in (nd := .ty) Tryz.underlying28 cellsOf30 (by decide) f3 (fun m' hm => (ih m' (by omega)).ty)
  injection e3 with e3 _
  subst e3
  refine ⟨_, .ty (k := z0) (name := s1) (num := z2) (i64_wf i2) r3 k3, ?_⟩
  show _ ≤ Rows.uptoBulk (DataW.agg (H := H) [.lit (.int .u8 z0), .lit (.string s1.data.toList), .lit (.int .i64 z2), y3.1])
  simp only [Rows.uptoBulk, Rows.uptoBulkAll, Array.length_toList]
  have q1 : s1.data.size = s1.size := rfl
  omega
theorem open_pat (n : Nat) (ih : ∀ m, m < n → AllIn enc W sp m) : Opens enc W sp .pat 44 n := by
  intro cs y h
  obtain ⟨xs, m, rfl, rfl, hl, hxs, hf⟩ := DataW.trod_struct Tryz.underlying44 h
  rw [cellsOf44] at hl
  have hxs : xs.length = 4 := hxs
  obtain ⟨c0, c1, c2, c3, rfl⟩ : ∃ c0 c1 c2 c3, cs = [c0, c1, c2, c3] := by
    match cs, hl with
    | [c0, c1, c2, c3], _ => exact ⟨c0, c1, c2, c3, rfl⟩
  obtain ⟨y0, y1, y2, y3, rfl⟩ : ∃ y0 y1 y2 y3, xs = [y0, y1, y2, y3] := by
    match xs, hxs with
    | [y0, y1, y2, y3], _ => exact ⟨y0, y1, y2, y3, rfl⟩
  have f0 : DataW.trod enc Tryz.prog W 0 sp true m 5 [c0] = some y0 := by
    have h : DataW.trod enc Tryz.prog W 0 sp true m 5 (([c0, c1, c2, c3].drop 0).take (Tryz.prog.cellsOf 5)) = some y0 := hf 0 _ rfl
    rw [cellsOf1 (t := 5) (by simp)] at h
    exact h
  have f1 : DataW.trod enc Tryz.prog W 0 sp true m 9 [c1] = some y1 := by
    have h : DataW.trod enc Tryz.prog W 0 sp true m 9 (([c0, c1, c2, c3].drop 1).take (Tryz.prog.cellsOf 9)) = some y1 := hf 1 _ rfl
    rw [cellsOf1 (t := 9) (by simp)] at h
    exact h
  have f2 : DataW.trod enc Tryz.prog W 0 sp true m 2 [c2] = some y2 := by
    have h : DataW.trod enc Tryz.prog W 0 sp true m 2 (([c0, c1, c2, c3].drop 2).take (Tryz.prog.cellsOf 2)) = some y2 := hf 2 _ rfl
    rw [cellsOf1 (t := 2) (by simp)] at h
    exact h
  have f3 : DataW.trod enc Tryz.prog W 0 sp true m 42 [c3] = some y3 := by
    have h : DataW.trod enc Tryz.prog W 0 sp true m 42 (([c0, c1, c2, c3].drop 3).take (Tryz.prog.cellsOf 42)) = some y3 := hf 3 _ rfl
    rw [cellsOf1 (t := 42) (by simp)] at h
    exact h
  obtain ⟨z0, e0, rfl, _⟩ := DataW.trod_int Tryz.underlying5 f0
  injection e0 with e0 _
  subst e0
  obtain ⟨s1, e1, rfl, _⟩ := DataW.trod_string Tryz.underlying9 f1
  injection e1 with e1 _
  subst e1
  obtain ⟨z2, e2, rfl, i2⟩ := DataW.trod_int Tryz.underlying2 f2
  injection e2 with e2 _
  subst e2
  obtain ⟨l3, v3, g3, e3, r3, k3, w3⟩ := parts_in (nd := .pat) Tryz.underlying42 cellsOf44 (by decide) f3 (fun m' hm => (ih m' (by omega)).pat)
  injection e3 with e3 _
  subst e3
  refine ⟨_, .pat (k := z0) (name := s1) (num := z2) (i64_wf i2) r3 k3, ?_⟩
  show _ ≤ Rows.uptoBulk (DataW.agg (H := H) [.lit (.int .u8 z0), .lit (.string s1.data.toList), .lit (.int .i64 z2), y3.1])
  simp only [Rows.uptoBulk, Rows.uptoBulkAll, Array.length_toList]
  have q1 : s1.data.size = s1.size := rfl
  omega
theorem open_exp (n : Nat) (ih : ∀ m, m < n → AllIn enc W sp m) : Opens enc W sp .exp 34 n := by
  intro cs y h
  obtain ⟨xs, m, rfl, rfl, hl, hxs, hf⟩ := DataW.trod_struct Tryz.underlying34 h
  rw [cellsOf34] at hl
  have hxs : xs.length = 7 := hxs
  obtain ⟨c0, c1, c2, c3, c4, c5, c6, rfl⟩ : ∃ c0 c1 c2 c3 c4 c5 c6, cs = [c0, c1, c2, c3, c4, c5, c6] := by
    match cs, hl with
    | [c0, c1, c2, c3, c4, c5, c6], _ => exact ⟨c0, c1, c2, c3, c4, c5, c6, rfl⟩
  obtain ⟨y0, y1, y2, y3, y4, y5, y6, rfl⟩ : ∃ y0 y1 y2 y3 y4 y5 y6, xs = [y0, y1, y2, y3, y4, y5, y6] := by
    match xs, hxs with
    | [y0, y1, y2, y3, y4, y5, y6], _ => exact ⟨y0, y1, y2, y3, y4, y5, y6, rfl⟩
  have f0 : DataW.trod enc Tryz.prog W 0 sp true m 5 [c0] = some y0 := by
    have h : DataW.trod enc Tryz.prog W 0 sp true m 5 (([c0, c1, c2, c3, c4, c5, c6].drop 0).take (Tryz.prog.cellsOf 5)) = some y0 := hf 0 _ rfl
    rw [cellsOf1 (t := 5) (by simp)] at h
    exact h
  have f1 : DataW.trod enc Tryz.prog W 0 sp true m 9 [c1] = some y1 := by
    have h : DataW.trod enc Tryz.prog W 0 sp true m 9 (([c0, c1, c2, c3, c4, c5, c6].drop 1).take (Tryz.prog.cellsOf 9)) = some y1 := hf 1 _ rfl
    rw [cellsOf1 (t := 9) (by simp)] at h
    exact h
  have f2 : DataW.trod enc Tryz.prog W 0 sp true m 2 [c2] = some y2 := by
    have h : DataW.trod enc Tryz.prog W 0 sp true m 2 (([c0, c1, c2, c3, c4, c5, c6].drop 2).take (Tryz.prog.cellsOf 2)) = some y2 := hf 2 _ rfl
    rw [cellsOf1 (t := 2) (by simp)] at h
    exact h
  have f3 : DataW.trod enc Tryz.prog W 0 sp true m 9 [c3] = some y3 := by
    have h : DataW.trod enc Tryz.prog W 0 sp true m 9 (([c0, c1, c2, c3, c4, c5, c6].drop 3).take (Tryz.prog.cellsOf 9)) = some y3 := hf 3 _ rfl
    rw [cellsOf1 (t := 9) (by simp)] at h
    exact h
  have f4 : DataW.trod enc Tryz.prog W 0 sp true m 31 [c4] = some y4 := by
    have h : DataW.trod enc Tryz.prog W 0 sp true m 31 (([c0, c1, c2, c3, c4, c5, c6].drop 4).take (Tryz.prog.cellsOf 31)) = some y4 := hf 4 _ rfl
    rw [cellsOf1 (t := 31) (by simp)] at h
    exact h
  have f5 : DataW.trod enc Tryz.prog W 0 sp true m 32 [c5] = some y5 := by
    have h : DataW.trod enc Tryz.prog W 0 sp true m 32 (([c0, c1, c2, c3, c4, c5, c6].drop 5).take (Tryz.prog.cellsOf 32)) = some y5 := hf 5 _ rfl
    rw [cellsOf1 (t := 32) (by simp)] at h
    exact h
  have f6 : DataW.trod enc Tryz.prog W 0 sp true m 22 [c6] = some y6 := by
    have h : DataW.trod enc Tryz.prog W 0 sp true m 22 (([c0, c1, c2, c3, c4, c5, c6].drop 6).take (Tryz.prog.cellsOf 22)) = some y6 := hf 6 _ rfl
    rw [cellsOf1 (t := 22) (by simp)] at h
    exact h
  obtain ⟨z0, e0, rfl, _⟩ := DataW.trod_int Tryz.underlying5 f0
  injection e0 with e0 _
  subst e0
  obtain ⟨s1, e1, rfl, _⟩ := DataW.trod_string Tryz.underlying9 f1
  injection e1 with e1 _
  subst e1
  obtain ⟨z2, e2, rfl, i2⟩ := DataW.trod_int Tryz.underlying2 f2
  injection e2 with e2 _
  subst e2
  obtain ⟨s3, e3, rfl, _⟩ := DataW.trod_string Tryz.underlying9 f3
  injection e3 with e3 _
  subst e3
  obtain ⟨l4, v4, g4, e4, r4, k4, w4⟩ := parts_in (nd := .exp) Tryz.underlying31 cellsOf34 (by decide) f4 (fun m' hm => (ih m' (by omega)).exp)
  injection e4 with e4 _
  subst e4
  obtain ⟨l5, v5, g5, e5, r5, k5, w5⟩ := parts_in (nd := .rule) Tryz.underlying32 cellsOf46 (by decide) f5 (fun m' hm => (ih m' (by omega)).rule)
  injection e5 with e5 _
  subst e5
  obtain ⟨l6, v6, g6, e6, r6, k6, w6⟩ := parts_in (nd := .dec) Tryz.underlying22 cellsOf36 (by decide) f6 (fun m' hm => (ih m' (by omega)).dec)
  injection e6 with e6 _
  subst e6
  refine ⟨_, .exp (k := z0) (name := s1) (num := z2) (text := s3) (i64_wf i2) r4 r5 r6 k4 k5 k6, ?_⟩
  show _ ≤ Rows.uptoBulk (DataW.agg (H := H) [.lit (.int .u8 z0), .lit (.string s1.data.toList), .lit (.int .i64 z2), .lit (.string s3.data.toList), y4.1, y5.1, y6.1])
  simp only [Rows.uptoBulk, Rows.uptoBulkAll, Array.length_toList]
  have q1 : s1.data.size = s1.size := rfl
  have q3 : s3.data.size = s3.size := rfl
  omega
theorem open_rule (n : Nat) (ih : ∀ m, m < n → AllIn enc W sp m) : Opens enc W sp .rule 46 n := by
  intro cs y h
  obtain ⟨xs, m, rfl, rfl, hl, hxs, hf⟩ := DataW.trod_struct Tryz.underlying46 h
  rw [cellsOf46] at hl
  have hxs : xs.length = 2 := hxs
  obtain ⟨c0, c1, c2, c3, c4, c5, c6, c7, c8, c9, c10, rfl⟩ : ∃ c0 c1 c2 c3 c4 c5 c6 c7 c8 c9 c10, cs = [c0, c1, c2, c3, c4, c5, c6, c7, c8, c9, c10] := by
    match cs, hl with
    | [c0, c1, c2, c3, c4, c5, c6, c7, c8, c9, c10], _ => exact ⟨c0, c1, c2, c3, c4, c5, c6, c7, c8, c9, c10, rfl⟩
  obtain ⟨y0, y1, rfl⟩ : ∃ y0 y1, xs = [y0, y1] := by
    match xs, hxs with
    | [y0, y1], _ => exact ⟨y0, y1, rfl⟩
  have f0 : DataW.trod enc Tryz.prog W 0 sp true m 44 [c0, c1, c2, c3] = some y0 := by
    have h : DataW.trod enc Tryz.prog W 0 sp true m 44 (([c0, c1, c2, c3, c4, c5, c6, c7, c8, c9, c10].drop 0).take (Tryz.prog.cellsOf 44)) = some y0 := hf 0 _ rfl
    rw [cellsOf44] at h
    exact h
  have f1 : DataW.trod enc Tryz.prog W 0 sp true m 34 [c4, c5, c6, c7, c8, c9, c10] = some y1 := by
    have h : DataW.trod enc Tryz.prog W 0 sp true m 34 (([c0, c1, c2, c3, c4, c5, c6, c7, c8, c9, c10].drop 4).take (Tryz.prog.cellsOf 34)) = some y1 := hf 1 _ rfl
    rw [cellsOf34] at h
    exact h
  obtain ⟨d0, k0, w0⟩ := (ih m (by omega)).pat _ _ f0
  obtain ⟨d1, k1, w1⟩ := (ih m (by omega)).exp _ _ f1
  refine ⟨_, .rule k0 k1, ?_⟩
  show _ ≤ Rows.uptoBulk (DataW.agg (H := H) [y0.1, y1.1])
  simp only [Rows.uptoBulk, Rows.uptoBulkAll, Array.length_toList]
  omega
theorem open_con (n : Nat) (ih : ∀ m, m < n → AllIn enc W sp m) : Opens enc W sp .con 49 n := by
  intro cs y h
  obtain ⟨xs, m, rfl, rfl, hl, hxs, hf⟩ := DataW.trod_struct Tryz.underlying49 h
  rw [cellsOf49] at hl
  have hxs : xs.length = 3 := hxs
  obtain ⟨c0, c1, c2, c3, c4, c5, rfl⟩ : ∃ c0 c1 c2 c3 c4 c5, cs = [c0, c1, c2, c3, c4, c5] := by
    match cs, hl with
    | [c0, c1, c2, c3, c4, c5], _ => exact ⟨c0, c1, c2, c3, c4, c5, rfl⟩
  obtain ⟨y0, y1, y2, rfl⟩ : ∃ y0 y1 y2, xs = [y0, y1, y2] := by
    match xs, hxs with
    | [y0, y1, y2], _ => exact ⟨y0, y1, y2, rfl⟩
  have f0 : DataW.trod enc Tryz.prog W 0 sp true m 9 [c0] = some y0 := by
    have h : DataW.trod enc Tryz.prog W 0 sp true m 9 (([c0, c1, c2, c3, c4, c5].drop 0).take (Tryz.prog.cellsOf 9)) = some y0 := hf 0 _ rfl
    rw [cellsOf1 (t := 9) (by simp)] at h
    exact h
  have f1 : DataW.trod enc Tryz.prog W 0 sp true m 4 [c1] = some y1 := by
    have h : DataW.trod enc Tryz.prog W 0 sp true m 4 (([c0, c1, c2, c3, c4, c5].drop 1).take (Tryz.prog.cellsOf 4)) = some y1 := hf 1 _ rfl
    rw [cellsOf1 (t := 4) (by simp)] at h
    exact h
  have f2 : DataW.trod enc Tryz.prog W 0 sp true m 30 [c2, c3, c4, c5] = some y2 := by
    have h : DataW.trod enc Tryz.prog W 0 sp true m 30 (([c0, c1, c2, c3, c4, c5].drop 2).take (Tryz.prog.cellsOf 30)) = some y2 := hf 2 _ rfl
    rw [cellsOf30] at h
    exact h
  obtain ⟨s0, e0, rfl, _⟩ := DataW.trod_string Tryz.underlying9 f0
  injection e0 with e0 _
  subst e0
  obtain ⟨b1, e1, rfl⟩ := DataW.trod_bool Tryz.underlying4 f1
  injection e1 with e1 _
  subst e1
  obtain ⟨d2, k2, w2⟩ := (ih m (by omega)).ty _ _ f2
  refine ⟨_, .con (name := s0) (has := b1) k2, ?_⟩
  show _ ≤ Rows.uptoBulk (DataW.agg (H := H) [.lit (.string s0.data.toList), .lit (.bool b1), y2.1])
  simp only [Rows.uptoBulk, Rows.uptoBulkAll, Array.length_toList]
  have q0 : s0.data.size = s0.size := rfl
  omega
theorem open_fn (n : Nat) (ih : ∀ m, m < n → AllIn enc W sp m) : Opens enc W sp .fn 55 n := by
  intro cs y h
  obtain ⟨xs, m, rfl, rfl, hl, hxs, hf⟩ := DataW.trod_struct Tryz.underlying55 h
  rw [cellsOf55] at hl
  have hxs : xs.length = 3 := hxs
  obtain ⟨c0, c1, c2, c3, c4, c5, c6, c7, c8, rfl⟩ : ∃ c0 c1 c2 c3 c4 c5 c6 c7 c8, cs = [c0, c1, c2, c3, c4, c5, c6, c7, c8] := by
    match cs, hl with
    | [c0, c1, c2, c3, c4, c5, c6, c7, c8], _ => exact ⟨c0, c1, c2, c3, c4, c5, c6, c7, c8, rfl⟩
  obtain ⟨y0, y1, y2, rfl⟩ : ∃ y0 y1 y2, xs = [y0, y1, y2] := by
    match xs, hxs with
    | [y0, y1, y2], _ => exact ⟨y0, y1, y2, rfl⟩
  have f0 : DataW.trod enc Tryz.prog W 0 sp true m 9 [c0] = some y0 := by
    have h : DataW.trod enc Tryz.prog W 0 sp true m 9 (([c0, c1, c2, c3, c4, c5, c6, c7, c8].drop 0).take (Tryz.prog.cellsOf 9)) = some y0 := hf 0 _ rfl
    rw [cellsOf1 (t := 9) (by simp)] at h
    exact h
  have f1 : DataW.trod enc Tryz.prog W 0 sp true m 25 [c1] = some y1 := by
    have h : DataW.trod enc Tryz.prog W 0 sp true m 25 (([c0, c1, c2, c3, c4, c5, c6, c7, c8].drop 1).take (Tryz.prog.cellsOf 25)) = some y1 := hf 1 _ rfl
    rw [cellsOf1 (t := 25) (by simp)] at h
    exact h
  have f2 : DataW.trod enc Tryz.prog W 0 sp true m 34 [c2, c3, c4, c5, c6, c7, c8] = some y2 := by
    have h : DataW.trod enc Tryz.prog W 0 sp true m 34 (([c0, c1, c2, c3, c4, c5, c6, c7, c8].drop 2).take (Tryz.prog.cellsOf 34)) = some y2 := hf 2 _ rfl
    rw [cellsOf34] at h
    exact h
  obtain ⟨s0, e0, rfl, _⟩ := DataW.trod_string Tryz.underlying9 f0
  injection e0 with e0 _
  subst e0
  obtain ⟨l1, v1, e1, r1, w1⟩ := strs_in f1
  injection e1 with e1 _
  subst e1
  obtain ⟨d2, k2, w2⟩ := (ih m (by omega)).exp _ _ f2
  refine ⟨_, .fn (name := s0) r1 k2, ?_⟩
  show _ ≤ Rows.uptoBulk (DataW.agg (H := H) [.lit (.string s0.data.toList), y1.1, y2.1])
  simp only [Rows.uptoBulk, Rows.uptoBulkAll, Array.length_toList]
  have q0 : s0.data.size = s0.size := rfl
  omega
theorem open_dec (n : Nat) (ih : ∀ m, m < n → AllIn enc W sp m) : Opens enc W sp .dec 36 n := by
  intro cs y h
  obtain ⟨xs, m, rfl, rfl, hl, hxs, hf⟩ := DataW.trod_struct Tryz.underlying36 h
  rw [cellsOf36] at hl
  have hxs : xs.length = 7 := hxs
  obtain ⟨c0, c1, c2, c3, c4, c5, c6, c7, c8, c9, c10, c11, c12, c13, c14, c15, rfl⟩ : ∃ c0 c1 c2 c3 c4 c5 c6 c7 c8 c9 c10 c11 c12 c13 c14 c15, cs = [c0, c1, c2, c3, c4, c5, c6, c7, c8, c9, c10, c11, c12, c13, c14, c15] := by
    match cs, hl with
    | [c0, c1, c2, c3, c4, c5, c6, c7, c8, c9, c10, c11, c12, c13, c14, c15], _ => exact ⟨c0, c1, c2, c3, c4, c5, c6, c7, c8, c9, c10, c11, c12, c13, c14, c15, rfl⟩
  obtain ⟨y0, y1, y2, y3, y4, y5, y6, rfl⟩ : ∃ y0 y1 y2 y3 y4 y5 y6, xs = [y0, y1, y2, y3, y4, y5, y6] := by
    match xs, hxs with
    | [y0, y1, y2, y3, y4, y5, y6], _ => exact ⟨y0, y1, y2, y3, y4, y5, y6, rfl⟩
  have f0 : DataW.trod enc Tryz.prog W 0 sp true m 5 [c0] = some y0 := by
    have h : DataW.trod enc Tryz.prog W 0 sp true m 5 (([c0, c1, c2, c3, c4, c5, c6, c7, c8, c9, c10, c11, c12, c13, c14, c15].drop 0).take (Tryz.prog.cellsOf 5)) = some y0 := hf 0 _ rfl
    rw [cellsOf1 (t := 5) (by simp)] at h
    exact h
  have f1 : DataW.trod enc Tryz.prog W 0 sp true m 9 [c1] = some y1 := by
    have h : DataW.trod enc Tryz.prog W 0 sp true m 9 (([c0, c1, c2, c3, c4, c5, c6, c7, c8, c9, c10, c11, c12, c13, c14, c15].drop 1).take (Tryz.prog.cellsOf 9)) = some y1 := hf 1 _ rfl
    rw [cellsOf1 (t := 9) (by simp)] at h
    exact h
  have f2 : DataW.trod enc Tryz.prog W 0 sp true m 25 [c2] = some y2 := by
    have h : DataW.trod enc Tryz.prog W 0 sp true m 25 (([c0, c1, c2, c3, c4, c5, c6, c7, c8, c9, c10, c11, c12, c13, c14, c15].drop 2).take (Tryz.prog.cellsOf 25)) = some y2 := hf 2 _ rfl
    rw [cellsOf1 (t := 25) (by simp)] at h
    exact h
  have f3 : DataW.trod enc Tryz.prog W 0 sp true m 26 [c3] = some y3 := by
    have h : DataW.trod enc Tryz.prog W 0 sp true m 26 (([c0, c1, c2, c3, c4, c5, c6, c7, c8, c9, c10, c11, c12, c13, c14, c15].drop 3).take (Tryz.prog.cellsOf 26)) = some y3 := hf 3 _ rfl
    rw [cellsOf1 (t := 26) (by simp)] at h
    exact h
  have f4 : DataW.trod enc Tryz.prog W 0 sp true m 27 [c4] = some y4 := by
    have h : DataW.trod enc Tryz.prog W 0 sp true m 27 (([c0, c1, c2, c3, c4, c5, c6, c7, c8, c9, c10, c11, c12, c13, c14, c15].drop 4).take (Tryz.prog.cellsOf 27)) = some y4 := hf 4 _ rfl
    rw [cellsOf1 (t := 27) (by simp)] at h
    exact h
  have f5 : DataW.trod enc Tryz.prog W 0 sp true m 30 [c5, c6, c7, c8] = some y5 := by
    have h : DataW.trod enc Tryz.prog W 0 sp true m 30 (([c0, c1, c2, c3, c4, c5, c6, c7, c8, c9, c10, c11, c12, c13, c14, c15].drop 5).take (Tryz.prog.cellsOf 30)) = some y5 := hf 5 _ rfl
    rw [cellsOf30] at h
    exact h
  have f6 : DataW.trod enc Tryz.prog W 0 sp true m 34 [c9, c10, c11, c12, c13, c14, c15] = some y6 := by
    have h : DataW.trod enc Tryz.prog W 0 sp true m 34 (([c0, c1, c2, c3, c4, c5, c6, c7, c8, c9, c10, c11, c12, c13, c14, c15].drop 9).take (Tryz.prog.cellsOf 34)) = some y6 := hf 6 _ rfl
    rw [cellsOf34] at h
    exact h
  obtain ⟨z0, e0, rfl, _⟩ := DataW.trod_int Tryz.underlying5 f0
  injection e0 with e0 _
  subst e0
  obtain ⟨s1, e1, rfl, _⟩ := DataW.trod_string Tryz.underlying9 f1
  injection e1 with e1 _
  subst e1
  obtain ⟨l2, v2, e2, r2, w2⟩ := strs_in f2
  injection e2 with e2 _
  subst e2
  obtain ⟨l3, v3, g3, e3, r3, k3, w3⟩ := parts_in (nd := .con) Tryz.underlying26 cellsOf49 (by decide) f3 (fun m' hm => (ih m' (by omega)).con)
  injection e3 with e3 _
  subst e3
  obtain ⟨l4, v4, g4, e4, r4, k4, w4⟩ := parts_in (nd := .fn) Tryz.underlying27 cellsOf55 (by decide) f4 (fun m' hm => (ih m' (by omega)).fn)
  injection e4 with e4 _
  subst e4
  obtain ⟨d5, k5, w5⟩ := (ih m (by omega)).ty _ _ f5
  obtain ⟨d6, k6, w6⟩ := (ih m (by omega)).exp _ _ f6
  refine ⟨_, .dec (k := z0) (name := s1) r2 r3 r4 k3 k4 k5 k6, ?_⟩
  show _ ≤ Rows.uptoBulk (DataW.agg (H := H) [.lit (.int .u8 z0), .lit (.string s1.data.toList), y2.1, y3.1, y4.1, y5.1, y6.1])
  simp only [Rows.uptoBulk, Rows.uptoBulkAll, Array.length_toList]
  have q1 : s1.data.size = s1.size := rfl
  omega
theorem all_in : ∀ n, AllIn enc W sp n := fun n => by
  induction n using Nat.strongRecOn with
  | ind n ih => exact ⟨open_ty n ih, open_pat n ih, open_exp n ih, open_rule n ih, open_con n ih, open_fn n ih, open_dec n ih⟩
theorem prog_in {v : Value} {d : DataW H} {p : List MemPlace} (h : DataW.Trod enc Tryz.prog W 0 sp true 22 v d p) : ∃ (l : List D) (s : Value) (vf : Nat → List Value), v.cells.toList = [s] ∧ Row W .dec 16 s l vf ∧ wsum l + 1 ≤ Rows.uptoBulk d := by
  obtain ⟨n, h⟩ := h
  obtain ⟨l, s, vf, e, hr, hk, hw⟩ := parts_in (nd := .dec) Tryz.underlying22 cellsOf36 (by decide) h fun m _ => (all_in m).dec
  exact ⟨l, s, vf, e, ⟨hr, hk⟩, hw⟩
end
end Go.Pr
namespace Go.Proofs.YtmkdiiocfnelaaaGreatDoor
open Go.ChangeShapes Go.WideShapes Go.ChangeAt Go.RowKit Go.Pr
theorem own : ownKnob Tryz.prog.godebug = Option.none := by kernel_rfl
theorem max_cell {w : World} (h : w.ShapedOpen Tryz.prog) : ∃ m : Int, w.cell? ⟨Tryz.laysRep_ren.g 1, 0, Option.none⟩ = some (.int .i64 m) :=
  cell_of_shapedOpen_int (zero := #[.int .i64 0]) (t := 3) h (of_decide_eq_true (by kernel_rfl)) (by kernel_rfl) rfl (by kernel_rfl) (by kernel_rfl) Tryz.underlying3
theorem tab_of {W : World} (h : laidMetH Tryz.prog Rows.printProgramsRow.laid W) : Lib.TabIs Tryz.prog W "internal/strconv.uint64pow10" .u64 Lib.pow10Tab := by
  rw [MakeChecks.laidMetH_plain _ _ _ (by kernel_rfl)] at h
  exact Lib.tabIs_of_head Go.Eng.gTab (t := 188) (e := 112) (n := 20) (by kernel_rfl) (by kernel_rfl) (by kernel_rfl) (by kernel_rfl) (by kernel_rfl) h.tail.tail
theorem laid_met (os : Os) (args : Array Value) : laidMetH Tryz.prog Rows.printProgramsRow.laid ((World.laidAll Tryz.prog os Rows.printProgramsRow.laid).forCall (fun _ _ => 0) ⟨#[], args, []⟩).memory := by
  rw [MakeChecks.laidMetH_plain _ _ _ (by kernel_rfl)]
  exact laidMet_laidAll _ (by kernel_rfl) (by kernel_rfl)
noncomputable def args3 : Array Value := #[.slice Option.none 0 0]
theorem reads3 (os : Os) {H : Type} (enc : TypeId × Value → H) : ∃ places, DataW.whole enc Tryz.prog ((World.laidAll Tryz.prog os Rows.printProgramsRow.laid).forCall (fun _ _ => 0) ⟨#[], args3, []⟩).memory Tryz.f3.params.toList Rows.printProgramsSpec.vars false args3.toList 8 = some ([.nil], [], places) :=
  ⟨[], by kernel_rfl⟩
theorem witness3 (os : Os) {H : Type} (enc : TypeId × Value → H) : ∃ (w : World) (tape : Tape) (i : Input), w.os = os ∧ (w.forCall tape i).Shaped Tryz.checked.prog ∧ i.vars = [] ∧ Input.okWide Tryz.checked.prog (w.forCall tape i) .any w.heap.size 3 i ∧
      (Rows.OpenSpec.upto Rows.printProgramsSpec).preRow enc Tryz.checked.prog Tryz.f3 Rows.printProgramsUptoRow.domain false Rows.printProgramsUptoRow.laid (w.forCall tape i).memory i.args ∧ ({} : Assume).holds Tryz.checked.prog (lone (Frame.enter Tryz.checked.prog 3 i.args .normal) [] (w.forCall tape i)) := by
  obtain ⟨places, hx⟩ := reads3 os enc
  have hok : Input.okWideB Tryz.prog ((World.laidAll Tryz.prog os Rows.printProgramsRow.laid).forCall (fun _ _ => 0) ⟨#[], args3, []⟩) 3 ⟨#[], args3, []⟩ = true := by kernel_rfl
  refine ⟨World.laidAll Tryz.prog os Rows.printProgramsRow.laid, fun _ _ => 0, ⟨#[], args3, []⟩, World.laidAll_os _ _ _, World.shaped_of_ZipB (by kernel_rfl) (by kernel_rfl), ?_, ?_, ?_, ?_⟩
  · exact (Input.okWide_of_okWideB (base := 0) hok).1
  · exact (Input.okWide_of_okWideB hok).2
  · exact OpenSpec.preRow_of_cond 8 hx (by kernel_rfl) (fun k hk => by cases hk; kernel_rfl) (by kernel_rfl) (laid_met os _)
  · simp only [Assume.holds]
    exact ⟨by simp, by simp, fun _ => Modest.zero, by simp, by simp⟩
theorem laidOut : laidOutB Tryz.prog = true := by kernel_rfl
theorem read22 : Tryz.prog.readableRec 22 = true := by kernel_rfl
theorem lt22 : 22 < Tryz.prog.types.size := of_decide_eq_true (by kernel_rfl)
theorem val22 {W : World} {base : Nat} {v s : Value} (h : Value.okWide Tryz.prog W .any base 22 v) (e : v.cells.toList = [s]) : s = v := by
  obtain ⟨a, n, c, rfl⟩ := okWide_slice Tryz.underlying22 h
  have e : [Value.slice a n c] = [s] := e
  injection e with e _
  exact e.symm
set_option maxHeartbeats 1600000 in
theorem lifted3 (os : Os) (started : os.Started) (H : Type) (enc : TypeId × Value → H) (F : Stop.Interp) :
    ReturnsInHanded {} Tryz.checked os 3 .any ((Rows.OpenSpec.upto Rows.printProgramsSpec).preRow enc Tryz.prog Tryz.f3 Rows.printProgramsUptoRow.domain false Rows.printProgramsUptoRow.laid) (((Rows.OpenSpec.upto Rows.printProgramsSpec).at F).post enc Tryz.prog Tryz.f3 false true false false) := by
  refine returnsInHanded_of_row (C := Tryz.checked) (s := Rows.OpenSpec.upto Rows.printProgramsSpec) own started (by kernel_rfl) Tryz.func3 (witness3 os enc) ?_
  intro W base args ds gs before hval hW _ hcond _ hL hsh _
  have hsmall := hcond _ rfl
  have hW' := hW
  obtain ⟨p, q, hA0, hV, rfl, _, _⟩ := hW
  have hA : DataW.TrodAll enc Tryz.prog W 0 (fun _ => true) true Tryz.f3.params.toList args.toList ds p := hA0
  rw [Tryz.params3] at hA
  obtain ⟨v0, vs0, d0, ds0, p0, q0, hargs, rfl, rfl, h0, r0⟩ := trodAll_cons hA
  obtain ⟨rfl, rfl, rfl⟩ := trodAll_nil r0
  obtain rfl : args = #[v0] := by cases args; simp_all
  obtain ⟨rfl, rfl⟩ := trodVars_none hV
  simp only [List.append_nil] at hW' hsmall
  have hb : Rows.uptoBulk d0 ≤ 1048576 := by
    have h := of_decide_eq_true hsmall
    simp only [Rows.uptoBulkAll, Nat.add_zero] at h
    exact h
  have hlt : ∀ x ∈ p0, x.block < W.heap.size := fun x hx => by simpa using hW'.lt x hx
  obtain ⟨l, s0, vf, e0, hrow, hwt⟩ := prog_in h0
  obtain rfl := val22 (hval 0 22 v0 rfl rfl) e0
  have hL : laidMetH Tryz.prog Rows.printProgramsRow.laid W := hL
  have hT : TabV W := ⟨tab_of hL, max_cell hsh⟩
  have hA' := Go.Eng.anc_of hL
  refine (law_ok hT (fun w hB => Go.Eng.works_ok hT hA' w hB) hrow (by omega)).mono fun e W' ⟨he, hbl⟩ => ?_
  subst he
  exact ⟨_, rfl, [d0], [], p0, [], p0, [], hW', trodAll_mk1 (shut_bool Tryz.underlying4 _),
    trodAll_mk1 (Below.trod laidOut read22 lt22 h0 hbl fun x hx => hlt x hx), rfl, hbl.frame _, fun h => by cases h⟩
theorem said3 : Rows.PrintProgramsUptoSaid :=
  OpenClaim.holds_of_cond 3 Tryz.f3 rfl rfl rfl rfl rfl rfl rfl ⟨rfl, rfl, rfl, rfl, rfl⟩ rfl rfl rfl rfl rfl (by kernel_rfl) Tryz.func3 (by kernel_rfl)
    (of_decide_eq_true (by kernel_rfl)) (by unfold Func.isWrapper; first | (rw [if_pos (by decide +kernel)]; kernel_rfl) | (rw [if_neg (by decide +kernel)]; exact ⟨rfl, rfl⟩))
    (fun os started H enc _ F => by rw [OpenClaim.pre_eq_preRow]; exact lifted3 os started H enc F)
theorem printPrograms_holds : Rows.PrintProgramsUptoCardSaid :=
  Claim7.holds_tied_plain_at .later [] _ _ _ _ said3 (fun _ h => by cases h) (by kernel_rfl) (fun _ h => by cases h) printProgramsUpto_row_tie rfl ⟨rfl, rfl⟩ (by kernel_rfl) rfl
    (fun f fn hf hfn => by
      obtain rfl : f = 3 := Option.some.inj ((show Tryz.prog.funcNamed "aumbry/aumbrylaw16.PrintPrograms" = some 3 by kernel_rfl).symm.trans hf) |>.symm
      obtain rfl : fn = Tryz.f3 := (Option.some.inj (Tryz.func3.symm.trans hfn)).symm
      exact ⟨by kernel_rfl, fun j t ht => by
        rw [Tryz.params3] at ht
        have hm : t ∈ [22] := by simpa using Array.mem_of_getElem? ht
        have hall : ([22].all fun u => !Tryz.prog.wantsStandIn u) = true := by kernel_rfl
        exact (show Tryz.prog.wantsStandIn t = false by simpa using List.all_eq_true.1 hall t hm)⟩)
    (by kernel_rfl)
#print axioms printPrograms_holds
end Go.Proofs.YtmkdiiocfnelaaaGreatDoor
