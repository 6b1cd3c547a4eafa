/- Proved: for every code and every limit the law VmChecks answers true, and both read afterwards as before; the package variables that the row lists hold at the start what the program lays in them (tied). -/
import Derived.Test.YtllpjpgpanjbiaaGreatDoorCv
import Derived.Test.YtllpjpgpanjbiaaGreatDoorRows
import Derived.ChangeArms
import Derived.Lib.SmallJoins
import Derived.Carry
set_option linter.unusedVariables false
set_option linter.unusedSimpArgs false
set_option maxRecDepth 100000
set_option maxHeartbeats 1600000
namespace Go.Ck
open Go Go.RowKit Go.Proofs Go.Maps Go.Proofs.YtllpjpgpanjbiaaGreatDoor
section
variable {H : Type} {enc : TypeId × Value → H} {W : World} {sp : Nat → Bool}
theorem cellsOf48 : Tryz.prog.cellsOf 48 = 5 := by kernel_rfl
theorem cellsOf66 : Tryz.prog.cellsOf 66 = 2 := by kernel_rfl
theorem cellsOf25 : Tryz.prog.cellsOf 25 = 2 := by kernel_rfl
theorem cellsOf1 {t : TypeId} (h : t = 2 ∨ t = 5 ∨ t = 9 ∨ t = 22 ∨ t = 23 ∨ t = 26) : Tryz.prog.cellsOf t = 1 := by
  rcases h with rfl | rfl | rfl | rfl | rfl | rfl <;> kernel_rfl
theorem cells_get {a : Addr} {n : Nat} {cs : List Value} (h : W.cells? 0 a n = some cs) (hn : 0 < n) : a.spot = none ∧ ∀ j v, cs[j]? = some v → W.cell? ⟨a.block, a.off + j, none⟩ = some v := by
  unfold World.cells? at h
  rw [if_pos (Nat.zero_le _)] at h
  have hl := mapM_some_length h
  rw [List.length_range] at hl
  have hg : ∀ j v, cs[j]? = some v → W.cell? (a.add j) = some v := fun j v hj => by
    have hjl : j < n := by rw [← hl]; exact (List.getElem?_eq_some_iff.1 hj).1
    have := mapM_some_get h j j (by simp [hjl])
    rw [this]; exact hj
  obtain ⟨b, o, s⟩ := a
  have hs : s = none := by
    obtain ⟨v, hv⟩ : ∃ v, cs[0]? = some v := ⟨cs[0]'(by omega), List.getElem?_eq_getElem (by omega)⟩
    have h0 := hg 0 v hv
    cases s with
    | none => rfl
    | some k =>
      unfold World.cell? at h0
      simp only [Addr.add] at h0
      split at h0 <;> simp at h0
  subst hs
  refine ⟨rfl, fun j v hj => ?_⟩
  have := hg j v hj
  rw [show (⟨b, o, none⟩ : Addr).add j = ⟨b, o + j, none⟩ by unfold Addr.add; split <;> simp_all] at this
  exact this
def CellsAt (W : World) (b o : Nat) (vs : List Value) : Prop := ∀ j v, vs[j]? = some v → W.cell? ⟨b, o + j, none⟩ = some v
theorem rows_read {α : Type} {e : TypeId} {k : Nat} {E : α → List Value → Prop} {n : Nat} (hk : Tryz.prog.cellsOf e = k) (h0 : 0 < k)
    (hE : ∀ cs (y : DataW H × List MemPlace), DataW.trod enc Tryz.prog W 0 sp true n e cs = some y → ∃ x : α, E x cs) {a : Addr} {elems : List (DataW H × List MemPlace)} :
    ∀ m, m ≤ elems.length → (∀ i, i < elems.length → (W.cells? 0 (a.add (i * Tryz.prog.cellsOf e)) (Tryz.prog.cellsOf e)).bind (DataW.trod enc Tryz.prog W 0 sp true n e) = elems[i]?) →
    ∃ l : List α, l.length = m ∧ (0 < m → a.spot = none) ∧ ∀ i x, l[i]? = some x → ∃ vs, CellsAt W a.block (a.off + i * k) vs ∧ E x vs
  | 0, _, _ => ⟨[], rfl, fun h => absurd h (Nat.lt_irrefl _), fun i x hx => by simp at hx⟩
  | m + 1, hm, hel => by
    obtain ⟨l, h1, h2, h3⟩ := rows_read hk h0 hE m (by omega) hel
    obtain ⟨y, hy⟩ : ∃ y, elems[m]? = some y := ⟨elems[m]'(by omega), List.getElem?_eq_getElem (by omega)⟩
    have h := hel m (by omega)
    rw [hy, hk] at h
    obtain ⟨cs, hc, ht⟩ := Option.bind_eq_some_iff.1 h
    obtain ⟨x, hx⟩ := hE cs y ht
    obtain ⟨hs, hg⟩ := cells_get hc h0
    have hab : (a.add (m * k)).block = a.block ∧ (a.add (m * k)).off = a.off + m * k ∧ a.spot = none := by
      by_cases e0 : m * k = 0
      · have em : m = 0 := by
          rcases Nat.mul_eq_zero.1 e0 with e | e
          · exact e
          · omega
        unfold Addr.add at hs ⊢
        rw [if_pos e0] at hs ⊢
        exact ⟨rfl, by rw [e0]; rfl, hs⟩
      · unfold Addr.add
        rw [if_neg e0]
        exact ⟨rfl, rfl, h2 (Nat.pos_of_ne_zero fun e => e0 (by rw [e, Nat.zero_mul]))⟩
    refine ⟨l ++ [x], by rw [List.length_append, h1]; rfl, fun _ => hab.2.2, fun i x' hx' => ?_⟩
    by_cases hi : i < m
    · rw [List.getElem?_append_left (by omega)] at hx'
      exact h3 i x' hx'
    · rw [List.getElem?_append_right (by omega), h1] at hx'
      have : i = m := by
        have := (List.getElem?_eq_some_iff.1 hx').1
        simp at this
        omega
      subst this
      rw [Nat.sub_self] at hx'
      injection hx' with hx'
      subst hx'
      refine ⟨cs, fun j v hj => ?_, hx⟩
      have := hg j v hj
      rw [hab.1, hab.2.1] at this
      exact this
theorem row_open {α : Type} {t e : TypeId} {k : Nat} {E : α → List Value → Prop} {n : Nat} {cs : List Value} {x : DataW H × List MemPlace} (ht : Tryz.prog.underlying t = some (.slice e)) (hk : Tryz.prog.cellsOf e = k) (h0 : 0 < k)
    (h : DataW.trod enc Tryz.prog W 0 sp true (n + 1) t cs = some x) (hE : ∀ cs (y : DataW H × List MemPlace), DataW.trod enc Tryz.prog W 0 sp true n e cs = some y → ∃ x : α, E x cs) :
    ∃ (l : List α) (a : Option Addr) (c : Nat), cs = [.slice a l.length c] ∧ l.length ≤ c ∧ (0 < l.length → ∃ b o, a = some ⟨b, o, none⟩ ∧ ∀ i x, l[i]? = some x → ∃ vs, CellsAt W b (o + i * k) vs ∧ E x vs) := by
  rcases DataW.trod_slice ht h with ⟨rfl, rfl⟩ | ⟨a, len, cap, elems, rest, n', hn, rfl, rfl, _, hlc, hcm, hel, hget, _, _⟩
  · exact ⟨[], none, 0, rfl, Nat.le_refl _, fun h => absurd h (Nat.lt_irrefl _)⟩
  · obtain rfl : n' = n := by omega
    obtain ⟨l, h1, h2, h3⟩ := rows_read hk h0 hE elems.length (Nat.le_refl _) (by rw [hel]; exact hget)
    refine ⟨l, some a, cap, by rw [h1, hel], by omega, fun hl => ?_⟩
    have hs := h2 (by rw [← h1]; exact hl)
    obtain ⟨b, o, s⟩ := a
    simp only at hs
    subst hs
    exact ⟨b, o, rfl, h3⟩
theorem i64_wf {n : Int} (h : (Lit.int .i64 n).wf = true) : rng n := by
  simpa [rng, Lit.wf, IntKind.min, IntKind.max, IntKind.signed, IntKind.bits] using h
def InsE (x : Ins) (cs : List Value) : Prop := cs = insC x ∧ rng x.a ∧ rng x.b
theorem open_ins (n : Nat) (cs : List Value) (y : DataW H × List MemPlace) (h : DataW.trod enc Tryz.prog W 0 sp true n 48 cs = some y) : ∃ x : Ins, InsE x cs := by
  obtain ⟨xs, m, rfl, rfl, hl, hxs, hf⟩ := DataW.trod_struct Tryz.underlying48 h
  rw [cellsOf48] at hl
  have hxs : xs.length = 5 := hxs
  obtain ⟨c0, c1, c2, c3, c4, rfl⟩ : ∃ c0 c1 c2 c3 c4, cs = [c0, c1, c2, c3, c4] := by
    match cs, hl with
    | [c0, c1, c2, c3, c4], _ => exact ⟨c0, c1, c2, c3, c4, rfl⟩
  obtain ⟨y0, y1, y2, y3, y4, rfl⟩ : ∃ y0 y1 y2 y3 y4, xs = [y0, y1, y2, y3, y4] := by
    match xs, hxs with
    | [y0, y1, y2, y3, y4], _ => exact ⟨y0, y1, y2, y3, y4, rfl⟩
  have f0 : DataW.trod enc Tryz.prog W 0 sp true m 5 [c0] = some y0 := by
    have h : DataW.trod enc Tryz.prog W 0 sp true m 5 (([c0, c1, c2, c3, c4].drop 0).take (Tryz.prog.cellsOf 5)) = some y0 := hf 0 _ rfl
    rw [cellsOf1 (t := 5) (by simp)] at h
    exact h
  have f1 : DataW.trod enc Tryz.prog W 0 sp true m 2 [c1] = some y1 := by
    have h : DataW.trod enc Tryz.prog W 0 sp true m 2 (([c0, c1, c2, c3, c4].drop 1).take (Tryz.prog.cellsOf 2)) = some y1 := hf 1 _ rfl
    rw [cellsOf1 (t := 2) (by simp)] at h
    exact h
  have f2 : DataW.trod enc Tryz.prog W 0 sp true m 2 [c2] = some y2 := by
    have h : DataW.trod enc Tryz.prog W 0 sp true m 2 (([c0, c1, c2, c3, c4].drop 2).take (Tryz.prog.cellsOf 2)) = some y2 := hf 2 _ rfl
    rw [cellsOf1 (t := 2) (by simp)] at h
    exact h
  have f3 : DataW.trod enc Tryz.prog W 0 sp true m 2 [c3] = some y3 := by
    have h : DataW.trod enc Tryz.prog W 0 sp true m 2 (([c0, c1, c2, c3, c4].drop 3).take (Tryz.prog.cellsOf 2)) = some y3 := hf 3 _ rfl
    rw [cellsOf1 (t := 2) (by simp)] at h
    exact h
  have f4 : DataW.trod enc Tryz.prog W 0 sp true m 9 [c4] = some y4 := by
    have h : DataW.trod enc Tryz.prog W 0 sp true m 9 (([c0, c1, c2, c3, c4].drop 4).take (Tryz.prog.cellsOf 9)) = some y4 := hf 4 _ rfl
    rw [cellsOf1 (t := 9) (by simp)] at h
    exact h
  obtain ⟨k, e0, rfl, _⟩ := DataW.trod_int Tryz.underlying5 f0
  obtain ⟨za, e1, rfl, ha⟩ := DataW.trod_int Tryz.underlying2 f1
  obtain ⟨zb, e2, rfl, hb⟩ := DataW.trod_int Tryz.underlying2 f2
  obtain ⟨zc, e3, rfl, hc⟩ := DataW.trod_int Tryz.underlying2 f3
  obtain ⟨s, e4, rfl, hs⟩ := DataW.trod_string Tryz.underlying9 f4
  injection e0 with e0 _
  injection e1 with e1 _
  injection e2 with e2 _
  injection e3 with e3 _
  injection e4 with e4 _
  subst e0; subst e1; subst e2; subst e3; subst e4
  exact ⟨⟨k, za, zb, zc, s⟩, rfl, i64_wf ha, i64_wf hb⟩
def RtE (x : ByteArray × ByteArray) (cs : List Value) : Prop := cs = [.string x.1, .string x.2]
theorem open_rt (n : Nat) (cs : List Value) (y : DataW H × List MemPlace) (h : DataW.trod enc Tryz.prog W 0 sp true n 66 cs = some y) : ∃ x, RtE x cs := by
  obtain ⟨xs, m, rfl, rfl, hl, hxs, hf⟩ := DataW.trod_struct Tryz.underlying66 h
  rw [cellsOf66] at hl
  have hxs : xs.length = 2 := hxs
  obtain ⟨c0, c1, rfl⟩ : ∃ c0 c1, cs = [c0, c1] := by
    match cs, hl with
    | [c0, c1], _ => exact ⟨c0, c1, rfl⟩
  obtain ⟨y0, y1, rfl⟩ : ∃ y0 y1, xs = [y0, y1] := by
    match xs, hxs with
    | [y0, y1], _ => exact ⟨y0, y1, rfl⟩
  have f0 : DataW.trod enc Tryz.prog W 0 sp true m 9 [c0] = some y0 := by
    have h : DataW.trod enc Tryz.prog W 0 sp true m 9 (([c0, c1].drop 0).take (Tryz.prog.cellsOf 9)) = some y0 := hf 0 _ rfl
    rw [cellsOf1 (t := 9) (by simp)] at h
    exact h
  have f1 : DataW.trod enc Tryz.prog W 0 sp true m 9 [c1] = some y1 := by
    have h : DataW.trod enc Tryz.prog W 0 sp true m 9 (([c0, c1].drop 1).take (Tryz.prog.cellsOf 9)) = some y1 := hf 1 _ rfl
    rw [cellsOf1 (t := 9) (by simp)] at h
    exact h
  obtain ⟨s0, e0, rfl, _⟩ := DataW.trod_string Tryz.underlying9 f0
  obtain ⟨s1, e1, rfl, _⟩ := DataW.trod_string Tryz.underlying9 f1
  injection e0 with e0 _
  injection e1 with e1 _
  subst e0; subst e1
  exact ⟨(s0, s1), rfl⟩
def CodeE (W : World) (code : List Ins) (cs : List Value) : Prop := ∃ v, cs = [v] ∧ CodeV W v code ∧ ∀ x ∈ code, rng x.a ∧ rng x.b
theorem open_code (n : Nat) (cs : List Value) (y : DataW H × List MemPlace) (h : DataW.trod enc Tryz.prog W 0 sp true n 26 cs = some y) : ∃ code, CodeE W code cs := by
  cases n with
  | zero => simp [DataW.trod] at h
  | succ n =>
    obtain ⟨l, a, c, rfl, hlc, hrow⟩ := row_open (E := InsE) Tryz.underlying26 cellsOf48 (by decide) h (open_ins n)
    refine ⟨l, _, rfl, ⟨a, c, rfl, hlc, fun h0 => ?_⟩, fun x hx => ?_⟩
    · obtain ⟨b, o, e, hr⟩ := hrow h0
      refine ⟨b, o, e, fun i x hx j u hj => ?_⟩
      obtain ⟨vs, h1, h2, _⟩ := hr i x hx
      rw [h2] at h1
      exact h1 j u hj
    · obtain ⟨i, hi, rfl⟩ := List.getElem_of_mem hx
      obtain ⟨b, o, e, hr⟩ := hrow (by omega)
      obtain ⟨vs, _, _, h3⟩ := hr i _ (List.getElem?_eq_getElem hi)
      exact h3
theorem open_funs (n : Nat) (cs : List Value) (y : DataW H × List MemPlace) (h : DataW.trod enc Tryz.prog W 0 sp true n 22 cs = some y) : ∃ funs v, cs = [v] ∧ FunsV W v funs ∧ ∀ c ∈ funs, ∀ x ∈ c, rng x.a ∧ rng x.b := by
  cases n with
  | zero => simp [DataW.trod] at h
  | succ n =>
    obtain ⟨l, a, c, rfl, hlc, hrow⟩ := row_open (E := CodeE W) Tryz.underlying22 (cellsOf1 (t := 26) (by simp)) (by decide) h (open_code n)
    refine ⟨l, _, rfl, ⟨a, c, rfl, hlc, fun h0 => ?_⟩, fun code hc => ?_⟩
    · obtain ⟨b, o, e, hr⟩ := hrow h0
      refine ⟨b, o, e, fun i x hx => ?_⟩
      obtain ⟨vs, h1, v, rfl, h2, _⟩ := hr i x hx
      refine ⟨v, ?_, h2⟩
      have := h1 0 v rfl
      rw [Nat.mul_one, Nat.add_zero] at this
      exact this
    · obtain ⟨i, hi, rfl⟩ := List.getElem_of_mem hc
      obtain ⟨b, o, e, hr⟩ := hrow (by omega)
      obtain ⟨vs, _, v, _, _, h3⟩ := hr i _ (List.getElem?_eq_getElem hi)
      exact h3
theorem open_roots (n : Nat) (cs : List Value) (y : DataW H × List MemPlace) (h : DataW.trod enc Tryz.prog W 0 sp true n 23 cs = some y) : ∃ (rs : Rts) (v : Value), cs = [v] ∧ RootsV W v rs := by
  cases n with
  | zero => simp [DataW.trod] at h
  | succ n =>
    obtain ⟨l, a, c, rfl, hlc, hrow⟩ := row_open (E := RtE) Tryz.underlying23 cellsOf66 (by decide) h (open_rt n)
    refine ⟨l, _, rfl, a, c, rfl, hlc, fun i x hx => ?_⟩
    obtain ⟨b, o, e, hr⟩ := hrow (by have := (List.getElem?_eq_some_iff.1 hx).1; omega)
    obtain ⟨vs, h1, h2⟩ := hr i x hx
    rw [h2] at h1
    exact ⟨b, o, e, h1 0 _ rfl, h1 1 _ rfl⟩
theorem open_arg {v : Value} {d : DataW H} {p : List MemPlace} (h : DataW.Trod enc Tryz.prog W 0 sp true 25 v d p) : ∃ funs rs fv rv, v.cells.toList = [fv, rv] ∧ FunsV W fv funs ∧ RootsV W rv rs ∧ ∀ c ∈ funs, ∀ x ∈ c, rng x.a ∧ rng x.b := by
  obtain ⟨n, h⟩ := h
  obtain ⟨xs, m, rfl, _, hl, hxs, hf⟩ := DataW.trod_struct Tryz.underlying25 h
  rw [cellsOf25] at hl
  have hxs : xs.length = 2 := hxs
  obtain ⟨c0, c1, hcs⟩ : ∃ c0 c1, v.cells.toList = [c0, c1] := by
    generalize v.cells.toList = cs at hl
    match cs, hl with
    | [c0, c1], _ => exact ⟨c0, c1, rfl⟩
  rw [hcs] at hf
  obtain ⟨y0, y1, rfl⟩ : ∃ y0 y1, xs = [y0, y1] := by
    match xs, hxs with
    | [y0, y1], _ => exact ⟨y0, y1, rfl⟩
  have f0 : DataW.trod enc Tryz.prog W 0 sp true m 22 [c0] = some y0 := by
    have h : DataW.trod enc Tryz.prog W 0 sp true m 22 (([c0, c1].drop 0).take (Tryz.prog.cellsOf 22)) = some y0 := hf 0 _ rfl
    rw [cellsOf1 (t := 22) (by simp)] at h
    exact h
  have f1 : DataW.trod enc Tryz.prog W 0 sp true m 23 [c1] = some y1 := by
    have h : DataW.trod enc Tryz.prog W 0 sp true m 23 (([c0, c1].drop 1).take (Tryz.prog.cellsOf 23)) = some y1 := hf 1 _ rfl
    rw [cellsOf1 (t := 23) (by simp)] at h
    exact h
  obtain ⟨funs, fv, e0, h0, hI⟩ := open_funs m _ _ f0
  obtain ⟨rs, rv, e1, h1⟩ := open_roots m _ _ f1
  injection e0 with e0 _
  injection e1 with e1 _
  subst e0 e1
  exact ⟨funs, rs, _, _, hcs, h0, h1, hI⟩
end
end Go.Ck
namespace Go.Proofs.YtllpjpgpanjbiaaGreatDoor
open Go.ChangeShapes Go.WideShapes Go.ChangeAt Go.RowKit Go.Eng Go.Ck
theorem own : ownKnob Tryz.prog.godebug = none := by kernel_rfl
def strsObj (l : List (List UInt8)) : Obj := .cells (l.map fun t => Value.string ⟨t.toArray⟩).toArray 9 (0, 0)
noncomputable def wit0 (os : Os) : World := World.laidAll Tryz.prog os (Rows.vmChecksRow.laid.take 3)
def setHeap (w : World) (h : Array Obj) : World := { w with heap := h }
theorem setHeap_os (w : World) (h : Array Obj) : (setHeap w h).os = w.os := rfl
noncomputable def wit (os : Os) : World :=
  setHeap (wit0 os) ((((((wit0 os).heap.push (strsObj tx5)).push (strsObj tx6)).push (strsObj tx7)).push
      (.map #[⟨.int .i64 1, .slice (some ⟨(wit0 os).heap.size, 0, none⟩) 10 10, 0⟩, ⟨.int .i64 2, .slice (some ⟨(wit0 os).heap.size + 1, 0, none⟩) 16 16, 1⟩, ⟨.int .i64 3, .slice (some ⟨(wit0 os).heap.size + 2, 0, none⟩) 1 1, 2⟩] 3)).setIfInBounds 0 (.cells #[.map (some ((wit0 os).heap.size + 3))] 155 (0, 0)))
theorem wit_os (os : Os) : (wit os).os = os := (setHeap_os _ _).trans (World.laidAll_os _ _ _)
theorem laid_met (os : Os) (args : Array Value) : laidMetH Tryz.prog Rows.vmChecksRow.laid ((wit os).forCall (fun _ _ => 0) ⟨#[], args, []⟩).memory := by
  rw [MakeChecks.laidMetH_plain _ _ _ (by kernel_rfl)]
  have h : laidMet Tryz.prog Rows.vmChecksRow.laid (wit os) := laidMet_of_run' 8 (by kernel_rfl) (by kernel_rfl)
  exact h.of_heap (by simp [World.memory, World.forCall, Input.heap])
theorem laidOut : laidOutB Tryz.prog = true := by kernel_rfl
theorem read25 : Tryz.prog.readableRec 25 = true := by kernel_rfl
theorem lt25 : 25 < Tryz.prog.types.size := of_decide_eq_true (by kernel_rfl)
theorem val25 {W : World} {base : Nat} {v fv rv : Value} (h : Value.okWide Tryz.prog W .any base 25 v) (e : v.cells.toList = [fv, rv]) : v = .agg #[fv, rv] := by
  obtain ⟨cs, rfl, _⟩ := okWide_struct Tryz.underlying25 h
  have e : cs.toList = [fv, rv] := e
  exact congrArg Value.agg (Array.toList_inj.1 e)
theorem primsAt_of {W : World} (h : laidMetH Tryz.prog Rows.vmChecksRow.laid W) : PrimsAt W := by
  obtain ⟨b, ces, clock, c1, c2, c3, l1, l2, l3, h⟩ := prims_of h
  exact ⟨b, ces, clock, c1, c2, c3, l1, l2, l3, h⟩
set_option maxRecDepth 100000 in
set_option maxHeartbeats 1600000 in
theorem vmChecks_lifted (os : Os) (started : os.Started) (H : Type) (enc : TypeId × Value → H) :
    ReturnsInHanded {} Tryz.checked os 3 .any (fun w args => (Rows.vmChecksSpec.pre enc Tryz.prog Tryz.f3 Rows.vmChecksRow.domain false w args ∧ laidMetH Tryz.prog Rows.vmChecksRow.laid w) ∧ sizedMet enc Tryz.prog Tryz.f3 (OpenSpec.ofChange Rows.vmChecksSpec) false w args)
      (Rows.vmChecksSpec.post enc Tryz.prog Tryz.f3 false true false false) := by
  refine returnsInHanded_of_change_and (C := Tryz.checked) (X := fun w _ => laidMetH Tryz.prog Rows.vmChecksRow.laid w) (fun _ _ _ hh h => h.of_heap hh) own started (by kernel_rfl) Tryz.func3
    (ChangeSpec.witness_shaped (enc := enc) (C := Tryz.checked) (os := os) (X := fun w _ => laidMetH Tryz.prog Rows.vmChecksRow.laid w) false (wit os) #[.agg #[.slice none 0 0, .slice none 0 0], .int .i64 0] 8 (wit_os os)
      (World.shaped_of_ZipB (by kernel_rfl) (by kernel_rfl)) (by kernel_rfl) (by kernel_rfl) (by kernel_rfl) (laid_met os _)) ?_
  intro W base args ds gs before hval0 hW hc _ hL _
  have hval : ∀ (j : Nat) t v, Tryz.f3.params[j]? = some t → args[j]? = some v → Value.okWide Tryz.prog W .any base t v := hval0
  have hW' := hW
  obtain ⟨p, q, hA0, hV, rfl, _, _⟩ := hW
  have hA : DataW.TrodAll enc Tryz.prog W 0 (fun _ => true) true Tryz.f3.params.toList args.toList ds p := hA0
  rw [Tryz.params3] at hA hval
  obtain ⟨v0, vs0, d0, ds0, p0, q0, hargs, rfl, rfl, h0, r0⟩ := trodAll_cons hA
  obtain ⟨v1, vs1, d1, ds1, p1, q1, hargs1, rfl, rfl, h1, r1⟩ := trodAll_cons r0
  obtain ⟨rfl, rfl, rfl⟩ := trodAll_nil r1
  subst hargs1
  obtain rfl : args = #[v0, v1] := by cases args; simp_all
  obtain ⟨x, rfl, rfl, rfl, wx⟩ := open_int Tryz.underlying3 (hval 1 3 v1 rfl rfl) h1
  obtain ⟨rfl, rfl⟩ := trodVars_none hV
  simp only [List.append_nil] at hW'
  have hlt : ∀ y ∈ p0, y.block < W.heap.size := fun y hy => by simpa using hW'.lt y hy
  obtain ⟨funs, rs, fv, rv, e0, hf, hr, hI⟩ := open_arg h0
  obtain rfl := val25 (hval 0 25 v0 rfl rfl) e0
  have hL : laidMetH Tryz.prog Rows.vmChecksRow.laid W := hL
  refine (law_ok hf hr (primsAt_of hL) hI x).mono fun e W' ⟨he, hb⟩ => ?_
  subst he
  exact ⟨_, rfl, [d0, .lit (.int .i64 x)], [], _, [], _, [], hW', trodAll_mk1 (shut_bool Tryz.underlying4 _),
    trodAll_cons_mk (Below.trod laidOut read25 lt25 h0 hb hlt) (trodAll_cons_mk (shut_int Tryz.underlying3 wx) trodAll_mk0), rfl, hb.frame _, fun h => by cases h⟩
theorem vmChecks_row : Rows.VmChecksSaid :=
  OpenClaim.holds_of_wide 3 Tryz.f3 rfl rfl rfl rfl rfl rfl rfl ⟨rfl, rfl, rfl, rfl, rfl⟩ rfl rfl rfl rfl rfl (by kernel_rfl) Tryz.func3 (by kernel_rfl)
    (of_decide_eq_true (by kernel_rfl)) (by unfold Func.isWrapper; first | (rw [if_pos (by decide +kernel)]; kernel_rfl) | (rw [if_neg (by decide +kernel)]; exact ⟨rfl, rfl⟩))
    (fun os started H enc _ => vmChecks_lifted os started H enc)
theorem vmChecks_holds : Rows.VmChecksCardSaid :=
  Claim7.holds_tied_plain_at .later [] _ _ _ _ vmChecks_row (fun _ h => by cases h) (by kernel_rfl) (fun _ h => by cases h) vmChecks_row_tie rfl ⟨rfl, rfl⟩ (by kernel_rfl) rfl
    (fun f fn hf hfn => by
      obtain rfl : f = 3 := Option.some.inj ((show Tryz.prog.funcNamed "aumbry/aumbrylaw25.VmChecks" = some 3 by kernel_rfl).symm.trans hf) |>.symm
      obtain rfl : fn = Tryz.f3 := (Option.some.inj (Tryz.func3.symm.trans hfn)).symm
      exact ⟨by kernel_rfl, fun j t ht => by
        rw [Tryz.params3] at ht
        have hm : t ∈ [25, 3] := by simpa using Array.mem_of_getElem? ht
        have hall : ([25, 3].all fun u => !Tryz.prog.wantsStandIn u) = true := by kernel_rfl
        exact (show Tryz.prog.wantsStandIn t = false by simpa using List.all_eq_true.1 hall t hm)⟩)
    (by kernel_rfl)
#print axioms vmChecks_holds
end Go.Proofs.YtllpjpgpanjbiaaGreatDoor
