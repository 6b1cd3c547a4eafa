/- A verified symbolic executor of the model's code, second part: code, loops over functions, ranges over maps, the compiling of operations. No conditions of its own. -/
import Derived.Test.YtaegmbilkodhpaaGreatDoorEngA
import Derived.MapKept
import Derived.Carry
import Derived.Laws.BytesString
import Derived.Laws.BytesArg
import Derived.Lib.ConvBytes
import Derived.OrdersIn
import Derived.TacticsIn
import Derived.RangeFuncRecord
import Derived.Maps.RangeRun
import Derived.Laws.IdiomRangeMap
set_option linter.unusedVariables false
namespace Go.Eng
open Go.RowKit
section
variable {P : Program} {K : Ctx} {σ : Env} {own : Owns} {w : World} {s s' : St} {ρ : Operand → Value} {o : Oper} {h : AHeap}
variable {dst : Option Tmp} {ty : TypeId} {pos : String} {af : Array Edge} {gd : Option (Nat × Bool)} {call : Caller}
variable {x y : Operand} {X Y : Opd} {t t' u : TypeId}
theorem HR.drew (H : HR K σ own h w) : HR K σ own h w.drew :=
  ⟨H.fresh, fun b l hl => ObjR.frame (w := w) (w' := w.drew) (Env.le.refl σ) rfl rfl (Nat.le_refl _) (H.obj b l hl), H.grp, H.below.drew, H.base, H.owned, H.off⟩
theorem Env.add_same' {σ : Env} {p q : Pos} {l : Loc} (h : p = q) : (σ.add q l) p = some l := by subst h; exact Env.add_same _ _ _
theorem allCell_mem : ∀ {l : List AV}, allCell l = true → ∀ x ∈ l, x.isCell = true
  | [], _, x, hx => by cases hx
  | y :: l, h, x, hx => by
    obtain ⟨h1, h2⟩ : y.isCell = true ∧ allCell l = true := by
      have h' : ifb y.isCell (allCell l) false = true := h
      cases hy : y.isCell with
      | false => rw [hy] at h'; cases h'
      | true => rw [hy] at h'; exact ⟨rfl, h'⟩
    rcases List.mem_cons.1 hx with e | e
    · subst e; exact h1
    · exact allCell_mem h2 x e
theorem oneCell_of {v : Value} (h1 : ∀ c, v ≠ .agg c) (h2 : ∀ c, v ≠ .tuple c) : v.oneCell' = true := by
  cases v <;> first | rfl | exact absurd rfl (h1 _) | exact absurd rfl (h2 _)
theorem VRs.oneCell {l : List AV} : ∀ {m : List Value}, VRs K σ l m → (∀ x ∈ l, x.isCell = true) → ∀ v ∈ m, v.oneCell' = true := by
  induction l with
  | nil => intro m h _ v hv; simp only [VRs] at h; subst h; cases hv
  | cons x l ih =>
    intro m h hc v hv
    obtain ⟨y, ys, rfl, hx, hs⟩ := h
    rcases List.mem_cons.1 hv with e | e
    · subst e
      obtain ⟨n1, n2⟩ := hx.isCell (hc x List.mem_cons_self)
      exact oneCell_of n1 n2
    · exact ih hs (fun z hz => hc z (List.mem_cons_of_mem _ hz)) v e
theorem setCells_heap (b : Nat) : ∀ (vs : List Value) (o : Nat) (w : World) (k : Nat), k ≠ b → (w.setCells b o vs).heap[k]? = w.heap[k]?
  | [], _, _, _, _ => rfl
  | v :: vs, o, w, k, h => by
    rw [World.setCells, setCells_heap b vs _ _ k h, Below.heap_setCell _ _ _ _ h]
theorem NoFr.setCells {B : Nat} (b : Nat) : ∀ (vs : List Value) (o : Nat) (w : World), NoFr w B → NoFr (w.setCells b o vs) B
  | [], _, _, h => h
  | v :: vs, o, w, h => NoFr.setCells b vs (o + 1) _ (h.setCell _ _)
theorem setCells_size (b : Nat) : ∀ (vs : List Value) (o : Nat) (w : World), (w.setCells b o vs).heap.size = w.heap.size
  | [], _, _ => rfl
  | v :: vs, o, w => by rw [World.setCells, setCells_size b vs]; simp
theorem setCells_below {B : Nat} {w0 : World} (b : Nat) (hb : B ≤ b) : ∀ (vs : List Value) (o : Nat) (w : World), Below B w0 w → Below B w0 (w.setCells b o vs)
  | [], _, _, h => h
  | v :: vs, o, w, h => setCells_below b hb vs _ _ (h.setCell hb v)
theorem HR.alone (H : HR K σ own h w) {b : Pos} {g : Option Pos} {r : Row} (hg : h.get b = some (.cells g false r)) :
    HR K σ own (h.alone b g) w ∧ (h.alone b g).get b = some (.cells g false r) ∧ Sole (h.alone b g) b g ∧ (h.alone b g).next = h.next := by
  cases g with
  | none => exact ⟨H, hg, Sole.none _ _, rfl⟩
  | some p => exact ⟨H.lone b p, by show (h.lone b p).get b = _; rw [AHeap.get_lone, if_neg (by simp)]; exact hg, AHeap.lone_sole H b p, rfl⟩
theorem append_any {b : Pos} {loc : Loc} (H : HR K σ own s.heap w) (hb : σ b = some loc) {g : Option Pos} {r : Row} (hg : s.heap.get b = some (.cells g false r))
    {e : TypeId} {i : TypeInfo} {z : Value} (hzs : z.cells.size = i.size) (h0 : i.size ≠ 0)
    {off len n : Nat} {v : Value} {cs : Array Value} {l pre old : List AV} (S : AppRun P t u ty e i z w v n cs) (hl : VRs K σ l cs.toList) (hn : l.length = n * i.size)
    (hpre : r.cut off (len * i.size) = some pre) (hold : r.cut 0 (off + len * i.size) = some old) (hbig : len + n ≤ 1048576) (hcell : allCell l = true) (hn0 : 0 < len + n) {r0 r1 : Row} (hR0 : RowOf r0 old) (hR1 : RowOf r1 (appL pre l))
    (hx : ρ x = .slice (some ⟨loc.B, loc.o + off, none⟩) len ((loc.C - off) / i.size)) (hy : ρ y = v)
    (hs : setDH (dP dst) (.slice s.heap.next 0 (len + n) i.size) s ((s.heap.alone b g).beside b g r0 r1) = .ok s') :
    Res P K σ own ⟨dst, .call ⟨.builtin .append, #[x, y], #[t, u]⟩, ty, pos, af, gd⟩ ρ w s s' := by
  obtain ⟨s1, s2⟩ := setDH_ok hs
  obtain ⟨H1, hg1, hS, hnx⟩ := H.alone hg
  have R := H.row hb hg
  have hO := H.obj b loc hb
  rw [hg] at hO
  obtain ⟨-, O2, O3, -⟩ := hO
  obtain ⟨O4, O5⟩ := O3 rfl
  obtain ⟨p1, p2, p3⟩ := Row.cut_spec R.wf hpre
  obtain ⟨q1, q2, q3⟩ := Row.cut_spec R.wf hold
  have hfit : off + len * i.size ≤ loc.C := by
    have := R.cap
    rcases q2 with q2 | q2 <;> omega
  obtain ⟨m1, m2, m3⟩ := hR0
  obtain ⟨n1, n2, n3⟩ := hR1
  have hsz : (appL pre l).length = (len + n) * i.size := by rw [appL_eq, List.length_append, p1, hn, Nat.add_mul]
  have hcsl : cs.toList.length = n * i.size := by rw [hl.length, hn]
  have hcss : cs.size = n * i.size := by simpa using hcsl
  have hget : ∀ j, j < off + len * i.size → ∀ xv, old[j]? = some xv → ∃ vc, w.cell? ⟨loc.B, loc.o + j, none⟩ = some vc ∧ VR K σ xv vc := fun j hj xv hxv => by
    rw [q3 j hj, Nat.zero_add] at hxv
    exact R.val j xv hxv
  have happ : ∀ j xv, (appL pre l)[j]? = some xv → (j < len * i.size ∧ ∃ vc, w.cell? ⟨loc.B, loc.o + off + j, none⟩ = some vc ∧ VR K σ xv vc) ∨
      (len * i.size ≤ j ∧ j - len * i.size < n * i.size ∧ ∃ vc, cs.toList[j - len * i.size]? = some vc ∧ VR K σ xv vc) := fun j xv hxv => by
    rw [appL_eq] at hxv
    by_cases hj : j < len * i.size
    · left
      rw [List.getElem?_append_left (by rw [p1]; exact hj), p3 j hj] at hxv
      obtain ⟨vc, c1, c2⟩ := R.val _ _ hxv
      exact ⟨hj, vc, by rw [Nat.add_assoc]; exact c1, c2⟩
    · right
      rw [List.getElem?_append_right (by rw [p1]; omega), p1] at hxv
      have hlt := (List.getElem?_eq_some_iff.1 hxv).1
      exact ⟨by omega, by rw [← hn]; exact hlt, hl.get hxv⟩
  by_cases hroom : len + n ≤ (loc.C - off) / i.size
  · -- there is room
    have hC : off + (len + n) * i.size ≤ loc.C := by
      have := (Nat.le_div_iff_mul_le (Nat.pos_of_ne_zero h0)).1 hroom
      by_cases hc : off ≤ loc.C
      · omega
      · have : (loc.C - off) = 0 := by omega
        rw [this] at hroom; simp at hroom; omega
    rw [Nat.add_mul] at hC
    let w' := w.setCells loc.B (loc.o + off + len * i.size) cs.toList
    have hst : (storeCells ((⟨loc.B, loc.o + off, none⟩ : Addr).add (len * i.size)) cs.toList).run P w = .ok () w' := by
      have := run_storeCells_cells (P := P) loc.B (loc.o + off + len * i.size) cs.toList 0 w (fun j hj => by
        obtain ⟨vc, hvc⟩ := R.cell (off + len * i.size + j) (by omega)
        rw [show loc.o + off + len * i.size + 0 + j = loc.o + (off + len * i.size + j) by omega, hvc]; rfl) (fun j hj => by
        rw [show loc.o + off + len * i.size + 0 + j = loc.o + (off + len * i.size + j) by omega]
        obtain ⟨vc, hvc⟩ := R.cell (off + len * i.size + j) (by omega)
        exact O5.frozen hvc) (hl.oneCell (allCell_mem hcell))
      rw [add_none]; exact this
    have hrun := S.isIn (a := ⟨loc.B, loc.o + off, none⟩) hroom hst
    have hcell' : ∀ k, k < loc.C → ∃ vc, w'.cell? ⟨loc.B, loc.o + k, none⟩ = some vc := fun k hk => by
      by_cases hin : off + len * i.size ≤ k ∧ k < off + len * i.size + n * i.size
      · have := World.cell?_setCells_in loc.B cs.toList (loc.o + off + len * i.size) w (fun j hj => by
          obtain ⟨vc, hvc⟩ := R.cell (off + len * i.size + j) (by omega)
          rw [show loc.o + off + len * i.size + j = loc.o + (off + len * i.size + j) by omega, hvc]; rfl) (k - (off + len * i.size)) (by omega)
        exact ⟨_, by rw [show loc.o + k = loc.o + off + len * i.size + (k - (off + len * i.size)) by omega]; exact this⟩
      · obtain ⟨vc, hvc⟩ := R.cell k hk
        exact ⟨vc, by rw [World.cell?_setCells_out _ _ _ _ _ (fun _ _ => by simp only; omega)]; exact hvc⟩
    have hout : ∀ k, k < off + len * i.size → w'.cell? ⟨loc.B, loc.o + k, none⟩ = w.cell? ⟨loc.B, loc.o + k, none⟩ := fun k hk =>
      World.cell?_setCells_out _ _ _ _ _ (fun _ _ => by simp only; omega)
    have hle : σ.le (σ.add (s.heap.alone b g).next ⟨loc.B, loc.o + off, loc.C - off⟩) := Env.le_add _ (H1.fresh _ (Nat.le_refl _))
    have hH := H1.beside hb hg1 (r0 := r0) (r' := r1) (loc' := ⟨loc.B, loc.o + off, loc.C - off⟩) (w' := w') (own' := own.put loc.B (true, gOf (s.heap.alone b g) g)) (.inl hS)
      (setCells_below _ (H.owned _ _ O4).1 _ _ _ H.below) (by rw [setCells_size]; exact Nat.le_refl _) (fun B hB _ => setCells_heap _ _ _ _ _ hB) (fun B hB _ => Owns.put_other _ _ hB)
      (fun B tt hB => by
        rw [setCells_size]
        by_cases e : B = loc.B
        · rw [e]; exact H.owned _ _ O4
        · rw [Owns.put_other _ _ e] at hB; exact H.owned _ _ hB) (Owns.put_same _ _ _) (Owns.put_same _ _ _)
      ⟨m1, by rw [m2, q1]; exact hfit, hcell', fun j xv hxv => by
        rw [m3] at hxv
        have hj : j < off + len * i.size := by rw [← q1]; exact (List.getElem?_eq_some_iff.1 hxv).1
        obtain ⟨vc, c1, c2⟩ := hget j hj xv hxv
        exact ⟨vc, by rw [hout j hj]; exact c1, c2⟩⟩
      (NoFr.setCells _ _ _ _ O5)
      ⟨n1, by rw [n2, hsz, Nat.add_mul]; simp only; omega, fun j hj => by
        obtain ⟨vc, hvc⟩ := hcell' (off + j) (by simp only at hj; omega)
        exact ⟨vc, by simp only; rw [Nat.add_assoc]; exact hvc⟩, fun j xv hxv => by
        rw [n3] at hxv
        rcases happ j xv hxv with ⟨h1, vc, h2, h3⟩ | ⟨h1, h1', vc, h2, h3⟩
        · refine ⟨vc, ?_, h3.mono hle⟩
          simp only
          rw [Nat.add_assoc, hout (off + j) (by omega), ← Nat.add_assoc]; exact h2
        · refine ⟨vc, ?_, h3.mono hle⟩
          have := World.cell?_setCells_in loc.B cs.toList (loc.o + off + len * i.size) w (fun j hj => by
            obtain ⟨vc, hvc⟩ := R.cell (off + len * i.size + j) (by omega)
            rw [show loc.o + off + len * i.size + j = loc.o + (off + len * i.size + j) by omega, hvc]; rfl) (j - len * i.size) (by omega)
          simp only
          rw [show loc.o + off + j = loc.o + off + len * i.size + (j - len * i.size) by omega, this]
          rw [List.getElem?_eq_getElem (by omega)] at h2
          exact h2⟩
      (NoFr.setCells _ _ _ _ O5) (by rw [setCells_size]; exact O2)
    refine ⟨.slice s.heap.next 0 (len + n) i.size, .slice (some ⟨loc.B, loc.o + off, none⟩) (len + n) ((loc.C - off) / i.size), _, _, w', .inl ?_, ⟨⟨loc.B, loc.o + off, loc.C - off⟩, Env.add_same' hnx.symm, by simp⟩, ?_, by rw [s2]; exact hH, s1⟩
    · simp [execOp, resolve, invoke, builtin, hx, hy, hrun]
    · rw [s2]
      have := Grow.add (h := s.heap.alone b g) (h' := (s.heap.alone b g).beside b g r0 r1) ⟨loc.B, loc.o + off, loc.C - off⟩ (H1.fresh _ (Nat.le_refl _)) (AHeap.next_beside _ _ _ _ _)
      exact ⟨this.le, fun c hc => this.keep c (by rw [hnx]; exact hc), by rw [← hnx]; exact this.next⟩
  · -- there is none: a new block
    obtain ⟨vs, v1, v2, v3⟩ := H.cut hb hg hpre
    have hfc : (Builtin.firstCells i.size len (.slice (some ⟨loc.B, loc.o + off, none⟩) len ((loc.C - off) / i.size))).run P w.drew = .ok vs.toArray w.drew := by
      have := run_loadCells_list (P := P) w.drew ⟨loc.B, loc.o + off, none⟩ vs (fun j u hj => v3 j u hj)
      rw [v1] at this
      exact this
    have hrun := S.isOut (base := some ⟨loc.B, loc.o + off, none⟩) (sLen := len) (sCap := (loc.C - off) / i.size) (by omega) hfc hbig
    have hge := grownCap_ge w (len + n) ((loc.C - off) / i.size) e
    generalize grownCap w (len + n) ((loc.C - off) / i.size) e = cap at hrun hge
    let C := vs.toArray ++ cs ++ Builtin.zeroCells z.cells (cap - (len + n))
    have hCs : C.size = cap * i.size := by
      simp only [C, Array.size_append, List.size_toArray, v1, hcss, size_zeroCells, hzs, ← Nat.add_mul]
      congr 1; omega
    let w' := w.drew.alloc (.cells C e)
    have hle : σ.le (σ.add (s.heap.alone b g).next ⟨w.heap.size, 0, C.size⟩) := Env.le_add _ (H1.fresh _ (Nat.le_refl _))
    have hneB : w.heap.size ≠ loc.B := by omega
    have hH := H1.beside hb hg1 (r0 := r0) (r' := r1) (loc' := ⟨w.heap.size, 0, C.size⟩) (w' := w') (own' := (own.put loc.B (true, gOf (s.heap.alone b g) g)).put w.heap.size (true, gOf (s.heap.alone b g) g)) (.inl hS)
      (H.drew.below.alloc H.drew.base _) (by simp [w']) (fun B hB hlt => Below.heap_alloc _ _ _ hlt) (fun B hB hlt => by rw [Owns.put_other _ _ (by omega), Owns.put_other _ _ hB])
      (fun B tt hB => by
        by_cases e1 : B = w.heap.size
        · rw [e1]; exact ⟨H.base, by simp [w']⟩
        · rw [Owns.put_other _ _ e1] at hB
          by_cases e2 : B = loc.B
          · rw [e2]; exact ⟨(H.owned _ _ O4).1, by have := (H.owned _ _ O4).2; simp [w']; omega⟩
          · rw [Owns.put_other _ _ e2] at hB
            have := H.owned _ _ hB
            exact ⟨this.1, by simp [w']; omega⟩) (by rw [Owns.put_other _ _ (Ne.symm hneB), Owns.put_same]) (Owns.put_same _ _ _)
      (by
        have : RowR K σ w loc r0 := ⟨m1, by rw [m2, q1]; exact hfit, R.cell, fun j xv hxv => by
          rw [m3] at hxv
          have hj : j < off + len * i.size := by rw [← q1]; exact (List.getElem?_eq_some_iff.1 hxv).1
          exact hget j hj xv hxv⟩
        exact RowR.frame (w := w) (w' := w') (Below.heap_alloc w.drew _ _ O2) this)
      (O5.of_block (w := w) (Below.heap_alloc w.drew _ _ O2))
      ⟨n1, by rw [n2, hsz]; simp only [hCs]; exact Nat.mul_le_mul_right _ hge, fun j hj => by
        simp only [Nat.zero_add]
        exact ⟨C[j], by rw [show w' = w.drew.alloc (.cells C e) from rfl, show w.heap.size = w.drew.heap.size from rfl, World.cell?_alloc_new]; exact Array.getElem?_eq_getElem hj⟩, fun j xv hxv => by
        rw [n3] at hxv
        simp only [Nat.zero_add]
        have hc : ∀ vc, C[j]? = some vc → w'.cell? ⟨w.heap.size, j, none⟩ = some vc := fun vc h => by
          rw [show w' = w.drew.alloc (.cells C e) from rfl, show w.heap.size = w.drew.heap.size from rfl, World.cell?_alloc_new]; exact h
        rcases happ j xv hxv with ⟨h1, vc, h2, h3⟩ | ⟨h1, h1', vc, h2, h3⟩
        · have hj2 : j < vs.length := by omega
          have := v3 j vs[j] (List.getElem?_eq_getElem hj2)
          rw [add_none, h2] at this
          cases this
          refine ⟨_, hc _ ?_, h3.mono hle⟩
          simp only [C]
          rw [Array.append_assoc, Array.getElem?_append_left (by simpa using hj2)]
          simp
        · refine ⟨vc, hc _ ?_, h3.mono hle⟩
          simp only [C]
          rw [Array.append_assoc, Array.getElem?_append_right (by simp [v1]; omega), Array.getElem?_append_left (by simp [v1, hcss]; omega)]
          simp only [List.size_toArray, v1]
          rw [← Array.getElem?_toList]; exact h2⟩
      (NoFr.alloc_new w.drew C e) (by simp [w'])
    refine ⟨.slice s.heap.next 0 (len + n) i.size, .slice (some ⟨w.heap.size, 0, none⟩) (len + n) cap, _, _, w', .inl ?_, ⟨⟨w.heap.size, 0, C.size⟩, Env.add_same' hnx.symm, ?_⟩, ?_, by rw [s2]; exact hH, s1⟩
    · simp [execOp, resolve, invoke, builtin, hx, hy, hrun, w', C]
    · simp only [hCs, Nat.add_zero, Nat.sub_zero, Nat.mul_div_cancel _ (Nat.pos_of_ne_zero h0)]
    · rw [s2]
      have := Grow.add (h := s.heap.alone b g) (h' := (s.heap.alone b g).beside b g r0 r1) ⟨w.heap.size, 0, C.size⟩ (H1.fresh _ (Nat.le_refl _)) (AHeap.next_beside _ _ _ _ _)
      exact ⟨this.le, fun c hc => this.keep c (by rw [hnx]; exact hc), by rw [← hnx]; exact this.next⟩
end
end Go.Eng
namespace Go.Eng
open Go.RowKit
section
variable {P : Program} {K : Ctx} {σ : Env} {own : Owns} {w : World} {s s' : St} {ρ : Operand → Value} {o : Oper}
variable {dst : Option Tmp} {ty : TypeId} {pos : String} {af : Array Edge} {gd : Option (Nat × Bool)} {call : Caller}
variable {x y : Operand} {X Y : Opd} {t t' u : TypeId}
theorem ifb_false' {α : Type} (a b : α) : ifb false a b = b := rfl
theorem ifb_true' {α : Type} (a b : α) : ifb true a b = a := rfl
theorem Res.grown (H : HR K σ own s.heap w) {l : List AV} {c : Array Value} {e : TypeId} {v : AV} {vc : Value} (hr : (execOp ρ o).run P w = .ok (.value vc) (w.drew.alloc (.cells c e)))
    (hc : l.length ≤ c.size) (hv : ∀ (i : Nat) (x : AV), l[i]? = some x → ∃ v, c[i]? = some v ∧ VR K σ x v)
    (hvc : VR K (σ.add s.heap.next ⟨w.heap.size, 0, c.size⟩) v vc)
    (hs : setDH (dP o.dst) v s (s.heap.new (.cells none false (mkRow l))) = .ok s') : Res P K σ own o ρ w s s' := by
  obtain ⟨h1, h2⟩ := setDH_ok hs
  refine ⟨v, vc, _, _, _, .inl hr, hvc, ?_, by rw [h2]; exact H.drew.newRow l c e hc hv, h1⟩
  rw [h2]
  exact Grow.add _ (H.fresh _ (Nat.le_refl _)) rfl
structure AppTy (P : Program) (t u e : TypeId) (i : TypeInfo) (z : Value) : Prop where
  under : P.underlying t = some (.slice e)
  src : IsSrc P u
  info : P.info? e = some i
  zero : i.zero = some z
  zsize : z.cells.size = i.size
  ne : i.size ≠ 0
  bytes : i.bytes ≤ 16777216
theorem append_new (H : HR K σ own s.heap w) {e : TypeId} {i : TypeInfo} {z : Value} (T : AppTy P t u e i z) {base : Option Addr} {n : Nat} {v : Value} {cs : Array Value} {l : List AV}
    (S : SrcOK P w i.size v n n cs) (hl : VRs K σ l cs.toList) (hn : l.length = n * i.size) (hbig : n ≤ 1048576) (hn0 : 0 < n)
    (hold : (Builtin.firstCells i.size 0 (.slice base 0 0)).run P w.drew = .ok #[] w.drew)
    (hx : ρ x = .slice base 0 0) (hy : ρ y = v)
    (hs : setDH (dP dst) (.slice s.heap.next 0 n i.size) s (s.heap.new (.cells none false (mkRow l))) = .ok s') :
    Res P K σ own ⟨dst, .call ⟨.builtin .append, #[x, y], #[t, u]⟩, ty, pos, af, gd⟩ ρ w s s' := by
  have hrun := run_append_out (P := P) (ty := ty) T.under T.src T.info T.zero (base := base) (sLen := 0) (sCap := 0) S (by omega) hold (by omega) T.bytes
  have hge := grownCap_ge w (0 + n) 0 e
  rw [Nat.zero_add] at hrun hge
  generalize grownCap w n 0 e = cap at hrun hge
  obtain ⟨r1, r2⟩ := hl.row
  have hcss : cs.size = n * i.size := by rw [← r1, hn]
  refine Res.grown H (o := ⟨dst, .call ⟨.builtin .append, #[x, y], #[t, u]⟩, ty, pos, af, gd⟩) (l := l) (vc := .slice (some ⟨w.heap.size, 0, none⟩) n cap) (c := #[] ++ cs ++ Builtin.zeroCells z.cells (cap - n)) (e := e) ?_ ?_ ?_ ?_ hs
  · simp [execOp, resolve, invoke, builtin, hx, hy, hrun]
  · simp [r1]
  · intro j xv hxv
    obtain ⟨vc, h1, h2⟩ := r2 j xv hxv
    refine ⟨vc, ?_, h2⟩
    have hlt : j < cs.size := (Array.getElem?_eq_some_iff.1 h1).1
    rw [Array.empty_append, Array.getElem?_append_left hlt]; exact h1
  · have hsz : (#[] ++ cs ++ Builtin.zeroCells z.cells (cap - n)).size = cap * i.size := by
      simp only [Array.size_append, List.size_toArray, List.length_nil, hcss, size_zeroCells, T.zsize, Nat.zero_add]
      rw [← Nat.add_mul]
      congr 1; omega
    have : VR K (σ.add s.heap.next ⟨w.heap.size, 0, (#[] ++ cs ++ Builtin.zeroCells z.cells (cap - n)).size⟩) (.slice s.heap.next 0 n i.size) (.slice (some ⟨w.heap.size, 0, none⟩) n ((#[] ++ cs ++ Builtin.zeroCells z.cells (cap - n)).size / i.size)) := VR.newSlice
    rw [hsz, Nat.mul_div_cancel _ (Nat.pos_of_ne_zero T.ne), ← hsz] at this
    exact this
theorem appendVal_ok (H : HR K σ own s.heap w) {e : TypeId} {i : TypeInfo} {z : Value} (T : AppTy P t u e i z) {n : Nat} {v : Value} {cs : Array Value} {l : List AV}
    (hx : VR K σ (X.ev s.tmps) (ρ x)) (hy : ρ y = v) (S : SrcOK P w i.size v n n cs) (hl : VRs K σ l cs.toList) (hn : l.length = n * i.size)
    (h : appendVal i.size (X.ev s.tmps) (dP dst) s n l = .ok s') :
    Res P K σ own ⟨dst, .call ⟨.builtin .append, #[x, y], #[t, u]⟩, ty, pos, af, gd⟩ ρ w s s' := by
  unfold appendVal at h
  rcases onSlice_ok h with ⟨e1, h⟩ | ⟨b, off, len, sz, e1, h⟩
  · rw [e1] at hx
    have hx' : ρ x = .slice none 0 0 := hx
    cases hb : Nat.beq n 0 with
    | true =>
      rw [hb] at h
      have := Nat.eq_of_beq_eq_true hb
      subst this
      have hcs : cs = #[] := by
        have h2 := hl.length
        rw [hn] at h2
        have : cs.size = 0 := by simpa using h2
        exact Array.eq_empty_of_size_eq_zero this
      refine Res.pure H (v := .nilSlice) (vc := .slice none 0 0) ?_ rfl h
      have h1 := S.len w
      have h2 := S.cells w rfl
      rw [hcs] at h2
      have : (Builtin.append_ #[t, u] ty #[.slice none 0 0, v]).run P w = .ok (.slice none 0 0) w := by
        rcases T.src with ⟨e', hu⟩ | hu
        · simp [Builtin.append_, run_underlying T.under, run_underlying hu, run_sizeOf T.info, h1, h2]
        · simp [Builtin.append_, run_underlying T.under, run_underlying hu, run_sizeOf T.info, h1, h2]
      simp [execOp, resolve, invoke, builtin, hx', hy, this]
    | false =>
      rw [hb] at h
      obtain ⟨h1, h2⟩ := ifb_ok h
      refine append_new H T S hl hn (Nat.le_of_ble_eq_true h1) (Nat.pos_of_ne_zero fun e => by subst e; cases hb) ?_ hx' hy h2
      simp [Builtin.firstCells]
  · obtain ⟨hsz, h5⟩ := ifb_ok h
    have := Nat.eq_of_beq_eq_true hsz; subst this
    rw [e1] at hx
    obtain ⟨loc, hl0, hp⟩ := hx
    unfold appendTo at h5
    clear h
    obtain ⟨g, ro, r, hg, h⟩ := onRow_ok h5
    have R := H.row hl0 hg
    have hO := H.obj b loc hl0
    rw [hg] at hO
    have hpos := Nat.pos_of_ne_zero T.ne
    cases hfit : Nat.ble (Nat.add off (Nat.mul (Nat.add len n) i.size)) r.size with
    | true =>
      rw [hfit] at h
      have hfit' : off + (len + n) * i.size ≤ r.size := Nat.le_of_ble_eq_true hfit
      have hcap := R.cap
      have hroom : len + n ≤ (loc.C - off) / i.size := (Nat.le_div_iff_mul_le hpos).2 (by omega)
      cases hb : Nat.beq n 0 with
      | true =>
        rw [hb] at h
        have := Nat.eq_of_beq_eq_true hb
        subst this
        have hcs : cs = #[] := by
          have h2 := hl.length
          rw [hn] at h2
          have : cs.size = 0 := by simpa using h2
          exact Array.eq_empty_of_size_eq_zero this
        subst hcs
        have hrun := run_append_in (P := P) (ty := ty) (w' := w) T.under T.src T.info (a := ⟨loc.B, loc.o + off, none⟩) S hroom (by simp [storeCells])
        refine Res.pure H (v := .slice b off len i.size) (vc := .slice (some ⟨loc.B, loc.o + off, none⟩) len ((loc.C - off) / i.size)) ?_ ⟨loc, hl0, rfl⟩ h
        simp [execOp, resolve, invoke, builtin, hp, hy, hrun]
      | false =>
        rw [hb] at h
        obtain ⟨h', h3, h4⟩ := onSome_ok h
        obtain ⟨w', i1, i2, i3⟩ := H.storeN (P := P) hl0 hl h3
        have hrun := run_append_in (P := P) (ty := ty) (w' := w') T.under T.src T.info (a := ⟨loc.B, loc.o + off, none⟩) S hroom (by rw [add_none, Nat.add_assoc]; exact i1)
        refine Res.heap (w' := w') (v := .slice b off (len + n) i.size) (vc := .slice (some ⟨loc.B, loc.o + off, none⟩) (len + n) ((loc.C - off) / i.size)) (.inl ?_) ⟨loc, hl0, rfl⟩ i2 i3 h4
        simp [execOp, resolve, invoke, builtin, hp, hy, hrun]
    | false =>
      rw [hfit] at h
      have hfit' : ¬ off + (len + n) * i.size ≤ r.size := fun hh => by
        have := Nat.ble_eq_true_of_le hh
        rw [show Nat.add off (Nat.mul (Nat.add len n) i.size) = off + (len + n) * i.size from rfl, this] at hfit
        cases hfit
      rw [ifb_false'] at h
      obtain ⟨pre, hpre, h⟩ := onSome_ok h
      obtain ⟨hbig, h⟩ := ifb_ok h
      obtain ⟨hcell, h⟩ := ifb_ok h
      have hbig' : len + n ≤ 1048576 := Nat.le_of_ble_eq_true hbig
      cases ro with
      | true =>
        rw [ifb_true'] at h
        obtain ⟨hr0, h⟩ := ifb_ok h
        obtain ⟨hl0', h⟩ := ifb_ok h
        have hr0 := Nat.eq_of_beq_eq_true hr0
        have hol : off + len = 0 := Nat.eq_of_beq_eq_true hl0'
        have hoff : off = 0 := by omega
        have hlen : len = 0 := by omega
        subst hoff; subst hlen
        have hC : loc.C = 0 := (hO.2.2.2 rfl).2 hr0
        have hn0 : 0 < n := Nat.pos_of_ne_zero fun e => by subst e; exact hfit' (by simp)
        refine append_new H T S hl hn (by omega) hn0 (base := some ⟨loc.B, loc.o + 0, none⟩) ?_ (by rw [hp, hC]; simp) hy h
        simp [Builtin.firstCells, loadCells]; rfl
      | false =>
        rw [ifb_false'] at h
        obtain ⟨r0, hup, h⟩ := onSome_ok h
        obtain ⟨r1, hwi, h⟩ := onSome_ok h
        obtain ⟨old, hold, hR0⟩ := Row.upTo_spec R.wf hup
        obtain ⟨pre', hpre', hR1⟩ := Row.withL_spec R.wf hwi
        obtain rfl : pre' = pre := Option.some.inj (hpre'.symm.trans hpre)
        refine append_any H hl0 hg T.zsize T.ne (AppRun.of T.under T.src T.info T.zero S T.bytes) hl hn hpre hold hbig' hcell ?_ hR0 hR1 hp hy h
        obtain ⟨q1, q2, q3⟩ := Row.cut_spec R.wf hold
        rcases Nat.eq_zero_or_pos (len + n) with h0 | h0
        · exfalso
          have e1 : len = 0 := by omega
          have e2 : n = 0 := by omega
          subst e1; subst e2
          simp only [Nat.zero_mul, Nat.add_zero] at hfit' q2
          rcases q2 with q2 | q2
          · rw [show Nat.mul 0 i.size = 0 from Nat.zero_mul _] at q2; simp at q2; omega
          · rw [show Nat.mul 0 i.size = 0 from Nat.zero_mul _] at q2; simp at q2; omega
        · exact h0
theorem ok_append (H : HR K σ own s.heap w) {e : TypeId} {i : TypeInfo} {z : Value} (T : AppTy P t u e i z)
    (hx : VR K σ (X.ev s.tmps) (ρ x)) (hy : VR K σ (Y.ev s.tmps) (ρ y)) (h : rAppend i.size X Y (dP dst) call s = .ok s') :
    Res P K σ own ⟨dst, .call ⟨.builtin .append, #[x, y], #[t, u]⟩, ty, pos, af, gd⟩ ρ w s s' := by
  obtain ⟨⟨n, l⟩, h1, h2⟩ := onSome_ok h
  obtain ⟨n', cs, S, hl, hn, e1⟩ := srcL_spec H hy rfl h1
  subst e1
  exact appendVal_ok H T hx rfl S hl hn h2
theorem ok_appendS (H : HR K σ own s.heap w) {e : TypeId} {i : TypeInfo} {z : Value} (T : AppTy P t u e i z) (h1 : i.size = 1)
    (hx : VR K σ (X.ev s.tmps) (ρ x)) (hy : VR K σ (Y.ev s.tmps) (ρ y)) (h : rAppendS X Y (dP dst) call s = .ok s') :
    Res P K σ own ⟨dst, .call ⟨.builtin .append, #[x, y], #[t, u]⟩, ty, pos, af, gd⟩ ρ w s s' := by
  obtain ⟨⟨n, l⟩, h2, h3⟩ := onSome_ok h
  obtain ⟨n', cs, S, hl, hn, e1⟩ := srcS_spec (w := w) (P := P) hy (fun _ => Nat.le_refl _) h2
  subst e1
  exact appendVal_ok H T hx rfl (by rw [h1]; exact S) hl (by rw [h1]; exact hn) (by rw [h1]; exact h3)
end
end Go.Eng
set_option linter.unusedSimpArgs false
namespace Go.Eng
open Go.RowKit Go.MapKept
section
variable {P : Program} {K : Ctx} {σ : Env} {own : Owns} {w : World} {s s' : St} {ρ : Operand → Value} {o : Oper} {h : AHeap}
variable {dst : Option Tmp} {ty : TypeId} {pos : String} {af : Array Edge} {gd : Option (Nat × Bool)} {call : Caller}
variable {x y k : Operand} {X Y M : Opd} {t t' u : TypeId}
theorem HR.setBlock (H : HR K σ own h w) {b : Pos} {loc : Loc} (hb : σ b = some loc) (ho : own loc.B = some (false, b)) {O : Obj} {o' : AObj} (hg : ∀ g ro r, o' ≠ .cells g ro r)
    (hnew : ObjR K σ own { w with heap := w.heap.setIfInBounds loc.B O } b loc (some o')) :
    HR K σ own (h.setObj b o') { w with heap := w.heap.setIfInBounds loc.B O } := by
  have hBel := (H.owned _ _ ho)
  have hoth : ∀ r', r' ≠ loc.B → (w.heap.setIfInBounds loc.B O)[r']? = w.heap[r']? := fun r' hne => by simp [Ne.symm hne]
  refine ⟨H.fresh, fun c l hl => ?_, fun c p ro r2 hc => ?_, ?_, by simpa using H.base, fun B t hBt => by simpa using H.owned B t hBt, fun c l r2 hl hc => by
    rw [AHeap.get_setObj] at hc
    by_cases e : c = b
    · rw [if_pos e] at hc; exact absurd (Option.some.inj hc) (hg _ _ _)
    · rw [if_neg e] at hc
      exact H.off c l r2 hl hc⟩
  · rw [AHeap.get_setObj]
    by_cases e : c = b
    · subst e
      rw [if_pos rfl]
      rw [hb] at hl; cases hl
      exact hnew
    · rw [if_neg e]
      have hx := H.obj c l hl
      rcases hx.apart ho (fun g' ro r2 e1 e2 => by
        cases g' with
        | none => simp [tagOf]; exact e
        | some p => simp [tagOf]) (by simp; exact e) with (h0 | h0) | h0 | ⟨g2, r2, h0, hC⟩
      · rw [h0]; trivial
      · rw [h0]; trivial
      · exact hx.frame (Env.le.refl σ) (hoth _ h0) rfl (by simp)
      · rw [h0] at hx ⊢
        exact hx.none_room hC (by simp) σ
  · rw [AHeap.get_setObj] at hc
    by_cases e : c = b
    · subst e
      rw [if_pos rfl] at hc
      cases hc
      exact absurd rfl (hg _ _ _)
    · rw [if_neg e] at hc
      exact H.grp c p ro r2 hc
  · exact H.below.trans ⟨rfl, rfl, rfl, by simp, fun j hj => hoth j (by omega)⟩
def KeyF (kf : AV → Bool) (d : TypeDesc) : Prop := ∀ (K : Ctx) (σ : Env) (v : AV) (c : Value), kf v = true → VR K σ v c → IsKey d c
theorem keyI_ok {kd : IntKind} : KeyF (keyI kd) (.int kd) := fun K σ v c h hv => by
  cases v with
  | int k n => have : c = .int k n := hv; subst this; exact keq_iff h
  | _ => cases h
theorem keyS_ok : KeyF keyS .string := fun K σ v c h hv => by
  cases v with
  | str n d => obtain ⟨rfl, _⟩ := hv; trivial
  | _ => cases h
theorem keyB_ok : KeyF keyB .bool := fun K σ v c h hv => by
  cases v with
  | bool b => have : c = .bool b := hv; subst this; trivial
  | _ => cases h
theorem sameBits_of {d : TypeDesc} {c : Value} (h : IsKey d c) (n : Nat) : Instr.sameBits n c c = true := by
  have hb : ∀ s : ByteArray, (s == s) = true := fun s => (bytes_beq s s).2 rfl
  cases d <;> cases c <;> simp_all [IsKey] <;> cases n <;> simp [Instr.sameBits, hb]
theorem akey_spec {v v' : AV} {c c' : Value} (hv : VR K σ v c) (hv' : VR K σ v' c') {b : Bool} (h : akey v v' = some b) {d : TypeDesc} (hk : IsKey d c) :
    IsKey d c' ∧ Instr.sameNow d c c' = some b ∧ (b = true → c' = c) := by
  cases v with
  | int k n =>
    have : c = .int k n := hv; subst this
    cases v' with
    | int k' n' =>
      have : c' = .int k' n' := hv'; subst this
      obtain ⟨h1, h2⟩ := ifb_some (show ifb (keq k k') (some (ieq n n')) none = some b from h)
      have := keq_iff h1; subst this
      rw [ieq_eq] at h2
      cases h2
      cases d <;> simp_all [IsKey, Instr.sameNow]
      first | rfl | simp [Bool.eq_iff_iff]
    | _ => cases h
  | str m a =>
    obtain ⟨rfl, hm⟩ := hv
    cases v' with
    | str n b' =>
      obtain ⟨rfl, hn⟩ := hv'
      have h' : some (ifb (Nat.beq m n) (Nat.beq a b') false) = some b := h
      have e : (ifb (Nat.beq m n) (Nat.beq a b') false) = (bytesOf m a == bytesOf n b') := by
        show strEq m a n b' = _
        rw [strEq_eq _ _ _ _ hm hn, ← bytesOf_toList, ← bytesOf_toList]
        rw [Bool.eq_iff_iff, bytes_beq, beq_iff_eq]
        constructor
        · intro e
          rw [bytesOf_toList, bytesOf_toList] at e
          unfold bytesOf
          rw [e]
        · intro e; rw [e]
      rw [e] at h'
      cases h'
      cases d <;> simp_all [IsKey, Instr.sameNow, bytes_beq]
    | _ => cases h
  | bool a =>
    have : c = .bool a := hv; subst this
    cases v' with
    | bool a' =>
      have : c' = .bool a' := hv'; subst this
      cases a <;> cases a' <;> cases h <;> cases d <;> simp_all [IsKey, Instr.sameNow]
    | _ => cases a <;> cases h
  | agg xs =>
    obtain ⟨x, rfl, _⟩ := hv
    cases d <;> exact absurd hk (by simp [IsKey])
  | _ => cases h
structure KeyP (P : Program) (kt : TypeId) (d : TypeDesc) (kf : AV → Bool) : Prop where
  chk : ∀ (K : Ctx) (σ : Env) (v : AV) (c : Value), kf v = true → VR K σ v c → ∀ (e : Bool) (w : World), (Instr.checkKey e 10000 kt c).run P w = .ok () w
  eq : ∀ (K : Ctx) (σ : Env) (v v' : AV) (c c' : Value) (b : Bool), kf v = true → VR K σ v c → VR K σ v' c' → akey v v' = some b → (∀ w, (Op.equal kt c c').run P w = .ok b w) ∧ (Instr.sameNow d c c' = some b ∨ Instr.sameNow d c c' = none) ∧ (b = true → c' = c)
  same : ∀ (K : Ctx) (σ : Env) (v : AV) (c : Value), kf v = true → VR K σ v c → Instr.sameBits 10000 c c = true
theorem eqIn_int {P : Program} {kt : TypeId} {k k' : IntKind} {a b : Int} (n : Nat) (hd : P.underlying kt = some (.int k')) (w : World) : (Op.equalIn (n + 1) kt (.int k a) (.int k b)).run P w = .ok (a == b) w := by
  simp [Op.equalIn, run_underlying hd]
theorem eqIn_str {P : Program} {kt : TypeId} {a b : ByteArray} (n : Nat) (hd : P.underlying kt = some .string) (w : World) : (Op.equalIn (n + 1) kt (.string a) (.string b)).run P w = .ok (a == b) w := by
  simp [Op.equalIn, run_underlying hd]
theorem eqIn_bool {P : Program} {kt : TypeId} {a b : Bool} (n : Nat) (hd : P.underlying kt = some .bool) (w : World) : (Op.equalIn (n + 1) kt (.bool a) (.bool b)).run P w = .ok (a == b) w := by
  simp [Op.equalIn, run_underlying hd]
theorem run_equal_now {P : Program} {kt : TypeId} {d : TypeDesc} (hd : P.underlying kt = some d) {c c' : Value} {b : Bool} (h : Instr.sameNow d c c' = some b) (w : World) : (Op.equal kt c c').run P w = .ok b w := by
  unfold Instr.sameNow at h
  split at h
  · split at h
    · rename_i e
      subst e
      cases h
      exact eqIn_int 9999 hd w
    · cases h
  · cases h
    exact eqIn_str 9999 hd w
  · cases h
    exact eqIn_bool 9999 hd w
  · cases h
theorem KeyP.basic {P : Program} {kt : TypeId} {d : TypeDesc} {kf : AV → Bool} (hd : P.underlying kt = some d) (h : KeyF kf d) : KeyP P kt d kf := by
  refine ⟨fun K σ v c hv hc e w => run_checkKey hd (h K σ v c hv hc) e 9999, fun K σ v v' c c' b hv hc hc' hb => ?_, fun K σ v c hv hc => sameBits_of (h K σ v c hv hc) _⟩
  obtain ⟨_, h2, h3⟩ := akey_spec hc hc' hb (h K σ v c hv hc)
  exact ⟨run_equal_now hd h2, .inl h2, h3⟩
def Fnd (P : Program) (kt : TypeId) (d : TypeDesc) (kc : Value) (l : List MapEntry) (i : Nat) (r : Option (Nat × Value)) : Prop :=
  (Instr.findNow d kc l i = some r ∨ Instr.findNow d kc l i = none) ∧ ∀ w, (Instr.findAsking kt kc l i).run P w = .ok r w
theorem run_fnd {P : Program} {w : World} {kt : TypeId} {d : TypeDesc} {k : Value} {l : List MapEntry} {a : Option (Nat × Value)} (hd : P.underlying kt = some d) (h : Fnd P kt d k l 0 a) : (Instr.findKey kt k l).run P w = .ok a w := by
  rcases h with ⟨h1 | h1, h2⟩
  · exact run_findKey hd h1
  · have := h2 w
    simp [Instr.findKey, run_underlying hd, Result.andThen, h1, this]
theorem Fnd.none_nil {P : Program} {kt : TypeId} {d : TypeDesc} {kc : Value} {i : Nat} : Fnd P kt d kc [] i none := ⟨.inl rfl, fun w => by simp [Instr.findAsking]⟩
theorem Fnd.here {P : Program} {kt : TypeId} {d : TypeDesc} {kc : Value} {c : MapEntry} {cs : List MapEntry} {i : Nat} (h1 : ∀ w, (Op.equal kt kc c.key).run P w = .ok true w) (h2 : Instr.sameNow d kc c.key = some true ∨ Instr.sameNow d kc c.key = none) : Fnd P kt d kc (c :: cs) i (some (i, c.val)) := by
  refine ⟨?_, fun w => by simp [Instr.findAsking, Result.andThen, h1 w]⟩
  rcases h2 with h2 | h2
  · exact .inl (by simp [Instr.findNow, h2])
  · exact .inr (by simp [Instr.findNow, h2])
theorem Fnd.later {P : Program} {kt : TypeId} {d : TypeDesc} {kc : Value} {c : MapEntry} {cs : List MapEntry} {i : Nat} {r : Option (Nat × Value)} (h1 : ∀ w, (Op.equal kt kc c.key).run P w = .ok false w) (h2 : Instr.sameNow d kc c.key = some false ∨ Instr.sameNow d kc c.key = none)
    (h : Fnd P kt d kc cs (i + 1) r) : Fnd P kt d kc (c :: cs) i r := by
  obtain ⟨h3, h4⟩ := h
  refine ⟨?_, fun w => by have := h4 w; simp [Instr.findAsking, Result.andThen, h1 w, this]⟩
  rcases h2 with h2 | h2
  · rcases h3 with h3 | h3
    · exact .inl (by simp [Instr.findNow, h2, h3])
    · exact .inr (by simp [Instr.findNow, h2, h3])
  · exact .inr (by simp [Instr.findNow, h2])
theorem findK_spec {d : TypeDesc} {kt : TypeId} {kf : AV → Bool} {kv : AV} {kc : Value} (KP : KeyP P kt d kf) (hk : kf kv = true) (hv : VR K σ kv kc) : ∀ (es : List AEnt) (l : List MapEntry) (i : Nat), EntsR K σ es l →
    (findK kv es = some none → Fnd P kt d kc l i none) ∧
    (∀ v, findK kv es = some (some v) → ∃ j e, Fnd P kt d kc l i (some (i + j, e.val)) ∧ l[j]? = some e ∧ e.key = kc ∧ VR K σ v e.val ∧
      ∀ v' c', VR K σ v' c' → EntsR K σ (setK kv v' es) (l.modify j fun e => { e with key := kc, val := c' }))
  | [], l, i, h => by
    simp only [EntsR] at h; subst h
    exact ⟨fun _ => Fnd.none_nil, fun v hv => by cases hv⟩
  | e :: es, l, i, h => by
    obtain ⟨c, cs, rfl, ⟨h1, h2, h3⟩, hs⟩ := h
    obtain ⟨i1, i2⟩ := findK_spec KP hk hv es cs (i + 1) hs
    have hdef : findK kv (e :: es) = onSome (akey kv e.key) (fun b => ifb b (some (some e.val)) (findK kv es)) none := rfl
    rw [hdef]
    cases hb : akey kv e.key with
    | none => exact ⟨fun h => by (cases h), fun v h => by (cases h)⟩
    | some b =>
      obtain ⟨j1, j2, j3⟩ := KP.eq K σ _ _ _ _ _ hk hv h1 hb
      cases b with
      | true =>
        refine ⟨fun h => by (cases h), fun v hh => ?_⟩
        cases hh
        refine ⟨0, c, Fnd.here j1 j2, rfl, j3 rfl, h2, fun v' c' hv' => ?_⟩
        have : setK kv v' (e :: es) = ⟨e.key, v', e.born⟩ :: es := by simp [setK, hb]
        rw [this]
        exact ⟨{ c with key := kc, val := c' }, cs, by simp [List.modify], ⟨by show VR K σ e.key kc; rw [← j3 rfl]; exact h1, hv', h3⟩, hs⟩
      | false =>
        refine ⟨fun h => Fnd.later j1 j2 (i1 h), fun v hh => ?_⟩
        obtain ⟨j, e', k1, k2, k3, k4, k5⟩ := i2 v hh
        refine ⟨j + 1, e', by have := Fnd.later j1 j2 k1; rwa [show i + 1 + j = i + (j + 1) by omega] at this, k2, k3, k4, fun v' c' hv' => ?_⟩
        have : setK kv v' (e :: es) = e :: setK kv v' es := by simp [setK, hb]
        rw [this]
        exact ⟨c, _, by simp [List.modify], ⟨h1, h2, h3⟩, k5 v' c' hv'⟩
theorem addE_eq (e : AEnt) : ∀ l : List AEnt, addE e l = l ++ [e]
  | [] => rfl
  | x :: l => by show x :: addE e l = _; rw [addE_eq e l]; rfl
theorem EntsR.push {e : AEnt} {c : MapEntry} (he : EntR K σ e c) : ∀ {es : List AEnt} {l : List MapEntry}, EntsR K σ es l → EntsR K σ (es ++ [e]) (l ++ [c])
  | [], l, h => by simp only [EntsR] at h; subst h; exact ⟨c, [], rfl, he, rfl⟩
  | x :: es, l, ⟨c', cs, e1, h1, h2⟩ => by subst e1; exact ⟨c', cs ++ [c], rfl, h1, EntsR.push he h2⟩
theorem EntsR.length : ∀ {es : List AEnt} {l : List MapEntry}, EntsR K σ es l → l.length = es.length
  | [], l, h => by simp only [EntsR] at h; subst h; rfl
  | x :: es, l, ⟨c', cs, e1, h1, h2⟩ => by subst e1; simp [EntsR.length h2]
theorem lenE_eq : ∀ l : List AEnt, lenE l = l.length
  | [] => rfl
  | x :: l => by show Nat.succ (lenE l) = _; rw [lenE_eq l]; rfl
theorem ok_makeMap (H : HR K σ own s.heap w) (h : rMakeMap (dP dst) call s = .ok s') : Res P K σ own ⟨dst, .makeMap t none, ty, pos, af, gd⟩ ρ w s s' := by
  obtain ⟨s1, s2⟩ := setDH_ok h
  have hH := H.newObj (.map [] 0) (.map #[] 0) 0 (fun p ro r e => by cases e) ⟨by simp [Owns.add], #[], (heap_alloc w _).1, rfl⟩
  refine ⟨.map s.heap.next, .map (some w.heap.size), _, _, w.alloc (.map #[] 0), .inl ?_, ⟨_, Env.add_same _ _ _, rfl⟩, ?_, by rw [s2]; exact hH, s1⟩
  · simp [execOp, run_makeMap]
  · rw [s2]; exact Grow.add _ (H.fresh _ (Nat.le_refl _)) rfl
def CV1 (z : AV) (c : Value) : Prop := ∀ (K : Ctx) (σ : Env), VR K σ z c
theorem ok_lookup {kt et : TypeId} {d : TypeDesc} {kf : AV → Bool} {i : TypeInfo} {z : Value} {Z : AV} {ok : Bool} (ht : P.underlying t = some (.map kt et)) (hd : P.underlying kt = some d) (hkf : KeyP P kt d kf)
    (hi : P.info? et = some i) (hz : i.zero = some z) (hZ : CV1 Z z) (H : HR K σ own s.heap w) (hm : VR K σ (M.ev s.tmps) (ρ x)) (hk : VR K σ (X.ev s.tmps) (ρ k))
    (h : rLookup kf Z ok M X (dP dst) call s = .ok s') : StillR P K σ ⟨dst, .lookup t x k ok, ty, pos, af, gd⟩ ρ w s s' := by
  have main : ∀ (es : List AEnt) (ces : Array MapEntry), EntsR K σ es ces.toList → lookupIn kf Z ok (X.ev s.tmps) es (dP dst) s = .ok s' →
      (ρ x = .map none ∧ ces = #[] ∨ ∃ B c, ρ x = .map (some B) ∧ w.heap[B]? = some (.map ces c)) → StillR P K σ ⟨dst, .lookup t x k ok, ty, pos, af, gd⟩ ρ w s s' := by
    intro es ces hes h hget
    obtain ⟨h1, h⟩ := ifb_ok h
    obtain ⟨r, h2, h⟩ := onSome_ok h
    obtain ⟨f1, f2⟩ := findK_spec hkf h1 hk es ces.toList 0 hes
    have hck := hkf.chk K σ _ _ h1 hk ces.isEmpty w
    cases r with
    | none =>
      have hf := run_fnd (P := P) (w := w) hd (f1 h2)
      refine StillR.pure H (v := ifb ok (.tup [Z, .bool false]) Z) (vc := if ok then .tuple #[z, .bool false] else z) ?_ ?_ h
      · simp only [execOp]
        unfold Instr.lookup
        rcases hget with ⟨hp, hc⟩ | ⟨B, c, hp, hc⟩
        · subst hc
          cases ok <;> simp_all [run_underlying ht, run_zeroValue hi hz]
        · cases ok <;> simp [run_underlying ht, hp, MapKept.run_getObj_map hc, hck, hf, run_zeroValue hi hz]
      · cases ok
        · exact hZ K σ
        · exact ⟨_, rfl, VRs.cons (hZ K σ) (VRs.cons (x := .bool false) rfl VRs.nil)⟩
    | some v =>
      obtain ⟨j, e, hf, _, _, hv, _⟩ := f2 v h2
      have hf := run_fnd (P := P) (w := w) hd hf
      refine StillR.pure H (v := ifb ok (.tup [v, .bool true]) v) (vc := if ok then .tuple #[e.val, .bool true] else e.val) ?_ ?_ h
      · simp only [execOp]
        unfold Instr.lookup
        rcases hget with ⟨hp, hc⟩ | ⟨B, c, hp, hc⟩
        · subst hc
          cases ok <;> simp_all [run_underlying ht]
        · cases ok <;> simp [run_underlying ht, hp, MapKept.run_getObj_map hc, hck, hf]
      · cases ok
        · exact hv
        · exact ⟨_, rfl, VRs.cons hv (VRs.cons (x := .bool true) rfl VRs.nil)⟩
  rcases onMap_ok h with ⟨e1, h⟩ | ⟨b, e1, h⟩
  · rw [e1] at hm
    have hm' : ρ x = .map none := hm
    exact main [] #[] rfl h (.inl ⟨hm', rfl⟩)
  · obtain ⟨es, c, hg, h⟩ := onMapH_ok h
    rw [e1] at hm
    obtain ⟨l, hl, hp⟩ := hm
    have hO := H.obj b l hl
    rw [hg] at hO
    obtain ⟨ho, ces, hc, hes⟩ := hO
    exact main es ces hes h (.inr ⟨_, _, hp, hc⟩)
theorem ok_mapUpdate {kt et : TypeId} {d : TypeDesc} {kf : AV → Bool} {y : Operand} {Y : Opd} (hd0 : o.op = .mapUpdate t x k y ∨ o.op = .insert t x k y) (ht : P.underlying t = some (.map kt et)) (hd : P.underlying kt = some d) (hkf : KeyP P kt d kf)
    (H : HR K σ own s.heap w) (hm : VR K σ (M.ev s.tmps) (ρ x)) (hk : VR K σ (X.ev s.tmps) (ρ k)) (hy : VR K σ (Y.ev s.tmps) (ρ y))
    (h : rMapUpdate kf M X Y (dP o.dst) call s = .ok s') : Res P K σ own o ρ w s s' := by
  have hex : ∀ w', (Instr.mapUpdate t (ρ x) (ρ k) (ρ y)).run P w = .ok () w' → (execOp ρ o).run P w = .ok .skip w' := fun w' hr => by
    unfold execOp
    rcases hd0 with e | e <;> rw [e] <;> simp [hr]
  rw [rMapUpdate_def] at h
  rcases onMap_ok h with ⟨e1, h⟩ | ⟨b, e1, h⟩
  · cases h
  · obtain ⟨es, c, hg, h⟩ := onMapH_ok h
    rw [e1] at hm
    obtain ⟨l, hl, hp⟩ := hm
    have hO := H.obj b l hl
    rw [hg] at hO
    obtain ⟨ho, ces, hc, hes⟩ := hO
    obtain ⟨h1, h⟩ := ifb_ok h
    obtain ⟨r, h2, h⟩ := onSome_ok h
    obtain ⟨f1, f2⟩ := findK_spec hkf h1 hk es ces.toList 0 hes
    have hck := hkf.chk K σ _ _ h1 hk false w
    have hlt : l.B < w.heap.size := (Array.getElem?_eq_some_iff.1 hc).1
    cases r with
    | none =>
      have hf := run_fnd (P := P) (w := w) hd (f1 h2)
      refine Res.heap (h' := s.heap.setObj b (.map (addE ⟨X.ev s.tmps, Y.ev s.tmps, c⟩ es) (Nat.succ c))) (w' := { w with heap := w.heap.setIfInBounds l.B (.map (ces.push { key := ρ k, val := ρ y, born := c }) (c + 1)) }) (.inr ⟨hex _ ?_, rfl⟩) VR.undef
        (H.setBlock hl ho (fun p ro r e => by cases e) ⟨ho, _, (heap_set hc).1, ?_⟩) rfl h
      · unfold Instr.mapUpdate
        simp only [Sem.run_bind, run_underlying ht, Result.andThen_ok, hp, MapKept.run_getObj_map hc, hck, hf, run_setObj_map _ hc]
      · rw [addE_eq]
        simp only [Array.toList_push]
        exact hes.push ⟨hk, hy, rfl⟩
    | some v =>
      obtain ⟨j, e, hf, hj, hek, hv, hset⟩ := f2 v h2
      rw [Nat.zero_add] at hf
      have hf := run_fnd (P := P) (w := w) hd hf
      have hst : (Instr.keyThatStays (((ces[j]?).map (·.key)).getD (ρ k)) (ρ k)).run P w = .ok (ρ k) w := by
        have : ces[j]? = some e := by rw [← Array.getElem?_toList]; exact hj
        rw [this]
        simp only [Option.map_some, Option.getD_some, hek]
        unfold Instr.keyThatStays
        rw [hkf.same K σ _ _ h1 hk]
        rfl
      refine Res.heap (h' := s.heap.setObj b (.map (setK (X.ev s.tmps) (Y.ev s.tmps) es) c)) (w' := { w with heap := w.heap.setIfInBounds l.B (.map (ces.modify j fun e => { e with key := ρ k, val := ρ y }) c) }) (.inr ⟨hex _ ?_, rfl⟩) VR.undef
        (H.setBlock hl ho (fun p ro r e => by cases e) ⟨ho, _, (heap_set hc).1, ?_⟩) rfl h
      · unfold Instr.mapUpdate
        simp only [Sem.run_bind, run_underlying ht, Result.andThen_ok, hp, MapKept.run_getObj_map hc, hck, hf, hst, run_setObj_map _ hc]
      · rw [Array.toList_modify]
        exact hset _ _ hy
theorem ok_lenM {kt et : TypeId} (H : HR K σ own s.heap w) (hx : VR K σ (X.ev s.tmps) (ρ x)) (ht : P.underlying t = some (.map kt et)) (h : rLenM X (dP dst) call s = .ok s') :
    StillR P K σ ⟨dst, .call ⟨.builtin .len, #[x], #[t]⟩, ty, pos, af, gd⟩ ρ w s s' := by
  rcases onMap_ok h with ⟨e, h⟩ | ⟨b, e, h⟩
  · rw [e] at hx
    have hx' : ρ x = .map none := hx
    refine StillR.pure H (v := zi 0) (vc := goInt 0) ?_ .mkInt h
    simp [execOp, resolve, invoke, builtin, Builtin.len_, hx', run_underlying ht]
  · obtain ⟨es, c, hg, h⟩ := onMapH_ok h
    rw [e] at hx
    obtain ⟨l, hl, hp⟩ := hx
    have hO := H.obj b l hl
    rw [hg] at hO
    obtain ⟨ho, ces, hc, hes⟩ := hO
    have hsz : ces.size = lenE es := by rw [lenE_eq, ← hes.length]; simp
    refine StillR.pure H (v := zi (lenE es)) (vc := goInt (lenE es)) ?_ .mkInt h
    simp [execOp, resolve, invoke, builtin, Builtin.len_, hp, run_underlying ht, MapKept.run_getObj_map hc, hsz]
theorem madeCells_VRs {Z : List AV} {z : Array Value} (h : VRs K σ Z z.toList) (n : Nat) : VRs K σ (repL Z n) (madeCells z (n * z.size)).toList := repL_VRs h n
theorem HR.newRow' (H : HR K σ own h w) (r : Row) (c : Array Value) (t : TypeId) (hwf : r.wf) (hc : r.size ≤ c.size)
    (hv : ∀ (i : Nat) (x : AV), r.get i = some x → ∃ v, c[i]? = some v ∧ VR K σ x v) :
    HR K (σ.add h.next ⟨w.heap.size, 0, c.size⟩) (own.add w.heap.size (false, h.next)) (h.new (.cells none false r)) (w.alloc (.cells c t)) := by
  have hle : σ.le (σ.add h.next ⟨w.heap.size, 0, c.size⟩) := Env.le_add _ (H.fresh _ (Nat.le_refl _))
  refine H.newObj _ _ c.size (fun p ro r e => by cases e) ⟨⟨hwf, hc, fun i hi => ?_, fun i x hx => ?_⟩, by simp, fun _ => ⟨by simp [Owns.add, tagOf], NoFr.alloc_new _ _ _⟩, fun e => by cases e⟩
  · simp only [Nat.zero_add]
    exact ⟨c[i], by rw [World.cell?_alloc_new]; exact Array.getElem?_eq_getElem hi⟩
  · obtain ⟨v, h1, h2⟩ := hv i x hx
    simp only [Nat.zero_add]
    exact ⟨v, by rw [World.cell?_alloc_new]; exact h1, h2.mono hle⟩
theorem byteAt_zero (i : Nat) : byteAt 0 i = 0 := by simp [byteAt]
theorem widAt_zero (i : Nat) : widAt 0 i = 0 := by simp [widAt]
theorem dwAt_zero (i : Nat) : dwAt 0 i = 0 := by simp [dwAt]
theorem zeroRow_spec (Z : List AV) (m : Nat) : (zeroRow Z m Z.length).wf ∧ (zeroRow Z m Z.length).size = m * Z.length ∧ ∀ i, (zeroRow Z m Z.length).get i = (repL Z m)[i]? := by
  have hl : (Row.lst (Nat.mul m Z.length) (repL Z m)).wf ∧ (Row.lst (Nat.mul m Z.length) (repL Z m)).size = m * Z.length ∧ ∀ i, (Row.lst (Nat.mul m Z.length) (repL Z m)).get i = (repL Z m)[i]? :=
    ⟨(repL_length Z m).symm, rfl, fun i => Row.get_lst _ _ _⟩
  unfold zeroRow
  split
  · refine ⟨Nat.pow_pos (by omega), by simp [Row.size], fun i => ?_⟩
    rw [Row.get_byt, byteAt_zero]
    by_cases hi : i < m
    · rw [if_pos hi, repL_get _ (by simp) _ _ (by simpa using hi)]
      simp [Nat.mod_one]
    · rw [if_neg hi, List.getElem?_eq_none (by rw [repL_length]; simp; omega)]
  · refine ⟨Nat.pow_pos (by omega), by simp [Row.size], fun i => ?_⟩
    rw [Row.get_wid, widAt_zero]
    by_cases hi : i < m
    · rw [if_pos hi, repL_get _ (by simp) _ _ (by simpa using hi)]
      simp [Nat.mod_one]
    · rw [if_neg hi, List.getElem?_eq_none (by rw [repL_length]; simp; omega)]
  · refine ⟨Nat.pow_pos (by omega), by simp [Row.size], fun i => ?_⟩
    rw [Row.get_dw, dwAt_zero]
    by_cases hi : i < m
    · rw [if_pos hi, repL_get _ (by simp) _ _ (by simpa using hi)]
      simp [Nat.mod_one]
    · rw [if_neg hi, List.getElem?_eq_none (by rw [repL_length]; simp; omega)]
  · exact hl
theorem ok_makeSlice {e : TypeId} {i : TypeInfo} {z : Value} {Z : List AV} {x y : Operand} {X Y : Opd} (ht : P.underlying t = some (.slice e)) (hi : P.info? e = some i) (hz : i.zero = some z) (hZ : CV Z z.cells.toList) (hn : Z.length = i.size) (hb : i.bytes ≤ 16777216) (h0 : i.size ≠ 0)
    (H : HR K σ own s.heap w) (hx : VR K σ (X.ev s.tmps) (ρ x)) (hy : VR K σ (Y.ev s.tmps) (ρ y)) (h : rMakeSlice i.size Z X Y (dP dst) call s = .ok s') :
    Res P K σ own ⟨dst, .makeSlice t x y, ty, pos, af, gd⟩ ρ w s s' := by
  obtain ⟨k, n, e1, h⟩ := onNat_ok h
  obtain ⟨k', m, e2, h⟩ := onNat_ok h
  obtain ⟨h1, h⟩ := ifb_ok h
  obtain ⟨h2, h⟩ := ifb_ok h
  rw [e1] at hx
  rw [e2] at hy
  have hx' : ρ x = .int k n := hx
  have hy' : ρ y = .int k' m := hy
  have hnm := Nat.le_of_ble_eq_true h1
  have hm := Nat.le_of_ble_eq_true h2
  have hzs : z.cells.size = i.size := by have := (hZ K σ).length; rw [hn] at this; simpa using this
  have hby : (i.bytes : Int) * (m : Int) ≤ 281474976710656 := by
    have : i.bytes * m ≤ 16777216 * 65536 := Nat.mul_le_mul hb hm
    have h3 : ((i.bytes * m : Nat) : Int) ≤ 281474976710656 := by omega
    rwa [Int.natCast_mul] at h3
  have hrun := run_make (P := P) w t e i z ht hi hz k k' n m (by omega) (by omega) hby (by omega)
  simp only [Int.toNat_natCast] at hrun
  obtain ⟨r1, r2⟩ := (madeCells_VRs (hZ K σ) m).row
  rw [hzs] at r1 r2
  obtain ⟨z1, z2, z3⟩ := zeroRow_spec Z m
  rw [hn] at z1 z2 z3
  have hcs : (madeCells z.cells (m * i.size)).size = m * i.size := size_madeCells _ _
  obtain ⟨s1, s2⟩ := setDH_ok h
  refine ⟨.slice s.heap.next 0 n i.size, .slice (some ⟨w.heap.size, 0, none⟩) n m, _, _, _, .inl ?_, ⟨⟨w.heap.size, 0, (madeCells z.cells (m * i.size)).size⟩, Env.add_same _ _ _, ?_⟩, ?_, by
    rw [s2]; exact H.newRow' _ _ e z1 (by rw [z2, hcs]; exact Nat.le_refl _) (fun j xv hj => r2 j xv (by rw [← z3]; exact hj)), s1⟩
  · simp [execOp, hx', hy', hrun]
  · simp [hcs, Nat.mul_div_cancel _ (Nat.pos_of_ne_zero h0)]
  · rw [s2]; exact Grow.add _ (H.fresh _ (Nat.le_refl _)) rfl
end
end Go.Eng
namespace Go.Eng
open Go.RowKit
section
variable {P : Program} {K : Ctx} {σ : Env} {own : Owns} {w : World} {s s' : St} {ρ : Operand → Value} {o : Oper}
variable {dst : Option Tmp} {ty : TypeId} {pos : String} {af : Array Edge} {gd : Option (Nat × Bool)} {call : Caller}
variable {x y : Operand} {X Y : Opd} {t t' u : TypeId}
theorem minN_eq (m n : Nat) : minN m n = Nat.min m n := by
  unfold minN
  by_cases h : m ≤ n
  · rw [Nat.ble_eq_true_of_le h]; exact (Nat.min_eq_left h).symm
  · have e : Nat.ble m n = false := Bool.eq_false_iff.2 fun e => h (Nat.le_of_ble_eq_true e)
    rw [e]
    have hm : Nat.min m n = n := Nat.min_eq_right (by omega)
    rw [hm]; rfl
theorem copyVal_ok {e : TypeId} {i : TypeInfo} (H : HR K σ own s.heap w) (ht : P.underlying t = some (.slice e)) (hi : P.info? e = some i) (hx : VR K σ (X.ev s.tmps) (ρ x))
    {n n' : Nat} {cs : Array Value} {l : List AV} (S : SrcOK P w i.size (ρ y) n' n cs) (hl : VRs K σ l cs.toList) (hn : l.length = n * i.size) (hm : n = minN n' (lenSl (X.ev s.tmps)))
    (h : copyVal i.size (X.ev s.tmps) (dP dst) s n l = .ok s') : Res P K σ own ⟨dst, .call ⟨.builtin .copy, #[x, y], #[t, u]⟩, ty, pos, af, gd⟩ ρ w s s' := by
  rw [minN_eq] at hm
  have h1 := S.len w
  have h2 := S.cells w rfl
  have zero : n = 0 → cs = #[] := fun e => by
    have h3 := hl.length
    rw [hn, e] at h3
    exact Array.eq_empty_of_size_eq_zero (by simpa using h3)
  unfold copyVal at h
  rcases onSl_ok h with ⟨e1, h⟩ | ⟨b, off, len, sz, e1, h⟩
  · rw [e1] at hx hm
    have hx' : ρ x = .slice none 0 0 := hx
    have hm' : n = Nat.min n' 0 := hm
    have h0 : n = 0 := by rw [hm']; exact Nat.min_zero _
    refine Res.pure H (v := zi 0) (vc := goInt 0) ?_ .mkInt h
    have hc := zero h0
    subst hc
    rw [hm'] at h2
    have : (Builtin.copy_ #[t, u] ty #[.slice none 0 0, ρ y]).run P w = .ok (goInt 0) w := by
      simp [Builtin.copy_, run_underlying ht, run_sizeOf hi, h1]
      simp at h2
      rw [h2]
      simp
    simp [execOp, resolve, invoke, builtin, hx', this]
  · obtain ⟨hsz, h5⟩ := ifb_ok h
    clear h
    have := Nat.eq_of_beq_eq_true hsz
    subst this
    obtain ⟨loc, cp, hl0, hp⟩ := hx.sl e1
    have hm' : n = Nat.min n' len := by
      rw [hm]
      rcases e1 with e1 | ⟨c, e1⟩ <;> rw [e1] <;> rfl
    rw [hm'] at h2
    cases hb : Nat.beq n 0 with
    | true =>
      rw [hb] at h5
      have h0 := Nat.eq_of_beq_eq_true hb
      have hc := zero h0
      subst hc
      refine Res.pure H (v := zi 0) (vc := goInt 0) ?_ .mkInt h5
      have e0 : Nat.min n' len = 0 := by rw [← hm']; exact h0
      have : (Builtin.copy_ #[t, u] ty #[.slice (some ⟨loc.B, loc.o + off, none⟩) len cp, ρ y]).run P w = .ok (goInt 0) w := by
        rw [e0] at h2
        simp [Builtin.copy_, run_underlying ht, run_sizeOf hi, h1]
        rw [e0, h2]
        simp [storeCells]
      simp [execOp, resolve, invoke, builtin, hp, this]
    | false =>
      rw [hb] at h5
      obtain ⟨h', h3, h4⟩ := onSome_ok h5
      obtain ⟨w', i1, i2, i3⟩ := H.storeN (P := P) hl0 hl h3
      refine Res.heap (w' := w') (v := zi n) (vc := goInt n) (.inl ?_) .mkInt i2 i3 h4
      have : (Builtin.copy_ #[t, u] ty #[.slice (some ⟨loc.B, loc.o + off, none⟩) len cp, ρ y]).run P w = .ok (goInt n) w' := by
        simp [Builtin.copy_, run_underlying ht, run_sizeOf hi, h1]
        rw [h2]
        simp only [Result.andThen_ok]
        rw [i1, hm']
        rfl
      simp [execOp, resolve, invoke, builtin, hp, this]
theorem ok_copy {e : TypeId} {i : TypeInfo} (H : HR K σ own s.heap w) (ht : P.underlying t = some (.slice e)) (hi : P.info? e = some i) (hx : VR K σ (X.ev s.tmps) (ρ x)) (hy : VR K σ (Y.ev s.tmps) (ρ y))
    (h : rCopy i.size X Y (dP dst) call s = .ok s') : Res P K σ own ⟨dst, .call ⟨.builtin .copy, #[x, y], #[t, u]⟩, ty, pos, af, gd⟩ ρ w s s' := by
  obtain ⟨⟨n, l⟩, h1, h2⟩ := onSome_ok h
  obtain ⟨n', cs, S, hl, hn, e1⟩ := srcL_spec H hy (by rw [minN_eq]; exact Nat.zero_min _) h1
  exact copyVal_ok H ht hi hx S hl hn e1 h2
theorem ok_copyS {e : TypeId} {i : TypeInfo} (H : HR K σ own s.heap w) (ht : P.underlying t = some (.slice e)) (hi : P.info? e = some i) (h1 : i.size = 1) (hx : VR K σ (X.ev s.tmps) (ρ x)) (hy : VR K σ (Y.ev s.tmps) (ρ y))
    (h : rCopyS X Y (dP dst) call s = .ok s') : Res P K σ own ⟨dst, .call ⟨.builtin .copy, #[x, y], #[t, u]⟩, ty, pos, af, gd⟩ ρ w s s' := by
  obtain ⟨⟨n, l⟩, h2, h3⟩ := onSome_ok h
  obtain ⟨n', cs, S, hl, hn, e1⟩ := srcS_spec (w := w) (P := P) hy (fun n => by rw [minN_eq]; exact Nat.min_le_left _ _) h2
  exact copyVal_ok H ht hi hx (by rw [h1]; exact S) hl (by rw [h1]; exact hn) e1 (by rw [h1]; exact h3)
end
end Go.Eng
namespace Go.Eng
open Go.RowKit Go.MapKept
noncomputable section
def rConvSl (x : Opd) (d : Option Pos) : Run := fun _ s => (x.ev s.tmps).onSlice .fail (fun b off n sz => s.heap.onRow b (fun _ ro r => ifb ro .fail (ifb (Nat.ble 1 (Row.size r)) (setD d (.slice b off n sz) s) .fail)) .fail) .fail
def rStrB (x : Opd) (d : Option Pos) : Run := fun _ s => (x.ev s.tmps).onStr (fun n dd => ifb (Nat.ble 1 n) (setDH d (.slice s.heap.next 0 n 1) s (s.heap.new (.cells none false (.byt n dd)))) .fail) .fail
def rBytesS (x : Opd) (d : Option Pos) : Run := fun _ s =>
  (x.ev s.tmps).onSl (setD d (.str 0 0) s) (fun b off n sz => onSome (s.heap.loadN b off n) (fun l => onSome (bytesIn l) (fun w => setD d (.str n w) s) .fail) .fail) .fail
def rS2ap (n : Nat) (x : Opd) (d : Option Pos) : Run := fun _ s =>
  (x.ev s.tmps).onSl .fail (fun b off len _ => ifb (Nat.ble n len) (setD d (.ptr b off) s) .fail) .fail
def rSliceA (n sz : Nat) (x : Opd) (lo hi : Option Opd) (d : Option Pos) : Run := fun _ s =>
  (x.ev s.tmps).onPtr (fun b off => onSome (optNat hi n s.tmps) (fun h => onSome (optNat lo 0 s.tmps) (fun l => ifb (Nat.ble l h) (ifb (Nat.ble h n)
    (setD d (.sliceC b (ifb (Nat.beq l n) off (Nat.add off (Nat.mul l sz))) (Nat.sub h l) (Nat.sub n l) sz) s) .fail) .fail) .fail) .fail) .fail
def rSliceC (sz : Nat) (x : Opd) (lo hi : Option Opd) (d : Option Pos) : Run := fun _ s =>
  (x.ev s.tmps).onSliceC (fun b off len cap sz' => onSome (optNat hi len s.tmps) (fun h => onSome (optNat lo 0 s.tmps) (fun l => ifb (Nat.ble l h) (ifb (Nat.ble h cap)
    (setD d (.sliceC b (ifb (Nat.beq l cap) off (Nat.add off (Nat.mul l sz))) (Nat.sub h l) (Nat.sub cap l) sz) s) .fail) .fail) .fail) .fail) .fail
def rAppendC (sz : Nat) (x y : Opd) (d : Option Pos) : Run := fun _ s =>
  onSome (srcL sz (fun n => n) (y.ev s.tmps) s.heap) (fun nl => Prod.rec (fun n l => (x.ev s.tmps).onSliceC (fun b off len cap sz' =>
    ifb (Nat.ble (Nat.succ cap) (Nat.add len n)) (onSome (s.heap.loadN b off (Nat.mul len sz)) (fun pre => ifb (Nat.ble (Nat.add len n) 1048576)
      (setDH d (.slice s.heap.next 0 (Nat.add len n) sz) s (s.heap.new (.cells none false (mkRow (appL pre l))))) .fail) .fail) .fail) .fail) nl) .fail
def rMax3 (x y z : Opd) (d : Option Pos) : Run := fun _ s =>
  (x.ev s.tmps).onInt (fun k a => (y.ev s.tmps).onInt (fun k1 b => (z.ev s.tmps).onInt (fun k2 c => ifb (keq k k1) (ifb (keq k k2) (setD d (.int k (ifb (ilt (ifb (ilt a b) b a) c) c (ifb (ilt a b) b a))) s) .fail) .fail) .fail) .fail) .fail
def rMax4 (x y z u : Opd) (d : Option Pos) : Run := fun _ s =>
  (x.ev s.tmps).onInt (fun k a => (y.ev s.tmps).onInt (fun k1 b => (z.ev s.tmps).onInt (fun k2 c => (u.ev s.tmps).onInt (fun k3 e => ifb (keq k k1) (ifb (keq k k2) (ifb (keq k k3) (setD d (.int k (ifb (ilt (ifb (ilt (ifb (ilt a b) b a) c) c (ifb (ilt a b) b a)) e) e (ifb (ilt (ifb (ilt a b) b a) c) c (ifb (ilt a b) b a)))) s) .fail) .fail) .fail) .fail) .fail) .fail) .fail
def rClear (sz : Nat) (z : List AV) (x : Opd) (d : Option Pos) : Run := fun _ s =>
  (x.ev s.tmps).onSl (setD d (.tup []) s) (fun b off n _ => ifb (Nat.beq n 0) (setD d (.tup []) s) (onSome (s.heap.storeN b off (repL z n)) (fun h => setDH d (.tup []) s h) .fail)) .fail
def rDelM (kf : AV → Bool) (m k : Opd) (d : Option Pos) : Run := fun _ s =>
  (m.ev s.tmps).onMap .fail (fun b => s.heap.onMap b (fun es clock => ifb (kf (k.ev s.tmps)) (onSome (findK (k.ev s.tmps) es) (fun r =>
      onSome r (fun _ => setDH d (.tup []) s (s.heap.setObj b (.map (delK (k.ev s.tmps) es) clock))) (setDH d (.tup []) s (s.heap.setObj b (.map es clock)))) .fail) .fail) .fail) .fail
def rAppendZ (sz : Nat) (z : List AV) (x y : Opd) (d : Option Pos) : Run := fun _ s =>
  (y.ev s.tmps).onNat (fun n => (x.ev s.tmps).onSlice (ifb (Nat.beq n 0) .fail (ifb (Nat.ble n 1048576)
    (setDH d (.slice s.heap.next 0 n sz) s (s.heap.new (.cells none false (zeroRow z n sz)))) .fail))
    (fun b off len sz' => ifb (Nat.beq sz sz') (ifb (Nat.ble 1 n) (s.heap.onRow b (fun g ro r => ifb ro .fail (onSome (r.cut off (Nat.mul len sz)) (fun pre => ifb (Nat.ble (Nat.add len n) 1048576) (ifb (allCell (repL z n))
      (onSome (r.upTo (Nat.add off (Nat.mul len sz))) (fun r0 => onSome (r.withL off (Nat.mul len sz) (repL z n)) (fun r1 =>
        setDH d (.slice s.heap.next 0 (Nat.add len n) sz) s ((s.heap.alone b g).beside b g r0 r1)) .fail) .fail) .fail) .fail) .fail)) .fail) .fail) .fail) .fail) .fail
def findKE (k : AV) (l : List AEnt) : Option (Option AEnt) :=
  List.rec (some none) (fun e _ ih => onSome (akey k e.key) (fun b => ifb b (some (some e)) ih) none) l
def rMapEntry (kf : AV → Bool) (z : AV) (m k : Opd) (d : Option Pos) : Run := fun _ s =>
  (m.ev s.tmps).onMap .fail (fun b => s.heap.onMap b (fun es clock => ifb (kf (k.ev s.tmps)) (onSome (findKE (k.ev s.tmps) es) (fun r =>
      onSome r (fun e => setDH d (.tup [e.val, zi e.born]) s (s.heap.setObj b (.map es clock)))
        (setDH d (.tup [z, zi clock]) s (s.heap.setObj b (.map (addE ⟨k.ev s.tmps, z, clock⟩ es) (Nat.succ clock))))) .fail) .fail) .fail) .fail
def setBorn (n : Nat) (v : AV) : List AEnt → Option (List AEnt)
  | [] => none
  | e :: l => ifb (Nat.beq e.born n) (some (⟨e.key, v, e.born⟩ :: l)) (onSome (setBorn n v l) (fun l' => some (e :: l')) none)
def rEntryStore (m n v : Opd) (d : Option Pos) : Run := fun _ s =>
  (m.ev s.tmps).onMap .fail (fun b => s.heap.onMap b (fun es clock => (n.ev s.tmps).onNat (fun st => onSome (setBorn st (v.ev s.tmps) es) (fun es' =>
      setDH d .undef s (s.heap.setObj b (.map es' clock))) .fail) .fail) .fail) .fail
def rSlice3 (sz : Nat) (x : Opd) (lo : Option Opd) (hi mx : Opd) (d : Option Pos) : Run := fun _ s =>
  (x.ev s.tmps).onSlice .fail (fun b off _ sz' => ifb (Nat.beq sz sz') (onSome (optNat (some mx) 0 s.tmps) (fun m => onSome (optNat (some hi) 0 s.tmps) (fun h => onSome (optNat lo 0 s.tmps) (fun l =>
    ifb (Nat.ble l h) (ifb (Nat.ble h m) (s.heap.onRow b (fun _ _ r => ifb (Nat.ble (Nat.add off (Nat.mul m sz)) r.size)
      (setD d (.sliceC b (ifb (Nat.beq l m) off (Nat.add off (Nat.mul l sz))) (Nat.sub h l) (Nat.sub m l) sz) s) .fail) .fail) .fail) .fail) .fail) .fail) .fail) .fail) .fail
end
section
variable {P : Program} {K : Ctx} {σ : Env} {own : Owns} {w : World} {s s' : St} {ρ : Operand → Value} {o : Oper}
variable {dst : Option Tmp} {ty : TypeId} {pos : String} {af : Array Edge} {gd : Option (Nat × Bool)} {call : Caller}
variable {x y : Operand} {X Y : Opd} {t t' u e : TypeId}
theorem ok_s2ap {n : Nat} (H : HR K σ own s.heap w) (hx : VR K σ (X.ev s.tmps) (ρ x)) (ht : P.underlying t = some (.array n e)) (h : rS2ap n X (dP dst) call s = .ok s') :
    StillR P K σ ⟨dst, .sliceToArrayPointer t x, ty, pos, af, gd⟩ ρ w s s' := by
  rcases onSl_ok h with ⟨_, h⟩ | ⟨b, off, len, sz, e1, h⟩
  · cases h
  · obtain ⟨h1, h2⟩ := ifb_ok h
    have hle : n ≤ len := Nat.le_of_ble_eq_true h1
    obtain ⟨l, cp, hl, hp⟩ := hx.sl e1
    refine StillR.pure H (v := .ptr b off) (vc := .pointer (some ⟨l.B, l.o + off, none⟩)) ?_ ⟨l, hl, rfl⟩ h2
    have : ¬ len < n := by omega
    simp [execOp, Instr.arrayAt, hp, run_underlying ht, this]
theorem ok_sliceA {n : Nat} {lo hi : Option Operand} {LO HI : Option Opd} {i : TypeInfo} (H : HR K σ own s.heap w) (hx : VR K σ (X.ev s.tmps) (ρ x)) (hlo : OptR K σ s.tmps ρ LO lo) (hhi : OptR K σ s.tmps ρ HI hi)
    (ht : P.underlying t = some (.array n e)) (hie : P.info? e = some i) (h : rSliceA n i.size X LO HI (dP dst) call s = .ok s') :
    StillR P K σ ⟨dst, .slice t x lo hi none, ty, pos, af, gd⟩ ρ w s s' := by
  obtain ⟨b, off, e1, h⟩ := onPtr_ok h
  obtain ⟨hh, h1, h⟩ := onSome_ok h
  obtain ⟨ll, h2, h⟩ := onSome_ok h
  obtain ⟨h3, h⟩ := ifb_ok h
  obtain ⟨h4, h⟩ := ifb_ok h
  have hle : ll ≤ hh := Nat.le_of_ble_eq_true h3
  have hlen : hh ≤ n := Nat.le_of_ble_eq_true h4
  rw [e1] at hx
  obtain ⟨l, hl, hp⟩ := hx
  have hr := run_sliceBounds (P := P) (w := w) (isS := false) (len := n) (cap := n) (optNat_B hhi h1) hlen (optNat_B hlo h2) hle
  refine StillR.pure H (v := .sliceC b (ifb (Nat.beq ll n) off (off + ll * i.size)) (hh - ll) (n - ll) i.size) (vc := .slice (some (if n = ll then ⟨l.B, l.o + off, none⟩ else ⟨l.B, l.o + off + ll * i.size, none⟩)) (hh - ll) (n - ll)) ?_ ⟨l, hl, ?_⟩ h
  · simp [execOp, hp, Instr.sliceAt, Instr.sureAddr, run_underlying ht, hr, run_sizeOf hie, add_none]
  · by_cases he : n = ll
    · subst he
      rw [Nat.beq_refl, if_pos rfl]; rfl
    · rw [if_neg he]
      have : Nat.beq ll n = false := by
        cases hb : Nat.beq ll n with
        | false => rfl
        | true => exact absurd (Nat.eq_of_beq_eq_true hb).symm he
      rw [this]
      show _ = Value.slice (some ⟨l.B, l.o + (off + ll * i.size), none⟩) _ _
      rw [Nat.add_assoc]
theorem ok_sliceC {lo hi : Option Operand} {LO HI : Option Opd} {i : TypeInfo} (H : HR K σ own s.heap w) (hx : VR K σ (X.ev s.tmps) (ρ x)) (hlo : OptR K σ s.tmps ρ LO lo) (hhi : OptR K σ s.tmps ρ HI hi)
    (ht : P.underlying t = some (.slice e)) (hie : P.info? e = some i) (h : rSliceC i.size X LO HI (dP dst) call s = .ok s') :
    StillR P K σ ⟨dst, .slice t x lo hi none, ty, pos, af, gd⟩ ρ w s s' := by
  have hc : ∃ b off len cap sz, X.ev s.tmps = .sliceC b off len cap sz ∧ onSome (optNat HI len s.tmps) (fun h => onSome (optNat LO 0 s.tmps) (fun l => ifb (Nat.ble l h) (ifb (Nat.ble h cap)
    (setD (dP dst) (.sliceC b (ifb (Nat.beq l cap) off (Nat.add off (Nat.mul l i.size))) (Nat.sub h l) (Nat.sub cap l) i.size) s) .fail) .fail) .fail) .fail = .ok s' := by
    unfold rSliceC at h
    cases hv : X.ev s.tmps <;> rw [hv] at h <;> first | exact ⟨_, _, _, _, _, rfl, h⟩ | cases h
  clear h
  obtain ⟨b, off, len, cap, sz, e1, h⟩ := hc
  obtain ⟨hh, h1, h⟩ := onSome_ok h
  obtain ⟨ll, h2, h⟩ := onSome_ok h
  obtain ⟨h3, h⟩ := ifb_ok h
  obtain ⟨h4, h⟩ := ifb_ok h
  have hle : ll ≤ hh := Nat.le_of_ble_eq_true h3
  have hlen : hh ≤ cap := Nat.le_of_ble_eq_true h4
  rw [e1] at hx
  obtain ⟨l, hl, hp⟩ := hx
  have hr := run_sliceBounds (P := P) (w := w) (isS := true) (len := len) (cap := cap) (optNat_B hhi h1) hlen (optNat_B hlo h2) hle
  refine StillR.pure H (v := .sliceC b (ifb (Nat.beq ll cap) off (off + ll * i.size)) (hh - ll) (cap - ll) i.size) (vc := .slice (some (if cap = ll then ⟨l.B, l.o + off, none⟩ else ⟨l.B, l.o + off + ll * i.size, none⟩)) (hh - ll) (cap - ll)) ?_ ⟨l, hl, ?_⟩ h
  · simp [execOp, hp, Instr.sliceAt, Instr.slice, run_underlying ht, hr, run_sizeOf hie, add_none]
    split <;> rfl
  · by_cases he : cap = ll
    · subst he
      rw [Nat.beq_refl, if_pos rfl]; rfl
    · rw [if_neg he]
      have : Nat.beq ll cap = false := by
        cases hb : Nat.beq ll cap with
        | false => rfl
        | true => exact absurd (Nat.eq_of_beq_eq_true hb).symm he
      rw [this]
      show _ = Value.slice (some ⟨l.B, l.o + (off + ll * i.size), none⟩) _ _
      rw [Nat.add_assoc]
theorem bytesOf_of {n d : Nat} {ns : List Int} (hl : ns.length = n) (hd : d < 256 ^ n) (hb : ∀ (i : Nat) (m : Int), ns[i]? = some m → m = ((byteAt d i : Nat) : Int)) :
    ns.foldl (fun r n => r.push (UInt8.ofNat n.toNat)) ByteArray.empty = bytesOf n d := by
  rw [foldl_push_bytes]
  show (⟨(ByteArray.empty.data ++ (ns.map fun n => UInt8.ofNat n.toNat).toArray)⟩ : ByteArray) = ⟨⟨unp n d⟩⟩
  congr 1
  apply Array.ext'
  simp
  apply List.ext_getElem?
  intro i
  rw [List.getElem?_map]
  by_cases hi : i < n
  · have : ns[i]? = some ns[i] := List.getElem?_eq_getElem (by omega)
    rw [this, unp_get _ _ _ hi, hb i _ this]
    simp
  · rw [List.getElem?_eq_none (by omega), List.getElem?_eq_none (by rw [unp_length]; omega)]; rfl
theorem ok_bytesS (H : HR K σ own s.heap w) (hx : VR K σ (X.ev s.tmps) (ρ x)) (ht : P.underlying t = some (.slice e)) (he : P.underlying e = some (.int .u8)) (hu : P.underlying u = some .string) (h : rBytesS X (dP dst) call s = .ok s') :
    StillR P K σ ⟨dst, .convert t u x, ty, pos, af, gd⟩ ρ w s s' := by
  rcases onSl_ok h with ⟨e1, h⟩ | ⟨b, off, n, sz, e1, h⟩
  · rw [e1] at hx
    have hx' : ρ x = .slice none 0 0 := hx
    refine StillR.pure H (v := .str 0 0) (vc := .string (bytesOf 0 0)) ?_ ⟨rfl, by decide⟩ h
    simp [execOp, convert, hx', run_underlying ht, run_underlying hu, run_underlying he, Conv.bytesToString]
    rfl
  · obtain ⟨l, h1, h⟩ := onSome_ok h
    obtain ⟨d, h2, h⟩ := onSome_ok h
    obtain ⟨loc, cp, hl, hp⟩ := hx.sl e1
    obtain ⟨vs, v1, v2, v3⟩ := H.loadN hl h1
    obtain ⟨b1, b2⟩ := bytesIn_spec h2
    have hlen : l.length = n := by rw [← v2.length, v1]
    rw [hlen] at b1
    have hvs : ∃ ns : List Int, vs = ns.map (Value.int .u8) ∧ ∀ (i : Nat) (m : Int), ns[i]? = some m → m = ((byteAt d i : Nat) : Int) := by
      refine ⟨(List.range n).map fun i => ((byteAt d i : Nat) : Int), ?_, fun i m hm => ?_⟩
      · apply List.ext_getElem?
        intro i
        rw [List.map_map, List.getElem?_map]
        by_cases hi : i < n
        · rw [List.getElem?_range hi]
          have hi2 : i < l.length := by omega
          obtain ⟨y, y1, y2⟩ := v2.get (List.getElem?_eq_getElem hi2)
          rw [b2 i _ (List.getElem?_eq_getElem hi2)] at y2
          rw [y1]
          exact congrArg some y2
        · rw [List.getElem?_eq_none (by omega), List.getElem?_eq_none (by simp; omega)]; rfl
      · rw [List.getElem?_map] at hm
        by_cases hi : i < n
        · rw [List.getElem?_range hi] at hm; simpa using hm.symm
        · rw [List.getElem?_eq_none (by simp; omega)] at hm; cases hm
    obtain ⟨ns, rfl, hns⟩ := hvs
    have hload := run_loadCells_list (P := P) w ⟨loc.B, loc.o + off, none⟩ (ns.map (Value.int .u8)) v3
    rw [v1] at hload
    have hrun := run_bytesToString (P := P) w ⟨loc.B, loc.o + off, none⟩ n cp ns hload
    rw [bytesOf_of (by simpa using v1) b1 hns] at hrun
    refine StillR.pure H (v := .str n d) (vc := .string (bytesOf n d)) ?_ ⟨rfl, b1⟩ h
    simp [execOp, convert, hp, run_underlying ht, run_underlying hu, run_underlying he, hrun]
theorem cell_freeze (w : World) (a b : Addr) : (w.freeze b 1).cell? a = w.cell? a := by
  unfold World.freeze
  rw [if_neg (by decide)]
  simp only [World.cell?, Array.getElem?_modify]
  by_cases hb : b.block = a.block
  · simp only [hb, if_true]
    cases hh : w.heap[a.block]? with
    | none => simp
    | some x => cases x <;> simp
  · simp [hb]
theorem heap_freeze (w : World) (b : Addr) {k : Nat} (hk : k ≠ b.block) : (w.freeze b 1).heap[k]? = w.heap[k]? := by
  unfold World.freeze
  rw [if_neg (by decide)]
  simp only [Array.getElem?_modify]
  rw [if_neg (Ne.symm hk)]
theorem size_freeze (w : World) (b : Addr) : (w.freeze b 1).heap.size = w.heap.size := by
  unfold World.freeze
  rw [if_neg (by decide)]
  simp
theorem HR.mark {h : AHeap} (H : HR K σ own h w) {b : Pos} {loc : Loc} (hb : σ b = some loc) {g : Option Pos} {r : Row} (hg : h.get b = some (.cells g false r)) (h0 : 1 ≤ r.size) :
    ∃ c t lo hi, w.heap[loc.B]? = some (.cells c t (lo, hi)) ∧ HR K σ own h (w.freeze ⟨loc.B, c.size, none⟩ 1) := by
  have hB := H.obj b loc hb
  rw [hg] at hB
  obtain ⟨R, hlt, hro, -⟩ := hB
  obtain ⟨hown, hfz⟩ := hro rfl
  obtain ⟨v, hv⟩ := R.cell 0 (by have := R.cap; omega)
  have hcells : ∃ c t lo hi, w.heap[loc.B]? = some (.cells c t (lo, hi)) := by
    unfold World.cell? at hv
    cases hw : w.heap[loc.B]? with
    | none => rw [hw] at hv; cases hv
    | some o =>
      rw [hw] at hv
      cases o with
      | cells c t fr => exact ⟨c, t, fr.1, fr.2, rfl⟩
      | _ => cases hv
  obtain ⟨c, t, lo, hi, hw⟩ := hcells
  refine ⟨c, t, lo, hi, hw, ?_⟩
  have hnew : (w.freeze ⟨loc.B, c.size, none⟩ 1).heap[loc.B]? = some (.cells c t (if lo == hi then (c.size, c.size + 1) else (min lo c.size, max hi (c.size + 1)))) := by
    unfold World.freeze
    rw [if_neg (by decide)]
    simp only [Array.getElem?_modify, if_true, hw, Option.map_some]
  have hno : NoFr (w.freeze ⟨loc.B, c.size, none⟩ 1) loc.B := fun c' t' lo' hi' hc => by
    rw [hnew] at hc
    simp only [Option.some.injEq, Obj.cells.injEq] at hc
    obtain ⟨e1, e2, e3⟩ := hc
    subst e1
    by_cases he : lo = hi
    · subst he
      rw [beq_self_eq_true, if_pos rfl] at e3
      cases e3
      exact .inr (Nat.le_refl _)
    · have hne : (lo == hi) = false := by simpa using he
      rw [hne, if_neg (by decide)] at e3
      cases e3
      refine .inr ?_
      rcases hfz c t lo hi hw with e | e
      · exact absurd e he
      · rw [Nat.min_eq_right e]; exact Nat.le_refl _
  have hbase := (H.owned _ _ hown).1
  refine ⟨H.fresh, fun b' l hl => ?_, H.grp, ⟨?_, ?_, ?_, ?_, fun k hk => ?_⟩, by rw [size_freeze]; exact H.base, fun B tt hB => by rw [size_freeze]; exact H.owned B tt hB, H.off⟩
  · have hx := H.obj b' l hl
    by_cases hlB : l.B = loc.B
    · cases ho : h.get b' with
      | none => trivial
      | some o =>
        rw [ho] at hx
        cases o with
        | dead => trivial
        | cells g' ro' r' =>
          obtain ⟨x1, x2, x3, x4⟩ := hx
          refine ⟨⟨x1.wf, x1.cap, fun i hi => by rw [cell_freeze]; exact x1.cell i hi, fun i x hi => by rw [cell_freeze]; exact x1.val i x hi⟩, by rw [size_freeze]; exact x2, fun e => ⟨(x3 e).1, by rw [hlB]; exact hno⟩, x4⟩
        | map es clock => obtain ⟨x1, ces, x2, x3⟩ := hx; rw [hlB, hw] at x2; cases x2
        | siter n d p => obtain ⟨x1, x2, x3, x4⟩ := hx; rw [hlB, hw] at x3; cases x3
        | ext e =>
          obtain ⟨x1, o, x2, x3⟩ := hx
          rw [hlB, hw] at x2
          cases x2
          cases e with
          | miter => obtain ⟨_, x3, _⟩ := x3; cases x3
          | loop => obtain ⟨_, _, x3, _⟩ := x3; cases x3
          | dfr => cases x3
          | riter => obtain ⟨_, _, _, x3, _⟩ := x3; cases x3
        | rmap es => exact hx
    · exact hx.frame (Env.le.refl σ) (heap_freeze _ _ hlB) rfl (by rw [size_freeze]; exact Nat.le_refl _)
  · rw [← H.below.os]; unfold World.freeze; rw [if_neg (by decide)]
  · rw [← H.below.tape]; unfold World.freeze; rw [if_neg (by decide)]
  · rw [← H.below.output]; unfold World.freeze; rw [if_neg (by decide)]
  · rw [size_freeze]; exact H.below.size
  · rw [heap_freeze _ _ (by simp only; omega)]; exact H.below.block k hk
theorem ok_convSl (H : HR K σ own s.heap w) (hx : VR K σ (X.ev s.tmps) (ρ x)) (ht : P.underlying t = some (.slice e)) (he : P.underlying e = some (.int .u8)) (h : rConvSl X (dP dst) call s = .ok s') :
    Res P K σ own ⟨dst, .convert t t x, ty, pos, af, gd⟩ ρ w s s' := by
  rcases onSlice_ok h with ⟨_, h⟩ | ⟨b, off, n, sz, e1, h⟩
  · cases h
  · obtain ⟨g, ro, r, h1, h⟩ := onRow_ok h
    cases ro with
    | true => cases h
    | false =>
      obtain ⟨h0, h⟩ := ifb_ok (show ifb (Nat.ble 1 (Row.size r)) (setD (dP dst) (.slice b off n sz) s) .fail = .ok s' from h)
      obtain ⟨s1, s2⟩ := setD_ok h
      rw [e1] at hx
      obtain ⟨l, hl, hp⟩ := id hx
      obtain ⟨c, tt, lo, hi, k1, k2⟩ := H.mark hl h1 (Nat.le_of_ble_eq_true h0)
      have hsh : w.shape? l.B = some (tt, c.size) := by unfold World.shape?; rw [k1]
      refine ⟨.slice b off n sz, ρ x, σ, own, _, .inl ?_, by rw [hp]; exact ⟨l, hl, rfl⟩, by rw [s2]; exact Grow.refl _ _, by rw [s2]; exact k2, s1⟩
      rw [hp]
      simp [execOp, hp, convert, run_underlying ht, run_underlying he, markStringish, hsh]
theorem ok_strB (H : HR K σ own s.heap w) (hx : VR K σ (X.ev s.tmps) (ρ x)) (hs : P.underlying t = some .string) (ht : P.underlying u = some (.slice e)) (he : P.underlying e = some (.int .u8)) (h : rStrB X (dP dst) call s = .ok s') :
    Res P K σ own ⟨dst, .convert t u x, ty, pos, af, gd⟩ ρ w s s' := by
  obtain ⟨n, d, e1, h⟩ := onStr_ok h
  obtain ⟨h0, h⟩ := ifb_ok (show ifb (Nat.ble 1 n) (setDH (dP dst) (.slice s.heap.next 0 n 1) s (s.heap.new (.cells none false (.byt n d)))) .fail = .ok s' from h)
  obtain ⟨s1, s2⟩ := setDH_ok h
  rw [e1] at hx
  obtain ⟨hp, hd⟩ := id hx
  have hrun := Go.Lib.run_convert_string_bytes (P := P) w t u e (bytesOf n d) hs ht he
  rw [bytesOf_size] at hrun
  unfold Go.Lib.bytesWorld at hrun
  have hcs : n ≤ (Go.Lib.bytesCells w e (bytesOf n d)).size := by
    unfold Go.Lib.bytesCells
    rw [Array.size_append, Array.size_map]
    have : (bytesOf n d).data.size = n := bytesOf_size n d
    omega
  have hcv : ∀ (i : Nat) (x : AV), (Row.byt n d).get i = some x → ∃ v, (Go.Lib.bytesCells w e (bytesOf n d))[i]? = some v ∧ VR K σ x v := by
    intro i x hi
    rw [Row.get_byt] at hi
    by_cases hin : i < n
    · rw [if_pos hin] at hi
      cases hi
      refine ⟨.int .u8 (byteAt d i : Nat), ?_, rfl⟩
      unfold Go.Lib.bytesCells
      have hsz : (bytesOf n d).data.size = n := bytesOf_size n d
      rw [Array.getElem?_append_left (by rw [Array.size_map]; omega), Array.getElem?_map]
      have hg : (bytesOf n d).data[i]? = some (UInt8.ofNat (byteAt d i)) := by
        show (unp n d).toArray[i]? = _
        rw [List.getElem?_toArray]
        exact unp_get n d i hin
      rw [hg]
      have hlt := byteAt_lt d i
      simp [UInt8.toNat_ofNat', Nat.mod_eq_of_lt hlt]
    · rw [if_neg hin] at hi; cases hi
  have hcz : (Go.Lib.bytesCells w e (bytesOf n d)).size = grownCap w n 0 e := by
    unfold Go.Lib.bytesCells
    rw [Array.size_append, Array.size_map, Array.size_replicate, bytesOf_size]
    have : (bytesOf n d).data.size = n := bytesOf_size n d
    have := grownCap_ge w n 0 e
    omega
  generalize Go.Lib.bytesCells w e (bytesOf n d) = c at hrun hcs hcv hcz
  generalize grownCap w n 0 e = cp at hrun hcz
  have H1 := H.drew.newRow' (.byt n d) c e hd hcs hcv
  have hb : (σ.add s.heap.next ⟨w.drew.heap.size, 0, c.size⟩) s.heap.next = some ⟨w.drew.heap.size, 0, c.size⟩ := Env.add_same _ _ _
  obtain ⟨c', tt, lo, hi, k1, k2⟩ := H1.mark hb (g := none) (r := .byt n d) (by rw [AHeap.get_new, if_pos rfl]) (Nat.le_of_ble_eq_true h0)
  have hnew := heap_alloc_new w.drew (.cells c e)
  simp only at k1 k2
  rw [hnew] at k1
  cases k1
  refine ⟨.slice s.heap.next 0 n 1, .slice (some ⟨w.heap.size, 0, none⟩) n cp, _, _, _, .inl ?_, ?_, ?_, by rw [s2]; exact k2, s1⟩
  · simp [execOp, hp, hrun]
  · refine ⟨⟨w.drew.heap.size, 0, c.size⟩, hb, ?_⟩
    simp only [Nat.sub_zero, Nat.div_one, Nat.add_zero, hcz]
    rfl
  · rw [s2]
    exact Grow.add _ (H.fresh _ (Nat.le_refl _)) rfl
theorem ok_appendC (H : HR K σ own s.heap w) {i : TypeInfo} {z : Value} (T : AppTy P t u e i z) (hx : VR K σ (X.ev s.tmps) (ρ x)) (hy : VR K σ (Y.ev s.tmps) (ρ y))
    (h : rAppendC i.size X Y (dP dst) call s = .ok s') : Res P K σ own ⟨dst, .call ⟨.builtin .append, #[x, y], #[t, u]⟩, ty, pos, af, gd⟩ ρ w s s' := by
  obtain ⟨⟨n, l⟩, h1, h2⟩ := onSome_ok h
  obtain ⟨n', cs, S, hl, hn, e1⟩ := srcL_spec (P := P) H hy rfl h1
  subst e1
  have hc : ∃ b off len cap sz, X.ev s.tmps = .sliceC b off len cap sz ∧ ifb (Nat.ble (Nat.succ cap) (Nat.add len n)) (onSome (s.heap.loadN b off (Nat.mul len i.size)) (fun pre => ifb (Nat.ble (Nat.add len n) 1048576)
      (setDH (dP dst) (.slice s.heap.next 0 (Nat.add len n) i.size) s (s.heap.new (.cells none false (mkRow (appL pre l))))) .fail) .fail) .fail = .ok s' := by
    simp only at h2
    cases hv : X.ev s.tmps <;> rw [hv] at h2 <;> first | exact ⟨_, _, _, _, _, rfl, h2⟩ | cases h2
  obtain ⟨b, off, len, cap, sz, e1, h⟩ := hc
  obtain ⟨g1, h⟩ := ifb_ok h
  obtain ⟨pre, g2, h⟩ := onSome_ok h
  obtain ⟨g3, h⟩ := ifb_ok h
  have hroom : cap < len + n := Nat.le_of_ble_eq_true g1
  have hbig : len + n ≤ 1048576 := Nat.le_of_ble_eq_true g3
  rw [e1] at hx
  obtain ⟨loc, hloc, hp⟩ := hx
  obtain ⟨vs, v1, v2, v3⟩ := H.loadN hloc g2
  have hold : (Builtin.firstCells i.size len (.slice (some ⟨loc.B, loc.o + off, none⟩) len cap)).run P w.drew = .ok vs.toArray w.drew := by
    have := run_loadCells_list (P := P) w.drew ⟨loc.B, loc.o + off, none⟩ vs (fun j u hj => v3 j u hj)
    rw [v1] at this
    exact this
  have hrun := run_append_out (P := P) (ty := ty) T.under T.src T.info T.zero (base := some ⟨loc.B, loc.o + off, none⟩) (sLen := len) (sCap := cap) S hroom hold hbig T.bytes
  have hge := grownCap_ge w (len + n) cap e
  generalize grownCap w (len + n) cap e = cp at hrun hge
  rw [appL_eq] at h
  have hall : VRs K σ (pre ++ l) (vs ++ cs.toList) := v2.append hl
  have hlen : (pre ++ l).length = (len + n) * i.size := by
    have := v2.length
    rw [List.length_append, hn, ← this, v1, Nat.add_mul]; rfl
  have hcs : cs.size = n * i.size := by have := hl.length; rw [hn] at this; simpa using this
  refine Res.grown H (o := ⟨dst, .call ⟨.builtin .append, #[x, y], #[t, u]⟩, ty, pos, af, gd⟩) (l := pre ++ l) (vc := .slice (some ⟨w.heap.size, 0, none⟩) (len + n) cp) (c := vs.toArray ++ cs ++ Builtin.zeroCells z.cells (cp - (len + n))) (e := e) ?_ ?_ ?_ ?_ h
  · simp [execOp, resolve, invoke, builtin, hp, hrun]
  · rw [hlen]
    simp only [Array.size_append, List.size_toArray, v1, hcs]
    rw [Nat.add_mul]
    show len * i.size + n * i.size ≤ Nat.mul len i.size + n * i.size + _
    exact Nat.le_add_right _ _
  · intro j xv hxv
    obtain ⟨vc, h1, h2⟩ := hall.get hxv
    refine ⟨vc, ?_, h2⟩
    have hlt : j < (vs ++ cs.toList).length := (List.getElem?_eq_some_iff.1 h1).1
    rw [Array.getElem?_append_left (by simpa using hlt)]
    rw [← Array.getElem?_toList]
    simpa using h1
  · have hsz : (vs.toArray ++ cs ++ Builtin.zeroCells z.cells (cp - (len + n))).size = cp * i.size := by
      simp only [Array.size_append, List.size_toArray, hcs, size_zeroCells, T.zsize, v1]
      show len * i.size + n * i.size + _ = _
      rw [← Nat.add_mul, ← Nat.add_mul]
      congr 1; omega
    have : VR K (σ.add s.heap.next ⟨w.heap.size, 0, (vs.toArray ++ cs ++ Builtin.zeroCells z.cells (cp - (len + n))).size⟩) (.slice s.heap.next 0 (len + n) i.size) (.slice (some ⟨w.heap.size, 0, none⟩) (len + n) ((vs.toArray ++ cs ++ Builtin.zeroCells z.cells (cp - (len + n))).size / i.size)) := VR.newSlice
    rw [hsz, Nat.mul_div_cancel _ (Nat.pos_of_ne_zero T.ne), ← hsz] at this
    exact this
theorem delK_spec {d : TypeDesc} {kt : TypeId} {kf : AV → Bool} {kv : AV} {kc : Value} (KP : KeyP P kt d kf) (hk : kf kv = true) (hv : VR K σ kv kc) : ∀ (es : List AEnt) (l : List MapEntry) (i : Nat), EntsR K σ es l →
    ∀ v, findK kv es = some (some v) → ∃ (j : Nat) (e : MapEntry), Fnd P kt d kc l i (some (i + j, e.val)) ∧ j < l.length ∧ EntsR K σ (delK kv es) (l.eraseIdx j)
  | [], l, i, h, v, hf => by cases hf
  | e :: es, l, i, h, v, hf => by
    obtain ⟨c, cs, rfl, ⟨h1, h2, h3⟩, hs⟩ := h
    have hdef : findK kv (e :: es) = onSome (akey kv e.key) (fun b => ifb b (some (some e.val)) (findK kv es)) none := rfl
    rw [hdef] at hf
    cases hb : akey kv e.key with
    | none => rw [hb] at hf; cases hf
    | some b =>
      rw [hb] at hf
      obtain ⟨j1, j2, j3⟩ := KP.eq K σ _ _ _ _ _ hk hv h1 hb
      cases b with
      | true =>
        refine ⟨0, c, Fnd.here j1 j2, by simp, ?_⟩
        have : delK kv (e :: es) = es := by simp [delK, hb]
        rw [this]
        exact hs
      | false =>
        obtain ⟨j, e', k1, k2, k3⟩ := delK_spec KP hk hv es cs (i + 1) hs v hf
        refine ⟨j + 1, e', by have := Fnd.later j1 j2 k1; rwa [show i + 1 + j = i + (j + 1) by omega] at this, by simpa using k2, ?_⟩
        have : delK kv (e :: es) = e :: delK kv es := by simp [delK, hb]
        rw [this]
        exact ⟨c, _, by simp, ⟨h1, h2, h3⟩, k3⟩
theorem ok_delete {kt et : TypeId} {d : TypeDesc} {kf : AV → Bool} {k : Operand} {M : Opd} (ht : P.underlying t = some (.map kt et)) (hd : P.underlying kt = some d) (hkf : KeyP P kt d kf)
    (H : HR K σ own s.heap w) (hm : VR K σ (M.ev s.tmps) (ρ x)) (hk : VR K σ (X.ev s.tmps) (ρ k)) (h : rDelM kf M X (dP dst) call s = .ok s') :
    Res P K σ own ⟨dst, .call ⟨.builtin .delete, #[x, k], #[t, u]⟩, ty, pos, af, gd⟩ ρ w s s' := by
  rcases onMap_ok h with ⟨e1, h⟩ | ⟨b, e1, h⟩
  · cases h
  · obtain ⟨es, c, hg, h⟩ := onMapH_ok h
    rw [e1] at hm
    obtain ⟨l, hl, hp⟩ := hm
    have hO := H.obj b l hl
    rw [hg] at hO
    obtain ⟨ho, ces, hc, hes⟩ := hO
    obtain ⟨h1, h⟩ := ifb_ok h
    obtain ⟨r, h2, h⟩ := onSome_ok h
    have hck := hkf.chk K σ _ _ h1 hk ces.isEmpty w
    cases r with
    | none =>
      obtain ⟨f1, f2⟩ := findK_spec hkf h1 hk es ces.toList 0 hes
      have hf := run_fnd (P := P) (w := w) hd (f1 h2)
      refine Res.heap (h' := s.heap.setObj b (.map es c)) (w' := { w with heap := w.heap.setIfInBounds l.B (.map ces c) }) (.inl ?_) (v := .tup []) (vc := .tuple #[]) ⟨_, rfl, VRs.nil⟩
        (H.setBlock hl ho (fun p ro r e => by cases e) ⟨ho, _, (heap_set hc).1, hes⟩) rfl h
      simp [execOp, resolve, invoke, builtin, Builtin.delete_, run_underlying ht, MapKept.run_getObj_map hc, hck, hf, run_setObj_map _ hc, hp]
    | some v =>
      obtain ⟨j, e, hf, hj, hset⟩ := delK_spec hkf h1 hk es ces.toList 0 hes v h2
      rw [Nat.zero_add] at hf
      have hf := run_fnd (P := P) (w := w) hd hf
      have hj' : j < ces.size := by simpa using hj
      refine Res.heap (h' := s.heap.setObj b (.map (delK (X.ev s.tmps) es) c)) (w' := { w with heap := w.heap.setIfInBounds l.B (.map (ces.eraseIdxIfInBounds j) c) }) (.inl ?_) (v := .tup []) (vc := .tuple #[]) ⟨_, rfl, VRs.nil⟩
        (H.setBlock hl ho (fun p ro r e => by cases e) ⟨ho, _, (heap_set hc).1, ?_⟩) rfl h
      · simp [execOp, resolve, invoke, builtin, Builtin.delete_, run_underlying ht, MapKept.run_getObj_map hc, hck, hf, run_setObj_map _ hc, hp]
      · rw [Array.eraseIdxIfInBounds, dif_pos hj']
        simpa using hset
theorem repL_VRs' {Z : List AV} {z : Array Value} (h : VRs K σ Z z.toList) (n : Nat) : VRs K σ (repL Z n) (Builtin.zeroCells z n).toList := repL_VRs h n
theorem ok_clear {i : TypeInfo} {z : Value} {Z : List AV} (H : HR K σ own s.heap w) (hx : VR K σ (X.ev s.tmps) (ρ x)) (ht : P.underlying t = some (.slice e)) (hi : P.info? e = some i) (hz : i.zero = some z) (hZ : VRs K σ Z z.cells.toList)
    (h : rClear i.size Z X (dP dst) call s = .ok s') : Res P K σ own ⟨dst, .call ⟨.builtin .clear, #[x], #[t]⟩, ty, pos, af, gd⟩ ρ w s s' := by
  rcases onSl_ok h with ⟨e1, h⟩ | ⟨b, off, n, sz, e1, h⟩
  · rw [e1] at hx
    have hx' : ρ x = .slice none 0 0 := hx
    refine Res.pure H (v := .tup []) (vc := .tuple #[]) ?_ ⟨_, rfl, VRs.nil⟩ h
    simp [execOp, resolve, invoke, builtin, Builtin.clear_, hx', run_underlying ht]
  · obtain ⟨l, cp, hl, hp⟩ := hx.sl e1
    cases hb : Nat.beq n 0 with
    | true =>
      rw [hb] at h
      obtain rfl := Nat.eq_of_beq_eq_true hb
      refine Res.pure H (v := .tup []) (vc := .tuple #[]) ?_ ⟨_, rfl, VRs.nil⟩ h
      simp [execOp, resolve, invoke, builtin, Builtin.clear_, hp, run_underlying ht]
    | false =>
      rw [hb] at h
      obtain ⟨h', h3, h4⟩ := onSome_ok h
      have hn : n ≠ 0 := fun e => by subst e; cases hb
      obtain ⟨w', i1, i2, i3⟩ := H.storeN (P := P) hl (vs := (Builtin.zeroCells z.cells n).toList) (repL_VRs' hZ n) h3
      refine Res.heap (w' := w') (v := .tup []) (vc := .tuple #[]) (.inl ?_) ⟨_, rfl, VRs.nil⟩ i2 i3 h4
      simp [execOp, resolve, invoke, builtin, Builtin.clear_, hp, run_underlying ht, run_zeroValue hi hz, i1, hn]
theorem run_sliceBounds3 {len cap l h m : Nat} {lo : Option Value} {vh vm : Value} {k1 k2 : IntKind} (h1 : vh = .int k1 h) (h2 : vm = .int k2 m) (hm : m ≤ cap) (hh : h ≤ m) (h3 : OptB lo 0 l) (h4 : l ≤ h) :
    (Instr.sliceBounds true len cap lo (some vh) (some vm)).run P w = .ok (l, h, m) w := by
  subst h1; subst h2
  cases lo with
  | none =>
    have : l = 0 := h3
    subst this
    simp [Instr.sliceBounds, Instr.sliceBound, asIntOf, hm, hh]
  | some v =>
    obtain ⟨k, rfl⟩ := h3
    simp [Instr.sliceBounds, Instr.sliceBound, asIntOf, hm, hh, h4]
theorem ok_slice3 {lo : Option Operand} {hi mx : Operand} {LO : Option Opd} {HI MX : Opd} {i : TypeInfo} (H : HR K σ own s.heap w) (hx : VR K σ (X.ev s.tmps) (ρ x)) (hlo : OptR K σ s.tmps ρ LO lo) (hhi : VR K σ (HI.ev s.tmps) (ρ hi)) (hmx : VR K σ (MX.ev s.tmps) (ρ mx))
    (ht : P.underlying t = some (.slice e)) (hie : P.info? e = some i) (h0 : i.size ≠ 0) (h : rSlice3 i.size X LO HI MX (dP dst) call s = .ok s') :
    StillR P K σ ⟨dst, .slice t x lo (some hi) (some mx), ty, pos, af, gd⟩ ρ w s s' := by
  rcases onSlice_ok h with ⟨_, h⟩ | ⟨b, off, len, sz, e1, h⟩
  · cases h
  · obtain ⟨hs, h8⟩ := ifb_ok h
    have := Nat.eq_of_beq_eq_true hs
    subst this
    obtain ⟨mm, h1, h⟩ := onSome_ok h8
    obtain ⟨hh, h2, h⟩ := onSome_ok h
    obtain ⟨ll, h3, h⟩ := onSome_ok h
    obtain ⟨h4, h⟩ := ifb_ok h
    obtain ⟨h5, h⟩ := ifb_ok h
    obtain ⟨g, ro, r, h6, h⟩ := onRow_ok h
    obtain ⟨h7, h⟩ := ifb_ok h
    have hle : ll ≤ hh := Nat.le_of_ble_eq_true h4
    have hhm : hh ≤ mm := Nat.le_of_ble_eq_true h5
    have hsz : off + mm * i.size ≤ r.size := Nat.le_of_ble_eq_true h7
    rw [e1] at hx
    obtain ⟨l, hl, hp⟩ := hx
    obtain ⟨b1, b2⟩ := H.bounds hl h6 h0 hsz
    obtain ⟨km, hm⟩ : OptB ((some mx).map ρ) 0 mm := optNat_B (K := K) (σ := σ) (s := s) (ρ := ρ) (L := some MX) (m := some mx) ⟨mx, rfl, hmx⟩ h1
    obtain ⟨kh, hhv⟩ : OptB ((some hi).map ρ) 0 hh := optNat_B (K := K) (σ := σ) (s := s) (ρ := ρ) (L := some HI) (m := some hi) ⟨hi, rfl, hhi⟩ h2
    have hr := run_sliceBounds3 (P := P) (w := w) (len := len) (cap := (l.C - off) / i.size) hhv hm b1 hhm (optNat_B hlo h3) hle
    refine StillR.pure H (v := .sliceC b (ifb (Nat.beq ll mm) off (off + ll * i.size)) (hh - ll) (mm - ll) i.size) (vc := .slice (some (if mm = ll then ⟨l.B, l.o + off, none⟩ else ⟨l.B, l.o + off + ll * i.size, none⟩)) (hh - ll) (mm - ll)) ?_ ⟨l, hl, ?_⟩ h
    · simp [execOp, hp, Instr.sliceAt, Instr.slice, run_underlying ht, hr, run_sizeOf hie, add_none]
      split <;> rfl
    · by_cases he : mm = ll
      · subst he
        rw [Nat.beq_refl, if_pos rfl]; rfl
      · rw [if_neg he]
        have : Nat.beq ll mm = false := by
          cases hb : Nat.beq ll mm with
          | false => rfl
          | true => exact absurd (Nat.eq_of_beq_eq_true hb).symm he
        rw [this]
        show _ = Value.slice (some ⟨l.B, l.o + (off + ll * i.size), none⟩) _ _
        rw [Nat.add_assoc]
theorem findKE_spec {d : TypeDesc} {kt : TypeId} {kf : AV → Bool} {kv : AV} {kc : Value} (KP : KeyP P kt d kf) (hk : kf kv = true) (hv : VR K σ kv kc) : ∀ (es : List AEnt) (l : List MapEntry) (i : Nat), EntsR K σ es l →
    (findKE kv es = some none → Fnd P kt d kc l i none) ∧
    (∀ a, findKE kv es = some (some a) → ∃ (j : Nat) (e : MapEntry), Fnd P kt d kc l i (some (i + j, e.val)) ∧ l[j]? = some e ∧ e.key = kc ∧ EntR K σ a e)
  | [], l, i, h => by
    simp only [EntsR] at h; subst h
    exact ⟨fun _ => Fnd.none_nil, fun v hv => by cases hv⟩
  | x :: es, l, i, h => by
    obtain ⟨c, cs, rfl, ⟨h1, h2, h3⟩, hs⟩ := h
    obtain ⟨i1, i2⟩ := findKE_spec KP hk hv es cs (i + 1) hs
    have hdef : findKE kv (x :: es) = onSome (akey kv x.key) (fun b => ifb b (some (some x)) (findKE kv es)) none := rfl
    rw [hdef]
    cases hb : akey kv x.key with
    | none => exact ⟨fun h => by (cases h), fun v h => by (cases h)⟩
    | some b =>
      obtain ⟨j1, j2, j3⟩ := KP.eq K σ _ _ _ _ _ hk hv h1 hb
      cases b with
      | true =>
        refine ⟨fun h => by (cases h), fun v hh => ?_⟩
        cases hh
        exact ⟨0, c, Fnd.here j1 j2, rfl, j3 rfl, h1, h2, h3⟩
      | false =>
        refine ⟨fun h => Fnd.later j1 j2 (i1 h), fun v hh => ?_⟩
        obtain ⟨j, e', k1, k2, k3, k4⟩ := i2 v hh
        exact ⟨j + 1, e', by have := Fnd.later j1 j2 k1; rwa [show i + 1 + j = i + (j + 1) by omega] at this, by simpa using k2, k3, k4⟩
theorem modify_same {α : Type} {f : α → α} : ∀ {l : List α} {j : Nat} {a : α}, l[j]? = some a → f a = a → l.modify j f = l
  | [], j, a, h, hf => by simp at h
  | x :: l, 0, a, h, hf => by
    have : x = a := by simpa using h
    subst this
    simp [List.modify, hf]
  | x :: l, j + 1, a, h, hf => by
    have := modify_same (l := l) (j := j) (by simpa using h) hf
    simpa using this
theorem ok_mapEntry {kt et : TypeId} {d : TypeDesc} {kf : AV → Bool} {k : Operand} {M : Opd} {z : Value} {Z : AV} {i : TypeInfo} (ht : P.underlying t = some (.map kt et)) (hd : P.underlying kt = some d) (hkf : KeyP P kt d kf)
    (hi : P.info? et = some i) (hz : i.zero = some z) (hZ : CV1 Z z)
    (H : HR K σ own s.heap w) (hm : VR K σ (M.ev s.tmps) (ρ x)) (hk : VR K σ (X.ev s.tmps) (ρ k)) (h : rMapEntry kf Z M X (dP dst) call s = .ok s') :
    Res P K σ own ⟨dst, .mapEntry t x k, ty, pos, af, gd⟩ ρ w s s' := by
  rcases onMap_ok h with ⟨e1, h⟩ | ⟨b, e1, h⟩
  · cases h
  · obtain ⟨es, c, hg, h⟩ := onMapH_ok h
    rw [e1] at hm
    obtain ⟨l, hl, hp⟩ := hm
    have hO := H.obj b l hl
    rw [hg] at hO
    obtain ⟨ho, ces, hc, hes⟩ := hO
    obtain ⟨h1, h⟩ := ifb_ok h
    obtain ⟨r, h2, h⟩ := onSome_ok h
    have hck := hkf.chk K σ _ _ h1 hk false w
    obtain ⟨f1, f2⟩ := findKE_spec hkf h1 hk es ces.toList 0 hes
    cases r with
    | none =>
      have hf := run_fnd (P := P) (w := w) hd (f1 h2)
      refine Res.heap (h' := s.heap.setObj b (.map (addE ⟨X.ev s.tmps, Z, c⟩ es) (Nat.succ c))) (w' := { w with heap := w.heap.setIfInBounds l.B (.map (ces.push { key := ρ k, val := z, born := c }) (c + 1)) }) (v := .tup [Z, zi c]) (vc := .tuple #[z, goInt c]) (.inl ?_) ⟨_, rfl, VRs.cons (hZ K σ) (VRs.cons .mkInt VRs.nil)⟩
        (H.setBlock hl ho (fun p ro r e => by cases e) ⟨ho, _, (heap_set hc).1, ?_⟩) rfl h
      · simp [execOp, Instr.mapEntry, run_underlying ht, hp, MapKept.run_getObj_map hc, hck, hf, run_zeroValue hi hz, run_setObj_map _ hc]
      · rw [addE_eq]
        simp only [Array.toList_push]
        exact hes.push ⟨hk, hZ K σ, rfl⟩
    | some a =>
      obtain ⟨j, e', hf, hj, hek, ha1, ha2, ha3⟩ := f2 a h2
      rw [Nat.zero_add] at hf
      have hf := run_fnd (P := P) (w := w) hd hf
      have hj' : ces[j]? = some e' := by rw [← Array.getElem?_toList]; exact hj
      have hst : (Instr.keyThatStays (((ces[j]?).map (·.key)).getD (ρ k)) (ρ k)).run P w = .ok (ρ k) w := by
        rw [hj']
        simp only [Option.map_some, Option.getD_some, hek]
        unfold Instr.keyThatStays
        rw [hkf.same K σ _ _ h1 hk]
        rfl
      have hst' : (Instr.keyThatStays e'.key (ρ k)).run P w = .ok (ρ k) w := by rw [hj'] at hst; exact hst
      refine Res.heap (h' := s.heap.setObj b (.map es c)) (w' := { w with heap := w.heap.setIfInBounds l.B (.map (ces.modify j fun e => { e with key := ρ k }) c) }) (v := .tup [a.val, zi a.born]) (vc := .tuple #[e'.val, goInt a.born]) (.inl ?_) ⟨_, rfl, VRs.cons ha2 (VRs.cons .mkInt VRs.nil)⟩
        (H.setBlock hl ho (fun p ro r e => by cases e) ⟨ho, _, (heap_set hc).1, ?_⟩) rfl h
      · simp [execOp, Instr.mapEntry, run_underlying ht, hp, MapKept.run_getObj_map hc, hck, hf, hj', hst', run_setObj_map _ hc, ha3]
      · rw [Array.toList_modify, modify_same hj (by rw [← hek])]
        exact hes
theorem setBorn_spec {n : Nat} {v : AV} {vc : Value} (hv : VR K σ v vc) : ∀ {es es' : List AEnt} {l : List MapEntry}, EntsR K σ es l → setBorn n v es = some es' →
    ∃ j, l.findIdx? (fun e => ((e.born : Nat) : Int) == (n : Int)) = some j ∧ EntsR K σ es' (l.modify j fun e => { e with val := vc })
  | [], es', l, h, hs => by cases hs
  | x :: es, es', l, h, hs => by
    obtain ⟨c, cs, rfl, ⟨h1, h2, h3⟩, h4⟩ := h
    have hs : ifb (Nat.beq x.born n) (some (⟨x.key, v, x.born⟩ :: es)) (onSome (setBorn n v es) (fun l' => some (x :: l')) none) = some es' := hs
    cases hb : Nat.beq x.born n with
    | true =>
      rw [hb] at hs
      cases hs
      have := Nat.eq_of_beq_eq_true hb
      refine ⟨0, ?_, ?_⟩
      · rw [List.findIdx?_cons]; simp [h3, this]
      · exact ⟨{ c with val := vc }, cs, by simp [List.modify], ⟨h1, hv, h3⟩, h4⟩
    | false =>
      rw [hb] at hs
      obtain ⟨l', k1, k2⟩ := onSome_eq (show onSome (setBorn n v es) (fun l' => some (x :: l')) none = some es' from hs)
      cases k2
      obtain ⟨j, q1, q2⟩ := setBorn_spec hv h4 k1
      have hne : ¬ x.born = n := fun e => by subst e; rw [Nat.beq_refl] at hb; cases hb
      refine ⟨j + 1, ?_, ?_⟩
      · rw [List.findIdx?_cons]
        have : (((c.born : Nat) : Int) == (n : Int)) = false := by
          rw [h3]
          simp
          omega
        rw [this]
        simp [q1]
      · exact ⟨c, _, by simp [List.modify], ⟨h1, h2, h3⟩, q2⟩
theorem ok_entryStore {M N : Opd} {m n : Operand} (H : HR K σ own s.heap w) (hm : VR K σ (M.ev s.tmps) (ρ m)) (hn : VR K σ (N.ev s.tmps) (ρ n)) (hy : VR K σ (Y.ev s.tmps) (ρ y)) (h : rEntryStore M N Y (dP dst) call s = .ok s') :
    Res P K σ own ⟨dst, .entryStore t m n y, ty, pos, af, gd⟩ ρ w s s' := by
  rcases onMap_ok h with ⟨e1, h⟩ | ⟨b, e1, h⟩
  · cases h
  · obtain ⟨es, c, hg, h⟩ := onMapH_ok h
    rw [e1] at hm
    obtain ⟨l, hl, hp⟩ := hm
    have hO := H.obj b l hl
    rw [hg] at hO
    obtain ⟨ho, ces, hc, hes⟩ := hO
    obtain ⟨kk, st, e2, h⟩ := onNat_ok h
    obtain ⟨es', h1, h⟩ := onSome_ok h
    rw [e2] at hn
    obtain ⟨j, q1, q2⟩ := setBorn_spec hy hes h1
    have q1' : ces.findIdx? (fun e => ((e.born : Nat) : Int) == (st : Int)) = some j := by
      obtain ⟨cl⟩ := ces
      rw [List.findIdx?_toArray]
      exact q1
    refine Res.heap (h' := s.heap.setObj b (.map es' c)) (w' := { w with heap := w.heap.setIfInBounds l.B (.map (ces.modify j fun e => { e with val := ρ y }) c) }) (v := .undef) (vc := Go.undef) (.inr ⟨?_, rfl⟩) VR.undef
      (H.setBlock hl ho (fun p ro r e => by cases e) ⟨ho, _, (heap_set hc).1, ?_⟩) rfl h
    · simp [execOp, Instr.entryStore, hp, hn.int, asInt, asIntOf, MapKept.run_getObj_map hc, q1', run_setObj_map _ hc]
    · rw [Array.toList_modify]; exact q2
theorem wrap_n20 {n : Nat} (h : n ≤ 1048576) : IntKind.i64.wrap (n : Int) = (n : Int) := by
  have := wrapN_eq .i64 (Int.ofNat n)
  rw [show ((n : Nat) : Int) = Int.ofNat n from rfl, ← this]
  show ifb (Nat.ble _ 9223372036854775807) _ _ = _
  rw [Nat.ble_eq_true_of_le (by omega)]; rfl
theorem ok_max3 {X Y Z : Opd} {x y z : Operand} (H : HR K σ own s.heap w) (hx : VR K σ (X.ev s.tmps) (ρ x)) (hy : VR K σ (Y.ev s.tmps) (ρ y)) (hz : VR K σ (Z.ev s.tmps) (ρ z)) (h : rMax3 X Y Z (dP dst) call s = .ok s') {A : Array TypeId} : StillR P K σ ⟨dst, .call ⟨.builtin .max, #[x, y, z], A⟩, ty, pos, af, gd⟩ ρ w s s' := by
  obtain ⟨k, a, e1, h⟩ := onInt_ok h
  obtain ⟨k1, b, e2, h⟩ := onInt_ok h
  obtain ⟨k2, c, e3, h⟩ := onInt_ok h
  obtain ⟨q1, h4⟩ := ifb_ok h
  obtain ⟨q2, h5⟩ := ifb_ok h4
  have := keq_iff q1; subst this
  have := keq_iff q2; subst this
  rw [e1] at hx; rw [e2] at hy; rw [e3] at hz
  refine StillR.pure H (vc := .int k (if c > (if b > a then b else a) then c else (if b > a then b else a))) ?_ ?_ h5
  · simp [execOp, resolve, invoke, builtin, Builtin.max_, Builtin.max2, hx.int, hy.int, hz.int]
  · rw [ilt_eq, ilt_eq, ifb_decide, ifb_decide]; exact .mkInt
theorem ok_max4 {X Y Z U : Opd} {x y z u : Operand} (H : HR K σ own s.heap w) (hx : VR K σ (X.ev s.tmps) (ρ x)) (hy : VR K σ (Y.ev s.tmps) (ρ y)) (hz : VR K σ (Z.ev s.tmps) (ρ z)) (hu : VR K σ (U.ev s.tmps) (ρ u)) (h : rMax4 X Y Z U (dP dst) call s = .ok s') {A : Array TypeId} : StillR P K σ ⟨dst, .call ⟨.builtin .max, #[x, y, z, u], A⟩, ty, pos, af, gd⟩ ρ w s s' := by
  obtain ⟨k, a, e1, h⟩ := onInt_ok h
  obtain ⟨k1, b, e2, h⟩ := onInt_ok h
  obtain ⟨k2, c, e3, h⟩ := onInt_ok h
  obtain ⟨k3, e, e4, h⟩ := onInt_ok h
  obtain ⟨q1, h4⟩ := ifb_ok h
  obtain ⟨q2, h5⟩ := ifb_ok h4
  obtain ⟨q3, h6⟩ := ifb_ok h5
  have := keq_iff q1; subst this
  have := keq_iff q2; subst this
  have := keq_iff q3; subst this
  rw [e1] at hx; rw [e2] at hy; rw [e3] at hz; rw [e4] at hu
  refine StillR.pure H (vc := .int k (if e > (if c > (if b > a then b else a) then c else (if b > a then b else a)) then e else (if c > (if b > a then b else a) then c else (if b > a then b else a)))) ?_ ?_ h6
  · simp [execOp, resolve, invoke, builtin, Builtin.max_, Builtin.max2, hx.int, hy.int, hz.int, hu.int]
  · rw [ilt_eq, ilt_eq, ilt_eq, ifb_decide, ifb_decide, ifb_decide]; exact .mkInt
theorem AppRun.zeros {i : TypeInfo} {z : Value} {k ku : IntKind} {n : Nat} (ht : P.underlying t = some (.slice e)) (hu : P.underlying u = some (.int ku))
    (hi : P.info? e = some i) (hz : i.zero = some z) (h0 : i.size ≠ 0) (hby : i.bytes ≤ 16777216) (hn : n ≠ 0) (hbig : n ≤ 1048576) : AppRun P t u ty e i z w (.int k (n : Int)) n (Builtin.zeroCells z.cells n) := by
  have hneg : ¬ ((n : Int) < 0) := by omega
  have hmul : ¬ ((n : Int) * (i.bytes : Int) > 281474976710656) := by
    have h3 : n * i.bytes ≤ 1048576 * 16777216 := Nat.mul_le_mul hbig hby
    have h4 : ((n * i.bytes : Nat) : Int) ≤ 1048576 * 16777216 := by omega
    rw [Int.natCast_mul] at h4
    omega
  have hbits : (2 : Nat) ^ 48 = 281474976710656 := rfl
  have hbitsI : (2 : Int) ^ 48 = 281474976710656 := rfl
  have hnn : ¬ (n * i.size = 0) := Nat.mul_ne_zero hn h0
  refine ⟨fun {a sLen sCap w'} h1 h2 => ?_, fun {base sLen sCap olds} hroom hold hb => ?_⟩
  · simp only [Builtin.append_, run_underlying ht, run_underlying hu, run_sizeOf hi, asInt, asIntOf, wrap_n20 hbig, Int.toNat_natCast, hneg, Sem.run_bind, Result.andThen_ok, List.getElem?_toArray, List.getElem?_cons_zero, List.getElem?_cons_succ, Sem.run_pure, Bool.false_eq_true, if_true, if_false, if_pos h1, IntKind.max_i64, false_and, run_typeInfo hi, hbits, hbitsI, hmul, Bool.not_false, Bool.not_true, hnn, run_zeroValue hi hz, h2]
  · have key := append_tail (P := P) (w := w) (e := e) hi hz (sLen := sLen) (sCap := sCap) (n := n) (cs := Builtin.zeroCells z.cells n) (olds := olds) (A := Builtin.firstCells i.size sLen (.slice base sLen sCap)) (B := if n * i.size = 0 then pure #[] else do pure (Builtin.zeroCells (← zeroValue e).cells n)) hroom hold
      (by rw [if_neg hnn]; simp [run_zeroValue hi hz])
    have h48 : ¬ (Builtin.nextslicecap (sLen + n) sCap * i.bytes > 281474976710656) := by
      have := growslice_fits hroom (bytes := i.bytes) (by
        have : (sLen + n) * i.bytes ≤ 1048576 * 16777216 := Nat.mul_le_mul hb hby
        omega)
      omega
    have h63 : ¬ (((sLen + n : Nat) : Int) > 9223372036854775807) := by omega
    have hr : ¬ (sLen + n ≤ sCap) := by omega
    simp only [Builtin.append_, run_underlying ht, run_underlying hu, run_sizeOf hi, asInt, asIntOf, wrap_n20 hbig, Int.toNat_natCast, hneg, Sem.run_bind, Result.andThen_ok, List.getElem?_toArray, List.getElem?_cons_zero, List.getElem?_cons_succ, Sem.run_pure, Bool.false_eq_true, if_true, if_false, if_neg hr, IntKind.max_i64, h63, false_and, run_typeInfo hi, hbits, hbitsI, h48, hmul, Bool.not_false, Bool.not_true] at key ⊢
    exact key
theorem ok_appendZ {i : TypeInfo} {z : Value} {Z : List AV} {ku : IntKind} (H : HR K σ own s.heap w) (hx : VR K σ (X.ev s.tmps) (ρ x)) (hy : VR K σ (Y.ev s.tmps) (ρ y)) (ht : P.underlying t = some (.slice e)) (hu : P.underlying u = some (.int ku))
    (hi : P.info? e = some i) (hz : i.zero = some z) (hzs : z.cells.size = i.size) (h0 : i.size ≠ 0) (hby : i.bytes ≤ 16777216) (hZ : VRs K σ Z z.cells.toList)
    (h : rAppendZ i.size Z X Y (dP dst) call s = .ok s') : Res P K σ own ⟨dst, .call ⟨.builtin .append, #[x, y], #[t, u]⟩, ty, pos, af, gd⟩ ρ w s s' := by
  obtain ⟨k, n, e2, h⟩ := onNat_ok h
  rw [e2] at hy
  have hy' : ρ y = .int k (n : Int) := hy
  rcases onSlice_ok h with ⟨e1, h⟩ | ⟨b, off, len, sz, e1, h⟩
  · rw [e1] at hx
    have hx' : ρ x = .slice none 0 0 := hx
    cases hb : Nat.beq n 0 with
    | true => rw [hb] at h; cases h
    | false =>
      rw [hb] at h
      have hn : n ≠ 0 := fun e => by subst e; cases hb
      obtain ⟨h1, h⟩ := ifb_ok (show ifb (Nat.ble n 1048576) (setDH (dP dst) (.slice s.heap.next 0 n i.size) s (s.heap.new (.cells none false (zeroRow Z n i.size)))) .fail = .ok s' from h)
      have hbig : n ≤ 1048576 := Nat.le_of_ble_eq_true h1
      obtain ⟨s1, s2⟩ := setDH_ok h
      have hroom : (0 : Nat) < 0 + n := by omega
      have key := append_tail (P := P) (w := w) (e := e) hi hz (sLen := 0) (sCap := 0) (n := n) (cs := Builtin.zeroCells z.cells n) (olds := #[]) (A := Builtin.firstCells i.size 0 (.slice none 0 0)) (B := if n * i.size = 0 then pure #[] else do pure (Builtin.zeroCells (← zeroValue e).cells n)) hroom rfl
        (by rw [if_neg (Nat.mul_ne_zero hn h0)]; simp [run_zeroValue hi hz])
      have hge := grownCap_ge w (0 + n) 0 e
      have h48 : ¬ (Builtin.nextslicecap (0 + n) 0 * i.bytes > 281474976710656) := by
        have := growslice_fits hroom (bytes := i.bytes) (by
          have : (0 + n) * i.bytes ≤ 1048576 * 16777216 := Nat.mul_le_mul (by omega) hby
          omega)
        omega
      have h63 : ¬ (((0 + n : Nat) : Int) > 9223372036854775807) := by omega
      have hr : ¬ (0 + n ≤ 0) := by omega
      have hneg : ¬ ((n : Int) < 0) := by omega
      have hmul : ¬ ((n : Int) * (i.bytes : Int) > 281474976710656) := by
        have h3 : n * i.bytes ≤ 1048576 * 16777216 := Nat.mul_le_mul hbig hby
        have h4 : ((n * i.bytes : Nat) : Int) ≤ 1048576 * 16777216 := by omega
        rw [Int.natCast_mul] at h4
        omega
      have hbits : (2 : Nat) ^ 48 = 281474976710656 := rfl
      have hbitsI : (2 : Int) ^ 48 = 281474976710656 := rfl
      have hrun : (Builtin.append_ #[t, u] ty #[.slice none 0 0, .int k (n : Int)]).run P w = .ok (.slice (some ⟨w.heap.size, 0, none⟩) (0 + n) (grownCap w (0 + n) 0 e))
          (w.drew.alloc (.cells (#[] ++ Builtin.zeroCells z.cells n ++ Builtin.zeroCells z.cells (grownCap w (0 + n) 0 e - (0 + n))) e)) := by
        simp only [Builtin.append_, run_underlying ht, run_underlying hu, run_sizeOf hi, asInt, asIntOf, wrap_n20 hbig, Int.toNat_natCast, hneg, Sem.run_bind, Result.andThen_ok, List.getElem?_toArray, List.getElem?_cons_zero, List.getElem?_cons_succ, Sem.run_pure, Bool.false_eq_true, if_true, if_false, if_neg hr, IntKind.max_i64, h63, false_and, run_typeInfo hi, hbits, hbitsI, h48, hmul, Bool.not_false, Bool.not_true] at key ⊢
        exact key
      generalize grownCap w (0 + n) 0 e = cp at hrun hge
      have hZl : Z.length = i.size := by have := hZ.length; rw [← hzs]; simpa using this.symm
      obtain ⟨z1, z2, z3⟩ := zeroRow_spec Z n
      rw [hZl] at z1 z2 z3
      obtain ⟨r1, r2⟩ := VRs.row (c := Builtin.zeroCells z.cells n) (repL_VRs' hZ n)
      have hzc : (Builtin.zeroCells z.cells n).size = n * i.size := by rw [size_zeroCells, hzs]
      have hcs : (#[] ++ Builtin.zeroCells z.cells n ++ Builtin.zeroCells z.cells (cp - (0 + n))).size = cp * i.size := by
        simp only [Array.size_append, List.size_toArray, List.length_nil, size_zeroCells, hzs, Nat.zero_add]
        rw [← Nat.add_mul]
        congr 1; omega
      refine ⟨.slice s.heap.next 0 n i.size, .slice (some ⟨w.heap.size, 0, none⟩) n cp, _, _, _, .inl ?_, ⟨⟨w.heap.size, 0, (#[] ++ Builtin.zeroCells z.cells n ++ Builtin.zeroCells z.cells (cp - (0 + n))).size⟩, Env.add_same _ _ _, ?_⟩, ?_, by
        rw [s2]
        exact H.drew.newRow' _ (#[] ++ Builtin.zeroCells z.cells n ++ Builtin.zeroCells z.cells (cp - (0 + n))) e z1 (by rw [z2, hcs]; exact Nat.mul_le_mul_right _ (by omega)) (fun j xv hj => by
          rw [z3] at hj
          obtain ⟨vc, k1, k2⟩ := r2 j xv hj
          refine ⟨vc, ?_, k2⟩
          have hlt : j < (Builtin.zeroCells z.cells n).size := (Array.getElem?_eq_some_iff.1 k1).1
          rw [Array.empty_append, Array.getElem?_append_left hlt]; exact k1), s1⟩
      · rw [Nat.zero_add] at hrun
        simp [execOp, resolve, invoke, builtin, hx', hy', hrun]
      · show _ = Value.slice (some ⟨w.heap.size, 0 + 0, none⟩) n ((Array.size _ - 0) / i.size)
        rw [hcs, Nat.sub_zero, Nat.mul_div_cancel _ (Nat.pos_of_ne_zero h0)]
      · rw [s2]; exact Grow.add _ (H.fresh _ (Nat.le_refl _)) rfl
  · obtain ⟨hsz, h5⟩ := ifb_ok h
    have := Nat.eq_of_beq_eq_true hsz; subst this
    obtain ⟨hn0, h6⟩ := ifb_ok h5
    have hn1 : 1 ≤ n := Nat.le_of_ble_eq_true hn0
    rw [e1] at hx
    obtain ⟨loc, hl0, hp⟩ := hx
    obtain ⟨g, ro, r, hg, h⟩ := onRow_ok h6
    have R := H.row hl0 hg
    cases ro with
    | true => cases h
    | false =>
      rw [ifb_false'] at h
      obtain ⟨pre, hpre, h⟩ := onSome_ok h
      obtain ⟨hbig, h⟩ := ifb_ok h
      obtain ⟨hcell, h⟩ := ifb_ok h
      have hbig' : len + n ≤ 1048576 := Nat.le_of_ble_eq_true hbig
      obtain ⟨r0, hup, h⟩ := onSome_ok h
      obtain ⟨r1, hwi, h⟩ := onSome_ok h
      obtain ⟨old, hold, hR0⟩ := Row.upTo_spec R.wf hup
      obtain ⟨pre', hpre', hR1⟩ := Row.withL_spec R.wf hwi
      obtain rfl : pre' = pre := Option.some.inj (hpre'.symm.trans hpre)
      have hl := repL_VRs' hZ n
      have hZl : Z.length = i.size := by have := hZ.length; rw [← hzs]; simpa using this.symm
      have hlen : (repL Z n).length = n * i.size := by
        have := hl.length
        rw [← this]
        simp [size_zeroCells, hzs]
      exact append_any H hl0 hg hzs h0 (AppRun.zeros ht hu hi hz h0 hby (by omega) (by omega)) hl hlen hpre hold hbig' hcell (by omega) hR0 hR1 hp hy' h
end
end Go.Eng
namespace Go.Eng
open Go.RowKit
theorem num_posOf (n : Nat) : (posOf n).num = Pos.h.num + n := by
  induction n with
  | zero => rfl
  | succ n ih => show (posOf n).succ.num = _; rw [Pos.num_succ, ih]; omega
theorem posOf_inj {m n : Nat} (h : posOf m = posOf n) : m = n := by
  have := congrArg Pos.num h
  rw [num_posOf, num_posOf] at this
  omega
def TR (K : Ctx) (σ : Env) (tm : PT AV) (a : Act) : Prop := ∀ t, VR K σ ((Opd.t (posOf t)).ev tm) (a.tmps.getD t undef)
theorem TR.mono {K : Ctx} {σ σ' : Env} {tm : PT AV} {a : Act} (h : σ.le σ') (x : TR K σ tm a) : TR K σ' tm a := fun t => (x t).mono h
theorem ev_set_same (tm : PT AV) (p : Pos) (v : AV) : (Opd.t p).ev (tm.set v p) = v := by
  simp only [Opd.ev]
  rw [PT.get_set_same]
theorem ev_set_other (tm : PT AV) {p q : Pos} (v : AV) (h : q ≠ p) : (Opd.t q).ev (tm.set v p) = (Opd.t q).ev tm := by
  simp only [Opd.ev]
  rw [PT.get_set_other _ _ h]
theorem TR.put {K : Ctx} {σ : Env} {tm : PT AV} {a : Act} (x : TR K σ tm a) {d : Option Tmp} (hd : ∀ t, d = some t → t < a.tmps.size) {v : AV} {vc : Value} (hv : VR K σ v vc) :
    TR K σ (setT d v tm) (a.put d vc) := by
  cases d with
  | none => exact x
  | some t =>
    intro u
    have ht := hd t rfl
    show VR K σ ((Opd.t (posOf u)).ev (tm.set v (posOf t))) ((a.tmps.setIfInBounds t vc).getD u undef)
    by_cases e : u = t
    · subst e
      rw [ev_set_same]
      simpa [ht] using hv
    · rw [ev_set_other _ _ (fun h => e (posOf_inj h))]
      have := x u
      simpa [Array.getElem?_setIfInBounds_ne (Ne.symm e)] using this
theorem put_size (a : Act) (d : Option Tmp) (v : Value) : (a.put d v).tmps.size = a.tmps.size := by cases d <;> simp [Act.put]
theorem put_defers (a : Act) (d : Option Tmp) (v : Value) : (a.put d v).defers = a.defers := by cases d <;> rfl
def FR (R : Option Nat) : Fence := { Fence.wide with round := R }
theorem callsR {R : Option Nat} {n : Nat} {P : Program} {f : FuncId} {args : Array Value} {w : World} {Q : Ending → World → Prop} : CallsIn (FR R) n P f args w Q ↔ Calls P f args w Q :=
  ⟨fun h => (callsIn_wide (n := n)).1 h, fun h => (callsIn_wide (n := n)).2 h⟩
theorem FR_depth {R : Option Nat} {p : Prop} : (FR R).depth.isSome = true → p := fun h => by cases h
def Globs (ng : Nat) (σ : Env) : Prop := ∀ g, g < ng → ∃ C, σ (posOf g) = some ⟨g, 0, C⟩
theorem Globs.mono {ng : Nat} {σ σ' : Env} (h : σ.le σ') (x : Globs ng σ) : Globs ng σ' := fun g hg => let ⟨C, e⟩ := x g hg; ⟨C, h _ _ e⟩
def After (K : Ctx) (σ : Env) (h h' : AHeap) (w' : World) (v : AV) (vc : Value) : Prop :=
  ∃ σ' own', VR K σ' v vc ∧ Grow σ σ' h h' ∧ HR K σ' own' h' w'
def Back (K : Ctx) (σ : Env) (h : AHeap) (r : Out (AV × AHeap)) : Ending → World → Prop :=
  match r with
  | .ok vh => fun e w' => ∃ vc, e = .returned vc ∧ After K σ h vh.2 w' vh.1 vc
  | .panic v h' => fun e w' => ∃ vc, e = .panicked [{ v := vc, recovered := false }] ∧ After K σ h h' w' v vc
  | .fail => fun _ _ => True
def Enters (P : Program) (f : Nat) : Prop := ∀ args w, (callFunc f args).run P w = .ok (.enter f args) w
def ComesTo (P : Program) (f : Nat) (cargs : Array Value) (w : World) (R : Ending → World → Prop) : Prop :=
  (Enters P f ∧ Calls P f cargs w R) ∨ ∃ v w', (callFunc f cargs).run P w = .ok (.value v) w' ∧ R (.returned v) w'
theorem ComesTo.mono {P : Program} {f : Nat} {cargs : Array Value} {w : World} {R R' : Ending → World → Prop} (hr : ∀ e w', R e w' → R' e w') (h : ComesTo P f cargs w R) : ComesTo P f cargs w R' := by
  rcases h with ⟨h1, h2⟩ | ⟨v, w', h1, h2⟩
  · exact .inl ⟨h1, Calls.mono h2 hr⟩
  · exact .inr ⟨v, w', h1, hr _ _ h2⟩
def Yields (P : Program) (l : Nat) (args : Array Value) (w : World) (R : Ending → World → Prop) : Prop :=
  ∃ fn tmps assign body, (Instr.yield l args).run P w = .ok (.round l fn tmps assign body) w ∧ RoundIn (FR none) 0 P l fn tmps assign body w R
theorem Yields.mono {P : Program} {l : Nat} {args : Array Value} {w : World} {R R' : Ending → World → Prop} (hr : ∀ e w', R e w' → R' e w') (h : Yields P l args w R) : Yields P l args w R' := by
  obtain ⟨fn, t, a, b, h1, h2⟩ := h
  exact ⟨fn, t, a, b, h1, RoundIn.mono h2 hr⟩
structure CallOK (P : Program) (K : Ctx) (ng : Nat) (call : Caller) : Prop where
  fn : ∀ (σ : Env) (own : Owns) (w : World) (h : AHeap) (f : Nat) (args : List AV) (cargs : Array Value), f ≠ yN → Globs ng σ → HR K σ own h w → VRs K σ args cargs.toList →
    call f args h ≠ .fail → ComesTo P f cargs w (Back K σ h (call f args h))
  yld : ∀ (σ : Env) (own : Owns) (w : World) (h : AHeap) (b : Pos) (l : Loc) (args : List AV) (cargs : Array Value), Globs ng σ → HR K σ own h w → σ b = some l → VRs K σ args cargs.toList →
    call yN (.yld b :: args) h ≠ .fail → Yields P l.B cargs w (Back K σ h (call yN (.yld b :: args) h))
def noF {α : Type} (l : List (Out α)) : Prop := ∀ x ∈ l, x ≠ .fail
def BackL (K : Ctx) (σ : Env) (h : AHeap) (rs : List (Out (AV × AHeap))) (e : Ending) (w : World) : Prop := ∃ r ∈ rs, Back K σ h r e w
structure CallNOK (P : Program) (K : Ctx) (ng : Nat) (call : CallerN) : Prop where
  fn : ∀ (σ : Env) (own : Owns) (w : World) (h : AHeap) (f : Nat) (args : List AV) (cargs : Array Value), f ≠ yN → Globs ng σ → HR K σ own h w → VRs K σ args cargs.toList →
    noF (call f args h) → ComesTo P f cargs w (BackL K σ h (call f args h))
  yld : ∀ (σ : Env) (own : Owns) (w : World) (h : AHeap) (b : Pos) (l : Loc) (args : List AV) (cargs : Array Value), Globs ng σ → HR K σ own h w → σ b = some l → VRs K σ args cargs.toList →
    noF (call yN (.yld b :: args) h) → Yields P l.B cargs w (BackL K σ h (call yN (.yld b :: args) h))
theorem oneG_some {α : Type} {l : List (Out α)} (h : oneG l ≠ .fail) : ∃ x, l = [x] ∧ oneG l = x ∧ x ≠ .fail := by
  match l, h with
  | [], h => exact absurd rfl h
  | [x], h => exact ⟨x, rfl, rfl, h⟩
  | x :: y :: l, h => exact absurd rfl h
theorem CallNOK.det {P : Program} {K : Ctx} {ng : Nat} {call : CallerN} (h : CallNOK P K ng call) : CallOK P K ng (detC call) := by
  refine ⟨fun σ own w hp f args cargs hf hg hH ha hne => ?_, fun σ own w hp b l args cargs hg hH hl ha hne => ?_⟩
  · obtain ⟨x, h1, h2, h3⟩ := oneG_some (show oneG (call f args hp) ≠ .fail from hne)
    have e : detC call f args hp = x := h2
    rw [e]
    refine (h.fn σ own w hp f args cargs hf hg hH ha (by rw [h1]; intro y hy; simp at hy; subst hy; exact h3)).mono fun e w' ⟨r, hr, hb⟩ => ?_
    rw [h1] at hr
    simp at hr; subst hr
    exact hb
  · obtain ⟨x, h1, h2, h3⟩ := oneG_some (show oneG (call yN (.yld b :: args) hp) ≠ .fail from hne)
    have e : detC call yN (.yld b :: args) hp = x := h2
    rw [e]
    refine (h.yld σ own w hp b l args cargs hg hH hl ha (by rw [h1]; intro y hy; simp at hy; subst hy; exact h3)).mono fun e w' ⟨r, hr, hb⟩ => ?_
    rw [h1] at hr
    simp at hr; subst hr
    exact hb
def YOK (P : Program) (K : Ctx) (ng : Nat) (Y : YH) : Prop :=
  ∀ (σ : Env) (own : Owns) (w : World) (h : AHeap) (b : Pos) (l : Loc) (args : List AV) (cargs : Array Value), Globs ng σ → HR K σ own h w → σ b = some l → VRs K σ args cargs.toList →
    noF (Y b args h) → Yields P l.B cargs w (BackL K σ h (Y b args h))
def CallYOK (P : Program) (K : Ctx) (ng : Nat) (callY : CallerY) : Prop := ∀ Y, YOK P K ng Y → CallNOK P K ng (callY Y)
noncomputable def opd (ng : Nat) (cst : Value → Option AV) : Operand → Option Opd
  | .tmp t => some (.t (posOf t))
  | .const v => onSome (cst v) (fun v => some (.c v)) none
  | .global g => ifb (Nat.ble (Nat.succ g) ng) (some (.c (.ptr (posOf g) 0))) none
  | .func f => some (.c (.func (.func f) [] []))
def CstOK (cst : Value → Option AV) : Prop := ∀ v x, cst v = some x → CV1 x v
def OR (K : Ctx) (ng : Nat) (cst : Value → Option AV) (σ : Env) (tm : PT AV) (ρ : Operand → Value) (o : Oper) : Prop :=
  ∀ x ∈ o.op.operands, ∀ X, opd ng cst x = some X → VR K σ (X.ev tm) (ρ x)
theorem opd_ok {K : Ctx} {ng : Nat} {cst : Value → Option AV} {σ : Env} {tm : PT AV} {a : Act} (hc : CstOK cst) (hg : Globs ng σ) (ht : TR K σ tm a) {x : Operand} {X : Opd} (h : opd ng cst x = some X) :
    VR K σ (X.ev tm) (a.eval x) := by
  cases x with
  | tmp t => cases h; exact ht t
  | const v =>
    obtain ⟨u, h1, h2⟩ := onSome_eq (show onSome (cst v) (fun v => some (.c v)) none = some X from h)
    cases h2
    exact hc v u h1 K σ
  | global g =>
    obtain ⟨h1, h2⟩ := ifb_some (show ifb (Nat.ble (Nat.succ g) ng) (some (.c (.ptr (posOf g) 0))) none = some X from h)
    cases h2
    obtain ⟨C, e⟩ := hg g (Nat.le_of_ble_eq_true h1)
    exact ⟨_, e, rfl⟩
  | func f => cases h; exact ⟨#[], #[], rfl, rfl, rfl⟩
def FP (K : Ctx) (σ : Env) (ops : Array Oper) (o : Oper) (tm : PT AV) (a : Act) : Prop := ∀ t ∈ o.looksAt ops, VR K σ ((Opd.t (posOf t)).ev tm) (a.tmps.getD t undef)
theorem FP.or {K : Ctx} {ng : Nat} {cst : Value → Option AV} {σ : Env} {ops : Array Oper} {o : Oper} {tm : PT AV} {a : Act} (hc : CstOK cst) (hg : Globs ng σ) (h : FP K σ ops o tm a) : OR K ng cst σ tm a.eval o := fun x hx X hX => by
  cases x with
  | tmp t => cases hX; exact h t (List.mem_append_left _ (List.mem_filterMap.2 ⟨.tmp t, by simpa using hx, rfl⟩))
  | const v =>
    obtain ⟨u, h1, h2⟩ := onSome_eq (show onSome (cst v) (fun v => some (.c v)) none = some X from hX)
    cases h2
    exact hc v u h1 K σ
  | global g =>
    obtain ⟨h1, h2⟩ := ifb_some (show ifb (Nat.ble (Nat.succ g) ng) (some (.c (.ptr (posOf g) 0))) none = some X from hX)
    cases h2
    obtain ⟨C, e⟩ := hg g (Nat.le_of_ble_eq_true h1)
    exact ⟨_, e, rfl⟩
  | func f => cases hX; exact ⟨#[], #[], rfl, rfl, rfl⟩
def Goes (K : Ctx) (σ : Env) (s : St) (dst : Option Tmp) (a : Act) (next : Act → World → Prop) (Q : Exit → Act → World → Prop) (r : Out St) : Prop :=
  match r with
  | .ok s' => ∀ v vc σ' own' w', VR K σ' v vc → Grow σ σ' s.heap s'.heap → HR K σ' own' s'.heap w' → s'.tmps = setT dst v s.tmps → next (a.put dst vc) w'
  | .panic v h' => ∀ vc w', After K σ s.heap h' w' v vc → Q (.panic [{ v := vc, recovered := false }]) a w'
  | .fail => False
def OpOK (P : Program) (K : Ctx) (ng : Nat) (cst : Value → Option AV) (o : Oper) (r : Run) : Prop :=
  ∀ (R : Option Nat) (σ : Env) (own : Owns) (a : Act) (w : World) (s : St) (call : Caller) (next : Act → World → Prop) (Q : Exit → Act → World → Prop), CallOK P K ng call → Globs ng σ →
    OR K ng cst σ s.tmps a.eval o → HR K σ own s.heap w → Goes K σ s o.dst a next Q (r call s) → o.wpIn (FR R) 0 P a w next Q
def NoDefer (o : Oper) : Prop := ∀ c, o.op ≠ .defer c
section
variable {P : Program} {K : Ctx} {ng : Nat} {cst : Value → Option AV} {o : Oper} {r : Run}
theorem wpIn_of_run {R : Option Nat} {a : Act} {w : World} {next : Act → World → Prop} {Q : Exit → Act → World → Prop} (hnd : NoDefer o) (h : o.uponIn (FR R) 0 P a next Q ((execOp a.eval o).run P w)) : o.wpIn (FR R) 0 P a w next Q :=
  ⟨fun _ _ => trivial, by rw [Oper.semAt_eq _ _ _ hnd]; exact h⟩
theorem OpOK.of_res (hnd : NoDefer o) (hp : ∀ call s v h, r call s ≠ .panic v h) (h : ∀ (σ : Env) (own : Owns) (a : Act) (w : World) (s s' : St) (call : Caller), Globs ng σ → OR K ng cst σ s.tmps a.eval o → HR K σ own s.heap w →
    r call s = .ok s' → Res P K σ own o a.eval w s s') : OpOK P K ng cst o r := by
  intro R σ own a w s call next Q hc hg ho hH hgo
  cases hr : r call s with
  | fail => rw [hr] at hgo; exact hgo.elim
  | panic v hp' => exact absurd hr (hp _ _ _ _)
  | ok s' =>
    rw [hr] at hgo
    obtain ⟨v, vc, σ', own', w', h1, h2, h3, h4, h5⟩ := h σ own a w s s' call hg ho hH hr
    refine wpIn_of_run hnd ?_
    rcases h1 with h1 | ⟨h1, rfl⟩
    · rw [h1]; exact hgo v vc σ' own' w' h2 h3 h4 h5
    · rw [h1]; exact hgo v undef σ' own' w' h2 h3 h4 h5
theorem goes_ret {σ : Env} {a : Act} {s : St} {next : Act → World → Prop} {Q : Exit → Act → World → Prop} {r : Out (AV × AHeap)} {d : Option Tmp}
    (hgo : Goes K σ s d a next Q (backTo (dP d) s r)) {v : Value} {w' : World} (hb : Back K σ s.heap r (.returned v) w') : next (a.put d v) w' := by
  cases r with
  | fail => exact hgo.elim
  | ok vh =>
    obtain ⟨vc, e1, σ', own', h1, h2, h3⟩ := hb
    cases e1
    obtain ⟨v', h'⟩ := vh
    have hgo' : Goes K σ s d a next Q (setDH (dP d) v' s h') := hgo
    cases hs : setDH (dP d) v' s h' with
    | ok s' =>
      rw [hs] at hgo'
      obtain ⟨s1, s2⟩ := setDH_ok hs
      exact hgo' v' v σ' own' w' h1 (by rw [s2]; exact h2) (by rw [s2]; exact h3) s1
    | panic _ _ => cases hd : dP d <;> rw [hd] at hs <;> cases hs
    | fail => cases hd : dP d <;> rw [hd] at hs <;> cases hs
  | panic v h' => obtain ⟨vc, e1, _⟩ := hb; cases e1
def EndK (d : Option Tmp) (a : Act) (next : Act → World → Prop) (Q : Exit → Act → World → Prop) : Ending → World → Prop
  | .returned v, w'' => next (a.put d v) w''
  | .panicked chain, w'' => Q (.panic chain) a w''
  | .outgrown, _ => LetsOut Q
theorem goes_end {R : Option Nat} {σ : Env} {a : Act} {s : St} {next : Act → World → Prop} {Q : Exit → Act → World → Prop} {r : Out (AV × AHeap)} {d : Option Tmp}
    (hgo : Goes K σ s d a next Q (backTo (dP d) s r)) {e : Ending} {w' : World} (hb : Back K σ s.heap r e w') :
    EndK d a next Q e w' := by
  cases e with
  | returned v => exact goes_ret hgo hb
  | panicked ch =>
    cases r with
    | fail => exact hgo.elim
    | ok vh => obtain ⟨vc, e1, _⟩ := hb; cases e1
    | panic v h' => obtain ⟨vc, e1, hA⟩ := hb; cases e1; exact hgo vc w' hA
  | outgrown =>
    cases r with
    | fail => exact hgo.elim
    | ok vh => obtain ⟨vc, e1, _⟩ := hb; cases e1
    | panic v h' => obtain ⟨vc, e1, _⟩ := hb; cases e1
theorem goes_noF {σ : Env} {a : Act} {s : St} {next : Act → World → Prop} {Q : Exit → Act → World → Prop} {r : Out (AV × AHeap)} {d : Option Tmp}
    (hgo : Goes K σ s d a next Q (backTo (dP d) s r)) : r ≠ .fail := fun e => by rw [e] at hgo; exact hgo.elim
theorem comes_wp {R : Option Nat} {a : Act} {w : World} {next : Act → World → Prop} {Q : Exit → Act → World → Prop} {f : Nat} {cargs : Array Value} {B : Ending → World → Prop} (hnd : NoDefer o)
    (he : (execOp a.eval o).run P w = (callFunc f cargs).run P w) (hc : ComesTo P f cargs w B)
    (hb : ∀ e w', B e w' → EndK o.dst a next Q e w') : o.wpIn (FR R) 0 P a w next Q := by
  refine wpIn_of_run hnd ?_
  rw [he]
  rcases hc with ⟨hE, hC⟩ | ⟨v, w', h1, h2⟩
  · rw [hE, Oper.uponIn_enter]
    exact ⟨FR_depth, callsR.2 (Calls.mono hC fun e w' h => by have := hb e w' h; cases e <;> exact this)⟩
  · rw [h1]
    exact hb _ _ h2
theorem yields_wp {R : Option Nat} {a : Act} {w : World} {next : Act → World → Prop} {Q : Exit → Act → World → Prop} {l : Nat} {cargs : Array Value} {B : Ending → World → Prop} (hnd : NoDefer o)
    (he : (execOp a.eval o).run P w = (Instr.yield l cargs).run P w) (hc : Yields P l cargs w B)
    (hb : ∀ e w', B e w' → EndK o.dst a next Q e w') : o.wpIn (FR R) 0 P a w next Q := by
  refine wpIn_of_run hnd ?_
  rw [he]
  obtain ⟨fn, t, as, bd, h1, h2⟩ := hc
  rw [h1, Oper.uponIn_round]
  exact ⟨FR_depth, RoundIn.mono (show RoundIn (FR R) 0 P l fn t as bd w B from h2) fun e w' h => by have := hb e w' h; cases e <;> exact this⟩
theorem goes_back {R : Option Nat} {call : Caller} {σ : Env} {own : Owns} {a : Act} {w : World} {s : St} {next : Act → World → Prop} {Q : Exit → Act → World → Prop} {f : Nat} {args : List AV} {cargs : Array Value} (hnd : NoDefer o) (hf : f ≠ yN)
    (hc : CallOK P K ng call) (hg : Globs ng σ) (hH : HR K σ own s.heap w) (ha : VRs K σ args cargs.toList) (he : (execOp a.eval o).run P w = (callFunc f cargs).run P w)
    (hgo : Goes K σ s o.dst a next Q (backTo (dP o.dst) s (call f args s.heap))) : o.wpIn (FR R) 0 P a w next Q :=
  comes_wp hnd he (hc.fn σ own w s.heap f args cargs hf hg hH ha (goes_noF hgo)) fun _ _ hb => goes_end (R := R) hgo hb
theorem goes_yield {R : Option Nat} {call : Caller} {σ : Env} {own : Owns} {a : Act} {w : World} {s : St} {next : Act → World → Prop} {Q : Exit → Act → World → Prop} {b : Pos} {l : Loc} {args : List AV} {cargs : Array Value} (hnd : NoDefer o)
    (hc : CallOK P K ng call) (hg : Globs ng σ) (hH : HR K σ own s.heap w) (hl : σ b = some l) (ha : VRs K σ args cargs.toList) (he : (execOp a.eval o).run P w = (Instr.yield l.B cargs).run P w)
    (hgo : Goes K σ s o.dst a next Q (backTo (dP o.dst) s (call yN (.yld b :: args) s.heap))) : o.wpIn (FR R) 0 P a w next Q :=
  yields_wp hnd he (hc.yld σ own w s.heap b l args cargs hg hH hl ha (goes_noF hgo)) fun _ _ hb => goes_end (R := R) hgo hb
def Steps1 (P : Program) (R : Option Nat) (ops : Array Oper) (o : Oper) (a : Act) (w : World) (next : Act → World → Prop) (Q : Exit → Act → World → Prop) : Prop :=
  if Region.wanted o (yielded ops a.tmps) then o.wpIn (FR R) 0 P a w next Q else (∀ f, o.about P w a.eval = some f → (FR R).fn f) ∧ next (a.put o.dst undef) w
def StepOK (P : Program) (K : Ctx) (ng n : Nat) (ops : Array Oper) (o : Oper) (r : Run) : Prop :=
  ∀ (R : Option Nat) (σ : Env) (own : Owns) (a : Act) (w : World) (s : St) (call : Caller) (next : Act → World → Prop) (Q : Exit → Act → World → Prop), CallOK P K ng call → Globs ng σ → n ≤ a.tmps.size →
    FP K σ ops o s.tmps a → HR K σ own s.heap w → Goes K σ s o.dst a next Q (r call s) → Steps1 P R ops o a w next Q
def NStepOK (P : Program) (K : Ctx) (ng n : Nat) (ops : Array Oper) (o : Oper) (r : NRun) : Prop :=
  ∀ (R : Option Nat) (σ : Env) (own : Owns) (a : Act) (w : World) (s : St) (call : CallerN) (next : Act → World → Prop) (Q : Exit → Act → World → Prop), CallNOK P K ng call → Globs ng σ → n ≤ a.tmps.size →
    FP K σ ops o s.tmps a → HR K σ own s.heap w → (∀ x ∈ r call s, Goes K σ s o.dst a next Q x) → Steps1 P R ops o a w next Q
def DstOK (n : Nat) (o : Oper) : Prop := ∀ t, o.dst = some t → t < n
inductive StepsOK (P : Program) (K : Ctx) (ng n : Nat) (ops : Array Oper) : List Oper → List Run → Prop
  | nil : StepsOK P K ng n ops [] []
  | cons {o : Oper} {r : Run} {l : List Oper} {rs : List Run} : StepOK P K ng n ops o r → DstOK n o → StepsOK P K ng n ops l rs → StepsOK P K ng n ops (o :: l) (r :: rs)
inductive NStepsOK (P : Program) (K : Ctx) (ng n : Nat) (ops : Array Oper) : List Oper → List NRun → Prop
  | nil : NStepsOK P K ng n ops [] []
  | cons {o : Oper} {r : NRun} {l : List Oper} {rs : List NRun} : NStepOK P K ng n ops o r → DstOK n o → NStepsOK P K ng n ops l rs → NStepsOK P K ng n ops (o :: l) (r :: rs)
theorem StepOK.of_op {ops : Array Oper} {n : Nat} (hc : CstOK cst) (hg : o.guard = none) (h : OpOK P K ng cst o r) : StepOK P K ng n ops o r := by
  intro R σ own a w s call next Q hcall hgl hn hT hH hgo
  unfold Steps1
  rw [if_pos (by simp [Region.wanted, hg])]
  exact h R σ own a w s call next Q hcall hgl (hT.or hc hgl) hH hgo
theorem StepOK.up {ops : Array Oper} {n : Nat} (h : StepOK P K ng n ops o r) : NStepOK P K ng n ops o (fun call s => [r (detC call) s]) := by
  intro R σ own a w s call next Q hcall hgl hn hT hH hgo
  exact h R σ own a w s (detC call) next Q hcall.det hgl hn hT hH (hgo _ (List.mem_singleton.2 rfl))
def DefR (K : Ctx) (σ : Env) : DE → Deferred → Prop
  | .mark b, d => ∃ l, σ b = some l ∧ d = { target := .collected l.B, args := #[] }
  | .call v args, d => ∃ f a b ca cb cargs, v = .func (.func f) a b ∧ d = { target := .fn (.func f) cb, args := ca ++ cargs } ∧ VRs K σ a ca.toList ∧ VRs K σ b cb.toList ∧ VRs K σ args cargs.toList
def DefsR (K : Ctx) (σ : Env) : List DE → List Deferred → Prop
  | [], l => l = []
  | x :: xs, l => ∃ y ys, l = y :: ys ∧ DefR K σ x y ∧ DefsR K σ xs ys
theorem DefR.mono {σ σ' : Env} (h : σ.le σ') {x : DE} {d : Deferred} (hx : DefR K σ x d) : DefR K σ' x d := by
  cases x with
  | mark b => obtain ⟨l, h1, h2⟩ := hx; exact ⟨l, h _ _ h1, h2⟩
  | call v args => obtain ⟨f, a, b, ca, cb, cg, h1, h2, h3, h4, h5⟩ := hx; exact ⟨f, a, b, ca, cb, cg, h1, h2, h3.mono h, h4.mono h, h5.mono h⟩
theorem DefsR.mono {σ σ' : Env} (h : σ.le σ') : ∀ {l : List DE} {m : List Deferred}, DefsR K σ l m → DefsR K σ' l m
  | [], _, hx => hx
  | _ :: _, _, ⟨y, ys, e, h1, h2⟩ => ⟨y, ys, e, h1.mono h, DefsR.mono h h2⟩
structure SR (K : Ctx) (n : Nat) (σ : Env) (h0 : AHeap) (s : St) (ds : List DE) (a : Act) (w : World) : Prop where
  env : ∃ σ' own', Grow σ σ' h0 s.heap ∧ HR K σ' own' s.heap w ∧ TR K σ' s.tmps a ∧ DefsR K σ' ds a.defers
  size : n ≤ a.tmps.size
def Lands (K : Ctx) (n : Nat) (σ : Env) (h0 : AHeap) (e : Ex) : Exit → Act → World → Prop :=
  match e with
  | .normal s ds => fun x a w => x = .normal ∧ SR K n σ h0 s ds a w
  | .exit id s ds => fun x a w => x = .exit id ∧ SR K n σ h0 s ds a w
  | .ret s ds => fun x a w => x = .ret ∧ SR K n σ h0 s ds a w
  | .panic v h => fun x a w => a.defers = [] ∧ ∃ vc, x = .panic [{ v := vc, recovered := false }] ∧ After K σ h0 h w v vc
  | .fail => fun _ _ _ => True
def LandsL (K : Ctx) (n : Nat) (σ : Env) (h0 : AHeap) (es : List Ex) (x : Exit) (a : Act) (w : World) : Prop := ∃ e ∈ es, Lands K n σ h0 e x a w
theorem After.grow {σ σ' : Env} {h h' hh : AHeap} {w : World} {v : AV} {vc : Value} (g : Grow σ σ' h h') (x : After K σ' h' hh w v vc) : After K σ h hh w v vc := by
  obtain ⟨σ'', own', h1, h2, h3⟩ := x
  exact ⟨σ'', own', h1, g.trans h2, h3⟩
theorem SR.grow {n : Nat} {σ σ' : Env} {h h' : AHeap} {s : St} {ds : List DE} {a : Act} {w : World} (g : Grow σ σ' h h') (x : SR K n σ' h' s ds a w) : SR K n σ h s ds a w := by
  obtain ⟨⟨σ'', own', h1, h2, h3, h4⟩, h5⟩ := x
  exact ⟨⟨σ'', own', g.trans h1, h2, h3, h4⟩, h5⟩
theorem Lands.grow {n : Nat} {σ σ' : Env} {h h' : AHeap} {e : Ex} (g : Grow σ σ' h h') : ∀ {x a w}, Lands K n σ' h' e x a w → Lands K n σ h e x a w := by
  intro x a w hx
  cases e with
  | normal s => exact ⟨hx.1, hx.2.grow g⟩
  | exit id s => exact ⟨hx.1, hx.2.grow g⟩
  | ret s => exact ⟨hx.1, hx.2.grow g⟩
  | panic v hh => obtain ⟨h0, vc, h1, h2⟩ := hx; exact ⟨h0, vc, h1, h2.grow g⟩
  | fail => trivial
theorem LandsL.grow {n : Nat} {σ σ' : Env} {h h' : AHeap} {es : List Ex} (g : Grow σ σ' h h') {x : Exit} {a : Act} {w : World} (hx : LandsL K n σ' h' es x a w) : LandsL K n σ h es x a w := by
  obtain ⟨e, h1, h2⟩ := hx
  exact ⟨e, h1, h2.grow g⟩
def OkK (K : Ctx) (n : Nat) (σ : Env) (h0 : AHeap) (a0 : Act) (s' : St) (a : Act) (w : World) : Prop :=
  ∃ σ' own', Grow σ σ' h0 s'.heap ∧ HR K σ' own' s'.heap w ∧ TR K σ' s'.tmps a ∧ n ≤ a.tmps.size ∧ a.defers = a0.defers
def PanK (K : Ctx) (σ : Env) (h0 : AHeap) (a0 : Act) (v : AV) (h' : AHeap) (vc : Value) (a : Act) (w : World) : Prop := After K σ h0 h' w v vc ∧ a.defers = a0.defers
theorem runOps_k {R : Option Nat} {call : Caller} (hcall : CallOK P K ng call) {n : Nat} {ops : Array Oper} {rest : List Oper} {Q : Exit → Act → World → Prop} : ∀ (l : List Oper) (rs : List Run), StepsOK P K ng n ops l rs →
    ∀ (σ : Env) (own : Owns) (a : Act) (w : World) (s : St), Globs ng σ → HR K σ own s.heap w → TR K σ s.tmps a → n ≤ a.tmps.size →
      runOps call rs s ≠ .fail →
      (∀ s' a' w', runOps call rs s = .ok s' → OkK K n σ s.heap a s' a' w' → wpListIn (FR R) 0 P ops Q rest a' w') →
      (∀ v h' vc a' w', runOps call rs s = .panic v h' → PanK K σ s.heap a v h' vc a' w' → Q (.panic [{ v := vc, recovered := false }]) a' w') →
      wpListIn (FR R) 0 P ops Q (l ++ rest) a w
  | [], rs, h, σ, own, a, w, s, hg, hH, hT, hn, hf, hk, hp => by
    cases h
    exact hk s a w rfl ⟨σ, own, Grow.refl _ _, hH, hT, hn, rfl⟩
  | o :: l, _, .cons (r := r) (rs := rs) h1 h2 h3, σ, own, a, w, s, hg, hH, hT, hn, hf, hk, hp => by
    refine wpListIn_step fun K' hK' => h1 R σ own a w s call K' _ hcall hg hn (fun t _ => hT t) hH ?_
    have hdef : runOps call (r :: rs) s = Out.rec (motive := fun _ => Out St) (runOps call rs) Out.panic Out.fail (r call s) := runOps_cons call r rs s
    cases hr : r call s with
    | ok s' =>
      rw [hr] at hdef
      have hdef' : runOps call (r :: rs) s = runOps call rs s' := hdef
      intro v vc σ' own' w' g1 g2 g3 g4
      refine hK' _ _ ?_
      rw [hdef'] at hf
      have hT' : TR K σ' s'.tmps (a.put o.dst vc) := by rw [g4]; exact (hT.mono g2.le).put (fun t ht => Nat.lt_of_lt_of_le (h2 t ht) hn) g1
      refine runOps_k hcall l rs h3 σ' own' (a.put o.dst vc) w' s' (hg.mono g2.le) g3 hT' (by rw [put_size]; exact hn) hf (fun s2 a2 w2 e2 ⟨σ2, own2, k1, k2, k3, k4, k5⟩ => hk s2 a2 w2 (hdef'.trans e2) ⟨σ2, own2, g2.trans k1, k2, k3, k4, ?_⟩)
        (fun v h' vc' a2 w2 e2 ⟨k1, k2⟩ => hp v h' vc' a2 w2 (hdef'.trans e2) ⟨k1.grow g2, ?_⟩)
      · rw [k5, put_defers]
      · rw [k2, put_defers]
    | panic v h' =>
      rw [hr] at hdef
      exact fun vc w' hA => hp v h' vc a w' hdef ⟨hA, rfl⟩
    | fail =>
      rw [hr] at hdef
      exact absurd hdef hf
theorem mem_appG {α : Type} {l r : List α} {x : α} : x ∈ appG l r ↔ x ∈ l ∨ x ∈ r := by
  have : appG l r = l ++ r := by
    induction l with
    | nil => rfl
    | cons y l ih => show y :: appG l r = _; rw [ih]; rfl
  rw [this, List.mem_append]
theorem mem_bindG {α β : Type} {f : α → List β} {y : β} : ∀ {l : List α}, y ∈ bindG l f ↔ ∃ x ∈ l, y ∈ f x
  | [] => ⟨fun h => (by cases h), fun ⟨x, hx, _⟩ => by cases hx⟩
  | [x] => ⟨fun h => ⟨x, List.mem_singleton.2 rfl, h⟩, fun ⟨z, hz, h⟩ => by rw [List.mem_singleton.1 hz] at h; exact h⟩
  | x :: z :: l => by
    show y ∈ appG (f x) (bindG (z :: l) f) ↔ _
    rw [mem_appG, mem_bindG (l := z :: l)]
    constructor
    · rintro (h | ⟨u, hu, h⟩)
      · exact ⟨x, List.mem_cons_self, h⟩
      · exact ⟨u, List.mem_cons_of_mem _ hu, h⟩
    · rintro ⟨u, hu, h⟩
      rcases List.mem_cons.1 hu with rfl | hu
      · exact .inl h
      · exact .inr ⟨u, hu, h⟩
theorem runNs_k {R : Option Nat} {call : CallerN} (hcall : CallNOK P K ng call) {n : Nat} {ops : Array Oper} {rest : List Oper} {Q : Exit → Act → World → Prop} : ∀ (l : List Oper) (rs : List NRun), NStepsOK P K ng n ops l rs →
    ∀ (σ : Env) (own : Owns) (a : Act) (w : World) (s : St), Globs ng σ → HR K σ own s.heap w → TR K σ s.tmps a → n ≤ a.tmps.size →
      noF (runNs call rs s) →
      (∀ s' a' w', .ok s' ∈ runNs call rs s → OkK K n σ s.heap a s' a' w' → wpListIn (FR R) 0 P ops Q rest a' w') →
      (∀ v h' vc a' w', .panic v h' ∈ runNs call rs s → PanK K σ s.heap a v h' vc a' w' → Q (.panic [{ v := vc, recovered := false }]) a' w') →
      wpListIn (FR R) 0 P ops Q (l ++ rest) a w
  | [], rs, h, σ, own, a, w, s, hg, hH, hT, hn, hf, hk, hp => by
    cases h
    exact hk s a w (List.mem_singleton.2 rfl) ⟨σ, own, Grow.refl _ _, hH, hT, hn, rfl⟩
  | o :: l, _, .cons (r := r) (rs := rs) h1 h2 h3, σ, own, a, w, s, hg, hH, hT, hn, hf, hk, hp => by
    have hdef : runNs call (r :: rs) s = bindO (r call s) (runNs call rs) := runNs_cons call r rs s
    have hmem : ∀ {x y}, x ∈ r call s → y ∈ (Out.rec (motive := fun _ => List (Out St)) (runNs call rs) (fun v h => [Out.panic v h]) [Out.fail] x : List (Out St)) → y ∈ runNs call (r :: rs) s := fun {x y} hx hy => by
      rw [hdef]; exact mem_bindG.2 ⟨x, hx, hy⟩
    refine wpListIn_step fun K' hK' => h1 R σ own a w s call K' _ hcall hg hn (fun t _ => hT t) hH fun x hx => ?_
    cases x with
    | ok s' =>
      have hm : ∀ {y}, y ∈ runNs call rs s' → y ∈ runNs call (r :: rs) s := fun {y} hy => hmem hx hy
      intro v vc σ' own' w' g1 g2 g3 g4
      refine hK' _ _ ?_
      have hT' : TR K σ' s'.tmps (a.put o.dst vc) := by rw [g4]; exact (hT.mono g2.le).put (fun t ht => Nat.lt_of_lt_of_le (h2 t ht) hn) g1
      refine runNs_k hcall l rs h3 σ' own' (a.put o.dst vc) w' s' (hg.mono g2.le) g3 hT' (by rw [put_size]; exact hn) (fun y hy => hf y (hm hy)) (fun s2 a2 w2 e2 ⟨σ2, own2, k1, k2, k3, k4, k5⟩ => hk s2 a2 w2 (hm e2) ⟨σ2, own2, g2.trans k1, k2, k3, k4, ?_⟩)
        (fun v h' vc' a2 w2 e2 ⟨k1, k2⟩ => hp v h' vc' a2 w2 (hm e2) ⟨k1.grow g2, ?_⟩)
      · rw [k5, put_defers]
      · rw [k2, put_defers]
    | panic v h' => exact fun vc w' hA => hp v h' vc a w' (hmem hx (List.mem_singleton.2 rfl)) ⟨hA, rfl⟩
    | fail => exact absurd rfl (hf _ (hmem hx (List.mem_singleton.2 rfl)))
end
end Go.Eng
namespace Go.Eng
open Go.RowKit
section
variable {P : Program} {K : Ctx} {ng n : Nat} {cst : Value → Option AV} {R : Option Nat}
def noE (es : List Ex) : Prop := ∀ e ∈ es, e ≠ .fail
def CodeOK (P : Program) (K : Ctx) (ng n : Nat) (R : Option Nat) (c : Code) (x : AC) : Prop :=
  ∀ (callY : CallerY) (Y : YH) (lf : Nat), CallYOK P K ng callY → YOK P K ng Y → ∀ (σ : Env) (own : Owns) (a : Act) (w : World) (s : St) (ds : List DE), Globs ng σ → HR K σ own s.heap w → TR K σ s.tmps a → n ≤ a.tmps.size → DefsR K σ ds a.defers →
    noE (exec callY Y lf x s ds) → c.wpIn (FR R) 0 P (LandsL K n σ s.heap (exec callY Y lf x s ds)) a w
theorem SR.refl {σ : Env} {own : Owns} {s : St} {ds : List DE} {a : Act} {w : World} (hH : HR K σ own s.heap w) (hT : TR K σ s.tmps a) (hn : n ≤ a.tmps.size) (hd : DefsR K σ ds a.defers) : SR K n σ s.heap s ds a w :=
  ⟨⟨σ, own, Grow.refl _ _, hH, hT, hd⟩, hn⟩
theorem LandsL.one {σ : Env} {h0 : AHeap} {e : Ex} {x : Exit} {a : Act} {w : World} (h : Lands K n σ h0 e x a w) : LandsL K n σ h0 [e] x a w := ⟨e, List.mem_singleton.2 rfl, h⟩
theorem CodeOK.skip : CodeOK P K ng n R .skip .skip := fun callY Y lf hc hY σ own a w s ds hg hH hT hn hd hf => wpIn_skip (.one ⟨rfl, .refl hH hT hn hd⟩)
theorem CodeOK.ret : CodeOK P K ng n R .ret .ret := fun callY Y lf hc hY σ own a w s ds hg hH hT hn hd hf => wpIn_ret (.one ⟨rfl, .refl hH hT hn hd⟩)
theorem CodeOK.exit {id : Nat} : CodeOK P K ng n R (.exit id) (.exit id) := fun callY Y lf hc hY σ own a w s ds hg hH hT hn hd hf => wpIn_exit (.one ⟨rfl, .refl hH hT hn hd⟩)
theorem CodeOK.bad {c : Code} : CodeOK P K ng n R c .bad := fun callY Y lf hc hY σ own a w s ds hg hH hT hn hd hf => absurd rfl (hf _ (List.mem_singleton.2 rfl))
theorem OkK.sr {σ : Env} {h0 : AHeap} {s' : St} {ds : List DE} {a0 a : Act} {w : World} (hd : DefsR K σ ds a0.defers) (h : OkK K n σ h0 a0 s' a w) : SR K n σ h0 s' ds a w := by
  obtain ⟨σ', own', h1, h2, h3, h4, h5⟩ := h
  exact ⟨⟨σ', own', h1, h2, h3, by rw [h5]; exact hd.mono h1.le⟩, h4⟩
theorem PanK.lands {σ : Env} {h0 : AHeap} {v : AV} {h' : AHeap} {vc : Value} {ds : List DE} {a0 a : Act} {w : World} (hd : DefsR K σ ds a0.defers) (hf : Ex.ofOut (.panic v h') ds ≠ .fail) (h : PanK K σ h0 a0 v h' vc a w) :
    Lands K n σ h0 (Ex.ofOut (.panic v h') ds) (.panic [{ v := vc, recovered := false }]) a w := by
  cases ds with
  | nil =>
    obtain ⟨h1, h2⟩ := h
    have hd : a0.defers = [] := hd
    exact ⟨h2.trans hd, vc, rfl, h1⟩
  | cons d ds => exact absurd rfl hf
theorem CodeOK.reg {id : Nat} {ops : Array Oper} {rs : List Run} (h : StepsOK P K ng n ops ops.toList rs) : CodeOK P K ng n R (.region id ops false) (.reg rs) := by
  intro callY Y lf hc hY σ own a w s ds hg hH hT hn hd hf
  have hdef : exec callY Y lf (.reg rs) s ds = [Ex.ofOut (runOps (detC (callY Y)) rs s) ds] := rfl
  rw [hdef] at hf ⊢
  have hf' := hf _ (List.mem_singleton.2 rfl)
  refine wpIn_region_list ?_
  have := runOps_k (R := R) (rest := []) (Q := LandsL K n σ s.heap [Ex.ofOut (runOps (detC (callY Y)) rs s) ds]) (hc Y hY).det ops.toList rs h σ own a w s hg hH hT hn (fun e => hf' (by rw [e]; rfl))
    (fun s' a' w' e hk => ⟨_, List.mem_singleton.2 rfl, by rw [e]; exact ⟨rfl, hk.sr hd⟩⟩)
    (fun v h' vc a' w' e hk => ⟨_, List.mem_singleton.2 rfl, by rw [e]; rw [e] at hf'; exact hk.lands hd hf'⟩)
  simpa using this
theorem CodeOK.regN {id : Nat} {ops : Array Oper} {rs : List NRun} (h : NStepsOK P K ng n ops ops.toList rs) : CodeOK P K ng n R (.region id ops false) (.regN rs) := by
  intro callY Y lf hc hY σ own a w s ds hg hH hT hn hd hf
  have hdef : exec callY Y lf (.regN rs) s ds = bindG (runNs (callY Y) rs s) (fun r => [Ex.ofOut r ds]) := rfl
  rw [hdef] at hf ⊢
  have hin : ∀ {r}, r ∈ runNs (callY Y) rs s → Ex.ofOut r ds ∈ bindG (runNs (callY Y) rs s) (fun r => [Ex.ofOut r ds]) := fun {r} hr => mem_bindG.2 ⟨r, hr, List.mem_singleton.2 rfl⟩
  refine wpIn_region_list ?_
  have := runNs_k (R := R) (rest := []) (Q := LandsL K n σ s.heap (bindG (runNs (callY Y) rs s) (fun r => [Ex.ofOut r ds]))) (hc Y hY) ops.toList rs h σ own a w s hg hH hT hn (fun x hx e => hf _ (hin hx) (by rw [e]; rfl))
    (fun s' a' w' e hk => ⟨_, hin e, ⟨rfl, hk.sr hd⟩⟩)
    (fun v h' vc a' w' e hk => ⟨_, hin e, hk.lands hd (hf _ (hin e))⟩)
  simpa using this
theorem CodeOK.regD {id : Nat} {ops : Array Oper} {l : List Oper} {rs : List Run} {f : Operand} {args : Array Operand} {ts : Array TypeId} {ty : TypeId} {pos : String} {af : Array Edge} {X : Opd} {A : List Opd}
    (hops : ops.toList = l ++ [⟨none, .defer ⟨.value f, args, ts⟩, ty, pos, af, none⟩]) (h : StepsOK P K ng n ops l rs)
    (hX : ∀ (σ : Env) (a : Act) (tm : PT AV), Globs ng σ → TR K σ tm a → VR K σ (X.ev tm) (a.eval f) ∧ VRs K σ (evL A tm) (args.map a.eval).toList) : CodeOK P K ng n none (.region id ops false) (.regD rs X A) := by
  intro callY Y lf hc hY σ own a w s ds hg hH hT hn hd hf
  have hdef : exec callY Y lf (.regD rs X A) s ds = [Out.rec (motive := fun _ => Ex) (fun s' => deferTo X A s' ds) (fun _ _ => .fail) .fail (runOps (detC (callY Y)) rs s)] := rfl
  rw [hdef] at hf ⊢
  have hf' := hf _ (List.mem_singleton.2 rfl)
  refine wpIn_region_list ?_
  rw [hops]
  refine runOps_k (R := none) (hc Y hY).det l rs h σ own a w s hg hH hT hn (fun e => hf' (by rw [e])) (fun s' a' w' e hk => ?_) (fun v h' vc a' w' e hk => absurd (by rw [e]) hf')
  rw [e] at hf' ⊢
  have hf' : deferTo X A s' ds ≠ .fail := hf'
  obtain ⟨σ', own', h1, h2, h3, h4, h5⟩ := hk
  obtain ⟨k1, k2⟩ := hX σ' a' s'.tmps (hg.mono h1.le) h3
  refine wpListIn_plain rfl fun K' hK' => ?_
  unfold deferTo at hf'
  cases hv : X.ev s'.tmps with
  | func fn fa fb =>
    rw [hv] at hf' k1
    cases fn with
    | func g =>
      obtain ⟨x, y, he, e1, e2⟩ := k1
      have hrun : (execOp a'.eval ⟨none, .defer ⟨.value f, args, ts⟩, ty, pos, af, none⟩).run P w' = .ok (.defer { target := .fn (.func g) y, args := x ++ args.map a'.eval }) w' := by
        simp [execOp, resolve, he, Deferred.ofValue]
      refine ⟨fun _ _ => trivial, ?_⟩
      rw [show Oper.semAt (FR none).round a'.eval ⟨none, .defer ⟨.value f, args, ts⟩, ty, pos, af, none⟩ = execOp a'.eval ⟨none, .defer ⟨.value f, args, ts⟩, ty, pos, af, none⟩ from rfl, hrun]
      refine hK' _ _ ?_
      refine ⟨_, List.mem_singleton.2 rfl, ?_⟩
      have hdt : deferTo X A s' ds = .normal s' (.call (.func (.func g) fa fb) (evL A s'.tmps) :: ds) := by unfold deferTo; rw [hv]; rfl
      show Lands K n σ s.heap (deferTo X A s' ds) _ _ _
      rw [hdt]
      refine ⟨rfl, ⟨σ', own', h1, h2, h3, ?_⟩, h4⟩
      exact ⟨_, _, rfl, ⟨g, fa, fb, x, y, args.map a'.eval, rfl, rfl, e1, e2, k2⟩, by rw [h5]; exact hd.mono h1.le⟩
    | _ => exact absurd rfl hf'
  | _ => rw [hv] at hf'; exact absurd rfl hf'
theorem CodeOK.seq {c d : Code} {x y : AC} (h1 : CodeOK P K ng n R c x) (h2 : CodeOK P K ng n R d y) : CodeOK P K ng n R (.seq c d) (.seq x y) := by
  intro callY Y lf hc hY σ own a w s ds hg hH hT hn hd hf
  have hdef : exec callY Y lf (.seq x y) s ds = bindG (exec callY Y lf x s ds) (fun e => e.thenE (exec callY Y lf y)) := rfl
  rw [hdef] at hf ⊢
  have hin : ∀ {e e'}, e ∈ exec callY Y lf x s ds → e' ∈ e.thenE (exec callY Y lf y) → e' ∈ bindG (exec callY Y lf x s ds) (fun e => e.thenE (exec callY Y lf y)) := fun {e e'} he he' => mem_bindG.2 ⟨e, he, he'⟩
  refine wpIn_seq (wpIn_mono (h1 callY Y lf hc hY σ own a w s ds hg hH hT hn hd (fun e he hfl => hf _ (hin he (by rw [hfl]; exact List.mem_singleton.2 rfl)) rfl)) fun e a' w' ⟨ex, hex, hl⟩ => ?_)
  cases ex with
  | normal s' ds' =>
    obtain ⟨rfl, ⟨⟨σ', own', g1, g2, g3, g4⟩, g5⟩⟩ := hl
    refine wpIn_mono (h2 callY Y lf hc hY σ' own' a' w' s' ds' (hg.mono g1.le) g2 g3 g5 g4 (fun e he => hf _ (hin hex he))) fun e a w hl => ?_
    obtain ⟨e', he', hl'⟩ := hl.grow g1
    exact ⟨e', hin hex he', hl'⟩
  | exit id s' ds' => obtain ⟨rfl, hs⟩ := hl; exact ⟨_, hin hex (List.mem_singleton.2 rfl), rfl, hs⟩
  | ret s' ds' => obtain ⟨rfl, hs⟩ := hl; exact ⟨_, hin hex (List.mem_singleton.2 rfl), rfl, hs⟩
  | panic v h' => obtain ⟨h0, vc, rfl, hs⟩ := hl; exact ⟨_, hin hex (List.mem_singleton.2 rfl), h0, vc, rfl, hs⟩
  | fail => exact absurd rfl (hf _ (hin hex (List.mem_singleton.2 rfl)))
theorem CodeOK.cond {c d : Code} {x y : AC} {z : Operand} {Z : Opd} (hcst : CstOK cst) (hz : opd ng cst z = some Z) (h1 : CodeOK P K ng n R c x) (h2 : CodeOK P K ng n R d y) : CodeOK P K ng n R (.cond z c d) (.cond Z x y) := by
  intro callY Y lf hc hY σ own a w s ds hg hH hT hn hd hf
  have hdef : exec callY Y lf (.cond Z x y) s ds = (Z.ev s.tmps).onBool (exec callY Y lf x s ds) (exec callY Y lf y s ds) [.fail] := rfl
  rw [hdef] at hf ⊢
  have hv := opd_ok hcst hg hT hz
  cases hZ : Z.ev s.tmps with
  | bool b =>
    rw [hZ] at hf hv
    have hv' : a.eval z = .bool b := hv
    cases b with
    | true => exact wpIn_cond_true hv' (h1 callY Y lf hc hY σ own a w s ds hg hH hT hn hd hf)
    | false => exact wpIn_cond_false hv' (h2 callY Y lf hc hY σ own a w s ds hg hH hT hn hd hf)
  | _ => rw [hZ] at hf; exact absurd rfl (hf _ (List.mem_singleton.2 rfl))
theorem CodeOK.block {id : Nat} {c : Code} {x : AC} (h1 : CodeOK P K ng n R c x) : CodeOK P K ng n R (.block id c) (.block id x) := by
  intro callY Y lf hc hY σ own a w s ds hg hH hT hn hd hf
  have hdef : exec callY Y lf (.block id x) s ds = bindG (exec callY Y lf x s ds) (fun e => [e.inB id]) := rfl
  rw [hdef] at hf ⊢
  have hin : ∀ {e}, e ∈ exec callY Y lf x s ds → e.inB id ∈ bindG (exec callY Y lf x s ds) (fun e => [e.inB id]) := fun {e} he => mem_bindG.2 ⟨e, he, List.mem_singleton.2 rfl⟩
  refine wpIn_block (wpIn_mono (h1 callY Y lf hc hY σ own a w s ds hg hH hT hn hd (fun e he hfl => hf _ (hin he) (by rw [hfl]; rfl))) fun e a' w' ⟨ex, hex, hl⟩ => ?_)
  cases ex with
  | normal s' ds' => obtain ⟨rfl, hs⟩ := hl; exact ⟨_, hin hex, rfl, hs⟩
  | exit id' s' ds' =>
    obtain ⟨rfl, hs⟩ := hl
    have hx := hin hex
    have hd2 : (Ex.exit id' s' ds').inB id = ifb (Nat.beq id' id) (.normal s' ds') (.exit id' s' ds') := rfl
    rw [hd2] at hx
    cases hb : Nat.beq id' id with
    | true =>
      rw [hb] at hx
      have := Nat.eq_of_beq_eq_true hb
      subst this
      simp only [Exit.inBlock, if_true]
      exact ⟨_, hx, rfl, hs⟩
    | false =>
      rw [hb] at hx
      have hne : ¬ id' = id := fun e => by subst e; rw [Nat.beq_refl] at hb; cases hb
      simp only [Exit.inBlock, hne, if_false]
      exact ⟨_, hx, rfl, hs⟩
  | ret s' ds' => obtain ⟨rfl, hs⟩ := hl; exact ⟨_, hin hex, rfl, hs⟩
  | panic v h' => obtain ⟨h0, vc, rfl, hs⟩ := hl; exact ⟨_, hin hex, h0, vc, rfl, hs⟩
  | fail => exact absurd rfl (hf _ (hin hex))
theorem loop_key {c : Code} {x : AC} (h1 : CodeOK P K ng n R c x) {callY : CallerY} {Y : YH} {lf : Nat} (hc : CallYOK P K ng callY) (hY : YOK P K ng Y) (b : Frame) (k : List Item) (cs : List Frame) (hro : b.roundOf = (FR R).round) (hb : (FR R).fn b.fn) (hr : (FR R).room (cs.length + 1 + 0)) :
    ∀ (m : Nat) (σ : Env) (own : Owns) (a : Act) (w : World) (s : St) (ds : List DE), Globs ng σ → HR K σ own s.heap w → TR K σ s.tmps a → n ≤ a.tmps.size → DefsR K σ ds a.defers →
      noE (loopN (exec callY Y lf x) m s ds) → ∃ e a' w', LandsL K n σ s.heap (loopN (exec callY Y lf x) m s ds) e a' w' ∧ ArrivesIn (Machine.fenced P (FR R)) P (lone (b.atR a (.code c :: .inLoop c :: k)) cs w) b k cs e a' w'
  | 0, σ, own, a, w, s, ds, hg, hH, hT, hn, hd, hf => absurd rfl (hf _ (List.mem_singleton.2 rfl))
  | m + 1, σ, own, a, w, s, ds, hg, hH, hT, hn, hd, hf => by
    have hdef : loopN (exec callY Y lf x) (m + 1) s ds = bindG (exec callY Y lf x s ds) (fun e => e.thenE (loopN (exec callY Y lf x) m)) := rfl
    rw [hdef] at hf ⊢
    have hin : ∀ {e e'}, e ∈ exec callY Y lf x s ds → e' ∈ e.thenE (loopN (exec callY Y lf x) m) → e' ∈ bindG (exec callY Y lf x s ds) (fun e => e.thenE (loopN (exec callY Y lf x) m)) := fun {e e'} he he' => mem_bindG.2 ⟨e, he, he'⟩
    obtain ⟨e, a₁, w₁, ⟨ex, hex, hl⟩, harr⟩ := h1 callY Y lf hc hY σ own a w s ds hg hH hT hn hd (fun e he hfl => hf _ (hin he (by rw [hfl]; exact List.mem_singleton.2 rfl)) rfl) b (.inLoop c :: k) cs hro hb hr
    cases ex with
    | normal s' ds' =>
      obtain ⟨rfl, ⟨⟨σ', own', g1, g2, g3, g4⟩, g5⟩⟩ := hl
      obtain ⟨e₂, a₂, w₂, hl₂, harr₂⟩ := loop_key h1 hc hY b k cs hro hb hr m σ' own' a₁ w₁ s' ds' (hg.mono g1.le) g2 g3 g5 g4 (fun e he => hf _ (hin hex he))
      obtain ⟨e', he', hl'⟩ := hl₂.grow g1
      exact ⟨e₂, a₂, w₂, ⟨e', hin hex he', hl'⟩, .of_steps (StepsIn.trans harr (.one (fenced_calm hb hr rfl) stepR_inLoop)) harr₂⟩
    | exit id' s' ds' => obtain ⟨rfl, hs⟩ := hl; exact ⟨_, a₁, w₁, ⟨_, hin hex (List.mem_singleton.2 rfl), rfl, hs⟩, .pass (x := .inLoop c) rfl (fun _ _ => .inl (by simp)) harr⟩
    | ret s' ds' => obtain ⟨rfl, hs⟩ := hl; exact ⟨_, a₁, w₁, ⟨_, hin hex (List.mem_singleton.2 rfl), rfl, hs⟩, .pass (x := .inLoop c) rfl (fun _ _ => .inl (by simp)) harr⟩
    | panic v h' => obtain ⟨h0, vc, rfl, hs⟩ := hl; exact ⟨_, a₁, w₁, ⟨_, hin hex (List.mem_singleton.2 rfl), h0, vc, rfl, hs⟩, .pass (x := .inLoop c) rfl (fun _ _ => .inl (by simp)) harr⟩
    | fail => exact absurd rfl (hf _ (hin hex (List.mem_singleton.2 rfl)))
theorem CodeOK.loop {c : Code} {x : AC} (h1 : CodeOK P K ng n R c x) : CodeOK P K ng n R (.loop c) (.loop x) := by
  intro callY Y lf hc hY σ own a w s ds hg hH hT hn hd hf b k cs hro hb hr
  obtain ⟨e, a', w', hl, harr⟩ := loop_key h1 (lf := lf) hc hY b k cs hro hb hr lf σ own a w s ds hg hH hT hn hd hf
  exact ⟨e, a', w', hl, .of_steps (.one (fenced_calm hb hr rfl) stepR_loop) harr⟩
def RAOK (P : Program) (r : RA) (v : ResultVar) : Prop :=
  match v with
  | .tmp t => r = .t (posOf t)
  | .cell t ty => ∃ d i, P.underlying ty = some d ∧ P.info? ty = some i ∧ ((isAggD d = false ∧ r = .c1 (posOf t)) ∨ (isAggD d = true ∧ r = .cN (posOf t) i.size))
def RAsOK (P : Program) : List RA → List ResultVar → Prop
  | [], l => l = []
  | r :: rs, l => ∃ v vs, l = v :: vs ∧ RAOK P r v ∧ RAsOK P rs vs
theorem argsT_get : ∀ (l : List AV) (i : Nat) (tm : PT AV) (j : Nat), (Opd.t (posOf j)).ev (argsT l (posOf i) tm) = if i ≤ j ∧ j < i + l.length then l[j - i]?.getD .undef else (Opd.t (posOf j)).ev tm
  | [], i, tm, j => by
    rw [if_neg (by simp; try omega)]; rfl
  | v :: l, i, tm, j => by
    show (Opd.t (posOf j)).ev (argsT l (posOf (i + 1)) (tm.set v (posOf i))) = _
    rw [argsT_get l (i + 1)]
    by_cases h : i = j
    · subst h
      rw [if_neg (by omega), if_pos (by simp)]
      rw [ev_set_same]; simp
    · by_cases h2 : i + 1 ≤ j ∧ j < i + 1 + l.length
      · rw [if_pos h2, if_pos (by simp; omega), show j - i = (j - (i + 1)) + 1 by omega]; simp
      · rw [if_neg h2, if_neg (by simp at h2 ⊢; omega), ev_set_other _ _ (fun e => h (posOf_inj e).symm)]
theorem TR.args {σ : Env} {args : List AV} {cargs : Array Value} (h : VRs K σ args cargs.toList) (m : Nat) :
    TR K σ (argsT args .h .nil) { tmps := cargs ++ Array.replicate m undef, defers := [] } := fun t => by
  have := argsT_get args 0 .nil t
  rw [show posOf 0 = Pos.h from rfl] at this
  rw [this]
  have hl : cargs.size = args.length := by have := h.length; simpa using this
  simp only [Nat.zero_le, true_and, Nat.zero_add, Nat.sub_zero]
  by_cases ht : t < args.length
  · rw [if_pos ht, List.getElem?_eq_getElem ht]
    obtain ⟨y, hy, hv⟩ := h.get (List.getElem?_eq_getElem ht)
    rw [Array.getElem?_toList] at hy
    have hy' : cargs[t] = y := by rw [Array.getElem?_eq_getElem (by omega)] at hy; exact Option.some.inj hy
    have e2 : (cargs ++ Array.replicate m undef).getD t undef = y := by
      rw [Array.getD_eq_getD_getElem?, Array.getElem?_append_left (by omega), hy]; rfl
    rw [e2]; exact hv
  · rw [if_neg ht]
    have e1 : (Opd.t (posOf t)).ev (PT.nil : PT AV) = .undef := by
      simp only [Opd.ev]; rfl
    have e2 : (cargs ++ Array.replicate m undef).getD t undef = undef := by
      rw [Array.getD_eq_getD_getElem?, Array.getElem?_append_right (by omega)]
      by_cases h2 : t - cargs.size < m
      · simp [h2]
      · simp [h2]
    rw [e1, e2]
    exact VR.undef
theorem RA_ok {σ : Env} {own : Owns} {s : St} {a : Act} {w : World} (hH : HR K σ own s.heap w) (hT : TR K σ s.tmps a) {r : RA} {v : ResultVar} (h : RAOK P r v) {x : AV} (hx : r.get s = some x) :
    ∃ c, ((match v with | .tmp t => pure (a.tmps.getD t undef) | .cell t ty => do loadVar ty (← asAddr (a.tmps.getD t undef)) : Sem Value)).run P w = .ok c w ∧ VR K σ x c := by
  cases v with
  | tmp t =>
    have : r = .t (posOf t) := h
    subst this
    have hx' : some ((Opd.t (posOf t)).ev s.tmps) = some x := by rw [RA.get_t] at hx; exact hx
    cases hx'
    exact ⟨_, rfl, hT t⟩
  | cell t ty =>
    obtain ⟨d, i, hd, hi, h⟩ := h
    have hTt := hT t
    have key : ∀ (f : Pos → Nat → Option AV), ((Opd.t (posOf t)).ev s.tmps).onPtr f none = some x → ∃ b off l, σ b = some l ∧ a.tmps.getD t undef = .pointer (some ⟨l.B, l.o + off, none⟩) ∧ f b off = some x := fun f hx => by
      cases hv : (Opd.t (posOf t)).ev s.tmps with
      | ptr b off =>
        rw [hv] at hx hTt
        obtain ⟨l, hl, hp⟩ := hTt
        exact ⟨b, off, l, hl, hp, hx⟩
      | _ => rw [hv] at hx; cases hx
    rcases h with ⟨ha, rfl⟩ | ⟨ha, rfl⟩
    · obtain ⟨b, off, l, hl, hp, hx⟩ := key _ hx
      obtain ⟨u, hu, hvu⟩ := hH.load1 hl hx
      refine ⟨u, ?_, hvu⟩
      simp [hp, asAddr, loadVar, run_isAgg hd, ha, hu]
    · obtain ⟨b, off, l, hl, hp, hx⟩ := key _ hx
      obtain ⟨vs, hv, hx⟩ := onSome_eq hx
      cases hx
      obtain ⟨cs, h1, h2, h3⟩ := hH.loadN hl hv
      refine ⟨.agg cs.toArray, ?_, ⟨_, rfl, by simpa using h2⟩⟩
      have hr := run_loadVar_agg (P := P) (w := w) hd ha hi h1 h3
      simp [hp, asAddr, hr]
noncomputable def resOf (a : Act) (v : ResultVar) : Sem Value := match v with | .tmp t => pure (a.tmps.getD t undef) | .cell t ty => do loadVar ty (← asAddr (a.tmps.getD t undef))
theorem resL_ok {σ : Env} {own : Owns} {s : St} {a : Act} {w : World} (hH : HR K σ own s.heap w) (hT : TR K σ s.tmps a) : ∀ {rs : List RA} {vs : List ResultVar}, RAsOK P rs vs → ∀ {l : List AV}, resL s rs = some l →
    ∃ cs, (vs.mapM (resOf a)).run P w = .ok cs w ∧ VRs K σ l cs
  | [], vs, h, l, hl => by
    simp only [RAsOK] at h; subst h
    have hl' : some [] = some l := hl
    cases hl'
    exact ⟨[], rfl, rfl⟩
  | r :: rs, _, ⟨v, vs, rfl, h1, h2⟩, l, hl => by
    have hl' : onSome (r.get s) (fun v => onSome (resL s rs) (fun l => some (v :: l)) none) none = some l := hl
    obtain ⟨x, hx, hl'⟩ := onSome_eq hl'
    obtain ⟨l', hl2, hl'⟩ := onSome_eq hl'
    cases hl'
    obtain ⟨c, k1, k2⟩ := RA_ok hH hT h1 hx
    obtain ⟨cs, k3, k4⟩ := resL_ok hH hT h2 hl2
    refine ⟨c :: cs, ?_, VRs.cons k2 k4⟩
    rw [List.mapM_cons]
    have k1' : (resOf a v).run P w = .ok c w := k1
    simp only [Sem.run_bind, k1', Result.andThen_ok, k3, Sem.run_pure]
theorem results_ok {σ : Env} {own : Owns} {s : St} {a : Act} {w : World} (hH : HR K σ own s.heap w) (hT : TR K σ s.tmps a) {rs : List RA} {func : Func} (h : RAsOK P rs func.results.toList) {l : List AV} (hl : resL s rs = some l) :
    ∃ c, (results func a.tmps).run P w = .ok c w ∧ VR K σ (oneV l) c := by
  obtain ⟨cs, h1, h2⟩ := resL_ok hH hT h hl
  refine ⟨if h : cs.toArray.size = 1 then cs.toArray[0] else .tuple cs.toArray, ?_, ?_⟩
  · have hm : (func.results.mapM (resOf a)).run P w = .ok cs.toArray w := by
      rw [Array.mapM_eq_mapM_toList]
      show ((func.results.toList.mapM (resOf a)) >>= fun x => pure x.toArray).run P w = _
      simp only [Sem.run_bind, h1, Result.andThen_ok, Sem.run_pure]
    have he : results func a.tmps = (do let vs ← func.results.mapM (resOf a); pure (if h : vs.size = 1 then vs[0] else .tuple vs)) := rfl
    rw [he]
    simp only [Sem.run_bind, hm, Result.andThen_ok, Sem.run_pure]
  · have hlen := h2.length
    match l, cs, h2, hlen with
    | [], cs, h2, hlen =>
      have : cs = [] := by simpa using hlen
      subst this
      exact ⟨#[], by simp, rfl⟩
    | [x], cs, h2, hlen =>
      obtain ⟨y, ys, rfl, h3, h4⟩ := h2
      have : ys = [] := by simpa using hlen
      subst this
      show VR K σ x _
      simpa using h3
    | x :: y :: l, cs, h2, hlen =>
      refine ⟨cs.toArray, ?_, by simpa using h2⟩
      rw [dif_neg (by simp [hlen])]
end
end Go.Eng
namespace Go.Eng
open Go.RowKit
section
variable {P : Program} {K : Ctx} {ng n : Nat} {cst : Value → Option AV}
theorem onExt_some {α : Type} {h : AHeap} {b : Pos} {f : AExt → α} {z x : α} (hx : h.onExt b f z = x) (hz : x ≠ z) : ∃ e, h.get b = some (.ext e) ∧ f e = x := by
  unfold AHeap.onExt at hx
  cases hg : h.objs.get b with
  | none => rw [hg] at hx; exact absurd hx.symm hz
  | some o =>
    rw [hg] at hx
    cases o with
    | ext e => exact ⟨e, hg, hx⟩
    | _ => exact absurd hx.symm hz
theorem onLoop_some {α : Type} {e : AExt} {f : Nat → Nat → Nat → Nat → PT AV → α} {z x : α} (hx : e.onLoop f z = x) (hz : x ≠ z) : ∃ st pend f' i tm, e = .loop st pend f' i tm ∧ f st pend f' i tm = x := by
  cases e with
  | loop st pend f' i tm => exact ⟨_, _, _, _, _, rfl, hx⟩
  | _ => exact absurd hx.symm hz
theorem HR.ext {σ : Env} {own : Owns} {h : AHeap} {w : World} (H : HR K σ own h w) {b : Pos} {l : Loc} (hl : σ b = some l) {x : AExt} (hg : h.get b = some (.ext x)) : (own l.B = some (false, b) ∧ l.o = 0) ∧ ∃ o, w.heap[l.B]? = some o ∧ ExtR K σ x o := by
  have := H.obj b l hl
  rw [hg] at this
  exact this
theorem HR.setExt {σ : Env} {own : Owns} {h : AHeap} {w : World} (H : HR K σ own h w) {b : Pos} {l : Loc} (hl : σ b = some l) (ho : own l.B = some (false, b) ∧ l.o = 0) {o : Obj} {x : AExt} (hx : ExtR K σ x o) :
    HR K σ own (h.setObj b (.ext x)) (w.putObj l.B o) := by
  have hlt := (H.owned _ _ ho.1).2
  refine H.setBlock hl ho.1 (fun p ro r e => by cases e) ⟨ho, o, ?_, hx⟩
  simp [hlt]
theorem HR.killExt {σ : Env} {own : Owns} {h : AHeap} {w : World} (H : HR K σ own h w) {b : Pos} {l : Loc} (hl : σ b = some l) (ho : own l.B = some (false, b) ∧ l.o = 0) (o : Obj) :
    HR K σ own (h.setObj b .dead) (w.putObj l.B o) := H.setBlock hl ho.1 (fun p ro r e => by cases e) trivial
theorem HR.newExt {σ : Env} {own : Owns} {h : AHeap} {w : World} (H : HR K σ own h w) {o : Obj} {x : AExt} (hx : ExtR K σ x o) :
    HR K (σ.add h.next ⟨w.heap.size, 0, 0⟩) (own.add w.heap.size (false, h.next)) (h.new (.ext x)) (w.alloc o) := by
  have hle : σ.le (σ.add h.next ⟨w.heap.size, 0, 0⟩) := Env.le_add _ (H.fresh _ (Nat.le_refl _))
  refine H.newObj (.ext x) o 0 (fun p ro r e => by cases e) ⟨⟨by simp [Owns.add], rfl⟩, o, World.alloc_heap_new w o, hx.mono hle⟩
theorem setPs_ok {σ : Env} : ∀ (ps : List Tmp) (args : List AV) (cargs : List Value) (tm : PT AV) (t : Array Value), lenL args = lenP (ps.map posOf) → VRs K σ args cargs → TL K σ tm t → (∀ p ∈ ps, p < t.size) →
    TL K σ (setPs (ps.map posOf) args tm) ((ps.zip cargs).foldl (fun t (x : Tmp × Value) => t.setIfInBounds x.1 x.2) t) ∧ ((ps.zip cargs).foldl (fun t (x : Tmp × Value) => t.setIfInBounds x.1 x.2) t).size = t.size
  | [], args, cargs, tm, t, hl, ha, hT, hp => ⟨hT, rfl⟩
  | p :: ps, [], cargs, tm, t, hl, ha, hT, hp => by cases hl
  | p :: ps, v :: args, cargs, tm, t, hl, ha, hT, hp => by
    obtain ⟨y, ys, rfl, h1, h2⟩ := ha
    have hl' : lenL args = lenP (ps.map posOf) := Nat.succ.inj hl
    have hT' : TL K σ (tm.set v (posOf p)) (t.setIfInBounds p y) := fun u => by
      by_cases e : u = p
      · subst e
        rw [ev_set_same]
        have := hp u List.mem_cons_self
        simpa [this] using h1
      · rw [ev_set_other _ _ (fun h => e (posOf_inj h))]
        have := hT u
        simpa [Array.getElem?_setIfInBounds_ne (Ne.symm e)] using this
    obtain ⟨k1, k2⟩ := setPs_ok ps args ys (tm.set v (posOf p)) (t.setIfInBounds p y) hl' h2 hT' (fun q hq => by simpa using hp q (List.mem_cons_of_mem _ hq))
    exact ⟨k1, by rw [List.zip_cons_cons, List.foldl_cons, k2]; simp⟩
theorem lenP_eq (l : List Pos) : lenP l = l.length := by
  induction l with
  | nil => rfl
  | cons x l ih => show Nat.succ (lenP l) = _; rw [ih]; rfl
theorem noDs_mem {α : Type} {ds : List DE} {x : List (Out α)} (h : noF (noDs ds x)) (hne : ∀ y, y ∈ noDs ds x → y ≠ .fail) : (ds = [] ∧ noDs ds x = x) := by
  cases ds with
  | nil => exact ⟨rfl, rfl⟩
  | cons d ds => exact absurd rfl (h _ (List.mem_singleton.2 rfl))
theorem endRound_ok {σ0 σ : Env} {own : Owns} {h0 h : AHeap} {w : World} (g : Grow σ0 σ h0 h) (H : HR K σ own h w) {l : Pos} {L : Loc} (hl : σ l = some L) {st pend : Nat} {go : Bool} {jump : Option Code}
    (hj : jump.isNone = go) (hp : pendOf pend = jump) (hs : stOf st = if jump.isNone then .ready else .done) (hf : noF (endRound l st pend go h)) :
    ∃ v w', (Instr.endRound L.B jump).run P w = .ok v w' ∧ BackL K σ0 h0 (endRound l st pend go h) (.returned v) w' := by
  have hf1 : ∃ e, h.get l = some (.ext e) ∧ e.onLoop (fun _ _ f i tm => [Out.ok (AV.bool go, h.setObj l (.ext (.loop st pend f i tm)))]) [.fail] = endRound l st pend go h :=
    onExt_some rfl (fun e => hf .fail (by rw [e]; exact List.mem_singleton.2 rfl) rfl)
  obtain ⟨e, h1, h2⟩ := hf1
  obtain ⟨st', pend', f, i, tm, rfl, h3⟩ := onLoop_some h2 (fun e => hf .fail (by rw [e]; exact List.mem_singleton.2 rfl) rfl)
  obtain ⟨ho, o, h4, c, r, rfl, h5, h6, h7, h8, h9, h10, h11, h12⟩ := H.ext hl h1
  refine ⟨_, _, run_endRound jump h4, ?_⟩
  rw [← h3]
  refine ⟨_, List.mem_singleton.2 rfl, _, rfl, σ, own, ?_, ⟨g.le, g.keep, g.next⟩, H.setExt hl ho ⟨c, _, rfl, h5, ?_, ?_, h8, h9, h10, h11, h12⟩⟩
  · show _ = _; rw [hj]
  · show _ = _; rw [hs]
  · exact hp.symm
theorem rngH_ok {callY : CallerY} {Y : YH} {lf : Nat} (hc : CallYOK P K ng callY) (hY : YOK P K ng Y) {f i : Nat} {ps : Array Tmp} {asg body : Code} {xa xb : AC} (hcodes : K.codes f i = some ⟨ps, asg, body, n⟩) (hps : ∀ p ∈ ps.toList, p < n)
    (ha : ∀ R, CodeOK P K ng n R asg xa) (hb : ∀ R, CodeOK P K ng n R body xb) (l : Pos) :
    ∀ (σ : Env) (own : Owns) (w : World) (h : AHeap) (L : Loc) (args : List AV) (cargs : Array Value), Globs ng σ → HR K σ own h w → σ l = some L → VRs K σ args cargs.toList →
      noF (rngH f i (ps.toList.map posOf) (exec callY Y lf xa) (exec callY Y lf xb) l args h) → Yields P L.B cargs w (BackL K σ h (rngH f i (ps.toList.map posOf) (exec callY Y lf xa) (exec callY Y lf xb) l args h)) := by
  intro σ own w h L args cargs hg H hl hargs hf
  have nf : ∀ {x : List (Out (AV × AHeap))}, noF x → x ≠ [.fail] := fun {x} hx e => hx .fail (by rw [e]; exact List.mem_singleton.2 rfl) rfl
  obtain ⟨e, h1, h2⟩ := onExt_some (show h.onExt l _ _ = rngH f i (ps.toList.map posOf) (exec callY Y lf xa) (exec callY Y lf xb) l args h from rfl) (nf hf)
  obtain ⟨st, pend, f', i', tm, rfl, h3⟩ := onLoop_some h2 (nf hf)
  cases hff : Nat.beq f f' with
  | false => rw [hff] at h3; exact absurd h3.symm (nf hf)
  | true =>
  cases hii : Nat.beq i i' with
  | false => rw [hff, hii] at h3; exact absurd h3.symm (nf hf)
  | true =>
  cases hll : Nat.beq (lenL args) (lenP (ps.toList.map posOf)) with
  | false => rw [hff, hii, hll] at h3; exact absurd h3.symm (nf hf)
  | true =>
  rw [hff, hii, hll] at h3
  have h3 : bindG (exec callY Y lf xa ⟨setPs (ps.toList.map posOf) args tm, h⟩ []) (roundA l (exec callY Y lf xb)) = rngH f i (ps.toList.map posOf) (exec callY Y lf xa) (exec callY Y lf xb) l args h := h3
  rw [← h3] at hf ⊢
  obtain rfl := Nat.eq_of_beq_eq_true hff
  obtain rfl := Nat.eq_of_beq_eq_true hii
  have hll := Nat.eq_of_beq_eq_true hll
  obtain ⟨ho, o, h4, c, r, rfl, h5, h6, h7, h8, h9, h10, h11, h12⟩ := H.ext hl h1
  rw [hcodes] at h5
  cases h5
  have hsz : cargs.size = r.params.size := by
    rw [h8]
    show cargs.size = ps.size
    have e1 := hargs.length
    rw [lenL_eq, lenP_eq] at hll
    simp at e1 hll
    omega
  have hin : ∀ {e x}, e ∈ exec callY Y lf xa ⟨setPs (ps.toList.map posOf) args tm, h⟩ [] → x ∈ roundA l (exec callY Y lf xb) e → x ∈ bindG (exec callY Y lf xa ⟨setPs (ps.toList.map posOf) args tm, h⟩ []) (roundA l (exec callY Y lf xb)) := fun {e x} he hx => mem_bindG.2 ⟨e, he, hx⟩
  refine ⟨r.fn, _, r.assign, r.body, run_yield h4 hsz, ?_⟩
  rw [h8, h9, h10]
  obtain ⟨k1, k2⟩ := setPs_ok (K := K) ps.toList args cargs.toList tm r.tmps hll hargs h12 (fun p hp => Nat.lt_of_lt_of_le (hps p hp) h11)
  have hfold : (ps.zip cargs).foldl (fun t (x : Tmp × Value) => t.setIfInBounds x.1 x.2) r.tmps = (ps.toList.zip cargs.toList).foldl (fun t (x : Tmp × Value) => t.setIfInBounds x.1 x.2) r.tmps := by
    rw [← Array.foldl_toList, Array.toList_zip]
  refine roundIn_of_wpIn (F := FR none) trivial ?_
  show asg.wpIn (FR (some L.B)) 0 P _ _ _
  have hT1 : TR K σ (setPs (ps.toList.map posOf) args tm) { tmps := (ps.zip cargs).foldl (fun t (x : Tmp × Value) => t.setIfInBounds x.1 x.2) r.tmps, defers := [] } := fun t => by
    show VR K σ _ (((ps.zip cargs).foldl (fun t (x : Tmp × Value) => t.setIfInBounds x.1 x.2) r.tmps).getD t undef)
    rw [hfold]; exact k1 t
  refine wpIn_mono (ha (some L.B) callY Y lf hc hY σ own { tmps := (ps.zip cargs).foldl (fun t (x : Tmp × Value) => t.setIfInBounds x.1 x.2) r.tmps, defers := [] } w ⟨setPs (ps.toList.map posOf) args tm, h⟩ [] hg H hT1 ?_ rfl ?_) ?_
  · show n ≤ Array.size _
    rw [hfold, k2]; exact h11
  · intro e he hfl
    exact hf .fail (hin he (by rw [hfl]; exact List.mem_singleton.2 rfl)) rfl
  rintro e a1 w1 ⟨ex, hex, hl1⟩
  have bad : ∀ {x : List (Out (AV × AHeap))}, roundA l (exec callY Y lf xb) ex = x → noF x := fun {x} e y hy => hf y (hin hex (by rw [e]; exact hy))
  cases ex with
  | exit id s' ds' => exact absurd rfl (nf (bad rfl))
  | ret s' ds' => exact absurd rfl (nf (bad rfl))
  | panic v h' => exact absurd rfl (nf (bad rfl))
  | fail => exact absurd rfl (nf (bad rfl))
  | normal s1 ds1 =>
    obtain ⟨rfl, ⟨⟨σ1, own1, g1, g2, g3, g4⟩, g5⟩⟩ := hl1
    cases ds1 with
    | cons d ds => exact absurd rfl (nf (bad rfl))
    | nil =>
    have g4 : a1.defers = [] := g4
    obtain ⟨e1, q1, q2⟩ := onExt_some (show s1.heap.onExt l _ _ = roundA l (exec callY Y lf xb) (.normal s1 []) from rfl) (nf (bad rfl))
    obtain ⟨st1, pend1, f1, i1, tm1, rfl, q3⟩ := onLoop_some q2 (nf (bad rfl))
    cases hst : Nat.beq st1 0 with
    | false => rw [hst] at q3; exact absurd q3.symm (nf (bad rfl))
    | true =>
    rw [hst] at q3
    have q3 : bindG (exec callY Y lf xb ⟨s1.tmps, s1.heap.setObj l (.ext (.loop 1 pend1 f1 i1 tm1))⟩ []) (roundB l) = roundA l (exec callY Y lf xb) (.normal s1 []) := q3
    obtain rfl := Nat.eq_of_beq_eq_true hst
    have hl1 := g1.le _ _ hl
    obtain ⟨ho1, o1, q4, c1, r1, rfl, q5, q6, q7, q8, q9, q10, q11, q12⟩ := g2.ext hl1 q1
    refine ⟨_, run_beginRound q4 q6, ?_⟩
    have H2 := g2.setExt hl1 ho1 (o := .loop { r1 with state := .busy }) (x := .loop 1 pend1 f1 i1 tm1) ⟨c1, _, rfl, q5, rfl, q7, q8, q9, q10, q11, q12⟩
    have hin2 : ∀ {e x}, e ∈ exec callY Y lf xb ⟨s1.tmps, s1.heap.setObj l (.ext (.loop 1 pend1 f1 i1 tm1))⟩ [] → x ∈ roundB l e → x ∈ bindG (exec callY Y lf xa ⟨setPs (ps.toList.map posOf) args tm, h⟩ []) (roundA l (exec callY Y lf xb)) := fun {e x} he hx =>
      hin hex (by rw [← q3]; exact mem_bindG.2 ⟨e, he, hx⟩)
    have hT2 : TR K σ1 s1.tmps { tmps := a1.tmps, defers := a1.defers } := g3
    refine wpIn_mono (hb (some L.B) callY Y lf hc hY σ1 own1 a1 _ ⟨s1.tmps, s1.heap.setObj l (.ext (.loop 1 pend1 f1 i1 tm1))⟩ [] (hg.mono g1.le) H2 g3 g5 g4 ?_) ?_
    · intro e he hfl
      exact hf .fail (hin2 he (by rw [hfl]; exact List.mem_singleton.2 rfl)) rfl
    rintro e a2 w2 ⟨ey, hey, hl2⟩
    have g1' : Grow σ σ1 h (s1.heap.setObj l (.ext (.loop 1 pend1 f1 i1 tm1))) := ⟨g1.le, g1.keep, g1.next⟩
    have nf2 : noF (roundB l ey) := fun y hy => hf y (hin2 hey hy)
    have up : ∀ {e w}, BackL K σ h (roundB l ey) e w → BackL K σ h (bindG (exec callY Y lf xa ⟨setPs (ps.toList.map posOf) args tm, h⟩ []) (roundA l (exec callY Y lf xb))) e w := fun {e w} ⟨x, hx, hb⟩ => ⟨x, hin2 hey hx, hb⟩
    cases ey with
    | panic v h' => exact absurd rfl (nf nf2)
    | fail => exact absurd rfl (nf nf2)
    | normal s2 ds2 =>
      obtain ⟨rfl, ⟨⟨σ2, own2, k1', k2', k3, k4⟩, k5⟩⟩ := hl2
      cases ds2 with
      | cons d ds => exact absurd rfl (nf nf2)
      | nil =>
        obtain ⟨v, w', z1, z2⟩ := endRound_ok (P := P) (jump := none) (g1'.trans k1') k2' (k1'.le _ _ hl1) rfl rfl rfl nf2
        exact ⟨v, w', z1, up z2⟩
    | ret s2 ds2 =>
      obtain ⟨rfl, ⟨⟨σ2, own2, k1', k2', k3, k4⟩, k5⟩⟩ := hl2
      cases ds2 with
      | cons d ds => exact absurd rfl (nf nf2)
      | nil =>
        obtain ⟨v, w', z1, z2⟩ := endRound_ok (P := P) (jump := some .ret) (g1'.trans k1') k2' (k1'.le _ _ hl1) rfl rfl rfl nf2
        exact ⟨v, w', z1, up z2⟩
    | exit id s2 ds2 =>
      obtain ⟨rfl, ⟨⟨σ2, own2, k1', k2', k3, k4⟩, k5⟩⟩ := hl2
      cases ds2 with
      | cons d ds => exact absurd rfl (nf nf2)
      | nil =>
        obtain ⟨v, w', z1, z2⟩ := endRound_ok (P := P) (jump := some (.exit id)) (g1'.trans k1') k2' (k1'.le _ _ hl1) rfl rfl rfl nf2
        exact ⟨v, w', z1, up z2⟩
theorem addY_ok {Y : YH} (hY : YOK P K ng Y) {l : Pos} {H : List AV → AHeap → List (Out (AV × AHeap))}
    (hH : ∀ (σ : Env) (own : Owns) (w : World) (h : AHeap) (L : Loc) (args : List AV) (cargs : Array Value), Globs ng σ → HR K σ own h w → σ l = some L → VRs K σ args cargs.toList → noF (H args h) → Yields P L.B cargs w (BackL K σ h (H args h))) : YOK P K ng (addY Y l H) := by
  intro σ own w h b L args cargs hg Hh hb ha hf
  have hdef : addY Y l H b args h = ifb (b.eqb l) (H args h) (Y b args h) := rfl
  rw [hdef] at hf ⊢
  cases he : b.eqb l with
  | true =>
    rw [he] at hf
    obtain rfl := Pos.eqb_iff.1 he
    exact hH σ own w h L args cargs hg Hh hb ha hf
  | false => rw [he] at hf; exact hY σ own w h b L args cargs hg Hh hb ha hf
theorem CodeOK.rng {ent : Nat → Bool} (hent : ∀ f, ent f = true → Enters P f ∧ f ≠ yN) {g : Operand} {G : Opd} (hcst : CstOK cst) (hG : opd ng cst g = some G) {f i : Nat} {ps : Array Tmp} {asg body : Code} {xa xb : AC} (hcodes : K.codes f i = some ⟨ps, asg, body, n⟩) (hps : ∀ p ∈ ps.toList, p < n)
    (ha : ∀ R, CodeOK P K ng n R asg xa) (hb : ∀ R, CodeOK P K ng n R body xb) : CodeOK P K ng n none (.rangeFunc g ps asg body) (.rng ent G f i (ps.toList.map posOf) xa xb) := by
  intro callY Y lf hc hY σ own a w s ds hg hH hT hn hd hf
  have hdef : exec callY Y lf (.rng ent G f i (ps.toList.map posOf) xa xb) s ds = rngE callY Y ent G f i (ps.toList.map posOf) (exec callY Y lf xa) (exec callY Y lf xb) s ds := rfl
  rw [hdef] at hf ⊢
  have nf : ∀ {x : List Ex}, noE x → x ≠ [.fail] := fun {x} hx e => hx .fail (by rw [e]; exact List.mem_singleton.2 rfl) rfl
  have hv := opd_ok hcst hg hT hG
  cases hZ : G.ev s.tmps with
  | func fn fa fb =>
    rw [hZ] at hv
    cases fn with
    | func gf =>
      have hE : rngE callY Y ent G f i (ps.toList.map posOf) (exec callY Y lf xa) (exec callY Y lf xb) s ds = ifb (ent gf) (rngGo callY Y f i (ps.toList.map posOf) (exec callY Y lf xa) (exec callY Y lf xb) s ds gf fa fb s.heap.next (s.heap.new (.ext .dfr))) [.fail] := by
        unfold rngE; rw [hZ]; rfl
      rw [hE] at hf ⊢
      obtain ⟨x, y, he, e1, e2⟩ := hv
      cases hen : ent gf with
      | false => exact absurd (by rw [hen]; rfl) (nf hf)
      | true =>
      rw [hen] at hf
      have hf : noE (rngGo callY Y f i (ps.toList.map posOf) (exec callY Y lf xa) (exec callY Y lf xb) s ds gf fa fb s.heap.next (s.heap.new (.ext .dfr))) := hf
      show (Code.rangeFunc g ps asg body).wpIn (FR none) 0 P (LandsL K n σ s.heap (rngGo callY Y f i (ps.toList.map posOf) (exec callY Y lf xa) (exec callY Y lf xb) s ds gf fa fb s.heap.next (s.heap.new (.ext .dfr)))) a w
      obtain ⟨hEn, hgy⟩ := hent gf hen
      clear hE
      -- the two blocks
      have H1 := hH.newExt (o := .deferred (some [])) (x := .dfr) rfl
      generalize hh1 : s.heap.new (.ext .dfr) = h1 at hf H1 ⊢
      have hn1 : h1.next = s.heap.next.succ := by rw [← hh1]; rfl
      refine wpIn_rangeFunc fun fn _ => ?_
      let rec_ : Loop := { state := .ready, pending := none, fn := fn, tmps := a.tmps, params := ps, assign := asg, body := body, defers := w.heap.size }
      have hlt1 : σ.le (σ.add s.heap.next ⟨w.heap.size, 0, 0⟩) := Env.le_add _ (hH.fresh _ (Nat.le_refl _))
      have hTL : TL K (σ.add s.heap.next ⟨w.heap.size, 0, 0⟩) s.tmps a.tmps := fun t => (hT t).mono hlt1
      have H2 := H1.newExt (o := .loop rec_) (x := .loop 0 0 f i s.tmps) ⟨_, rec_, rfl, hcodes, rfl, rfl, rfl, rfl, rfl, hn, hTL⟩
      rw [World.size_alloc] at H2
      have hlt2 : (σ.add s.heap.next ⟨w.heap.size, 0, 0⟩).le ((σ.add s.heap.next ⟨w.heap.size, 0, 0⟩).add h1.next ⟨w.heap.size + 1, 0, 0⟩) := Env.le_add _ (H1.fresh _ (Nat.le_refl _))
      have hl : ((σ.add s.heap.next ⟨w.heap.size, 0, 0⟩).add h1.next ⟨w.heap.size + 1, 0, 0⟩) h1.next = some ⟨w.heap.size + 1, 0, 0⟩ := Env.add_same _ _ _
      have hdl : ((σ.add s.heap.next ⟨w.heap.size, 0, 0⟩).add h1.next ⟨w.heap.size + 1, 0, 0⟩) s.heap.next = some ⟨w.heap.size, 0, 0⟩ := hlt2 _ _ (Env.add_same _ _ _)
      generalize hσ2 : (σ.add s.heap.next ⟨w.heap.size, 0, 0⟩).add h1.next ⟨w.heap.size + 1, 0, 0⟩ = σ2 at H2 hlt2 hl hdl
      have hle : σ.le σ2 := hlt1.trans hlt2
      have hG2 : Grow σ σ2 s.heap (h1.new (.ext (.loop 0 0 f i s.tmps))) := ⟨hle, fun b hb => by
        rw [← hσ2, Env.add_other _ _ (fun e => by subst e; rw [hn1, Pos.num_succ] at hb; omega), Env.add_other _ _ (fun e => by subst e; omega)], by
        show s.heap.next.num ≤ h1.next.succ.num
        rw [hn1, Pos.num_succ, Pos.num_succ]; omega⟩
      have hY' : YOK P K ng (addY Y h1.next (rngH f i (ps.toList.map posOf) (exec callY Y lf xa) (exec callY Y lf xb) h1.next)) := addY_ok hY (rngH_ok hc hY hcodes hps ha hb h1.next)
      have hargs : VRs K σ2 (appL (appL fa [.yld h1.next]) fb) ((x ++ #[Value.func (.yield (w.heap.size + 1)) #[] #[]]) ++ y).toList := by
        rw [appL_eq, appL_eq]
        simp only [Array.toList_append]
        exact ((e1.mono hle).append (VRs.cons (x := .yld h1.next) ⟨_, hl, rfl⟩ VRs.nil)).append (e2.mono hle)
      generalize hR : callY (addY Y h1.next (rngH f i (ps.toList.map posOf) (exec callY Y lf xa) (exec callY Y lf xb) h1.next)) gf (appL (appL fa [.yld h1.next]) fb) (h1.new (.ext (.loop 0 0 f i s.tmps))) = rs
      have hgo : rngGo callY Y f i (ps.toList.map posOf) (exec callY Y lf xa) (exec callY Y lf xb) s ds gf fa fb s.heap.next h1 =
          bindG rs (fun r => Out.rec (motive := fun _ => List Ex) (fun vh => Prod.rec (fun _ h => endRng h1.next s.heap.next s ds h) vh) (fun _ _ => [.fail]) [.fail] r) := by rw [← hR]; rfl
      rw [hgo] at hf ⊢
      have hin : ∀ {r e}, r ∈ rs → e ∈ (Out.rec (motive := fun _ => List Ex) (fun vh => Prod.rec (fun _ h => endRng h1.next s.heap.next s ds h) vh) (fun _ _ => [.fail]) [.fail] r : List Ex) → e ∈ bindG rs (fun r => Out.rec (motive := fun _ => List Ex) (fun vh => Prod.rec (fun _ h => endRng h1.next s.heap.next s ds h) vh) (fun _ _ => [.fail]) [.fail] r) := fun {r e} hr he => mem_bindG.2 ⟨r, hr, he⟩
      have hnfr : noF rs := fun r hr e => hf .fail (hin hr (by rw [e]; exact List.mem_singleton.2 rfl)) rfl
      have hcall := (hc _ hY').fn σ2 _ _ (h1.new (.ext (.loop 0 0 f i s.tmps))) gf (appL (appL fa [.yld h1.next]) fb) _ hgy (hg.mono hle) H2 hargs (by rw [hR]; exact hnfr)
      rw [hR] at hcall
      have hcalls : Calls P gf ((x ++ #[Value.func (.yield (w.heap.size + 1)) #[] #[]]) ++ y) ((w.alloc (.deferred (some []))).alloc (.loop rec_)) (BackL K σ2 (h1.new (.ext (.loop 0 0 f i s.tmps))) rs) := by
        rcases hcall with h | ⟨v, w', h, _⟩
        · exact h.2
        · rw [hEn] at h; cases h
      refine ⟨w.heap.size + 1, [{ target := .collected w.heap.size, args := #[] }], (w.alloc (.deferred (some []))).alloc (.loop rec_), { target := .fn (.func gf) y, args := x ++ #[.func (.yield (w.heap.size + 1)) #[] #[]] }, (w.alloc (.deferred (some []))).alloc (.loop rec_), gf, (x ++ #[Value.func (.yield (w.heap.size + 1)) #[] #[]]) ++ y, (w.alloc (.deferred (some []))).alloc (.loop rec_), run_enterLoop_outer fn a.tmps ps asg body, ?_, fun _ _ => trivial, hEn _ _, FR_depth, ?_⟩
      · simp only [resolve, he]
        simp [go_sem]
      · refine callsR.2 (Calls.mono hcalls fun e w3 ⟨r, hr, hbk⟩ => ?_)
        cases r with
        | panic v h' => exact absurd rfl (hf .fail (hin hr (List.mem_singleton.2 rfl)))
        | fail => exact absurd rfl (hnfr _ hr)
        | ok vh =>
          obtain ⟨v, h3⟩ := vh
          obtain ⟨vc, rfl, σ3, own3, b1, b2, b3⟩ := hbk
          have nfe : noE (endRng h1.next s.heap.next s ds h3) := fun e he => hf e (hin hr he)
          obtain ⟨e, q1, q2⟩ := onExt_some (show h3.onExt h1.next _ _ = endRng h1.next s.heap.next s ds h3 from rfl) (nf nfe)
          obtain ⟨st, pend, f', i', tm, rfl, q3⟩ := onLoop_some q2 (nf nfe)
          have hl3 := b2.le _ _ hl
          obtain ⟨ho, o, q4, c, r, rfl, q5, q6, q7, q8, q9, q10, q11, q12⟩ := b3.ext hl3 q1
          cases hst : Nat.beq st 1 with
          | true => rw [hst] at q3; exact absurd q3.symm (nf nfe)
          | false =>
          rw [hst] at q3
          have hbusy : r.state ≠ .busy := by
            rw [q6]
            intro hb
            match st, hst, hb with
            | 0, _, hb => cases hb
            | 1, hst, _ => cases hst
            | _ + 2, _, hb => cases hb
          refine ⟨r.pending, _, run_endLoop q4 hbusy, ?_⟩
          have H4 := b3.killExt hl3 ho (.loop { r with state := .exhausted })
          have hsr : SR K n σ s.heap ⟨s.tmps, h3.setObj h1.next .dead⟩ (.mark s.heap.next :: ds) { a with defers := [{ target := .collected w.heap.size, args := #[] }] ++ a.defers } (w3.putObj (w.heap.size + 1) (.loop { r with state := .exhausted })) :=
            ⟨⟨σ3, own3, ⟨(hG2.trans b2).le, (hG2.trans b2).keep, (hG2.trans b2).next⟩, H4, fun t => (hT t).mono (hle.trans b2.le), _, _, rfl, ⟨_, b2.le _ _ hdl, rfl⟩, hd.mono (hle.trans b2.le)⟩, hn⟩
          have q3 : [Nat.rec (motive := fun _ => Ex) (Ex.normal ⟨s.tmps, h3.setObj h1.next .dead⟩ (.mark s.heap.next :: ds)) (fun k _ => Nat.rec (Ex.ret ⟨s.tmps, h3.setObj h1.next .dead⟩ (.mark s.heap.next :: ds)) (fun id _ => Ex.exit id ⟨s.tmps, h3.setObj h1.next .dead⟩ (.mark s.heap.next :: ds)) k) pend] = endRng h1.next s.heap.next s ds h3 := q3
          have hmem : ∀ {e}, e ∈ endRng h1.next s.heap.next s ds h3 → e ∈ bindG rs (fun r => Out.rec (motive := fun _ => List Ex) (fun vh => Prod.rec (fun _ h => endRng h1.next s.heap.next s ds h) vh) (fun _ _ => [.fail]) [.fail] r) := fun {e} he => hin hr he
          rw [← q3] at hmem
          rcases pend with _ | _ | id
          · split
            · exact ⟨.normal ⟨s.tmps, h3.setObj h1.next .dead⟩ (.mark s.heap.next :: ds), hmem (List.mem_singleton.2 rfl), rfl, hsr⟩
            · rename_i c' hc'
              rw [q7] at hc'; cases hc'
          · split
            · rename_i hc'
              rw [q7] at hc'; cases hc'
            · rename_i c' hc'
              rw [q7] at hc'; cases hc'
              exact wpIn_ret ⟨.ret ⟨s.tmps, h3.setObj h1.next .dead⟩ (.mark s.heap.next :: ds), hmem (List.mem_singleton.2 rfl), rfl, hsr⟩
          · split
            · rename_i hc'
              rw [q7] at hc'; cases hc'
            · rename_i c' hc'
              rw [q7] at hc'; cases hc'
              exact wpIn_exit ⟨.exit id ⟨s.tmps, h3.setObj h1.next .dead⟩ (.mark s.heap.next :: ds), hmem (List.mem_singleton.2 rfl), rfl, hsr⟩
    | _ => exact absurd (by unfold rngE; rw [hZ]; rfl) (nf hf)
  | _ => exact absurd (by unfold rngE; rw [hZ]; rfl) (nf hf)
end
end Go.Eng
namespace Go.Eng
open Go.RowKit
noncomputable section
def leftE (seen : List Nat) (es : List AEnt) : List AEnt := List.rec [] (fun e _ ih => ifb (memN e.born seen) ih (e :: ih)) es
def olderE (since : Nat) (es : List AEnt) : Bool := List.rec true (fun e _ ih => ifb (Nat.ble (Nat.succ e.born) since) ih false) es
def findBorn (b : Nat) (es : List AEnt) : Option AEnt := List.rec none (fun e _ ih => ifb (Nat.beq e.born b) (some e) ih) es
def lastN (l : List Nat) : Option Nat := List.rec none (fun x l' ih => List.rec (some x) (fun _ _ _ => ih) l') l
def appN (l : List Nat) (x : Nat) : List Nat := List.rec [x] (fun y _ ih => y :: ih) l
def rRangeM (x : Opd) (d : Option Pos) : Run := fun _ s => (x.ev s.tmps).onMap (setDH d (.ptr s.heap.next 0) s (s.heap.new (.ext (.miter none 0 [] 0))))
  (fun b => s.heap.onMap b (fun es clock => setDH d (.ptr s.heap.next 0) s (s.heap.new (.ext (.miter (some b) clock [] clock)))) .fail) .fail
def rEntry (x : Opd) (d : Option Pos) : Run := fun _ s => (x.ev s.tmps).onPtr (fun b off => ifb (Nat.beq off 0) (s.heap.onExt b (fun e => e.onMiter (fun m since seen last =>
  onSome m (fun mb => onSome (lastN seen) (fun st => s.heap.onMap mb (fun es clock => ifb (Nat.beq clock last) (onSome (findBorn st es) (fun e => setD d (.tup [e.key, e.val]) s) .fail) .fail) .fail) .fail) .fail) .fail) .fail) .fail) .fail
def nextTo (b mb : Pos) (since : Nat) (seen : List Nat) (clock : Nat) (d : Option Pos) (s : St) (l : List AEnt) : List (Out St) :=
  List.rec [setD d (.tup [.bool false]) s] (fun e l' _ => List.rec [] (fun e _ ih => setDH d (.tup [.bool true, e.key, e.val]) s (s.heap.setObj b (.ext (.miter (some mb) since (appN seen e.born) clock))) :: ih) (e :: l')) l
def nNext (x : Opd) (d : Option Pos) : NRun := fun _ s => (x.ev s.tmps).onPtr (fun b off => ifb (Nat.beq off 0) (s.heap.onExt b (fun e => e.onMiter (fun m since seen last =>
  Option.rec [setD d (.tup [.bool false]) s] (fun mb => s.heap.onMap mb (fun es clock => ifb (olderE since es) (ifb (Nat.ble since last) (nextTo b mb since seen clock d s (leftE seen es)) [.fail]) [.fail]) [.fail]) m) [.fail]) [.fail]) [.fail]) [.fail]
def rRangeR (x : Opd) (d : Option Pos) : Run := fun _ s => (x.ev s.tmps).onMap .fail
  (fun b => s.heap.onRmap b (fun es => setDH d (.ptr s.heap.next 0) s (s.heap.new (.ext (.riter b [])))) .fail) .fail
def rEntryR (x : Opd) (d : Option Pos) : Run := fun _ s => (x.ev s.tmps).onPtr (fun b off => ifb (Nat.beq off 0) (s.heap.onExt b (fun e => e.onRiter (fun m seen =>
  onSome (lastN seen) (fun st => s.heap.onRmap m (fun es => onSome (findBorn st es) (fun e => setD d (.tup [e.key, e.val]) s) .fail) .fail) .fail) .fail) .fail) .fail) .fail
def nextR (b m : Pos) (seen : List Nat) (d : Option Pos) (s : St) (l : List AEnt) : List (Out St) :=
  List.rec [setD d (.tup [.bool false]) s] (fun e l' _ => List.rec [] (fun e _ ih => setDH d (.tup [.bool true, e.key, e.val]) s (s.heap.setObj b (.ext (.riter m (appN seen e.born)))) :: ih) (e :: l')) l
def nNextR (x : Opd) (d : Option Pos) : NRun := fun _ s => (x.ev s.tmps).onPtr (fun b off => ifb (Nat.beq off 0) (s.heap.onExt b (fun e => e.onRiter (fun m seen =>
  s.heap.onRmap m (fun es => nextR b m seen d s (leftE seen es)) [.fail]) [.fail]) [.fail]) [.fail]) [.fail]
def orR (r r' : Run) : Run := fun call s => Out.rec (motive := fun _ => Out St) Out.ok Out.panic (r' call s) (r call s)
def orN (r r' : NRun) : NRun := fun call s => List.rec (r' call s) (fun x l _ => Out.rec (motive := fun _ => List (Out St)) (fun _ => x :: l) (fun _ _ => x :: l) (r' call s) x) (r call s)
end
section
variable {P : Program} {K : Ctx} {σ : Env} {own : Owns} {w : World} {s s' : St} {ρ : Operand → Value} {o : Oper}
variable {dst : Option Tmp} {ty : TypeId} {pos : String} {af : Array Edge} {gd : Option (Nat × Bool)} {call : Caller}
variable {x y : Operand} {X Y : Opd} {t t' u : TypeId}
theorem onMiter_some {α : Type} {e : AExt} {f : Option Pos → Nat → List Nat → Nat → α} {z x : α} (hx : e.onMiter f z = x) (hz : x ≠ z) : ∃ m since seen last, e = .miter m since seen last ∧ f m since seen last = x := by
  cases e with
  | miter m a b c => exact ⟨_, _, _, _, rfl, hx⟩
  | _ => exact absurd hx.symm hz
theorem ok_rangeM {kt et : TypeId} (H : HR K σ own s.heap w) (ht : P.underlying t = some (.map kt et)) (hx : VR K σ (X.ev s.tmps) (ρ x)) (h : rRangeM X (dP dst) call s = .ok s') :
    Res P K σ own ⟨dst, .range t x, ty, pos, af, gd⟩ ρ w s s' := by
  rcases onMap_ok h with ⟨e1, h⟩ | ⟨b, e1, h⟩
  · rw [e1] at hx
    have hx' : ρ x = .map none := hx
    obtain ⟨h1, h2⟩ := setDH_ok h
    have H' := H.newExt (o := .mapIter none 0 #[] 0) (x := .miter none 0 [] 0) ⟨none, rfl, rfl⟩
    refine ⟨.ptr s.heap.next 0, .pointer (some ⟨w.heap.size, 0, none⟩), _, _, _, .inl (by simp [execOp, hx', run_range_nilMap w t kt et ht]; rfl), ⟨_, Env.add_same _ _ _, rfl⟩, ?_, by rw [h2]; exact H', h1⟩
    rw [h2]; exact Grow.add _ (H.fresh _ (Nat.le_refl _)) rfl
  · obtain ⟨es, c, hg, h⟩ := onMapH_ok h
    rw [e1] at hx
    obtain ⟨l, hl, hp⟩ := hx
    have hO := H.obj b l hl
    rw [hg] at hO
    obtain ⟨ho, ces, hc, hes⟩ := hO
    obtain ⟨h1, h2⟩ := setDH_ok h
    have H' := H.newExt (o := .mapIter (some l.B) c #[] c) (x := .miter (some b) c [] c) ⟨some l.B, rfl, l, hl, rfl⟩
    refine ⟨.ptr s.heap.next 0, .pointer (some ⟨w.heap.size, 0, none⟩), _, _, _, .inl (by simp [execOp, hp, run_range_map w t kt et l.B ces c ht hc]; rfl), ⟨_, Env.add_same _ _ _, rfl⟩, ?_, by rw [h2]; exact H', h1⟩
    rw [h2]; exact Grow.add _ (H.fresh _ (Nat.le_refl _)) rfl
theorem lastN_eq : ∀ l : List Nat, lastN l = l.getLast?
  | [] => rfl
  | [x] => rfl
  | x :: y :: l => by
    show lastN (y :: l) = _
    rw [lastN_eq (y :: l)]; simp [List.getLast?_cons_cons]
theorem appN_eq (x : Nat) : ∀ l : List Nat, appN l x = l ++ [x]
  | [] => rfl
  | y :: l => congrArg (y :: ·) (appN_eq x l)
theorem nbeqM {m n : Nat} (h : Nat.beq m n = false) : m ≠ n := fun e => by subst e; rw [Nat.beq_refl] at h; cases h
theorem memN_eq (x : Nat) : ∀ l : List Nat, memN x l = l.contains x
  | [] => rfl
  | y :: l => by
    show ifb (Nat.beq x y) true (memN x l) = _
    rw [memN_eq x l, List.contains_cons]
    cases h : Nat.beq x y with
    | true => rw [Nat.eq_of_beq_eq_true h]; simp [ifb]
    | false =>
      have : (x == y) = false := by simpa using nbeqM h
      rw [this]; rfl
theorem findBorn_spec : ∀ {es : List AEnt} {cs : List MapEntry} {b : Nat} {e : AEnt}, EntsR K σ es cs → findBorn b es = some e → ∃ c, cs.find? (·.born == b) = some c ∧ EntR K σ e c
  | [], cs, b, e, h, hf => by cases hf
  | x :: es, cs, b, e, ⟨c, cs', e1, h1, h2⟩, hf => by
    subst e1
    have hf : ifb (Nat.beq x.born b) (some x) (findBorn b es) = some e := hf
    cases hb : Nat.beq x.born b with
    | true =>
      rw [hb] at hf; cases hf
      have : (c.born == b) = true := by rw [h1.2.2]; simpa using Nat.eq_of_beq_eq_true hb
      exact ⟨c, by rw [List.find?_cons, this], h1⟩
    | false =>
      rw [hb] at hf
      have : (c.born == b) = false := by
        rw [h1.2.2]
        have : x.born ≠ b := fun e => by rw [e, Nat.beq_refl] at hb; cases hb
        simpa using this
      obtain ⟨c', k1, k2⟩ := findBorn_spec h2 hf
      exact ⟨c', by rw [List.find?_cons, this]; exact k1, k2⟩
theorem ok_entry (H : HR K σ own s.heap w) (hx : VR K σ (X.ev s.tmps) (ρ x)) (h : rEntry X (dP dst) call s = .ok s') :
    StillR P K σ ⟨dst, .entry x, ty, pos, af, gd⟩ ρ w s s' := by
  obtain ⟨b, off, e1, h⟩ := onPtr_ok h
  obtain ⟨h0, h⟩ := ifb_ok h
  have := Nat.eq_of_beq_eq_true h0
  subst this
  rw [e1] at hx
  obtain ⟨l, hl, hp⟩ := hx
  obtain ⟨e, hg, h⟩ := onExt_some h (by intro e; cases e)
  obtain ⟨m, since, seen, last, rfl, h⟩ := onMiter_some h (by intro e; cases e)
  obtain ⟨mb, rfl, h⟩ := onSome_ok h
  obtain ⟨st, hst, h⟩ := onSome_ok h
  obtain ⟨es, clock, hm, h⟩ := onMapH_ok h
  obtain ⟨hc, h8⟩ := ifb_ok h
  clear h
  have := Nat.eq_of_beq_eq_true hc
  subst this
  obtain ⟨e, he, h⟩ := onSome_ok h8
  obtain ⟨ho, ob, hob, m', rfl, l', hl', rfl⟩ := H.ext hl hg
  have hO := H.obj mb l' hl'
  rw [hm] at hO
  obtain ⟨ho', ces, hces, hes⟩ := hO
  obtain ⟨c, hf, hc1, hc2, hc3⟩ := findBorn_spec hes he
  refine StillR.pure H (v := .tup [e.key, e.val]) (vc := .tuple #[c.key, c.val]) ?_ ⟨_, rfl, VRs.cons hc1 (VRs.cons hc2 VRs.nil)⟩ h
  have h00 : l.o = 0 := ho.2
  have hback : seen.toArray.back? = some st := by rw [lastN_eq] at hst; rw [List.back?_toArray]; exact hst
  have hrun : (Instr.entry (.pointer (some ⟨l.B, 0, none⟩))).run P w = .ok (.tuple #[c.key, c.val]) w := by
    have hf' : ces.find? (·.born == st) = some c := by rw [← Array.find?_toList]; exact hf
    simp only [Instr.entry, getObj, Sem.run_bind, Sem.run, hob, hces, Result.andThen, hback, bne_self_eq_false, Bool.false_eq_true, if_false, hf']
    rfl
  rw [h00] at hp
  simp [execOp, hp, hrun]
theorem leftE_spec {seen : List Nat} : ∀ {es : List AEnt} {cs : List MapEntry}, EntsR K σ es cs → EntsR K σ (leftE seen es) (cs.filter fun e => !seen.contains e.born)
  | [], cs, h => by
    have : cs = [] := h
    subst this; rfl
  | x :: es, cs, ⟨c, cs', e1, h1, h2⟩ => by
    subst e1
    have hdef : leftE seen (x :: es) = ifb (memN x.born seen) (leftE seen es) (x :: leftE seen es) := rfl
    rw [hdef, memN_eq, List.filter_cons, h1.2.2]
    cases hb : seen.contains x.born with
    | true => simp only [ifb, Bool.not_true, Bool.false_eq_true, if_false]; exact leftE_spec h2
    | false => simp only [ifb, Bool.not_false, if_true]; exact ⟨c, _, rfl, h1, leftE_spec h2⟩
theorem olderE_spec {since : Nat} : ∀ {es : List AEnt} {cs : List MapEntry}, EntsR K σ es cs → olderE since es = true → ∀ x ∈ cs, x.born < since
  | [], cs, h, ho => by
    have : cs = [] := h
    subst this; intro x hx; cases hx
  | y :: es, cs, ⟨c, cs', e1, h1, h2⟩, ho => by
    subst e1
    have ho : ifb (Nat.ble (Nat.succ y.born) since) (olderE since es) false = true := ho
    cases hb : Nat.ble (Nat.succ y.born) since with
    | false => rw [hb] at ho; cases ho
    | true =>
      rw [hb] at ho
      intro x hx
      rcases List.mem_cons.1 hx with rfl | hx
      · rw [h1.2.2]; exact Nat.le_of_ble_eq_true hb
      · exact olderE_spec h2 ho x hx
theorem EntsR.mem {es : List AEnt} : ∀ {cs : List MapEntry}, EntsR K σ es cs → ∀ c ∈ cs, ∃ e ∈ es, EntR K σ e c := by
  induction es with
  | nil => intro cs h c hc; have : cs = [] := h; subst this; cases hc
  | cons x es ih =>
    rintro cs ⟨c', cs', rfl, h1, h2⟩ c hc
    rcases List.mem_cons.1 hc with rfl | hc
    · exact ⟨x, List.mem_cons_self, h1⟩
    · obtain ⟨e, he, h⟩ := ih h2 c hc; exact ⟨e, List.mem_cons_of_mem _ he, h⟩
def OpNOK (P : Program) (K : Ctx) (ng : Nat) (cst : Value → Option AV) (o : Oper) (r : NRun) : Prop :=
  ∀ (R : Option Nat) (σ : Env) (own : Owns) (a : Act) (w : World) (s : St) (call : CallerN) (next : Act → World → Prop) (Q : Exit → Act → World → Prop), CallNOK P K ng call → Globs ng σ →
    OR K ng cst σ s.tmps a.eval o → HR K σ own s.heap w → (∀ x ∈ r call s, Goes K σ s o.dst a next Q x) → o.wpIn (FR R) 0 P a w next Q
variable {ng : Nat} {cst : Value → Option AV}
theorem OpOK.up {r : Run} (h : OpOK P K ng cst o r) : OpNOK P K ng cst o (fun call s => [r (detC call) s]) :=
  fun R σ own a w s call next Q hc hg ho hH hgo => h R σ own a w s (detC call) next Q hc.det hg ho hH (hgo _ (List.mem_singleton.2 rfl))
theorem goes_setD {s : St} {d : Option Tmp} {a : Act} {next : Act → World → Prop} {Q : Exit → Act → World → Prop} {v : AV} {vc : Value} (hgo : Goes K σ s d a next Q (setD (dP d) v s)) (H : HR K σ own s.heap w) (hv : VR K σ v vc) : next (a.put d vc) w := by
  cases hs : setD (dP d) v s with
  | ok s' =>
    rw [hs] at hgo
    obtain ⟨h1, h2⟩ := setD_ok hs
    exact hgo v vc σ own w hv (by rw [h2]; exact Grow.refl _ _) (by rw [h2]; exact H) h1
  | panic _ _ => cases hd : dP d <;> rw [hd] at hs <;> cases hs
  | fail => cases hd : dP d <;> rw [hd] at hs <;> cases hs
theorem goes_setDH {s : St} {d : Option Tmp} {a : Act} {next : Act → World → Prop} {Q : Exit → Act → World → Prop} {v : AV} {vc : Value} {h' : AHeap} {σ' : Env} {own' : Owns} {w' : World} (hgo : Goes K σ s d a next Q (setDH (dP d) v s h')) (g : Grow σ σ' s.heap h') (H : HR K σ' own' h' w') (hv : VR K σ' v vc) : next (a.put d vc) w' := by
  cases hs : setDH (dP d) v s h' with
  | ok s' =>
    rw [hs] at hgo
    obtain ⟨h1, h2⟩ := setDH_ok hs
    exact hgo v vc σ' own' w' hv (by rw [h2]; exact g) (by rw [h2]; exact H) h1
  | panic _ _ => cases hd : dP d <;> rw [hd] at hs <;> cases hs
  | fail => cases hd : dP d <;> rw [hd] at hs <;> cases hs
theorem mem_nextTo {b mb : Pos} {since : Nat} {seen : List Nat} {clock : Nat} {d : Option Pos} {s : St} {e : AEnt} : ∀ {l : List AEnt}, e ∈ l →
    setDH d (.tup [.bool true, e.key, e.val]) s (s.heap.setObj b (.ext (.miter (some mb) since (appN seen e.born) clock))) ∈ nextTo b mb since seen clock d s l := by
  have key : ∀ (l : List AEnt), e ∈ l → setDH d (.tup [.bool true, e.key, e.val]) s (s.heap.setObj b (.ext (.miter (some mb) since (appN seen e.born) clock))) ∈
      (List.rec [] (fun e _ ih => setDH d (.tup [.bool true, e.key, e.val]) s (s.heap.setObj b (.ext (.miter (some mb) since (appN seen e.born) clock))) :: ih) l : List (Out St)) := by
    intro l
    induction l with
    | nil => intro h; cases h
    | cons x l ih =>
      intro h
      rcases List.mem_cons.1 h with rfl | h
      · exact List.mem_cons_self
      · exact List.mem_cons_of_mem _ (ih h)
  intro l hl
  cases l with
  | nil => cases hl
  | cons x l => exact key (x :: l) hl
theorem ok_next {x : Operand} (hX : opd ng cst x = some X) : OpNOK P K ng cst ⟨dst, .next x false, ty, pos, af, gd⟩ (nNext X (dP dst)) := by
  intro R σ own a w s call next Q hc hg ho hH hgo
  have hx : VR K σ (X.ev s.tmps) (a.eval x) := ho x (by simp [Op.operands]) X hX
  have bad : ∀ {l : List (Out St)}, nNext X (dP dst) call s = l → l ≠ [.fail] := fun {l} e e' => by
    have := hgo .fail (by rw [e, e']; exact List.mem_singleton.2 rfl)
    exact this
  have hnd : NoDefer ⟨dst, .next x false, ty, pos, af, gd⟩ := fun c e => by cases e
  cases hv : X.ev s.tmps with
  | ptr b off =>
    rw [hv] at hx
    obtain ⟨l, hl, hp⟩ := hx
    cases h0 : Nat.beq off 0 with
    | false => exact absurd rfl (bad (by unfold nNext; rw [hv]; show ifb (Nat.beq off 0) _ _ = _; rw [h0]; rfl))
    | true =>
    obtain rfl := Nat.eq_of_beq_eq_true h0
    have hdef : nNext X (dP dst) call s = s.heap.onExt b (fun e => e.onMiter (fun m since seen last =>
      Option.rec [setD (dP dst) (.tup [.bool false]) s] (fun mb => s.heap.onMap mb (fun es clock => ifb (olderE since es) (ifb (Nat.ble since last) (nextTo b mb since seen clock (dP dst) s (leftE seen es)) [.fail]) [.fail]) [.fail]) m) [.fail]) [.fail] := by
      unfold nNext; rw [hv]; rfl
    obtain ⟨e, hge, h1⟩ := onExt_some hdef.symm (bad rfl)
    obtain ⟨m, since, seen, last, rfl, h2⟩ := onMiter_some h1 (bad rfl)
    obtain ⟨ho', ob, hob, m', rfl, hm⟩ := hH.ext hl hge
    have h00 : l.o + 0 = 0 := ho'.2
    rw [h00] at hp
    cases m with
    | none =>
      have hm : m' = none := hm
      subst hm
      have h2 : [setD (dP dst) (.tup [.bool false]) s] = nNext X (dP dst) call s := h2
      have hrun : (Instr.next (.pointer (some ⟨l.B, 0, none⟩)) false ty).run P w = .ok (.tuple #[.bool false]) w := by
        simp only [Instr.next, getObj, Sem.run_bind, Sem.run, hob, Result.andThen]
        rfl
      refine wpIn_of_run hnd ?_
      simp only [execOp, hp, Sem.run_bind, hrun, Result.andThen_ok, Sem.run_pure, Oper.uponIn_value]
      exact goes_setD (v := .tup [.bool false]) (hgo _ (by rw [← h2]; exact List.mem_singleton.2 rfl)) hH ⟨_, rfl, VRs.cons (x := .bool false) rfl VRs.nil⟩
    | some mb =>
      obtain ⟨l', hl', rfl⟩ := hm
      have h2 : s.heap.onMap mb (fun es clock => ifb (olderE since es) (ifb (Nat.ble since last) (nextTo b mb since seen clock (dP dst) s (leftE seen es)) [.fail]) [.fail]) [.fail] = nNext X (dP dst) call s := h2
      have hmp : ∃ es clock, s.heap.get mb = some (.map es clock) ∧ ifb (olderE since es) (ifb (Nat.ble since last) (nextTo b mb since seen clock (dP dst) s (leftE seen es)) [.fail]) [.fail] = nNext X (dP dst) call s := by
        unfold AHeap.onMap at h2
        cases hgm : s.heap.objs.get mb with
        | none => rw [hgm] at h2; exact absurd h2.symm (bad rfl)
        | some ob =>
          rw [hgm] at h2
          cases ob with
          | map es clock => exact ⟨es, clock, hgm, h2⟩
          | _ => exact absurd h2.symm (bad rfl)
      obtain ⟨es, clock, hgm, h3⟩ := hmp
      cases hold : olderE since es with
      | false => rw [hold] at h3; exact absurd h3.symm (bad rfl)
      | true =>
      cases hle : Nat.ble since last with
      | false => rw [hold, hle] at h3; exact absurd h3.symm (bad rfl)
      | true =>
      rw [hold, hle] at h3
      have h3 : nextTo b mb since seen clock (dP dst) s (leftE seen es) = nNext X (dP dst) call s := h3
      have hO := hH.obj mb l' hl'
      rw [hgm] at hO
      obtain ⟨hom, ces, hces, hes⟩ := hO
      have hspec := leftE_spec (seen := seen) hes
      refine wpIn_of_run hnd ?_
      rcases run_next_at (P := P) w ty l.B l'.B since last seen.toArray ces clock hob hces (fun x hx => olderE_spec hes hold x hx) (Nat.le_of_ble_eq_true hle) with ⟨z1, z2⟩ | ⟨e, z1, w1, z2, z3⟩
      · have hnil : leftE seen es = [] := by
          have : (ces.toList.filter fun e => !seen.contains e.born) = [] := by
            have := z1
            unfold leftOf at this
            rw [← Array.length_toList, Array.toList_filter] at this
            simpa using List.length_eq_zero_iff.1 this
          rw [this] at hspec
          cases hq : leftE seen es with
          | nil => rfl
          | cons x l => rw [hq] at hspec; obtain ⟨_, _, e, _⟩ := hspec; cases e
        simp only [execOp, hp, Sem.run_bind, z2, Result.andThen_ok, Sem.run_pure, Oper.uponIn_value]
        exact goes_setD (v := .tup [.bool false]) (hgo _ (by rw [← h3, hnil]; exact List.mem_singleton.2 rfl)) hH ⟨_, rfl, VRs.cons (x := .bool false) rfl VRs.nil⟩
      · have hmem : e ∈ (ces.toList.filter fun e => !seen.contains e.born) := by
          have := z1
          unfold leftOf at this
          rw [Array.toList_filter] at this
          simpa using this
        obtain ⟨ae, hae, hr1, hr2, hr3⟩ := hspec.mem e hmem
        simp only [execOp, hp, Sem.run_bind, z3, Result.andThen_ok, Sem.run_pure, Oper.uponIn_value]
        have H1 : HR K σ own s.heap w1 := by rcases z2 with rfl | rfl; exact hH; exact hH.drew
        have H2 := H1.setExt hl ho' (o := .mapIter (some l'.B) since (seen.toArray.push e.born) clock) (x := .miter (some mb) since (appN seen ae.born) clock) ⟨some l'.B, by rw [appN_eq, hr3]; simp, l', hl', rfl⟩
        exact goes_setDH (v := .tup [.bool true, ae.key, ae.val]) (h' := s.heap.setObj b (.ext (.miter (some mb) since (appN seen ae.born) clock))) (hgo _ (by rw [← h3]; exact mem_nextTo hae)) ⟨Env.le.refl σ, fun _ _ => rfl, Nat.le_refl _⟩ H2 ⟨_, rfl, VRs.cons (x := .bool true) rfl (VRs.cons hr1 (VRs.cons hr2 VRs.nil))⟩
  | _ => exact absurd rfl (bad (by unfold nNext; rw [hv]; rfl))
theorem EntsV.get : ∀ {i : Nat} {es : List AEnt} {cs : List MapEntry}, EntsV K σ i es cs → ∀ {e : AEnt}, e ∈ es → ∃ j c, e.born = i + j ∧ cs[j]? = some c ∧ VR K σ e.key c.key ∧ VR K σ e.val c.val
  | _, [], _, _, e, he => by cases he
  | i, x :: es, _, ⟨c, cs, rfl, h0, h1, h2, hs⟩, e, he => by
    rcases List.mem_cons.1 he with rfl | he
    · exact ⟨0, c, by omega, rfl, h1, h2⟩
    · obtain ⟨j, c', k0, k1, k2⟩ := EntsV.get hs he
      exact ⟨j + 1, c', by omega, k1, k2⟩
theorem EntsV.get' : ∀ {i : Nat} {es : List AEnt} {cs : List MapEntry}, EntsV K σ i es cs → ∀ {j : Nat} {c : MapEntry}, cs[j]? = some c → ∃ e ∈ es, e.born = i + j ∧ VR K σ e.key c.key ∧ VR K σ e.val c.val
  | _, [], _, h, j, c, hc => by
    have h : _ = [] := h
    subst h; simp at hc
  | i, x :: es, _, ⟨c, cs, rfl, h0, h1, h2, hs⟩, j, c', hc => by
    cases j with
    | zero =>
      have : c = c' := by simpa using hc
      subst this
      exact ⟨x, List.mem_cons_self, by omega, h1, h2⟩
    | succ j =>
      obtain ⟨e, k0, k1, k2⟩ := EntsV.get' hs (show cs[j]? = some c' by simpa using hc)
      exact ⟨e, List.mem_cons_of_mem _ k0, by omega, k2⟩
theorem findBorn_mem {b : Nat} : ∀ {es : List AEnt} {e : AEnt}, findBorn b es = some e → e ∈ es ∧ e.born = b
  | [], e, h => by cases h
  | x :: es, e, h => by
    have h : ifb (Nat.beq x.born b) (some x) (findBorn b es) = some e := h
    cases hb : Nat.beq x.born b with
    | true => rw [hb] at h; cases h; exact ⟨List.mem_cons_self, Nat.eq_of_beq_eq_true hb⟩
    | false => rw [hb] at h; obtain ⟨h1, h2⟩ := findBorn_mem h; exact ⟨List.mem_cons_of_mem _ h1, h2⟩
theorem mem_leftE {seen : List Nat} {e : AEnt} : ∀ {es : List AEnt}, e ∈ leftE seen es ↔ e ∈ es ∧ e.born ∉ seen
  | [] => ⟨fun h => (by cases h), fun h => (by cases h.1)⟩
  | x :: es => by
    have hdef : leftE seen (x :: es) = ifb (memN x.born seen) (leftE seen es) (x :: leftE seen es) := rfl
    rw [hdef, memN_eq]
    cases hb : seen.contains x.born with
    | true =>
      have hx : x.born ∈ seen := by simpa using hb
      show e ∈ leftE seen es ↔ _
      rw [mem_leftE, List.mem_cons]
      constructor
      · exact fun h => ⟨.inr h.1, h.2⟩
      · rintro ⟨rfl | h, h2⟩
        · exact absurd hx h2
        · exact ⟨h, h2⟩
    | false =>
      have hx : x.born ∉ seen := by simpa using hb
      show e ∈ x :: leftE seen es ↔ _
      rw [List.mem_cons, List.mem_cons, mem_leftE]
      constructor
      · rintro (rfl | h)
        · exact ⟨.inl rfl, hx⟩
        · exact ⟨.inr h.1, h.2⟩
      · rintro ⟨rfl | h, h2⟩
        · exact .inl rfl
        · exact .inr ⟨h, h2⟩
theorem onRmap_some {α : Type} {h : AHeap} {b : Pos} {f : List AEnt → α} {z x : α} (hx : h.onRmap b f z = x) (hz : x ≠ z) : ∃ es, h.get b = some (.rmap es) ∧ f es = x := by
  unfold AHeap.onRmap at hx
  cases hg : h.objs.get b with
  | none => rw [hg] at hx; exact absurd hx.symm hz
  | some o =>
    rw [hg] at hx
    cases o with
    | rmap es => exact ⟨es, hg, hx⟩
    | _ => exact absurd hx.symm hz
theorem onRiter_some {α : Type} {e : AExt} {f : Pos → List Nat → α} {z x : α} (hx : e.onRiter f z = x) (hz : x ≠ z) : ∃ m seen, e = .riter m seen ∧ f m seen = x := by
  cases e with
  | riter m a => exact ⟨_, _, rfl, hx⟩
  | _ => exact absurd hx.symm hz
theorem HR.rmap {h : AHeap} (H : HR K σ own h w) {b : Pos} {l : Loc} (hl : σ b = some l) {es : List AEnt} (hg : h.get b = some (.rmap es)) :
    ∃ ces, w.heap[l.B]? = some (.map ces (K.rmaps l.B).2) ∧ (K.rmaps l.B).1.Perm ces.toList ∧ (∀ x ∈ ces.toList, x.born < (K.rmaps l.B).2) ∧ (ces.toList.map (·.born)).Nodup ∧ EntsV K σ 0 es (K.rmaps l.B).1 := by
  have hO := H.obj b l hl
  rw [hg] at hO
  obtain ⟨h1, h2, ces, h3, h4⟩ := hO
  exact ⟨ces, (H.below.block _ h1).trans h3, h4⟩
theorem ok_rangeR {kt et : TypeId} (H : HR K σ own s.heap w) (ht : P.underlying t = some (.map kt et)) (hx : VR K σ (X.ev s.tmps) (ρ x)) (h : rRangeR X (dP dst) call s = .ok s') :
    Res P K σ own ⟨dst, .range t x, ty, pos, af, gd⟩ ρ w s s' := by
  rcases onMap_ok h with ⟨e1, h⟩ | ⟨b, e1, h⟩
  · cases h
  · obtain ⟨es, hg, h⟩ := onRmap_some h (by intro e; cases e)
    rw [e1] at hx
    obtain ⟨l, hl, hp⟩ := hx
    obtain ⟨ces, hc, hperm, hlt, hnd, hes⟩ := H.rmap hl hg
    obtain ⟨h1, h2⟩ := setDH_ok h
    have H' := H.newExt (o := .mapIter (some l.B) (K.rmaps l.B).2 #[] (K.rmaps l.B).2) (x := .riter b []) ⟨l, #[], hl, rfl, rfl⟩
    refine ⟨.ptr s.heap.next 0, .pointer (some ⟨w.heap.size, 0, none⟩), _, _, _, .inl (by simp [execOp, hp, run_range_map w t kt et l.B ces (K.rmaps l.B).2 ht hc]; rfl), ⟨_, Env.add_same _ _ _, rfl⟩, ?_, by rw [h2]; exact H', h1⟩
    rw [h2]; exact Grow.add _ (H.fresh _ (Nat.le_refl _)) rfl
theorem ok_entryR (H : HR K σ own s.heap w) (hx : VR K σ (X.ev s.tmps) (ρ x)) (h : rEntryR X (dP dst) call s = .ok s') :
    StillR P K σ ⟨dst, .entry x, ty, pos, af, gd⟩ ρ w s s' := by
  obtain ⟨b, off, e1, h⟩ := onPtr_ok h
  obtain ⟨h0, h⟩ := ifb_ok h
  have := Nat.eq_of_beq_eq_true h0
  subst this
  rw [e1] at hx
  obtain ⟨l, hl, hp⟩ := hx
  obtain ⟨e, hg, h⟩ := onExt_some h (by intro e; cases e)
  obtain ⟨m, seen, rfl, h⟩ := onRiter_some h (by intro e; cases e)
  obtain ⟨st, hst, h⟩ := onSome_ok h
  obtain ⟨es, hm, h⟩ := onRmap_some h (by intro e; cases e)
  obtain ⟨e, he, h⟩ := onSome_ok h
  obtain ⟨ho, ob, hob, l', sc, hl', rfl, hsc⟩ := H.ext hl hg
  obtain ⟨ces, hces, hperm, hlt, hnd, hes⟩ := H.rmap hl' hm
  obtain ⟨hmem, hb⟩ := findBorn_mem he
  obtain ⟨j, c, k0, k1, k2, k3⟩ := hes.get hmem
  have hj : st = j := by omega
  subst hj
  refine StillR.pure H (v := .tup [e.key, e.val]) (vc := .tuple #[c.key, c.val]) ?_ ⟨_, rfl, VRs.cons k2 (VRs.cons k3 VRs.nil)⟩ h
  have h00 : l.o = 0 := ho.2
  have hback : sc.back? = some c.born := by
    have h1 : (sc.toList.map some).getLast? = (seen.map (fun i => ((K.rmaps l'.B).1[i]?).map (·.born))).getLast? := by rw [hsc]
    rw [List.getLast?_map, List.getLast?_map, ← lastN_eq seen, hst] at h1
    have h2 : sc.back? = sc.toList.getLast? := by rw [← List.back?_toArray]
    rw [h2]
    cases hq : sc.toList.getLast? with
    | none => rw [hq] at h1; simp [k1] at h1
    | some q => rw [hq] at h1; simpa [k1] using h1
  have hrun : (Instr.entry (.pointer (some ⟨l.B, 0, none⟩))).run P w = .ok (.tuple #[c.key, c.val]) w := by
    have hf' : ces.find? (·.born == c.born) = some c := by rw [← Array.find?_toList]; exact find_born c _ hnd (hperm.mem_iff.1 (List.mem_of_getElem? k1))
    simp only [Instr.entry, getObj, Sem.run_bind, Sem.run, hob, hces, Result.andThen, hback, bne_self_eq_false, Bool.false_eq_true, if_false, hf']
    rfl
  rw [h00] at hp
  simp [execOp, hp, hrun]
theorem mem_nextR {b m : Pos} {seen : List Nat} {d : Option Pos} {s : St} {e : AEnt} : ∀ {l : List AEnt}, e ∈ l →
    setDH d (.tup [.bool true, e.key, e.val]) s (s.heap.setObj b (.ext (.riter m (appN seen e.born)))) ∈ nextR b m seen d s l := by
  have key : ∀ (l : List AEnt), e ∈ l → setDH d (.tup [.bool true, e.key, e.val]) s (s.heap.setObj b (.ext (.riter m (appN seen e.born)))) ∈
      (List.rec [] (fun e _ ih => setDH d (.tup [.bool true, e.key, e.val]) s (s.heap.setObj b (.ext (.riter m (appN seen e.born)))) :: ih) l : List (Out St)) := by
    intro l
    induction l with
    | nil => intro h; cases h
    | cons x l ih =>
      intro h
      rcases List.mem_cons.1 h with rfl | h
      · exact List.mem_cons_self
      · exact List.mem_cons_of_mem _ (ih h)
  intro l hl
  cases l with
  | nil => cases hl
  | cons x l => exact key (x :: l) hl
theorem ok_nextR {x : Operand} (hX : opd ng cst x = some X) : OpNOK P K ng cst ⟨dst, .next x false, ty, pos, af, gd⟩ (nNextR X (dP dst)) := by
  intro R σ own a w s call next Q hc hg ho hH hgo
  have hx : VR K σ (X.ev s.tmps) (a.eval x) := ho x (by simp [Op.operands]) X hX
  have bad : ∀ {l : List (Out St)}, nNextR X (dP dst) call s = l → l ≠ [.fail] := fun {l} e e' => by
    have := hgo .fail (by rw [e, e']; exact List.mem_singleton.2 rfl)
    exact this
  have hnd : NoDefer ⟨dst, .next x false, ty, pos, af, gd⟩ := fun c e => by cases e
  cases hv : X.ev s.tmps with
  | ptr b off =>
    rw [hv] at hx
    obtain ⟨l, hl, hp⟩ := hx
    cases h0 : Nat.beq off 0 with
    | false => exact absurd rfl (bad (by unfold nNextR; rw [hv]; show ifb (Nat.beq off 0) _ _ = _; rw [h0]; rfl))
    | true =>
    obtain rfl := Nat.eq_of_beq_eq_true h0
    have hdef : nNextR X (dP dst) call s = s.heap.onExt b (fun e => e.onRiter (fun m seen => s.heap.onRmap m (fun es => nextR b m seen (dP dst) s (leftE seen es)) [.fail]) [.fail]) [.fail] := by
      unfold nNextR; rw [hv]; rfl
    obtain ⟨e, hge, h1⟩ := onExt_some hdef.symm (bad rfl)
    obtain ⟨m, seen, rfl, h2⟩ := onRiter_some h1 (bad rfl)
    obtain ⟨es, hgm, h3⟩ := onRmap_some h2 (bad rfl)
    obtain ⟨ho', ob, hob, l', sc, hl', rfl, hsc⟩ := hH.ext hl hge
    have h00 : l.o + 0 = 0 := ho'.2
    rw [h00] at hp
    obtain ⟨ces, hces, hperm, hlt, hnds, hes⟩ := hH.rmap hl' hgm
    have hsub : ∀ i, i ∈ seen → ∀ c, (K.rmaps l'.B).1[i]? = some c → c.born ∈ sc.toList := fun i hi c hc => by
      have : some c.born ∈ seen.map (fun i => ((K.rmaps l'.B).1[i]?).map (·.born)) := List.mem_map.2 ⟨i, hi, by rw [hc]; rfl⟩
      rw [← hsc] at this
      simpa using this
    refine wpIn_of_run hnd ?_
    rcases run_next_at (P := P) w ty l.B l'.B _ _ sc ces _ hob hces hlt (Nat.le_refl _) with ⟨z1, z2⟩ | ⟨e, z1, w1, z2, z3⟩
    · have hnil : leftE seen es = [] := by
        apply List.eq_nil_iff_forall_not_mem.2
        intro ae hae
        obtain ⟨m1, m2⟩ := mem_leftE.1 hae
        obtain ⟨j, c, k0, k1, _⟩ := hes.get m1
        have hj : ae.born = j := by omega
        have hcm : c ∈ ces.toList := hperm.mem_iff.1 (List.mem_of_getElem? k1)
        have hin : c.born ∈ sc.toList := by
          have hz : (leftOf ces sc).toList = [] := by
            have : (leftOf ces sc).toList.length = 0 := by simpa using z1
            exact List.length_eq_zero_iff.1 this
          unfold leftOf at hz
          rw [Array.toList_filter] at hz
          have := List.filter_eq_nil_iff.1 hz c hcm
          simpa using this
        have : some c.born ∈ sc.toList.map some := List.mem_map.2 ⟨_, hin, rfl⟩
        rw [hsc] at this
        obtain ⟨i, hi, e2⟩ := List.mem_map.1 this
        cases hci : (K.rmaps l'.B).1[i]? with
        | none => rw [hci] at e2; cases e2
        | some c2 =>
          rw [hci] at e2
          have e3 : c2.born = c.born := Option.some.inj e2
          have hnd2 : ((K.rmaps l'.B).1.map (·.born)).Nodup := (hperm.map _).nodup_iff.2 hnds
          have g1 : ((K.rmaps l'.B).1.map (·.born))[i]? = some c.born := by rw [List.getElem?_map, hci]; exact congrArg some e3
          have g2 : ((K.rmaps l'.B).1.map (·.born))[j]? = some c.born := by rw [List.getElem?_map, k1]; rfl
          have hij : i = j := by
            obtain ⟨l1, q1⟩ := List.getElem?_eq_some_iff.1 g1
            exact (List.getElem?_inj l1 hnd2).1 (g1.trans g2.symm)
          exact m2 (by rw [hj, ← hij]; exact hi)
      simp only [execOp, hp, Sem.run_bind, z2, Result.andThen_ok, Sem.run_pure, Oper.uponIn_value]
      exact goes_setD (v := .tup [.bool false]) (hgo _ (by rw [← h3, hnil]; exact List.mem_singleton.2 rfl)) hH ⟨_, rfl, VRs.cons (x := .bool false) rfl VRs.nil⟩
    · have hmem : e ∈ ces.toList ∧ e.born ∉ sc.toList := by
        have := z1
        unfold leftOf at this
        rw [Array.toList_filter] at this
        simpa using this
      obtain ⟨j, hj⟩ := List.mem_iff_getElem?.1 (hperm.mem_iff.2 hmem.1)
      obtain ⟨ae, hae, hr0, hr1, hr2⟩ := hes.get' hj
      have hr0 : ae.born = j := by omega
      have hns : ae.born ∉ seen := fun hs => hmem.2 (hsub j (hr0 ▸ hs) e hj)
      simp only [execOp, hp, Sem.run_bind, z3, Result.andThen_ok, Sem.run_pure, Oper.uponIn_value]
      have H1 : HR K σ own s.heap w1 := by rcases z2 with rfl | rfl; exact hH; exact hH.drew
      have H2 := H1.setExt hl ho' (o := .mapIter (some l'.B) (K.rmaps l'.B).2 (sc.push e.born) (K.rmaps l'.B).2) (x := .riter m (appN seen ae.born)) ⟨l', _, hl', rfl, by rw [appN_eq, hr0]; simp [hsc, hj]⟩
      exact goes_setDH (v := .tup [.bool true, ae.key, ae.val]) (h' := s.heap.setObj b (.ext (.riter m (appN seen ae.born)))) (hgo _ (by rw [← h3]; exact mem_nextR (mem_leftE.2 ⟨hae, hns⟩))) ⟨Env.le.refl σ, fun _ _ => rfl, Nat.le_refl _⟩ H2 ⟨_, rfl, VRs.cons (x := .bool true) rfl (VRs.cons hr1 (VRs.cons hr2 VRs.nil))⟩
  | _ => exact absurd (by unfold nNextR; rw [hv]; rfl) (bad rfl)
theorem orR_ok {r r' : Run} {s s' : St} (h : orR r r' call s = .ok s') : r call s = .ok s' ∨ r' call s = .ok s' := by
  have hdef : orR r r' call s = Out.rec (motive := fun _ => Out St) Out.ok Out.panic (r' call s) (r call s) := rfl
  rw [hdef] at h
  cases hr : r call s with
  | ok s2 => rw [hr] at h; cases h; exact .inl rfl
  | panic v hh => rw [hr] at h; cases h
  | fail => rw [hr] at h; exact .inr h
theorem OpNOK.or {r r' : NRun} (h : OpNOK P K ng cst o r) (h' : OpNOK P K ng cst o r') : OpNOK P K ng cst o (orN r r') := by
  intro R σ own a w s call next Q hc hg ho hH hgo
  have hdef : orN r r' call s = List.rec (r' call s) (fun x l _ => Out.rec (motive := fun _ => List (Out St)) (fun _ => x :: l) (fun _ _ => x :: l) (r' call s) x) (r call s) := rfl
  rw [hdef] at hgo
  cases hr : r call s with
  | nil => rw [hr] at hgo; exact h' R σ own a w s call next Q hc hg ho hH hgo
  | cons x l =>
    rw [hr] at hgo
    cases x with
    | ok _ => exact h R σ own a w s call next Q hc hg ho hH (by rw [hr]; exact hgo)
    | panic _ _ => exact h R σ own a w s call next Q hc hg ho hH (by rw [hr]; exact hgo)
    | fail => exact h' R σ own a w s call next Q hc hg ho hH hgo
end
end Go.Eng
namespace Go.Eng
open Go.RowKit
inductive TK where
  | bool | str | int (k : IntKind) | ptr (e : Nat) | slice (e : Nat) | arr (n e : Nat) | map (k e : Nat) | iface (any : Bool) | func | struct (fs : List (Nat × Nat)) | other
  deriving Inhabited
structure TI where
  k : TK
  n : Nat
  z : AV
  deriving Inhabited
def TKD : TK → TypeDesc → Prop
  | .bool, d => d = .bool
  | .str, d => d = .string
  | .int k, d => d = .int k
  | .ptr e, d => d = .pointer e
  | .slice e, d => d = .slice e
  | .arr n e, d => d = .array n e
  | .map k e, d => d = .map k e
  | .iface any, d => ∃ ms, d = .interface ms ∧ (any = true → ms.isEmpty = true)
  | .func, d => ∃ p r v, d = .func p r v
  | .struct fs, d => ∃ f, d = .struct f ∧ f.toList.map (fun x => (x.offset, x.type)) = fs
  | .other, d => ∀ ms, d ≠ .interface ms
structure TiOK (P : Program) (t : Nat) (ti : TI) : Prop where
  d : ∃ d, P.underlying t = some d ∧ TKD ti.k d
  i : ∃ i z, P.info? t = some i ∧ i.size = ti.n ∧ i.zero = some z ∧ i.bytes ≤ 16777216 ∧ CV1 ti.z z ∧ (cellsOf ti.z).length = ti.n
def TOK (P : Program) (T : Nat → Option TI) : Prop := ∀ t ti, T t = some ti → TiOK P t ti
def TK.agg (k : TK) : Option Bool := match k with | .struct _ => some true | .arr _ _ => some true | .other => none | _ => some false
theorem agg_ok {k : TK} {d : TypeDesc} (h : TKD k d) {b : Bool} (hb : k.agg = some b) : isAggD d = b := by
  cases k <;> simp only [TKD] at h <;> cases hb <;> first | (subst h; rfl) | (obtain ⟨_, rfl, _⟩ := h; rfl) | (obtain ⟨_, _, _, rfl⟩ := h; rfl)
def TK.notIface (k : TK) : Bool := match k with | .iface _ => false | _ => true
theorem notIface_ok {k : TK} {d : TypeDesc} (h : TKD k d) (hb : k.notIface = true) : ∀ m, d ≠ .interface m := by
  cases k <;> simp only [TKD] at h <;> first | (cases hb; done) | (subst h; intro m e; cases e) | (obtain ⟨_, rfl, _⟩ := h; intro m e; cases e) | (obtain ⟨_, _, _, rfl⟩ := h; intro m e; cases e) | exact h
noncomputable def places (T : Nat → Option TI) : List (Nat × Nat) → Option (List (Nat × Nat))
  | [] => some []
  | (off, t) :: fs => (T t).bind fun i => (places T fs).bind fun l => some ((off, i.n) :: l)
theorem places_ok {P : Program} {T : Nat → Option TI} (hT : TOK P T) : ∀ {fs : List Field} {pl : List (Nat × Nat)}, places T (fs.map fun x => (x.offset, x.type)) = some pl →
    fs.mapM (fun f => (P.info? f.type).map fun i => (f.offset, i.size)) = some pl
  | [], pl, h => by cases h; rfl
  | f :: fs, pl, h => by
    obtain ⟨i, h1, h⟩ := Option.bind_eq_some_iff.1 (show (T f.type).bind (fun i => (places T (fs.map fun x => (x.offset, x.type))).bind fun l => some ((f.offset, i.n) :: l)) = some pl from h)
    obtain ⟨l, h2, h⟩ := Option.bind_eq_some_iff.1 h
    cases h
    obtain ⟨j, z, k1, k2, _⟩ := (hT _ _ h1).i
    simp [List.mapM_cons, k1, k2, places_ok hT h2]
structure PO where
  l : List Nat
  O : Op → List AV → Option AV
  ent : Nat → Bool
def orcArgs : Op → List Operand
  | .binOp _ _ x y _ => [x, y]
  | .convert _ _ x => [x]
  | .typeAssert x _ _ _ => [x]
  | .call c => c.args.toList
  | _ => []
def OrcOK (P : Program) (K : Ctx) (O : Op → List AV → Option AV) : Prop := ∀ (op : Op) (vs : List AV) (z : AV), O op vs = some z →
  ∀ (σ : Env) (ρ : Operand → Value) (w : World) (dst : Option Tmp) (ty : TypeId) (pos : String) (af : Array Edge) (gd : Option (Nat × Bool)), VRs K σ vs ((orcArgs op).map ρ) →
    ∃ vc, (execOp ρ ⟨dst, op, ty, pos, af, gd⟩).run P w = .ok (.value vc) w ∧ VR K σ z vc
structure POK (P : Program) (K : Ctx) (po : PO) : Prop where
  ptr : PtrsOK P po.l
  orc : OrcOK P K po.O
  ent : ∀ f, po.ent f = true → Enters P f ∧ f ≠ yN
noncomputable def orO (O : List AV → Option AV) (xs : List Opd) (D : Option Pos) (r : Run) : Run := fun call s =>
  Out.rec (motive := fun _ => Out St) Out.ok Out.panic (onSome (O (evL xs s.tmps)) (fun v => setD D v s) .fail) (r call s)
theorem ok_orc {P : Program} {K : Ctx} {σ : Env} {own : Owns} {O : Op → List AV → Option AV} {xs : List Opd} {r : Run} {call : Caller} {s s' : St} {w : World} {ρ : Operand → Value} {dst : Option Tmp} {op : Op} {ty : TypeId} {pos : String} {af : Array Edge} {gd : Option (Nat × Bool)}
    (hO : OrcOK P K O) (H : HR K σ own s.heap w) (hx : VRs K σ (evL xs s.tmps) ((orcArgs op).map ρ)) (hr : orO (O op) xs (dP dst) r call s = .ok s')
    (h : r call s = .ok s' → StillR P K σ ⟨dst, op, ty, pos, af, gd⟩ ρ w s s') : StillR P K σ ⟨dst, op, ty, pos, af, gd⟩ ρ w s s' := by
  have hdef : orO (O op) xs (dP dst) r call s = Out.rec (motive := fun _ => Out St) Out.ok Out.panic (onSome (O op (evL xs s.tmps)) (fun v => setD (dP dst) v s) .fail) (r call s) := rfl
  rw [hdef] at hr
  cases hc : r call s with
  | ok s'' => rw [hc] at hr; cases hr; exact h hc
  | panic v hh => rw [hc] at hr; cases hr
  | fail =>
    rw [hc] at hr
    obtain ⟨z, h1, h2⟩ := onSome_ok (show onSome (O op (evL xs s.tmps)) (fun v => setD (dP dst) v s) .fail = .ok s' from hr)
    obtain ⟨vc, h3, h4⟩ := hO op _ z h1 σ ρ w dst ty pos af gd hx
    exact StillR.pure H h3 h4 h2
noncomputable def pureR (r : Run) : Run := fun call s => Out.rec (motive := fun _ => Out St) Out.ok (fun _ _ => .fail) .fail (r call s)
section
variable {P : Program} {K : Ctx} {ng : Nat} {cst : Value → Option AV} {o : Oper} {r : Run}
theorem OpOK.of_pure (hnd : NoDefer o) (h : ∀ (σ : Env) (own : Owns) (a : Act) (w : World) (s s' : St) (call : Caller), OR K ng cst σ s.tmps a.eval o → HR K σ own s.heap w →
    r call s = .ok s' → Res P K σ own o a.eval w s s') : OpOK P K ng cst o (pureR r) := by
  refine OpOK.of_res hnd (fun call s v hp e => ?_) (fun σ own a w s s' call hg ho hH hr => h σ own a w s s' call ho hH ?_)
  · unfold pureR at e
    cases hr : r call s <;> rw [hr] at e <;> cases e
  · unfold pureR at hr
    cases hr' : r call s with
    | ok s'' => rw [hr'] at hr; cases hr; rfl
    | panic v h => rw [hr'] at hr; cases hr
    | fail => rw [hr'] at hr; cases hr
end
noncomputable section
variable (ng : Nat) (cst : Value → Option AV) (T : Nat → Option TI) (ptrs : PO)
def compParts (place : Nat → Option (Nat × Nat)) (size : Nat) : List (Nat × Operand) → Option (List (Nat × Nat × Opd))
  | [] => some []
  | (i, x) :: l => (opd ng cst x).bind fun X => (place i).bind fun p => if Nat.ble (Nat.add p.1 p.2) size then (compParts place size l).bind fun L => some ((p.1, p.2, X) :: L) else none
def compOpds : List Operand → Option (List Opd)
  | [] => some []
  | x :: l => (opd ng cst x).bind fun X => (compOpds l).bind fun L => some (X :: L)
def compOpt : Option Operand → Option (Option Opd)
  | none => some none
  | some x => (opd ng cst x).bind fun X => some (some X)
def keyOf (k : TK) : Option (AV → Bool) := match k with | .int k => some (keyI k) | .str => some keyS | .bool => some keyB | .arr n e => if Nat.beq n 2 then (T e).bind (fun j => if Nat.beq j.n 1 then (match j.k with | .int q => some (keyA q) | _ => none) else none) else none | _ => none
def isCst (x : Operand) : Bool := match x with | .const _ => true | _ => false
def compEq (neg : Bool) (i : TI) (x y : Operand) (X Y : Opd) (D : Option Pos) : Option Run :=
  match i.k with
  | .int _ => some (rEq neg X Y D)
  | .str => some (rEq neg X Y D)
  | .bool => some (rEqB neg X Y D)
  | .ptr e => (T e).bind fun j => if Nat.beq j.n 0 then none else some (rEqP neg X Y D)
  | .slice _ => some (rEqNS neg X Y D)
  | .map _ _ => some (rEqNM neg X Y D)
  | .func => some (rEqNF neg X Y D)
  | .iface any => some (rEqI (any || isCst x || isCst y) ptrs.l neg X Y D)
  | _ => some rFail
def compBin (op : BinOp) (t : Nat) (x y : Operand) (X Y : Opd) (D : Option Pos) : Option Run :=
  match op with
  | .add => some (rAdd X Y D) | .sub => some (rSub X Y D) | .mul => some (rMul X Y D) | .quo => some (rQuo X Y D) | .rem => some (rRem X Y D)
  | .and => some (rAnd X Y D) | .or => some (rOr X Y D) | .xor => some (rXor X Y D) | .andNot => some (rAndNot X Y D) | .shl => some (rShl X Y D) | .shr => some (rShr X Y D)
  | .lss => some (rLss X Y D) | .gtr => some (rGtr X Y D) | .leq => some (rLeq X Y D) | .geq => some (rGeq X Y D)
  | .eql => (T t).bind fun i => compEq T ptrs false i x y X Y D
  | .neq => (T t).bind fun i => compEq T ptrs true i x y X Y D
def compBStill (b : Go.Builtin) (args : List Operand) (ts : List Nat) (D : Option Pos) : Option Run :=
  match b, args, ts with
  | .len, [x], [t] => (opd ng cst x).bind fun X => (T t).bind fun i => match i.k with | .str => some (rLenS X D) | .slice _ => some (rLenL X D) | .map _ _ => some (rLenM X D) | _ => none
  | .cap, [x], [t] => (opd ng cst x).bind fun X => (T t).bind fun i => match i.k with | .slice _ => some (rCap X D) | _ => none
  | .min, [x, y], [_, _] => (opd ng cst x).bind fun X => (opd ng cst y).bind fun Y => some (rMin X Y D)
  | .max, [x, y], [_, _] => (opd ng cst x).bind fun X => (opd ng cst y).bind fun Y => some (rMax X Y D)
  | .max, [x, y, z], [_, _, _] => (opd ng cst x).bind fun X => (opd ng cst y).bind fun Y => (opd ng cst z).bind fun Z => some (rMax3 X Y Z D)
  | .max, [x, y, z, u], [_, _, _, _] => (opd ng cst x).bind fun X => (opd ng cst y).bind fun Y => (opd ng cst z).bind fun Z => (opd ng cst u).bind fun U => some (rMax4 X Y Z U D)
  | _, _, _ => none
def compBEff (b : Go.Builtin) (args : List Operand) (ts : List Nat) (D : Option Pos) : Option Run :=
  match b, args, ts with
  | .append, [x, y], [t, u] => (opd ng cst x).bind fun X => (opd ng cst y).bind fun Y => (T t).bind fun i => (T u).bind fun j => match i.k with
      | .slice e => (T e).bind fun ei => if Nat.beq ei.n 0 then none else match j.k with
          | .slice _ => some (orR (rAppend ei.n X Y D) (rAppendC ei.n X Y D))
          | .str => if Nat.beq ei.n 1 then some (rAppendS X Y D) else none
          | .int _ => some (rAppendZ ei.n (cellsOf ei.z) X Y D)
          | _ => none
      | _ => none
  | .copy, [x, y], [t, u] => (opd ng cst x).bind fun X => (opd ng cst y).bind fun Y => (T t).bind fun i => (T u).bind fun j => match i.k with
      | .slice e => (T e).bind fun ei => match j.k with
          | .slice _ => some (rCopy ei.n X Y D)
          | .str => if Nat.beq ei.n 1 then some (rCopyS X Y D) else none
          | _ => none
      | _ => none
  | .delete, [x, y], [t, _] => (opd ng cst x).bind fun X => (opd ng cst y).bind fun Y => (T t).bind fun i => match i.k with
      | .map kt _ => (T kt).bind fun a => (keyOf T a.k).bind fun kf => some (rDelM kf X Y D)
      | _ => none
  | .clear, [x], [t] => (opd ng cst x).bind fun X => (T t).bind fun i => match i.k with
      | .slice e => (T e).bind fun ei => some (rClear ei.n (cellsOf ei.z) X D)
      | _ => none
  | _, _, _ => none
def compStill (D : Option Pos) (op : Op) : Option Run :=
  match op with
  | .move x => (opd ng cst x).bind fun X => some (rMove X D)
  | .assign x => (opd ng cst x).bind fun X => some (rMove X D)
  | .pick c a b => (opd ng cst c).bind fun C => (opd ng cst a).bind fun A => (opd ng cst b).bind fun B => some (rPick C A B D)
  | .build t ps => (T t).bind fun i => match i.k with
      | .struct fs => (places T fs).bind fun pl => (compParts ng cst (fun j => pl[j]?) (lenL (cellsOf i.z)) ps.toList).bind fun L => some (rBuild (cellsOf i.z) L D)
      | .arr _ e => (T e).bind fun j => (compParts ng cst (fun q => some (q * j.n, j.n)) (lenL (cellsOf i.z)) ps.toList).bind fun L => some (rBuild (cellsOf i.z) L D)
      | _ => none
  | .load t x => (opd ng cst x).bind fun X => (T t).bind fun i => i.k.agg.bind fun b => if b then some (rLoadN i.n X D) else some (rLoad1 X D)
  | .nilCheck x => (opd ng cst x).bind fun X => some (rNilCheck X D)
  | .binOp op t x y t' => (opd ng cst x).bind fun X => (opd ng cst y).bind fun Y => (compBin T ptrs op t x y X Y D).bind fun r => some (orO (ptrs.O (.binOp op t x y t')) [X, Y] D r)
  | .unOp op _ x => (opd ng cst x).bind fun X => match op with | .not => some (rNot X D) | .neg => some (rNeg X D) | .xor => some (rCom X D) | _ => none
  | .convert t u x => (opd ng cst x).bind fun X => (T t).bind fun j => (T u).bind fun i => match i.k with
      | .int k => some (orO (ptrs.O (.convert t u x)) [X] D (rConvInt k X D))
      | .str => match j.k with
        | .slice e => (T e).bind fun ei => match ei.k with | .int .u8 => some (rBytesS X D) | _ => none
        | _ => some (rConvStr X D)
      | _ => none
  | .makeInterface t x => (opd ng cst x).bind fun X => (T t).bind fun i => if i.k.notIface then some (rIface t X D) else none
  | .makeFunc fn a b => (compOpds ng cst a.toList).bind fun A => (compOpds ng cst b.toList).bind fun B => some (rFunc fn A B D)
  | .slice t x lo hi mx => match mx with
    | some mx => match hi with
      | some hi => (opd ng cst x).bind fun X => (compOpt ng cst lo).bind fun LO => (opd ng cst hi).bind fun HI => (opd ng cst mx).bind fun MX => (T t).bind fun i => match i.k with
          | .slice e => (T e).bind fun j => if Nat.beq j.n 0 then none else some (rSlice3 j.n X LO HI MX D)
          | _ => none
      | none => none
    | none => (opd ng cst x).bind fun X => (compOpt ng cst lo).bind fun LO => (compOpt ng cst hi).bind fun HI => (T t).bind fun i => match i.k with
          | .str => some (rSliceS X LO HI D)
          | .arr n e => (T e).bind fun j => some (rSliceA n j.n X LO HI D)
          | _ => none
  | .fieldAddr t x n => (opd ng cst x).bind fun X => (T t).bind fun i => match i.k with
      | .struct fs => (fs[n]?).bind fun f => (T f.2).bind fun j => if Nat.beq j.n 0 then none else some (rFieldAddr f.1 X D)
      | _ => none
  | .field t x n => (opd ng cst x).bind fun X => (T t).bind fun i => match i.k with
      | .struct fs => (fs[n]?).bind fun f => (T f.2).bind fun j => j.k.agg.bind fun b => if b then some (rFieldN f.1 j.n X D) else some (rField1 f.1 X D)
      | _ => none
  | .indexAddr t x y => (opd ng cst x).bind fun X => (opd ng cst y).bind fun Y => (T t).bind fun i => match i.k with
      | .slice e => (T e).bind fun j => some (rIndexAddr j.n X Y D)
      | .arr len e => (T e).bind fun j => some (rIndexAddrA len j.n X Y D)
      | _ => none
  | .index t x y => (opd ng cst x).bind fun X => (opd ng cst y).bind fun Y => (T t).bind fun i => match i.k with
      | .str => some (rIndexStr X Y D)
      | .arr len e => (T e).bind fun j => j.k.agg.bind fun b => some (rIndexArr len j.n b X Y D)
      | _ => none
  | .lookup t m k ok => (opd ng cst m).bind fun M => (opd ng cst k).bind fun X => (T t).bind fun i => match i.k with
      | .map kt et => (T kt).bind fun a => (T et).bind fun b => (keyOf T a.k).bind fun kf => some (rLookup kf b.z ok M X D)
      | _ => none
  | .extract x i => (opd ng cst x).bind fun X => some (rExtract i X D)
  | .sliceToArrayPointer t x => (opd ng cst x).bind fun X => (T t).bind fun i => match i.k with | .arr n _ => some (rS2ap n X D) | _ => none
  | .entry x => (opd ng cst x).bind fun X => some (orR (rEntry X D) (rEntryR X D))
  | .typeAssert x t u ok => (opd ng cst x).bind fun X => some (orO (ptrs.O (.typeAssert x t u ok)) [X] D rFail)
  | .call c => match c.callee with
      | .builtin b => (compBStill ng cst T b c.args.toList c.argTypes.toList D).bind fun r => (compOpds ng cst c.args.toList).bind fun A => some (orO (ptrs.O (.call c)) A D r)
      | _ => none
  | _ => none
def compNew (D : Option Pos) (op : Op) : Option Run :=
  match op with
  | .alloc e => (T e).bind fun i => some (rAlloc (cellsOf i.z) D)
  | .box _ x => (opd ng cst x).bind fun X => some (rBox X D)
  | .buildSlice t len ps => (T t).bind fun i => match i.k with
      | .slice e => (T e).bind fun j => if Nat.beq j.n 0 then none else if Nat.ble (Nat.mul len j.n) 16777216 then
          (compParts ng cst (fun q => some (q * j.n, j.n)) (len * j.n) ps.toList).bind fun L => some (rBuildSlice len j.n (repL (cellsOf j.z) len) L D) else none
      | _ => none
  | _ => none
def compEff (D : Option Pos) (op : Op) : Option Run :=
  match op with
  | .store t x y => (opd ng cst x).bind fun X => (opd ng cst y).bind fun Y => (T t).bind fun i => some (rStore i.n X Y D)
  | .makeMap _ none => some (rMakeMap D)
  | .range t x => (opd ng cst x).bind fun X => (T t).bind fun i => match i.k with | .map _ _ => some (orR (rRangeM X D) (rRangeR X D)) | _ => none
  | .makeSlice t x y => (opd ng cst x).bind fun X => (opd ng cst y).bind fun Y => (T t).bind fun i => match i.k with
      | .slice e => (T e).bind fun j => if Nat.beq j.n 0 then none else some (rMakeSlice j.n (cellsOf j.z) X Y D)
      | _ => none
  | .convert t u x => (opd ng cst x).bind fun X => (T t).bind fun i => match i.k with
      | .slice e => (T e).bind fun ei => match ei.k with | .int .u8 => if Nat.beq t u then some (rConvSl X D) else none | _ => none
      | .str => (T u).bind fun j => match j.k with
        | .slice e => (T e).bind fun ei => match ei.k with | .int .u8 => some (rStrB X D) | _ => none
        | _ => none
      | _ => none
  | .slice t x lo hi none => (opd ng cst x).bind fun X => (compOpt ng cst lo).bind fun LO => (compOpt ng cst hi).bind fun HI => (T t).bind fun i => match i.k with
      | .slice e => (T e).bind fun j => if Nat.beq j.n 0 then none else some (orR (rSlice j.n X LO HI D) (rSliceC j.n X LO HI D))
      | _ => none
  | .mapUpdate t m k y => (opd ng cst m).bind fun M => (opd ng cst k).bind fun X => (opd ng cst y).bind fun Y => (T t).bind fun i => match i.k with
      | .map kt _ => (T kt).bind fun a => (keyOf T a.k).bind fun kf => some (rMapUpdate kf M X Y D)
      | _ => none
  | .mapEntry t m k => (opd ng cst m).bind fun M => (opd ng cst k).bind fun X => (T t).bind fun i => match i.k with
      | .map kt et => (T kt).bind fun a => (T et).bind fun b => (keyOf T a.k).bind fun kf => some (rMapEntry kf b.z M X D)
      | _ => none
  | .entryStore _ m n y => (opd ng cst m).bind fun M => (opd ng cst n).bind fun N => (opd ng cst y).bind fun Y => some (rEntryStore M N Y D)
  | .insert t m k y => (opd ng cst m).bind fun M => (opd ng cst k).bind fun X => (opd ng cst y).bind fun Y => (T t).bind fun i => match i.k with
      | .map kt _ => (T kt).bind fun a => (keyOf T a.k).bind fun kf => some (rMapUpdate kf M X Y D)
      | _ => none
  | .call c => match c.callee with
      | .builtin b => compBEff ng cst T b c.args.toList c.argTypes.toList D
      | _ => none
  | _ => none
def compPure (D : Option Pos) (op : Op) : Option Run :=
  match compStill ng cst T ptrs D op with
  | some r => some r
  | none => match compNew ng cst T D op with
    | some r => some r
    | none => compEff ng cst T D op
def compCall (D : Option Pos) (op : Op) : Option Run :=
  match op with
  | .call c => match c.callee with
      | .value (.func f) => if Nat.beq f yN then none else (compOpds ng cst c.args.toList).bind fun A => some (rCall f A D)
      | .value x => (opd ng cst x).bind fun X => (compOpds ng cst c.args.toList).bind fun A => some (rCallV X A D)
      | _ => none
  | .panic x => (opd ng cst x).bind fun X => some (rPanic X)
  | _ => none
def mapB (d : Option Pos) (s : St) (l : List (Out (AV × AHeap))) : List (Out St) := bindG l (fun r => [backTo d s r])
def nCall (f : Nat) (args : List Opd) (d : Option Pos) : NRun := fun call s => evLK args s.tmps (fun l => mapB d s (call f l s.heap))
def nCallV (x : Opd) (args : List Opd) (d : Option Pos) : NRun := fun call s =>
  (x.ev s.tmps).onFunc (fun fn a b => match fn with
    | .func f => ifb (Nat.beq f yN) [.fail] (evLK args s.tmps (fun l => mapB d s (call f (appL (appL a l) b) s.heap)))
    | _ => [.fail]) ((x.ev s.tmps).onYld (fun b => evLK args s.tmps (fun l => mapB d s (call yN (.yld b :: l) s.heap))) [.fail])
def compOpN (D : Option Pos) (op : Op) : Option NRun :=
  match compPure ng cst T ptrs D op with
  | some r => some (fun call s => [pureR r (detC call) s])
  | none => match op with
    | .call c => match c.callee with
        | .value (.func f) => if Nat.beq f yN then none else (compOpds ng cst c.args.toList).bind fun A => some (nCall f A D)
        | .value x => (opd ng cst x).bind fun X => (compOpds ng cst c.args.toList).bind fun A => some (nCallV X A D)
        | _ => none
    | .panic x => (opd ng cst x).bind fun X => some (fun call s => [rPanic X (detC call) s])
    | .next x false => (opd ng cst x).bind fun X => some (orN (nNext X D) (nNextR X D))
    | _ => none
def compOp (D : Option Pos) (op : Op) : Option Run :=
  match compPure ng cst T ptrs D op with
  | some r => some (pureR r)
  | none => compCall ng cst D op
end
end Go.Eng
namespace Go.Eng
open Go.RowKit
section
variable {P : Program} {K : Ctx} {ng : Nat} {cst : Value → Option AV} {T : Nat → Option TI} {ptrs : PO} {σ : Env} {tm : PT AV} {ρ : Operand → Value}
theorem bind_ok {α β : Type} {x : Option α} {f : α → Option β} {y : β} (h : x.bind f = some y) : ∃ a, x = some a ∧ f a = some y := Option.bind_eq_some_iff.1 h
theorem nbeq {m n : Nat} (h : Nat.beq m n = false) : m ≠ n := fun e => by subst e; rw [Nat.beq_refl] at h; cases h
theorem compParts_ok {place : Nat → Option (Nat × Nat)} {size : Nat} : ∀ {ps : List (Nat × Operand)} {L : List (Nat × Nat × Opd)},
    (∀ p ∈ ps, ∀ X, opd ng cst p.2 = some X → VR K σ (X.ev tm) (ρ p.2)) → compParts ng cst place size ps = some L → PartsR K σ tm ρ place size ps L
  | [], L, ho, h => by cases h; rfl
  | (i, x) :: ps, L, ho, h => by
    unfold compParts at h
    obtain ⟨X, h1, h⟩ := bind_ok h
    obtain ⟨p, h2, h⟩ := bind_ok h
    split at h
    · rename_i hb
      obtain ⟨L', h3, h⟩ := bind_ok h
      cases h
      exact ⟨p.1, p.2, X, L', rfl, h2, Nat.le_of_ble_eq_true hb, ho (i, x) List.mem_cons_self X h1, compParts_ok (fun q hq => ho q (List.mem_cons_of_mem _ hq)) h3⟩
    · cases h
theorem compOpds_ok : ∀ {l : List Operand} {L : List Opd}, (∀ x ∈ l, ∀ X, opd ng cst x = some X → VR K σ (X.ev tm) (ρ x)) → compOpds ng cst l = some L → OpdsR K σ tm ρ L l
  | [], L, ho, h => by cases h; rfl
  | x :: l, L, ho, h => by
    unfold compOpds at h
    obtain ⟨X, h1, h⟩ := bind_ok h
    obtain ⟨L', h2, h⟩ := bind_ok h
    cases h
    exact ⟨x, l, rfl, ho x List.mem_cons_self X h1, compOpds_ok (fun y hy => ho y (List.mem_cons_of_mem _ hy)) h2⟩
theorem compOpt_ok {m : Option Operand} {M : Option Opd} (ho : ∀ x, m = some x → ∀ X, opd ng cst x = some X → VR K σ (X.ev tm) (ρ x)) (h : compOpt ng cst m = some M) : OptR K σ tm ρ M m := by
  cases m with
  | none => cases h; rfl
  | some x =>
    obtain ⟨X, h1, h⟩ := bind_ok h
    cases h
    exact ⟨x, rfl, ho x rfl X h1⟩
theorem ifb_t2 {c t : Bool} (h : ifb c t false = true) : c = true ∧ t = true := by cases c <;> simp_all [ifb]
theorem keyI_int {q : IntKind} {a : AV} {c : Value} (h : keyI q a = true) (hv : VR K σ a c) : ∃ n : Int, a = .int q n ∧ c = .int q n := by
  cases a with
  | int k n => have : k = q := keq_iff h; subst this; exact ⟨n, rfl, hv⟩
  | _ => cases h
theorem keyA_ints {q : IntKind} {v : AV} {c : Value} (h : keyA q v = true) (hv : VR K σ v c) : ∃ a b : Int, v = .agg [.int q a, .int q b] ∧ c = .agg #[.int q a, .int q b] := by
  cases v with
  | agg l =>
    obtain ⟨⟨x⟩, rfl, hx⟩ := hv
    match l, hx, h with
    | [], _, h => cases h
    | [_], _, h => cases h
    | [a, b], hx, h =>
      obtain ⟨u, _, e1, h1, u', _, e2, h2, e3⟩ := hx
      have e3 : _ = [] := e3
      subst e3 e2
      obtain ⟨k1, k2⟩ := ifb_t2 (show ifb (keyI q a) (keyI q b) false = true from h)
      obtain ⟨m, rfl, rfl⟩ := keyI_int k1 h1
      obtain ⟨n, rfl, rfl⟩ := keyI_int k2 h2
      simp only at e1
      subst e1
      exact ⟨m, n, rfl, rfl⟩
    | _ :: _ :: _ :: _, _, h => cases h
  | _ => cases h
theorem akey_ints {q : IntKind} {a b : Int} {v' : AV} {c' : Value} {r : Bool} (h : akey (.agg [.int q a, .int q b]) v' = some r) (hv : VR K σ v' c') : ∃ a' b' : Int, c' = .agg #[.int q a', .int q b'] ∧ r = (a == a' && b == b') := by
  cases v' with
  | agg l =>
    obtain ⟨⟨x⟩, rfl, hx⟩ := hv
    have h : aggK [.int q a, .int q b] l = some r := h
    match l, hx, h with
    | [], _, h => cases h
    | y :: l, ⟨u, us, e1, h1, h2⟩, h =>
      cases y with
      | int k a' =>
        obtain ⟨k1, hh⟩ := ifb_some (show ifb (keq q k) (onSome (aggK [.int q b] l) (fun r => some (ifb (ieq a a') r false)) none) none = some r from h)
        have := keq_iff k1
        subst this
        obtain ⟨r', k2, hh2⟩ := onSome_eq hh
        have h1 : u = .int q a' := h1
        match l, h2, k2 with
        | [], _, k2 => cases k2
        | y' :: l, ⟨u', us', e2, h3, h4⟩, k2 =>
          cases y' with
          | int k' b' =>
            obtain ⟨k3, kk⟩ := ifb_some (show ifb (keq q k') (onSome (aggK [] l) (fun r => some (ifb (ieq b b') r false)) none) none = some r' from k2)
            have := keq_iff k3
            subst this
            obtain ⟨r'', k4, kk2⟩ := onSome_eq kk
            have h3 : u' = .int q b' := h3
            match l, h4, k4 with
            | [], h4, k4 =>
              have h4 : us' = [] := h4
              simp only at e1
              subst h4 e2 e1 h1 h3
              cases k4
              cases kk2
              cases hh2
              refine ⟨a', b', rfl, ?_⟩
              rw [ieq_eq, ieq_eq]
              cases hb : decide (a = a') <;> cases hc : decide (b = b') <;> simp_all [ifb]
            | _ :: _, _, k4 => cases k4
          | _ => cases k2
      | _ => cases h
  | _ => cases h
theorem keyA_chk {kt e : Nat} {q : IntKind} {i : TypeInfo} (hd : P.underlying kt = some (.array 2 e)) (he : P.underlying e = some (.int q)) (hi : P.info? e = some i) (h1 : i.size = 1) (em : Bool) (n : Nat) (a b : Int) (w : World) :
    (Instr.checkKey em (n + 1 + 1) kt (.agg #[.int q a, .int q b])).run P w = .ok () w := by
  have hsz : ∀ w : World, (sizeOf e).run P w = .ok 1 w := fun w => by rw [run_sizeOf hi, h1]
  have hpart : ∀ (xs : Array Value) (off : Nat) (v : Value) (w : World), xs[off]? = some v → (part e xs off).run P w = .ok v w := fun xs off v w hx => by
    simp [part, isAgg, run_underlying he, hx]
  have hk : ∀ (n : Nat) (m : Int) (w : World), (Instr.checkKey em (n + 1) e (.int q m)).run P w = .ok () w := fun n m w => by
    simp [Instr.checkKey, run_underlying he]
  have p0 := fun w => hpart #[.int q a, .int q b] 0 _ w rfl
  have p1 := fun w => hpart #[.int q a, .int q b] 1 _ w rfl
  unfold Instr.checkKey
  simp [run_underlying hd, hsz, p0, p1, hk n, Std.Legacy.Range.forIn_eq_forIn_range', Std.Legacy.Range.size, List.range']
theorem keyA_eq {kt e : Nat} {q : IntKind} {i : TypeInfo} (hd : P.underlying kt = some (.array 2 e)) (he : P.underlying e = some (.int q)) (hi : P.info? e = some i) (h1 : i.size = 1) (n : Nat) (a b x y : Int) (w : World) :
    (Op.equalIn (n + 1 + 1) kt (.agg #[.int q a, .int q b]) (.agg #[.int q x, .int q y])).run P w = .ok (a == x && b == y) w := by
  have hsz : ∀ w : World, (sizeOf e).run P w = .ok 1 w := fun w => by rw [run_sizeOf hi, h1]
  have hpart : ∀ (xs : Array Value) (off : Nat) (v : Value) (w : World), xs[off]? = some v → (part e xs off).run P w = .ok v w := fun xs off v w hx => by
    simp [part, isAgg, run_underlying he, hx]
  have heq : ∀ (n : Nat) (a b : Int) (w : World), (Op.equalIn (n + 1) e (.int q a) (.int q b)).run P w = .ok (a == b) w := fun n a b w => eqIn_int n he w
  have p0 := fun w => hpart #[.int q a, .int q b] 0 _ w rfl
  have p1 := fun w => hpart #[.int q a, .int q b] 1 _ w rfl
  have r0 := fun w => hpart #[.int q x, .int q y] 0 _ w rfl
  have r1 := fun w => hpart #[.int q x, .int q y] 1 _ w rfl
  unfold Op.equalIn
  simp [run_underlying hd, hsz, p0, p1, r0, r1, heq n, Std.Legacy.Range.forIn_eq_forIn_range', Std.Legacy.Range.size, List.range']
  cases h1 : (a == x) <;> cases h2 : (b == y) <;> simp_all
theorem keyA_bits (n : Nat) (q : IntKind) (a b : Int) : Instr.sameBits (n + 1 + 1) (.agg #[.int q a, .int q b]) (.agg #[.int q a, .int q b]) = true := by
  simp [Instr.sameBits]
theorem keyA_ok {kt e : Nat} {q : IntKind} {i : TypeInfo} (hd : P.underlying kt = some (.array 2 e)) (he : P.underlying e = some (.int q)) (hi : P.info? e = some i) (h1 : i.size = 1) : KeyP P kt (.array 2 e) (keyA q) := by
  refine ⟨fun K σ v c hv hc em w => ?_, fun K σ v v' c c' b hv hc hc' hb => ?_, fun K σ v c hv hc => ?_⟩
  · obtain ⟨a, b, rfl, rfl⟩ := keyA_ints hv hc
    exact keyA_chk hd he hi h1 em 9998 a b w
  · obtain ⟨a, b', rfl, rfl⟩ := keyA_ints hv hc
    obtain ⟨x, y, rfl, rfl⟩ := akey_ints hb hc'
    refine ⟨fun w => keyA_eq hd he hi h1 9998 a b' x y w, .inr rfl, fun h => ?_⟩
    simp only [Bool.and_eq_true, beq_iff_eq] at h
    obtain ⟨rfl, rfl⟩ := h
    rfl
  · obtain ⟨a, b, rfl, rfl⟩ := keyA_ints hv hc
    exact keyA_bits 9998 q a b
theorem keyOf_ok (hT : TOK P T) {kt : Nat} {k : TK} {d : TypeDesc} {kf : AV → Bool} (hu : P.underlying kt = some d) (hd : TKD k d) (h : keyOf T k = some kf) : KeyP P kt d kf := by
  cases k <;> simp only [TKD] at hd <;> try (cases h; done)
  case bool => cases h; subst hd; exact KeyP.basic hu keyB_ok
  case str => cases h; subst hd; exact KeyP.basic hu keyS_ok
  case int => cases h; subst hd; exact KeyP.basic hu keyI_ok
  case arr n e =>
    unfold keyOf at h
    dsimp only at h
    split at h
    · rename_i hn
      have hn : n = 2 := Nat.eq_of_beq_eq_true hn
      obtain ⟨j, hj, h⟩ := bind_ok h
      split at h
      · rename_i h1
        have h1 : j.n = 1 := Nat.eq_of_beq_eq_true h1
        split at h
        · rename_i q hq
          cases h
          subst hn hd
          have ht := hT _ _ hj
          obtain ⟨d', hd', hk'⟩ := ht.d
          rw [hq] at hk'
          have hk' : d' = .int q := hk'
          subst hk'
          obtain ⟨i, z, hi, hs, _⟩ := ht.i
          exact keyA_ok hu hd' hi (hs.trans h1)
        · cases h
      · cases h
    · cases h
theorem cells_of {Z : AV} {z : Value} (h : CV1 Z z) : CV (cellsOf Z) z.cells.toList := fun K σ => (h K σ).cells
section
variable {o : Oper} {D : Option Pos}
theorem compEq_ok {own : Owns} {w : World} {s s' : St} {call : Caller} {neg : Bool} {t t' : Nat} {i : TI} {x y : Operand} {X Y : Opd} {r : Run} {dst : Option Tmp} {ty : TypeId} {pos : String} {af : Array Edge} {gd : Option (Nat × Bool)}
    (hT : TOK P T) (hp : POK P K ptrs) (hi : TiOK P t i) (H : HR K σ own s.heap w) (hx : VR K σ (X.ev s.tmps) (ρ x)) (hy : VR K σ (Y.ev s.tmps) (ρ y))
    (h : compEq T ptrs neg i x y X Y (dP dst) = some r) (hr : r call s = .ok s') : StillR P K σ ⟨dst, .binOp (eqOp neg) t x y t', ty, pos, af, gd⟩ ρ w s s' := by
  obtain ⟨d, hd, hk⟩ := hi.d
  unfold compEq at h
  split at h <;> (try rename_i hik; rw [hik] at hk; simp only [TKD] at hk)
  · cases h; exact ok_eq H hx hy hr
  · cases h; exact ok_eq H hx hy hr
  · cases h; subst hk; exact ok_eqB H hx hy hd hr
  · subst hk
    obtain ⟨j, hj, h⟩ := bind_ok h
    split at h
    · cases h
    · rename_i hz
      cases h
      obtain ⟨ji, jz, k1, k2, _⟩ := (hT _ _ hj).i
      exact ok_eqP H hx hy hd k1 (by rw [k2]; exact (by simpa using hz)) hr
  · cases h; subst hk; exact ok_eqNS H hx hy hd hr
  · cases h; subst hk; exact ok_eqNM H hx hy hd hr
  · cases h; obtain ⟨_, _, _, rfl⟩ := hk; exact ok_eqNF H hx hy hd hr
  · cases h
    obtain ⟨ms, rfl, hm⟩ := hk
    refine ok_eqI H hx hy hd hp.ptr (fun hn => ?_) hr
    rcases Bool.or_eq_true_iff.1 hn with hn | hn
    · rcases Bool.or_eq_true_iff.1 hn with hn | hn
      · exact .inl (hm hn)
      · right; left; cases x <;> first | exact ⟨_, rfl⟩ | cases hn
    · right; right; cases y <;> first | exact ⟨_, rfl⟩ | cases hn
  · cases h; cases hr
theorem compBin_ok {own : Owns} {w : World} {s s' : St} {call : Caller} {op : BinOp} {t t' : Nat} {x y : Operand} {X Y : Opd} {r : Run} {dst : Option Tmp} {ty : TypeId} {pos : String} {af : Array Edge} {gd : Option (Nat × Bool)}
    (hT : TOK P T) (hp : POK P K ptrs) (H : HR K σ own s.heap w) (hx : VR K σ (X.ev s.tmps) (ρ x)) (hy : VR K σ (Y.ev s.tmps) (ρ y))
    (h : compBin T ptrs op t x y X Y (dP dst) = some r) (hr : r call s = .ok s') : StillR P K σ ⟨dst, .binOp op t x y t', ty, pos, af, gd⟩ ρ w s s' := by
  cases op <;> simp only [compBin] at h
  case eql => obtain ⟨i, hi, h⟩ := bind_ok h; exact compEq_ok (neg := false) hT hp (hT _ _ hi) H hx hy h hr
  case neq => obtain ⟨i, hi, h⟩ := bind_ok h; exact compEq_ok (neg := true) hT hp (hT _ _ hi) H hx hy h hr
  all_goals cases h
  · exact ok_add H hx hy hr
  · exact ok_sub H hx hy hr
  · exact ok_mul H hx hy hr
  · exact ok_quo H hx hy hr
  · exact ok_rem H hx hy hr
  · exact ok_and H hx hy hr
  · exact ok_or H hx hy hr
  · exact ok_xor H hx hy hr
  · exact ok_shl H hx hy hr
  · exact ok_shr H hx hy hr
  · exact ok_andNot H hx hy hr
  · exact ok_lss H hx hy hr
  · exact ok_leq H hx hy hr
  · exact ok_gtr H hx hy hr
  · exact ok_geq H hx hy hr
theorem compBStill_ok {own : Owns} {w : World} {s s' : St} {call : Caller} {b : Go.Builtin} {args : Array Operand} {ts : Array TypeId} {r : Run} {dst : Option Tmp} {ty : TypeId} {pos : String} {af : Array Edge} {gd : Option (Nat × Bool)}
    (hT : TOK P T) (H : HR K σ own s.heap w) (ho : ∀ x ∈ args.toList, ∀ X, opd ng cst x = some X → VR K σ (X.ev s.tmps) (ρ x))
    (h : compBStill ng cst T b args.toList ts.toList (dP dst) = some r) (hr : r call s = .ok s') : StillR P K σ ⟨dst, .call ⟨.builtin b, args, ts⟩, ty, pos, af, gd⟩ ρ w s s' := by
  obtain ⟨args⟩ := args
  obtain ⟨ts⟩ := ts
  simp only at h ho
  unfold compBStill at h
  split at h
  · obtain ⟨X, h1, h⟩ := bind_ok h
    obtain ⟨i, h2, h⟩ := bind_ok h
    have hx := ho _ (by simp) X h1
    obtain ⟨d, hd, hk⟩ := (hT _ _ h2).d
    split at h <;> (try rename_i hik; rw [hik] at hk; simp only [TKD] at hk)
    · cases h; subst hk; exact ok_lenS H hx hd hr
    · cases h; subst hk; exact ok_lenL H hx hd hr
    · cases h; subst hk; exact ok_lenM H hx hd hr
    · cases h
  · obtain ⟨X, h1, h⟩ := bind_ok h
    obtain ⟨i, h2, h⟩ := bind_ok h
    have hx := ho _ (by simp) X h1
    obtain ⟨d, hd, hk⟩ := (hT _ _ h2).d
    split at h <;> (try rename_i hik; rw [hik] at hk; simp only [TKD] at hk)
    · cases h; subst hk; exact ok_cap H hx hd hr
    · cases h
  · obtain ⟨X, h1, h⟩ := bind_ok h
    obtain ⟨Y, h2, h⟩ := bind_ok h
    cases h
    exact ok_min H (ho _ (by simp) X h1) (ho _ (by simp) Y h2) hr
  · obtain ⟨X, h1, h⟩ := bind_ok h
    obtain ⟨Y, h2, h⟩ := bind_ok h
    cases h
    exact ok_max H (ho _ (by simp) X h1) (ho _ (by simp) Y h2) hr
  · obtain ⟨X, h1, h⟩ := bind_ok h
    obtain ⟨Y, h2, h⟩ := bind_ok h
    obtain ⟨Z, h3, h⟩ := bind_ok h
    cases h
    exact ok_max3 H (ho _ (by simp) X h1) (ho _ (by simp) Y h2) (ho _ (by simp) Z h3) hr
  · obtain ⟨X, h1, h⟩ := bind_ok h
    obtain ⟨Y, h2, h⟩ := bind_ok h
    obtain ⟨Z, h3, h⟩ := bind_ok h
    obtain ⟨U, h4, h⟩ := bind_ok h
    cases h
    exact ok_max4 H (ho _ (by simp) X h1) (ho _ (by simp) Y h2) (ho _ (by simp) Z h3) (ho _ (by simp) U h4) hr
  · cases h
theorem compBEff_ok {own : Owns} {w : World} {s s' : St} {call : Caller} {b : Go.Builtin} {args : Array Operand} {ts : Array TypeId} {r : Run} {dst : Option Tmp} {ty : TypeId} {pos : String} {af : Array Edge} {gd : Option (Nat × Bool)}
    (hT : TOK P T) (H : HR K σ own s.heap w) (ho : ∀ x ∈ args.toList, ∀ X, opd ng cst x = some X → VR K σ (X.ev s.tmps) (ρ x))
    (h : compBEff ng cst T b args.toList ts.toList (dP dst) = some r) (hr : r call s = .ok s') : Res P K σ own ⟨dst, .call ⟨.builtin b, args, ts⟩, ty, pos, af, gd⟩ ρ w s s' := by
  obtain ⟨args⟩ := args
  obtain ⟨ts⟩ := ts
  simp only at h ho
  unfold compBEff at h
  split at h
  · obtain ⟨X, h1, h⟩ := bind_ok h
    obtain ⟨Y, h2, h⟩ := bind_ok h
    obtain ⟨i, h3, h⟩ := bind_ok h
    obtain ⟨j, h4, h⟩ := bind_ok h
    have hx := ho _ (by simp) X h1
    have hy := ho _ (by simp) Y h2
    obtain ⟨d, hd, hk⟩ := (hT _ _ h3).d
    obtain ⟨d', hd', hk'⟩ := (hT _ _ h4).d
    split at h <;> (try rename_i hik; rw [hik] at hk; simp only [TKD] at hk)
    · subst hk
      obtain ⟨ei, h5, h⟩ := bind_ok h
      obtain ⟨ii, z, k1, k2, k3, k4, k5, k6⟩ := (hT _ _ h5).i
      have hzs : z.cells.size = ii.size := by have := (cells_of k5 K σ).length; rw [k6] at this; rw [k2]; simpa using this
      split at h
      · cases h
      · rename_i hz
        have hz' : ii.size ≠ 0 := by rw [k2]; exact (by simpa using hz)
        split at h <;> (try rename_i hjk; rw [hjk] at hk'; simp only [TKD] at hk')
        · cases h; subst hk'
          rw [← k2] at hr
          exact (orR_ok hr).elim (ok_append H ⟨hd, .inl ⟨_, hd'⟩, k1, k3, hzs, hz', k4⟩ hx hy) (ok_appendC H ⟨hd, .inl ⟨_, hd'⟩, k1, k3, hzs, hz', k4⟩ hx hy)
        · split at h
          · rename_i h1'
            cases h; subst hk'
            exact ok_appendS H ⟨hd, .inr hd', k1, k3, hzs, hz', k4⟩ (by rw [k2]; exact Nat.eq_of_beq_eq_true h1') hx hy hr
          · cases h
        · cases h; subst hk'
          rw [← k2] at hr
          exact ok_appendZ H hx hy hd hd' k1 k3 hzs hz' k4 (cells_of k5 K σ) hr
        · cases h
    · cases h
  · obtain ⟨X, h1, h⟩ := bind_ok h
    obtain ⟨Y, h2, h⟩ := bind_ok h
    obtain ⟨i, h3, h⟩ := bind_ok h
    obtain ⟨j, h4, h⟩ := bind_ok h
    have hx := ho _ (by simp) X h1
    have hy := ho _ (by simp) Y h2
    obtain ⟨d, hd, hk⟩ := (hT _ _ h3).d
    obtain ⟨d', hd', hk'⟩ := (hT _ _ h4).d
    split at h <;> (try rename_i hik; rw [hik] at hk; simp only [TKD] at hk)
    · subst hk
      obtain ⟨ei, h5, h⟩ := bind_ok h
      obtain ⟨ii, z, k1, k2, k3, k4, k5, k6⟩ := (hT _ _ h5).i
      split at h <;> (try rename_i hjk; rw [hjk] at hk'; simp only [TKD] at hk')
      · cases h
        rw [← k2] at hr
        exact ok_copy H hd k1 hx hy hr
      · split at h
        · rename_i h1'
          cases h
          exact ok_copyS H hd k1 (by rw [k2]; exact Nat.eq_of_beq_eq_true h1') hx hy hr
        · cases h
      · cases h
    · cases h
  · obtain ⟨X, h1, h⟩ := bind_ok h
    obtain ⟨Y, h2, h⟩ := bind_ok h
    obtain ⟨i, h3, h⟩ := bind_ok h
    have hx := ho _ (by simp) X h1
    have hy := ho _ (by simp) Y h2
    obtain ⟨d, hd, hk⟩ := (hT _ _ h3).d
    split at h <;> (try rename_i hik; rw [hik] at hk; simp only [TKD] at hk)
    · subst hk
      obtain ⟨b, h5, h⟩ := bind_ok h; obtain ⟨kf, h6, h⟩ := bind_ok h; cases h
      obtain ⟨d', hd', hk'⟩ := (hT _ _ h5).d
      exact ok_delete hd hd' (keyOf_ok hT hd' hk' h6) H hx hy hr
    · cases h
  · obtain ⟨X, h1, h⟩ := bind_ok h
    obtain ⟨i, h3, h⟩ := bind_ok h
    have hx := ho _ (by simp) X h1
    obtain ⟨d, hd, hk⟩ := (hT _ _ h3).d
    split at h <;> (try rename_i hik; rw [hik] at hk; simp only [TKD] at hk)
    · subst hk
      obtain ⟨ei, h5, h⟩ := bind_ok h
      obtain ⟨ii, z, k1, k2, k3, k4, k5, k6⟩ := (hT _ _ h5).i
      cases h
      rw [← k2] at hr
      exact ok_clear H hx hd k1 k3 (cells_of k5 K σ) hr
    · cases h
  · cases h
theorem compStill_ok {op : Op} {r : Run} {dst : Option Tmp} (hT : TOK P T) (hp : POK P K ptrs) (h : compStill ng cst T ptrs (dP dst) op = some r) (ty : TypeId) (pos : String) (af : Array Edge) (gd : Option (Nat × Bool))
    {own : Owns} {a : Act} {w : World} {s s' : St} {call : Caller} (ho : OR K ng cst σ s.tmps a.eval ⟨dst, op, ty, pos, af, gd⟩) (H : HR K σ own s.heap w) (hr : r call s = .ok s') : StillR P K σ ⟨dst, op, ty, pos, af, gd⟩ a.eval w s s' := by
  have mem : ∀ x ∈ op.operands, ∀ X, opd ng cst x = some X → VR K σ (X.ev s.tmps) (a.eval x) := ho
  cases op <;> simp only [compStill] at h <;> try (cases h; done)
  case move x => obtain ⟨X, h1, h⟩ := bind_ok h; cases h; exact ok_move H (mem _ (by simp [Op.operands]) X h1) hr
  case assign x => obtain ⟨X, h1, h⟩ := bind_ok h; cases h; exact ok_assign H (mem _ (by simp [Op.operands]) X h1) hr
  case pick x y z =>
    obtain ⟨X, h1, h⟩ := bind_ok h; obtain ⟨Y, h2, h⟩ := bind_ok h; obtain ⟨Z, h3, h⟩ := bind_ok h; cases h
    exact ok_pick H (mem _ (by simp [Op.operands]) X h1) (mem _ (by simp [Op.operands]) Y h2) (mem _ (by simp [Op.operands]) Z h3) hr
  case build t ps =>
    obtain ⟨i, h1, h⟩ := bind_ok h
    obtain ⟨ii, z, k1, k2, k3, k4, k5, k6⟩ := (hT _ _ h1).i
    obtain ⟨d, hd, hk⟩ := (hT _ _ h1).d
    have hps : ∀ p ∈ ps.toList, ∀ X, opd ng cst p.2 = some X → VR K σ (X.ev s.tmps) (a.eval p.2) := fun p hp => mem p.2 (by simp only [Op.operands]; simp; exact ⟨p.1, by simpa using hp⟩)
    split at h <;> (try rename_i hik; rw [hik] at hk; simp only [TKD] at hk)
    · obtain ⟨f, rfl, hf⟩ := hk
      subst hf
      obtain ⟨pl, h2, h⟩ := bind_ok h
      obtain ⟨L, h3, h⟩ := bind_ok h
      cases h
      have := compParts_ok hps h3
      rw [lenL_eq] at this
      refine ok_build (it := ii) (cells_of k5) (built_struct k1 k3 hd (places_ok hT h2)) ?_ H hr
      simpa using this
    · subst hk
      obtain ⟨j, h2, h⟩ := bind_ok h
      obtain ⟨L, h3, h⟩ := bind_ok h
      cases h
      obtain ⟨ji, jz, q1, q2, _⟩ := (hT _ _ h2).i
      have := compParts_ok hps h3
      rw [lenL_eq] at this
      refine ok_build (it := ii) (cells_of k5) (built_array k1 k3 hd q1) ?_ H hr
      rw [q2]; exact this
    · cases h
  case load t x =>
    obtain ⟨X, h1, h⟩ := bind_ok h; obtain ⟨i, h2, h⟩ := bind_ok h; obtain ⟨b, h3, h⟩ := bind_ok h
    obtain ⟨ii, z, k1, k2, k3, k4, k5, k6⟩ := (hT _ _ h2).i
    obtain ⟨d, hd, hk⟩ := (hT _ _ h2).d
    have ha := agg_ok hk h3
    have hx := mem _ (by simp [Op.operands]) X h1
    cases b with
    | true => cases h; rw [← k2] at hr; exact ok_loadN H hx hd ha k1 hr
    | false => cases h; exact ok_load1 H hx hd ha hr
  case nilCheck x => obtain ⟨X, h1, h⟩ := bind_ok h; cases h; exact ok_nilCheck H (mem _ (by simp [Op.operands]) X h1) hr
  case binOp b t x y t' =>
    obtain ⟨X, h1, h⟩ := bind_ok h; obtain ⟨Y, h2, h⟩ := bind_ok h; obtain ⟨r', h3, h⟩ := bind_ok h; cases h
    have hX := mem _ (by simp [Op.operands]) X h1
    have hY := mem _ (by simp [Op.operands]) Y h2
    exact ok_orc (xs := [X, Y]) hp.orc H (VRs.cons hX (VRs.cons hY VRs.nil)) hr fun hr => compBin_ok hT hp H hX hY h3 hr
  case unOp u t x =>
    obtain ⟨X, h1, h⟩ := bind_ok h
    have hx := mem _ (by simp [Op.operands]) X h1
    cases u <;> cases h
    · exact ok_neg H hx hr
    · exact ok_com H hx hr
    · exact ok_not H hx hr
  case convert t u x =>
    obtain ⟨X, h1, h⟩ := bind_ok h; obtain ⟨i, h2, h⟩ := bind_ok h; obtain ⟨j, h3, h⟩ := bind_ok h
    have hx := mem _ (by simp [Op.operands]) X h1
    obtain ⟨d, hd, hk⟩ := (hT _ _ h2).d
    obtain ⟨d', hd', hk'⟩ := (hT _ _ h3).d
    split at h <;> (try rename_i hik; rw [hik] at hk'; simp only [TKD] at hk')
    · cases h; subst hk'; exact ok_orc (xs := [X]) hp.orc H (VRs.cons hx VRs.nil) hr fun hr => ok_convInt H hx hd hd' hr
    · subst hk'
      split at h
      · rename_i e hik2
        rw [hik2] at hk
        simp only [TKD] at hk
        subst hk
        obtain ⟨ei, h4, h⟩ := bind_ok h
        obtain ⟨d2, hd2, hk2⟩ := (hT _ _ h4).d
        split at h
        · rename_i hik3
          rw [hik3] at hk2
          simp only [TKD] at hk2
          subst hk2
          cases h
          exact ok_bytesS H hx hd hd2 hd' hr
        · cases h
      · cases h; exact ok_convStr H hx hd hd' hr
    · cases h
  case makeInterface t x =>
    obtain ⟨X, h1, h⟩ := bind_ok h; obtain ⟨i, h2, h⟩ := bind_ok h
    obtain ⟨d, hd, hk⟩ := (hT _ _ h2).d
    split at h
    · rename_i hni; cases h; exact ok_iface hd (notIface_ok hk hni) H (mem _ (by simp [Op.operands]) X h1) hr
    · cases h
  case makeFunc fn x y =>
    obtain ⟨A, h1, h⟩ := bind_ok h; obtain ⟨B, h2, h⟩ := bind_ok h; cases h
    exact ok_func H (compOpds_ok (fun z hz => mem z (by simp only [Op.operands]; exact Array.mem_append.2 (.inl (by simpa using hz)))) h1)
      (compOpds_ok (fun z hz => mem z (by simp only [Op.operands]; exact Array.mem_append.2 (.inr (by simpa using hz)))) h2) hr
  case slice t x lo hi mx =>
    cases mx with
    | some m =>
      cases hi with
      | none => cases h
      | some hi =>
        obtain ⟨X, h1, h⟩ := bind_ok h; obtain ⟨LO, h2, h⟩ := bind_ok h; obtain ⟨HI, h3, h⟩ := bind_ok h; obtain ⟨MX, h4, h⟩ := bind_ok h; obtain ⟨i, h5, h⟩ := bind_ok h
        obtain ⟨d, hd, hk⟩ := (hT _ _ h5).d
        have hx := mem _ (by simp [Op.operands]) X h1
        have hlo := compOpt_ok (fun y hy => mem y (by subst hy; simp [Op.operands])) h2
        have hhi := mem hi (by simp [Op.operands]) HI h3
        have hmx := mem m (by simp [Op.operands]) MX h4
        split at h <;> (try rename_i hik; rw [hik] at hk; simp only [TKD] at hk)
        · subst hk
          obtain ⟨j, h6, h⟩ := bind_ok h
          obtain ⟨ji, jz, k1, k2, k3, k4, k5, k6⟩ := (hT _ _ h6).i
          split at h
          · cases h
          · rename_i hz
            cases h
            rw [← k2] at hr
            exact ok_slice3 H hx hlo hhi hmx hd k1 (by rw [k2]; exact (by simpa using hz)) hr
        · cases h
    | none =>
      obtain ⟨X, h1, h⟩ := bind_ok h; obtain ⟨LO, h2, h⟩ := bind_ok h; obtain ⟨HI, h3, h⟩ := bind_ok h; obtain ⟨i, h4, h⟩ := bind_ok h
      obtain ⟨d, hd, hk⟩ := (hT _ _ h4).d
      have hx := mem _ (by simp [Op.operands]) X h1
      have hlo := compOpt_ok (fun y hy => mem y (by subst hy; simp [Op.operands])) h2
      have hhi := compOpt_ok (fun y hy => mem y (by subst hy; simp [Op.operands])) h3
      split at h <;> (try rename_i hik; rw [hik] at hk; simp only [TKD] at hk)
      · cases h; subst hk; exact ok_sliceStr (sz := 0) H hx hlo hhi hd hr
      · subst hk
        obtain ⟨j, h5, h⟩ := bind_ok h
        obtain ⟨ji, jz, k1, k2, k3, k4, k5, k6⟩ := (hT _ _ h5).i
        cases h
        rw [← k2] at hr
        exact ok_sliceA H hx hlo hhi hd k1 hr
      · cases h
  case fieldAddr t x n =>
    obtain ⟨X, h1, h⟩ := bind_ok h; obtain ⟨i, h2, h⟩ := bind_ok h
    obtain ⟨d, hd, hk⟩ := (hT _ _ h2).d
    split at h <;> (try rename_i hik; rw [hik] at hk; simp only [TKD] at hk)
    · obtain ⟨f, rfl, hf⟩ := hk
      subst hf
      obtain ⟨q, h3, h⟩ := bind_ok h
      obtain ⟨j, h4, h⟩ := bind_ok h
      rw [List.getElem?_map, Option.map_eq_some_iff] at h3
      obtain ⟨g, hg, rfl⟩ := h3
      obtain ⟨ji, jz, k1, k2, k3, k4, k5, k6⟩ := (hT _ _ h4).i
      split at h
      · cases h
      · rename_i hz
        cases h
        exact ok_fieldAddr H (mem _ (by simp [Op.operands]) X h1) hd (by simpa using hg) k1 (by rw [k2]; exact (by simpa using hz)) hr
    · cases h
  case field t x n =>
    obtain ⟨X, h1, h⟩ := bind_ok h; obtain ⟨i, h2, h⟩ := bind_ok h
    obtain ⟨d, hd, hk⟩ := (hT _ _ h2).d
    split at h <;> (try rename_i hik; rw [hik] at hk; simp only [TKD] at hk)
    · obtain ⟨f, rfl, hf⟩ := hk
      subst hf
      obtain ⟨q, h3, h⟩ := bind_ok h
      obtain ⟨j, h4, h⟩ := bind_ok h
      obtain ⟨b, h5, h⟩ := bind_ok h
      rw [List.getElem?_map, Option.map_eq_some_iff] at h3
      obtain ⟨g, hg, rfl⟩ := h3
      obtain ⟨ji, jz, k1, k2, k3, k4, k5, k6⟩ := (hT _ _ h4).i
      obtain ⟨d', hd', hk'⟩ := (hT _ _ h4).d
      have ha := agg_ok hk' h5
      cases b with
      | true => cases h; rw [← k2] at hr; exact ok_fieldN H (mem _ (by simp [Op.operands]) X h1) hd (by simpa using hg) hd' ha k1 hr
      | false => cases h; exact ok_field1 H (mem _ (by simp [Op.operands]) X h1) hd (by simpa using hg) hd' ha hr
    · cases h
  case indexAddr t x y =>
    obtain ⟨X, h1, h⟩ := bind_ok h; obtain ⟨Y, h2, h⟩ := bind_ok h; obtain ⟨i, h3, h⟩ := bind_ok h
    obtain ⟨d, hd, hk⟩ := (hT _ _ h3).d
    have hx := mem _ (by simp [Op.operands]) X h1
    have hy := mem _ (by simp [Op.operands]) Y h2
    split at h <;> (try rename_i hik; rw [hik] at hk; simp only [TKD] at hk)
    · subst hk
      obtain ⟨j, h4, h⟩ := bind_ok h
      cases h
      obtain ⟨ji, jz, k1, k2, _⟩ := (hT _ _ h4).i
      rw [← k2] at hr
      exact ok_indexAddr H hx hy hd k1 hr
    · subst hk
      obtain ⟨j, h4, h⟩ := bind_ok h
      cases h
      obtain ⟨ji, jz, k1, k2, _⟩ := (hT _ _ h4).i
      rw [← k2] at hr
      exact ok_indexAddrA H hx hy hd k1 hr
    · cases h
  case index t x y =>
    obtain ⟨X, h1, h⟩ := bind_ok h; obtain ⟨Y, h2, h⟩ := bind_ok h; obtain ⟨i, h3, h⟩ := bind_ok h
    obtain ⟨d, hd, hk⟩ := (hT _ _ h3).d
    have hx := mem _ (by simp [Op.operands]) X h1
    have hy := mem _ (by simp [Op.operands]) Y h2
    split at h <;> (try rename_i hik; rw [hik] at hk; simp only [TKD] at hk)
    · cases h; subst hk; exact ok_indexStr H hx hy hd hr
    · subst hk
      obtain ⟨j, h4, h⟩ := bind_ok h
      obtain ⟨b, h5, h⟩ := bind_ok h
      cases h
      obtain ⟨ji, jz, k1, k2, _⟩ := (hT _ _ h4).i
      obtain ⟨d', hd', hk'⟩ := (hT _ _ h4).d
      have ha := agg_ok hk' h5
      rw [← k2] at hr
      cases b with
      | true => exact ok_indexArrN H hx hy hd k1 hd' ha hr
      | false => exact ok_indexArr1 H hx hy hd k1 hd' ha hr
    · cases h
  case lookup t m k ok =>
    obtain ⟨M, h1, h⟩ := bind_ok h; obtain ⟨X, h2, h⟩ := bind_ok h; obtain ⟨i, h3, h⟩ := bind_ok h
    obtain ⟨d, hd, hk⟩ := (hT _ _ h3).d
    split at h <;> (try rename_i hik; rw [hik] at hk; simp only [TKD] at hk)
    · subst hk
      obtain ⟨b, h4, h⟩ := bind_ok h; obtain ⟨c, h5, h⟩ := bind_ok h; obtain ⟨kf, h6, h⟩ := bind_ok h; cases h
      obtain ⟨d', hd', hk'⟩ := (hT _ _ h4).d
      obtain ⟨ji, jz, k1, k2, k3, k4, k5, k6⟩ := (hT _ _ h5).i
      exact ok_lookup hd hd' (keyOf_ok hT hd' hk' h6) k1 k3 k5 H (mem _ (by simp [Op.operands]) M h1) (mem _ (by simp [Op.operands]) X h2) hr
    · cases h
  case extract x i => obtain ⟨X, h1, h⟩ := bind_ok h; cases h; exact ok_extract H (mem _ (by simp [Op.operands]) X h1) hr
  case sliceToArrayPointer t x =>
    obtain ⟨X, h1, h⟩ := bind_ok h; obtain ⟨i, h2, h⟩ := bind_ok h
    obtain ⟨d, hd, hk⟩ := (hT _ _ h2).d
    split at h <;> (try rename_i hik; rw [hik] at hk; simp only [TKD] at hk)
    · cases h; subst hk; exact ok_s2ap H (mem _ (by simp [Op.operands]) X h1) hd hr
    · cases h
  case entry x => obtain ⟨X, h1, h⟩ := bind_ok h; cases h; exact (orR_ok hr).elim (ok_entry H (mem _ (by simp [Op.operands]) X h1)) (ok_entryR H (mem _ (by simp [Op.operands]) X h1))
  case typeAssert x t u ok =>
    obtain ⟨X, h1, h⟩ := bind_ok h; cases h
    exact ok_orc (xs := [X]) hp.orc H (VRs.cons (mem _ (by simp [Op.operands]) X h1) VRs.nil) hr fun hr => by cases hr
  case call c =>
    obtain ⟨callee, args, ts⟩ := c
    cases callee with
    | builtin b =>
      obtain ⟨r', h1, h⟩ := bind_ok h; obtain ⟨A, h2, h⟩ := bind_ok h; cases h
      have hm : ∀ x ∈ args.toList, ∀ X, opd ng cst x = some X → VR K σ (X.ev s.tmps) (a.eval x) := fun x hx => mem x (by simp only [Op.operands, Call.operands]; simpa using hx)
      exact ok_orc hp.orc H (evL_VRs (s := s) A args.toList (compOpds_ok hm h2)) hr fun hr => compBStill_ok hT H hm h1 hr
    | _ => cases h
theorem compNew_ok {op : Op} {r : Run} {dst : Option Tmp} (hT : TOK P T) (hp : POK P K ptrs) (h : compNew ng cst T (dP dst) op = some r) (ty : TypeId) (pos : String) (af : Array Edge) (gd : Option (Nat × Bool))
    {own : Owns} {a : Act} {w : World} {s s' : St} {call : Caller} (ho : OR K ng cst σ s.tmps a.eval ⟨dst, op, ty, pos, af, gd⟩) (H : HR K σ own s.heap w) (hr : r call s = .ok s') : NewR P K σ ⟨dst, op, ty, pos, af, gd⟩ a.eval w s s' := by
  have mem : ∀ x ∈ op.operands, ∀ X, opd ng cst x = some X → VR K σ (X.ev s.tmps) (a.eval x) := ho
  cases op <;> simp only [compNew] at h <;> try (cases h; done)
  case alloc e =>
    obtain ⟨i, h1, h⟩ := bind_ok h; cases h
    obtain ⟨ii, z, k1, k2, k3, k4, k5, k6⟩ := (hT _ _ h1).i
    exact ok_alloc k1 k3 (cells_of k5) hr
  case box e x => obtain ⟨X, h1, h⟩ := bind_ok h; cases h; exact ok_box (mem _ (by simp [Op.operands]) X h1) hr
  case buildSlice t len ps =>
    obtain ⟨i, h1, h⟩ := bind_ok h
    obtain ⟨d, hd, hk⟩ := (hT _ _ h1).d
    have hps : ∀ p ∈ ps.toList, ∀ X, opd ng cst p.2 = some X → VR K σ (X.ev s.tmps) (a.eval p.2) := fun p hp => mem p.2 (by simp only [Op.operands]; simp; exact ⟨p.1, by simpa using hp⟩)
    split at h <;> (try rename_i hik; rw [hik] at hk; simp only [TKD] at hk)
    · subst hk
      obtain ⟨j, h2, h⟩ := bind_ok h
      obtain ⟨ji, jz, k1, k2, k3, k4, k5, k6⟩ := (hT _ _ h2).i
      split at h
      · cases h
      · rename_i hz
        split at h
        · rename_i hle
          obtain ⟨L, h3, h⟩ := bind_ok h
          cases h
          have := compParts_ok hps h3
          rw [← k2] at this hr k6
          refine ok_buildSlice hd k1 k3 (cells_of k5) k6 (by rw [k2]; exact (by simpa using hz)) ?_ this hr
          rw [k2]; exact Nat.le_of_ble_eq_true hle
        · cases h
    · cases h
theorem compEff_ok {op : Op} {r : Run} {dst : Option Tmp} (hT : TOK P T) (hp : POK P K ptrs) (h : compEff ng cst T (dP dst) op = some r) (ty : TypeId) (pos : String) (af : Array Edge) (gd : Option (Nat × Bool))
    {own : Owns} {a : Act} {w : World} {s s' : St} {call : Caller} (ho : OR K ng cst σ s.tmps a.eval ⟨dst, op, ty, pos, af, gd⟩) (H : HR K σ own s.heap w) (hr : r call s = .ok s') : Res P K σ own ⟨dst, op, ty, pos, af, gd⟩ a.eval w s s' := by
  have mem : ∀ x ∈ op.operands, ∀ X, opd ng cst x = some X → VR K σ (X.ev s.tmps) (a.eval x) := ho
  cases op <;> simp only [compEff] at h <;> try (cases h; done)
  case store t x y =>
    obtain ⟨X, h1, h⟩ := bind_ok h; obtain ⟨Y, h2, h⟩ := bind_ok h; obtain ⟨i, h3, h⟩ := bind_ok h; cases h
    obtain ⟨ii, z, k1, k2, k3, k4, k5, k6⟩ := (hT _ _ h3).i
    rw [← k2] at hr
    exact ok_store H (mem _ (by simp [Op.operands]) X h1) (mem _ (by simp [Op.operands]) Y h2) k1 hr
  case makeMap t m =>
    cases m with
    | none => cases h; exact ok_makeMap H hr
    | some m => cases h
  case makeSlice t x y =>
    obtain ⟨X, h1, h⟩ := bind_ok h; obtain ⟨Y, h2, h⟩ := bind_ok h; obtain ⟨i, h3, h⟩ := bind_ok h
    obtain ⟨d, hd, hk⟩ := (hT _ _ h3).d
    split at h <;> (try rename_i hik; rw [hik] at hk; simp only [TKD] at hk)
    · subst hk
      obtain ⟨j, h4, h⟩ := bind_ok h
      obtain ⟨ji, jz, k1, k2, k3, k4, k5, k6⟩ := (hT _ _ h4).i
      split at h
      · cases h
      · rename_i hz
        cases h
        rw [← k2] at hr k6
        exact ok_makeSlice hd k1 k3 (cells_of k5) k6 k4 (by rw [k2]; exact (by simpa using hz)) H (mem _ (by simp [Op.operands]) X h1) (mem _ (by simp [Op.operands]) Y h2) hr
    · cases h
  case slice t x lo hi mx =>
    cases mx with
    | some m => cases h
    | none =>
      obtain ⟨X, h1, h⟩ := bind_ok h; obtain ⟨LO, h2, h⟩ := bind_ok h; obtain ⟨HI, h3, h⟩ := bind_ok h; obtain ⟨i, h4, h⟩ := bind_ok h
      obtain ⟨d, hd, hk⟩ := (hT _ _ h4).d
      have hx := mem _ (by simp [Op.operands]) X h1
      have hlo := compOpt_ok (fun y hy => mem y (by subst hy; simp [Op.operands])) h2
      have hhi := compOpt_ok (fun y hy => mem y (by subst hy; simp [Op.operands])) h3
      split at h <;> (try rename_i hik; rw [hik] at hk; simp only [TKD] at hk)
      · subst hk
        obtain ⟨j, h5, h⟩ := bind_ok h
        obtain ⟨ji, jz, k1, k2, k3, k4, k5, k6⟩ := (hT _ _ h5).i
        split at h
        · cases h
        · rename_i hz
          cases h
          rw [← k2] at hr
          exact (orR_ok hr).elim (ok_slice H hx hlo hhi hd k1 (by rw [k2]; exact (by simpa using hz))) (fun hr => (ok_sliceC H hx hlo hhi hd k1 hr).res H)
      · cases h
  case mapEntry t m k =>
    obtain ⟨M, h1, h⟩ := bind_ok h; obtain ⟨X, h2, h⟩ := bind_ok h; obtain ⟨i, h4, h⟩ := bind_ok h
    obtain ⟨d, hd, hk⟩ := (hT _ _ h4).d
    split at h <;> (try rename_i hik; rw [hik] at hk; simp only [TKD] at hk)
    · subst hk
      obtain ⟨a, h5, h⟩ := bind_ok h; obtain ⟨b, h6, h⟩ := bind_ok h; obtain ⟨kf, h7, h⟩ := bind_ok h; cases h
      obtain ⟨d', hd', hk'⟩ := (hT _ _ h5).d
      obtain ⟨ii, z, k1, k2, k3, k4, k5, k6⟩ := (hT _ _ h6).i
      exact ok_mapEntry hd hd' (keyOf_ok hT hd' hk' h7) k1 k3 k5 H (mem _ (by simp [Op.operands]) M h1) (mem _ (by simp [Op.operands]) X h2) hr
    · cases h
  case entryStore t m n y =>
    obtain ⟨M, h1, h⟩ := bind_ok h; obtain ⟨N, h2, h⟩ := bind_ok h; obtain ⟨Y, h3, h⟩ := bind_ok h; cases h
    exact ok_entryStore H (mem _ (by simp [Op.operands]) M h1) (mem _ (by simp [Op.operands]) N h2) (mem _ (by simp [Op.operands]) Y h3) hr
  case mapUpdate t m k y =>
    obtain ⟨M, h1, h⟩ := bind_ok h; obtain ⟨X, h2, h⟩ := bind_ok h; obtain ⟨Y, h3, h⟩ := bind_ok h; obtain ⟨i, h4, h⟩ := bind_ok h
    obtain ⟨d, hd, hk⟩ := (hT _ _ h4).d
    split at h <;> (try rename_i hik; rw [hik] at hk; simp only [TKD] at hk)
    · subst hk
      obtain ⟨b, h5, h⟩ := bind_ok h; obtain ⟨kf, h6, h⟩ := bind_ok h; cases h
      obtain ⟨d', hd', hk'⟩ := (hT _ _ h5).d
      exact ok_mapUpdate (.inl rfl) hd hd' (keyOf_ok hT hd' hk' h6) H (mem _ (by simp [Op.operands]) M h1) (mem _ (by simp [Op.operands]) X h2) (mem _ (by simp [Op.operands]) Y h3) hr
    · cases h
  case insert t m k y =>
    obtain ⟨M, h1, h⟩ := bind_ok h; obtain ⟨X, h2, h⟩ := bind_ok h; obtain ⟨Y, h3, h⟩ := bind_ok h; obtain ⟨i, h4, h⟩ := bind_ok h
    obtain ⟨d, hd, hk⟩ := (hT _ _ h4).d
    split at h <;> (try rename_i hik; rw [hik] at hk; simp only [TKD] at hk)
    · subst hk
      obtain ⟨b, h5, h⟩ := bind_ok h; obtain ⟨kf, h6, h⟩ := bind_ok h; cases h
      obtain ⟨d', hd', hk'⟩ := (hT _ _ h5).d
      exact ok_mapUpdate (.inr rfl) hd hd' (keyOf_ok hT hd' hk' h6) H (mem _ (by simp [Op.operands]) M h1) (mem _ (by simp [Op.operands]) X h2) (mem _ (by simp [Op.operands]) Y h3) hr
    · cases h
  case convert t u x =>
    obtain ⟨X, h1, h⟩ := bind_ok h; obtain ⟨i, h2, h⟩ := bind_ok h
    obtain ⟨d, hd, hk⟩ := (hT _ _ h2).d
    split at h <;> (try rename_i hik; rw [hik] at hk; simp only [TKD] at hk)
    · subst hk
      obtain ⟨ei, h4, h⟩ := bind_ok h
      obtain ⟨d2, hd2, hk2⟩ := (hT _ _ h4).d
      split at h
      · rename_i hik3
        rw [hik3] at hk2
        simp only [TKD] at hk2
        subst hk2
        split at h
        · rename_i htu
          cases h
          obtain rfl := Nat.eq_of_beq_eq_true (by simpa using htu)
          exact ok_convSl H (mem _ (by simp [Op.operands]) X h1) hd hd2 hr
        · cases h
      · cases h
    · subst hk
      obtain ⟨j, h3, h⟩ := bind_ok h
      obtain ⟨d3, hd3, hk3⟩ := (hT _ _ h3).d
      split at h
      · rename_i hik3
        rw [hik3] at hk3
        simp only [TKD] at hk3
        subst hk3
        obtain ⟨ei, h4, h⟩ := bind_ok h
        obtain ⟨d2, hd2, hk2⟩ := (hT _ _ h4).d
        split at h
        · rename_i hik4
          rw [hik4] at hk2
          simp only [TKD] at hk2
          subst hk2
          cases h
          exact ok_strB H (mem _ (by simp [Op.operands]) X h1) hd hd3 hd2 hr
        · cases h
      · cases h
    · cases h
  case range t x =>
    obtain ⟨X, h1, h⟩ := bind_ok h
    obtain ⟨i, h2, h⟩ := bind_ok h
    obtain ⟨d, hd, hk⟩ := (hT _ _ h2).d
    split at h <;> (try rename_i hik; rw [hik] at hk; simp only [TKD] at hk)
    · cases h; subst hk; exact (orR_ok hr).elim (ok_rangeM H hd (mem _ (by simp [Op.operands]) X h1)) (ok_rangeR H hd (mem _ (by simp [Op.operands]) X h1))
    · cases h
  case call c =>
    obtain ⟨callee, args, ts⟩ := c
    cases callee with
    | builtin b => exact compBEff_ok hT H (fun x hx => mem x (by simp only [Op.operands, Call.operands]; simpa using hx)) h hr
    | _ => cases h
theorem compPure_nd {op : Op} {r : Run} {dst : Option Tmp} {ty : TypeId} {pos : String} {af : Array Edge} {gd : Option (Nat × Bool)} (h : compPure ng cst T ptrs (dP dst) op = some r) : NoDefer ⟨dst, op, ty, pos, af, gd⟩ := fun c e => by
  have e : op = .defer c := e
  subst e
  simp [compPure, compStill, compNew, compEff] at h
theorem compPure_ok {op : Op} {r : Run} {dst : Option Tmp} (hT : TOK P T) (hp : POK P K ptrs) (h : compPure ng cst T ptrs (dP dst) op = some r) (ty : TypeId) (pos : String) (af : Array Edge) (gd : Option (Nat × Bool)) :
    OpOK P K ng cst ⟨dst, op, ty, pos, af, gd⟩ (pureR r) := by
  refine OpOK.of_pure (compPure_nd h) fun σ own a w s s' call ho H hr => ?_
  unfold compPure at h
  cases h1 : compStill ng cst T ptrs (dP dst) op with
  | some r' => rw [h1] at h; cases h; exact (compStill_ok hT hp h1 ty pos af gd ho H hr).res H
  | none =>
    rw [h1] at h
    cases h2 : compNew ng cst T (dP dst) op with
    | some r' => rw [h2] at h; cases h; exact (compNew_ok hT hp h2 ty pos af gd ho H hr).res H
    | none => rw [h2] at h; exact compEff_ok hT hp h ty pos af gd ho H hr
end
end
end Go.Eng
