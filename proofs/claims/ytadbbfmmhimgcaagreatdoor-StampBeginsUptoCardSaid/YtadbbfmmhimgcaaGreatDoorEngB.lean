/- A verified symbolic executor of the model's code, second part: code, functions, regions whose order is drawn, calls with contracts. No conditions of its own. -/
import Derived.Test.YtadbbfmmhimgcaaGreatDoorEngA
import Derived.MapKept
import Derived.Carry
import Derived.Orders
import Derived.Lib.Join
set_option linter.unusedVariables false
namespace Go.Eng
open Go.RowKit

section
variable {P : Program} {K : Ctx} {σ : Env} {own : Owns} {w : World} {s s' : St} {ρ : Operand → Value} {o : Oper} {h : AHeap}
variable {dst : Option Tmp} {ty : TypeId} {pos : String} {af : Array Edge} {gd : Option (Nat × Bool)} {call : Caller}
variable {x y : Operand} {X Y : Opd} {t t' u : TypeId}

theorem HR.drew (H : HR K σ own h w) : HR K σ own h w.drew :=
  ⟨H.fresh, fun b l hl => ObjR.frame (w := w) (w' := w.drew) (Env.le.refl σ) rfl rfl (Nat.le_refl _) (H.obj b l hl), H.grp, H.below.drew, H.base, H.owned⟩
theorem Env.add_same' {σ : Env} {p q : Pos} {l : Loc} (h : p = q) : (σ.add q l) p = some l := by subst h; exact Env.add_same _ _ _
theorem allCell_mem : ∀ {l : List AV}, allCell l = true → ∀ x ∈ l, x.isCell = true
  | [], _, x, hx => by cases hx
  | y :: l, h, x, hx => by
    obtain ⟨h1, h2⟩ : y.isCell = true ∧ allCell l = true := by
      have h' : ifb y.isCell (allCell l) false = true := h
      cases hy : y.isCell with
      | false => rw [hy] at h'; cases h'
      | true => rw [hy] at h'; exact ⟨rfl, h'⟩
    rcases List.mem_cons.1 hx with e | e
    · subst e; exact h1
    · exact allCell_mem h2 x e
theorem oneCell_of {v : Value} (h1 : ∀ c, v ≠ .agg c) (h2 : ∀ c, v ≠ .tuple c) : v.oneCell' = true := by
  cases v <;> first | rfl | exact absurd rfl (h1 _) | exact absurd rfl (h2 _)
theorem VRs.oneCell {l : List AV} : ∀ {m : List Value}, VRs K σ l m → (∀ x ∈ l, x.isCell = true) → ∀ v ∈ m, v.oneCell' = true := by
  induction l with
  | nil => intro m h _ v hv; simp only [VRs] at h; subst h; cases hv
  | cons x l ih =>
    intro m h hc v hv
    obtain ⟨y, ys, rfl, hx, hs⟩ := h
    rcases List.mem_cons.1 hv with e | e
    · subst e
      obtain ⟨n1, n2⟩ := hx.isCell (hc x List.mem_cons_self)
      exact oneCell_of n1 n2
    · exact ih hs (fun z hz => hc z (List.mem_cons_of_mem _ hz)) v e
theorem setCells_heap (b : Nat) : ∀ (vs : List Value) (o : Nat) (w : World) (k : Nat), k ≠ b → (w.setCells b o vs).heap[k]? = w.heap[k]?
  | [], _, _, _, _ => rfl
  | v :: vs, o, w, k, h => by
    rw [World.setCells, setCells_heap b vs _ _ k h, Below.heap_setCell _ _ _ _ h]
theorem setCells_size (b : Nat) : ∀ (vs : List Value) (o : Nat) (w : World), (w.setCells b o vs).heap.size = w.heap.size
  | [], _, _ => rfl
  | v :: vs, o, w => by rw [World.setCells, setCells_size b vs]; simp
theorem setCells_below {B : Nat} {w0 : World} (b : Nat) (hb : B ≤ b) : ∀ (vs : List Value) (o : Nat) (w : World), Below B w0 w → Below B w0 (w.setCells b o vs)
  | [], _, _, h => h
  | v :: vs, o, w, h => setCells_below b hb vs _ _ (h.setCell hb v)

/-- the block alone in its group -/
theorem HR.alone (H : HR K σ own h w) {b : Pos} {g : Option Pos} {r : Row} (hg : h.get b = some (.cells g false r)) :
    HR K σ own (h.alone b g) w ∧ (h.alone b g).get b = some (.cells g false r) ∧ Sole (h.alone b g) b g ∧ (h.alone b g).next = h.next := by
  cases g with
  | none => exact ⟨H, hg, Sole.none _ _, rfl⟩
  | some p => exact ⟨H.lone b p, by show (h.lone b p).get b = _; rw [AHeap.get_lone, if_neg (by simp)]; exact hg, AHeap.lone_sole H b p, rfl⟩

/-- an append of which it is not known whether there is room: over the first cells of a block -/
theorem append_any {b : Pos} {loc : Loc} (H : HR K σ own s.heap w) (hb : σ b = some loc) {g : Option Pos} {r : Row} (hg : s.heap.get b = some (.cells g false r))
    {e : TypeId} {i : TypeInfo} {z : Value} (ht : P.underlying t = some (.slice e)) (hu : IsSrc P u) (hi : P.info? e = some i) (hz : i.zero = some z) (hzs : z.cells.size = i.size) (h0 : i.size ≠ 0) (hby : i.bytes ≤ 16777216)
    {off len n : Nat} {v : Value} {cs : Array Value} {l pre old : List AV} (S : SrcOK P w i.size v n n cs) (hl : VRs K σ l cs.toList) (hn : l.length = n * i.size)
    (hpre : r.cut off (len * i.size) = some pre) (hold : r.cut 0 (off + len * i.size) = some old) (hbig : len + n ≤ 1048576) (hcell : allCell l = true) (hn0 : 0 < len + n)
    (hx : ρ x = .slice (some ⟨loc.B, loc.o + off, none⟩) len ((loc.C - off) / i.size)) (hy : ρ y = v)
    (hs : setDH (dP dst) (.slice s.heap.next 0 (len + n) i.size) s ((s.heap.alone b g).beside b g (mkRow old) (mkRow (appL pre l))) = .ok s') :
    Res P K σ own ⟨dst, .call ⟨.builtin .append, #[x, y], #[t, u]⟩, ty, pos, af, gd⟩ ρ w s s' := by
  obtain ⟨s1, s2⟩ := setDH_ok hs
  obtain ⟨H1, hg1, hS, hnx⟩ := H.alone hg
  have R := H.row hb hg
  have hO := H.obj b loc hb
  rw [hg] at hO
  obtain ⟨-, O2, O3, -⟩ := hO
  obtain ⟨O4, O5⟩ := O3 rfl
  obtain ⟨p1, p2, p3⟩ := Row.cut_spec R.wf hpre
  obtain ⟨q1, q2, q3⟩ := Row.cut_spec R.wf hold
  have hfit : off + len * i.size ≤ loc.C := by
    have := R.cap
    rcases q2 with q2 | q2 <;> omega
  obtain ⟨m1, m2, m3⟩ := mkRow_spec old
  obtain ⟨n1, n2, n3⟩ := mkRow_spec (appL pre l)
  have hsz : (appL pre l).length = (len + n) * i.size := by rw [appL_eq, List.length_append, p1, hn, Nat.add_mul]
  have hcsl : cs.toList.length = n * i.size := by rw [hl.length, hn]
  have hcss : cs.size = n * i.size := by simpa using hcsl
  have hget : ∀ j, j < off + len * i.size → ∀ xv, old[j]? = some xv → ∃ vc, w.cell? ⟨loc.B, loc.o + j, none⟩ = some vc ∧ VR K σ xv vc := fun j hj xv hxv => by
    rw [q3 j hj, Nat.zero_add] at hxv
    exact R.val j xv hxv
  have happ : ∀ j xv, (appL pre l)[j]? = some xv → (j < len * i.size ∧ ∃ vc, w.cell? ⟨loc.B, loc.o + off + j, none⟩ = some vc ∧ VR K σ xv vc) ∨
      (len * i.size ≤ j ∧ j - len * i.size < n * i.size ∧ ∃ vc, cs.toList[j - len * i.size]? = some vc ∧ VR K σ xv vc) := fun j xv hxv => by
    rw [appL_eq] at hxv
    by_cases hj : j < len * i.size
    · left
      rw [List.getElem?_append_left (by rw [p1]; exact hj), p3 j hj] at hxv
      obtain ⟨vc, c1, c2⟩ := R.val _ _ hxv
      exact ⟨hj, vc, by rw [Nat.add_assoc]; exact c1, c2⟩
    · right
      rw [List.getElem?_append_right (by rw [p1]; omega), p1] at hxv
      have hlt := (List.getElem?_eq_some_iff.1 hxv).1
      exact ⟨by omega, by rw [← hn]; exact hlt, hl.get hxv⟩
  by_cases hroom : len + n ≤ (loc.C - off) / i.size
  · -- there is room
    have hC : off + (len + n) * i.size ≤ loc.C := by
      have := (Nat.le_div_iff_mul_le (Nat.pos_of_ne_zero h0)).1 hroom
      by_cases hc : off ≤ loc.C
      · omega
      · have : (loc.C - off) = 0 := by omega
        rw [this] at hroom; simp at hroom; omega
    rw [Nat.add_mul] at hC
    let w' := w.setCells loc.B (loc.o + off + len * i.size) cs.toList
    have hst : (storeCells ((⟨loc.B, loc.o + off, none⟩ : Addr).add (len * i.size)) cs.toList).run P w = .ok () w' := by
      have := run_storeCells_cells (P := P) loc.B (loc.o + off + len * i.size) cs.toList 0 w (fun j hj => by
        obtain ⟨vc, hvc⟩ := R.cell (off + len * i.size + j) (by omega)
        rw [show loc.o + off + len * i.size + 0 + j = loc.o + (off + len * i.size + j) by omega, hvc]; rfl) (fun j hj => by
        rw [show loc.o + off + len * i.size + 0 + j = loc.o + (off + len * i.size + j) by omega]
        exact O5 _ (by omega)) (hl.oneCell (allCell_mem hcell))
      rw [add_none]; exact this
    have hrun := run_append_in (P := P) (ty := ty) ht hu hi (a := ⟨loc.B, loc.o + off, none⟩) S hroom hst
    have hcell' : ∀ k, k < loc.C → ∃ vc, w'.cell? ⟨loc.B, loc.o + k, none⟩ = some vc := fun k hk => by
      by_cases hin : off + len * i.size ≤ k ∧ k < off + len * i.size + n * i.size
      · have := World.cell?_setCells_in loc.B cs.toList (loc.o + off + len * i.size) w (fun j hj => by
          obtain ⟨vc, hvc⟩ := R.cell (off + len * i.size + j) (by omega)
          rw [show loc.o + off + len * i.size + j = loc.o + (off + len * i.size + j) by omega, hvc]; rfl) (k - (off + len * i.size)) (by omega)
        exact ⟨_, by rw [show loc.o + k = loc.o + off + len * i.size + (k - (off + len * i.size)) by omega]; exact this⟩
      · obtain ⟨vc, hvc⟩ := R.cell k hk
        exact ⟨vc, by rw [World.cell?_setCells_out _ _ _ _ _ (fun _ _ => by simp only; omega)]; exact hvc⟩
    have hout : ∀ k, k < off + len * i.size → w'.cell? ⟨loc.B, loc.o + k, none⟩ = w.cell? ⟨loc.B, loc.o + k, none⟩ := fun k hk =>
      World.cell?_setCells_out _ _ _ _ _ (fun _ _ => by simp only; omega)
    have hle : σ.le (σ.add (s.heap.alone b g).next ⟨loc.B, loc.o + off, loc.C - off⟩) := Env.le_add _ (H1.fresh _ (Nat.le_refl _))
    have hH := H1.beside hb hg1 (r0 := mkRow old) (r' := mkRow (appL pre l)) (loc' := ⟨loc.B, loc.o + off, loc.C - off⟩) (w' := w') (own' := own.put loc.B (true, gOf (s.heap.alone b g) g)) (.inl hS)
      (setCells_below _ (H.owned _ _ O4).1 _ _ _ H.below) (by rw [setCells_size]; exact Nat.le_refl _) (fun B hB _ => setCells_heap _ _ _ _ _ hB) (fun B hB _ => Owns.put_other _ _ hB)
      (fun B tt hB => by
        rw [setCells_size]
        by_cases e : B = loc.B
        · rw [e]; exact H.owned _ _ O4
        · rw [Owns.put_other _ _ e] at hB; exact H.owned _ _ hB) (Owns.put_same _ _ _) (Owns.put_same _ _ _)
      ⟨m1, by rw [m2, q1]; exact hfit, hcell', fun j xv hxv => by
        rw [m3] at hxv
        have hj : j < off + len * i.size := by rw [← q1]; exact (List.getElem?_eq_some_iff.1 hxv).1
        obtain ⟨vc, c1, c2⟩ := hget j hj xv hxv
        exact ⟨vc, by rw [hout j hj]; exact c1, c2⟩⟩
      (fun j hj => by rw [World.frozen?_setCells]; exact O5 j hj)
      ⟨n1, by rw [n2, hsz, Nat.add_mul]; simp only; omega, fun j hj => by
        obtain ⟨vc, hvc⟩ := hcell' (off + j) (by simp only at hj; omega)
        exact ⟨vc, by simp only; rw [Nat.add_assoc]; exact hvc⟩, fun j xv hxv => by
        rw [n3] at hxv
        rcases happ j xv hxv with ⟨h1, vc, h2, h3⟩ | ⟨h1, h1', vc, h2, h3⟩
        · refine ⟨vc, ?_, h3.mono hle⟩
          simp only
          rw [Nat.add_assoc, hout (off + j) (by omega), ← Nat.add_assoc]; exact h2
        · refine ⟨vc, ?_, h3.mono hle⟩
          have := World.cell?_setCells_in loc.B cs.toList (loc.o + off + len * i.size) w (fun j hj => by
            obtain ⟨vc, hvc⟩ := R.cell (off + len * i.size + j) (by omega)
            rw [show loc.o + off + len * i.size + j = loc.o + (off + len * i.size + j) by omega, hvc]; rfl) (j - len * i.size) (by omega)
          simp only
          rw [show loc.o + off + j = loc.o + off + len * i.size + (j - len * i.size) by omega, this]
          rw [List.getElem?_eq_getElem (by omega)] at h2
          exact h2⟩
      (fun j hj => by simp only at hj ⊢; rw [World.frozen?_setCells, Nat.add_assoc]; exact O5 _ (by omega)) (by rw [setCells_size]; exact O2)
    refine ⟨.slice s.heap.next 0 (len + n) i.size, .slice (some ⟨loc.B, loc.o + off, none⟩) (len + n) ((loc.C - off) / i.size), _, _, w', .inl ?_, ⟨⟨loc.B, loc.o + off, loc.C - off⟩, Env.add_same' hnx.symm, by simp⟩, ?_, by rw [s2]; exact hH, s1⟩
    · simp [execOp, resolve, invoke, builtin, hx, hy, hrun]
    · rw [s2]
      have := Grow.add (h := s.heap.alone b g) (h' := (s.heap.alone b g).beside b g (mkRow old) (mkRow (appL pre l))) ⟨loc.B, loc.o + off, loc.C - off⟩ (H1.fresh _ (Nat.le_refl _)) (AHeap.next_beside _ _ _ _ _)
      exact ⟨this.le, fun c hc => this.keep c (by rw [hnx]; exact hc), by rw [← hnx]; exact this.next⟩
  · -- there is none: a new block
    obtain ⟨vs, v1, v2, v3⟩ := H.cut hb hg hpre
    have hfc : (Builtin.firstCells i.size len (.slice (some ⟨loc.B, loc.o + off, none⟩) len ((loc.C - off) / i.size))).run P w.drew = .ok vs.toArray w.drew := by
      have := run_loadCells_list (P := P) w.drew ⟨loc.B, loc.o + off, none⟩ vs (fun j u hj => v3 j u hj)
      rw [v1] at this
      exact this
    have hrun := run_append_out (P := P) (ty := ty) ht hu hi hz (base := some ⟨loc.B, loc.o + off, none⟩) (sLen := len) (sCap := (loc.C - off) / i.size) S (by omega) hfc hbig hby
    have hge := grownCap_ge w (len + n) ((loc.C - off) / i.size) e
    generalize grownCap w (len + n) ((loc.C - off) / i.size) e = cap at hrun hge
    let C := vs.toArray ++ cs ++ Builtin.zeroCells z.cells (cap - (len + n))
    have hCs : C.size = cap * i.size := by
      simp only [C, Array.size_append, List.size_toArray, v1, hcss, size_zeroCells, hzs, ← Nat.add_mul]
      congr 1; omega
    let w' := w.drew.alloc (.cells C e)
    have hle : σ.le (σ.add (s.heap.alone b g).next ⟨w.heap.size, 0, C.size⟩) := Env.le_add _ (H1.fresh _ (Nat.le_refl _))
    have hneB : w.heap.size ≠ loc.B := by omega
    have hH := H1.beside hb hg1 (r0 := mkRow old) (r' := mkRow (appL pre l)) (loc' := ⟨w.heap.size, 0, C.size⟩) (w' := w') (own' := (own.put loc.B (true, gOf (s.heap.alone b g) g)).put w.heap.size (true, gOf (s.heap.alone b g) g)) (.inl hS)
      (H.drew.below.alloc H.drew.base _) (by simp [w']) (fun B hB hlt => Below.heap_alloc _ _ _ hlt) (fun B hB hlt => by rw [Owns.put_other _ _ (by omega), Owns.put_other _ _ hB])
      (fun B tt hB => by
        by_cases e1 : B = w.heap.size
        · rw [e1]; exact ⟨H.base, by simp [w']⟩
        · rw [Owns.put_other _ _ e1] at hB
          by_cases e2 : B = loc.B
          · rw [e2]; exact ⟨(H.owned _ _ O4).1, by have := (H.owned _ _ O4).2; simp [w']; omega⟩
          · rw [Owns.put_other _ _ e2] at hB
            have := H.owned _ _ hB
            exact ⟨this.1, by simp [w']; omega⟩) (by rw [Owns.put_other _ _ (Ne.symm hneB), Owns.put_same]) (Owns.put_same _ _ _)
      (by
        have : RowR K σ w loc (mkRow old) := ⟨m1, by rw [m2, q1]; exact hfit, R.cell, fun j xv hxv => by
          rw [m3] at hxv
          have hj : j < off + len * i.size := by rw [← q1]; exact (List.getElem?_eq_some_iff.1 hxv).1
          exact hget j hj xv hxv⟩
        exact RowR.frame (w := w) (w' := w') (Below.heap_alloc w.drew _ _ O2) this)
      (fun j hj => by rw [World.frozen?_of_block (w := w) (Below.heap_alloc w.drew _ _ O2)]; exact O5 j hj)
      ⟨n1, by rw [n2, hsz]; simp only [hCs]; exact Nat.mul_le_mul_right _ hge, fun j hj => by
        simp only [Nat.zero_add]
        exact ⟨C[j], by rw [show w' = w.drew.alloc (.cells C e) from rfl, show w.heap.size = w.drew.heap.size from rfl, World.cell?_alloc_new]; exact Array.getElem?_eq_getElem hj⟩, fun j xv hxv => by
        rw [n3] at hxv
        simp only [Nat.zero_add]
        have hc : ∀ vc, C[j]? = some vc → w'.cell? ⟨w.heap.size, j, none⟩ = some vc := fun vc h => by
          rw [show w' = w.drew.alloc (.cells C e) from rfl, show w.heap.size = w.drew.heap.size from rfl, World.cell?_alloc_new]; exact h
        rcases happ j xv hxv with ⟨h1, vc, h2, h3⟩ | ⟨h1, h1', vc, h2, h3⟩
        · have hj2 : j < vs.length := by omega
          have := v3 j vs[j] (List.getElem?_eq_getElem hj2)
          rw [add_none, h2] at this
          cases this
          refine ⟨_, hc _ ?_, h3.mono hle⟩
          simp only [C]
          rw [Array.append_assoc, Array.getElem?_append_left (by simpa using hj2)]
          simp
        · refine ⟨vc, hc _ ?_, h3.mono hle⟩
          simp only [C]
          rw [Array.append_assoc, Array.getElem?_append_right (by simp [v1]; omega), Array.getElem?_append_left (by simp [v1, hcss]; omega)]
          simp only [List.size_toArray, v1]
          rw [← Array.getElem?_toList]; exact h2⟩
      (fun j hj => by
        simp only [Nat.zero_add]
        exact World.frozen?_alloc_new w.drew C e j) (by simp [w'])
    refine ⟨.slice s.heap.next 0 (len + n) i.size, .slice (some ⟨w.heap.size, 0, none⟩) (len + n) cap, _, _, w', .inl ?_, ⟨⟨w.heap.size, 0, C.size⟩, Env.add_same' hnx.symm, ?_⟩, ?_, by rw [s2]; exact hH, s1⟩
    · simp [execOp, resolve, invoke, builtin, hx, hy, hrun, w', C]
    · simp only [hCs, Nat.add_zero, Nat.sub_zero, Nat.mul_div_cancel _ (Nat.pos_of_ne_zero h0)]
    · rw [s2]
      have := Grow.add (h := s.heap.alone b g) (h' := (s.heap.alone b g).beside b g (mkRow old) (mkRow (appL pre l))) ⟨w.heap.size, 0, C.size⟩ (H1.fresh _ (Nat.le_refl _)) (AHeap.next_beside _ _ _ _ _)
      exact ⟨this.le, fun c hc => this.keep c (by rw [hnx]; exact hc), by rw [← hnx]; exact this.next⟩
end
end Go.Eng
set_option linter.unusedVariables false
namespace Go.Eng
open Go.RowKit

section
variable {P : Program} {K : Ctx} {σ : Env} {own : Owns} {w : World} {s s' : St} {ρ : Operand → Value} {o : Oper}
variable {dst : Option Tmp} {ty : TypeId} {pos : String} {af : Array Edge} {gd : Option (Nat × Bool)} {call : Caller}
variable {x y : Operand} {X Y : Opd} {t t' u : TypeId}

theorem ifb_false' {α : Type} (a b : α) : ifb false a b = b := rfl
theorem ifb_true' {α : Type} (a b : α) : ifb true a b = a := rfl
/-- new cells, once the world has drawn -/
theorem Res.grown (H : HR K σ own s.heap w) {l : List AV} {c : Array Value} {e : TypeId} {v : AV} {vc : Value} (hr : (execOp ρ o).run P w = .ok (.value vc) (w.drew.alloc (.cells c e)))
    (hc : l.length ≤ c.size) (hv : ∀ (i : Nat) (x : AV), l[i]? = some x → ∃ v, c[i]? = some v ∧ VR K σ x v)
    (hvc : VR K (σ.add s.heap.next ⟨w.heap.size, 0, c.size⟩) v vc)
    (hs : setDH (dP o.dst) v s (s.heap.new (.cells none false (mkRow l))) = .ok s') : Res P K σ own o ρ w s s' := by
  obtain ⟨h1, h2⟩ := setDH_ok hs
  refine ⟨v, vc, _, _, _, .inl hr, hvc, ?_, by rw [h2]; exact H.drew.newRow l c e hc hv, h1⟩
  rw [h2]
  exact Grow.add _ (H.fresh _ (Nat.le_refl _)) rfl

structure AppTy (P : Program) (t u e : TypeId) (i : TypeInfo) (z : Value) : Prop where
  under : P.underlying t = some (.slice e)
  src : IsSrc P u
  info : P.info? e = some i
  zero : i.zero = some z
  zsize : z.cells.size = i.size
  ne : i.size ≠ 0
  bytes : i.bytes ≤ 16777216

theorem append_new (H : HR K σ own s.heap w) {e : TypeId} {i : TypeInfo} {z : Value} (T : AppTy P t u e i z) {base : Option Addr} {n : Nat} {v : Value} {cs : Array Value} {l : List AV}
    (S : SrcOK P w i.size v n n cs) (hl : VRs K σ l cs.toList) (hn : l.length = n * i.size) (hbig : n ≤ 1048576) (hn0 : 0 < n)
    (hold : (Builtin.firstCells i.size 0 (.slice base 0 0)).run P w.drew = .ok #[] w.drew)
    (hx : ρ x = .slice base 0 0) (hy : ρ y = v)
    (hs : setDH (dP dst) (.slice s.heap.next 0 n i.size) s (s.heap.new (.cells none false (mkRow l))) = .ok s') :
    Res P K σ own ⟨dst, .call ⟨.builtin .append, #[x, y], #[t, u]⟩, ty, pos, af, gd⟩ ρ w s s' := by
  have hrun := run_append_out (P := P) (ty := ty) T.under T.src T.info T.zero (base := base) (sLen := 0) (sCap := 0) S (by omega) hold (by omega) T.bytes
  have hge := grownCap_ge w (0 + n) 0 e
  rw [Nat.zero_add] at hrun hge
  generalize grownCap w n 0 e = cap at hrun hge
  obtain ⟨r1, r2⟩ := hl.row
  have hcss : cs.size = n * i.size := by rw [← r1, hn]
  refine Res.grown H (o := ⟨dst, .call ⟨.builtin .append, #[x, y], #[t, u]⟩, ty, pos, af, gd⟩) (l := l) (vc := .slice (some ⟨w.heap.size, 0, none⟩) n cap) (c := #[] ++ cs ++ Builtin.zeroCells z.cells (cap - n)) (e := e) ?_ ?_ ?_ ?_ hs
  · simp [execOp, resolve, invoke, builtin, hx, hy, hrun]
  · simp [r1]
  · intro j xv hxv
    obtain ⟨vc, h1, h2⟩ := r2 j xv hxv
    refine ⟨vc, ?_, h2⟩
    have hlt : j < cs.size := (Array.getElem?_eq_some_iff.1 h1).1
    rw [Array.empty_append, Array.getElem?_append_left hlt]; exact h1
  · have hsz : (#[] ++ cs ++ Builtin.zeroCells z.cells (cap - n)).size = cap * i.size := by
      simp only [Array.size_append, List.size_toArray, List.length_nil, hcss, size_zeroCells, T.zsize, Nat.zero_add]
      rw [← Nat.add_mul]
      congr 1; omega
    have : VR K (σ.add s.heap.next ⟨w.heap.size, 0, (#[] ++ cs ++ Builtin.zeroCells z.cells (cap - n)).size⟩) (.slice s.heap.next 0 n i.size) (.slice (some ⟨w.heap.size, 0, none⟩) n ((#[] ++ cs ++ Builtin.zeroCells z.cells (cap - n)).size / i.size)) := VR.newSlice
    rw [hsz, Nat.mul_div_cancel _ (Nat.pos_of_ne_zero T.ne), ← hsz] at this
    exact this

theorem appendVal_ok (H : HR K σ own s.heap w) {e : TypeId} {i : TypeInfo} {z : Value} (T : AppTy P t u e i z) {n : Nat} {v : Value} {cs : Array Value} {l : List AV}
    (hx : VR K σ (X.ev s.tmps) (ρ x)) (hy : ρ y = v) (S : SrcOK P w i.size v n n cs) (hl : VRs K σ l cs.toList) (hn : l.length = n * i.size)
    (h : appendVal i.size (X.ev s.tmps) (dP dst) s n l = .ok s') :
    Res P K σ own ⟨dst, .call ⟨.builtin .append, #[x, y], #[t, u]⟩, ty, pos, af, gd⟩ ρ w s s' := by
  unfold appendVal at h
  rcases onSlice_ok h with ⟨e1, h⟩ | ⟨b, off, len, sz, e1, h⟩
  · rw [e1] at hx
    have hx' : ρ x = .slice none 0 0 := hx
    cases hb : Nat.beq n 0 with
    | true =>
      rw [hb] at h
      have := Nat.eq_of_beq_eq_true hb
      subst this
      have hcs : cs = #[] := by
        have h2 := hl.length
        rw [hn] at h2
        have : cs.size = 0 := by simpa using h2
        exact Array.eq_empty_of_size_eq_zero this
      refine Res.pure H (v := .nilSlice) (vc := .slice none 0 0) ?_ rfl h
      have h1 := S.len w
      have h2 := S.cells w rfl
      rw [hcs] at h2
      have : (Builtin.append_ #[t, u] ty #[.slice none 0 0, v]).run P w = .ok (.slice none 0 0) w := by
        rcases T.src with ⟨e', hu⟩ | hu
        · simp [Builtin.append_, run_underlying T.under, run_underlying hu, run_sizeOf T.info, h1, h2]
        · simp [Builtin.append_, run_underlying T.under, run_underlying hu, run_sizeOf T.info, h1, h2]
      simp [execOp, resolve, invoke, builtin, hx', hy, this]
    | false =>
      rw [hb] at h
      obtain ⟨h1, h2⟩ := ifb_ok h
      refine append_new H T S hl hn (Nat.le_of_ble_eq_true h1) (Nat.pos_of_ne_zero fun e => by subst e; cases hb) ?_ hx' hy h2
      simp [Builtin.firstCells]
  · obtain ⟨hsz, h5⟩ := ifb_ok h
    have := Nat.eq_of_beq_eq_true hsz; subst this
    rw [e1] at hx
    obtain ⟨loc, hl0, hp⟩ := hx
    unfold appendTo at h5
    clear h
    obtain ⟨g, ro, r, hg, h⟩ := onRow_ok h5
    have R := H.row hl0 hg
    have hO := H.obj b loc hl0
    rw [hg] at hO
    have hpos := Nat.pos_of_ne_zero T.ne
    cases hfit : Nat.ble (Nat.add off (Nat.mul (Nat.add len n) i.size)) r.size with
    | true =>
      rw [hfit] at h
      have hfit' : off + (len + n) * i.size ≤ r.size := Nat.le_of_ble_eq_true hfit
      have hcap := R.cap
      have hroom : len + n ≤ (loc.C - off) / i.size := (Nat.le_div_iff_mul_le hpos).2 (by omega)
      cases hb : Nat.beq n 0 with
      | true =>
        rw [hb] at h
        have := Nat.eq_of_beq_eq_true hb
        subst this
        have hcs : cs = #[] := by
          have h2 := hl.length
          rw [hn] at h2
          have : cs.size = 0 := by simpa using h2
          exact Array.eq_empty_of_size_eq_zero this
        subst hcs
        have hrun := run_append_in (P := P) (ty := ty) (w' := w) T.under T.src T.info (a := ⟨loc.B, loc.o + off, none⟩) S hroom (by simp [storeCells])
        refine Res.pure H (v := .slice b off len i.size) (vc := .slice (some ⟨loc.B, loc.o + off, none⟩) len ((loc.C - off) / i.size)) ?_ ⟨loc, hl0, rfl⟩ h
        simp [execOp, resolve, invoke, builtin, hp, hy, hrun]
      | false =>
        rw [hb] at h
        obtain ⟨h', h3, h4⟩ := onSome_ok h
        obtain ⟨w', i1, i2, i3⟩ := H.storeN (P := P) hl0 hl h3
        have hrun := run_append_in (P := P) (ty := ty) (w' := w') T.under T.src T.info (a := ⟨loc.B, loc.o + off, none⟩) S hroom (by rw [add_none, Nat.add_assoc]; exact i1)
        refine Res.heap (w' := w') (v := .slice b off (len + n) i.size) (vc := .slice (some ⟨loc.B, loc.o + off, none⟩) (len + n) ((loc.C - off) / i.size)) (.inl ?_) ⟨loc, hl0, rfl⟩ i2 i3 h4
        simp [execOp, resolve, invoke, builtin, hp, hy, hrun]
    | false =>
      rw [hfit] at h
      have hfit' : ¬ off + (len + n) * i.size ≤ r.size := fun hh => by
        have := Nat.ble_eq_true_of_le hh
        rw [show Nat.add off (Nat.mul (Nat.add len n) i.size) = off + (len + n) * i.size from rfl, this] at hfit
        cases hfit
      rw [ifb_false'] at h
      obtain ⟨pre, hpre, h⟩ := onSome_ok h
      obtain ⟨hbig, h⟩ := ifb_ok h
      obtain ⟨hcell, h⟩ := ifb_ok h
      have hbig' : len + n ≤ 1048576 := Nat.le_of_ble_eq_true hbig
      cases ro with
      | true =>
        rw [ifb_true'] at h
        obtain ⟨hr0, h⟩ := ifb_ok h
        obtain ⟨hl0', h⟩ := ifb_ok h
        have hr0 := Nat.eq_of_beq_eq_true hr0
        have hol : off + len = 0 := Nat.eq_of_beq_eq_true hl0'
        have hoff : off = 0 := by omega
        have hlen : len = 0 := by omega
        subst hoff; subst hlen
        have hC : loc.C = 0 := (hO.2.2.2 rfl).2 hr0
        have hn0 : 0 < n := Nat.pos_of_ne_zero fun e => by subst e; exact hfit' (by simp)
        refine append_new H T S hl hn (by omega) hn0 (base := some ⟨loc.B, loc.o + 0, none⟩) ?_ (by rw [hp, hC]; simp) hy h
        simp [Builtin.firstCells, loadCells]; rfl
      | false =>
        rw [ifb_false'] at h
        obtain ⟨old, hold, h⟩ := onSome_ok h
        refine append_any H hl0 hg T.under T.src T.info T.zero T.zsize T.ne T.bytes S hl hn hpre hold hbig' hcell ?_ hp hy h
        obtain ⟨q1, q2, q3⟩ := Row.cut_spec R.wf hold
        rcases Nat.eq_zero_or_pos (len + n) with h0 | h0
        · exfalso
          have e1 : len = 0 := by omega
          have e2 : n = 0 := by omega
          subst e1; subst e2
          simp only [Nat.zero_mul, Nat.add_zero] at hfit' q2
          rcases q2 with q2 | q2
          · rw [show Nat.mul 0 i.size = 0 from Nat.zero_mul _] at q2; simp at q2; omega
          · rw [show Nat.mul 0 i.size = 0 from Nat.zero_mul _] at q2; simp at q2; omega
        · exact h0
theorem ok_append (H : HR K σ own s.heap w) {e : TypeId} {i : TypeInfo} {z : Value} (T : AppTy P t u e i z)
    (hx : VR K σ (X.ev s.tmps) (ρ x)) (hy : VR K σ (Y.ev s.tmps) (ρ y)) (h : rAppend i.size X Y (dP dst) call s = .ok s') :
    Res P K σ own ⟨dst, .call ⟨.builtin .append, #[x, y], #[t, u]⟩, ty, pos, af, gd⟩ ρ w s s' := by
  obtain ⟨⟨n, l⟩, h1, h2⟩ := onSome_ok h
  obtain ⟨n', cs, S, hl, hn, e1⟩ := srcL_spec H hy rfl h1
  subst e1
  exact appendVal_ok H T hx rfl S hl hn h2
theorem ok_appendS (H : HR K σ own s.heap w) {e : TypeId} {i : TypeInfo} {z : Value} (T : AppTy P t u e i z) (h1 : i.size = 1)
    (hx : VR K σ (X.ev s.tmps) (ρ x)) (hy : VR K σ (Y.ev s.tmps) (ρ y)) (h : rAppendS X Y (dP dst) call s = .ok s') :
    Res P K σ own ⟨dst, .call ⟨.builtin .append, #[x, y], #[t, u]⟩, ty, pos, af, gd⟩ ρ w s s' := by
  obtain ⟨⟨n, l⟩, h2, h3⟩ := onSome_ok h
  obtain ⟨n', cs, S, hl, hn, e1⟩ := srcS_spec (w := w) (P := P) hy (fun _ => Nat.le_refl _) h2
  subst e1
  exact appendVal_ok H T hx rfl (by rw [h1]; exact S) hl (by rw [h1]; exact hn) (by rw [h1]; exact h3)
end
end Go.Eng
set_option linter.unusedVariables false
set_option linter.unusedSimpArgs false
namespace Go.Eng
open Go.RowKit Go.MapKept

section
variable {P : Program} {K : Ctx} {σ : Env} {own : Owns} {w : World} {s s' : St} {ρ : Operand → Value} {o : Oper} {h : AHeap}
variable {dst : Option Tmp} {ty : TypeId} {pos : String} {af : Array Edge} {gd : Option (Nat × Bool)} {call : Caller}
variable {x y k : Operand} {X Y M : Opd} {t t' u : TypeId}

/-! ## One block of its own is written -/
theorem HR.setBlock (H : HR K σ own h w) {b : Pos} {loc : Loc} (hb : σ b = some loc) (ho : own loc.B = some (false, b)) {O : Obj} {o' : AObj} (hg : ∀ p ro r, o' ≠ .cells (some p) ro r)
    (hnew : ObjR K σ own { w with heap := w.heap.setIfInBounds loc.B O } b loc (some o')) :
    HR K σ own (h.setObj b o') { w with heap := w.heap.setIfInBounds loc.B O } := by
  have hBel := (H.owned _ _ ho)
  have hoth : ∀ r', r' ≠ loc.B → (w.heap.setIfInBounds loc.B O)[r']? = w.heap[r']? := fun r' hne => by simp [Ne.symm hne]
  refine ⟨H.fresh, fun c l hl => ?_, fun c p ro r2 hc => ?_, ?_, by simpa using H.base, fun B t hBt => by simpa using H.owned B t hBt⟩
  · rw [AHeap.get_setObj]
    by_cases e : c = b
    · subst e
      rw [if_pos rfl]
      rw [hb] at hl; cases hl
      exact hnew
    · rw [if_neg e]
      have hx := H.obj c l hl
      rcases hx.apart ho (fun g' ro r2 e1 e2 => by
        cases g' with
        | none => simp [tagOf]; exact e
        | some p => simp [tagOf]) (by simp; exact e) with (h0 | h0) | h0 | ⟨g2, r2, h0, hC⟩
      · rw [h0]; trivial
      · rw [h0]; trivial
      · exact hx.frame (Env.le.refl σ) (hoth _ h0) rfl (by simp)
      · rw [h0] at hx ⊢
        exact hx.none_room hC (by simp) σ
  · rw [AHeap.get_setObj] at hc
    by_cases e : c = b
    · subst e
      rw [if_pos rfl] at hc
      cases hc
      exact absurd rfl (hg _ _ _)
    · rw [if_neg e] at hc
      exact H.grp c p ro r2 hc
  · exact H.below.trans ⟨rfl, rfl, rfl, by simp, fun j hj => hoth j (by omega)⟩

/-! ## Keys -/
/-- the abstract test fits the type of keys -/
def KeyF (kf : AV → Bool) (d : TypeDesc) : Prop := ∀ (K : Ctx) (σ : Env) (v : AV) (c : Value), kf v = true → VR K σ v c → IsKey d c
theorem keyI_ok {kd : IntKind} : KeyF (keyI kd) (.int kd) := fun K σ v c h hv => by
  cases v with
  | int k n => have : c = .int k n := hv; subst this; exact keq_iff h
  | _ => cases h
theorem keyS_ok : KeyF keyS .string := fun K σ v c h hv => by
  cases v with
  | str n d => obtain ⟨rfl, _⟩ := hv; trivial
  | _ => cases h
theorem keyB_ok : KeyF keyB .bool := fun K σ v c h hv => by
  cases v with
  | bool b => have : c = .bool b := hv; subst this; trivial
  | _ => cases h
theorem sameBits_of {d : TypeDesc} {c : Value} (h : IsKey d c) (n : Nat) : Instr.sameBits n c c = true := by
  have hb : ∀ s : ByteArray, (s == s) = true := fun s => (bytes_beq s s).2 rfl
  cases d <;> cases c <;> simp_all [IsKey] <;> cases n <;> simp [Instr.sameBits, hb]
theorem akey_spec {v v' : AV} {c c' : Value} (hv : VR K σ v c) (hv' : VR K σ v' c') {b : Bool} (h : akey v v' = some b) {d : TypeDesc} (hk : IsKey d c) :
    IsKey d c' ∧ Instr.sameNow d c c' = some b ∧ (b = true → c' = c) := by
  cases v with
  | int k n =>
    have : c = .int k n := hv; subst this
    cases v' with
    | int k' n' =>
      have : c' = .int k' n' := hv'; subst this
      obtain ⟨h1, h2⟩ := ifb_some (show ifb (keq k k') (some (ieq n n')) none = some b from h)
      have := keq_iff h1; subst this
      rw [ieq_eq] at h2
      cases h2
      cases d <;> simp_all [IsKey, Instr.sameNow]
      first | rfl | simp [Bool.eq_iff_iff]
    | _ => cases h
  | str m a =>
    obtain ⟨rfl, hm⟩ := hv
    cases v' with
    | str n b' =>
      obtain ⟨rfl, hn⟩ := hv'
      have h' : some (ifb (Nat.beq m n) (Nat.beq a b') false) = some b := h
      have e : (ifb (Nat.beq m n) (Nat.beq a b') false) = (bytesOf m a == bytesOf n b') := by
        show strEq m a n b' = _
        rw [strEq_eq _ _ _ _ hm hn, ← bytesOf_toList, ← bytesOf_toList]
        rw [Bool.eq_iff_iff, bytes_beq, beq_iff_eq]
        constructor
        · intro e
          rw [bytesOf_toList, bytesOf_toList] at e
          unfold bytesOf
          rw [e]
        · intro e; rw [e]
      rw [e] at h'
      cases h'
      cases d <;> simp_all [IsKey, Instr.sameNow, bytes_beq]
    | _ => cases h
  | bool a =>
    have : c = .bool a := hv; subst this
    cases v' with
    | bool a' =>
      have : c' = .bool a' := hv'; subst this
      cases a <;> cases a' <;> cases h <;> cases d <;> simp_all [IsKey, Instr.sameNow]
    | _ => cases a <;> cases h
  | _ => cases h

/-- what is found, and how the list is when it is turned -/
theorem findK_spec {d : TypeDesc} {kv : AV} {kc : Value} (hk : IsKey d kc) (hv : VR K σ kv kc) : ∀ (es : List AEnt) (l : List MapEntry) (i : Nat), EntsR K σ es l →
    (findK kv es = some none → Instr.findNow d kc l i = some none) ∧
    (∀ v, findK kv es = some (some v) → ∃ j e, Instr.findNow d kc l i = some (some (i + j, e.val)) ∧ l[j]? = some e ∧ e.key = kc ∧ VR K σ v e.val ∧
      ∀ v' c', VR K σ v' c' → EntsR K σ (setK kv v' es) (l.modify j fun e => { e with key := kc, val := c' }))
  | [], l, i, h => by
    simp only [EntsR] at h; subst h
    exact ⟨fun _ => rfl, fun v hv => by cases hv⟩
  | e :: es, l, i, h => by
    obtain ⟨c, cs, rfl, ⟨h1, h2, h3⟩, hs⟩ := h
    obtain ⟨i1, i2⟩ := findK_spec hk hv es cs (i + 1) hs
    have hdef : findK kv (e :: es) = onSome (akey kv e.key) (fun b => ifb b (some (some e.val)) (findK kv es)) none := rfl
    rw [hdef]
    cases hb : akey kv e.key with
    | none => exact ⟨fun h => by (cases h), fun v h => by (cases h)⟩
    | some b =>
      obtain ⟨j1, j2, j3⟩ := akey_spec hv h1 hb hk
      cases b with
      | true =>
        refine ⟨fun h => by (cases h), fun v hh => ?_⟩
        cases hh
        refine ⟨0, c, by simp [Instr.findNow, j2], rfl, j3 rfl, h2, fun v' c' hv' => ?_⟩
        have : setK kv v' (e :: es) = ⟨e.key, v', e.born⟩ :: es := by simp [setK, hb]
        rw [this]
        exact ⟨{ c with key := kc, val := c' }, cs, by simp [List.modify], ⟨by show VR K σ e.key kc; rw [← j3 rfl]; exact h1, hv', h3⟩, hs⟩
      | false =>
        refine ⟨fun h => by simp only [Instr.findNow, j2]; exact i1 h, fun v hh => ?_⟩
        obtain ⟨j, e', k1, k2, k3, k4, k5⟩ := i2 v hh
        refine ⟨j + 1, e', by simp only [Instr.findNow, j2]; rw [k1]; congr 3; omega, k2, k3, k4, fun v' c' hv' => ?_⟩
        have : setK kv v' (e :: es) = e :: setK kv v' es := by simp [setK, hb]
        rw [this]
        exact ⟨c, _, by simp [List.modify], ⟨h1, h2, h3⟩, k5 v' c' hv'⟩
theorem addE_eq (e : AEnt) : ∀ l : List AEnt, addE e l = l ++ [e]
  | [] => rfl
  | x :: l => by show x :: addE e l = _; rw [addE_eq e l]; rfl
theorem EntsR.push {e : AEnt} {c : MapEntry} (he : EntR K σ e c) : ∀ {es : List AEnt} {l : List MapEntry}, EntsR K σ es l → EntsR K σ (es ++ [e]) (l ++ [c])
  | [], l, h => by simp only [EntsR] at h; subst h; exact ⟨c, [], rfl, he, rfl⟩
  | x :: es, l, ⟨c', cs, e1, h1, h2⟩ => by subst e1; exact ⟨c', cs ++ [c], rfl, h1, EntsR.push he h2⟩
theorem EntsR.length : ∀ {es : List AEnt} {l : List MapEntry}, EntsR K σ es l → l.length = es.length
  | [], l, h => by simp only [EntsR] at h; subst h; rfl
  | x :: es, l, ⟨c', cs, e1, h1, h2⟩ => by subst e1; simp [EntsR.length h2]
theorem lenE_eq : ∀ l : List AEnt, lenE l = l.length
  | [] => rfl
  | x :: l => by show Nat.succ (lenE l) = _; rw [lenE_eq l]; rfl

/-! ## The operations -/
theorem ok_makeMap (H : HR K σ own s.heap w) (h : rMakeMap (dP dst) call s = .ok s') : Res P K σ own ⟨dst, .makeMap t none, ty, pos, af, gd⟩ ρ w s s' := by
  obtain ⟨s1, s2⟩ := setDH_ok h
  have hH := H.newObj (.map [] 0) (.map #[] 0) 0 (fun p ro r e => by cases e) ⟨by simp [Owns.add], #[], (heap_alloc w _).1, rfl⟩
  refine ⟨.map s.heap.next, .map (some w.heap.size), _, _, w.alloc (.map #[] 0), .inl ?_, ⟨_, Env.add_same _ _ _, rfl⟩, ?_, by rw [s2]; exact hH, s1⟩
  · simp [execOp, run_makeMap]
  · rw [s2]; exact Grow.add _ (H.fresh _ (Nat.le_refl _)) rfl

/-- a value that is the same in every world -/
def CV1 (z : AV) (c : Value) : Prop := ∀ (K : Ctx) (σ : Env), VR K σ z c
theorem ok_lookup {kt et : TypeId} {d : TypeDesc} {kf : AV → Bool} {i : TypeInfo} {z : Value} {Z : AV} {ok : Bool} (ht : P.underlying t = some (.map kt et)) (hd : P.underlying kt = some d) (hkf : KeyF kf d)
    (hi : P.info? et = some i) (hz : i.zero = some z) (hZ : CV1 Z z) (H : HR K σ own s.heap w) (hm : VR K σ (M.ev s.tmps) (ρ x)) (hk : VR K σ (X.ev s.tmps) (ρ k))
    (h : rLookup kf Z ok M X (dP dst) call s = .ok s') : StillR P K σ ⟨dst, .lookup t x k ok, ty, pos, af, gd⟩ ρ w s s' := by
  have main : ∀ (es : List AEnt) (ces : Array MapEntry), EntsR K σ es ces.toList → lookupIn kf Z ok (X.ev s.tmps) es (dP dst) s = .ok s' →
      (ρ x = .map none ∧ ces = #[] ∨ ∃ B c, ρ x = .map (some B) ∧ w.heap[B]? = some (.map ces c)) → StillR P K σ ⟨dst, .lookup t x k ok, ty, pos, af, gd⟩ ρ w s s' := by
    intro es ces hes h hget
    obtain ⟨h1, h⟩ := ifb_ok h
    obtain ⟨r, h2, h⟩ := onSome_ok h
    have hkey := hkf K σ _ _ h1 hk
    obtain ⟨f1, f2⟩ := findK_spec hkey hk es ces.toList 0 hes
    have hck := run_checkKey (P := P) (w := w) hd hkey ces.isEmpty 9999
    cases r with
    | none =>
      have hf := run_findKey (P := P) (w := w) hd (f1 h2)
      refine StillR.pure H (v := ifb ok (.tup [Z, .bool false]) Z) (vc := if ok then .tuple #[z, .bool false] else z) ?_ ?_ h
      · simp only [execOp]
        unfold Instr.lookup
        rcases hget with ⟨hp, hc⟩ | ⟨B, c, hp, hc⟩
        · subst hc
          cases ok <;> simp_all [run_underlying ht, run_zeroValue hi hz]
        · cases ok <;> simp [run_underlying ht, hp, MapKept.run_getObj_map hc, hck, hf, run_zeroValue hi hz]
      · cases ok
        · exact hZ K σ
        · exact ⟨_, rfl, VRs.cons (hZ K σ) (VRs.cons (x := .bool false) rfl VRs.nil)⟩
    | some v =>
      obtain ⟨j, e, hf, _, _, hv, _⟩ := f2 v h2
      have hf := run_findKey (P := P) (w := w) hd hf
      refine StillR.pure H (v := ifb ok (.tup [v, .bool true]) v) (vc := if ok then .tuple #[e.val, .bool true] else e.val) ?_ ?_ h
      · simp only [execOp]
        unfold Instr.lookup
        rcases hget with ⟨hp, hc⟩ | ⟨B, c, hp, hc⟩
        · subst hc
          cases ok <;> simp_all [run_underlying ht]
        · cases ok <;> simp [run_underlying ht, hp, MapKept.run_getObj_map hc, hck, hf]
      · cases ok
        · exact hv
        · exact ⟨_, rfl, VRs.cons hv (VRs.cons (x := .bool true) rfl VRs.nil)⟩
  rcases onMap_ok h with ⟨e1, h⟩ | ⟨b, e1, h⟩
  · rw [e1] at hm
    have hm' : ρ x = .map none := hm
    exact main [] #[] rfl h (.inl ⟨hm', rfl⟩)
  · obtain ⟨es, c, hg, h⟩ := onMapH_ok h
    rw [e1] at hm
    obtain ⟨l, hl, hp⟩ := hm
    have hO := H.obj b l hl
    rw [hg] at hO
    obtain ⟨ho, ces, hc, hes⟩ := hO
    exact main es ces hes h (.inr ⟨_, _, hp, hc⟩)

theorem ok_mapUpdate {kt et : TypeId} {d : TypeDesc} {kf : AV → Bool} {y : Operand} {Y : Opd} (hd0 : o.op = .mapUpdate t x k y ∨ o.op = .insert t x k y) (ht : P.underlying t = some (.map kt et)) (hd : P.underlying kt = some d) (hkf : KeyF kf d)
    (H : HR K σ own s.heap w) (hm : VR K σ (M.ev s.tmps) (ρ x)) (hk : VR K σ (X.ev s.tmps) (ρ k)) (hy : VR K σ (Y.ev s.tmps) (ρ y))
    (h : rMapUpdate kf M X Y (dP o.dst) call s = .ok s') : Res P K σ own o ρ w s s' := by
  have hex : ∀ w', (Instr.mapUpdate t (ρ x) (ρ k) (ρ y)).run P w = .ok () w' → (execOp ρ o).run P w = .ok .skip w' := fun w' hr => by
    unfold execOp
    rcases hd0 with e | e <;> rw [e] <;> simp [hr]
  rcases onMap_ok h with ⟨e1, h⟩ | ⟨b, e1, h⟩
  · cases h
  · obtain ⟨es, c, hg, h⟩ := onMapH_ok h
    rw [e1] at hm
    obtain ⟨l, hl, hp⟩ := hm
    have hO := H.obj b l hl
    rw [hg] at hO
    obtain ⟨ho, ces, hc, hes⟩ := hO
    obtain ⟨h1, h⟩ := ifb_ok h
    obtain ⟨r, h2, h⟩ := onSome_ok h
    have hkey := hkf K σ _ _ h1 hk
    obtain ⟨f1, f2⟩ := findK_spec hkey hk es ces.toList 0 hes
    have hck := run_checkKey (P := P) (w := w) hd hkey false 9999
    have hlt : l.B < w.heap.size := (Array.getElem?_eq_some_iff.1 hc).1
    cases r with
    | none =>
      have hf := run_findKey (P := P) (w := w) hd (f1 h2)
      refine Res.heap (h' := s.heap.setObj b (.map (addE ⟨X.ev s.tmps, Y.ev s.tmps, c⟩ es) (Nat.succ c))) (w' := { w with heap := w.heap.setIfInBounds l.B (.map (ces.push { key := ρ k, val := ρ y, born := c }) (c + 1)) }) (.inr ⟨hex _ ?_, rfl⟩) VR.undef
        (H.setBlock hl ho (fun p ro r e => by cases e) ⟨ho, _, (heap_set hc).1, ?_⟩) rfl h
      · unfold Instr.mapUpdate
        simp only [Sem.run_bind, run_underlying ht, Result.andThen_ok, hp, MapKept.run_getObj_map hc, hck, hf, run_setObj_map _ hc]
      · rw [addE_eq]
        simp only [Array.toList_push]
        exact hes.push ⟨hk, hy, rfl⟩
    | some v =>
      obtain ⟨j, e, hf, hj, hek, hv, hset⟩ := f2 v h2
      rw [Nat.zero_add] at hf
      have hf := run_findKey (P := P) (w := w) hd hf
      have hst : (Instr.keyThatStays (((ces[j]?).map (·.key)).getD (ρ k)) (ρ k)).run P w = .ok (ρ k) w := by
        have : ces[j]? = some e := by rw [← Array.getElem?_toList]; exact hj
        rw [this]
        simp only [Option.map_some, Option.getD_some, hek]
        unfold Instr.keyThatStays
        rw [sameBits_of hkey]
        rfl
      refine Res.heap (h' := s.heap.setObj b (.map (setK (X.ev s.tmps) (Y.ev s.tmps) es) c)) (w' := { w with heap := w.heap.setIfInBounds l.B (.map (ces.modify j fun e => { e with key := ρ k, val := ρ y }) c) }) (.inr ⟨hex _ ?_, rfl⟩) VR.undef
        (H.setBlock hl ho (fun p ro r e => by cases e) ⟨ho, _, (heap_set hc).1, ?_⟩) rfl h
      · unfold Instr.mapUpdate
        simp only [Sem.run_bind, run_underlying ht, Result.andThen_ok, hp, MapKept.run_getObj_map hc, hck, hf, hst, run_setObj_map _ hc]
      · rw [Array.toList_modify]
        exact hset _ _ hy
theorem ok_lenM {kt et : TypeId} (H : HR K σ own s.heap w) (hx : VR K σ (X.ev s.tmps) (ρ x)) (ht : P.underlying t = some (.map kt et)) (h : rLenM X (dP dst) call s = .ok s') :
    StillR P K σ ⟨dst, .call ⟨.builtin .len, #[x], #[t]⟩, ty, pos, af, gd⟩ ρ w s s' := by
  rcases onMap_ok h with ⟨e, h⟩ | ⟨b, e, h⟩
  · rw [e] at hx
    have hx' : ρ x = .map none := hx
    refine StillR.pure H (v := zi 0) (vc := goInt 0) ?_ .mkInt h
    simp [execOp, resolve, invoke, builtin, Builtin.len_, hx', run_underlying ht]
  · obtain ⟨es, c, hg, h⟩ := onMapH_ok h
    rw [e] at hx
    obtain ⟨l, hl, hp⟩ := hx
    have hO := H.obj b l hl
    rw [hg] at hO
    obtain ⟨ho, ces, hc, hes⟩ := hO
    have hsz : ces.size = lenE es := by rw [lenE_eq, ← hes.length]; simp
    refine StillR.pure H (v := zi (lenE es)) (vc := goInt (lenE es)) ?_ .mkInt h
    simp [execOp, resolve, invoke, builtin, Builtin.len_, hp, run_underlying ht, MapKept.run_getObj_map hc, hsz]

/-! ## make -/
theorem madeCells_VRs {Z : List AV} {z : Array Value} (h : VRs K σ Z z.toList) (n : Nat) : VRs K σ (repL Z n) (madeCells z (n * z.size)).toList := repL_VRs h n
theorem HR.newRow' (H : HR K σ own h w) (r : Row) (c : Array Value) (t : TypeId) (hwf : r.wf) (hc : r.size ≤ c.size)
    (hv : ∀ (i : Nat) (x : AV), r.get i = some x → ∃ v, c[i]? = some v ∧ VR K σ x v) :
    HR K (σ.add h.next ⟨w.heap.size, 0, c.size⟩) (own.add w.heap.size (false, h.next)) (h.new (.cells none false r)) (w.alloc (.cells c t)) := by
  have hle : σ.le (σ.add h.next ⟨w.heap.size, 0, c.size⟩) := Env.le_add _ (H.fresh _ (Nat.le_refl _))
  refine H.newObj _ _ c.size (fun p ro r e => by cases e) ⟨⟨hwf, hc, fun i hi => ?_, fun i x hx => ?_⟩, by simp, fun _ => ⟨by simp [Owns.add, tagOf], fun i hi => ?_⟩, fun e => by cases e⟩
  · simp only [Nat.zero_add]
    exact ⟨c[i], by rw [World.cell?_alloc_new]; exact Array.getElem?_eq_getElem hi⟩
  · obtain ⟨v, h1, h2⟩ := hv i x hx
    simp only [Nat.zero_add]
    exact ⟨v, by rw [World.cell?_alloc_new]; exact h1, h2.mono hle⟩
  · simp only [Nat.zero_add]
    exact World.frozen?_alloc_new ..
theorem byteAt_zero (i : Nat) : byteAt 0 i = 0 := by simp [byteAt]
theorem zeroRow_spec (Z : List AV) (m : Nat) : (zeroRow Z m Z.length).wf ∧ (zeroRow Z m Z.length).size = m * Z.length ∧ ∀ i, (zeroRow Z m Z.length).get i = (repL Z m)[i]? := by
  have hl : (Row.lst (Nat.mul m Z.length) (repL Z m)).wf ∧ (Row.lst (Nat.mul m Z.length) (repL Z m)).size = m * Z.length ∧ ∀ i, (Row.lst (Nat.mul m Z.length) (repL Z m)).get i = (repL Z m)[i]? :=
    ⟨(repL_length Z m).symm, rfl, fun i => Row.get_lst _ _ _⟩
  unfold zeroRow
  split
  · refine ⟨Nat.pow_pos (by omega), by simp [Row.size], fun i => ?_⟩
    rw [Row.get_byt, byteAt_zero]
    by_cases hi : i < m
    · rw [if_pos hi, repL_get _ (by simp) _ _ (by simpa using hi)]
      simp [Nat.mod_one]
    · rw [if_neg hi, List.getElem?_eq_none (by rw [repL_length]; simp; omega)]
  · exact hl
theorem ok_makeSlice {e : TypeId} {i : TypeInfo} {z : Value} {Z : List AV} {x y : Operand} {X Y : Opd} (ht : P.underlying t = some (.slice e)) (hi : P.info? e = some i) (hz : i.zero = some z) (hZ : CV Z z.cells.toList) (hn : Z.length = i.size) (hb : i.bytes ≤ 16777216) (h0 : i.size ≠ 0)
    (H : HR K σ own s.heap w) (hx : VR K σ (X.ev s.tmps) (ρ x)) (hy : VR K σ (Y.ev s.tmps) (ρ y)) (h : rMakeSlice i.size Z X Y (dP dst) call s = .ok s') :
    Res P K σ own ⟨dst, .makeSlice t x y, ty, pos, af, gd⟩ ρ w s s' := by
  obtain ⟨k, n, e1, h⟩ := onNat_ok h
  obtain ⟨k', m, e2, h⟩ := onNat_ok h
  obtain ⟨h1, h⟩ := ifb_ok h
  obtain ⟨h2, h⟩ := ifb_ok h
  rw [e1] at hx
  rw [e2] at hy
  have hx' : ρ x = .int k n := hx
  have hy' : ρ y = .int k' m := hy
  have hnm := Nat.le_of_ble_eq_true h1
  have hm := Nat.le_of_ble_eq_true h2
  have hzs : z.cells.size = i.size := by have := (hZ K σ).length; rw [hn] at this; simpa using this
  have hby : (i.bytes : Int) * (m : Int) ≤ 281474976710656 := by
    have : i.bytes * m ≤ 16777216 * 65536 := Nat.mul_le_mul hb hm
    have h3 : ((i.bytes * m : Nat) : Int) ≤ 281474976710656 := by omega
    rwa [Int.natCast_mul] at h3
  have hrun := run_make (P := P) w t e i z ht hi hz k k' n m (by omega) (by omega) hby (by omega)
  simp only [Int.toNat_natCast] at hrun
  obtain ⟨r1, r2⟩ := (madeCells_VRs (hZ K σ) m).row
  rw [hzs] at r1 r2
  obtain ⟨z1, z2, z3⟩ := zeroRow_spec Z m
  rw [hn] at z1 z2 z3
  have hcs : (madeCells z.cells (m * i.size)).size = m * i.size := size_madeCells _ _
  obtain ⟨s1, s2⟩ := setDH_ok h
  refine ⟨.slice s.heap.next 0 n i.size, .slice (some ⟨w.heap.size, 0, none⟩) n m, _, _, _, .inl ?_, ⟨⟨w.heap.size, 0, (madeCells z.cells (m * i.size)).size⟩, Env.add_same _ _ _, ?_⟩, ?_, by
    rw [s2]; exact H.newRow' _ _ e z1 (by rw [z2, hcs]; exact Nat.le_refl _) (fun j xv hj => r2 j xv (by rw [← z3]; exact hj)), s1⟩
  · simp [execOp, hx', hy', hrun]
  · simp [hcs, Nat.mul_div_cancel _ (Nat.pos_of_ne_zero h0)]
  · rw [s2]; exact Grow.add _ (H.fresh _ (Nat.le_refl _)) rfl
end
end Go.Eng
set_option linter.unusedVariables false
set_option linter.unusedSimpArgs false
namespace Go.Eng
open Go.RowKit

theorem num_posOf (n : Nat) : (posOf n).num = Pos.h.num + n := by
  induction n with
  | zero => rfl
  | succ n ih => show (posOf n).succ.num = _; rw [Pos.num_succ, ih]; omega
theorem posOf_inj {m n : Nat} (h : posOf m = posOf n) : m = n := by
  have := congrArg Pos.num h
  rw [num_posOf, num_posOf] at this
  omega

/-! ## Temporaries -/
def TR (K : Ctx) (σ : Env) (tm : PT AV) (a : Act) : Prop := ∀ t, VR K σ ((Opd.t (posOf t)).ev tm) (a.tmps.getD t undef)
theorem TR.mono {K : Ctx} {σ σ' : Env} {tm : PT AV} {a : Act} (h : σ.le σ') (x : TR K σ tm a) : TR K σ' tm a := fun t => (x t).mono h
theorem ev_set_same (tm : PT AV) (p : Pos) (v : AV) : (Opd.t p).ev (tm.set v p) = v := by
  simp only [Opd.ev]
  rw [PT.get_set_same]
theorem ev_set_other (tm : PT AV) {p q : Pos} (v : AV) (h : q ≠ p) : (Opd.t q).ev (tm.set v p) = (Opd.t q).ev tm := by
  simp only [Opd.ev]
  rw [PT.get_set_other _ _ h]
theorem TR.put {K : Ctx} {σ : Env} {tm : PT AV} {a : Act} (x : TR K σ tm a) {d : Option Tmp} (hd : ∀ t, d = some t → t < a.tmps.size) {v : AV} {vc : Value} (hv : VR K σ v vc) :
    TR K σ (setT d v tm) (a.put d vc) := by
  cases d with
  | none => exact x
  | some t =>
    intro u
    have ht := hd t rfl
    show VR K σ ((Opd.t (posOf u)).ev (tm.set v (posOf t))) ((a.tmps.setIfInBounds t vc).getD u undef)
    by_cases e : u = t
    · subst e
      rw [ev_set_same]
      simpa [ht] using hv
    · rw [ev_set_other _ _ (fun h => e (posOf_inj h))]
      have := x u
      simpa [Array.getElem?_setIfInBounds_ne (Ne.symm e)] using this
theorem put_size (a : Act) (d : Option Tmp) (v : Value) : (a.put d v).tmps.size = a.tmps.size := by cases d <;> simp [Act.put]
theorem put_defers (a : Act) (d : Option Tmp) (v : Value) : (a.put d v).defers = a.defers := by cases d <;> rfl

/-! ## Calls -/
def Globs (ng : Nat) (σ : Env) : Prop := ∀ g, g < ng → ∃ C, σ (posOf g) = some ⟨g, 0, C⟩
theorem Globs.mono {ng : Nat} {σ σ' : Env} (h : σ.le σ') (x : Globs ng σ) : Globs ng σ' := fun g hg => let ⟨C, e⟩ := x g hg; ⟨C, h _ _ e⟩
/-- what is left behind: of state s the heap has grown -/
def After (K : Ctx) (σ : Env) (h h' : AHeap) (w' : World) (v : AV) (vc : Value) : Prop :=
  ∃ σ' own', VR K σ' v vc ∧ Grow σ σ' h h' ∧ HR K σ' own' h' w'
def Back (K : Ctx) (σ : Env) (h : AHeap) (r : Out (AV × AHeap)) : Ending → World → Prop :=
  match r with
  | .ok vh => fun e w' => ∃ vc, e = .returned vc ∧ After K σ h vh.2 w' vh.1 vc
  | .panic v h' => fun e w' => ∃ vc, e = .panicked [{ v := vc, recovered := false }] ∧ After K σ h h' w' v vc
  | .fail => fun _ _ => True
def Enters (P : Program) (f : Nat) : Prop := ∀ args w, (callFunc f args).run P w = .ok (.enter f args) w
def ComesTo (P : Program) (f : Nat) (cargs : Array Value) (w : World) (R : Ending → World → Prop) : Prop :=
  (Enters P f ∧ Calls P f cargs w R) ∨ ∃ v w', (callFunc f cargs).run P w = .ok (.value v) w' ∧ R (.returned v) w'
def CallOK (P : Program) (K : Ctx) (ng : Nat) (call : Caller) : Prop :=
  ∀ (σ : Env) (own : Owns) (w : World) (h : AHeap) (f : Nat) (args : List AV) (cargs : Array Value), Globs ng σ → HR K σ own h w → VRs K σ args cargs.toList →
    call f args h ≠ .fail → ComesTo P f cargs w (Back K σ h (call f args h))

/-! ## One operation -/
/-- the operands of an operation, in an abstract state -/
noncomputable def opd (ng : Nat) (cst : Value → Option AV) : Operand → Option Opd
  | .tmp t => some (.t (posOf t))
  | .const v => onSome (cst v) (fun v => some (.c v)) none
  | .global g => ifb (Nat.ble (Nat.succ g) ng) (some (.c (.ptr (posOf g) 0))) none
  | .func f => some (.c (.func (.func f) [] []))
def CstOK (cst : Value → Option AV) : Prop := ∀ v x, cst v = some x → CV1 x v
def OR (K : Ctx) (ng : Nat) (cst : Value → Option AV) (σ : Env) (tm : PT AV) (ρ : Operand → Value) (o : Oper) : Prop :=
  ∀ x ∈ o.op.operands, ∀ X, opd ng cst x = some X → VR K σ (X.ev tm) (ρ x)
theorem opd_ok {K : Ctx} {ng : Nat} {cst : Value → Option AV} {σ : Env} {tm : PT AV} {a : Act} (hc : CstOK cst) (hg : Globs ng σ) (ht : TR K σ tm a) {x : Operand} {X : Opd} (h : opd ng cst x = some X) :
    VR K σ (X.ev tm) (a.eval x) := by
  cases x with
  | tmp t => cases h; exact ht t
  | const v =>
    obtain ⟨u, h1, h2⟩ := onSome_eq (show onSome (cst v) (fun v => some (.c v)) none = some X from h)
    cases h2
    exact hc v u h1 K σ
  | global g =>
    obtain ⟨h1, h2⟩ := ifb_some (show ifb (Nat.ble (Nat.succ g) ng) (some (.c (.ptr (posOf g) 0))) none = some X from h)
    cases h2
    obtain ⟨C, e⟩ := hg g (Nat.le_of_ble_eq_true h1)
    exact ⟨_, e, rfl⟩
  | func f => cases h; exact ⟨#[], #[], rfl, rfl, rfl⟩
/-- what an operation looks at, as it is in an abstract state -/
def FP (K : Ctx) (σ : Env) (ops : Array Oper) (o : Oper) (tm : PT AV) (a : Act) : Prop := ∀ t ∈ o.looksAt ops, VR K σ ((Opd.t (posOf t)).ev tm) (a.tmps.getD t undef)
theorem FP.or {K : Ctx} {ng : Nat} {cst : Value → Option AV} {σ : Env} {ops : Array Oper} {o : Oper} {tm : PT AV} {a : Act} (hc : CstOK cst) (hg : Globs ng σ) (h : FP K σ ops o tm a) : OR K ng cst σ tm a.eval o := fun x hx X hX => by
  cases x with
  | tmp t => cases hX; exact h t (List.mem_append_left _ (List.mem_filterMap.2 ⟨.tmp t, by simpa using hx, rfl⟩))
  | const v =>
    obtain ⟨u, h1, h2⟩ := onSome_eq (show onSome (cst v) (fun v => some (.c v)) none = some X from hX)
    cases h2
    exact hc v u h1 K σ
  | global g =>
    obtain ⟨h1, h2⟩ := ifb_some (show ifb (Nat.ble (Nat.succ g) ng) (some (.c (.ptr (posOf g) 0))) none = some X from hX)
    cases h2
    obtain ⟨C, e⟩ := hg g (Nat.le_of_ble_eq_true h1)
    exact ⟨_, e, rfl⟩
  | func f => cases hX; exact ⟨#[], #[], rfl, rfl, rfl⟩
/-- How an operation goes on, of what the abstract one comes to. -/
def Goes (K : Ctx) (σ : Env) (s : St) (dst : Option Tmp) (a : Act) (next : Act → World → Prop) (Q : Exit → Act → World → Prop) (r : Out St) : Prop :=
  match r with
  | .ok s' => ∀ v vc σ' own' w', VR K σ' v vc → Grow σ σ' s.heap s'.heap → HR K σ' own' s'.heap w' → s'.tmps = setT dst v s.tmps → next (a.put dst vc) w'
  | .panic v h' => ∀ vc w', After K σ s.heap h' w' v vc → Q (.panic [{ v := vc, recovered := false }]) a w'
  | .fail => False
def OpOK (P : Program) (K : Ctx) (ng : Nat) (cst : Value → Option AV) (o : Oper) (r : Run) : Prop :=
  ∀ (σ : Env) (own : Owns) (a : Act) (w : World) (s : St) (call : Caller) (next : Act → World → Prop) (Q : Exit → Act → World → Prop), CallOK P K ng call → Globs ng σ →
    OR K ng cst σ s.tmps a.eval o → HR K σ own s.heap w → Goes K σ s o.dst a next Q (r call s) → o.wp P a w next Q
section
variable {P : Program} {K : Ctx} {ng : Nat} {cst : Value → Option AV} {o : Oper} {r : Run}
theorem OpOK.of_res (hp : ∀ call s v h, r call s ≠ .panic v h) (h : ∀ (σ : Env) (own : Owns) (a : Act) (w : World) (s s' : St) (call : Caller), Globs ng σ → OR K ng cst σ s.tmps a.eval o → HR K σ own s.heap w →
    r call s = .ok s' → Res P K σ own o a.eval w s s') : OpOK P K ng cst o r := by
  intro σ own a w s call next Q hc hg ho hH hgo
  cases hr : r call s with
  | fail => rw [hr] at hgo; exact hgo.elim
  | panic v hp' => exact absurd hr (hp _ _ _ _)
  | ok s' =>
    rw [hr] at hgo
    obtain ⟨v, vc, σ', own', w', h1, h2, h3, h4, h5⟩ := h σ own a w s s' call hg ho hH hr
    unfold Oper.wp
    rcases h1 with h1 | ⟨h1, rfl⟩
    · rw [h1]; exact hgo v vc σ' own' w' h2 h3 h4 h5
    · rw [h1]; exact hgo v undef σ' own' w' h2 h3 h4 h5
theorem goes_back {call : Caller} {σ : Env} {own : Owns} {a : Act} {w : World} {s : St} {next : Act → World → Prop} {Q : Exit → Act → World → Prop} {f : Nat} {args : List AV} {cargs : Array Value}
    (hc : CallOK P K ng call) (hg : Globs ng σ) (hH : HR K σ own s.heap w) (ha : VRs K σ args cargs.toList) (he : (execOp a.eval o).run P w = (callFunc f cargs).run P w)
    (hgo : Goes K σ s o.dst a next Q (backTo (dP o.dst) s (call f args s.heap))) : o.wp P a w next Q := by
  unfold Oper.wp
  rw [he]
  have hnf : call f args s.heap ≠ .fail := fun e => by rw [e] at hgo; exact hgo.elim
  have main : ∀ v w', Back K σ s.heap (call f args s.heap) (.returned v) w' → next (a.put o.dst v) w' := fun v w' hb => by
    cases hr : call f args s.heap with
    | fail => exact absurd hr hnf
    | ok vh =>
      rw [hr] at hb hgo
      obtain ⟨vc, e1, σ', own', h1, h2, h3⟩ := hb
      cases e1
      obtain ⟨v', h'⟩ := vh
      have hgo' : Goes K σ s o.dst a next Q (setDH (dP o.dst) v' s h') := hgo
      cases hs : setDH (dP o.dst) v' s h' with
      | ok s' =>
        rw [hs] at hgo'
        obtain ⟨s1, s2⟩ := setDH_ok hs
        exact hgo' v' v σ' own' w' h1 (by rw [s2]; exact h2) (by rw [s2]; exact h3) s1
      | panic _ _ => cases hd : dP o.dst <;> rw [hd] at hs <;> cases hs
      | fail => cases hd : dP o.dst <;> rw [hd] at hs <;> cases hs
    | panic v h' => rw [hr] at hb; obtain ⟨vc, e1, _⟩ := hb; cases e1
  rcases hc σ own w s.heap f args cargs hg hH ha hnf with ⟨hE, hC⟩ | ⟨v, w', h1, h2⟩
  · rw [hE, Oper.upon_enter]
    refine Calls.mono hC fun e w' hb => ?_
    cases e with
    | returned v => exact main v w' hb
    | panicked ch =>
      cases hr : call f args s.heap with
      | fail => exact absurd hr hnf
      | ok vh => rw [hr] at hb; obtain ⟨vc, e1, _⟩ := hb; cases e1
      | panic v h' =>
        rw [hr] at hb hgo
        obtain ⟨vc, e1, hA⟩ := hb
        cases e1
        exact hgo vc w' hA
    | outgrown =>
      cases hr : call f args s.heap with
      | fail => exact absurd hr hnf
      | ok vh => rw [hr] at hb; obtain ⟨vc, e1, _⟩ := hb; cases e1
      | panic v h' => rw [hr] at hb; obtain ⟨vc, e1, _⟩ := hb; cases e1
  · rw [h1]
    exact main v w' h2

/-! ## Regions -/
/-- the step of one operation within its region -/
def StepOK (P : Program) (K : Ctx) (ng n : Nat) (ops : Array Oper) (o : Oper) (r : Run) : Prop :=
  ∀ (σ : Env) (own : Owns) (a : Act) (w : World) (s : St) (call : Caller) (next : Act → World → Prop) (Q : Exit → Act → World → Prop), CallOK P K ng call → Globs ng σ → n ≤ a.tmps.size →
    FP K σ ops o s.tmps a → HR K σ own s.heap w → Goes K σ s o.dst a next Q (r call s) →
    if Region.wanted o (yielded ops a.tmps) then o.wp P a w next Q else next (a.put o.dst undef) w
def DstOK (n : Nat) (o : Oper) : Prop := ∀ t, o.dst = some t → t < n
inductive StepsOK (P : Program) (K : Ctx) (ng n : Nat) (ops : Array Oper) : List Oper → List Run → Prop
  | nil : StepsOK P K ng n ops [] []
  | cons {o : Oper} {r : Run} {l : List Oper} {rs : List Run} : StepOK P K ng n ops o r → DstOK n o → StepsOK P K ng n ops l rs → StepsOK P K ng n ops (o :: l) (r :: rs)
theorem StepOK.of_op {ops : Array Oper} {n : Nat} (hc : CstOK cst) (hg : o.guard = none) (h : OpOK P K ng cst o r) : StepOK P K ng n ops o r := by
  intro σ own a w s call next Q hcall hgl hn hT hH hgo
  rw [if_pos (by simp [Region.wanted, hg])]
  exact h σ own a w s call next Q hcall hgl (hT.or hc hgl) hH hgo
/-- what code leaves behind -/
structure SR (K : Ctx) (n : Nat) (σ : Env) (h0 : AHeap) (s : St) (a : Act) (w : World) : Prop where
  env : ∃ σ' own', Grow σ σ' h0 s.heap ∧ HR K σ' own' s.heap w ∧ TR K σ' s.tmps a
  size : n ≤ a.tmps.size
  defers : a.defers = []
def Lands (K : Ctx) (n : Nat) (σ : Env) (h0 : AHeap) (e : Ex) : Exit → Act → World → Prop :=
  match e with
  | .normal s => fun x a w => x = .normal ∧ SR K n σ h0 s a w
  | .exit id s => fun x a w => x = .exit id ∧ SR K n σ h0 s a w
  | .ret s => fun x a w => x = .ret ∧ SR K n σ h0 s a w
  | .panic v h => fun x a w => a.defers = [] ∧ ∃ vc, x = .panic [{ v := vc, recovered := false }] ∧ After K σ h0 h w v vc
  | .fail => fun _ _ _ => True
theorem After.grow {σ σ' : Env} {h h' hh : AHeap} {w : World} {v : AV} {vc : Value} (g : Grow σ σ' h h') (x : After K σ' h' hh w v vc) : After K σ h hh w v vc := by
  obtain ⟨σ'', own', h1, h2, h3⟩ := x
  exact ⟨σ'', own', h1, g.trans h2, h3⟩
theorem SR.grow {n : Nat} {σ σ' : Env} {h h' : AHeap} {s : St} {a : Act} {w : World} (g : Grow σ σ' h h') (x : SR K n σ' h' s a w) : SR K n σ h s a w := by
  obtain ⟨⟨σ'', own', h1, h2, h3⟩, h4, h5⟩ := x
  exact ⟨⟨σ'', own', g.trans h1, h2, h3⟩, h4, h5⟩
theorem Lands.grow {n : Nat} {σ σ' : Env} {h h' : AHeap} {e : Ex} (g : Grow σ σ' h h') : ∀ {x a w}, Lands K n σ' h' e x a w → Lands K n σ h e x a w := by
  intro x a w hx
  cases e with
  | normal s => exact ⟨hx.1, hx.2.grow g⟩
  | exit id s => exact ⟨hx.1, hx.2.grow g⟩
  | ret s => exact ⟨hx.1, hx.2.grow g⟩
  | panic v hh => obtain ⟨h0, vc, h1, h2⟩ := hx; exact ⟨h0, vc, h1, h2.grow g⟩
  | fail => trivial
theorem wp_mono2 {o : Oper} {a : Act} {w : World} {N N' : Act → World → Prop} {Q Q' : Exit → Act → World → Prop} (h : ∀ a w, N a w → N' a w) (hq : ∀ e a w, Q e a w → Q' e a w)
    (hh : o.wp P a w N Q) : o.wp P a w N' Q' := by
  unfold Oper.wp at *
  generalize (execOp a.eval o).run P w = r at *
  cases r with
  | ok n w' =>
    cases n <;> simp only [Oper.upon] at hh ⊢ <;>
      first
        | exact h _ _ hh
        | exact Calls.mono hh (fun e w'' he => by cases e <;> first | exact h _ _ he | exact hq _ _ _ he | exact ⟨_, _, hq _ _ _ he.choose_spec.choose_spec⟩)
        | exact Rows.mono hh (fun _ _ he => h _ _ he)
  | halt x w' => cases x <;> simp only [Oper.upon] at hh ⊢ <;> first | exact hq _ _ _ hh | exact hh
theorem wpList_mono {ops : Array Oper} {Q Q' : Exit → Act → World → Prop} (hq : ∀ e a w, Q e a w → Q' e a w) : ∀ {l : List Oper} {a : Act} {w : World}, wpList P ops Q l a w → wpList P ops Q' l a w
  | [], a, w, h => hq _ _ _ h
  | o :: l, a, w, h => by
    unfold wpList at h ⊢
    split
    · rename_i hw
      rw [if_pos hw] at h
      rcases h with h | ⟨h1, h2⟩
      · exact .inl (wp_mono2 (fun _ _ => wpList_mono hq) hq h)
      · obtain ⟨a', w', h2⟩ := h2; exact .inr ⟨h1, a', w', hq _ _ _ h2⟩
    · rename_i hw
      rw [if_neg hw] at h
      exact wpList_mono hq h
theorem runOps_ok {call : Caller} (hcall : CallOK P K ng call) {n : Nat} {ops : Array Oper} : ∀ (l : List Oper) (rs : List Run), StepsOK P K ng n ops l rs →
    ∀ (σ : Env) (own : Owns) (a : Act) (w : World) (s : St), Globs ng σ → HR K σ own s.heap w → TR K σ s.tmps a → n ≤ a.tmps.size → a.defers = [] →
      runOps call rs s ≠ .fail → wpList P ops (Lands K n σ s.heap (runOps call rs s)) l a w
  | [], rs, h, σ, own, a, w, s, hg, hH, hT, hn, hd, hf => by
    cases h
    exact ⟨rfl, ⟨σ, own, Grow.refl _ _, hH, hT⟩, hn, hd⟩
  | o :: l, _, .cons (r := r) (rs := rs) h1 h2 h3, σ, own, a, w, s, hg, hH, hT, hn, hd, hf => by
    refine wpList_step fun K' hK' => h1 σ own a w s call K' _ hcall hg hn (fun t _ => hT t) hH ?_
    have hdef : runOps call (r :: rs) s = Out.rec (motive := fun _ => Ex) (runOps call rs) Ex.panic Ex.fail (r call s) := rfl
    cases hr : r call s with
    | ok s' =>
      rw [hr] at hdef
      have hdef' : runOps call (r :: rs) s = runOps call rs s' := hdef
      intro v vc σ' own' w' g1 g2 g3 g4
      refine hK' _ _ ?_
      rw [hdef'] at hf ⊢
      have hT' : TR K σ' s'.tmps (a.put o.dst vc) := by rw [g4]; exact (hT.mono g2.le).put (fun t ht => Nat.lt_of_lt_of_le (h2 t ht) hn) g1
      have := runOps_ok hcall l rs h3 σ' own' (a.put o.dst vc) w' s' (hg.mono g2.le) g3 hT' (by rw [put_size]; exact hn) (by rw [put_defers]; exact hd) hf
      exact wpList_mono (fun e a w => Lands.grow g2) this
    | panic v h' =>
      rw [hr] at hdef
      have hdef' : runOps call (r :: rs) s = .panic v h' := hdef
      intro vc w' hA
      rw [hdef']
      exact ⟨hd, vc, rfl, hA⟩
    | fail =>
      rw [hr] at hdef
      exact absurd hdef hf
end
end Go.Eng
set_option linter.unusedVariables false
set_option linter.unusedSimpArgs false
namespace Go.Eng
open Go.RowKit

section
variable {P : Program} {K : Ctx} {ng n : Nat} {cst : Value → Option AV}

/-! ## Code -/
def CodeOK (P : Program) (K : Ctx) (ng n : Nat) (c : Code) (x : AC) : Prop :=
  ∀ (call : Caller) (lf : Nat), CallOK P K ng call → ∀ (σ : Env) (own : Owns) (a : Act) (w : World) (s : St), Globs ng σ → HR K σ own s.heap w → TR K σ s.tmps a → n ≤ a.tmps.size → a.defers = [] →
    exec call lf x s ≠ .fail → c.wp P (Lands K n σ s.heap (exec call lf x s)) a w

theorem SR.refl {σ : Env} {own : Owns} {s : St} {a : Act} {w : World} (hH : HR K σ own s.heap w) (hT : TR K σ s.tmps a) (hn : n ≤ a.tmps.size) (hd : a.defers = []) : SR K n σ s.heap s a w :=
  ⟨⟨σ, own, Grow.refl _ _, hH, hT⟩, hn, hd⟩
theorem CodeOK.skip : CodeOK P K ng n .skip .skip := fun call lf hc σ own a w s hg hH hT hn hd hf => wp_skip ⟨rfl, .refl hH hT hn hd⟩
theorem CodeOK.ret : CodeOK P K ng n .ret .ret := fun call lf hc σ own a w s hg hH hT hn hd hf => wp_ret ⟨rfl, .refl hH hT hn hd⟩
theorem CodeOK.exit {id : Nat} : CodeOK P K ng n (.exit id) (.exit id) := fun call lf hc σ own a w s hg hH hT hn hd hf => wp_exit ⟨rfl, .refl hH hT hn hd⟩
theorem CodeOK.bad {c : Code} : CodeOK P K ng n c .bad := fun call lf hc σ own a w s hg hH hT hn hd hf => absurd rfl hf
theorem CodeOK.reg {id : Nat} {ops : Array Oper} {rs : List Run} (h : StepsOK P K ng n ops ops.toList rs) : CodeOK P K ng n (.region id ops false) (.reg rs) :=
  fun call lf hc σ own a w s hg hH hT hn hd hf => wp_region_list (runOps_ok hc ops.toList rs h σ own a w s hg hH hT hn hd hf)
theorem CodeOK.seq {c d : Code} {x y : AC} (h1 : CodeOK P K ng n c x) (h2 : CodeOK P K ng n d y) : CodeOK P K ng n (.seq c d) (.seq x y) := by
  intro call lf hc σ own a w s hg hH hT hn hd hf
  have hdef : exec call lf (.seq x y) s = (exec call lf x s).andThen (exec call lf y) := rfl
  rw [hdef] at hf ⊢
  have hfx : exec call lf x s ≠ .fail := fun e => hf (by rw [e]; rfl)
  refine wp_seq (wp_mono (h1 call lf hc σ own a w s hg hH hT hn hd hfx) fun e a' w' hl => ?_)
  cases hx : exec call lf x s with
  | normal s' =>
    rw [hx] at hl hf
    obtain ⟨rfl, ⟨⟨σ', own', g1, g2, g3⟩, g4, g5⟩⟩ := hl
    have hf' : exec call lf y s' ≠ .fail := hf
    exact wp_mono (h2 call lf hc σ' own' a' w' s' (hg.mono g1.le) g2 g3 g4 g5 hf') fun e a w => Lands.grow g1
  | exit id s' => rw [hx] at hl; obtain ⟨rfl, hs⟩ := hl; exact ⟨rfl, hs⟩
  | ret s' => rw [hx] at hl; obtain ⟨rfl, hs⟩ := hl; exact ⟨rfl, hs⟩
  | panic v h' => rw [hx] at hl; obtain ⟨h0, vc, rfl, hs⟩ := hl; exact ⟨h0, vc, rfl, hs⟩
  | fail => exact absurd hx hfx
theorem CodeOK.cond {c d : Code} {x y : AC} {z : Operand} {Z : Opd} (hcst : CstOK cst) (hz : opd ng cst z = some Z) (h1 : CodeOK P K ng n c x) (h2 : CodeOK P K ng n d y) : CodeOK P K ng n (.cond z c d) (.cond Z x y) := by
  intro call lf hc σ own a w s hg hH hT hn hd hf
  have hdef : exec call lf (.cond Z x y) s = (Z.ev s.tmps).onBool (exec call lf x s) (exec call lf y s) .fail := rfl
  rw [hdef] at hf ⊢
  have hv := opd_ok hcst hg hT hz
  cases hZ : Z.ev s.tmps with
  | bool b =>
    rw [hZ] at hf hv
    have hv' : a.eval z = .bool b := hv
    cases b with
    | true => exact wp_cond_true hv' (h1 call lf hc σ own a w s hg hH hT hn hd hf)
    | false => exact wp_cond_false hv' (h2 call lf hc σ own a w s hg hH hT hn hd hf)
  | _ => rw [hZ] at hf; exact absurd rfl hf
theorem CodeOK.block {id : Nat} {c : Code} {x : AC} (h1 : CodeOK P K ng n c x) : CodeOK P K ng n (.block id c) (.block id x) := by
  intro call lf hc σ own a w s hg hH hT hn hd hf
  have hdef : exec call lf (.block id x) s = Ex.rec (motive := fun _ => Ex) Ex.normal (fun id' s' => ifb (Nat.beq id' id) (.normal s') (.exit id' s')) Ex.ret Ex.panic Ex.fail (exec call lf x s) := rfl
  rw [hdef] at hf ⊢
  have hfx : exec call lf x s ≠ .fail := fun e => hf (by rw [e])
  refine wp_block (wp_mono (h1 call lf hc σ own a w s hg hH hT hn hd hfx) fun e a' w' hl => ?_)
  cases hx : exec call lf x s with
  | normal s' => rw [hx] at hl; obtain ⟨rfl, hs⟩ := hl; exact ⟨rfl, hs⟩
  | exit id' s' =>
    rw [hx] at hl
    obtain ⟨rfl, hs⟩ := hl
    cases hb : Nat.beq id' id with
    | true =>
      have := Nat.eq_of_beq_eq_true hb
      subst this
      simp only [Exit.inBlock, if_true]
      simp only [hb]
      exact ⟨rfl, hs⟩
    | false =>
      have hne : ¬ id' = id := fun e => by subst e; rw [Nat.beq_refl] at hb; cases hb
      simp only [Exit.inBlock, hne, if_false]
      simp only [hb]
      exact ⟨rfl, hs⟩
  | ret s' => rw [hx] at hl; obtain ⟨rfl, hs⟩ := hl; exact ⟨rfl, hs⟩
  | panic v h' => rw [hx] at hl; obtain ⟨h0, vc, rfl, hs⟩ := hl; exact ⟨h0, vc, rfl, hs⟩
  | fail => exact absurd hx hfx
theorem loop_key {c : Code} {x : AC} (h1 : CodeOK P K ng n c x) {call : Caller} {lf : Nat} (hc : CallOK P K ng call) (b : Frame) (k : List Item) (cs : List Frame) :
    ∀ (m : Nat) (σ : Env) (own : Owns) (a : Act) (w : World) (s : St), Globs ng σ → HR K σ own s.heap w → TR K σ s.tmps a → n ≤ a.tmps.size → a.defers = [] →
      loopN (exec call lf x) m s ≠ .fail → ∃ e a' w', Lands K n σ s.heap (loopN (exec call lf x) m s) e a' w' ∧ Arrives P (lone (b.at a (.code c :: .inLoop c :: k)) cs w) b k cs e a' w'
  | 0, σ, own, a, w, s, hg, hH, hT, hn, hd, hf => absurd rfl hf
  | m + 1, σ, own, a, w, s, hg, hH, hT, hn, hd, hf => by
    have hdef : loopN (exec call lf x) (m + 1) s = (exec call lf x s).andThen (loopN (exec call lf x) m) := rfl
    rw [hdef] at hf ⊢
    have hfx : exec call lf x s ≠ .fail := fun e => hf (by rw [e]; rfl)
    obtain ⟨e, a₁, w₁, hl, harr⟩ := h1 call lf hc σ own a w s hg hH hT hn hd hfx b (.inLoop c :: k) cs
    cases hx : exec call lf x s with
    | normal s' =>
      rw [hx] at hl hf
      obtain ⟨rfl, ⟨⟨σ', own', g1, g2, g3⟩, g4, g5⟩⟩ := hl
      obtain ⟨e₂, a₂, w₂, hl₂, harr₂⟩ := loop_key h1 hc b k cs m σ' own' a₁ w₁ s' (hg.mono g1.le) g2 g3 g4 g5 hf
      exact ⟨e₂, a₂, w₂, Lands.grow g1 hl₂, .of_steps (Steps.trans harr (.one step_inLoop)) harr₂⟩
    | exit id' s' => rw [hx] at hl; obtain ⟨rfl, hs⟩ := hl; exact ⟨_, a₁, w₁, ⟨rfl, hs⟩, .pass (x := .inLoop c) rfl (fun _ _ => .inl (by simp)) harr⟩
    | ret s' => rw [hx] at hl; obtain ⟨rfl, hs⟩ := hl; exact ⟨_, a₁, w₁, ⟨rfl, hs⟩, .pass (x := .inLoop c) rfl (fun _ _ => .inl (by simp)) harr⟩
    | panic v h' => rw [hx] at hl; obtain ⟨h0, vc, rfl, hs⟩ := hl; exact ⟨_, a₁, w₁, ⟨h0, vc, rfl, hs⟩, .pass (x := .inLoop c) rfl (fun _ _ => .inl (by simp)) harr⟩
    | fail => exact absurd hx hfx
theorem CodeOK.loop {c : Code} {x : AC} (h1 : CodeOK P K ng n c x) : CodeOK P K ng n (.loop c) (.loop x) := by
  intro call lf hc σ own a w s hg hH hT hn hd hf b k cs
  obtain ⟨e, a', w', hl, harr⟩ := loop_key h1 (lf := lf) hc b k cs lf σ own a w s hg hH hT hn hd hf
  exact ⟨e, a', w', hl, .of_steps (.one step_loop) harr⟩

/-! ## Functions -/
def RAOK (P : Program) (r : RA) (v : ResultVar) : Prop :=
  match v with
  | .tmp t => r = .t (posOf t)
  | .cell t ty => ∃ d i, P.underlying ty = some d ∧ P.info? ty = some i ∧ ((isAggD d = false ∧ r = .c1 (posOf t)) ∨ (isAggD d = true ∧ r = .cN (posOf t) i.size))
def RAsOK (P : Program) : List RA → List ResultVar → Prop
  | [], l => l = []
  | r :: rs, l => ∃ v vs, l = v :: vs ∧ RAOK P r v ∧ RAsOK P rs vs
structure FunOK (P : Program) (K : Ctx) (ng : Nat) (f : Nat) (fn : AFun) : Prop where
  of : ∃ func c, P.funcs[f]? = some func ∧ (func.name == "runtime.NumGoroutine") = false ∧ func.body = some c ∧ CodeOK P K ng func.ntmps c fn.code ∧
    RAsOK P fn.res func.results.toList
theorem argsT_get : ∀ (l : List AV) (i : Nat) (tm : PT AV) (j : Nat), (Opd.t (posOf j)).ev (argsT l (posOf i) tm) = if i ≤ j ∧ j < i + l.length then l[j - i]?.getD .undef else (Opd.t (posOf j)).ev tm
  | [], i, tm, j => by
    rw [if_neg (by simp; try omega)]; rfl
  | v :: l, i, tm, j => by
    show (Opd.t (posOf j)).ev (argsT l (posOf (i + 1)) (tm.set v (posOf i))) = _
    rw [argsT_get l (i + 1)]
    by_cases h : i = j
    · subst h
      rw [if_neg (by omega), if_pos (by simp)]
      rw [ev_set_same]; simp
    · by_cases h2 : i + 1 ≤ j ∧ j < i + 1 + l.length
      · rw [if_pos h2, if_pos (by simp; omega), show j - i = (j - (i + 1)) + 1 by omega]; simp
      · rw [if_neg h2, if_neg (by simp at h2 ⊢; omega), ev_set_other _ _ (fun e => h (posOf_inj e).symm)]
theorem TR.args {σ : Env} {args : List AV} {cargs : Array Value} (h : VRs K σ args cargs.toList) (m : Nat) :
    TR K σ (argsT args .h .nil) { tmps := cargs ++ Array.replicate m undef, defers := [] } := fun t => by
  have := argsT_get args 0 .nil t
  rw [show posOf 0 = Pos.h from rfl] at this
  rw [this]
  have hl : cargs.size = args.length := by have := h.length; simpa using this
  simp only [Nat.zero_le, true_and, Nat.zero_add, Nat.sub_zero]
  by_cases ht : t < args.length
  · rw [if_pos ht, List.getElem?_eq_getElem ht]
    obtain ⟨y, hy, hv⟩ := h.get (List.getElem?_eq_getElem ht)
    rw [Array.getElem?_toList] at hy
    have hy' : cargs[t] = y := by rw [Array.getElem?_eq_getElem (by omega)] at hy; exact Option.some.inj hy
    have e2 : (cargs ++ Array.replicate m undef).getD t undef = y := by
      rw [Array.getD_eq_getD_getElem?, Array.getElem?_append_left (by omega), hy]; rfl
    rw [e2]; exact hv
  · rw [if_neg ht]
    have e1 : (Opd.t (posOf t)).ev (PT.nil : PT AV) = .undef := by
      simp only [Opd.ev]; rfl
    have e2 : (cargs ++ Array.replicate m undef).getD t undef = undef := by
      rw [Array.getD_eq_getD_getElem?, Array.getElem?_append_right (by omega)]
      by_cases h2 : t - cargs.size < m
      · simp [h2]
      · simp [h2]
    rw [e1, e2]
    exact VR.undef
theorem RA_ok {σ : Env} {own : Owns} {s : St} {a : Act} {w : World} (hH : HR K σ own s.heap w) (hT : TR K σ s.tmps a) {r : RA} {v : ResultVar} (h : RAOK P r v) {x : AV} (hx : r.get s = some x) :
    ∃ c, ((match v with | .tmp t => pure (a.tmps.getD t undef) | .cell t ty => do loadVar ty (← asAddr (a.tmps.getD t undef)) : Sem Value)).run P w = .ok c w ∧ VR K σ x c := by
  cases v with
  | tmp t =>
    have : r = .t (posOf t) := h
    subst this
    have hx' : some ((Opd.t (posOf t)).ev s.tmps) = some x := hx
    cases hx'
    exact ⟨_, rfl, hT t⟩
  | cell t ty =>
    obtain ⟨d, i, hd, hi, h⟩ := h
    have hTt := hT t
    have key : ∀ (f : Pos → Nat → Option AV), ((Opd.t (posOf t)).ev s.tmps).onPtr f none = some x → ∃ b off l, σ b = some l ∧ a.tmps.getD t undef = .pointer (some ⟨l.B, l.o + off, none⟩) ∧ f b off = some x := fun f hx => by
      cases hv : (Opd.t (posOf t)).ev s.tmps with
      | ptr b off =>
        rw [hv] at hx hTt
        obtain ⟨l, hl, hp⟩ := hTt
        exact ⟨b, off, l, hl, hp, hx⟩
      | _ => rw [hv] at hx; cases hx
    rcases h with ⟨ha, rfl⟩ | ⟨ha, rfl⟩
    · obtain ⟨b, off, l, hl, hp, hx⟩ := key _ hx
      obtain ⟨u, hu, hvu⟩ := hH.load1 hl hx
      refine ⟨u, ?_, hvu⟩
      simp [hp, asAddr, loadVar, run_isAgg hd, ha, hu]
    · obtain ⟨b, off, l, hl, hp, hx⟩ := key _ hx
      obtain ⟨vs, hv, hx⟩ := onSome_eq hx
      cases hx
      obtain ⟨cs, h1, h2, h3⟩ := hH.loadN hl hv
      refine ⟨.agg cs.toArray, ?_, ⟨_, rfl, by simpa using h2⟩⟩
      have hr := run_loadVar_agg (P := P) (w := w) hd ha hi h1 h3
      simp [hp, asAddr, hr]
noncomputable def resOf (a : Act) (v : ResultVar) : Sem Value := match v with | .tmp t => pure (a.tmps.getD t undef) | .cell t ty => do loadVar ty (← asAddr (a.tmps.getD t undef))
theorem resL_ok {σ : Env} {own : Owns} {s : St} {a : Act} {w : World} (hH : HR K σ own s.heap w) (hT : TR K σ s.tmps a) : ∀ {rs : List RA} {vs : List ResultVar}, RAsOK P rs vs → ∀ {l : List AV}, resL s rs = some l →
    ∃ cs, (vs.mapM (resOf a)).run P w = .ok cs w ∧ VRs K σ l cs
  | [], vs, h, l, hl => by
    simp only [RAsOK] at h; subst h
    have hl' : some [] = some l := hl
    cases hl'
    exact ⟨[], rfl, rfl⟩
  | r :: rs, _, ⟨v, vs, rfl, h1, h2⟩, l, hl => by
    have hl' : onSome (r.get s) (fun v => onSome (resL s rs) (fun l => some (v :: l)) none) none = some l := hl
    obtain ⟨x, hx, hl'⟩ := onSome_eq hl'
    obtain ⟨l', hl2, hl'⟩ := onSome_eq hl'
    cases hl'
    obtain ⟨c, k1, k2⟩ := RA_ok hH hT h1 hx
    obtain ⟨cs, k3, k4⟩ := resL_ok hH hT h2 hl2
    refine ⟨c :: cs, ?_, VRs.cons k2 k4⟩
    rw [List.mapM_cons]
    have k1' : (resOf a v).run P w = .ok c w := k1
    simp only [Sem.run_bind, k1', Result.andThen_ok, k3, Sem.run_pure]
theorem results_ok {σ : Env} {own : Owns} {s : St} {a : Act} {w : World} (hH : HR K σ own s.heap w) (hT : TR K σ s.tmps a) {rs : List RA} {func : Func} (h : RAsOK P rs func.results.toList) {l : List AV} (hl : resL s rs = some l) :
    ∃ c, (results func a.tmps).run P w = .ok c w ∧ VR K σ (oneV l) c := by
  obtain ⟨cs, h1, h2⟩ := resL_ok hH hT h hl
  refine ⟨if h : cs.toArray.size = 1 then cs.toArray[0] else .tuple cs.toArray, ?_, ?_⟩
  · have hm : (func.results.mapM (resOf a)).run P w = .ok cs.toArray w := by
      rw [Array.mapM_eq_mapM_toList]
      show ((func.results.toList.mapM (resOf a)) >>= fun x => pure x.toArray).run P w = _
      simp only [Sem.run_bind, h1, Result.andThen_ok, Sem.run_pure]
    have he : results func a.tmps = (do let vs ← func.results.mapM (resOf a); pure (if h : vs.size = 1 then vs[0] else .tuple vs)) := rfl
    rw [he]
    simp only [Sem.run_bind, hm, Result.andThen_ok, Sem.run_pure]
  · have hlen := h2.length
    match l, cs, h2, hlen with
    | [], cs, h2, hlen =>
      have : cs = [] := by simpa using hlen
      subst this
      exact ⟨#[], by simp, rfl⟩
    | [x], cs, h2, hlen =>
      obtain ⟨y, ys, rfl, h3, h4⟩ := h2
      have : ys = [] := by simpa using hlen
      subst this
      show VR K σ x _
      simpa using h3
    | x :: y :: l, cs, h2, hlen =>
      refine ⟨cs.toArray, ?_, by simpa using h2⟩
      rw [dif_neg (by simp [hlen])]
theorem callF_ok {F : Nat → Option AFun} (hF : ∀ f fn, F f = some fn → FunOK P K ng f fn) (lf : Nat) : ∀ m, CallOK P K ng (callF F lf m)
  | 0 => fun σ own w h f args cargs hg hH ha hf => absurd rfl hf
  | m + 1 => fun σ own w h f args cargs hg hH ha hf => by
    have hdef : callF F lf (m + 1) f args h = onSome (F f) (fun fn => fn.ends (exec (callF F lf m) lf fn.code ⟨argsT args .h .nil, h⟩)) .fail := rfl
    rw [hdef] at hf ⊢
    cases hfn : F f with
    | none => rw [hfn] at hf; exact absurd rfl hf
    | some fn =>
      rw [hfn] at hf
      obtain ⟨func, c, h1, hnm, h2, h3, h4⟩ := hF f fn hfn
      have hf' : fn.ends (exec (callF F lf m) lf fn.code ⟨argsT args .h .nil, h⟩) ≠ .fail := hf
      show ComesTo P f cargs w (Back K σ h (fn.ends (exec (callF F lf m) lf fn.code ⟨argsT args .h .nil, h⟩)))
      have hfx : exec (callF F lf m) lf fn.code ⟨argsT args .h .nil, h⟩ ≠ .fail := fun e => hf' (by rw [e]; rfl)
      refine .inl ⟨fun args w => by simp [callFunc, h1, hnm, h2, show ¬ func.name = "runtime.NumGoroutine" from fun e => by rw [e] at hnm; simp at hnm], ?_⟩
      refine calls_of_wp h1 h2 (wp_mono (h3 _ lf (callF_ok hF lf m) σ own _ w _ hg hH (TR.args ha _) (by simp; omega) rfl hfx) fun e a' w' hl => ?_)
      cases hx : exec (callF F lf m) lf fn.code ⟨argsT args .h .nil, h⟩ with
      | normal s' =>
        rw [hx] at hl hf'
        obtain ⟨rfl, ⟨⟨σ', own', g1, g2, g3⟩, g4, g5⟩⟩ := hl
        have hdn : fn.done s' ≠ .fail := hf'
        have : ∃ l, resL s' fn.res = some l := by
          cases hr : resL s' fn.res with
          | none => exact absurd (by show onSome (resL s' fn.res) _ _ = _; rw [hr]; rfl) hdn
          | some l => exact ⟨l, rfl⟩
        obtain ⟨l, hr⟩ := this
        obtain ⟨cv, k1, k2⟩ := results_ok g2 g3 h4 hr
        have he : fn.ends (.normal s') = .ok (oneV l, s'.heap) := by show onSome (resL s' fn.res) _ _ = _; rw [hr]; rfl
        rw [he]
        exact ⟨g5, cv, k1, cv, rfl, σ', own', k2, g1, g2⟩
      | ret s' =>
        rw [hx] at hl hf'
        obtain ⟨rfl, ⟨⟨σ', own', g1, g2, g3⟩, g4, g5⟩⟩ := hl
        have hdn : fn.done s' ≠ .fail := hf'
        have : ∃ l, resL s' fn.res = some l := by
          cases hr : resL s' fn.res with
          | none => exact absurd (by show onSome (resL s' fn.res) _ _ = _; rw [hr]; rfl) hdn
          | some l => exact ⟨l, rfl⟩
        obtain ⟨l, hr⟩ := this
        obtain ⟨cv, k1, k2⟩ := results_ok g2 g3 h4 hr
        have he : fn.ends (.ret s') = .ok (oneV l, s'.heap) := by show onSome (resL s' fn.res) _ _ = _; rw [hr]; rfl
        rw [he]
        exact ⟨g5, cv, k1, cv, rfl, σ', own', k2, g1, g2⟩
      | exit id s' => rw [hx] at hf'; exact absurd rfl hf'
      | panic v h' =>
        rw [hx] at hl
        obtain ⟨h0, vc, rfl, hs⟩ := hl
        exact ⟨h0, vc, rfl, hs⟩
      | fail => exact absurd hx hfx
end
end Go.Eng
set_option linter.unusedVariables false
set_option linter.unusedSimpArgs false
namespace Go.Eng
open Go.RowKit

/-! ## A table of types -/
inductive TK where
  | bool | str | int (k : IntKind) | ptr (e : Nat) | slice (e : Nat) | arr (n e : Nat) | map (k e : Nat) | iface (any : Bool) | func | struct (fs : List (Nat × Nat)) | other
  deriving Inhabited
structure TI where
  k : TK
  n : Nat
  z : AV
  deriving Inhabited
def TKD : TK → TypeDesc → Prop
  | .bool, d => d = .bool
  | .str, d => d = .string
  | .int k, d => d = .int k
  | .ptr e, d => d = .pointer e
  | .slice e, d => d = .slice e
  | .arr n e, d => d = .array n e
  | .map k e, d => d = .map k e
  | .iface any, d => ∃ ms, d = .interface ms ∧ (any = true → ms.isEmpty = true)
  | .func, d => ∃ p r v, d = .func p r v
  | .struct fs, d => ∃ f, d = .struct f ∧ f.toList.map (fun x => (x.offset, x.type)) = fs
  | .other, d => ∀ ms, d ≠ .interface ms
structure TiOK (P : Program) (t : Nat) (ti : TI) : Prop where
  d : ∃ d, P.underlying t = some d ∧ TKD ti.k d
  i : ∃ i z, P.info? t = some i ∧ i.size = ti.n ∧ i.zero = some z ∧ i.bytes ≤ 16777216 ∧ CV1 ti.z z ∧ (cellsOf ti.z).length = ti.n
def TOK (P : Program) (T : Nat → Option TI) : Prop := ∀ t ti, T t = some ti → TiOK P t ti
def TK.agg (k : TK) : Option Bool := match k with | .struct _ => some true | .arr _ _ => some true | .other => none | _ => some false
theorem agg_ok {k : TK} {d : TypeDesc} (h : TKD k d) {b : Bool} (hb : k.agg = some b) : isAggD d = b := by
  cases k <;> simp only [TKD] at h <;> cases hb <;> first | (subst h; rfl) | (obtain ⟨_, rfl, _⟩ := h; rfl) | (obtain ⟨_, _, _, rfl⟩ := h; rfl)
def TK.notIface (k : TK) : Bool := match k with | .iface _ => false | _ => true
theorem notIface_ok {k : TK} {d : TypeDesc} (h : TKD k d) (hb : k.notIface = true) : ∀ m, d ≠ .interface m := by
  cases k <;> simp only [TKD] at h <;> first | (cases hb; done) | (subst h; intro m e; cases e) | (obtain ⟨_, rfl, _⟩ := h; intro m e; cases e) | (obtain ⟨_, _, _, rfl⟩ := h; intro m e; cases e) | exact h
noncomputable def places (T : Nat → Option TI) : List (Nat × Nat) → Option (List (Nat × Nat))
  | [] => some []
  | (off, t) :: fs => (T t).bind fun i => (places T fs).bind fun l => some ((off, i.n) :: l)
theorem places_ok {P : Program} {T : Nat → Option TI} (hT : TOK P T) : ∀ {fs : List Field} {pl : List (Nat × Nat)}, places T (fs.map fun x => (x.offset, x.type)) = some pl →
    fs.mapM (fun f => (P.info? f.type).map fun i => (f.offset, i.size)) = some pl
  | [], pl, h => by cases h; rfl
  | f :: fs, pl, h => by
    obtain ⟨i, h1, h⟩ := Option.bind_eq_some_iff.1 (show (T f.type).bind (fun i => (places T (fs.map fun x => (x.offset, x.type))).bind fun l => some ((f.offset, i.n) :: l)) = some pl from h)
    obtain ⟨l, h2, h⟩ := Option.bind_eq_some_iff.1 h
    cases h
    obtain ⟨j, z, k1, k2, _⟩ := (hT _ _ h1).i
    simp [List.mapM_cons, k1, k2, places_ok hT h2]

/-! ## What is known of values that are not looked into -/
structure PO where
  l : List Nat
  O : Op → List AV → Option AV
def orcArgs : Op → List Operand
  | .binOp _ _ x y _ => [x, y]
  | .convert _ _ x => [x]
  | .call c => c.args.toList
  | _ => []
def OrcOK (P : Program) (K : Ctx) (O : Op → List AV → Option AV) : Prop := ∀ (op : Op) (vs : List AV) (z : AV), O op vs = some z →
  ∀ (σ : Env) (ρ : Operand → Value) (w : World) (dst : Option Tmp) (ty : TypeId) (pos : String) (af : Array Edge) (gd : Option (Nat × Bool)), VRs K σ vs ((orcArgs op).map ρ) →
    ∃ vc, (execOp ρ ⟨dst, op, ty, pos, af, gd⟩).run P w = .ok (.value vc) w ∧ VR K σ z vc
structure POK (P : Program) (K : Ctx) (po : PO) : Prop where
  ptr : PtrsOK P po.l
  orc : OrcOK P K po.O
noncomputable def orO (O : List AV → Option AV) (xs : List Opd) (D : Option Pos) (r : Run) : Run := fun call s =>
  Out.rec (motive := fun _ => Out St) Out.ok Out.panic (onSome (O (evL xs s.tmps)) (fun v => setD D v s) .fail) (r call s)
theorem ok_orc {P : Program} {K : Ctx} {σ : Env} {own : Owns} {O : Op → List AV → Option AV} {xs : List Opd} {r : Run} {call : Caller} {s s' : St} {w : World} {ρ : Operand → Value} {dst : Option Tmp} {op : Op} {ty : TypeId} {pos : String} {af : Array Edge} {gd : Option (Nat × Bool)}
    (hO : OrcOK P K O) (H : HR K σ own s.heap w) (hx : VRs K σ (evL xs s.tmps) ((orcArgs op).map ρ)) (hr : orO (O op) xs (dP dst) r call s = .ok s')
    (h : r call s = .ok s' → StillR P K σ ⟨dst, op, ty, pos, af, gd⟩ ρ w s s') : StillR P K σ ⟨dst, op, ty, pos, af, gd⟩ ρ w s s' := by
  have hdef : orO (O op) xs (dP dst) r call s = Out.rec (motive := fun _ => Out St) Out.ok Out.panic (onSome (O op (evL xs s.tmps)) (fun v => setD (dP dst) v s) .fail) (r call s) := rfl
  rw [hdef] at hr
  cases hc : r call s with
  | ok s'' => rw [hc] at hr; cases hr; exact h hc
  | panic v hh => rw [hc] at hr; cases hr
  | fail =>
    rw [hc] at hr
    obtain ⟨z, h1, h2⟩ := onSome_ok (show onSome (O op (evL xs s.tmps)) (fun v => setD (dP dst) v s) .fail = .ok s' from hr)
    obtain ⟨vc, h3, h4⟩ := hO op _ z h1 σ ρ w dst ty pos af gd hx
    exact StillR.pure H h3 h4 h2
/-! ## Compiling -/
noncomputable def pureR (r : Run) : Run := fun call s => Out.rec (motive := fun _ => Out St) Out.ok (fun _ _ => .fail) .fail (r call s)
section
variable {P : Program} {K : Ctx} {ng : Nat} {cst : Value → Option AV} {o : Oper} {r : Run}
theorem OpOK.of_pure (h : ∀ (σ : Env) (own : Owns) (a : Act) (w : World) (s s' : St) (call : Caller), OR K ng cst σ s.tmps a.eval o → HR K σ own s.heap w →
    r call s = .ok s' → Res P K σ own o a.eval w s s') : OpOK P K ng cst o (pureR r) := by
  refine OpOK.of_res (fun call s v hp e => ?_) (fun σ own a w s s' call hg ho hH hr => h σ own a w s s' call ho hH ?_)
  · unfold pureR at e
    cases hr : r call s <;> rw [hr] at e <;> cases e
  · unfold pureR at hr
    cases hr' : r call s with
    | ok s'' => rw [hr'] at hr; cases hr; rfl
    | panic v h => rw [hr'] at hr; cases hr
    | fail => rw [hr'] at hr; cases hr
end
noncomputable section
variable (ng : Nat) (cst : Value → Option AV) (T : Nat → Option TI) (ptrs : PO)
def compParts (place : Nat → Option (Nat × Nat)) (size : Nat) : List (Nat × Operand) → Option (List (Nat × Nat × Opd))
  | [] => some []
  | (i, x) :: l => (opd ng cst x).bind fun X => (place i).bind fun p => if Nat.ble (Nat.add p.1 p.2) size then (compParts place size l).bind fun L => some ((p.1, p.2, X) :: L) else none
def compOpds : List Operand → Option (List Opd)
  | [] => some []
  | x :: l => (opd ng cst x).bind fun X => (compOpds l).bind fun L => some (X :: L)
def compOpt : Option Operand → Option (Option Opd)
  | none => some none
  | some x => (opd ng cst x).bind fun X => some (some X)
def keyOf (k : TK) : Option (AV → Bool) := match k with | .int k => some (keyI k) | .str => some keyS | .bool => some keyB | _ => none
def isCst (x : Operand) : Bool := match x with | .const _ => true | _ => false
def compEq (neg : Bool) (i : TI) (x y : Operand) (X Y : Opd) (D : Option Pos) : Option Run :=
  match i.k with
  | .int _ => some (rEq neg X Y D)
  | .str => some (rEq neg X Y D)
  | .bool => some (rEqB neg X Y D)
  | .ptr e => (T e).bind fun j => if Nat.beq j.n 0 then none else some (rEqP neg X Y D)
  | .slice _ => some (rEqNS neg X Y D)
  | .map _ _ => some (rEqNM neg X Y D)
  | .func => some (rEqNF neg X Y D)
  | .iface any => some (rEqI (any || isCst x || isCst y) ptrs.l neg X Y D)
  | _ => none
def compBin (op : BinOp) (t : Nat) (x y : Operand) (X Y : Opd) (D : Option Pos) : Option Run :=
  match op with
  | .add => some (rAdd X Y D) | .sub => some (rSub X Y D) | .mul => some (rMul X Y D) | .quo => some (rQuo X Y D) | .rem => some (rRem X Y D)
  | .and => some (rAnd X Y D) | .or => some (rOr X Y D) | .xor => some (rXor X Y D) | .andNot => some (rAndNot X Y D) | .shl => some (rShl X Y D) | .shr => some (rShr X Y D)
  | .lss => some (rLss X Y D) | .gtr => some (rGtr X Y D) | .leq => some (rLeq X Y D) | .geq => some (rGeq X Y D)
  | .eql => (T t).bind fun i => compEq T ptrs false i x y X Y D
  | .neq => (T t).bind fun i => compEq T ptrs true i x y X Y D
def compBStill (b : Go.Builtin) (args : List Operand) (ts : List Nat) (D : Option Pos) : Option Run :=
  match b, args, ts with
  | .len, [x], [t] => (opd ng cst x).bind fun X => (T t).bind fun i => match i.k with | .str => some (rLenS X D) | .slice _ => some (rLenL X D) | .map _ _ => some (rLenM X D) | _ => none
  | .cap, [x], [t] => (opd ng cst x).bind fun X => (T t).bind fun i => match i.k with | .slice _ => some (rCap X D) | _ => none
  | .min, [x, y], [_, _] => (opd ng cst x).bind fun X => (opd ng cst y).bind fun Y => some (rMin X Y D)
  | .max, [x, y], [_, _] => (opd ng cst x).bind fun X => (opd ng cst y).bind fun Y => some (rMax X Y D)
  | _, _, _ => none
def compBEff (b : Go.Builtin) (args : List Operand) (ts : List Nat) (D : Option Pos) : Option Run :=
  match b, args, ts with
  | .append, [x, y], [t, u] => (opd ng cst x).bind fun X => (opd ng cst y).bind fun Y => (T t).bind fun i => (T u).bind fun j => match i.k with
      | .slice e => (T e).bind fun ei => if Nat.beq ei.n 0 then none else match j.k with
          | .slice _ => some (rAppend ei.n X Y D)
          | .str => if Nat.beq ei.n 1 then some (rAppendS X Y D) else none
          | _ => none
      | _ => none
  | _, _, _ => none
def compStill (D : Option Pos) (op : Op) : Option Run :=
  match op with
  | .move x => (opd ng cst x).bind fun X => some (rMove X D)
  | .assign x => (opd ng cst x).bind fun X => some (rMove X D)
  | .pick c a b => (opd ng cst c).bind fun C => (opd ng cst a).bind fun A => (opd ng cst b).bind fun B => some (rPick C A B D)
  | .build t ps => (T t).bind fun i => match i.k with
      | .struct fs => (places T fs).bind fun pl => (compParts ng cst (fun j => pl[j]?) (lenL (cellsOf i.z)) ps.toList).bind fun L => some (rBuild (cellsOf i.z) L D)
      | .arr _ e => (T e).bind fun j => (compParts ng cst (fun q => some (q * j.n, j.n)) (lenL (cellsOf i.z)) ps.toList).bind fun L => some (rBuild (cellsOf i.z) L D)
      | _ => none
  | .load t x => (opd ng cst x).bind fun X => (T t).bind fun i => i.k.agg.bind fun b => if b then some (rLoadN i.n X D) else some (rLoad1 X D)
  | .nilCheck x => (opd ng cst x).bind fun X => some (rNilCheck X D)
  | .binOp op t x y t' => (opd ng cst x).bind fun X => (opd ng cst y).bind fun Y => (compBin T ptrs op t x y X Y D).bind fun r => some (orO (ptrs.O (.binOp op t x y t')) [X, Y] D r)
  | .unOp op _ x => (opd ng cst x).bind fun X => match op with | .not => some (rNot X D) | .neg => some (rNeg X D) | .xor => some (rCom X D) | _ => none
  | .convert t u x => (opd ng cst x).bind fun X => (T t).bind fun _ => (T u).bind fun i => match i.k with | .int k => some (orO (ptrs.O (.convert t u x)) [X] D (rConvInt k X D)) | .str => some (rConvStr X D) | _ => none
  | .makeInterface t x => (opd ng cst x).bind fun X => (T t).bind fun i => if i.k.notIface then some (rIface t X D) else none
  | .makeFunc fn a b => (compOpds ng cst a.toList).bind fun A => (compOpds ng cst b.toList).bind fun B => some (rFunc fn A B D)
  | .slice t x lo hi none => (opd ng cst x).bind fun X => (compOpt ng cst lo).bind fun LO => (compOpt ng cst hi).bind fun HI => (T t).bind fun i => match i.k with
      | .str => some (rSliceS X LO HI D)
      | _ => none
  | .fieldAddr t x n => (opd ng cst x).bind fun X => (T t).bind fun i => match i.k with
      | .struct fs => (fs[n]?).bind fun f => (T f.2).bind fun j => if Nat.beq j.n 0 then none else some (rFieldAddr f.1 X D)
      | _ => none
  | .field t x n => (opd ng cst x).bind fun X => (T t).bind fun i => match i.k with
      | .struct fs => (fs[n]?).bind fun f => (T f.2).bind fun j => j.k.agg.bind fun b => if b then some (rFieldN f.1 j.n X D) else some (rField1 f.1 X D)
      | _ => none
  | .indexAddr t x y => (opd ng cst x).bind fun X => (opd ng cst y).bind fun Y => (T t).bind fun i => match i.k with
      | .slice e => (T e).bind fun j => some (rIndexAddr j.n X Y D)
      | .arr len e => (T e).bind fun j => some (rIndexAddrA len j.n X Y D)
      | _ => none
  | .index t x y => (opd ng cst x).bind fun X => (opd ng cst y).bind fun Y => (T t).bind fun i => match i.k with
      | .str => some (rIndexStr X Y D)
      | .arr len e => (T e).bind fun j => j.k.agg.bind fun b => some (rIndexArr len j.n b X Y D)
      | _ => none
  | .lookup t m k ok => (opd ng cst m).bind fun M => (opd ng cst k).bind fun X => (T t).bind fun i => match i.k with
      | .map kt et => (T kt).bind fun a => (T et).bind fun b => (keyOf a.k).bind fun kf => some (rLookup kf b.z ok M X D)
      | _ => none
  | .extract x i => (opd ng cst x).bind fun X => some (rExtract i X D)
  | .call c => match c.callee with
      | .builtin b => (compBStill ng cst T b c.args.toList c.argTypes.toList D).bind fun r => (compOpds ng cst c.args.toList).bind fun A => some (orO (ptrs.O (.call c)) A D r)
      | _ => none
  | _ => none
def compNew (D : Option Pos) (op : Op) : Option Run :=
  match op with
  | .alloc e => (T e).bind fun i => some (rAlloc (cellsOf i.z) D)
  | .box _ x => (opd ng cst x).bind fun X => some (rBox X D)
  | .buildSlice t len ps => (T t).bind fun i => match i.k with
      | .slice e => (T e).bind fun j => if Nat.beq j.n 0 then none else if Nat.ble (Nat.mul len j.n) 16777216 then
          (compParts ng cst (fun q => some (q * j.n, j.n)) (len * j.n) ps.toList).bind fun L => some (rBuildSlice len j.n (repL (cellsOf j.z) len) L D) else none
      | _ => none
  | _ => none
def compEff (D : Option Pos) (op : Op) : Option Run :=
  match op with
  | .store t x y => (opd ng cst x).bind fun X => (opd ng cst y).bind fun Y => (T t).bind fun i => some (rStore i.n X Y D)
  | .makeMap _ none => some (rMakeMap D)
  | .makeSlice t x y => (opd ng cst x).bind fun X => (opd ng cst y).bind fun Y => (T t).bind fun i => match i.k with
      | .slice e => (T e).bind fun j => if Nat.beq j.n 0 then none else some (rMakeSlice j.n (cellsOf j.z) X Y D)
      | _ => none
  | .slice t x lo hi none => (opd ng cst x).bind fun X => (compOpt ng cst lo).bind fun LO => (compOpt ng cst hi).bind fun HI => (T t).bind fun i => match i.k with
      | .slice e => (T e).bind fun j => if Nat.beq j.n 0 then none else some (rSlice j.n X LO HI D)
      | _ => none
  | .mapUpdate t m k y => (opd ng cst m).bind fun M => (opd ng cst k).bind fun X => (opd ng cst y).bind fun Y => (T t).bind fun i => match i.k with
      | .map kt _ => (T kt).bind fun a => (keyOf a.k).bind fun kf => some (rMapUpdate kf M X Y D)
      | _ => none
  | .insert t m k y => (opd ng cst m).bind fun M => (opd ng cst k).bind fun X => (opd ng cst y).bind fun Y => (T t).bind fun i => match i.k with
      | .map kt _ => (T kt).bind fun a => (keyOf a.k).bind fun kf => some (rMapUpdate kf M X Y D)
      | _ => none
  | .call c => match c.callee with
      | .builtin b => compBEff ng cst T b c.args.toList c.argTypes.toList D
      | _ => none
  | _ => none
def compPure (D : Option Pos) (op : Op) : Option Run :=
  match compStill ng cst T ptrs D op with
  | some r => some r
  | none => match compNew ng cst T D op with
    | some r => some r
    | none => compEff ng cst T D op
def compCall (D : Option Pos) (op : Op) : Option Run :=
  match op with
  | .call c => match c.callee with
      | .value (.func f) => (compOpds ng cst c.args.toList).bind fun A => some (rCall f A D)
      | .value x => (opd ng cst x).bind fun X => (compOpds ng cst c.args.toList).bind fun A => some (rCallV X A D)
      | _ => none
  | .panic x => (opd ng cst x).bind fun X => some (rPanic X)
  | _ => none
def compOp (D : Option Pos) (op : Op) : Option Run :=
  match compPure ng cst T ptrs D op with
  | some r => some (pureR r)
  | none => compCall ng cst D op
end
end Go.Eng
set_option linter.unusedVariables false
set_option linter.unusedSimpArgs false
namespace Go.Eng
open Go.RowKit

section
variable {P : Program} {K : Ctx} {ng : Nat} {cst : Value → Option AV} {T : Nat → Option TI} {ptrs : PO} {σ : Env} {tm : PT AV} {ρ : Operand → Value}
theorem bind_ok {α β : Type} {x : Option α} {f : α → Option β} {y : β} (h : x.bind f = some y) : ∃ a, x = some a ∧ f a = some y := Option.bind_eq_some_iff.1 h
theorem nbeq {m n : Nat} (h : Nat.beq m n = false) : m ≠ n := fun e => by subst e; rw [Nat.beq_refl] at h; cases h
theorem compParts_ok {place : Nat → Option (Nat × Nat)} {size : Nat} : ∀ {ps : List (Nat × Operand)} {L : List (Nat × Nat × Opd)},
    (∀ p ∈ ps, ∀ X, opd ng cst p.2 = some X → VR K σ (X.ev tm) (ρ p.2)) → compParts ng cst place size ps = some L → PartsR K σ tm ρ place size ps L
  | [], L, ho, h => by cases h; rfl
  | (i, x) :: ps, L, ho, h => by
    unfold compParts at h
    obtain ⟨X, h1, h⟩ := bind_ok h
    obtain ⟨p, h2, h⟩ := bind_ok h
    split at h
    · rename_i hb
      obtain ⟨L', h3, h⟩ := bind_ok h
      cases h
      exact ⟨p.1, p.2, X, L', rfl, h2, Nat.le_of_ble_eq_true hb, ho (i, x) List.mem_cons_self X h1, compParts_ok (fun q hq => ho q (List.mem_cons_of_mem _ hq)) h3⟩
    · cases h
theorem compOpds_ok : ∀ {l : List Operand} {L : List Opd}, (∀ x ∈ l, ∀ X, opd ng cst x = some X → VR K σ (X.ev tm) (ρ x)) → compOpds ng cst l = some L → OpdsR K σ tm ρ L l
  | [], L, ho, h => by cases h; rfl
  | x :: l, L, ho, h => by
    unfold compOpds at h
    obtain ⟨X, h1, h⟩ := bind_ok h
    obtain ⟨L', h2, h⟩ := bind_ok h
    cases h
    exact ⟨x, l, rfl, ho x List.mem_cons_self X h1, compOpds_ok (fun y hy => ho y (List.mem_cons_of_mem _ hy)) h2⟩
theorem compOpt_ok {m : Option Operand} {M : Option Opd} (ho : ∀ x, m = some x → ∀ X, opd ng cst x = some X → VR K σ (X.ev tm) (ρ x)) (h : compOpt ng cst m = some M) : OptR K σ tm ρ M m := by
  cases m with
  | none => cases h; rfl
  | some x =>
    obtain ⟨X, h1, h⟩ := bind_ok h
    cases h
    exact ⟨x, rfl, ho x rfl X h1⟩
theorem keyOf_ok {k : TK} {d : TypeDesc} {kf : AV → Bool} (hd : TKD k d) (h : keyOf k = some kf) : KeyF kf d := by
  cases k <;> simp only [TKD] at hd <;> cases h
  · subst hd; exact keyB_ok
  · subst hd; exact keyS_ok
  · subst hd; exact keyI_ok
theorem cells_of {Z : AV} {z : Value} (h : CV1 Z z) : CV (cellsOf Z) z.cells.toList := fun K σ => (h K σ).cells
section
variable {o : Oper} {D : Option Pos}
theorem compEq_ok {own : Owns} {w : World} {s s' : St} {call : Caller} {neg : Bool} {t t' : Nat} {i : TI} {x y : Operand} {X Y : Opd} {r : Run} {dst : Option Tmp} {ty : TypeId} {pos : String} {af : Array Edge} {gd : Option (Nat × Bool)}
    (hT : TOK P T) (hp : POK P K ptrs) (hi : TiOK P t i) (H : HR K σ own s.heap w) (hx : VR K σ (X.ev s.tmps) (ρ x)) (hy : VR K σ (Y.ev s.tmps) (ρ y))
    (h : compEq T ptrs neg i x y X Y (dP dst) = some r) (hr : r call s = .ok s') : StillR P K σ ⟨dst, .binOp (eqOp neg) t x y t', ty, pos, af, gd⟩ ρ w s s' := by
  obtain ⟨d, hd, hk⟩ := hi.d
  unfold compEq at h
  split at h <;> (try rename_i hik; rw [hik] at hk; simp only [TKD] at hk)
  · cases h; exact ok_eq H hx hy hr
  · cases h; exact ok_eq H hx hy hr
  · cases h; subst hk; exact ok_eqB H hx hy hd hr
  · subst hk
    obtain ⟨j, hj, h⟩ := bind_ok h
    split at h
    · cases h
    · rename_i hz
      cases h
      obtain ⟨ji, jz, k1, k2, _⟩ := (hT _ _ hj).i
      exact ok_eqP H hx hy hd k1 (by rw [k2]; exact (by simpa using hz)) hr
  · cases h; subst hk; exact ok_eqNS H hx hy hd hr
  · cases h; subst hk; exact ok_eqNM H hx hy hd hr
  · cases h; obtain ⟨_, _, _, rfl⟩ := hk; exact ok_eqNF H hx hy hd hr
  · cases h
    obtain ⟨ms, rfl, hm⟩ := hk
    refine ok_eqI H hx hy hd hp.ptr (fun hn => ?_) hr
    rcases Bool.or_eq_true_iff.1 hn with hn | hn
    · rcases Bool.or_eq_true_iff.1 hn with hn | hn
      · exact .inl (hm hn)
      · right; left; cases x <;> first | exact ⟨_, rfl⟩ | cases hn
    · right; right; cases y <;> first | exact ⟨_, rfl⟩ | cases hn
  · cases h
theorem compBin_ok {own : Owns} {w : World} {s s' : St} {call : Caller} {op : BinOp} {t t' : Nat} {x y : Operand} {X Y : Opd} {r : Run} {dst : Option Tmp} {ty : TypeId} {pos : String} {af : Array Edge} {gd : Option (Nat × Bool)}
    (hT : TOK P T) (hp : POK P K ptrs) (H : HR K σ own s.heap w) (hx : VR K σ (X.ev s.tmps) (ρ x)) (hy : VR K σ (Y.ev s.tmps) (ρ y))
    (h : compBin T ptrs op t x y X Y (dP dst) = some r) (hr : r call s = .ok s') : StillR P K σ ⟨dst, .binOp op t x y t', ty, pos, af, gd⟩ ρ w s s' := by
  cases op <;> simp only [compBin] at h
  case eql => obtain ⟨i, hi, h⟩ := bind_ok h; exact compEq_ok (neg := false) hT hp (hT _ _ hi) H hx hy h hr
  case neq => obtain ⟨i, hi, h⟩ := bind_ok h; exact compEq_ok (neg := true) hT hp (hT _ _ hi) H hx hy h hr
  all_goals cases h
  · exact ok_add H hx hy hr
  · exact ok_sub H hx hy hr
  · exact ok_mul H hx hy hr
  · exact ok_quo H hx hy hr
  · exact ok_rem H hx hy hr
  · exact ok_and H hx hy hr
  · exact ok_or H hx hy hr
  · exact ok_xor H hx hy hr
  · exact ok_shl H hx hy hr
  · exact ok_shr H hx hy hr
  · exact ok_andNot H hx hy hr
  · exact ok_lss H hx hy hr
  · exact ok_leq H hx hy hr
  · exact ok_gtr H hx hy hr
  · exact ok_geq H hx hy hr
theorem compBStill_ok {own : Owns} {w : World} {s s' : St} {call : Caller} {b : Go.Builtin} {args : Array Operand} {ts : Array TypeId} {r : Run} {dst : Option Tmp} {ty : TypeId} {pos : String} {af : Array Edge} {gd : Option (Nat × Bool)}
    (hT : TOK P T) (H : HR K σ own s.heap w) (ho : ∀ x ∈ args.toList, ∀ X, opd ng cst x = some X → VR K σ (X.ev s.tmps) (ρ x))
    (h : compBStill ng cst T b args.toList ts.toList (dP dst) = some r) (hr : r call s = .ok s') : StillR P K σ ⟨dst, .call ⟨.builtin b, args, ts⟩, ty, pos, af, gd⟩ ρ w s s' := by
  obtain ⟨args⟩ := args
  obtain ⟨ts⟩ := ts
  simp only at h ho
  unfold compBStill at h
  split at h
  · obtain ⟨X, h1, h⟩ := bind_ok h
    obtain ⟨i, h2, h⟩ := bind_ok h
    have hx := ho _ (by simp) X h1
    obtain ⟨d, hd, hk⟩ := (hT _ _ h2).d
    split at h <;> (try rename_i hik; rw [hik] at hk; simp only [TKD] at hk)
    · cases h; subst hk; exact ok_lenS H hx hd hr
    · cases h; subst hk; exact ok_lenL H hx hd hr
    · cases h; subst hk; exact ok_lenM H hx hd hr
    · cases h
  · obtain ⟨X, h1, h⟩ := bind_ok h
    obtain ⟨i, h2, h⟩ := bind_ok h
    have hx := ho _ (by simp) X h1
    obtain ⟨d, hd, hk⟩ := (hT _ _ h2).d
    split at h <;> (try rename_i hik; rw [hik] at hk; simp only [TKD] at hk)
    · cases h; subst hk; exact ok_cap H hx hd hr
    · cases h
  · obtain ⟨X, h1, h⟩ := bind_ok h
    obtain ⟨Y, h2, h⟩ := bind_ok h
    cases h
    exact ok_min H (ho _ (by simp) X h1) (ho _ (by simp) Y h2) hr
  · obtain ⟨X, h1, h⟩ := bind_ok h
    obtain ⟨Y, h2, h⟩ := bind_ok h
    cases h
    exact ok_max H (ho _ (by simp) X h1) (ho _ (by simp) Y h2) hr
  · cases h
theorem compBEff_ok {own : Owns} {w : World} {s s' : St} {call : Caller} {b : Go.Builtin} {args : Array Operand} {ts : Array TypeId} {r : Run} {dst : Option Tmp} {ty : TypeId} {pos : String} {af : Array Edge} {gd : Option (Nat × Bool)}
    (hT : TOK P T) (H : HR K σ own s.heap w) (ho : ∀ x ∈ args.toList, ∀ X, opd ng cst x = some X → VR K σ (X.ev s.tmps) (ρ x))
    (h : compBEff ng cst T b args.toList ts.toList (dP dst) = some r) (hr : r call s = .ok s') : Res P K σ own ⟨dst, .call ⟨.builtin b, args, ts⟩, ty, pos, af, gd⟩ ρ w s s' := by
  obtain ⟨args⟩ := args
  obtain ⟨ts⟩ := ts
  simp only at h ho
  unfold compBEff at h
  split at h
  · obtain ⟨X, h1, h⟩ := bind_ok h
    obtain ⟨Y, h2, h⟩ := bind_ok h
    obtain ⟨i, h3, h⟩ := bind_ok h
    obtain ⟨j, h4, h⟩ := bind_ok h
    have hx := ho _ (by simp) X h1
    have hy := ho _ (by simp) Y h2
    obtain ⟨d, hd, hk⟩ := (hT _ _ h3).d
    obtain ⟨d', hd', hk'⟩ := (hT _ _ h4).d
    split at h <;> (try rename_i hik; rw [hik] at hk; simp only [TKD] at hk)
    · subst hk
      obtain ⟨ei, h5, h⟩ := bind_ok h
      obtain ⟨ii, z, k1, k2, k3, k4, k5, k6⟩ := (hT _ _ h5).i
      have hzs : z.cells.size = ii.size := by have := (cells_of k5 K σ).length; rw [k6] at this; rw [k2]; simpa using this
      split at h
      · cases h
      · rename_i hz
        have hz' : ii.size ≠ 0 := by rw [k2]; exact (by simpa using hz)
        split at h <;> (try rename_i hjk; rw [hjk] at hk'; simp only [TKD] at hk')
        · cases h; subst hk'
          rw [← k2] at hr
          exact ok_append H ⟨hd, .inl ⟨_, hd'⟩, k1, k3, hzs, hz', k4⟩ hx hy hr
        · split at h
          · rename_i h1'
            cases h; subst hk'
            exact ok_appendS H ⟨hd, .inr hd', k1, k3, hzs, hz', k4⟩ (by rw [k2]; exact Nat.eq_of_beq_eq_true h1') hx hy hr
          · cases h
        · cases h
    · cases h
  · cases h
theorem compStill_ok {op : Op} {r : Run} {dst : Option Tmp} (hT : TOK P T) (hp : POK P K ptrs) (h : compStill ng cst T ptrs (dP dst) op = some r) (ty : TypeId) (pos : String) (af : Array Edge) (gd : Option (Nat × Bool))
    {own : Owns} {a : Act} {w : World} {s s' : St} {call : Caller} (ho : OR K ng cst σ s.tmps a.eval ⟨dst, op, ty, pos, af, gd⟩) (H : HR K σ own s.heap w) (hr : r call s = .ok s') : StillR P K σ ⟨dst, op, ty, pos, af, gd⟩ a.eval w s s' := by
  have mem : ∀ x ∈ op.operands, ∀ X, opd ng cst x = some X → VR K σ (X.ev s.tmps) (a.eval x) := ho
  cases op <;> simp only [compStill] at h <;> try (cases h; done)
  case move x => obtain ⟨X, h1, h⟩ := bind_ok h; cases h; exact ok_move H (mem _ (by simp [Op.operands]) X h1) hr
  case assign x => obtain ⟨X, h1, h⟩ := bind_ok h; cases h; exact ok_assign H (mem _ (by simp [Op.operands]) X h1) hr
  case pick x y z =>
    obtain ⟨X, h1, h⟩ := bind_ok h; obtain ⟨Y, h2, h⟩ := bind_ok h; obtain ⟨Z, h3, h⟩ := bind_ok h; cases h
    exact ok_pick H (mem _ (by simp [Op.operands]) X h1) (mem _ (by simp [Op.operands]) Y h2) (mem _ (by simp [Op.operands]) Z h3) hr
  case build t ps =>
    obtain ⟨i, h1, h⟩ := bind_ok h
    obtain ⟨ii, z, k1, k2, k3, k4, k5, k6⟩ := (hT _ _ h1).i
    obtain ⟨d, hd, hk⟩ := (hT _ _ h1).d
    have hps : ∀ p ∈ ps.toList, ∀ X, opd ng cst p.2 = some X → VR K σ (X.ev s.tmps) (a.eval p.2) := fun p hp => mem p.2 (by simp only [Op.operands]; simp; exact ⟨p.1, by simpa using hp⟩)
    split at h <;> (try rename_i hik; rw [hik] at hk; simp only [TKD] at hk)
    · obtain ⟨f, rfl, hf⟩ := hk
      subst hf
      obtain ⟨pl, h2, h⟩ := bind_ok h
      obtain ⟨L, h3, h⟩ := bind_ok h
      cases h
      have := compParts_ok hps h3
      rw [lenL_eq] at this
      refine ok_build (it := ii) (cells_of k5) (built_struct k1 k3 hd (places_ok hT h2)) ?_ H hr
      simpa using this
    · subst hk
      obtain ⟨j, h2, h⟩ := bind_ok h
      obtain ⟨L, h3, h⟩ := bind_ok h
      cases h
      obtain ⟨ji, jz, q1, q2, _⟩ := (hT _ _ h2).i
      have := compParts_ok hps h3
      rw [lenL_eq] at this
      refine ok_build (it := ii) (cells_of k5) (built_array k1 k3 hd q1) ?_ H hr
      rw [q2]; exact this
    · cases h
  case load t x =>
    obtain ⟨X, h1, h⟩ := bind_ok h; obtain ⟨i, h2, h⟩ := bind_ok h; obtain ⟨b, h3, h⟩ := bind_ok h
    obtain ⟨ii, z, k1, k2, k3, k4, k5, k6⟩ := (hT _ _ h2).i
    obtain ⟨d, hd, hk⟩ := (hT _ _ h2).d
    have ha := agg_ok hk h3
    have hx := mem _ (by simp [Op.operands]) X h1
    cases b with
    | true => cases h; rw [← k2] at hr; exact ok_loadN H hx hd ha k1 hr
    | false => cases h; exact ok_load1 H hx hd ha hr
  case nilCheck x => obtain ⟨X, h1, h⟩ := bind_ok h; cases h; exact ok_nilCheck H (mem _ (by simp [Op.operands]) X h1) hr
  case binOp b t x y t' =>
    obtain ⟨X, h1, h⟩ := bind_ok h; obtain ⟨Y, h2, h⟩ := bind_ok h; obtain ⟨r', h3, h⟩ := bind_ok h; cases h
    have hX := mem _ (by simp [Op.operands]) X h1
    have hY := mem _ (by simp [Op.operands]) Y h2
    exact ok_orc (xs := [X, Y]) hp.orc H (VRs.cons hX (VRs.cons hY VRs.nil)) hr fun hr => compBin_ok hT hp H hX hY h3 hr
  case unOp u t x =>
    obtain ⟨X, h1, h⟩ := bind_ok h
    have hx := mem _ (by simp [Op.operands]) X h1
    cases u <;> cases h
    · exact ok_neg H hx hr
    · exact ok_com H hx hr
    · exact ok_not H hx hr
  case convert t u x =>
    obtain ⟨X, h1, h⟩ := bind_ok h; obtain ⟨i, h2, h⟩ := bind_ok h; obtain ⟨j, h3, h⟩ := bind_ok h
    have hx := mem _ (by simp [Op.operands]) X h1
    obtain ⟨d, hd, hk⟩ := (hT _ _ h2).d
    obtain ⟨d', hd', hk'⟩ := (hT _ _ h3).d
    split at h <;> (try rename_i hik; rw [hik] at hk'; simp only [TKD] at hk')
    · cases h; subst hk'; exact ok_orc (xs := [X]) hp.orc H (VRs.cons hx VRs.nil) hr fun hr => ok_convInt H hx hd hd' hr
    · cases h; subst hk'; exact ok_convStr H hx hd hd' hr
    · cases h
  case makeInterface t x =>
    obtain ⟨X, h1, h⟩ := bind_ok h; obtain ⟨i, h2, h⟩ := bind_ok h
    obtain ⟨d, hd, hk⟩ := (hT _ _ h2).d
    split at h
    · rename_i hni; cases h; exact ok_iface hd (notIface_ok hk hni) H (mem _ (by simp [Op.operands]) X h1) hr
    · cases h
  case makeFunc fn x y =>
    obtain ⟨A, h1, h⟩ := bind_ok h; obtain ⟨B, h2, h⟩ := bind_ok h; cases h
    exact ok_func H (compOpds_ok (fun z hz => mem z (by simp only [Op.operands]; exact Array.mem_append.2 (.inl (by simpa using hz)))) h1)
      (compOpds_ok (fun z hz => mem z (by simp only [Op.operands]; exact Array.mem_append.2 (.inr (by simpa using hz)))) h2) hr
  case slice t x lo hi mx =>
    cases mx with
    | some m => cases h
    | none =>
      obtain ⟨X, h1, h⟩ := bind_ok h; obtain ⟨LO, h2, h⟩ := bind_ok h; obtain ⟨HI, h3, h⟩ := bind_ok h; obtain ⟨i, h4, h⟩ := bind_ok h
      obtain ⟨d, hd, hk⟩ := (hT _ _ h4).d
      have hx := mem _ (by simp [Op.operands]) X h1
      have hlo := compOpt_ok (fun y hy => mem y (by subst hy; simp [Op.operands])) h2
      have hhi := compOpt_ok (fun y hy => mem y (by subst hy; simp [Op.operands])) h3
      split at h <;> (try rename_i hik; rw [hik] at hk; simp only [TKD] at hk)
      · cases h; subst hk; exact ok_sliceStr (sz := 0) H hx hlo hhi hd hr
      · cases h
  case fieldAddr t x n =>
    obtain ⟨X, h1, h⟩ := bind_ok h; obtain ⟨i, h2, h⟩ := bind_ok h
    obtain ⟨d, hd, hk⟩ := (hT _ _ h2).d
    split at h <;> (try rename_i hik; rw [hik] at hk; simp only [TKD] at hk)
    · obtain ⟨f, rfl, hf⟩ := hk
      subst hf
      obtain ⟨q, h3, h⟩ := bind_ok h
      obtain ⟨j, h4, h⟩ := bind_ok h
      rw [List.getElem?_map, Option.map_eq_some_iff] at h3
      obtain ⟨g, hg, rfl⟩ := h3
      obtain ⟨ji, jz, k1, k2, k3, k4, k5, k6⟩ := (hT _ _ h4).i
      split at h
      · cases h
      · rename_i hz
        cases h
        exact ok_fieldAddr H (mem _ (by simp [Op.operands]) X h1) hd (by simpa using hg) k1 (by rw [k2]; exact (by simpa using hz)) hr
    · cases h
  case field t x n =>
    obtain ⟨X, h1, h⟩ := bind_ok h; obtain ⟨i, h2, h⟩ := bind_ok h
    obtain ⟨d, hd, hk⟩ := (hT _ _ h2).d
    split at h <;> (try rename_i hik; rw [hik] at hk; simp only [TKD] at hk)
    · obtain ⟨f, rfl, hf⟩ := hk
      subst hf
      obtain ⟨q, h3, h⟩ := bind_ok h
      obtain ⟨j, h4, h⟩ := bind_ok h
      obtain ⟨b, h5, h⟩ := bind_ok h
      rw [List.getElem?_map, Option.map_eq_some_iff] at h3
      obtain ⟨g, hg, rfl⟩ := h3
      obtain ⟨ji, jz, k1, k2, k3, k4, k5, k6⟩ := (hT _ _ h4).i
      obtain ⟨d', hd', hk'⟩ := (hT _ _ h4).d
      have ha := agg_ok hk' h5
      cases b with
      | true => cases h; rw [← k2] at hr; exact ok_fieldN H (mem _ (by simp [Op.operands]) X h1) hd (by simpa using hg) hd' ha k1 hr
      | false => cases h; exact ok_field1 H (mem _ (by simp [Op.operands]) X h1) hd (by simpa using hg) hd' ha hr
    · cases h
  case indexAddr t x y =>
    obtain ⟨X, h1, h⟩ := bind_ok h; obtain ⟨Y, h2, h⟩ := bind_ok h; obtain ⟨i, h3, h⟩ := bind_ok h
    obtain ⟨d, hd, hk⟩ := (hT _ _ h3).d
    have hx := mem _ (by simp [Op.operands]) X h1
    have hy := mem _ (by simp [Op.operands]) Y h2
    split at h <;> (try rename_i hik; rw [hik] at hk; simp only [TKD] at hk)
    · subst hk
      obtain ⟨j, h4, h⟩ := bind_ok h
      cases h
      obtain ⟨ji, jz, k1, k2, _⟩ := (hT _ _ h4).i
      rw [← k2] at hr
      exact ok_indexAddr H hx hy hd k1 hr
    · subst hk
      obtain ⟨j, h4, h⟩ := bind_ok h
      cases h
      obtain ⟨ji, jz, k1, k2, _⟩ := (hT _ _ h4).i
      rw [← k2] at hr
      exact ok_indexAddrA H hx hy hd k1 hr
    · cases h
  case index t x y =>
    obtain ⟨X, h1, h⟩ := bind_ok h; obtain ⟨Y, h2, h⟩ := bind_ok h; obtain ⟨i, h3, h⟩ := bind_ok h
    obtain ⟨d, hd, hk⟩ := (hT _ _ h3).d
    have hx := mem _ (by simp [Op.operands]) X h1
    have hy := mem _ (by simp [Op.operands]) Y h2
    split at h <;> (try rename_i hik; rw [hik] at hk; simp only [TKD] at hk)
    · cases h; subst hk; exact ok_indexStr H hx hy hd hr
    · subst hk
      obtain ⟨j, h4, h⟩ := bind_ok h
      obtain ⟨b, h5, h⟩ := bind_ok h
      cases h
      obtain ⟨ji, jz, k1, k2, _⟩ := (hT _ _ h4).i
      obtain ⟨d', hd', hk'⟩ := (hT _ _ h4).d
      have ha := agg_ok hk' h5
      rw [← k2] at hr
      cases b with
      | true => exact ok_indexArrN H hx hy hd k1 hd' ha hr
      | false => exact ok_indexArr1 H hx hy hd k1 hd' ha hr
    · cases h
  case lookup t m k ok =>
    obtain ⟨M, h1, h⟩ := bind_ok h; obtain ⟨X, h2, h⟩ := bind_ok h; obtain ⟨i, h3, h⟩ := bind_ok h
    obtain ⟨d, hd, hk⟩ := (hT _ _ h3).d
    split at h <;> (try rename_i hik; rw [hik] at hk; simp only [TKD] at hk)
    · subst hk
      obtain ⟨b, h4, h⟩ := bind_ok h; obtain ⟨c, h5, h⟩ := bind_ok h; obtain ⟨kf, h6, h⟩ := bind_ok h; cases h
      obtain ⟨d', hd', hk'⟩ := (hT _ _ h4).d
      obtain ⟨ji, jz, k1, k2, k3, k4, k5, k6⟩ := (hT _ _ h5).i
      exact ok_lookup hd hd' (keyOf_ok hk' h6) k1 k3 k5 H (mem _ (by simp [Op.operands]) M h1) (mem _ (by simp [Op.operands]) X h2) hr
    · cases h
  case extract x i => obtain ⟨X, h1, h⟩ := bind_ok h; cases h; exact ok_extract H (mem _ (by simp [Op.operands]) X h1) hr
  case call c =>
    obtain ⟨callee, args, ts⟩ := c
    cases callee with
    | builtin b =>
      obtain ⟨r', h1, h⟩ := bind_ok h; obtain ⟨A, h2, h⟩ := bind_ok h; cases h
      have hm : ∀ x ∈ args.toList, ∀ X, opd ng cst x = some X → VR K σ (X.ev s.tmps) (a.eval x) := fun x hx => mem x (by simp only [Op.operands, Call.operands]; simpa using hx)
      exact ok_orc hp.orc H (evL_VRs (s := s) A args.toList (compOpds_ok hm h2)) hr fun hr => compBStill_ok hT H hm h1 hr
    | _ => cases h
theorem compNew_ok {op : Op} {r : Run} {dst : Option Tmp} (hT : TOK P T) (hp : POK P K ptrs) (h : compNew ng cst T (dP dst) op = some r) (ty : TypeId) (pos : String) (af : Array Edge) (gd : Option (Nat × Bool))
    {own : Owns} {a : Act} {w : World} {s s' : St} {call : Caller} (ho : OR K ng cst σ s.tmps a.eval ⟨dst, op, ty, pos, af, gd⟩) (H : HR K σ own s.heap w) (hr : r call s = .ok s') : NewR P K σ ⟨dst, op, ty, pos, af, gd⟩ a.eval w s s' := by
  have mem : ∀ x ∈ op.operands, ∀ X, opd ng cst x = some X → VR K σ (X.ev s.tmps) (a.eval x) := ho
  cases op <;> simp only [compNew] at h <;> try (cases h; done)
  case alloc e =>
    obtain ⟨i, h1, h⟩ := bind_ok h; cases h
    obtain ⟨ii, z, k1, k2, k3, k4, k5, k6⟩ := (hT _ _ h1).i
    exact ok_alloc k1 k3 (cells_of k5) hr
  case box e x => obtain ⟨X, h1, h⟩ := bind_ok h; cases h; exact ok_box (mem _ (by simp [Op.operands]) X h1) hr
  case buildSlice t len ps =>
    obtain ⟨i, h1, h⟩ := bind_ok h
    obtain ⟨d, hd, hk⟩ := (hT _ _ h1).d
    have hps : ∀ p ∈ ps.toList, ∀ X, opd ng cst p.2 = some X → VR K σ (X.ev s.tmps) (a.eval p.2) := fun p hp => mem p.2 (by simp only [Op.operands]; simp; exact ⟨p.1, by simpa using hp⟩)
    split at h <;> (try rename_i hik; rw [hik] at hk; simp only [TKD] at hk)
    · subst hk
      obtain ⟨j, h2, h⟩ := bind_ok h
      obtain ⟨ji, jz, k1, k2, k3, k4, k5, k6⟩ := (hT _ _ h2).i
      split at h
      · cases h
      · rename_i hz
        split at h
        · rename_i hle
          obtain ⟨L, h3, h⟩ := bind_ok h
          cases h
          have := compParts_ok hps h3
          rw [← k2] at this hr k6
          refine ok_buildSlice hd k1 k3 (cells_of k5) k6 (by rw [k2]; exact (by simpa using hz)) ?_ this hr
          rw [k2]; exact Nat.le_of_ble_eq_true hle
        · cases h
    · cases h
theorem compEff_ok {op : Op} {r : Run} {dst : Option Tmp} (hT : TOK P T) (hp : POK P K ptrs) (h : compEff ng cst T (dP dst) op = some r) (ty : TypeId) (pos : String) (af : Array Edge) (gd : Option (Nat × Bool))
    {own : Owns} {a : Act} {w : World} {s s' : St} {call : Caller} (ho : OR K ng cst σ s.tmps a.eval ⟨dst, op, ty, pos, af, gd⟩) (H : HR K σ own s.heap w) (hr : r call s = .ok s') : Res P K σ own ⟨dst, op, ty, pos, af, gd⟩ a.eval w s s' := by
  have mem : ∀ x ∈ op.operands, ∀ X, opd ng cst x = some X → VR K σ (X.ev s.tmps) (a.eval x) := ho
  cases op <;> simp only [compEff] at h <;> try (cases h; done)
  case store t x y =>
    obtain ⟨X, h1, h⟩ := bind_ok h; obtain ⟨Y, h2, h⟩ := bind_ok h; obtain ⟨i, h3, h⟩ := bind_ok h; cases h
    obtain ⟨ii, z, k1, k2, k3, k4, k5, k6⟩ := (hT _ _ h3).i
    rw [← k2] at hr
    exact ok_store H (mem _ (by simp [Op.operands]) X h1) (mem _ (by simp [Op.operands]) Y h2) k1 hr
  case makeMap t m =>
    cases m with
    | none => cases h; exact ok_makeMap H hr
    | some m => cases h
  case makeSlice t x y =>
    obtain ⟨X, h1, h⟩ := bind_ok h; obtain ⟨Y, h2, h⟩ := bind_ok h; obtain ⟨i, h3, h⟩ := bind_ok h
    obtain ⟨d, hd, hk⟩ := (hT _ _ h3).d
    split at h <;> (try rename_i hik; rw [hik] at hk; simp only [TKD] at hk)
    · subst hk
      obtain ⟨j, h4, h⟩ := bind_ok h
      obtain ⟨ji, jz, k1, k2, k3, k4, k5, k6⟩ := (hT _ _ h4).i
      split at h
      · cases h
      · rename_i hz
        cases h
        rw [← k2] at hr k6
        exact ok_makeSlice hd k1 k3 (cells_of k5) k6 k4 (by rw [k2]; exact (by simpa using hz)) H (mem _ (by simp [Op.operands]) X h1) (mem _ (by simp [Op.operands]) Y h2) hr
    · cases h
  case slice t x lo hi mx =>
    cases mx with
    | some m => cases h
    | none =>
      obtain ⟨X, h1, h⟩ := bind_ok h; obtain ⟨LO, h2, h⟩ := bind_ok h; obtain ⟨HI, h3, h⟩ := bind_ok h; obtain ⟨i, h4, h⟩ := bind_ok h
      obtain ⟨d, hd, hk⟩ := (hT _ _ h4).d
      have hx := mem _ (by simp [Op.operands]) X h1
      have hlo := compOpt_ok (fun y hy => mem y (by subst hy; simp [Op.operands])) h2
      have hhi := compOpt_ok (fun y hy => mem y (by subst hy; simp [Op.operands])) h3
      split at h <;> (try rename_i hik; rw [hik] at hk; simp only [TKD] at hk)
      · subst hk
        obtain ⟨j, h5, h⟩ := bind_ok h
        obtain ⟨ji, jz, k1, k2, k3, k4, k5, k6⟩ := (hT _ _ h5).i
        split at h
        · cases h
        · rename_i hz
          cases h
          rw [← k2] at hr
          exact ok_slice H hx hlo hhi hd k1 (by rw [k2]; exact (by simpa using hz)) hr
      · cases h
  case mapUpdate t m k y =>
    obtain ⟨M, h1, h⟩ := bind_ok h; obtain ⟨X, h2, h⟩ := bind_ok h; obtain ⟨Y, h3, h⟩ := bind_ok h; obtain ⟨i, h4, h⟩ := bind_ok h
    obtain ⟨d, hd, hk⟩ := (hT _ _ h4).d
    split at h <;> (try rename_i hik; rw [hik] at hk; simp only [TKD] at hk)
    · subst hk
      obtain ⟨b, h5, h⟩ := bind_ok h; obtain ⟨kf, h6, h⟩ := bind_ok h; cases h
      obtain ⟨d', hd', hk'⟩ := (hT _ _ h5).d
      exact ok_mapUpdate (.inl rfl) hd hd' (keyOf_ok hk' h6) H (mem _ (by simp [Op.operands]) M h1) (mem _ (by simp [Op.operands]) X h2) (mem _ (by simp [Op.operands]) Y h3) hr
    · cases h
  case insert t m k y =>
    obtain ⟨M, h1, h⟩ := bind_ok h; obtain ⟨X, h2, h⟩ := bind_ok h; obtain ⟨Y, h3, h⟩ := bind_ok h; obtain ⟨i, h4, h⟩ := bind_ok h
    obtain ⟨d, hd, hk⟩ := (hT _ _ h4).d
    split at h <;> (try rename_i hik; rw [hik] at hk; simp only [TKD] at hk)
    · subst hk
      obtain ⟨b, h5, h⟩ := bind_ok h; obtain ⟨kf, h6, h⟩ := bind_ok h; cases h
      obtain ⟨d', hd', hk'⟩ := (hT _ _ h5).d
      exact ok_mapUpdate (.inr rfl) hd hd' (keyOf_ok hk' h6) H (mem _ (by simp [Op.operands]) M h1) (mem _ (by simp [Op.operands]) X h2) (mem _ (by simp [Op.operands]) Y h3) hr
    · cases h
  case call c =>
    obtain ⟨callee, args, ts⟩ := c
    cases callee with
    | builtin b => exact compBEff_ok hT H (fun x hx => mem x (by simp only [Op.operands, Call.operands]; simpa using hx)) h hr
    | _ => cases h
theorem compPure_ok {op : Op} {r : Run} {dst : Option Tmp} (hT : TOK P T) (hp : POK P K ptrs) (h : compPure ng cst T ptrs (dP dst) op = some r) (ty : TypeId) (pos : String) (af : Array Edge) (gd : Option (Nat × Bool)) :
    OpOK P K ng cst ⟨dst, op, ty, pos, af, gd⟩ (pureR r) := by
  refine OpOK.of_pure fun σ own a w s s' call ho H hr => ?_
  unfold compPure at h
  cases h1 : compStill ng cst T ptrs (dP dst) op with
  | some r' => rw [h1] at h; cases h; exact (compStill_ok hT hp h1 ty pos af gd ho H hr).res H
  | none =>
    rw [h1] at h
    cases h2 : compNew ng cst T (dP dst) op with
    | some r' => rw [h2] at h; cases h; exact (compNew_ok hT hp h2 ty pos af gd ho H hr).res H
    | none => rw [h2] at h; exact compEff_ok hT hp h ty pos af gd ho H hr
end
end
end Go.Eng
set_option linter.unusedVariables false
set_option linter.unusedSimpArgs false
namespace Go.Eng
open Go.RowKit

section
variable {P : Program} {K : Ctx} {ng : Nat} {cst : Value → Option AV} {T : Nat → Option TI} {ptrs : PO}
theorem evL_ok {σ : Env} {tm : PT AV} {ρ : Operand → Value} : ∀ (l : List Opd) (m : List Operand), OpdsR K σ tm ρ l m → VRs K σ (evL l tm) (m.map ρ) := fun l m h => evL_VRs (s := ⟨tm, default⟩) l m h
theorem compCall_ok {op : Op} {r : Run} {dst : Option Tmp} (h : compCall ng cst (dP dst) op = some r) (ty : TypeId) (pos : String) (af : Array Edge) (gd : Option (Nat × Bool)) :
    OpOK P K ng cst ⟨dst, op, ty, pos, af, gd⟩ r := by
  intro σ own a w s call next Q hc hg ho hH hgo
  have mem : ∀ x ∈ op.operands, ∀ X, opd ng cst x = some X → VR K σ (X.ev s.tmps) (a.eval x) := ho
  cases op <;> simp only [compCall] at h <;> try (cases h; done)
  case call c =>
    obtain ⟨callee, args, ts⟩ := c
    have hargs : ∀ {A : List Opd}, compOpds ng cst args.toList = some A → VRs K σ (evL A s.tmps) (args.map a.eval).toList := fun {A} hA => by
      have := evL_ok _ _ (compOpds_ok (fun x hx => mem x (by simp only [Op.operands, Call.operands]; exact Array.mem_append.2 (.inr (by simpa using hx)))) hA)
      simpa using this
    cases callee with
    | builtin b => cases h
    | invoke r m => cases h
    | value f =>
      have hv : ∀ {X : Opd} {A : List Opd}, opd ng cst f = some X → compOpds ng cst args.toList = some A → r = rCallV X A (dP dst) →
          Oper.wp P ⟨dst, .call ⟨.value f, args, ts⟩, ty, pos, af, gd⟩ a w next Q := fun {X A} hX hA e => by
        subst e
        have hx := mem f (by simp [Op.operands, Call.operands]) X hX
        unfold rCallV at hgo
        cases hv : X.ev s.tmps with
        | func fn ca cb =>
          rw [hv] at hgo hx
          cases fn with
          | func g =>
            obtain ⟨x, y, he, h1, h2⟩ := hx
            have hgo' : Goes K σ s dst a next Q (backTo (dP dst) s (call g (appL (appL ca (evL A s.tmps)) cb) s.heap)) := hgo
            rw [appL_eq, appL_eq] at hgo'
            refine goes_back (o := ⟨dst, .call ⟨.value f, args, ts⟩, ty, pos, af, gd⟩) (cargs := x ++ args.map a.eval ++ y) hc hg hH ?_ ?_ hgo'
            · simp only [Array.toList_append]; exact (h1.append (hargs hA)).append h2
            · simp [execOp, resolve, he, Deferred.ofValue, invoke]
          | _ => exact hgo.elim
        | _ => rw [hv] at hgo; exact hgo.elim
      cases f with
      | func g =>
        obtain ⟨A, hA, h⟩ := bind_ok h
        cases h
        refine goes_back (o := ⟨dst, .call ⟨.value (.func g), args, ts⟩, ty, pos, af, gd⟩) (cargs := args.map a.eval) hc hg hH (hargs hA) ?_ hgo
        simp [execOp, resolve, Act.eval, Deferred.ofValue, invoke]
      | tmp t => obtain ⟨X, hX, h⟩ := bind_ok h; obtain ⟨A, hA, h⟩ := bind_ok h; cases h; exact hv hX hA rfl
      | const v => obtain ⟨X, hX, h⟩ := bind_ok h; obtain ⟨A, hA, h⟩ := bind_ok h; cases h; exact hv hX hA rfl
      | global v => obtain ⟨X, hX, h⟩ := bind_ok h; obtain ⟨A, hA, h⟩ := bind_ok h; cases h; exact hv hX hA rfl
  case panic x =>
    obtain ⟨X, hX, h⟩ := bind_ok h
    cases h
    have hx := mem x (by simp [Op.operands]) X hX
    unfold rPanic at hgo
    cases hv : X.ev s.tmps with
    | iface t v =>
      rw [hv] at hgo hx
      obtain ⟨c, he, h1⟩ := hx
      have hgo' : Goes K σ s dst a next Q (.panic (.iface t v) s.heap) := hgo
      unfold Oper.wp
      have : (execOp a.eval ⟨dst, .panic x, ty, pos, af, gd⟩).run P w = .halt (.panic (.iface t c)) w := by
        simp [execOp, Instr.panic, he, goPanic]
      rw [this, Oper.upon_panic]
      exact hgo' _ w ⟨σ, own, ⟨c, rfl, h1⟩, Grow.refl _ _, hH⟩
    | _ => rw [hv] at hgo; exact hgo.elim
theorem compOp_ok {op : Op} {r : Run} {dst : Option Tmp} (hT : TOK P T) (hp : POK P K ptrs) (h : compOp ng cst T ptrs (dP dst) op = some r) (ty : TypeId) (pos : String) (af : Array Edge) (gd : Option (Nat × Bool)) :
    OpOK P K ng cst ⟨dst, op, ty, pos, af, gd⟩ r := by
  unfold compOp at h
  cases hc : compPure ng cst T ptrs (dP dst) op with
  | some r' => rw [hc] at h; cases h; exact compPure_ok hT hp hc ty pos af gd
  | none => rw [hc] at h; exact compCall_ok h ty pos af gd
theorem StepOK.fail {n : Nat} {ops : Array Oper} {o : Oper} : StepOK P K ng n ops o rFail := fun σ own a w s call next Q hcall hgl hn hT hH hgo => hgo.elim
theorem get_ev {tm : PT AV} {p : Pos} {v : AV} (h : tm.get p = some v) : (Opd.t p).ev tm = v := by simp only [Opd.ev]; rw [h]
theorem StepOK.guard {n : Nat} {ops : Array Oper} {o : Oper} {r : Run} {j t : Nat} {want : Bool} (hc : CstOK cst) (hg : o.guard = some (j, want)) (hj : (ops[j]?).bind (·.dst) = some t) (hdn : DstOK n o) (ht : t < n)
    (h : OpOK P K ng cst o r) : StepOK P K ng n ops o (rGuard (posOf t) want (dP o.dst) r) := by
  intro σ own a w s call next Q hcall hgl hn hT hH hgo
  have hTt := hT t (by
    unfold Oper.looksAt
    rw [hg]
    exact List.mem_append_right _ (by simp [hj]))
  have hlt : t < a.tmps.size := Nat.lt_of_lt_of_le ht hn
  have hy : yielded ops a.tmps j = match a.tmps.getD t undef with | .bool b => some b | _ => none := by
    unfold yielded
    rw [hj]
    simp [hlt]
    cases a.tmps[t] <;> rfl
  have skip : Goes K σ s o.dst a next Q (setD (dP o.dst) .undef s) → next (a.put o.dst undef) w := fun hgo => by
    cases hs : setD (dP o.dst) .undef s with
    | ok s' =>
      rw [hs] at hgo
      obtain ⟨s1, s2⟩ := setD_ok hs
      exact hgo .undef undef σ own w VR.undef (by rw [s2]; exact Grow.refl _ _) (by rw [s2]; exact hH) s1
    | panic _ _ => cases hd : dP o.dst <;> rw [hd] at hs <;> cases hs
    | fail => cases hd : dP o.dst <;> rw [hd] at hs <;> cases hs
  have go : Goes K σ s o.dst a next Q (r call s) → o.wp P a w next Q := fun hgo => h σ own a w s call next Q hcall hgl (hT.or hc hgl) hH hgo
  have hwd : Region.wanted o (yielded ops a.tmps) = (yielded ops a.tmps j == some want) := by simp [Region.wanted, hg]
  have hdef : rGuard (posOf t) want (dP o.dst) r call s = onSome (s.tmps.get (posOf t)) (fun v => v.onBool (ifb want (r call s) (setD (dP o.dst) .undef s)) (ifb want (setD (dP o.dst) .undef s) (r call s)) (v.onTup (fun _ => setD (dP o.dst) .undef s) .fail)) (setD (dP o.dst) .undef s) := rfl
  rw [hdef] at hgo
  cases hv : s.tmps.get (posOf t) with
  | none =>
    rw [hv] at hgo
    have he : (Opd.t (posOf t)).ev s.tmps = .undef := by simp only [Opd.ev]; rw [hv]
    rw [he] at hTt
    have hu : a.tmps.getD t undef = undef := hTt.fn VR.undef
    rw [hu] at hy
    rw [if_neg (by rw [hwd, hy]; cases want <;> decide)]
    exact skip hgo
  | some v =>
    rw [hv] at hgo
    rw [get_ev hv] at hTt
    cases v with
    | bool b =>
      have hb : a.tmps.getD t undef = .bool b := hTt
      rw [hb] at hy
      cases b <;> cases want
      · rw [if_pos (by rw [hwd, hy]; decide)]; exact go hgo
      · rw [if_neg (by rw [hwd, hy]; decide)]; exact skip hgo
      · rw [if_neg (by rw [hwd, hy]; decide)]; exact skip hgo
      · rw [if_pos (by rw [hwd, hy]; decide)]; exact go hgo
    | tup l =>
      obtain ⟨x, hx, _⟩ := hTt
      rw [hx] at hy
      have hy' : yielded ops a.tmps j = none := hy
      rw [if_neg (by rw [hwd, hy']; cases want <;> decide)]
      exact skip hgo
    | _ => exact hgo.elim
end

/-! ## Code, functions -/
noncomputable section
variable (ng : Nat) (cst : Value → Option AV) (T : Nat → Option TI) (ptrs : PO)
def compOper (n : Nat) (ops : Array Oper) (o : Oper) : Option Run :=
  match o.guard with
  | none => compOp ng cst T ptrs (dP o.dst) o.op
  | some (j, want) => ((ops[j]?).bind (·.dst)).bind fun t => if Nat.ble (Nat.succ t) n then (compOp ng cst T ptrs (dP o.dst) o.op).bind fun r => some (rGuard (posOf t) want (dP o.dst) r) else none
def dstB (n : Nat) (o : Oper) : Bool := match o.dst with | none => true | some t => Nat.ble (Nat.succ t) n
def compOps (n : Nat) (ops : Array Oper) : List Oper → Option (List Run)
  | [] => some []
  | o :: l => if dstB n o then (compOps n ops l).bind fun rs => some ((compOper ng cst T ptrs n ops o).getD rFail :: rs) else none
end
section
variable {P : Program} {K : Ctx} {ng : Nat} {cst : Value → Option AV} {T : Nat → Option TI} {ptrs : PO}
theorem dstB_ok {n : Nat} {o : Oper} (h : dstB n o = true) : DstOK n o := fun t ht => by
  unfold dstB at h; rw [ht] at h; exact Nat.le_of_ble_eq_true h
theorem compOps_ok (hc : CstOK cst) (hT : TOK P T) (hp : POK P K ptrs) {n : Nat} {ops : Array Oper} : ∀ {l : List Oper} {rs : List Run}, compOps ng cst T ptrs n ops l = some rs → StepsOK P K ng n ops l rs
  | [], rs, h => by cases h; exact .nil
  | o :: l, rs, h => by
    unfold compOps at h
    split at h
    · rename_i hd
      obtain ⟨rs', h1, h⟩ := bind_ok h
      cases h
      have hdo := dstB_ok hd
      refine .cons ?_ hdo (compOps_ok hc hT hp h1)
      cases hr : compOper ng cst T ptrs n ops o with
      | none => exact .fail
      | some r =>
        show StepOK P K ng n ops o r
        unfold compOper at hr
        obtain ⟨dst, op, ty, pos, af, gd⟩ := o
        cases gd with
        | none => exact .of_op hc rfl (compOp_ok hT hp hr ty pos af none)
        | some jw =>
          obtain ⟨j, want⟩ := jw
          simp only at hr
          obtain ⟨t, h2, hr⟩ := bind_ok hr
          split at hr
          · rename_i hlt
            obtain ⟨r', h3, hr⟩ := bind_ok hr
            cases hr
            exact .guard hc rfl h2 hdo (Nat.le_of_ble_eq_true hlt) (compOp_ok hT hp h3 ty pos af _)
          · cases hr
    · cases h
end
end Go.Eng
set_option linter.unusedVariables false
set_option linter.unusedSimpArgs false
namespace Go.Eng
open Go.RowKit

/-! ## Regions whose order is drawn -/
theorem ifb_tt {c x : Bool} (h : ifb c x false = true) : c = true ∧ x = true := by
  cases c
  · cases h
  · exact ⟨rfl, h⟩
theorem peq {a b : Pos} (h : a.eqb b = true) : a = b := Pos.eqb_iff.1 h
mutual
theorem avB_eq : ∀ {x y : AV}, avB x y = true → x = y
  | .bool a, y, h => by
    cases y with
    | bool b => cases a <;> cases b <;> first | rfl | cases h
    | _ => cases h
  | .int k a, y, h => by
    cases y with
    | int k' b =>
      obtain ⟨h1, h2⟩ := ifb_tt (show ifb (keq k k') (ieq a b) false = true from h)
      rw [ieq_eq] at h2
      rw [keq_iff h1, of_decide_eq_true h2]
    | _ => cases h
  | .str m a, y, h => by
    cases y with
    | str n b =>
      obtain ⟨h1, h2⟩ := ifb_tt (show ifb (Nat.beq m n) (Nat.beq a b) false = true from h)
      rw [Nat.eq_of_beq_eq_true h1, Nat.eq_of_beq_eq_true h2]
    | _ => cases h
  | .nilPtr, y, h => by cases y <;> first | rfl | cases h
  | .ptr b o, y, h => by
    cases y with
    | ptr b' o' =>
      obtain ⟨h1, h2⟩ := ifb_tt (show ifb (b.eqb b') (Nat.beq o o') false = true from h)
      rw [peq h1, Nat.eq_of_beq_eq_true h2]
    | _ => cases h
  | .nilSlice, y, h => by cases y <;> first | rfl | cases h
  | .slice b o n z, y, h => by
    cases y with
    | slice b' o' n' z' =>
      obtain ⟨h1, h2⟩ := ifb_tt (show ifb (b.eqb b') (ifb (Nat.beq o o') (ifb (Nat.beq n n') (Nat.beq z z') false) false) false = true from h)
      obtain ⟨h2, h3⟩ := ifb_tt h2
      obtain ⟨h3, h4⟩ := ifb_tt h3
      rw [peq h1, Nat.eq_of_beq_eq_true h2, Nat.eq_of_beq_eq_true h3, Nat.eq_of_beq_eq_true h4]
    | _ => cases h
  | .nilMap, y, h => by cases y <;> first | rfl | cases h
  | .map b, y, h => by
    cases y with
    | map b' => rw [peq (show b.eqb b' = true from h)]
    | _ => cases h
  | .nilFunc, y, h => by cases y <;> first | rfl | cases h
  | .func fn x y, v, h => by
    cases v with
    | func fn' x' y' =>
      cases fn with
      | func f =>
        cases fn' with
        | func f' =>
          obtain ⟨h1, h2⟩ := ifb_tt (show ifb (Nat.beq f f') (ifb (avsB x x') (avsB y y') false) false = true from h)
          obtain ⟨h2, h3⟩ := ifb_tt h2
          rw [Nat.eq_of_beq_eq_true h1, avsB_eq h2, avsB_eq h3]
        | _ => cases h
      | _ => cases h
    | _ => cases h
  | .nilIface, y, h => by cases y <;> first | rfl | cases h
  | .iface t x, y, h => by
    cases y with
    | iface t' x' =>
      obtain ⟨h1, h2⟩ := ifb_tt (show ifb (Nat.beq t t') (avB x x') false = true from h)
      rw [Nat.eq_of_beq_eq_true h1, avB_eq h2]
    | _ => cases h
  | .agg x, y, h => by
    cases y with
    | agg x' => rw [avsB_eq (show avsB x x' = true from h)]
    | _ => cases h
  | .tup x, y, h => by
    cases y with
    | tup x' => rw [avsB_eq (show avsB x x' = true from h)]
    | _ => cases h
  | .opq i, y, h => by
    cases y with
    | opq j => rw [Nat.eq_of_beq_eq_true (show Nat.beq i j = true from h)]
    | _ => cases h
theorem avsB_eq : ∀ {l m : List AV}, avsB l m = true → l = m
  | [], m, h => by cases m <;> first | rfl | cases h
  | x :: l, m, h => by
    cases m with
    | nil => cases h
    | cons y m =>
      obtain ⟨h1, h2⟩ := ifb_tt (show ifb (avB x y) (avsB l m) false = true from h)
      rw [avB_eq h1, avsB_eq h2]
end
theorem rowB_eq {r r' : Row} (h : rowB r r' = true) : r = r' := by
  cases r <;> cases r'
  · rename_i n l n' l'
    obtain ⟨h1, h2⟩ := ifb_tt (show ifb (Nat.beq n n') (avsB l l') false = true from h)
    rw [Nat.eq_of_beq_eq_true h1, avsB_eq h2]
  · cases h
  · cases h
  · rename_i n l n' l'
    obtain ⟨h1, h2⟩ := ifb_tt (show ifb (Nat.beq n n') (Nat.beq l l') false = true from h)
    rw [Nat.eq_of_beq_eq_true h1, Nat.eq_of_beq_eq_true h2]
theorem ownRow_eq {o : AObj} {r : Row} (h : ownRow o = some r) : o = .cells none false r := by
  cases o with
  | cells g ro r' => cases g <;> cases ro <;> cases h; rfl
  | _ => cases h

section
variable {K : Ctx} {σ : Env} {own : Owns} {h : AHeap} {w : World}
theorem HR.ghost (H : HR K σ own h w) (r : Row) : HR K σ own (h.new (.cells none false r)) w := by
  refine ⟨fun b hb => H.fresh b ?_, fun b l hl => ?_, fun b p ro r' hb => ?_, H.below, H.base, H.owned⟩
  · have hb' : h.next.num + 1 ≤ b.num := by rw [← Pos.num_succ]; exact hb
    omega
  · rw [AHeap.get_new]
    by_cases e : b = h.next
    · subst e; rw [H.fresh _ (Nat.le_refl _)] at hl; cases hl
    · rw [if_neg e]; exact H.obj b l hl
  · rw [AHeap.get_new] at hb
    by_cases e : b = h.next
    · rw [if_pos e] at hb; cases hb
    · rw [if_neg e] at hb; exact H.grp b p ro r' hb
theorem HR.late (H : HR K σ own h w) {b : Pos} {l : List AV} {c : Array Value} {e : TypeId} (hb : h.get b = some (.cells none false (mkRow l))) (hn : σ b = none) (hlt : b.num < h.next.num)
    (hc : l.length ≤ c.size) (hv : ∀ (i : Nat) (x : AV), l[i]? = some x → ∃ v, c[i]? = some v ∧ VR K σ x v) :
    HR K (σ.add b ⟨w.heap.size, 0, c.size⟩) (own.add w.heap.size (false, b)) h (w.alloc (.cells c e)) := by
  have hle : σ.le (σ.add b ⟨w.heap.size, 0, c.size⟩) := Env.le_add _ hn
  obtain ⟨m1, m2, m3⟩ := mkRow_spec l
  refine ⟨fun b' hb' => ?_, fun b' l' hl => ?_, H.grp, H.below.alloc H.base _, by have := H.base; simp; omega, fun B t hB => ?_⟩
  · rw [Env.add_other _ _ (fun e => by subst e; omega)]
    exact H.fresh b' hb'
  · by_cases e' : b' = b
    · subst e'
      rw [Env.add_same] at hl; cases hl
      rw [hb]
      refine ⟨⟨m1, by rw [m2]; exact hc, fun i hi => ?_, fun i x hx => ?_⟩, by simp, fun _ => ⟨by simp [Owns.add, tagOf], fun i hi => ?_⟩, fun e => by cases e⟩
      · simp only [Nat.zero_add]
        exact ⟨c[i], by rw [World.cell?_alloc_new]; exact Array.getElem?_eq_getElem hi⟩
      · rw [m3] at hx
        obtain ⟨v, h1, h2⟩ := hv i x hx
        simp only [Nat.zero_add]
        exact ⟨v, by rw [World.cell?_alloc_new]; exact h1, h2.mono hle⟩
      · simp only [Nat.zero_add]
        exact World.frozen?_alloc_new ..
    · rw [Env.add_other _ _ e'] at hl
      have hx := H.obj b' l' hl
      by_cases hB : l'.B < w.heap.size
      · exact hx.frame hle (Below.heap_alloc _ _ _ hB) (by simp [Owns.add]; omega) (by simp)
      · cases ho' : h.get b' with
        | none => trivial
        | some o' =>
          rw [ho'] at hx
          cases o' with
          | dead => trivial
          | cells g ro r => exact absurd hx.2.1 hB
          | map es clock => exact absurd (H.owned _ _ hx.1).2 hB
          | siter n d p => exact absurd (H.owned _ _ hx.1).2 hB
          | miter => exact hx.elim
  · unfold Owns.add at hB
    by_cases e : B = w.heap.size
    · subst e; exact ⟨H.base, by simp⟩
    · rw [if_neg e] at hB
      have := H.owned B t hB
      exact ⟨this.1, by simp; omega⟩
end

section
variable {P : Program} {K : Ctx} {ng n : Nat} {ops : Array Oper}
/-- an operation that may go early -/
structure MoverOK (P : Program) (K : Ctx) (ng n : Nat) (ops : Array Oper) (i : Nat) (o : DOp) : Prop where
  at' : ∃ oper t, ops[i]? = some oper ∧ oper.dst = some t ∧ t < n ∧ o.d = posOf t ∧
    (o.new = false → ∀ (σ : Env) (own : Owns) (a : Act) (w : World) (s s' : St) (call : Caller), Globs ng σ → n ≤ a.tmps.size → FP K σ ops oper s.tmps a → HR K σ own s.heap w → o.r call s = .ok s' →
      ∃ vc, VR K σ (o.value s') vc ∧ (if Region.wanted oper (yielded ops a.tmps) then (execOp a.eval oper).run P w = .ok (.value vc) w else vc = undef)) ∧
    (o.new = true → ∀ (σ : Env) (own : Owns) (a : Act) (w : World) (s s' : St) (call : Caller), Globs ng σ → n ≤ a.tmps.size → FP K σ ops oper s.tmps a → HR K σ own s.heap w → o.r call s = .ok s' →
      Region.wanted oper (yielded ops a.tmps) = true ∧ NewR P K σ oper a.eval w s s')

/-! ### The schedule -/
noncomputable def predsOf (ops : Array Oper) (i : Nat) : List Nat := match ops[i]? with
  | some o => (o.after.toList.filter (Region.binds .any)).map (·.on)
  | none => []
theorem ready_preds {listed : Array Bool} {i : Nat} (h : i ∈ Region.ready .any ops listed) : listed.getD i true = false ∧ i < ops.size ∧ ∀ p ∈ predsOf ops i, listed.getD p false = true := by
  rw [mem_ready] at h
  obtain ⟨h0, o, ho, hall⟩ := h
  refine ⟨h0, (Array.getElem?_eq_some_iff.1 ho).1, fun p hp => ?_⟩
  unfold predsOf at hp
  rw [ho] at hp
  obtain ⟨e, he, rfl⟩ := List.mem_map.1 hp
  obtain ⟨h1, h2⟩ := List.mem_filter.1 he
  exact hall e (by simpa using h1) h2
theorem preds_ready {listed : Array Bool} {i : Nat} (h0 : listed.getD i true = false) (hi : i < ops.size) (hp : ∀ p ∈ predsOf ops i, listed.getD p false = true) : i ∈ Region.ready .any ops listed := by
  rw [mem_ready]
  refine ⟨h0, ops[i], Array.getElem?_eq_getElem hi, fun e he hb => hp _ ?_⟩
  unfold predsOf
  rw [Array.getElem?_eq_getElem hi]
  exact List.mem_map.2 ⟨e, List.mem_filter.2 ⟨by simpa using he, hb⟩, rfl⟩
/-- the order: each behind its own -/
def Ord (ops : Array Oper) (D : List Nat) : Prop := ∀ l1 i l2, D = l1 ++ i :: l2 → ∀ p ∈ predsOf ops i, p ∈ l1
theorem Ord.snoc {D : List Nat} (h : Ord ops D) {i : Nat} (hi : ∀ p ∈ predsOf ops i, p ∈ D) : Ord ops (D ++ [i]) := by
  intro l1 j l2 e p hp
  rcases List.eq_nil_or_concat l2 with rfl | ⟨l2', x, rfl⟩
  · have := List.append_inj' e rfl
    obtain ⟨e1, e2⟩ := this
    cases e2
    subst e1
    exact hi p hp
  · have e' : D ++ [i] = (l1 ++ j :: l2') ++ [x] := by rw [e]; simp
    obtain ⟨e1, e2⟩ := List.append_inj' e' rfl
    exact h l1 j l2' e1 p hp
theorem first_out {q : Nat → Bool} : ∀ {D : List Nat}, (∃ i ∈ D, q i = false) → ∃ l1 i l2, D = l1 ++ i :: l2 ∧ (∀ j ∈ l1, q j = true) ∧ q i = false
  | [], ⟨i, hi, _⟩ => by cases hi
  | x :: D, ⟨i, hi, hq⟩ => by
    cases hx : q x with
    | false => exact ⟨[], x, D, rfl, fun j hj => (by cases hj), hx⟩
    | true =>
      rcases List.mem_cons.1 hi with e | e
      · subst e; rw [hx] at hq; cases hq
      · obtain ⟨l1, j, l2, e1, e2, e3⟩ := first_out ⟨i, e, hq⟩
        exact ⟨x :: l1, j, l2, by rw [e1]; rfl, fun k hk => by
          rcases List.mem_cons.1 hk with e | e
          · subst e; exact hx
          · exact e2 k e, e3⟩
end
end Go.Eng
set_option linter.unusedVariables false
set_option linter.unusedSimpArgs false
namespace Go.Eng
open Go.RowKit

/-- a batch of a schedule, by the operations' numbers -/
structure IB where
  mv : List Nat
  ck : List Nat
  ef : Option Nat
  deriving Inhabited
section
variable (P : Program) (K : Ctx) (ng n : Nat) (ops : Array Oper) (M : Nat → DOp)
/-- of what the operations are apart: no two write one temporary; what one reads another writes only where an edge says so -/
structure Apart : Prop where
  dst : ∀ (i j : Nat) (o o' : Oper) (t : Tmp), ops[i]? = some o → ops[j]? = some o' → o.dst = some t → o'.dst = some t → i = j
/-- what is listed in any case, once the effects E are -/
inductive Forced (E : List Nat) : Nat → Prop
  | eff {i : Nat} : i ∈ E → Forced E i
  | pred {i j : Nat} : Forced E j → i ∈ predsOf ops j → Forced E i
def LookOK (D E : List Nat) : Prop := ∀ (i j : Nat) (o o' : Oper) (t : Tmp), ops[i]? = some o → j ∈ D → ops[j]? = some o' → t ∈ o.looksAt ops → o'.dst = some t → j ∈ predsOf ops i ∨ Forced ops E i
structure BatchOK (D E mv ck : List Nat) : Prop where
  ord : Ord ops (D ++ mv)
  nodup : (D ++ mv).Nodup
  lt : ∀ i, i ∈ D ++ mv → i < ops.size
  mvs : ∀ i ∈ mv, MoverOK P K ng n ops i (M i)
  cks : ∀ i ∈ ck, MoverOK P K ng n ops i (M i)
  cov : ∀ i ∈ D ++ mv, i ∈ ck ∨ Forced ops E i
  look : LookOK ops (D ++ mv) E
/-- how the batches fit: 'none': a batch; 'some es': what may be had next, the effects es -/
inductive Sched : Option (List Nat) → List Nat → List Nat → BT → Prop
  | node {D E mv ck es : List Nat} {alts : BT} : BatchOK P K ng n ops M D E mv ck → (∀ i, i < ops.size → i ∈ D ++ mv ∨ i ∈ es ∨ ∃ p ∈ predsOf ops i, p ∉ D ++ mv) → Sched (some es) (D ++ mv) E alts → Sched none D E (.node (mv.map M) (ck.map M) alts)
  | last {D E : List Nat} : (∀ i, i < ops.size → i ∈ D) → Sched (some []) D E .last
  | alt1 {D E : List Nat} {e : Nat} {o : Oper} {r : Run} {b : BT} : e ∉ D → ops[e]? = some o → DstOK n o → StepOK P K ng n ops o r → (∀ p ∈ predsOf ops e, p ∈ D) → Sched none (D ++ [e]) (e :: E) b → Sched (some [e]) D E (.alt1 r b)
  | alt {D E es : List Nat} {e : Nat} {o : Oper} {r : Run} {b more : BT} : e ∉ D → ops[e]? = some o → DstOK n o → StepOK P K ng n ops o r → (∀ p ∈ predsOf ops e, p ∈ D) → Sched none (D ++ [e]) (e :: E) b → Sched (some es) D E more → Sched (some (e :: es)) D E (.alt r b more)
end

noncomputable def blk (v : AV) : Option Pos := match v with | .ptr b 0 => some b | .slice b 0 _ _ => some b | _ => none
theorem isNext_spec {next : Pos} {v v' : AV} {b : Pos} (h : isNext next v v' = some b) :
    (v = .ptr next 0 ∧ v' = .ptr b 0) ∨ ∃ n z, v = .slice next 0 n z ∧ v' = .slice b 0 n z := by
  unfold isNext at h
  split at h
  · split at h
    · obtain ⟨h1, h2⟩ := ifb_some h
      cases h2
      rw [peq h1]; exact .inl ⟨rfl, rfl⟩
    · cases h
  · split at h
    · obtain ⟨h1, k2⟩ := ifb_some h
      obtain ⟨h2, k3⟩ := ifb_some k2
      obtain ⟨h3, k4⟩ := ifb_some k3
      cases k4
      rw [peq h1, Nat.eq_of_beq_eq_true h2, Nat.eq_of_beq_eq_true h3]; exact .inr ⟨_, _, rfl, rfl⟩
    · cases h
  · cases h

section
variable {P : Program} {K : Ctx} {ng n : Nat} {ops : Array Oper} {M : Nat → DOp} {σ0 : Env} {h0 : AHeap}
def Pend (listed : Array Bool) (D : List Nat) (i : Nat) : Prop := i ∈ D ∧ listed.getD i false = false
structure Mid (K : Ctx) (ops : Array Oper) (M : Nat → DOp) (σ0 : Env) (h0 : AHeap) (listed : Array Bool) (D : List Nat) (G : List (Nat × Pos)) (σ : Env) (own : Owns) (s : St) (a : Act) (w : World) : Prop where
  grow : Grow σ0 σ h0 s.heap
  hr : HR K σ own s.heap w
  tr : ∀ t, (∀ i o, Pend listed D i → ops[i]? = some o → o.dst ≠ some t) → VR K σ ((Opd.t (posOf t)).ev s.tmps) (a.tmps.getD t undef)
  g1 : ∀ p ∈ G, h0.next.num ≤ p.2.num ∧ p.2.num < s.heap.next.num
  g2 : ∀ p ∈ G, listed.getD p.1 false = false → σ p.2 = none
  g3 : ∀ p ∈ G, ∀ q ∈ G, p.2 = q.2 → p.1 = q.1
  g4 : ∀ i o t, Pend listed D i → ops[i]? = some o → o.dst = some t → (M i).d = posOf t → (M i).new = true → ∀ b, blk ((M i).value s) = some b → (i, b) ∈ G
structure Lst (ops : Array Oper) (listed : Array Bool) (D E : List Nat) : Prop where
  size : listed.size = ops.size
  sub : ∀ i, listed.getD i false = true → i ∈ D
  closed : ∀ i, listed.getD i false = true → ∀ p ∈ predsOf ops i, listed.getD p false = true
  effs : ∀ e ∈ E, listed.getD e false = true
theorem Lst.forced {listed : Array Bool} {D E : List Nat} (h : Lst ops listed D E) {i : Nat} (hf : Forced ops E i) : listed.getD i false = true := by
  induction hf with
  | eff he => exact h.effs _ he
  | pred hj hp ih => exact h.closed _ ih _ hp
theorem value_set {o : DOp} {s : St} {t : Nat} (hd : o.d = posOf t) {tm : PT AV} : (Opd.t o.d).ev tm = (Opd.t (posOf t)).ev tm := by rw [hd]
/-- the movers, abstractly -/
theorem movers_ok (hA : Apart ops) {call : Caller} {listed : Array Bool} {σ : Env} {own : Owns} {a : Act} {w : World} :
    ∀ (mv : List Nat) (D : List Nat) (G : List (Nat × Pos)) (s s2 : St), (∀ i, listed.getD i false = true → i ∈ D) → (D ++ mv).Nodup → (∀ i ∈ mv, MoverOK P K ng n ops i (M i)) → Mid K ops M σ0 h0 listed D G σ own s a w →
      runMovers call (mv.map M) s = .ok s2 → ∃ G', Mid K ops M σ0 h0 listed (D ++ mv) G' σ own s2 a w
  | [], D, G, s, s2, hsub, hnd, hm, hM, h => by
    have h' : Out.ok s = .ok s2 := h
    cases h'
    exact ⟨G, by simpa using hM⟩
  | i :: mv, D, G, s, s2, hsub, hnd, hm, hM, h => by
    have hdef : runMovers call ((i :: mv).map M) s = Out.rec (motive := fun _ => Out St) (runMovers call (mv.map M)) (fun _ _ => .fail) .fail ((M i).move call s) := rfl
    rw [hdef] at h
    cases hmv : (M i).move call s with
    | panic v hp => rw [hmv] at h; cases h
    | fail => rw [hmv] at h; cases h
    | ok s1 =>
      rw [hmv] at h
      have h : runMovers call (mv.map M) s1 = .ok s2 := h
      obtain ⟨oper, t, h1, h2, h3, h4, -, -⟩ := (hm i List.mem_cons_self).at'
      have hiD : i ∉ D := fun hi => by
        rw [List.nodup_append] at hnd
        exact hnd.2.2 i hi i List.mem_cons_self rfl
      have hun : listed.getD i false = false := by
        cases hl : listed.getD i false with
        | false => rfl
        | true => exact absurd (hsub i hl) hiD
      have pend_mono : ∀ j, Pend listed D j → Pend listed (D ++ [i]) j := fun j hj => ⟨List.mem_append_left _ hj.1, hj.2⟩
      have hpi : Pend listed (D ++ [i]) i := ⟨by simp, hun⟩
      -- the state of s1
      have key : (∃ v, s1 = ⟨s.tmps.set v (posOf t), s.heap⟩ ∧ (M i).new = false) ∨
          ∃ v row, s1 = ⟨s.tmps.set v (posOf t), s.heap.new (.cells none false row)⟩ ∧ blk v = some s.heap.next := by
        unfold DOp.move at hmv
        cases hr : (M i).r call s with
        | panic v hp => rw [hr] at hmv; cases hmv
        | fail => rw [hr] at hmv; cases hmv
        | ok s' =>
          rw [hr] at hmv
          cases hnew : (M i).new with
          | false =>
            rw [hnew] at hmv
            have : Out.ok (⟨s.tmps.set ((M i).value s') (M i).d, s.heap⟩ : St) = .ok s1 := hmv
            cases this
            exact .inl ⟨_, by rw [h4], rfl⟩
          | true =>
            rw [hnew] at hmv
            change onSome (isNext s.heap.next ((M i).value s') ((M i).value s')) (fun _ => onSome (s'.heap.get s.heap.next) (fun ob => onSome (ownRow ob) (fun row => Out.ok (⟨s.tmps.set ((M i).value s') (M i).d, s.heap.new (.cells none false row)⟩ : St)) .fail) .fail) .fail = Out.ok s1 at hmv
            obtain ⟨b, q1, q2⟩ := onSome_ok hmv
            obtain ⟨ob, q3, q4⟩ := onSome_ok q2
            obtain ⟨row, q5, q6⟩ := onSome_ok q4
            cases q6
            refine .inr ⟨_, row, by rw [h4], ?_⟩
            rcases isNext_spec q1 with ⟨e1, _⟩ | ⟨_, _, e1, _⟩ <;> rw [e1] <;> rfl
      have tr' : ∀ (v : AV), ∀ u, (∀ j o, Pend listed (D ++ [i]) j → ops[j]? = some o → o.dst ≠ some u) → VR K σ ((Opd.t (posOf u)).ev (s.tmps.set v (posOf t))) (a.tmps.getD u undef) := fun v u hu => by
        have hne : u ≠ t := fun e => by subst e; exact hu i oper hpi h1 h2
        rw [ev_set_other _ _ (fun e => hne (posOf_inj e))]
        exact hM.tr u fun j o hj => hu j o (pend_mono j hj)
      have old : ∀ (v : AV) j o u, Pend listed D j → ops[j]? = some o → o.dst = some u → (M j).d = posOf u → (Opd.t (M j).d).ev (s.tmps.set v (posOf t)) = (M j).value s := fun v j o u hj ho hu hd => by
        have hne : u ≠ t := fun e => by
          subst e
          have := hA.dst j i o oper u ho h1 hu h2
          subst this
          exact hiD hj.1
        rw [hd, ev_set_other _ _ (fun e => hne (posOf_inj e))]
        unfold DOp.value; rw [hd]
      have hsub' : ∀ j, listed.getD j false = true → j ∈ D ++ [i] := fun j hj => List.mem_append_left _ (hsub j hj)
      have hnd' : (D ++ [i] ++ mv).Nodup := by simpa using hnd
      have fin : ∀ G1, Mid K ops M σ0 h0 listed (D ++ [i]) G1 σ own s1 a w → ∃ G', Mid K ops M σ0 h0 listed (D ++ i :: mv) G' σ own s2 a w := fun G1 hM1 => by
        obtain ⟨G', hG'⟩ := movers_ok hA mv (D ++ [i]) G1 s1 s2 hsub' hnd' (fun j hj => hm j (List.mem_cons_of_mem _ hj)) hM1 h
        exact ⟨G', by simpa using hG'⟩
      rcases key with ⟨v, rfl, hnew⟩ | ⟨v, row, rfl, hb⟩
      · refine fin G ⟨hM.grow, hM.hr, tr' v, hM.g1, hM.g2, hM.g3, fun j o u hj ho hu hd hn b hb => ?_⟩
        by_cases e : j = i
        · subst e; rw [hnew] at hn; cases hn
        · have hj' : Pend listed D j := ⟨by have := hj.1; simp at this; exact this.resolve_right e, hj.2⟩
          refine hM.g4 j o u hj' ho hu hd hn b ?_
          rw [← old v j o u hj' ho hu hd]; exact hb
      · refine fin ((i, s.heap.next) :: G) ⟨⟨hM.grow.le, hM.grow.keep, by have := hM.grow.next; show _ ≤ (s.heap.next.succ).num; rw [Pos.num_succ]; omega⟩, hM.hr.ghost row, tr' v, fun p hp => ?_, fun p hp hl => ?_, fun p hp q hq e => ?_, fun j o u hj ho hu hd hn b hb' => ?_⟩
        · have hs : (s.heap.new (.cells none false row)).next.num = s.heap.next.num + 1 := Pos.num_succ _
          rcases List.mem_cons.1 hp with e | e
          · subst e; exact ⟨hM.grow.next, by simp only [hs]; omega⟩
          · have := hM.g1 p e; exact ⟨this.1, by simp only [hs]; omega⟩
        · rcases List.mem_cons.1 hp with e | e
          · subst e; exact hM.hr.fresh _ (Nat.le_refl _)
          · exact hM.g2 p e hl
        · rcases List.mem_cons.1 hp with e1 | e1 <;> rcases List.mem_cons.1 hq with e2 | e2
          · subst e1; subst e2; rfl
          · subst e1; have := (hM.g1 q e2).2; rw [← e] at this; simp at this
          · subst e2; have := (hM.g1 p e1).2; rw [e] at this; simp at this
          · exact hM.g3 p e1 q e2 e
        · by_cases e : j = i
          · subst e
            have : (M j).value ⟨s.tmps.set v (posOf t), s.heap.new (.cells none false row)⟩ = v := by
              unfold DOp.value; rw [h4, ev_set_same]
            rw [this, hb] at hb'
            cases hb'
            exact List.mem_cons_self
          · have hj' : Pend listed D j := ⟨by have := hj.1; simp at this; exact this.resolve_right e, hj.2⟩
            refine List.mem_cons_of_mem _ (hM.g4 j o u hj' ho hu hd hn b ?_)
            rw [← old v j o u hj' ho hu hd]; exact hb'

theorem allSame_mem {call : Caller} {s : St} : ∀ {l : List DOp}, allSame call l s = true → ∀ o ∈ l, o.same call s = true
  | [], _, o, ho => by cases ho
  | x :: l, h, o, ho => by
    obtain ⟨h1, h2⟩ := ifb_tt (show ifb (x.same call s) (allSame call l s) false = true from h)
    rcases List.mem_cons.1 ho with e | e
    · subst e; exact h1
    · exact allSame_mem h2 o e
theorem getD_put (a : Act) {t u : Tmp} {v : Value} (h : t < a.tmps.size) : (a.put (some t) v).tmps.getD u undef = if u = t then v else a.tmps.getD u undef := by
  by_cases e : u = t
  · subst e; rw [if_pos rfl]; simp [Act.put, h]
  · rw [if_neg e]; simp [Act.put, Array.getElem?_setIfInBounds_ne (Ne.symm e)]
theorem listed_set {listed : Array Bool} {i j : Nat} (hi : i < listed.size) : (listed.setIfInBounds i true).getD j false = if j = i then true else listed.getD j false := by
  by_cases e : j = i
  · subst e; rw [if_pos rfl]; simp [hi]
  · rw [if_neg e]; simp [Array.getElem?_setIfInBounds_ne (Ne.symm e)]
/-- one pending operation is done -/
theorem mover_step (hA : Apart ops) {call : Caller} {listed : Array Bool} {D E : List Nat} {G : List (Nat × Pos)} {σ : Env} {own : Owns} {s : St} {a : Act} {w : World} (hg : Globs ng σ)
    (hL : Lst ops listed D E) (hlook : LookOK ops D E) (hM : Mid K ops M σ0 h0 listed D G σ own s a w) (hn : n ≤ a.tmps.size) {i : Nat} (hi : Pend listed D i) (hlt : i < ops.size) (hp : ∀ p ∈ predsOf ops i, listed.getD p false = true)
    (hmo : MoverOK P K ng n ops i (M i)) (hsame : (M i).same call s = true) {Q : Exit → Act → World → Prop} {N : Act → World → Prop}
    (hN : ∀ σ' own' w' vc o, ops[i]? = some o → Mid K ops M σ0 h0 (listed.setIfInBounds i true) D G σ' own' s (a.put o.dst vc) w' → σ.le σ' → N (a.put o.dst vc) w') : wpOp P ops Q i N a w := by
  obtain ⟨oper, t, h1, h2, h3, h4, hstill, hnew⟩ := hmo.at'
  have hsz : i < listed.size := by rw [hL.size]; exact hlt
  have hta : t < a.tmps.size := Nat.lt_of_lt_of_le h3 hn
  have hFP : FP K σ ops oper s.tmps a := fun u hu => hM.tr u fun j o hj ho hdst => by
    rcases hlook i j oper o u h1 hj.1 ho hu hdst with h | h
    · have := hp j h
      rw [hj.2] at this; cases this
    · have := hL.forced h
      rw [hi.2] at this; cases this
  have pend' : ∀ j, Pend (listed.setIfInBounds i true) D j ↔ Pend listed D j ∧ j ≠ i := fun j => by
    unfold Pend
    rw [listed_set hsz]
    by_cases e : j = i
    · subst e; simp
    · simp [e]
  have tr' : ∀ {σ' : Env} {vc : Value}, σ.le σ' → VR K σ' ((M i).value s) vc → ∀ u, (∀ j o, Pend (listed.setIfInBounds i true) D j → ops[j]? = some o → o.dst ≠ some u) → VR K σ' ((Opd.t (posOf u)).ev s.tmps) ((a.put oper.dst vc).tmps.getD u undef) := fun {σ' vc} hle hv u hu => by
    rw [h2, getD_put a hta]
    by_cases e : u = t
    · subst e; rw [if_pos rfl]; unfold DOp.value at hv; rw [h4] at hv; exact hv
    · rw [if_neg e]
      refine (hM.tr u fun j o hj ho hd => ?_).mono hle
      by_cases e2 : j = i
      · subst e2; rw [h1] at ho; cases ho; rw [h2] at hd; exact e (Option.some.inj hd).symm
      · exact hu j o ((pend' j).2 ⟨hj, e2⟩) ho hd
  unfold wpOp
  simp only [h1]
  unfold DOp.same at hsame
  cases hr : (M i).r call s with
  | panic v hp => rw [hr] at hsame; cases hsame
  | fail => rw [hr] at hsame; cases hsame
  | ok s' =>
    rw [hr] at hsame
    cases hnw : (M i).new with
    | false =>
      rw [hnw] at hsame
      have hv : (M i).value s' = (M i).value s := avB_eq hsame
      obtain ⟨vc, k1, k2⟩ := hstill hnw σ own a w s s' call hg hn hFP hM.hr hr
      rw [hv] at k1
      have hM' : Mid K ops M σ0 h0 (listed.setIfInBounds i true) D G σ own s (a.put oper.dst vc) w :=
        ⟨hM.grow, hM.hr, tr' (Env.le.refl σ) k1, hM.g1, fun p hp hl => hM.g2 p hp (by
          rw [listed_set hsz] at hl
          by_cases e : p.1 = i
          · rw [if_pos e] at hl; cases hl
          · rw [if_neg e] at hl; exact hl), hM.g3, fun j o u hj => hM.g4 j o u ((pend' j).1 hj).1⟩
      have := hN σ own w vc oper h1 hM' (Env.le.refl σ)
      split at k2
      · rename_i hw
        rw [if_pos hw]
        left
        unfold Oper.wp
        rw [k2]; exact this
      · rename_i hw
        rw [if_neg hw]
        subst k2
        exact this
    | true =>
      rw [hnw] at hsame
      obtain ⟨hw, l, c, e, v, vc, n1, n2, n3, n4, n5, n6⟩ := hnew hnw σ own a w s s' call hg hn hFP hM.hr hr
      have hv' : (M i).value s' = v := by unfold DOp.value; rw [h4, n5, h2]; exact ev_set_same _ _ _
      change onSome (isNext s.heap.next ((M i).value s') ((M i).value s)) (fun b => onSome (s'.heap.get s.heap.next) (fun ob => onSome (ownRow ob) (fun row =>
        onSome (s.heap.get b) (fun ob' => onSome (ownRow ob') (fun row' => rowB row row') false) false) false) false) false = true at hsame
      have os : ∀ {α : Type} {x : Option α} {f : α → Bool}, onSome x f false = true → ∃ y, x = some y ∧ f y = true := fun {α x f} h => by
        cases x with
        | none => cases h
        | some y => exact ⟨y, rfl, h⟩
      obtain ⟨b, q1, q2⟩ := os hsame
      obtain ⟨ob, q3, q4⟩ := os q2
      obtain ⟨row, q5, q6⟩ := os q4
      obtain ⟨ob', q7, q8⟩ := os q6
      obtain ⟨row', q9, q10⟩ := os q8
      rw [n6, AHeap.get_new, if_pos rfl] at q3
      cases q3
      cases q5
      have er := rowB_eq q10
      subst er
      have eo := ownRow_eq q9
      subst eo
      rw [hv'] at q1
      have hblk : blk ((M i).value s) = some b := by rcases isNext_spec q1 with ⟨_, e1⟩ | ⟨_, _, _, e1⟩ <;> rw [e1] <;> rfl
      have hG := hM.g4 i oper t hi h1 h2 h4 hnw b hblk
      obtain ⟨hb1, hb2⟩ := hM.g1 _ hG
      have hbn : σ b = none := hM.g2 _ hG hi.2
      have hle : σ.le (σ.add b ⟨w.heap.size, 0, c.size⟩) := Env.le_add _ hbn
      have hv : VR K (σ.add b ⟨w.heap.size, 0, c.size⟩) ((M i).value s) vc := by
        rcases isNext_spec q1 with ⟨e1, e2⟩ | ⟨m, z, e1, e2⟩
        · rcases n4 with ⟨f1, f2⟩ | ⟨m', z', f1, f2⟩
          · rw [e2, f2]; exact ⟨_, Env.add_same _ _ _, rfl⟩
          · rw [f1] at e1; cases e1
        · rcases n4 with ⟨f1, f2⟩ | ⟨m', z', f1, f2⟩
          · rw [f1] at e1; cases e1
          · rw [f1] at e1; cases e1
            rw [e2, f2]; exact ⟨_, Env.add_same _ _ _, by simp⟩
      have hM' : Mid K ops M σ0 h0 (listed.setIfInBounds i true) D G (σ.add b ⟨w.heap.size, 0, c.size⟩) (own.add w.heap.size (false, b)) s (a.put oper.dst vc) (w.alloc (.cells c e)) :=
        ⟨⟨hM.grow.le.trans hle, fun b' hb' => by rw [Env.add_other _ _ (fun e => by subst e; simp at hb1; omega)]; exact hM.grow.keep b' hb', hM.grow.next⟩, hM.hr.late q7 hbn hb2 n2 n3, tr' hle hv, hM.g1, fun p hp hl => by
          rw [listed_set hsz] at hl
          by_cases e : p.1 = i
          · rw [if_pos e] at hl; cases hl
          · rw [if_neg e] at hl
            rw [Env.add_other _ _ (fun e2 => e (hM.g3 p hp _ hG e2))]
            exact hM.g2 p hp hl, hM.g3, fun j o u hj => hM.g4 j o u ((pend' j).1 hj).1⟩
      rw [if_pos hw]
      left
      unfold Oper.wp
      rw [n1]
      exact hN _ _ _ vc oper h1 hM' hle
end
end Go.Eng
set_option linter.unusedVariables false
set_option linter.unusedSimpArgs false
namespace Go.Eng
open Go.RowKit

section
variable {P : Program} {K : Ctx} {ng n : Nat} {ops : Array Oper} {M : Nat → DOp} {σ0 : Env} {h0 : AHeap}
noncomputable def cnt (listed : Array Bool) : Nat := listed.toList.countP id
theorem cnt_all {listed : Array Bool} (h : cnt listed = listed.size) (i : Nat) (hi : i < listed.size) : listed.getD i false = true := by
  unfold cnt at h
  have : ∀ x ∈ listed.toList, id x = true := List.countP_eq_length.1 (by rw [h]; simp)
  have := this listed[i] (by simp)
  simpa [hi] using this
theorem cnt_le (listed : Array Bool) : cnt listed ≤ listed.size := by
  have := List.countP_le_length (p := id) (l := listed.toList)
  simpa [cnt] using this
theorem cnt_set {listed : Array Bool} {i : Nat} (hi : i < listed.size) (h : listed.getD i false = false) : cnt (listed.setIfInBounds i true) = cnt listed + 1 := by
  unfold cnt
  have hget : listed[i] = false := by simpa [hi] using h
  rw [Array.toList_setIfInBounds, List.countP_set (by simpa using hi)]
  simp [hget]
theorem lst_set {listed : Array Bool} {D E : List Nat} {i : Nat} (hL : Lst ops listed D E) (hi : i ∈ D) (hlt : i < ops.size) (hp : ∀ p ∈ predsOf ops i, listed.getD p false = true) :
    Lst ops (listed.setIfInBounds i true) D E := by
  have hsz : i < listed.size := by rw [hL.size]; exact hlt
  have up : ∀ j, listed.getD j false = true → (listed.setIfInBounds i true).getD j false = true := fun j hj => by
    rw [listed_set hsz]; split
    · rfl
    · exact hj
  refine ⟨by simp [hL.size], fun j hj => ?_, fun j hj p hpj => ?_, fun e he => up e (hL.effs e he)⟩
  · rw [listed_set hsz] at hj
    split at hj
    · rename_i e; subst e; exact hi
    · exact hL.sub j hj
  · rw [listed_set hsz] at hj
    split at hj
    · rename_i e; subst e; exact up p (hp p hpj)
    · exact up p (hL.closed j hj p hpj)
theorem lst_eff {listed : Array Bool} {D E : List Nat} {e : Nat} (hL : Lst ops listed D E) (hlt : e < ops.size) (hp : ∀ p ∈ predsOf ops e, listed.getD p false = true) :
    Lst ops (listed.setIfInBounds e true) (D ++ [e]) (e :: E) := by
  have hsz : e < listed.size := by rw [hL.size]; exact hlt
  have up : ∀ j, listed.getD j false = true → (listed.setIfInBounds e true).getD j false = true := fun j hj => by
    rw [listed_set hsz]; split
    · rfl
    · exact hj
  refine ⟨by simp [hL.size], fun j hj => ?_, fun j hj p hpj => ?_, fun x hx => ?_⟩
  · rw [listed_set hsz] at hj
    split at hj
    · rename_i e; subst e; simp
    · exact List.mem_append_left _ (hL.sub j hj)
  · rw [listed_set hsz] at hj
    split at hj
    · rename_i e; subst e; exact up p (hp p hpj)
    · exact up p (hL.closed j hj p hpj)
  · rcases List.mem_cons.1 hx with e | hx
    · subst e; rw [listed_set hsz, if_pos rfl]
    · exact up x (hL.effs x hx)
theorem getD_true {listed : Array Bool} {i : Nat} (h : listed.getD i true = false) : listed.getD i false = false ∧ i < listed.size := by
  by_cases hi : i < listed.size
  · exact ⟨by simpa [hi] using h, hi⟩
  · simp [hi] at h
theorem getD_true' {listed : Array Bool} {i : Nat} (h : listed.getD i false = false) (hi : i < listed.size) : listed.getD i true = false := by
  simpa [hi] using h
/-- where nothing is ready all that is done is listed -/
theorem none_ready {listed : Array Bool} {D E : List Nat} (hL : Lst ops listed D E) (ho : Ord ops D) (hlt : ∀ i ∈ D, i < ops.size) (hr : Region.ready .any ops listed = []) : ∀ i ∈ D, listed.getD i false = true := by
  intro i hi
  cases hq : listed.getD i false with
  | true => rfl
  | false =>
    obtain ⟨l1, j, l2, e1, e2, e3⟩ := first_out (q := fun i => listed.getD i false) ⟨i, hi, hq⟩
    have hj : j ∈ D := by rw [e1]; simp
    have : j ∈ Region.ready .any ops listed := preds_ready (getD_true' e3 (by rw [hL.size]; exact hlt j hj)) (hlt j hj) fun p hp => e2 p (ho l1 j l2 e1 p hp)
    rw [hr] at this; cases this
theorem Mid.done {listed : Array Bool} {D : List Nat} {G : List (Nat × Pos)} {σ : Env} {own : Owns} {s : St} {a : Act} {w : World} (hM : Mid K ops M σ0 h0 listed D G σ own s a w)
    (h : ∀ i ∈ D, listed.getD i false = true) (hn : n ≤ a.tmps.size) (hd : a.defers = []) : SR K n σ0 h0 s a w :=
  ⟨⟨σ, own, hM.grow, hM.hr, fun t => hM.tr t fun i o hi => absurd (h i hi.1) (by rw [hi.2]; simp)⟩, hn, hd⟩
/-- the last batch: what is pending is done in any order -/
theorem phase_last (hA : Apart ops) {call : Caller} {D E ck : List Nat} (hlook : LookOK ops D E) (ho : Ord ops D) (hlt : ∀ i, i ∈ D → i < ops.size) (hall : ∀ i, i < ops.size → i ∈ D) (hck : ∀ i ∈ ck, MoverOK P K ng n ops i (M i)) (hcov : ∀ i ∈ D, i ∈ ck ∨ Forced ops E i)
    {s : St} (hsame : allSame call (ck.map M) s = true) {Q : Exit → Act → World → Prop} (hQ : ∀ a w, SR K n σ0 h0 s a w → Q .normal a w) :
    ∀ (fuel : Nat) (listed : Array Bool) (G : List (Nat × Pos)) (σ : Env) (own : Owns) (a : Act) (w : World), cnt listed + fuel = ops.size → Globs ng σ → Lst ops listed D E → Mid K ops M σ0 h0 listed D G σ own s a w → n ≤ a.tmps.size → a.defers = [] →
      wpAny P .any ops Q fuel listed a w
  | 0, listed, G, σ, own, a, w, hc, hg, hL, hM, hn, hd => by
    have hall' : ∀ i, i < ops.size → listed.getD i false = true := fun i hi => cnt_all (by rw [hL.size]; omega) i (by rw [hL.size]; exact hi)
    refine ⟨?_, hQ a w (hM.done (fun i hi => hall' i (hlt i hi)) hn hd)⟩
    cases hr : Region.ready .any ops listed with
    | nil => rfl
    | cons i l =>
      obtain ⟨h1, h2, _⟩ := ready_preds (by rw [hr]; exact List.mem_cons_self : i ∈ Region.ready .any ops listed)
      have := hall' i h2
      rw [(getD_true h1).1] at this; cases this
  | fuel + 1, listed, G, σ, own, a, w, hc, hg, hL, hM, hn, hd => by
    refine ⟨fun hr => hQ a w (hM.done (none_ready hL ho hlt hr) hn hd), fun i hi => ?_⟩
    obtain ⟨h1, h2, h3⟩ := ready_preds hi
    obtain ⟨h4, h5⟩ := getD_true h1
    have hiD := hall i h2
    have hick : i ∈ ck := (hcov i hiD).resolve_right fun hf => by have := hL.forced hf; rw [h4] at this; cases this
    refine mover_step hA hg hL hlook hM hn ⟨hiD, h4⟩ h2 h3 (hck i hick) (allSame_mem hsame _ (List.mem_map.2 ⟨i, hick, rfl⟩)) fun σ' own' w' vc o ho' hM' hle => ?_
    exact phase_last hA hlook ho hlt hall hck hcov hsame hQ fuel _ G σ' own' _ w' (by rw [cnt_set h5 h4]; omega) (hg.mono hle) (lst_set hL hiD h2 h3) hM' (by rw [put_size]; exact hn) (by rw [put_defers]; exact hd)
theorem ptB_eq {α : Type} {f : α → α → Bool} (hf : ∀ x y, f x y = true → x = y) : ∀ {t u : PT α}, ptB f t u = true → t = u
  | .nil, u, h => by cases u <;> first | rfl | cases h
  | .node l v r, u, h => by
    cases u with
    | nil => cases h
    | node l' v' r' =>
      unfold ptB at h
      obtain ⟨h1, h2⟩ := ifb_tt h
      obtain ⟨h3, h4⟩ := ifb_tt h2
      rw [ptB_eq hf h3, ptB_eq hf h4]
      cases v <;> cases v' <;> first | rfl | (cases h1; done) | rw [hf _ _ h1]
theorem entsB_eq : ∀ {l m : List AEnt}, entsB l m = true → l = m
  | [], m, h => by cases m <;> first | rfl | cases h
  | x :: l, m, h => by
    cases m with
    | nil => cases h
    | cons y m =>
      obtain ⟨h1, h2⟩ := ifb_tt (show ifb (avB x.key y.key) (ifb (avB x.val y.val) (ifb (Nat.beq x.born y.born) (entsB l m) false) false) false = true from h)
      obtain ⟨h3, h4⟩ := ifb_tt h2
      obtain ⟨h5, h6⟩ := ifb_tt h4
      obtain ⟨k, v, b⟩ := x
      obtain ⟨k', v', b'⟩ := y
      rw [show k = k' from avB_eq h1, show v = v' from avB_eq h3, show b = b' from Nat.eq_of_beq_eq_true h5, entsB_eq h6]
theorem posOB_eq {x y : Option Pos} (h : posOB x y = true) : x = y := by
  cases x <;> cases y <;> first | rfl | (cases h; done) | rw [peq h]
theorem objB_eq {x y : AObj} (h : objB x y = true) : x = y := by
  cases x <;> cases y <;> first | rfl | (cases h; done) | skip
  · rename_i g ro r g' ro' r'
    obtain ⟨h1, h2⟩ := ifb_tt (show ifb (posOB g g') (ifb (boolB ro ro') (rowB r r') false) false = true from h)
    obtain ⟨h3, h4⟩ := ifb_tt h2
    have : ro = ro' := by cases ro <;> cases ro' <;> first | rfl | cases h3
    rw [posOB_eq h1, this, rowB_eq h4]
  · rename_i es c es' c'
    obtain ⟨h1, h2⟩ := ifb_tt (show ifb (Nat.beq c c') (entsB es es') false = true from h)
    rw [Nat.eq_of_beq_eq_true h1, entsB_eq h2]
  · rename_i a b c a' b' c'
    obtain ⟨h1, h2⟩ := ifb_tt (show ifb (Nat.beq a a') (ifb (Nat.beq b b') (Nat.beq c c') false) false = true from h)
    obtain ⟨h3, h4⟩ := ifb_tt h2
    rw [Nat.eq_of_beq_eq_true h1, Nat.eq_of_beq_eq_true h3, Nat.eq_of_beq_eq_true h4]
theorem possB_eq : ∀ {l m : List Pos}, possB l m = true → l = m
  | [], m, h => by cases m <;> first | rfl | cases h
  | x :: l, m, h => by
    cases m with
    | nil => cases h
    | cons y m =>
      obtain ⟨h1, h2⟩ := ifb_tt (show ifb (x.eqb y) (possB l m) false = true from h)
      rw [peq h1, possB_eq h2]
theorem heapB_eq {x y : AHeap} (h : heapB x y = true) : x = y := by
  obtain ⟨a, b, c⟩ := x
  obtain ⟨a', b', c'⟩ := y
  obtain ⟨h1, h2⟩ := ifb_tt (show ifb (a.eqb a') (ifb (ptB objB b b') (ptB possB c c') false) false = true from h)
  obtain ⟨h3, h4⟩ := ifb_tt h2
  rw [peq h1, ptB_eq (fun _ _ => objB_eq) h3, ptB_eq (fun _ _ => possB_eq) h4]
theorem exB_eq {x y : Ex} (h : exB x y = true) : x = y := by
  cases x <;> cases y <;> first | (cases h; done) | skip
  · rename_i s s'
    obtain ⟨a, b⟩ := s
    obtain ⟨a', b'⟩ := s'
    obtain ⟨h1, h2⟩ := ifb_tt (show ifb (ptB avB a a') (heapB b b') false = true from h)
    rw [ptB_eq (fun _ _ => avB_eq) h1, heapB_eq h2]
  · rename_i v hh v' hh'
    obtain ⟨h1, h2⟩ := ifb_tt (show ifb (avB v v') (heapB hh hh') false = true from h)
    rw [avB_eq h1, heapB_eq h2]
/-- an operation that acts, where it may be had next -/
def EffOK (P : Program) (K : Ctx) (ng n : Nat) (ops : Array Oper) (M : Nat → DOp) (σ0 : Env) (h0 : AHeap) (call : Caller) (Q : Exit → Act → World → Prop) (s : St) (D E : List Nat) (e : Nat) : Prop :=
  e ∉ D ∧ ∃ oe r, ops[e]? = some oe ∧ DstOK n oe ∧ StepOK P K ng n ops oe r ∧ (∀ p ∈ predsOf ops e, p ∈ D) ∧ r call s ≠ .fail ∧
    (∀ v h' a w vc, r call s = .panic v h' → a.defers = [] → After K σ0 h0 h' w v vc → Q (.panic [{ v := vc, recovered := false }]) a w) ∧
    (∀ s1 fuel listed G σ own a w, r call s = .ok s1 → cnt listed + fuel = ops.size → Globs ng σ → Lst ops listed (D ++ [e]) (e :: E) → Mid K ops M σ0 h0 listed (D ++ [e]) G σ own s1 a w → n ≤ a.tmps.size → a.defers = [] → wpAny P .any ops Q fuel listed a w)
/-- a batch behind which an operation acts -/
theorem phase_step (hA : Apart ops) {call : Caller} (hcall : CallOK P K ng call) {D E ck : List Nat} (hlook : LookOK ops D E) (ho : Ord ops D) (hlt : ∀ i, i ∈ D → i < ops.size) (hck : ∀ i ∈ ck, MoverOK P K ng n ops i (M i)) (hcov : ∀ i ∈ D, i ∈ ck ∨ Forced ops E i)
    {s : St} (hsame : allSame call (ck.map M) s = true) {Q : Exit → Act → World → Prop}
    (hnext : ∀ i, i < ops.size → i ∈ D ∨ EffOK P K ng n ops M σ0 h0 call Q s D E i ∨ ∃ p ∈ predsOf ops i, p ∉ D) (hex : ∃ e, EffOK P K ng n ops M σ0 h0 call Q s D E e) :
    ∀ (fuel : Nat) (listed : Array Bool) (G : List (Nat × Pos)) (σ : Env) (own : Owns) (a : Act) (w : World), cnt listed + fuel = ops.size → Globs ng σ → Lst ops listed D E → Mid K ops M σ0 h0 listed D G σ own s a w → n ≤ a.tmps.size → a.defers = [] →
      wpAny P .any ops Q fuel listed a w
  | 0, listed, G, σ, own, a, w, hc, hg, hL, hM, hn, hd => by
    obtain ⟨e, heD, oe, r, hoe, -⟩ := hex
    have : listed.getD e false = true := cnt_all (by rw [hL.size]; omega) e (by rw [hL.size]; exact (Array.getElem?_eq_some_iff.1 hoe).1)
    exact absurd (hL.sub e this) heD
  | fuel + 1, listed, G, σ, own, a, w, hc, hg, hL, hM, hn, hd => by
    refine ⟨fun hr => ?_, fun i hi => ?_⟩
    · obtain ⟨e, heD, oe, r, hoe, _, _, hpe, -⟩ := hex
      have hesz : e < ops.size := (Array.getElem?_eq_some_iff.1 hoe).1
      have heun : listed.getD e false = false := by
        cases h : listed.getD e false with
        | false => rfl
        | true => exact absurd (hL.sub e h) heD
      have hall := none_ready hL ho hlt hr
      have : e ∈ Region.ready .any ops listed := preds_ready (getD_true' heun (by rw [hL.size]; exact hesz)) hesz fun p hp => hall p (hpe p hp)
      rw [hr] at this; cases this
    · obtain ⟨h1, h2, h3⟩ := ready_preds hi
      obtain ⟨h4, h5⟩ := getD_true h1
      by_cases hiD : i ∈ D
      · have hick : i ∈ ck := (hcov i hiD).resolve_right fun hf => by have := hL.forced hf; rw [h4] at this; cases this
        refine mover_step hA hg hL hlook hM hn ⟨hiD, h4⟩ h2 h3 (hck i hick) (allSame_mem hsame _ (List.mem_map.2 ⟨i, hick, rfl⟩)) fun σ' own' w' vc o ho' hM' hle => ?_
        exact phase_step hA hcall hlook ho hlt hck hcov hsame hnext hex fuel _ G σ' own' _ w' (by rw [cnt_set h5 h4]; omega) (hg.mono hle) (lst_set hL hiD h2 h3) hM' (by rw [put_size]; exact hn) (by rw [put_defers]; exact hd)
      · have heff : EffOK P K ng n ops M σ0 h0 call Q s D E i := by
          rcases hnext i h2 with h | h | ⟨p, hp, hpD⟩
          · exact absurd h hiD
          · exact h
          · exact absurd (hL.sub p (h3 p hp)) hpD
        obtain ⟨_, oe, r, hoe, hde, hst, hpe, hnf, hpan, hok⟩ := heff
        have hFP : FP K σ ops oe s.tmps a := fun u hu => hM.tr u fun j o hj ho' hdst => by
          rcases hlook i j oe o u hoe hj.1 ho' hu hdst with h | h
          · have := h3 j h
            rw [hj.2] at this; cases this
          · have := hL.forced h
            rw [h4] at this; cases this
        have hL' := lst_eff hL h2 h3
        have pend' : ∀ j, Pend (listed.setIfInBounds i true) (D ++ [i]) j ↔ Pend listed D j := fun j => by
          unfold Pend
          rw [listed_set h5]
          by_cases e' : j = i
          · subst e'; simp [hiD]
          · simp [e']
        have main := hst σ own a w s call (wpAny P .any ops Q fuel (listed.setIfInBounds i true)) Q hcall hg hn hFP hM.hr (by
          cases hr : r call s with
          | fail => exact absurd hr hnf
          | panic v h' =>
            intro vc w' hAf
            exact hpan v h' a w' vc hr hd (hAf.grow hM.grow)
          | ok s1 =>
            intro v vc σ' own' w' k1 k2 k3 k4
            have hdl : ∀ t, oe.dst = some t → t < a.tmps.size := fun t ht => Nat.lt_of_lt_of_le (hde t ht) hn
            refine hok s1 fuel _ G σ' own' _ w' hr (by rw [cnt_set h5 h4]; omega) (hg.mono k2.le) hL' ⟨hM.grow.trans k2, k3, fun u hu => ?_, fun p hp => ?_, fun p hp hl => ?_, hM.g3, fun j o u hj ho' hdst hd' hnw b hb => ?_⟩ (by rw [put_size]; exact hn) (by rw [put_defers]; exact hd)
            · have hold : ∀ j o, Pend listed D j → ops[j]? = some o → o.dst ≠ some u := fun j o hj ho' => hu j o ((pend' j).2 hj) ho'
              rw [k4]
              cases hdst : oe.dst with
              | none =>
                show VR K σ' ((Opd.t (posOf u)).ev s.tmps) (a.tmps.getD u undef)
                exact (hM.tr u hold).mono k2.le
              | some t =>
                rw [getD_put a (hdl t hdst)]
                show VR K σ' ((Opd.t (posOf u)).ev (s.tmps.set v (posOf t))) _
                by_cases e' : u = t
                · subst e'; rw [if_pos rfl, ev_set_same]; exact k1
                · rw [if_neg e', ev_set_other _ _ (fun h => e' (posOf_inj h))]; exact (hM.tr u hold).mono k2.le
            · have := hM.g1 p hp
              exact ⟨this.1, Nat.lt_of_lt_of_le this.2 k2.next⟩
            · rw [k2.keep _ (hM.g1 p hp).2]
              refine hM.g2 p hp ?_
              rw [listed_set h5] at hl
              split at hl
              · cases hl
              · exact hl
            · have hj' := (pend' j).1 hj
              refine hM.g4 j o u hj' ho' hdst hd' hnw b ?_
              have : (M j).value s1 = (M j).value s := by
                unfold DOp.value
                rw [k4, hd']
                cases hdst' : oe.dst with
                | none => rfl
                | some t =>
                  refine ev_set_other _ _ fun h => ?_
                  have := posOf_inj h
                  subst this
                  have := hA.dst j i o oe u ho' hoe hdst hdst'
                  subst this
                  exact hiD hj'.1
              rw [← this]; exact hb)
        unfold wpOp
        simp only [hoe]
        split
        · rename_i hw; rw [if_pos hw] at main; exact .inl main
        · rename_i hw; rw [if_neg hw] at main; exact main
/-- all the batches -/
theorem batches_ok (hA : Apart ops) {call : Caller} (hcall : CallOK P K ng call) {k : Option (List Nat)} {D E : List Nat} {bs : BT} (hS : Sched P K ng n ops M k D E bs) :
    match k with
    | none => ∀ (fuel : Nat) (listed : Array Bool) (G : List (Nat × Pos)) (σ : Env) (own : Owns) (s : St) (a : Act) (w : World), cnt listed + fuel = ops.size → Globs ng σ → Lst ops listed D E → Mid K ops M σ0 h0 listed D G σ own s a w → n ≤ a.tmps.size → a.defers = [] →
      runBatches call bs s ≠ .fail → wpAny P .any ops (Lands K n σ0 h0 (runBatches call bs s)) fuel listed a w
    | some es => ∀ s, runBatches call bs s ≠ .fail → (es = [] → bs = .last ∧ ∀ i, i < ops.size → i ∈ D) ∧ ∀ e ∈ es, EffOK P K ng n ops M σ0 h0 call (Lands K n σ0 h0 (runBatches call bs s)) s D E e := by
  induction hS with
  | @last D E hall => exact fun s _ => ⟨fun _ => ⟨rfl, hall⟩, fun e he => by cases he⟩
  | @alt1 D E e o r b heD hoe hde hst hpe hS ih =>
    intro s hf
    have hdef : runBatches call (.alt1 r b) s = Out.rec (motive := fun _ => Ex) (runBatches call b) .panic .fail (r call s) := rfl
    refine ⟨fun h => by (cases h), fun e' he' => ?_⟩
    simp only [List.mem_singleton] at he'
    subst he'
    refine ⟨heD, o, r, hoe, hde, hst, hpe, fun hr => hf (by rw [hdef, hr]), fun v h' a w vc hr hd hAf => ?_, fun s1 fuel listed G σ own a w hr k2 k3 k4 k5 k6 k7 => ?_⟩
    · rw [hdef, hr]; exact ⟨hd, vc, rfl, hAf⟩
    · rw [hdef, hr] at hf ⊢
      exact ih fuel listed G σ own s1 a w k2 k3 k4 k5 k6 k7 hf
  | @alt D E es e o r b more heD hoe hde hst hpe hS hS' ih ih' =>
    intro s hf
    have hdef : runBatches call (.alt r b more) s = ifb (exB (Out.rec (motive := fun _ => Ex) (runBatches call b) .panic .fail (r call s)) (runBatches call more s)) (Out.rec (motive := fun _ => Ex) (runBatches call b) .panic .fail (r call s)) .fail := rfl
    cases hx : exB (Out.rec (motive := fun _ => Ex) (runBatches call b) .panic .fail (r call s)) (runBatches call more s) with
    | false => rw [hdef, hx] at hf; exact absurd rfl hf
    | true =>
      rw [hx] at hdef
      have hdef' : runBatches call (.alt r b more) s = Out.rec (motive := fun _ => Ex) (runBatches call b) .panic .fail (r call s) := hdef
      have hsame := exB_eq hx
      rw [← hsame, ← hdef'] at hsame
      refine ⟨fun h => by (cases h), fun e' he' => ?_⟩
      rcases List.mem_cons.1 he' with h | h
      · subst h
        refine ⟨heD, o, r, hoe, hde, hst, hpe, fun hr => hf (by rw [hdef', hr]), fun v h' a w vc hr hd hAf => ?_, fun s1 fuel listed G σ own a w hr k2 k3 k4 k5 k6 k7 => ?_⟩
        · rw [hdef', hr]; exact ⟨hd, vc, rfl, hAf⟩
        · rw [hdef', hr] at hf ⊢
          exact ih fuel listed G σ own s1 a w k2 k3 k4 k5 k6 k7 hf
      · have hm : runBatches call (.alt r b more) s = runBatches call more s := by rw [hdef']; exact exB_eq hx
        rw [hm] at hf ⊢
        exact (ih' s hf).2 e' h
  | @node D E mv ck es alts hB hnext hS ih =>
    intro fuel listed G σ own s a w hc hg hL hM hn hd hf
    have hdef : runBatches call (.node (mv.map M) (ck.map M) alts) s = Out.rec (motive := fun _ => Ex) (fun s1 => ifb (allSame call (ck.map M) s1) (runBatches call alts s1) .fail) (fun _ _ => .fail) .fail (runMovers call (mv.map M) s) := rfl
    rw [hdef] at hf ⊢
    cases hr : runMovers call (mv.map M) s with
    | fail => rw [hr] at hf; exact absurd rfl hf
    | panic v h' => rw [hr] at hf; exact absurd rfl hf
    | ok s2 =>
      rw [hr] at hf
      obtain ⟨G', hM'⟩ := movers_ok hA mv D G s s2 hL.sub hB.nodup hB.mvs hM hr
      cases hs : allSame call (ck.map M) s2 with
      | false => exact absurd (by simp only [hs]; rfl) hf
      | true =>
        simp only [hs] at hf ⊢
        have hf' : runBatches call alts s2 ≠ .fail := hf
        show wpAny P .any ops (Lands K n σ0 h0 (runBatches call alts s2)) fuel listed a w
        have hL' : Lst ops listed (D ++ mv) E := ⟨hL.size, fun i hi => List.mem_append_left _ (hL.sub i hi), hL.closed, hL.effs⟩
        obtain ⟨q1, q2⟩ := ih s2 hf'
        cases es with
        | nil =>
          obtain ⟨rfl, hall⟩ := q1 rfl
          exact phase_last hA hB.look hB.ord hB.lt hall hB.cks hB.cov hs (fun a w h => ⟨rfl, h⟩) fuel listed G' σ own a w hc hg hL' hM' hn hd
        | cons e es =>
          exact phase_step hA hcall hB.look hB.ord hB.lt hB.cks hB.cov hs (fun i hi => (hnext i hi).imp id (Or.imp (q2 i) id)) ⟨e, q2 e List.mem_cons_self⟩ fuel listed G' σ own a w hc hg hL' hM' hn hd
theorem CodeOK.draw {id : Nat} {bs : BT} (hmix : P.follows .mixedOrders = true) (hA : Apart ops) (hS : Sched P K ng n ops M none [] [] bs) : CodeOK P K ng n (.region id ops true) (.draw bs) := by
  intro call lf hc σ own a w s hg hH hT hn hd hf
  have hdef : exec call lf (.draw bs) s = runBatches call bs s := rfl
  rw [hdef] at hf ⊢
  refine wp_region_any hmix (batches_ok (σ0 := σ) (h0 := s.heap) hA hc hS ops.size _ [] σ own s a w.drew ?_ hg ?_ ?_ hn hd hf)
  · have : cnt (Array.replicate ops.size false) = 0 := by
      unfold cnt
      rw [List.countP_eq_zero]
      intro x hx
      simp at hx
      simp [hx.2]
    omega
  · have hno : ∀ i, (Array.replicate ops.size false).getD i false = false := fun i => by
      by_cases hi : i < ops.size <;> simp [hi]
    refine ⟨by simp, fun i hi => ?_, fun i hi => ?_, fun e he => by cases he⟩
    · rw [hno] at hi; cases hi
    · rw [hno] at hi; cases hi
  · exact ⟨Grow.refl _ _, hH.drew, fun t _ => hT t, (fun p hp => by cases hp), (fun p hp => by cases hp), (fun p hp => by cases hp), (fun i o t hi => by cases hi.1)⟩
end
end Go.Eng
set_option linter.unusedVariables false
set_option linter.unusedSimpArgs false
namespace Go.Eng
open Go.RowKit

/-- a tree of schedules, by the operations' numbers -/
inductive IT where
  | last
  | alt1 (e : Nat) (b : IT)
  | alt (e : Nat) (b more : IT)
  | node (mv ck : List Nat) (alts : IT)
  deriving Inhabited
def IT.heads : IT → List Nat
  | .alt1 e _ => [e]
  | .alt e _ more => e :: more.heads
  | _ => []
noncomputable section
variable (ng : Nat) (cst : Value → Option AV) (T : Nat → Option TI) (ptrs : PO) (n : Nat) (ops : Array Oper)
/-- an operation that may go early, as it is compiled -/
def compMover (o : Oper) : Option DOp := o.dst.bind fun t => if Nat.ble (Nat.succ t) n then
  match o.guard with
  | none => match compStill ng cst T ptrs (some (posOf t)) o.op with
    | some r => some ⟨false, pureR r, posOf t⟩
    | none => (compNew ng cst T (some (posOf t)) o.op).bind fun r => some ⟨true, pureR r, posOf t⟩
  | some (j, want) => ((ops[j]?).bind (·.dst)).bind fun u => (compStill ng cst T ptrs (some (posOf t)) o.op).bind fun r => some ⟨false, rGuard (posOf u) want (some (posOf t)) (pureR r), posOf t⟩
  else none
def isMover (i : Nat) : Bool := match ops[i]? with | some o => (compMover ng cst T ptrs n ops o).isSome | none => false
def moverAt (i : Nat) : DOp := match ops[i]? with | some o => (compMover ng cst T ptrs n ops o).getD ⟨false, rFail, .h⟩ | none => ⟨false, rFail, .h⟩
def effAt (i : Nat) : Run := match ops[i]? with | some o => (compOper ng cst T ptrs n ops o).getD rFail | none => rFail
def insN (l : List Nat) (F : List Nat) : List Nat := match l with | [] => F | p :: l => if F.contains p then insN l F else p :: insN l F
def forcedL (E : List Nat) : Nat → List Nat
  | 0 => E
  | m + 1 => insN ((forcedL E m).flatMap (predsOf ops)) (forcedL E m)
/-- the movers that are ready, one behind the other -/
def closeM : Nat → List Nat → List Nat
  | 0, _ => []
  | m + 1, D => match (List.range ops.size).find? (fun i => !D.contains i && isMover ng cst T ptrs n ops i && (predsOf ops i).all D.contains) with
    | some i => i :: closeM m (D ++ [i])
    | none => []
def altsOf (f : Nat → Option IT) : List Nat → Option IT
  | [] => some .last
  | [e] => (f e).bind fun b => some (.alt1 e b)
  | e :: es => (f e).bind fun b => (altsOf f es).bind fun more => some (.alt e b more)
def findS : Nat → List Nat → List Nat → Option IT
  | 0, _, _ => none
  | m + 1, D, E =>
    let mv := closeM ng cst T ptrs n ops ops.size D
    let D' := D ++ mv
    let F := forcedL ops E ops.size
    let ck := D'.filter fun i => !F.contains i
    (altsOf (fun e => findS m (D' ++ [e]) (e :: E)) ((List.range ops.size).filter (fun i => !D'.contains i && (predsOf ops i).all D'.contains))).bind fun alts => some (.node mv ck alts)
def apartB : Bool := (List.range ops.size).all fun i => (List.range ops.size).all fun j =>
  match ops[i]?, ops[j]? with
  | some o, some o' => (match o'.dst with
      | some t => (i == j || o.dst != some t)
      | none => true)
  | _, _ => true
def ordB : List Nat → List Nat → Bool
  | _, [] => true
  | D, i :: l => !D.contains i && Nat.ble (Nat.succ i) ops.size && (predsOf ops i).all D.contains && ordB (D ++ [i]) l
def lookB (D F : List Nat) : Bool := D.all fun j => match ops[j]? with
  | some o' => (match o'.dst with
      | some t => (List.range ops.size).all fun i => match ops[i]? with
          | some o => !(o.looksAt ops).contains t || (predsOf ops i).contains j || F.contains i
          | none => true
      | none => true)
  | none => true
def batchB (D E mv ck : List Nat) : Bool :=
  ordB ops D mv && mv.all (isMover ng cst T ptrs n ops) && ck.all (isMover ng cst T ptrs n ops) && (D ++ mv).all (fun i => ck.contains i || (forcedL ops E ops.size).contains i) && lookB ops (D ++ mv) (forcedL ops E ops.size)
def effB (D : List Nat) (e : Nat) : Bool := !D.contains e && (match ops[e]? with | some o => dstB n o | none => false) && (predsOf ops e).all D.contains
def schedB (k : Bool) (D E : List Nat) : IT → Bool
  | .last => !k && (List.range ops.size).all D.contains
  | .alt1 e b => !k && effB n ops D e && schedB true (D ++ [e]) (e :: E) b
  | .alt e b more => !k && effB n ops D e && schedB true (D ++ [e]) (e :: E) b && schedB false D E more
  | .node mv ck alts => k && batchB ng cst T ptrs n ops D E mv ck && (List.range ops.size).all (fun i => (D ++ mv).contains i || alts.heads.contains i || (predsOf ops i).any (fun p => !(D ++ mv).contains p)) &&
      schedB false (D ++ mv) E alts
def toBT : IT → BT
  | .last => .last
  | .alt1 e b => .alt1 (effAt ng cst T ptrs n ops e) (toBT b)
  | .alt e b more => .alt (effAt ng cst T ptrs n ops e) (toBT b) (toBT more)
  | .node mv ck alts => .node (mv.map (moverAt ng cst T ptrs n ops)) (ck.map (moverAt ng cst T ptrs n ops)) (toBT alts)
def compDraw : Option BT := (findS ng cst T ptrs n ops (ops.size + 1) [] []).bind fun l =>
  if apartB ops && schedB ng cst T ptrs n ops true [] [] l then some (toBT ng cst T ptrs n ops l) else none
end

section
variable {P : Program} {K : Ctx} {ng : Nat} {cst : Value → Option AV} {T : Nat → Option TI} {ptrs : PO} {n : Nat} {ops : Array Oper}
theorem pureR_ok {r : Run} {call : Caller} {s s' : St} (h : pureR r call s = .ok s') : r call s = .ok s' := by
  unfold pureR at h
  cases hr : r call s with
  | ok s'' => rw [hr] at h; cases h; rfl
  | panic v hp => rw [hr] at h; cases h
  | fail => rw [hr] at h; cases h
theorem StillR.value {σ : Env} {o : Oper} {ρ : Operand → Value} {w : World} {s s' : St} {t : Tmp} {d : DOp} (h : StillR P K σ o ρ w s s') (hd : o.dst = some t) (hdd : d.d = posOf t) :
    ∃ vc, VR K σ (d.value s') vc ∧ (execOp ρ o).run P w = .ok (.value vc) w := by
  obtain ⟨v, vc, h1, h2, h3, h4⟩ := h
  refine ⟨vc, ?_, h1⟩
  unfold DOp.value
  rw [hdd, h3, hd]
  show VR K σ ((Opd.t (posOf t)).ev (s.tmps.set v (posOf t))) vc
  rw [ev_set_same]; exact h2
theorem compMover_ok (hc : CstOK cst) (hT : TOK P T) (hp : POK P K ptrs) {i : Nat} {o : Oper} (ho : ops[i]? = some o) {d : DOp} (h : compMover ng cst T ptrs n ops o = some d) : MoverOK P K ng n ops i d := by
  unfold compMover at h
  obtain ⟨t, h1, hk⟩ := bind_ok h
  clear h
  have h := hk
  clear hk
  split at h
  · rename_i hlt
    have hlt' : t < n := Nat.le_of_ble_eq_true hlt
    obtain ⟨dst, op, ty, pos, af, gd⟩ := o
    simp only at h1 h
    subst h1
    cases gd with
    | none =>
      have hw : ∀ a : Act, Region.wanted (⟨some t, op, ty, pos, af, none⟩ : Oper) (yielded ops a.tmps) = true := fun a => by simp [Region.wanted]
      cases hs : compStill ng cst T ptrs (some (posOf t)) op with
      | some r =>
        rw [hs] at h
        cases h
        refine ⟨_, t, ho, rfl, hlt', rfl, fun _ σ own a w s s' call hg hn hF hH hr => ?_, fun e => by cases e⟩
        obtain ⟨vc, k1, k2⟩ := (compStill_ok (dst := some t) hT hp hs ty pos af none (hF.or hc hg) hH (pureR_ok hr)).value (d := ⟨false, pureR r, posOf t⟩) rfl rfl
        exact ⟨vc, k1, by rw [if_pos (hw a)]; exact k2⟩
      | none =>
        rw [hs] at h
        obtain ⟨r, h2, h⟩ := bind_ok h
        cases h
        refine ⟨_, t, ho, rfl, hlt', rfl, fun e => (by cases e), fun _ σ own a w s s' call hg hn hF hH hr => ⟨hw a, ?_⟩⟩
        exact compNew_ok (dst := some t) hT hp h2 ty pos af none (hF.or hc hg) hH (pureR_ok hr)
    | some jw =>
      obtain ⟨j, want⟩ := jw
      obtain ⟨u, h2, h⟩ := bind_ok h
      obtain ⟨r, h3, h⟩ := bind_ok h
      cases h
      refine ⟨_, t, ho, rfl, hlt', rfl, fun _ σ own a w s s' call hg hn hF hH hr => ?_, fun e => by cases e⟩
      have hTu := hF u (by
        unfold Oper.looksAt
        exact List.mem_append_right _ (by simp [h2]))
      have hy : ∀ v, (match a.tmps.getD u undef with | .bool b => some b | _ => none) = v → yielded ops a.tmps j = v := fun v hv => by
        rw [← hv]
        unfold yielded
        rw [h2]
        by_cases hu : u < a.tmps.size
        · simp [hu]
          cases a.tmps[u] <;> rfl
        · simp [hu]; rfl
      have hwd : Region.wanted (⟨some t, op, ty, pos, af, some (j, want)⟩ : Oper) (yielded ops a.tmps) = (yielded ops a.tmps j == some want) := by simp [Region.wanted]
      have skip : setD (some (posOf t)) .undef s = .ok s' → yielded ops a.tmps j ≠ some want → ∃ vc, VR K σ ((⟨false, rGuard (posOf u) want (some (posOf t)) (pureR r), posOf t⟩ : DOp).value s') vc ∧
          (if Region.wanted (⟨some t, op, ty, pos, af, some (j, want)⟩ : Oper) (yielded ops a.tmps) = true then (execOp a.eval ⟨some t, op, ty, pos, af, some (j, want)⟩).run P w = .ok (.value vc) w else vc = undef) := fun hs hne => by
        cases hs
        refine ⟨undef, ?_, ?_⟩
        · show VR K σ ((Opd.t (posOf t)).ev (s.tmps.set .undef (posOf t))) undef
          rw [ev_set_same]; exact VR.undef
        · rw [if_neg (by rw [hwd]; simpa using hne)]
      have go : pureR r call s = .ok s' → yielded ops a.tmps j = some want → ∃ vc, VR K σ ((⟨false, rGuard (posOf u) want (some (posOf t)) (pureR r), posOf t⟩ : DOp).value s') vc ∧
          (if Region.wanted (⟨some t, op, ty, pos, af, some (j, want)⟩ : Oper) (yielded ops a.tmps) = true then (execOp a.eval ⟨some t, op, ty, pos, af, some (j, want)⟩).run P w = .ok (.value vc) w else vc = undef) := fun hr he => by
        obtain ⟨vc, k1, k2⟩ := (compStill_ok (dst := some t) hT hp h3 ty pos af (some (j, want)) (hF.or hc hg) hH (pureR_ok hr)).value (d := ⟨false, rGuard (posOf u) want (some (posOf t)) (pureR r), posOf t⟩) rfl rfl
        exact ⟨vc, k1, by rw [if_pos (by rw [hwd, he]; simp)]; exact k2⟩
      have hdef : rGuard (posOf u) want (some (posOf t)) (pureR r) call s = onSome (s.tmps.get (posOf u)) (fun v => v.onBool (ifb want (pureR r call s) (setD (some (posOf t)) .undef s)) (ifb want (setD (some (posOf t)) .undef s) (pureR r call s)) (v.onTup (fun _ => setD (some (posOf t)) .undef s) .fail)) (setD (some (posOf t)) .undef s) := rfl
      have hr' : rGuard (posOf u) want (some (posOf t)) (pureR r) call s = .ok s' := hr
      rw [hdef] at hr'
      cases hv : s.tmps.get (posOf u) with
      | none =>
        rw [hv] at hr'
        have he : (Opd.t (posOf u)).ev s.tmps = .undef := by simp only [Opd.ev]; rw [hv]
        rw [he] at hTu
        have hu : a.tmps.getD u undef = undef := hTu.fn VR.undef
        exact skip hr' (by rw [hy none (by rw [hu]; rfl)]; simp)
      | some v =>
        rw [hv] at hr'
        rw [get_ev hv] at hTu
        cases v with
        | bool b =>
          have hb : a.tmps.getD u undef = .bool b := hTu
          have hyb : yielded ops a.tmps j = some b := hy _ (by rw [hb])
          cases b <;> cases want
          · exact go hr' hyb
          · exact skip hr' (by rw [hyb]; simp)
          · exact skip hr' (by rw [hyb]; simp)
          · exact go hr' hyb
        | tup l =>
          obtain ⟨x, hx, _⟩ := hTu
          exact skip hr' (by rw [hy none (by rw [hx])]; simp)
        | _ => cases hr'
  · cases h
theorem isMover_ok (hc : CstOK cst) (hT : TOK P T) (hp : POK P K ptrs) {i : Nat} (h : isMover ng cst T ptrs n ops i = true) : MoverOK P K ng n ops i (moverAt ng cst T ptrs n ops i) := by
  unfold isMover at h
  unfold moverAt
  cases ho : ops[i]? with
  | none => rw [ho] at h; cases h
  | some o =>
    rw [ho] at h
    simp only at h ⊢
    obtain ⟨d, hd⟩ := Option.isSome_iff_exists.1 h
    rw [hd]
    exact compMover_ok hc hT hp ho hd
theorem insN_mem : ∀ {l F : List Nat} {x : Nat}, x ∈ insN l F → x ∈ l ∨ x ∈ F
  | [], F, x, h => .inr h
  | p :: l, F, x, h => by
    unfold insN at h
    split at h
    · rcases insN_mem h with h | h
      · exact .inl (List.mem_cons_of_mem _ h)
      · exact .inr h
    · rcases List.mem_cons.1 h with e | h
      · exact .inl (by rw [e]; exact List.mem_cons_self)
      · rcases insN_mem h with h | h
        · exact .inl (List.mem_cons_of_mem _ h)
        · exact .inr h
theorem forcedL_ok {E : List Nat} : ∀ {m x : Nat}, x ∈ forcedL ops E m → Forced ops E x
  | 0, x, h => .eff h
  | m + 1, x, h => by
    rcases insN_mem h with h | h
    · obtain ⟨j, hj, hx⟩ := List.mem_flatMap.1 h
      exact .pred (forcedL_ok hj) hx
    · exact forcedL_ok h
theorem apartB_ok (h : apartB ops = true) : Apart ops := by
  refine ⟨fun i j o o' t hi hj ht ht' => ?_⟩
  have h1 := List.all_eq_true.1 h i (List.mem_range.2 (Array.getElem?_eq_some_iff.1 hi).1)
  have h2 := List.all_eq_true.1 h1 j (List.mem_range.2 (Array.getElem?_eq_some_iff.1 hj).1)
  simp only [hi, hj, ht', Bool.or_eq_true, beq_iff_eq, bne_iff_ne] at h2
  exact h2.resolve_right fun hne => hne ht
theorem lookB_ok {D E : List Nat} {m : Nat} (h : lookB ops D (forcedL ops E m) = true) : LookOK ops D E := fun i j o o' t hi hjD hj hl ht => by
  have h1 := List.all_eq_true.1 h j hjD
  simp only [hj, ht] at h1
  have h2 := List.all_eq_true.1 h1 i (List.mem_range.2 (Array.getElem?_eq_some_iff.1 hi).1)
  simp only [hi, Bool.or_eq_true, Bool.not_eq_true', List.contains_iff_mem] at h2
  rcases h2 with (h3 | h3) | h3
  · rw [List.contains_iff_mem.2 hl] at h3; cases h3
  · exact .inl h3
  · exact .inr (forcedL_ok h3)
theorem ordB_ok : ∀ {l D : List Nat}, Ord ops D → D.Nodup → (∀ i ∈ D, i < ops.size) → ordB ops D l = true → Ord ops (D ++ l) ∧ (D ++ l).Nodup ∧ ∀ i ∈ D ++ l, i < ops.size
  | [], D, h1, h2, h3, _ => by simpa using ⟨h1, h2, h3⟩
  | i :: l, D, h1, h2, h3, h => by
    simp only [ordB, Bool.and_eq_true, Bool.not_eq_true', List.all_eq_true] at h
    obtain ⟨⟨⟨k1, k2⟩, k3⟩, k4⟩ := h
    have hn : i ∉ D := fun hi => by rw [List.contains_iff_mem.2 hi] at k1; cases k1
    have := ordB_ok (l := l) (D := D ++ [i]) (h1.snoc fun p hp => List.contains_iff_mem.1 (k3 p hp)) (by
      rw [List.nodup_append]
      exact ⟨h2, by simp, fun x hx y hy e => by simp at hy; subst hy; subst e; exact hn hx⟩) (fun j hj => by
      rcases List.mem_append.1 hj with hj | hj
      · exact h3 j hj
      · simp at hj; subst hj; exact Nat.le_of_ble_eq_true k2) k4
    simpa using this
theorem effB_ok (hc : CstOK cst) (hT : TOK P T) (hp : POK P K ptrs) {D : List Nat} {e : Nat} (h : effB n ops D e = true) :
    e ∉ D ∧ e < ops.size ∧ ∃ o, ops[e]? = some o ∧ DstOK n o ∧ StepOK P K ng n ops o (effAt ng cst T ptrs n ops e) ∧ ∀ p ∈ predsOf ops e, p ∈ D := by
  simp only [effB, Bool.and_eq_true, List.all_eq_true, Bool.not_eq_true'] at h
  obtain ⟨⟨k2, k3⟩, k4⟩ := h
  have heD : e ∉ D := fun he => by rw [List.contains_iff_mem.2 he] at k2; cases k2
  cases hoe : ops[e]? with
  | none => rw [hoe] at k3; cases k3
  | some o =>
    rw [hoe] at k3
    have hst : StepOK P K ng n ops o (effAt ng cst T ptrs n ops e) := by
      unfold effAt
      rw [hoe]
      simp only
      have hall := compOps_ok (K := K) hc hT hp (n := n) (ops := ops) (l := [o]) (rs := [(compOper ng cst T ptrs n ops o).getD rFail]) (by
        unfold compOps
        rw [if_pos k3]; rfl)
      cases hall with
      | cons h1 _ _ => exact h1
    exact ⟨heD, (Array.getElem?_eq_some_iff.1 hoe).1, o, rfl, dstB_ok k3, hst, fun p hp => List.contains_iff_mem.1 (k4 p hp)⟩
theorem schedB_ok (hc : CstOK cst) (hT : TOK P T) (hp : POK P K ptrs) : ∀ (t : IT) (k : Bool) {D E : List Nat}, Ord ops D → D.Nodup → (∀ i ∈ D, i < ops.size) → schedB ng cst T ptrs n ops k D E t = true →
    Sched P K ng n ops (moverAt ng cst T ptrs n ops) (if k then none else some t.heads) D E (toBT ng cst T ptrs n ops t)
  | .last, k, D, E, h1, h2, h3, h => by
    simp only [schedB, Bool.and_eq_true, List.all_eq_true, Bool.not_eq_true'] at h
    obtain ⟨rfl, h⟩ := h
    exact .last fun i hi => List.contains_iff_mem.1 (h i (List.mem_range.2 hi))
  | .alt1 e b, k, D, E, h1, h2, h3, h => by
    simp only [schedB, Bool.and_eq_true, Bool.not_eq_true'] at h
    obtain ⟨⟨rfl, k1⟩, k2⟩ := h
    obtain ⟨e1, e2, o, e3, e4, e5, e6⟩ := effB_ok (K := K) hc hT hp k1
    exact .alt1 e1 e3 e4 e5 e6 (schedB_ok hc hT hp b true (h1.snoc e6) (by
      rw [List.nodup_append]
      exact ⟨h2, by simp, fun x hx y hy e' => by simp at hy; subst hy; subst e'; exact e1 hx⟩) (fun j hj => by
      rcases List.mem_append.1 hj with hj | hj
      · exact h3 j hj
      · simp at hj; subst hj; exact e2) k2)
  | .alt e b more, k, D, E, h1, h2, h3, h => by
    simp only [schedB, Bool.and_eq_true, Bool.not_eq_true'] at h
    obtain ⟨⟨⟨rfl, k1⟩, k2⟩, k3⟩ := h
    obtain ⟨e1, e2, o, e3, e4, e5, e6⟩ := effB_ok (K := K) hc hT hp k1
    exact .alt e1 e3 e4 e5 e6 (schedB_ok hc hT hp b true (h1.snoc e6) (by
      rw [List.nodup_append]
      exact ⟨h2, by simp, fun x hx y hy e' => by simp at hy; subst hy; subst e'; exact e1 hx⟩) (fun j hj => by
      rcases List.mem_append.1 hj with hj | hj
      · exact h3 j hj
      · simp at hj; subst hj; exact e2) k2) (schedB_ok hc hT hp more false h1 h2 h3 k3)
  | .node mv ck alts, k, D, E, h1, h2, h3, h => by
    simp only [schedB, Bool.and_eq_true, List.all_eq_true] at h
    obtain ⟨⟨⟨rfl, hb⟩, hn⟩, hs⟩ := h
    simp only [batchB, Bool.and_eq_true, List.all_eq_true] at hb
    obtain ⟨⟨⟨⟨b1, b2⟩, b3⟩, b4⟩, b5⟩ := hb
    obtain ⟨o1, o2, o3⟩ := ordB_ok h1 h2 h3 b1
    have hB : BatchOK P K ng n ops (moverAt ng cst T ptrs n ops) D E mv ck := ⟨o1, o2, o3, fun i hi => isMover_ok hc hT hp (b2 i hi), fun i hi => isMover_ok hc hT hp (b3 i hi), fun i hi => by
      rcases Bool.or_eq_true_iff.1 (b4 i hi) with h | h
      · exact .inl (List.contains_iff_mem.1 h)
      · exact .inr (forcedL_ok (List.contains_iff_mem.1 h)), lookB_ok b5⟩
    refine .node hB (fun i hi => ?_) (schedB_ok hc hT hp alts false o1 o2 o3 hs)
    have := hn i (List.mem_range.2 hi)
    rcases Bool.or_eq_true_iff.1 this with h | h
    · rcases Bool.or_eq_true_iff.1 h with h | h
      · exact .inl (List.contains_iff_mem.1 h)
      · exact .inr (.inl (List.contains_iff_mem.1 h))
    · obtain ⟨p, hp, hq⟩ := List.any_eq_true.1 h
      exact .inr (.inr ⟨p, hp, fun hpD => by rw [List.contains_iff_mem.2 hpD] at hq; cases hq⟩)
theorem compDraw_ok (hc : CstOK cst) (hT : TOK P T) (hp : POK P K ptrs) (hmix : P.follows .mixedOrders = true) {id : Nat} {bs : BT} (h : compDraw ng cst T ptrs n ops = some bs) : CodeOK P K ng n (.region id ops true) (.draw bs) := by
  obtain ⟨l, h1, h⟩ := bind_ok h
  split at h
  · rename_i hb
    obtain ⟨h2, h3⟩ := Bool.and_eq_true_iff.1 hb
    cases h
    exact .draw hmix (apartB_ok h2) (schedB_ok hc hT hp l true (fun l1 i l2 e => by simp at e) (by simp) (fun i hi => by cases hi) h3)
  · cases h
end
end Go.Eng
set_option linter.unusedVariables false
set_option linter.unusedSimpArgs false
namespace Go.Eng
open Go.RowKit

/-! ## Functions -/
noncomputable section
variable (ng : Nat) (cst : Value → Option AV) (T : Nat → Option TI) (ptrs : PO)
def compCode (n : Nat) : Code → AC
  | .skip => .skip
  | .ret => .ret
  | .exit id => .exit id
  | .region _ ops false => match compOps ng cst T ptrs n ops ops.toList with | some rs => .reg rs | none => .bad
  | .region _ ops true => match compDraw ng cst T ptrs n ops with | some bs => .draw bs | none => .bad
  | .seq a b => .seq (compCode n a) (compCode n b)
  | .cond c a b => match opd ng cst c with | some X => .cond X (compCode n a) (compCode n b) | none => .bad
  | .block id c => .block id (compCode n c)
  | .loop c => .loop (compCode n c)
  | _ => .bad
def compRes : List ResultVar → Option (List RA)
  | [] => some []
  | .tmp t :: l => (compRes l).bind fun L => some (.t (posOf t) :: L)
  | .cell t ty :: l => (compRes l).bind fun L => (T ty).bind fun i => i.k.agg.bind fun b => some ((if b then .cN (posOf t) i.n else .c1 (posOf t)) :: L)
def compFun (fn : Func) : Option AFun := fn.body.bind fun c => if fn.name == "runtime.NumGoroutine" then none else (compRes T fn.results.toList).bind fun res => some ⟨fn.ntmps, res, compCode ng cst T ptrs fn.ntmps c⟩
end
section
variable {P : Program} {K : Ctx} {ng : Nat} {cst : Value → Option AV} {T : Nat → Option TI} {ptrs : PO}
theorem compCode_ok (hc : CstOK cst) (hT : TOK P T) (hp : POK P K ptrs) (hmix : P.follows .mixedOrders = true) {n : Nat} : ∀ c : Code, CodeOK P K ng n c (compCode ng cst T ptrs n c)
  | .skip => .skip
  | .ret => .ret
  | .exit id => .exit
  | .region id ops false => by
    unfold compCode
    cases h : compOps ng cst T ptrs n ops ops.toList with
    | none => exact .bad
    | some rs => exact .reg (compOps_ok hc hT hp h)
  | .region id ops true => by
    unfold compCode
    cases h : compDraw ng cst T ptrs n ops with
    | none => exact .bad
    | some bs => exact compDraw_ok hc hT hp hmix h
  | .seq a b => .seq (compCode_ok hc hT hp hmix a) (compCode_ok hc hT hp hmix b)
  | .cond c a b => by
    unfold compCode
    cases h : opd ng cst c with
    | none => exact .bad
    | some X => exact .cond hc h (compCode_ok hc hT hp hmix a) (compCode_ok hc hT hp hmix b)
  | .block id c => .block (compCode_ok hc hT hp hmix c)
  | .loop c => .loop (compCode_ok hc hT hp hmix c)
  | .rangeFunc .. => .bad
  | .scope _ => .bad
  | .label _ => .bad
  | .goto _ => .bad
  | .refuse _ => .bad
theorem compRes_ok (hT : TOK P T) : ∀ {l : List ResultVar} {L : List RA}, compRes T l = some L → RAsOK P L l
  | [], L, h => by cases h; rfl
  | .tmp t :: l, L, h => by
    obtain ⟨L', h1, h⟩ := bind_ok h
    cases h
    exact ⟨_, _, rfl, rfl, compRes_ok hT h1⟩
  | .cell t ty :: l, L, h => by
    obtain ⟨L', h1, h⟩ := bind_ok h
    obtain ⟨i, h2, h⟩ := bind_ok h
    obtain ⟨b, h3, h⟩ := bind_ok h
    cases h
    obtain ⟨ii, z, k1, k2, _⟩ := (hT _ _ h2).i
    obtain ⟨d, hd, hk⟩ := (hT _ _ h2).d
    have ha := agg_ok hk h3
    refine ⟨_, _, rfl, ⟨d, ii, hd, k1, ?_⟩, compRes_ok hT h1⟩
    cases b with
    | true => exact .inr ⟨ha, by rw [k2]; rfl⟩
    | false => exact .inl ⟨ha, rfl⟩
theorem compFun_ok (hc : CstOK cst) (hT : TOK P T) (hp : POK P K ptrs) (hmix : P.follows .mixedOrders = true) {f : Nat} {func : Func} {fn : AFun} (hf : P.funcs[f]? = some func) (h : compFun ng cst T ptrs func = some fn) : FunOK P K ng f fn := by
  obtain ⟨c, h1, h⟩ := bind_ok h
  split at h
  · cases h
  · rename_i hn
    obtain ⟨res, h2, h⟩ := bind_ok h
    cases h
    exact ⟨func, c, hf, by simpa using hn, h1, compCode_ok hc hT hp hmix c, compRes_ok hT h2⟩

/-! ## Constants, and the table of types checked -/
def packB : List UInt8 → Nat
  | [] => 0
  | b :: l => b.toNat + 256 * packB l
mutual
def cstA : Value → Option AV
  | .bool b => some (.bool b)
  | .int k n => some (.int k n)
  | .string s => some (.str s.data.toList.length (packB s.data.toList))
  | .pointer none => some .nilPtr
  | .slice none 0 0 => some .nilSlice
  | .map none => some .nilMap
  | .nilFunc => some .nilFunc
  | .nilIface => some .nilIface
  | .agg ⟨cs⟩ => (cstL cs).bind fun l => some (.agg l)
  | .tuple ⟨cs⟩ => (cstL cs).bind fun l => some (.tup l)
  | _ => none
termination_by structural x => x
def cstL : List Value → Option (List AV)
  | [] => some []
  | v :: l => (cstA v).bind fun x => (cstL l).bind fun xs => some (x :: xs)
termination_by structural x => x
end

def listB : List (Nat × Nat) → List (Nat × Nat) → Bool
  | [], [] => true
  | (a, b) :: l, (c, d) :: m => Nat.beq a c && Nat.beq b d && listB l m
  | _, _ => false
theorem listB_eq : ∀ {l m : List (Nat × Nat)}, listB l m = true → l = m
  | [], [], _ => rfl
  | (a, b) :: l, (c, d) :: m, h => by
    simp only [listB, Bool.and_eq_true] at h
    rw [Nat.eq_of_beq_eq_true h.1.1, Nat.eq_of_beq_eq_true h.1.2, listB_eq h.2]
  | [], _ :: _, h => by cases h
  | _ :: _, [], h => by cases h
noncomputable def tkB (k : TK) (d : TypeDesc) : Bool :=
  match k, d with
  | .bool, .bool => true
  | .str, .string => true
  | .int k, .int k' => keq k k'
  | .ptr e, .pointer e' => Nat.beq e e'
  | .slice e, .slice e' => Nat.beq e e'
  | .arr n e, .array n' e' => Nat.beq n n' && Nat.beq e e'
  | .map k e, .map k' e' => Nat.beq k k' && Nat.beq e e'
  | .iface any, .interface ms => !any || ms.isEmpty
  | .func, .func _ _ _ => true
  | .struct fs, .struct f => listB (f.toList.map fun x => (x.offset, x.type)) fs
  | .other, .interface _ => false
  | .other, _ => true
  | _, _ => false
theorem tkB_ok {k : TK} {d : TypeDesc} (h : tkB k d = true) : TKD k d := by
  cases k <;> cases d <;> simp only [tkB, Bool.and_eq_true, reduceCtorEq] at h <;> simp only [TKD]
  all_goals first
    | (cases h; done)
    | (rw [keq_iff h]; done)
    | (rw [Nat.eq_of_beq_eq_true h]; done)
    | (rw [Nat.eq_of_beq_eq_true h.1, Nat.eq_of_beq_eq_true h.2]; done)
    | (refine ⟨_, rfl, fun e => ?_⟩; subst e; simpa using h)
    | exact ⟨_, _, _, rfl⟩
    | exact ⟨_, rfl, listB_eq h⟩
    | (intro ms e; cases e; done)
noncomputable def tiB (P : Program) (t : Nat) (ti : TI) : Bool :=
  match P.underlying t with
  | some d => match P.info? t with
    | some i => match i.zero with
      | some z => match cstA z with
        | some v => tkB ti.k d && Nat.beq i.size ti.n && Nat.ble i.bytes 16777216 && avB v ti.z && Nat.beq (lenL (cellsOf ti.z)) ti.n
        | none => false
      | none => false
    | none => false
  | none => false
theorem unp_packB : ∀ l : List UInt8, unp l.length (packB l) = l ∧ packB l < 256 ^ l.length
  | [] => by simp [unp, packB]
  | b :: l => by
    obtain ⟨h1, h2⟩ := unp_packB l
    have hb : b.toNat < 256 := b.toNat_lt
    have e1 : (b.toNat + 256 * packB l) % 256 = b.toNat := by omega
    have e2 : (b.toNat + 256 * packB l) / 256 = packB l := by omega
    refine ⟨?_, ?_⟩
    · show UInt8.ofNat ((b.toNat + 256 * packB l) % 256) :: unp l.length ((b.toNat + 256 * packB l) / 256) = b :: l
      rw [e1, e2, h1]; simp
    · show b.toNat + 256 * packB l < 256 ^ (l.length + 1)
      rw [Nat.pow_succ]; omega
mutual
theorem cstA_ok : ∀ (v : Value) {x : AV}, cstA v = some x → CV1 x v
  | .bool b, x, h => by cases h; exact fun K σ => rfl
  | .int k n, x, h => by cases h; exact fun K σ => rfl
  | .string s, x, h => by
    cases h
    intro K σ
    obtain ⟨h1, h2⟩ := unp_packB s.data.toList
    refine ⟨?_, h2⟩
    unfold bytesOf
    rw [h1]
  | .pointer none, x, h => by cases h; exact fun K σ => rfl
  | .slice none 0 0, x, h => by cases h; exact fun K σ => rfl
  | .map none, x, h => by cases h; exact fun K σ => rfl
  | .nilFunc, x, h => by cases h; exact fun K σ => rfl
  | .nilIface, x, h => by cases h; exact fun K σ => rfl
  | .agg ⟨cs⟩, x, h => by
    unfold cstA at h
    obtain ⟨l, h1, h⟩ := bind_ok h
    cases h
    exact fun K σ => ⟨_, rfl, cstL_ok cs h1 K σ⟩
  | .tuple ⟨cs⟩, x, h => by
    unfold cstA at h
    obtain ⟨l, h1, h⟩ := bind_ok h
    cases h
    exact fun K σ => ⟨_, rfl, cstL_ok cs h1 K σ⟩
  | .pointer (some _), x, h => by cases h
  | .slice none 0 (_ + 1), x, h => by cases h
  | .slice none (_ + 1) _, x, h => by cases h
  | .slice (some _) _ _, x, h => by cases h
  | .map (some _), x, h => by cases h
  | .float _ _, x, h => by cases h
  | .complex _ _ _, x, h => by cases h
  | .chan _, x, h => by cases h
  | .func _ _ _, x, h => by cases h
  | .iface _ _, x, h => by cases h
theorem cstL_ok : ∀ (l : List Value) {m : List AV}, cstL l = some m → CV m l
  | [], m, h => by cases h; exact fun K σ => rfl
  | v :: l, m, h => by
    unfold cstL at h
    obtain ⟨x, h1, h⟩ := bind_ok h
    obtain ⟨xs, h2, h⟩ := bind_ok h
    cases h
    exact fun K σ => VRs.cons (cstA_ok v h1 K σ) (cstL_ok l h2 K σ)
end
theorem cst_ok : CstOK cstA := fun v x h => cstA_ok v h
theorem tiB_ok {P : Program} {t : Nat} {ti : TI} (h : tiB P t ti = true) : TiOK P t ti := by
  unfold tiB at h
  split at h
  · rename_i d hd
    split at h
    · rename_i i hi
      split at h
      · rename_i z hz
        split at h
        · rename_i v hv
          simp only [Bool.and_eq_true] at h
          obtain ⟨⟨⟨⟨h1, h2⟩, h3⟩, h4⟩, h5⟩ := h
          refine ⟨⟨d, hd, tkB_ok h1⟩, i, z, hi, Nat.eq_of_beq_eq_true h2, hz, Nat.le_of_ble_eq_true h3, ?_, ?_⟩
          · rw [← avB_eq h4]; exact cst_ok z v hv
          · rw [← lenL_eq]; exact Nat.eq_of_beq_eq_true h5
        · cases h
      · cases h
    · cases h
  · cases h
noncomputable def lookT (l : List (Nat × TI)) (t : Nat) : Option TI := List.rec none (fun p _ ih => ifb (Nat.beq p.1 t) (some p.2) ih) l
theorem lookT_ok {P : Program} : ∀ {l : List (Nat × TI)}, (∀ p ∈ l, tiB P p.1 p.2 = true) → TOK P (lookT l)
  | [], h, t, ti, hl => by cases hl
  | p :: l, h, t, ti, hl => by
    have hl' : ifb (Nat.beq p.1 t) (some p.2) (lookT l t) = some ti := hl
    cases hb : Nat.beq p.1 t with
    | true =>
      rw [hb] at hl'
      cases hl'
      have := Nat.eq_of_beq_eq_true hb
      subst this
      exact tiB_ok (h p List.mem_cons_self)
    | false =>
      rw [hb] at hl'
      exact lookT_ok (fun q hq => h q (List.mem_cons_of_mem _ hq)) t ti hl'
end
end Go.Eng
set_option linter.unusedVariables false
set_option linter.unusedSimpArgs false
namespace Go.Eng
open Go.RowKit

/-! ## Functions of which something is known beforehand -/
noncomputable section
abbrev Known := List AV → AHeap → Out (AV × AHeap)
def callG (I : Nat → Option Known) (F : Nat → Option AFun) (lf : Nat) (n : Nat) : Caller :=
  Nat.rec (fun _ _ _ => .fail) (fun _ ih f args h => onSome (I f) (fun g => g args h) (onSome (F f) (fun fn => fn.ends (exec ih lf fn.code ⟨argsT args .h .nil, h⟩)) .fail)) n
end
def KnownOK (P : Program) (K : Ctx) (ng : Nat) (f : Nat) (g : Known) : Prop :=
  ∀ (σ : Env) (own : Owns) (w : World) (h : AHeap) (args : List AV) (cargs : Array Value), Globs ng σ → HR K σ own h w → VRs K σ args cargs.toList →
    g args h ≠ .fail → ComesTo P f cargs w (Back K σ h (g args h))
section
variable {P : Program} {K : Ctx} {ng : Nat}
/-- one function's run, where what it calls is sound -/
theorem funOK_comes {call : Caller} (hcall : CallOK P K ng call) {f : Nat} {fn : AFun} (hF : FunOK P K ng f fn) (lf : Nat) :
    KnownOK P K ng f (fun args h => fn.ends (exec call lf fn.code ⟨argsT args .h .nil, h⟩)) := by
  intro σ own w h args cargs hg hH ha hf
  show ComesTo P f cargs w (Back K σ h (fn.ends (exec call lf fn.code ⟨argsT args .h .nil, h⟩)))
  have hf : fn.ends (exec call lf fn.code ⟨argsT args .h .nil, h⟩) ≠ .fail := hf
  obtain ⟨func, c, h1, hnm, h2, h3, h4⟩ := hF
  have hfx : exec call lf fn.code ⟨argsT args .h .nil, h⟩ ≠ .fail := fun e => hf (by rw [e]; rfl)
  refine .inl ⟨fun args w => by simp [callFunc, h1, hnm, h2, show ¬ func.name = "runtime.NumGoroutine" from fun e => by rw [e] at hnm; simp at hnm], ?_⟩
  refine calls_of_wp h1 h2 (wp_mono (h3 call lf hcall σ own _ w _ hg hH (TR.args ha _) (by simp; omega) rfl hfx) fun e a' w' hl => ?_)
  have done : ∀ s', fn.done s' ≠ .fail → SR K func.ntmps σ h s' a' w' → a'.defers = [] ∧ ∃ v, (results func a'.tmps).run P w' = .ok v w' ∧ Back K σ h (fn.done s') (.returned v) w' := fun s' hdn hs => by
    obtain ⟨⟨σ', own', g1, g2, g3⟩, g4, g5⟩ := hs
    have : ∃ l, resL s' fn.res = some l := by
      cases hr : resL s' fn.res with
      | none => exact absurd (by show onSome (resL s' fn.res) _ _ = _; rw [hr]; rfl) hdn
      | some l => exact ⟨l, rfl⟩
    obtain ⟨l, hr⟩ := this
    obtain ⟨cv, k1, k2⟩ := results_ok g2 g3 h4 hr
    have he : fn.done s' = .ok (oneV l, s'.heap) := by show onSome (resL s' fn.res) _ _ = _; rw [hr]; rfl
    rw [he]
    exact ⟨g5, cv, k1, cv, rfl, σ', own', k2, g1, g2⟩
  cases hx : exec call lf fn.code ⟨argsT args .h .nil, h⟩ with
  | normal s' =>
    rw [hx] at hl
    rw [hx] at hf
    obtain ⟨rfl, hs⟩ := hl
    obtain ⟨d1, v, d2, d3⟩ := done s' hf hs
    exact ⟨d1, v, d2, d3⟩
  | ret s' =>
    rw [hx] at hl
    rw [hx] at hf
    obtain ⟨rfl, hs⟩ := hl
    obtain ⟨d1, v, d2, d3⟩ := done s' hf hs
    exact ⟨d1, v, d2, d3⟩
  | exit id s' => rw [hx] at hf; exact absurd rfl hf
  | panic v h' =>
    rw [hx] at hl
    obtain ⟨d0, vc, rfl, hs⟩ := hl
    exact ⟨d0, vc, rfl, hs⟩
  | fail => exact absurd hx hfx
theorem callG_ok {I : Nat → Option Known} {F : Nat → Option AFun} (hI : ∀ f g, I f = some g → KnownOK P K ng f g) (hF : ∀ f fn, F f = some fn → FunOK P K ng f fn) (lf : Nat) : ∀ m, CallOK P K ng (callG I F lf m)
  | 0 => fun σ own w h f args cargs hg hH ha hf => absurd rfl hf
  | m + 1 => fun σ own w h f args cargs hg hH ha hf => by
    have hdef : callG I F lf (m + 1) f args h = onSome (I f) (fun g => g args h) (onSome (F f) (fun fn => fn.ends (exec (callG I F lf m) lf fn.code ⟨argsT args .h .nil, h⟩)) .fail) := rfl
    rw [hdef] at hf ⊢
    cases hi : I f with
    | some g => rw [hi] at hf; exact hI f g hi σ own w h args cargs hg hH ha hf
    | none =>
      rw [hi] at hf
      cases hfn : F f with
      | none => rw [hfn] at hf; exact absurd rfl hf
      | some fn =>
        rw [hfn] at hf
        exact funOK_comes (callG_ok hI hF lf m) (hF f fn hfn) lf σ own w h args cargs hg hH ha hf
end
end Go.Eng
set_option linter.unusedVariables false
set_option linter.unusedSimpArgs false
namespace Go.Eng
open Go.RowKit
section
variable {K : Ctx} {σ : Env} {own : Owns} {h : AHeap} {w w' : World}
/-- all that was there is as it was -/
theorem HR.grownWorld (H : HR K σ own h w) (hb : Below w.heap.size w w') : HR K σ own h w' := by
  refine ⟨H.fresh, fun b l hl => ?_, H.grp, H.below.trans ⟨hb.os, hb.tape, hb.output, hb.size, fun k hk => hb.block k (by have := H.base; omega)⟩, by have := H.base; have := hb.size; omega, fun B t hB => ?_⟩
  · have hx := H.obj b l hl
    by_cases hB : l.B < w.heap.size
    · exact hx.frame (Env.le.refl σ) (hb.block _ hB) rfl hb.size
    · cases ho' : h.get b with
      | none => trivial
      | some o' =>
        rw [ho'] at hx
        cases o' with
        | dead => trivial
        | cells g ro r => exact absurd hx.2.1 hB
        | map es clock => exact absurd (H.owned _ _ hx.1).2 hB
        | siter n d p => exact absurd (H.owned _ _ hx.1).2 hB
        | miter => exact hx.elim
  · have := H.owned B t hB
    have := hb.size
    exact ⟨by omega, by omega⟩
end
/-! ## strings.Join -/
noncomputable def joinL (m sep : Nat) : List AV → Option (Nat × Nat)
  | [] => some (0, 0)
  | x :: l => x.onStr (fun n d => match l with
      | [] => some (n, d)
      | _ :: _ => onSome (joinL m sep l) (fun r => some (Nat.add n (Nat.add m r.1), glue n d (glue m sep r.2))) none) none
noncomputable def joinI : Known := fun args h =>
  match args with
  | [x, y] => y.onStr (fun m sep => x.onSlice .fail (fun b off len sz => ifb (Nat.beq sz 1) (onSome (h.loadN b off len) (fun l => onSome (joinL m sep l) (fun r => ifb (Nat.ble (Nat.add r.1 len) 1048576) (.ok (.str r.1 r.2, h)) .fail) .fail) .fail) .fail) .fail) .fail
  | _ => .fail
end Go.Eng
set_option linter.unusedVariables false
set_option linter.unusedSimpArgs false
namespace Go.Eng
open Go.RowKit
theorem glue_eq (m a b : Nat) : glue m a b = a + 256 ^ m * b := by
  show a + b <<< (8 * m) = _
  rw [Nat.shiftLeft_eq, Nat.pow_mul, Nat.mul_comm b]
theorem joinL_ok {K : Ctx} {σ : Env} {m sep : Nat} (hs : sep < 256 ^ m) : ∀ (l : List AV) (cs : List Value) (n d : Nat), VRs K σ l cs → joinL m sep l = some (n, d) →
    ∃ xs : List ByteArray, cs = xs.map Value.string ∧ d < 256 ^ n ∧ unp n d = Lib.join (xs.map (·.data.toList)) (unp m sep)
  | [], cs, n, d, h, hj => by
    simp only [VRs] at h
    subst h
    cases hj
    exact ⟨[], rfl, by decide, rfl⟩
  | x :: l, _, n, d, ⟨y, ys, rfl, h1, h2⟩, hj => by
    cases x with
    | str n1 d1 =>
      obtain ⟨rfl, hd⟩ := h1
      cases l with
      | nil =>
        have hj' : some (n1, d1) = some (n, d) := hj
        cases hj'
        simp only [VRs] at h2
        subst h2
        exact ⟨[bytesOf n d], rfl, hd, by rw [List.map_cons, List.map_nil, Lib.join_one]; rfl⟩
      | cons z l =>
        have hj' : onSome (joinL m sep (z :: l)) (fun r => some (Nat.add n1 (Nat.add m r.1), glue n1 d1 (glue m sep r.2))) none = some (n, d) := hj
        obtain ⟨⟨n2, d2⟩, k1, k2⟩ := onSome_eq hj'
        cases k2
        obtain ⟨xs, e1, e2, e3⟩ := joinL_ok hs (z :: l) ys n2 d2 h2 k1
        subst e1
        refine ⟨bytesOf n1 d1 :: xs, rfl, glue_lt _ _ _ _ hd (glue_lt _ _ _ _ hs e2), ?_⟩
        show unp (n1 + (m + n2)) (glue n1 d1 (glue m sep d2)) = _
        rw [glue_eq n1, unp_append _ _ _ _ hd, glue_eq m, unp_append _ _ _ _ hs, e3]
        cases xs with
        | nil => obtain ⟨_, _, e, _⟩ := h2; simp at e
        | cons a xs =>
          simp only [List.map_cons]
          rw [Lib.join_cons, Lib.join_cons]
          simp [Lib.joinTail, bytesOf]
    | _ => cases hj
end Go.Eng
set_option linter.unusedVariables false
namespace Go.Eng
open Go.RowKit
noncomputable def lookFn (l : List (Nat × Func)) (t : Nat) : Option Func := List.rec none (fun p _ ih => ifb (Nat.beq p.1 t) (some p.2) ih) l
noncomputable def funs (ng : Nat) (cst : Value → Option AV) (T : Nat → Option TI) (ptrs : PO) (l : List (Nat × Func)) : Nat → Option AFun :=
  fun f => onSome (lookFn l f) (fun fn => compFun ng cst T ptrs fn) none
theorem lookFn_ok : ∀ {l : List (Nat × Func)} {f : Nat} {fn : Func}, lookFn l f = some fn → (f, fn) ∈ l
  | [], f, fn, h => by cases h
  | p :: l, f, fn, h => by
    have h' : ifb (Nat.beq p.1 f) (some p.2) (lookFn l f) = some fn := h
    cases hb : Nat.beq p.1 f with
    | true =>
      rw [hb] at h'
      cases h'
      have := Nat.eq_of_beq_eq_true hb
      subst this
      exact List.mem_cons_self
    | false => rw [hb] at h'; exact List.mem_cons_of_mem _ (lookFn_ok h')
theorem funs_ok {P : Program} {K : Ctx} {ng : Nat} {cst : Value → Option AV} {T : Nat → Option TI} {ptrs : PO} {l : List (Nat × Func)} (hc : CstOK cst) (hT : TOK P T) (hp : POK P K ptrs) (hmix : P.follows .mixedOrders = true)
    (hl : ∀ p ∈ l, P.funcs[p.1]? = some p.2) : ∀ f fn, funs ng cst T ptrs l f = some fn → FunOK P K ng f fn := fun f fn h => by
  obtain ⟨func, h1, h2⟩ := onSome_eq (show onSome (lookFn l f) (fun fn => compFun ng cst T ptrs fn) none = some fn from h)
  exact compFun_ok hc hT hp hmix (hl _ (lookFn_ok h1)) h2
end Go.Eng
set_option linter.unusedVariables false
namespace Go.Eng
open Go.RowKit
/-- a heap of which nothing is known -/
def noHeap (next : Pos) : AHeap := ⟨next, .nil, .nil⟩
/-- THE FRAME: at any world, a heap relation of its own for what is to be made from here on: of it the globals' rows alone are known. -/
theorem HR.outset {K : Ctx} {w : World} {σ : Env} {h : AHeap} (hb : K.base = w.heap.size) (hw : K.w0 = w) (hf : ∀ b, h.next.num ≤ b.num → σ b = none) (ho : ∀ b l, σ b = some l → ObjR K σ (fun _ => none) w b l (h.get b))
    (hg : ∀ b p ro r, h.get b = some (.cells (some p) ro r) → b ∈ h.grpL p) : HR K σ (fun _ => none) h w :=
  ⟨hf, ho, hg, by rw [hw]; exact Below.refl _ _, by rw [hb]; exact Nat.le_refl _, fun B t hB => by cases hB⟩
end Go.Eng
set_option linter.unusedVariables false
set_option linter.unusedSimpArgs false
namespace Go.Eng
open Go.RowKit
/-! ## From worlds to heaps, and back -/
theorem posOf_num (b : Pos) : posOf (b.num - 1) = b := by
  apply Pos.num_inj
  rw [num_posOf]
  have := b.num_pos
  show 1 + _ = _
  omega
theorem num_posOf' (n : Nat) : (posOf n).num = n + 1 := by rw [num_posOf]; show 1 + n = _; omega
/-- where each of the first blocks lies -/
noncomputable def envOf (loc : Nat → Option Loc) : Env := fun b => loc (b.num - 1)
theorem envOf_posOf (loc : Nat → Option Loc) (n : Nat) : envOf loc (posOf n) = loc n := by
  show loc _ = _
  rw [num_posOf']; rfl
/-- rows that are only read -/
noncomputable def rowsT (l : List (Nat × Row)) : PT AObj := List.rec .nil (fun p _ t => t.set (.cells none true p.2) (posOf p.1)) l
theorem rowsT_get : ∀ {l : List (Nat × Row)} {b : Pos} {o : AObj}, (rowsT l).get b = some o → ∃ p ∈ l, b = posOf p.1 ∧ o = .cells none true p.2
  | [], b, o, h => by cases h
  | p :: l, b, o, h => by
    have h' : ((rowsT l).set (.cells none true p.2) (posOf p.1)).get b = some o := h
    by_cases e : b = posOf p.1
    · subst e
      rw [PT.get_set_same] at h'
      exact ⟨p, List.mem_cons_self, rfl, (Option.some.inj h').symm⟩
    · rw [PT.get_set_other _ _ e] at h'
      obtain ⟨q, hq, h1, h2⟩ := rowsT_get h'
      exact ⟨q, List.mem_cons_of_mem _ hq, h1, h2⟩
noncomputable def heapOf (next : Nat) (rows : List (Nat × Row)) : AHeap := ⟨posOf next, rowsT rows, .nil⟩
theorem HR.of_rows {K : Ctx} {w : World} {loc : Nat → Option Loc} {next : Nat} {rows : List (Nat × Row)} (hb : K.base = w.heap.size) (hw : K.w0 = w) (hloc : ∀ i, next ≤ i → loc i = none)
    (hr : ∀ p ∈ rows, ∀ l, loc p.1 = some l → RowR K (envOf loc) w l p.2 ∧ l.B < w.heap.size ∧ (p.2.size = 0 → l.C = 0)) : HR K (envOf loc) (fun _ => none) (heapOf next rows) w := by
  refine HR.outset hb hw (fun b hn => ?_) (fun b l hl => ?_) (fun b p ro r h => ?_)
  · have hn : (posOf next).num ≤ b.num := hn
    rw [num_posOf'] at hn
    exact hloc _ (by omega)
  · show ObjR _ _ _ _ _ _ ((rowsT rows).get b)
    cases hg : (rowsT rows).get b with
    | none => trivial
    | some o =>
      obtain ⟨p, hp, rfl, rfl⟩ := rowsT_get hg
      rw [envOf_posOf] at hl
      obtain ⟨h1, h2, h3⟩ := hr p hp l hl
      exact ⟨h1, h2, fun e => (by cases e), fun _ => ⟨.inl rfl, h3⟩⟩
  · obtain ⟨q, _, _, hq⟩ := rowsT_get (show (rowsT rows).get b = _ from h)
    cases hq
theorem globs_of {ng : Nat} {loc : Nat → Option Loc} (h : ∀ g, g < ng → ∃ C, loc g = some ⟨g, 0, C⟩) : Globs ng (envOf loc) := fun g hg => by
  rw [envOf_posOf]; exact h g hg
section
variable {P : Program} {K : Ctx} {ng : Nat}
theorem calls_of {f : Nat} {cargs : Array Value} {w : World} {R : Ending → World → Prop} (hE : Enters P f) (h : ComesTo P f cargs w R) : Calls P f cargs w R := by
  rcases h with h | ⟨v, w', h, _⟩
  · exact h.2
  · rw [hE] at h; cases h
theorem enters_of {f : Nat} {fn : Func} (h : P.funcs[f]? = some fn) (hb : fn.body.isSome = true) (hn : (fn.name == "runtime.NumGoroutine") = false) : Enters P f := by
  obtain ⟨c, hc⟩ := Option.isSome_iff_exists.1 hb
  have hn' : ¬ fn.name = "runtime.NumGoroutine" := by intro e; rw [e] at hn; simp at hn
  intro args w
  simp [callFunc, h, hn', hc]
noncomputable def isTrueO (r : Out (AV × AHeap)) : Bool := Out.rec (fun vh => Prod.rec (fun v _ => v.onBool true false false) vh) (fun _ _ => false) false r
theorem isTrueO_eq {r : Out (AV × AHeap)} (h : isTrueO r = true) : ∃ h', r = .ok (.bool true, h') := by
  cases r with
  | ok vh =>
    obtain ⟨v, h'⟩ := vh
    cases v with
    | bool b => cases b with
      | true => exact ⟨h', rfl⟩
      | false => cases h
    | _ => cases h
  | panic v h' => cases h
  | fail => cases h
theorem run_true {call : Caller} (hc : CallOK P K ng call) {f : Nat} (hE : Enters P f) {σ : Env} {own : Owns} {w : World} {h : AHeap} {args : List AV} {cargs : Array Value} (hb : K.base = w.heap.size) (hw : K.w0 = w) (hg : Globs ng σ) (hH : HR K σ own h w)
    (ha : VRs K σ args cargs.toList) (hr : isTrueO (call f args h) = true) : Calls P f cargs w fun e w' => e = .returned (.bool true) ∧ Below w.heap.size w w' := by
  obtain ⟨h', hr'⟩ := isTrueO_eq hr
  have := calls_of hE (hc σ own w h f args cargs hg hH ha (by rw [hr']; intro e; cases e))
  rw [hr'] at this
  refine this.mono fun e w' ⟨vc, he, σ', own', h1, h2, h3⟩ => ?_
  subst he
  have hv : vc = .bool true := h1
  subst hv
  have := h3.below
  rw [hb, hw] at this
  exact ⟨rfl, this⟩
end
/-- a context of its own -/
noncomputable def ctxAt (w : World) : Ctx := ⟨w.heap.size, w, fun _ => .nilIface, fun _ => rfl, fun _ _ h => by cases h⟩
end Go.Eng
set_option linter.unusedVariables false
set_option linter.unusedSimpArgs false
namespace Go.Eng
open Go.RowKit
/-! ## Small numbers of which remainders alone are known -/
noncomputable def lookM (j m : Nat) (l : List (Nat × Nat × Nat)) : Option Nat := List.rec none (fun p _ ih => ifb (Nat.beq p.1 j) (ifb (Nat.beq p.2.1 m) (some p.2.2) ih) ih) l
theorem lookM_ok {j m r : Nat} : ∀ {l : List (Nat × Nat × Nat)}, lookM j m l = some r → (j, m, r) ∈ l
  | [], h => by cases h
  | p :: l, h => by
    have h' : ifb (Nat.beq p.1 j) (ifb (Nat.beq p.2.1 m) (some p.2.2) (lookM j m l)) (lookM j m l) = some r := h
    cases h1 : Nat.beq p.1 j with
    | false => rw [h1] at h'; exact List.mem_cons_of_mem _ (lookM_ok h')
    | true =>
      cases h2 : Nat.beq p.2.1 m with
      | false => rw [h1, h2] at h'; exact List.mem_cons_of_mem _ (lookM_ok h')
      | true =>
        rw [h1, h2] at h'
        obtain ⟨a, b, c⟩ := p
        have := Nat.eq_of_beq_eq_true h1
        have := Nat.eq_of_beq_eq_true h2
        cases h'
        subst_vars
        exact List.mem_cons_self
def remQ : Op → Bool | .binOp .rem _ _ _ _ => true | _ => false
noncomputable def modO (tu ti : Nat) (l : List (Nat × Nat × Nat)) : Op → List AV → Option AV := fun op vs =>
  match op with
  | .convert t u _ => ifb (Nat.beq t tu) (ifb (Nat.beq u ti) (match vs with | [.opq j] => ifb (Nat.beq (Nat.mod j 2) 0) (some (.opq (Nat.succ j))) none | _ => none) none) none
  | .binOp .rem _ _ _ _ => match vs with
    | [.opq j, .int .i64 (.ofNat m)] => onSome (lookM j m l) (fun r => some (.int .i64 (.ofNat r))) none
    | _ => none
  | _ => none
def opqM (ns : Nat → Nat) (j : Nat) : Value := if j % 2 = 0 then .int .u8 (ns (j / 2)) else .int .i64 (ns (j / 2))
theorem opqM_even (ns : Nat → Nat) (j : Nat) : opqM ns (2 * j) = .int .u8 (ns j) := by
  have h1 : 2 * j % 2 = 0 := by omega
  have h2 : 2 * j / 2 = j := by omega
  simp [opqM, h1, h2]
noncomputable def ctxM (w : World) (ns : Nat → Nat) : Ctx := ⟨w.heap.size, w, opqM ns, fun i => by unfold opqM; split <;> rfl, fun i x h => by unfold opqM at h; split at h <;> cases h⟩
theorem modO_ok {P : Program} {w : World} {ns : Nat → Nat} {tu ti : Nat} {l : List (Nat × Nat × Nat)} (htu : P.underlying tu = some (.int .u8)) (hti : P.underlying ti = some (.int .i64)) (hns : ∀ j, ns j < 256)
    (hl : ∀ p ∈ l, p.1 % 2 = 1 ∧ p.2.1 ≠ 0 ∧ ns (p.1 / 2) % p.2.1 = p.2.2) : OrcOK P (ctxM w ns) (modO tu ti l) := by
  intro op vs z h σ ρ w' dst ty pos af gd hv
  unfold modO at h
  split at h
  · rename_i t u x
    cases ht : Nat.beq t tu with
    | false => rw [ht] at h; cases h
    | true =>
      cases hu : Nat.beq u ti with
      | false => rw [ht, hu] at h; cases h
      | true =>
        rw [ht, hu] at h
        obtain rfl := Nat.eq_of_beq_eq_true ht
        obtain rfl := Nat.eq_of_beq_eq_true hu
        simp only [ifb] at h
        split at h
        · rename_i j
          cases hj : Nat.beq (Nat.mod j 2) 0 with
          | false => rw [hj] at h; cases h
          | true =>
            rw [hj] at h
            cases h
            have hj : j % 2 = 0 := Nat.eq_of_beq_eq_true hj
            obtain ⟨y, ys, e1, e2, e3⟩ := hv
            have e1 : [ρ x] = y :: ys := e1
            cases e1
            have e2 : ρ x = opqM ns j := e2
            have hn : ns (j / 2) < 256 := hns _
            refine ⟨.int .i64 (ns (j / 2)), ?_, ?_⟩
            · rw [opqM, if_pos hj] at e2
              have hw : IntKind.i64.wrap (ns (j / 2) : Int) = (ns (j / 2) : Int) := by
                have := wrapN_eq .i64 (Int.ofNat (ns (j / 2)))
                rw [show ((ns (j / 2) : Nat) : Int) = Int.ofNat (ns (j / 2)) from rfl, ← this]
                show ifb (Nat.ble _ 9223372036854775807) _ _ = _
                rw [Nat.ble_eq_true_of_le (by omega)]; rfl
              simp [execOp, e2, convert, run_underlying htu, run_underlying hti, Conv.intToInt, hw]
            · show _ = opqM ns (j + 1)
              have h1 : ¬ (j + 1) % 2 = 0 := by omega
              have h2 : (j + 1) / 2 = j / 2 := by omega
              rw [opqM, if_neg h1, h2]
        · cases h
  · rename_i t x y t'
    split at h
    · rename_i j m
      obtain ⟨r, hr, h⟩ := onSome_eq h
      cases h
      obtain ⟨h1, h2, h3⟩ := hl _ (lookM_ok hr)
      simp only at h1 h2 h3
      obtain ⟨a, as, e1, e2, b, bs, e3, e4, e5⟩ := hv
      have e1 : [ρ x, ρ y] = a :: as := e1
      cases e1
      cases e3
      have e2 : ρ x = opqM ns j := e2
      have e4 : ρ y = .int .i64 (Int.ofNat m) := e4
      have hj : ¬ j % 2 = 0 := by omega
      rw [opqM, if_neg hj] at e2
      refine ⟨.int .i64 (Int.tmod (ns (j / 2)) m), ?_, ?_⟩
      · simp [execOp, e2, e4, go_sem, Op.intDiv, h2]
      · show _ = _
        rw [← h3]
        rfl
    · cases h
  · cases h
end Go.Eng
