/- Keys that are sorted, with a table of answers. No conditions of its own. -/
import Derived.Test.YtaamiedjgfopiaaGreatDoorSort
set_option linter.unusedVariables false
set_option linter.unusedSimpArgs false
set_option maxRecDepth 100000
namespace Go.Eng
open Go.RowKit Go.Proofs
/-! ## Sorted keys that were reckoned before -/
structure MemS where
  g : Nat
  es : List AEnt
  n : Nat
  sz : Nat
  row : Row
noncomputable def memO (r : Out (AV × AHeap)) (m : MemS) : Bool :=
  Out.rec (fun vh => Prod.rec (fun v hR => v.onSlice false (fun b off n sz => ifb (Nat.beq off 0) (ifb (Nat.beq n m.n) (ifb (Nat.beq sz m.sz) (hR.onRow b (fun _ ro r => ifb ro false (ifb (flatR r) (rowB r m.row) false)) false) false) false) false) false) vh) (fun _ _ => false) false r
theorem put_of {ro0 : Out (AV × AHeap)} {m : MemS} {h : AHeap} (hm : memO ro0 m = true) : putR h ro0 = .ok (.slice h.next 0 m.n m.sz, h.new (.cells none false m.row)) := by
  unfold memO at hm
  cases hr : ro0 with
  | fail => rw [hr] at hm; cases hm
  | panic _ _ => rw [hr] at hm; cases hm
  | ok vh =>
    obtain ⟨v, hR⟩ := vh
    rw [hr] at hm
    have hm : v.onSlice false (fun b off n sz => ifb (Nat.beq off 0) (ifb (Nat.beq n m.n) (ifb (Nat.beq sz m.sz) (hR.onRow b (fun _ ro r => ifb ro false (ifb (flatR r) (rowB r m.row) false)) false) false) false) false) false = true := hm
    cases v with
    | slice b off n sz =>
      obtain ⟨k1, hm1⟩ := ifb_tt (show ifb (Nat.beq off 0) (ifb (Nat.beq n m.n) (ifb (Nat.beq sz m.sz) (hR.onRow b (fun _ ro r => ifb ro false (ifb (flatR r) (rowB r m.row) false)) false) false) false) false = true from hm)
      obtain ⟨k2, hm2⟩ := ifb_tt hm1
      obtain ⟨k3, hm3⟩ := ifb_tt hm2
      obtain rfl := Nat.eq_of_beq_eq_true k1
      obtain rfl := Nat.eq_of_beq_eq_true k2
      obtain rfl := Nat.eq_of_beq_eq_true k3
      cases hb : hR.get b with
      | none =>
        have e : hR.onRow b (fun _ ro r => ifb ro false (ifb (flatR r) (rowB r m.row) false)) false = false := by show onSome (hR.get b) _ _ = _; rw [hb]; rfl
        rw [e] at hm3; cases hm3
      | some o =>
        cases o with
        | cells g ro r =>
          have e : hR.onRow b (fun _ ro r => ifb ro false (ifb (flatR r) (rowB r m.row) false)) false = ifb ro false (ifb (flatR r) (rowB r m.row) false) := by show onSome (hR.get b) _ _ = _; rw [hb]; rfl
          rw [e] at hm3
          cases ro with
          | true => cases hm3
          | false =>
            obtain ⟨k4, k5⟩ := ifb_tt (show ifb (flatR r) (rowB r m.row) false = true from hm3)
            have := rowB_eq k5
            show ifb (Nat.beq 0 0) (hR.onRow b (fun _ ro r => ifb ro .fail (ifb (flatR r) (.ok (.slice h.next 0 m.n m.sz, h.new (.cells none false r))) .fail)) .fail) .fail = (Out.ok (AV.slice h.next 0 m.n m.sz, h.new (.cells none false m.row)) : Out (AV × AHeap))
            have e2 : (hR.onRow b (fun _ ro r => ifb ro .fail (ifb (flatR r) (.ok (.slice h.next 0 m.n m.sz, h.new (.cells none false r))) .fail)) .fail : Out (AV × AHeap)) = ifb false .fail (ifb (flatR r) (.ok (.slice h.next 0 m.n m.sz, h.new (.cells none false r))) .fail) := by show onSome (hR.get b) _ _ = _; rw [hb]; rfl
            rw [k1, e2, k4, this]; rfl
        | _ =>
          have e : hR.onRow b (fun _ ro r => ifb ro false (ifb (flatR r) (rowB r m.row) false)) false = false := by show onSome (hR.get b) _ _ = _; rw [hb]; rfl
          rw [e] at hm3; cases hm3
    | _ => cases hm
noncomputable def findT (h : AHeap) (g : Nat) (es : List AEnt) (z : Out (AV × AHeap)) (l : List MemS) : Out (AV × AHeap) :=
  List.rec z (fun m _ ih => ifb (Nat.beq g m.g) (ifb (entsB es m.es) (.ok (.slice h.next 0 m.n m.sz, h.new (.cells none false m.row))) ih) ih) l
theorem findT_eq {c : Caller} {f : Nat} {h : AHeap} {g : Nat} {es : List AEnt} : ∀ {l : List MemS}, (∀ m ∈ l, memO (tiny c f m.g m.es) m = true) → findT h g es (putR h (tiny c f g es)) l = putR h (tiny c f g es)
  | [], _ => rfl
  | m :: l, hl => by
    have ih := findT_eq (h := h) (g := g) (es := es) (l := l) fun m' hm => hl m' (List.mem_cons_of_mem _ hm)
    have hdef : findT h g es (putR h (tiny c f g es)) (m :: l) = ifb (Nat.beq g m.g) (ifb (entsB es m.es) (.ok (.slice h.next 0 m.n m.sz, h.new (.cells none false m.row))) (findT h g es (putR h (tiny c f g es)) l)) (findT h g es (putR h (tiny c f g es)) l) := rfl
    rw [hdef, ih]
    cases e1 : Nat.beq g m.g with
    | false => rfl
    | true =>
      cases e2 : entsB es m.es with
      | false => rfl
      | true =>
        have a1 := Nat.eq_of_beq_eq_true e1
        have a2 := entsB_eq e2
        subst a1 a2
        exact (put_of (hl m List.mem_cons_self)).symm
/-- as sortI, with a table -/
noncomputable def sortM (c : Caller) (f : Nat) (l : List MemS) : Known := fun args h =>
  match args with
  | [.func (.func g) [] [.ptr pb po]] => onSome (h.load1 pb po) (fun v => v.onMap .fail (fun m => h.onMap m (fun es clock => ifb (bornsLt clock es) (ifb (bornsNd es) (onSome (entsT 0 es) (fun es' => findT h g es' (putR h (tiny c f g es')) l) .fail) .fail) .fail) .fail) .fail) .fail
  | _ => .fail
theorem sortM_eq {c : Caller} {f : Nat} {l : List MemS} (hl : ∀ m ∈ l, memO (tiny c f m.g m.es) m = true) : sortM c f l = sortI c f := by
  funext args h
  unfold sortM sortI
  split
  · simp only [findT_eq hl]
  · rename_i hne
    split
    · rename_i g pb po
      exact absurd rfl (hne g pb po)
    · rfl
theorem sortM_ok {K : Ctx} {c : Caller} {f : Nat} {l : List MemS} (hy : f ≠ yN) (hc : ∀ K : Ctx, K.codes = codesOf Tryz.prog → CallOK Tryz.prog K 2 c) (hl : ∀ m ∈ l, memO (tiny c f m.g m.es) m = true) : KnownOK Tryz.prog K 2 f (sortM c f l) := by
  rw [sortM_eq hl]
  exact sortI_ok hy hc
end Go.Eng
set_option linter.unusedVariables false
set_option maxRecDepth 1000000
namespace Go.Eng
open Go.RowKit Go.Proofs
/-! ## Bridge: sorted keys -/
noncomputable def so0 : MemS := ⟨304, [⟨.int .i64 (.ofNat 2), .opq 0, 0⟩, ⟨.int .i64 (.ofNat 3), .opq 1, 1⟩, ⟨.int .i64 (.ofNat 4), .opq 2, 2⟩, ⟨.int .i64 (.ofNat 5), .opq 3, 3⟩, ⟨.int .i64 (.ofNat 6), .opq 4, 4⟩], 5, 1, .dw 5 694752535423897172572811418729060850940159984577565470171166119931747151904770⟩
theorem so0_ok : memO (tiny c4 50 so0.g so0.es) so0 = true := by kernel_rfl
theorem tS_ok : ∀ m ∈ [so0], memO (tiny c4 50 m.g m.es) m = true := by
  intro m hm
  rw [List.mem_singleton] at hm
  subst hm
  exact so0_ok
end Go.Eng
