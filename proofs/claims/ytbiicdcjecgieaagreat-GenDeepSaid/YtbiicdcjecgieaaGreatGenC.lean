/- Check's flow over the one function, walked by hand: floor, to, on, step, runs; and Check whole. Each says its own conditions. -/
import Derived.Test.YtbiicdcjecgieaaGreatGenB
set_option linter.unusedVariables false
set_option linter.unusedSimpArgs false
set_option maxRecDepth 100000
set_option maxHeartbeats 4000000
namespace Go.Gen
open Go Go.RowKit Go.Proofs
theorem i3 : (Tryz.prog.info? 3).map (fun i => (i.size, i.bytes, i.zero)) = some (1, 8, some (.int .i64 0)) := by kernel_rfl
/-- the flow's cells -/
def flowC (q ab N : Nat) (left : Value) (bad : Bool) : Array Value :=
  #[.slice (some ⟨q, 0, none⟩) 1 1, .slice none 0 0, .int .i64 0, .int .i64 0, .int .i64 0, .int .i64 0, .slice (some ⟨ab, 0, none⟩) (N + 3) (N + 3), left, .bool bad]
structure Fl (Bs : Nat) (w : World) (fb ab q N : Nat) (st : Nat → Option Int) (left : Value) (n : Nat) (xs : List Value) : Prop where
  fblk : w.heap[fb]? = some (.cells (flowC q ab N left false) 92 (0, 0))
  ablk : ∃ cs, w.heap[ab]? = some (.cells cs 94 (0, 0)) ∧ cs.size = (N + 3) * 3 ∧ ∀ i, i < N + 3 → cs[i * 3]? = some (.bool (st i).isSome) ∧ ∀ h, st i = some h → cs[i * 3 + 1]? = some (.int .i64 h) ∧ cs[i * 3 + 2]? = some (.slice none 0 0)
  row : w.ownsRow Bs 3 1 left n xs
  fge : Bs ≤ fb
  age : Bs ≤ ab
/-- below what nothing is taken: nothing -/
theorem floor_ok {w : World} {fb : Nat} (hf : w.cell? ⟨fb, 2, none⟩ = some (.int .i64 0)) (b : Bool) (h : Int) :
    Calls Tryz.prog 39 #[.pointer (some ⟨fb, 0, none⟩), .agg #[.bool b, .int .i64 h, .slice none 0 0]] w fun e w' => e = .returned (.int .i64 0) ∧ Below w.heap.size w w' := by
  have hfl := cell_lt hf
  go_enter Tryz.func39, Tryz.ntmps39
  go_wp2
  exact bodyPost_ret (v := .int .i64 0) (by simp [results, Tryz.results39, go_sem]) rfl ⟨rfl, by repeat (first | exact Below.refl _ _ | refine Below.drew ?_ | refine Below.alloc ?_ (by first | (simp; done) | (simp; omega)) _)⟩
def upd (st : Nat → Option Int) (at' : Nat) (h : Int) : Nat → Option Int := fun i => if i = at' then some h else st i
theorem st_set {cs : Array Value} {N at' : Nat} {st : Nat → Option Int} {h : Int} (hsz : cs.size = (N + 3) * 3) (hat : at' < N + 3)
    (H : ∀ i, i < N + 3 → cs[i * 3]? = some (.bool (st i).isSome) ∧ ∀ h, st i = some h → cs[i * 3 + 1]? = some (.int .i64 h) ∧ cs[i * 3 + 2]? = some (.slice none 0 0)) :
    ∀ i, i < N + 3 → (((cs.setIfInBounds (at' * 3) (.bool true)).setIfInBounds (at' * 3 + 1) (.int .i64 h)).setIfInBounds (at' * 3 + 2) (.slice none 0 0))[i * 3]? = some (.bool (upd st at' h i).isSome) ∧
      ∀ h', upd st at' h i = some h' → (((cs.setIfInBounds (at' * 3) (.bool true)).setIfInBounds (at' * 3 + 1) (.int .i64 h)).setIfInBounds (at' * 3 + 2) (.slice none 0 0))[i * 3 + 1]? = some (.int .i64 h') ∧
        (((cs.setIfInBounds (at' * 3) (.bool true)).setIfInBounds (at' * 3 + 1) (.int .i64 h)).setIfInBounds (at' * 3 + 2) (.slice none 0 0))[i * 3 + 2]? = some (.slice none 0 0) := by
  intro i hi
  have hne : ∀ {a b : Nat} (c : Array Value) (v : Value), a ≠ b → (c.setIfInBounds a v)[b]? = c[b]? := fun c v h => Array.getElem?_setIfInBounds_ne h
  by_cases e : i = at'
  · subst e
    have hu : upd st i h i = some h := by simp [upd]
    rw [hu]
    refine ⟨?_, fun h' e => ?_⟩
    · rw [hne _ _ (by omega), hne _ _ (by omega), Array.getElem?_setIfInBounds_self_of_lt (by omega)]; rfl
    · cases e
      refine ⟨?_, ?_⟩
      · rw [hne _ _ (by omega), Array.getElem?_setIfInBounds_self_of_lt (by simp; omega)]
      · rw [Array.getElem?_setIfInBounds_self_of_lt (by simp; omega)]
  · have hu : upd st at' h i = st i := by simp [upd, e]
    rw [hu]
    rw [hne _ _ (by omega), hne _ _ (by omega), hne _ _ (by omega), hne _ _ (by omega), hne _ _ (by omega), hne _ _ (by omega), hne _ _ (by omega), hne _ _ (by omega), hne _ _ (by omega)]
    exact H i hi
theorem to_ok {Bs : Nat} {w : World} {fb ab q N : Nat} {st : Nat → Option Int} {left : Value} {n : Nat} {xs : List Value} (H : Fl Bs w fb ab q N st left n xs) (hB : Bs ≤ w.heap.size) {at' : Nat} (hat : at' < N + 3) (hst : st at' = none) (hN : N ≤ 59000) (hn : n ≤ 100000) (b : Bool) (h : Int) :
    Calls Tryz.prog 22 #[.pointer (some ⟨fb, 0, none⟩), .int .i64 at', .agg #[.bool b, .int .i64 h, .slice none 0 0]] w fun e w' =>
      e = .returned (.tuple #[]) ∧ Below Bs w w' ∧ ∃ left', Fl Bs w' fb ab q N (upd st at' h) left' (n + 1) (xs ++ [.int .i64 at']) := by
  have fl := (Array.getElem?_eq_some_iff.1 H.fblk).1
  obtain ⟨cs, hab, hsz, hcs⟩ := H.ablk
  have al := (Array.getElem?_eq_some_iff.1 hab).1
  have f6 : w.cell? ⟨fb, 6, none⟩ = some (.slice (some ⟨ab, 0, none⟩) (N + 3) (N + 3)) := by simp [World.cell?, H.fblk, flowC]
  have f7 : w.cell? ⟨fb, 7, none⟩ = some left := by simp [World.cell?, H.fblk, flowC]
  have a0 : w.cell? ⟨ab, at' * 3, none⟩ = some (.bool false) := by
    have := (hcs at' hat).1
    rw [hst] at this
    simpa [World.cell?, hab] using this
  obtain ⟨v1, a1⟩ : ∃ v, w.cell? ⟨ab, at' * 3 + 1, none⟩ = some v := ⟨cs[at' * 3 + 1]'(by omega), by simp [World.cell?, hab]⟩
  obtain ⟨v2, a2⟩ : ∃ v, w.cell? ⟨ab, at' * 3 + 2, none⟩ = some v := ⟨cs[at' * 3 + 2]'(by omega), by simp [World.cell?, hab]⟩
  have fz0 : w.frozen? ⟨ab, at' * 3, none⟩ = false := by simp [World.frozen?, hab]
  have fz1 : w.frozen? ⟨ab, at' * 3 + 1, none⟩ = false := by simp [World.frozen?, hab]
  have fz2 : w.frozen? ⟨ab, at' * 3 + 2, none⟩ = false := by simp [World.frozen?, hab]
  have fz7 : w.frozen? ⟨fb, 7, none⟩ = false := by simp [World.frozen?, H.fblk]
  have hne : fb ≠ ab := fun e => by have h1 := H.fblk; rw [e, hab] at h1; cases h1
  obtain ⟨ca, cc, rfl⟩ : ∃ ca cc, left = .slice ca n cc := by
    rcases H.row.2 with ⟨h, h0⟩ | ⟨g, cap, cur, h1, _⟩
    · exact ⟨none, 0, by rw [h, h0]⟩
    · exact ⟨_, _, h1⟩
  obtain ⟨i, hi, hi2⟩ := Option.map_eq_some_iff.1 i3
  have HI := Lib.hid hi
  have HZ1 := Lib.hid (congrArg Prod.fst hi2 : i.size = 1)
  have HZ2 := Lib.hid (congrArg (fun x => x.2.1) hi2 : i.bytes = 8)
  have HZ0 := Lib.hid (congrArg (fun x => x.2.2) hi2 : i.zero = some (.int .i64 0))
  clear hi hi2
  have HH := Lib.hid H
  have HCS := Lib.hid hcs
  have HAB := Lib.hid hab
  clear H hcs hab
  go_enter Tryz.func22, Tryz.ntmps22
  go_wp2
  have hb2 : Below Bs w (((w.setCell ⟨ab, at' * 3, none⟩ (.bool true)).setCell ⟨ab, at' * 3 + 1, none⟩ (.int .i64 h)).setCell ⟨ab, at' * 3 + 2, none⟩ (.slice none 0 0)) := (((Below.refl _ _).setCell HH.out.age _).setCell HH.out.age _).setCell HH.out.age _
  have ha2 : (((w.setCell ⟨ab, at' * 3, none⟩ (.bool true)).setCell ⟨ab, at' * 3 + 1, none⟩ (.int .i64 h)).setCell ⟨ab, at' * 3 + 2, none⟩ (.slice none 0 0)).heap[ab]? = some (.cells (((cs.setIfInBounds (at' * 3) (.bool true)).setIfInBounds (at' * 3 + 1) (.int .i64 h)).setIfInBounds (at' * 3 + 2) (.slice none 0 0)) 94 (0, 0)) :=
    Go.Joins.block_setCell (Go.Joins.block_setCell (Go.Joins.block_setCell HAB.out _) _) _
  have hf2 : (((w.setCell ⟨ab, at' * 3, none⟩ (.bool true)).setCell ⟨ab, at' * 3 + 1, none⟩ (.int .i64 h)).setCell ⟨ab, at' * 3 + 2, none⟩ (.slice none 0 0)).heap[fb]? = some (.cells (flowC q ab N (.slice ca n cc) false) 92 (0, 0)) := by
    rw [Below.heap_setCell _ _ _ _ hne, Below.heap_setCell _ _ _ _ hne, Below.heap_setCell _ _ _ _ hne]; exact HH.out.fblk
  have hoa : (Value.slice ca n cc).ownBlock ≠ some ab := by
    rcases HH.out.row.2 with ⟨e, _⟩ | ⟨g, cap, cur, e, _, h3, _⟩
    · rw [e]; simp [Value.ownBlock]
    · intro e2
      rw [e] at e2
      simp [Value.ownBlock] at e2
      subst e2
      rw [HAB.out] at h3; cases h3
  have hof : (Value.slice ca n cc).ownBlock ≠ some fb := by
    rcases HH.out.row.2 with ⟨e, _⟩ | ⟨g, cap, cur, e, _, h3, _⟩
    · rw [e]; simp [Value.ownBlock]
    · intro e2
      rw [e] at e2
      simp [Value.ownBlock] at e2
      subst e2
      rw [HH.out.fblk] at h3; cases h3
  have hr2 := row_setCell (row_setCell (row_setCell HH.out.row (p := ⟨ab, at' * 3, none⟩) (u := .bool true) hoa) (p := ⟨ab, at' * 3 + 1, none⟩) (u := .int .i64 h) hoa) (p := ⟨ab, at' * 3 + 2, none⟩) (u := .slice none 0 0) hoa
  have hs2 : (((w.setCell ⟨ab, at' * 3, none⟩ (.bool true)).setCell ⟨ab, at' * 3 + 1, none⟩ (.int .i64 h)).setCell ⟨ab, at' * 3 + 2, none⟩ (.slice none 0 0)).heap.size = w.heap.size := by simp
  have HB2 := Lib.hid hb2
  have HA2 := Lib.hid ha2
  have HF2 := Lib.hid hf2
  have HR2 := Lib.hid hr2
  clear hb2 ha2 hf2 hr2
  go_region
  all_goals
    generalize hw2 : (((w.setCell ⟨ab, at' * 3, none⟩ (.bool true)).setCell ⟨ab, at' * 3 + 1, none⟩ (.int .i64 h)).setCell ⟨ab, at' * 3 + 2, none⟩ (.slice none 0 0)) = w2 at *
    have f7' : w2.cell? ⟨fb, 7, none⟩ = some (.slice ca n cc) := by simp [World.cell?, HF2.out, flowC]
    have fz7' : w2.frozen? ⟨fb, 7, none⟩ = false := by simp [World.frozen?, HF2.out]
    have hfl2 := cell_lt f7'
    go_wp2_with (at_builtin; refine wpList_append_own _ rfl _ _ 83 rfl Bs 3 i (.int .i64 0) 1 8 Tryz.underlying83 HI.out HZ0.out HZ1.out HZ2.out rfl (by decide) _ n xs rfl (ownsRow_below HR2.out (by repeat (first | exact Below.refl _ _ | refine Below.drew ?_ | refine Below.alloc ?_ (by first | (simp; done) | (simp; omega)) _))) ⟨w.heap.size + 1, 0, none⟩ 1 1 [.int .i64 at'] rfl rfl (fun j u hj => cells_new' (w2.alloc (.cells #[.bool true, .int .i64 h, .slice none 0 0] 94)) [.int .i64 at'] 3 (w.heap.size + 1) (by simp [hs2]) j u hj) (by simp [Value.oneCell']) (by simp only [maxLen]; omega) (by omega) (by simp; omega) ?_)
    intro v' w' ho hgr hnil
    obtain ⟨g, cap, rfl, hgg, hgl⟩ := row_form ho
    have hX : Below w2.heap.size w2 ((w2.alloc (.cells #[.bool true, .int .i64 h, .slice none 0 0] 94)).alloc (.cells #[.int .i64 at'] 3)).drew := by repeat (first | exact Below.refl _ _ | refine Below.drew ?_ | refine Below.alloc ?_ (by first | (simp; done) | (simp; omega)) _)
    have hfb := keepH hX hgr HF2.out hof
    have hab := keepH hX hgr HA2.out hoa
    have s7 : w'.cell? ⟨fb, 7, none⟩ = some (.slice ca n cc) := by simp [World.cell?, hfb, flowC]
    have z7 : w'.frozen? ⟨fb, 7, none⟩ = false := by simp [World.frozen?, hfb]
    have hgf : g ≠ fb := by
      rintro rfl
      rcases ho.2 with ⟨e, _⟩ | ⟨g', cap', cur, e, _, h3, _⟩
      · cases e
      · cases e; rw [hfb] at h3; cases h3
    have HB3 : Hid (Below Bs w (w'.setCell ⟨fb, 7, none⟩ (.slice (some ⟨g, 0, none⟩) (n + 1) cap))) := Lib.hid (by
      refine Below.setCell ?_ HH.out.fge _
      refine Below.grown (HB2.out.trans (hX.mono (by omega))) hgr (by simp; omega) ?_
      intro k hk
      rcases HH.out.row.2 with ⟨e, _⟩ | ⟨g', cap', cur, e, h2, _⟩
      · rw [e] at hk; simp [Value.ownBlock] at hk
      · rw [e] at hk; simp [Value.ownBlock] at hk; omega)
    have HN : Hid (Fl Bs (w'.setCell ⟨fb, 7, none⟩ (.slice (some ⟨g, 0, none⟩) (n + 1) cap)) fb ab q N (upd st at' h) (.slice (some ⟨g, 0, none⟩) (n + 1) cap) (n + 1) (xs ++ [.int .i64 at'])) := Lib.hid
      ⟨Go.Joins.block_setCell (cs := flowC q ab N (.slice ca n cc) false) hfb _, ⟨_, by rw [Below.heap_setCell _ _ _ _ (Ne.symm hne)]; exact hab, by simp [hsz], st_set hsz hat HCS.out⟩,
        row_setCell ho (by intro e; injection e with e; exact hgf e), HH.out.fge, HH.out.age⟩
    clear ho hgr hnil hX hfb hab
    go_wp2
    go_end0
    exact ⟨rfl, HB3.out, _, HN.out⟩
end Go.Gen
set_option linter.unusedVariables false
set_option linter.unusedSimpArgs false
set_option maxRecDepth 100000
set_option maxHeartbeats 4000000
namespace Go.Gen
open Go Go.RowKit Go.Proofs
theorem Fl.below {Bs : Nat} {w w' : World} {fb ab q N : Nat} {st : Nat → Option Int} {left : Value} {n : Nat} {xs : List Value} (H : Fl Bs w fb ab q N st left n xs) (hb : Below w.heap.size w w') : Fl Bs w' fb ab q N st left n xs :=
  ⟨(hb.block fb (Array.getElem?_eq_some_iff.1 H.fblk).1).trans H.fblk, (by
    obtain ⟨cs, h1, h2, h3⟩ := H.ablk
    exact ⟨cs, (hb.block ab (Array.getElem?_eq_some_iff.1 h1).1).trans h1, h2, h3⟩), ownsRow_below H.row hb, H.fge, H.age⟩
theorem on_ok {Bs : Nat} {w : World} {fb ab q N : Nat} {st : Nat → Option Int} {left : Value} {n : Nat} {xs : List Value} (H : Fl Bs w fb ab q N st left n xs) (hB : Bs ≤ w.heap.size) {at' : Nat} (hat : at' + 1 < N + 3) (hst : st (at' + 1) = none) (hN : N ≤ 59000) (hn : n ≤ 100000) (b : Bool)
    {h takes puts : Int} (hh : 0 ≤ h ∧ h ≤ 100000) (ht : 0 ≤ takes ∧ takes ≤ h) (hp : 0 ≤ puts ∧ puts ≤ 10) :
    Calls Tryz.prog 38 #[.pointer (some ⟨fb, 0, none⟩), .int .i64 at', .agg #[.bool b, .int .i64 h, .slice none 0 0], .int .i64 takes, .int .i64 puts] w fun e w' =>
      e = .returned (.tuple #[]) ∧ Below Bs w w' ∧ ∃ left', Fl Bs w' fb ab q N (upd st (at' + 1) (h - takes + puts)) left' (n + 1) (xs ++ [.int .i64 ((at' : Int) + 1)]) := by
  have fl := (Array.getElem?_eq_some_iff.1 H.fblk).1
  have f2 : w.cell? ⟨fb, 2, none⟩ = some (.int .i64 0) := by simp [World.cell?, H.fblk, flowC]
  have c0 : (w.alloc (.cells #[.bool b, .int .i64 h, .slice none 0 0] 94)).cell? ⟨w.heap.size, 0, none⟩ = some (.bool b) := by unfold World.cell?; rw [heap_alloc_new]; rfl
  have c1 : (w.alloc (.cells #[.bool b, .int .i64 h, .slice none 0 0] 94)).cell? ⟨w.heap.size, 1, none⟩ = some (.int .i64 h) := by unfold World.cell?; rw [heap_alloc_new]; rfl
  have c2 : (w.alloc (.cells #[.bool b, .int .i64 h, .slice none 0 0] 94)).cell? ⟨w.heap.size, 2, none⟩ = some (.slice none 0 0) := by unfold World.cell?; rw [heap_alloc_new]; rfl
  have z1 : (w.alloc (.cells #[.bool b, .int .i64 h, .slice none 0 0] 94)).frozen? ⟨w.heap.size, 1, none⟩ = false := by unfold World.frozen?; rw [heap_alloc_new]; rfl
  have hs1 : (w.alloc (.cells #[.bool b, .int .i64 h, .slice none 0 0] 94)).heap.size = w.heap.size + 1 := by simp
  have HW := Lib.hid ((Below.refl w.heap.size w).alloc (Nat.le_refl _) (.cells #[.bool b, .int .i64 h, .slice none 0 0] 94))
  have HF : Hid (∀ X : World, Below (w.heap.size + 1) (w.alloc (.cells #[.bool b, .int .i64 h, .slice none 0 0] 94)) X → Calls Tryz.prog 39 #[.pointer (some ⟨fb, 0, none⟩), .agg #[.bool b, .int .i64 h, .slice none 0 0]] X fun e w' => e = .returned (.int .i64 0) ∧ Below (w.heap.size + 1) (w.alloc (.cells #[.bool b, .int .i64 h, .slice none 0 0] 94)) w') := Lib.hid fun X hX =>
    (floor_ok ((hX.cell (p := ⟨fb, 2, none⟩) (by show fb < _; omega)).trans ((((Below.refl w.heap.size w).alloc (Nat.le_refl _) (.cells #[.bool b, .int .i64 h, .slice none 0 0] 94)).cell (p := ⟨fb, 2, none⟩) fl).trans f2)) b h).mono fun e w' ⟨h1, h2⟩ => ⟨h1, hX.trans (h2.mono (by have := hX.size; omega))⟩
  have hwr : IntKind.i64.wrap (h - takes) = h - takes := (by rw [IntKind.wrap_i64]; omega)
  have hnl : ¬ h - takes < 0 := by omega
  have HBK := Lib.hid (heap_alloc_new w (.cells #[.bool b, .int .i64 h, .slice none 0 0] 94))
  have HH := Lib.hid H
  clear H
  go_enter Tryz.func38, Tryz.ntmps38
  go_wp2
  generalize hw1 : (w.alloc (.cells #[.bool b, .int .i64 h, .slice none 0 0] 94)) = w1 at *
  go_region_with (go_at_call 39; refine (HF.out _ ?_).mono ?_; (repeat (first | (rw [← hs1]; exact Below.refl _ _) | exact Below.refl _ _ | refine Below.drew ?_)); rintro e w' ⟨rfl, hb⟩; (have hbk := (hb.block w.heap.size (by omega)).trans HBK.out); (have q0 : w'.cell? ⟨w.heap.size, 0, none⟩ = some (.bool b) := by simp [World.cell?, hbk]); (have q1 : w'.cell? ⟨w.heap.size, 1, none⟩ = some (.int .i64 h) := by simp [World.cell?, hbk]); (have q2 : w'.cell? ⟨w.heap.size, 2, none⟩ = some (.slice none 0 0) := by simp [World.cell?, hbk]); (have z1' : w'.frozen? ⟨w.heap.size, 1, none⟩ = false := by simp [World.frozen?, hbk]); (have HBB := Lib.hid hb); clear hb hbk)
  all_goals
    have hsw := HBB.out.size
    try simp only [hwr]
    have HT : Hid (∀ X : World, Below w.heap.size (w'.setCell ⟨w.heap.size, 1, none⟩ (.int .i64 (h - takes + puts))) X → Calls Tryz.prog 22 #[.pointer (some ⟨fb, 0, none⟩), .int .i64 ((at' : Int) + 1), .agg #[.bool b, .int .i64 (h - takes + puts), .slice none 0 0]] X fun e w'' =>
        e = .returned (.tuple #[]) ∧ Below Bs w w'' ∧ ∃ left', Fl Bs w'' fb ab q N (upd st (at' + 1) (h - takes + puts)) left' (n + 1) (xs ++ [.int .i64 ((at' : Int) + 1)])) := Lib.hid fun X hX => by
      have hwx : Below w.heap.size w X := (HW.out.trans ((Below.mono (B' := w.heap.size) HBB.out (by omega)).setCell (Nat.le_refl _) _)).trans hX
      have key := to_ok (HH.out.below hwx) (Nat.le_trans hB hwx.size) hat hst hN hn b (h - takes + puts)
      rw [show (((at' + 1 : Nat)) : Int) = (at' : Int) + 1 from by simp] at key
      exact key.mono fun e w'' ⟨h1, h2, h3⟩ => ⟨h1, (hwx.mono hB).trans h2, h3⟩
    go_wp2_with fail
    refine (HT.out _ ?_).mono ?_
    · repeat (first | exact Below.refl _ _ | refine Below.drew ?_)
    rintro e w3 ⟨rfl, hb3, left', hF3⟩
    have HB3 := Lib.hid hb3
    have HF3 := Lib.hid hF3
    clear hb3 hF3
    go_wp2
    go_end0
    exact ⟨rfl, HB3.out, _, HF3.out⟩
end Go.Gen
set_option linter.unusedVariables false
set_option linter.unusedSimpArgs false
set_option maxRecDepth 100000
set_option maxHeartbeats 4000000
namespace Go.Gen
open Go Go.RowKit Go.Proofs
/-- how many things there are at a place -/
def hgt (N k : Nat) : Int := if k ≤ N then k else if k = N + 1 then 1 else 0
theorem Fl.cells {Bs : Nat} {w : World} {fb ab q N : Nat} {st : Nat → Option Int} {left : Value} {n : Nat} {xs : List Value} (H : Fl Bs w fb ab q N st left n xs) {k : Nat} (hk : k < N + 3) {h : Int} (hs : st k = some h) :
    w.cell? ⟨fb, 0, none⟩ = some (.slice (some ⟨q, 0, none⟩) 1 1) ∧ w.cell? ⟨fb, 2, none⟩ = some (.int .i64 0) ∧ w.cell? ⟨fb, 6, none⟩ = some (.slice (some ⟨ab, 0, none⟩) (N + 3) (N + 3)) ∧ w.cell? ⟨fb, 8, none⟩ = some (.bool false) ∧ w.frozen? ⟨fb, 8, none⟩ = false ∧
      w.cell? ⟨ab, k * 3, none⟩ = some (.bool true) ∧ w.cell? ⟨ab, k * 3 + 1, none⟩ = some (.int .i64 h) ∧ w.cell? ⟨ab, k * 3 + 2, none⟩ = some (.slice none 0 0) := by
  obtain ⟨cs, h1, h2, h3⟩ := H.ablk
  have h4 := (h3 k hk).1
  obtain ⟨h5, h6⟩ := (h3 k hk).2 h hs
  rw [hs] at h4
  refine ⟨by simp [World.cell?, H.fblk, flowC], by simp [World.cell?, H.fblk, flowC], by simp [World.cell?, H.fblk, flowC], by simp [World.cell?, H.fblk, flowC], by simp [World.frozen?, H.fblk], by simpa [World.cell?, h1] using h4, by simpa [World.cell?, h1] using h5, by simpa [World.cell?, h1] using h6⟩
theorem step_int {Bs B : Nat} {w : World} {fb ab q N g cap : Nat} {st : Nat → Option Int} {left : Value} {n : Nat} {xs : List Value} (H : Fl Bs w fb ab q N st left n xs) (hB : Bs ≤ w.heap.size) (hq : w.cell? ⟨q, 0, none⟩ = some (.slice (some ⟨g, 0, none⟩) (N + 3) cap))
    {k : Nat} (hk : k + 1 < N + 3) {op a h takes puts : Int} (hop : (op = 1 ∧ takes = 0 ∧ puts = 1) ∨ (op = 11 ∧ takes = a ∧ puts = 1) ∨ (op = 21 ∧ takes = 1 ∧ puts = 0))
    (c0 : w.cell? ⟨g, k * 5, none⟩ = some (.int .u8 op)) (c1 : w.cell? ⟨g, k * 5 + 1, none⟩ = some (.int .i64 a)) (c2 : w.cell? ⟨g, k * 5 + 2, none⟩ = some (.int .i64 0)) (c3 : w.cell? ⟨g, k * 5 + 3, none⟩ = some (.int .i64 0)) (c4 : w.cell? ⟨g, k * 5 + 4, none⟩ = some (.string { data := #[] }))
    (hs : st k = some h) (hs1 : st (k + 1) = none) (hN : N ≤ 59000) (hn : n ≤ 100000) (hh : 0 ≤ h ∧ h ≤ 100000) (ht : 0 ≤ takes ∧ takes ≤ h) :
    Calls Tryz.prog 23 #[.pointer (some ⟨fb, 0, none⟩), .int .i64 k] w fun e w' =>
      e = .returned (.tuple #[]) ∧ Below Bs w w' ∧ ∃ left', Fl Bs w' fb ab q N (upd st (k + 1) (h - takes + puts)) left' (n + 1) (xs ++ [.int .i64 ((k : Int) + 1)]) := by
  obtain ⟨f0, f2, f6, f8, z8, a0, a1, a2⟩ := H.cells (by omega) hs
  have fl := cell_lt f0
  have al := cell_lt a0
  have ql := cell_lt hq
  have gl := cell_lt c0
  have hp : 0 ≤ puts ∧ puts ≤ 10 := by rcases hop with ⟨_, _, rfl⟩ | ⟨_, _, rfl⟩ | ⟨_, _, rfl⟩ <;> decide
  have HO : Hid (∀ X : World, Below w.heap.size w X → Calls Tryz.prog 38 #[.pointer (some ⟨fb, 0, none⟩), .int .i64 k, .agg #[.bool true, .int .i64 h, .slice none 0 0], .int .i64 takes, .int .i64 puts] X fun e w' =>
      e = .returned (.tuple #[]) ∧ Below Bs w w' ∧ ∃ left', Fl Bs w' fb ab q N (upd st (k + 1) (h - takes + puts)) left' (n + 1) (xs ++ [.int .i64 ((k : Int) + 1)])) := Lib.hid fun X hX =>
    (on_ok (H.below hX) (Nat.le_trans hB hX.size) hk hs1 hN hn true hh ht hp).mono fun e w' ⟨h1, h2, h3⟩ => ⟨h1, (hX.mono hB).trans h2, h3⟩
  clear H
  rcases hop with ⟨rfl, rfl, rfl⟩ | ⟨rfl, rfl, rfl⟩ | ⟨rfl, rfl, rfl⟩
  all_goals
    go_enter Tryz.func23, Tryz.ntmps23
    go_wp2
    go_region
    all_goals
      go_wp2_with fail
      refine (HO.out _ ?_).mono ?_
      · repeat (first | exact Below.refl _ _ | refine Below.drew ?_ | refine Below.alloc ?_ (by first | (simp; done) | (simp; omega)) _)
      rintro e w3 ⟨rfl, hb3, left', hF3⟩
      have HB3 := Lib.hid hb3
      have HF3 := Lib.hid hF3
      clear hb3 hF3
      go_wp2
      go_end0
      exact ⟨rfl, HB3.out, _, HF3.out⟩
end Go.Gen
set_option linter.unusedVariables false
set_option linter.unusedSimpArgs false
set_option maxRecDepth 100000
set_option maxHeartbeats 4000000
namespace Go.Gen
open Go Go.RowKit Go.Proofs
theorem Fl.own {Bs : Nat} {w : World} {fb ab q N : Nat} {st : Nat → Option Int} {left : Value} {n : Nat} {xs : List Value} (H : Fl Bs w fb ab q N st left n xs) : left.ownBlock ≠ some fb ∧ left.ownBlock ≠ some ab ∧ fb ≠ ab := by
  obtain ⟨cs, hab, _⟩ := H.ablk
  rcases H.row.2 with ⟨e, _⟩ | ⟨g, cap, cur, e, _, h3, _⟩
  · rw [e]
    exact ⟨by simp [Value.ownBlock], by simp [Value.ownBlock], fun e => by have h1 := H.fblk; rw [e, hab] at h1; cases h1⟩
  · refine ⟨fun e2 => ?_, fun e2 => ?_, fun e => by have h1 := H.fblk; rw [e, hab] at h1; cases h1⟩
    · rw [e] at e2; simp [Value.ownBlock] at e2; subst e2; rw [H.fblk] at h3; cases h3
    · rw [e] at e2; simp [Value.ownBlock] at e2; subst e2; rw [hab] at h3; cases h3
/-- the flow's record turned at one place -/
theorem Fl.flag {Bs : Nat} {w : World} {fb ab q N : Nat} {st : Nat → Option Int} {left : Value} {n : Nat} {xs : List Value} (H : Fl Bs w fb ab q N st left n xs) : Fl Bs (w.setCell ⟨fb, 8, none⟩ (.bool false)) fb ab q N st left n xs :=
  ⟨Go.Joins.block_setCell (cs := flowC q ab N left false) H.fblk _, (by
    obtain ⟨cs, h1, h2, h3⟩ := H.ablk
    exact ⟨cs, by rw [Below.heap_setCell _ _ _ _ (Ne.symm H.own.2.2)]; exact h1, h2, h3⟩), row_setCell H.row H.own.1, H.fge, H.age⟩
theorem Fl.less {Bs : Nat} {w : World} {fb ab q N : Nat} {st : Nat → Option Int} {ca : Option Addr} {cc n : Nat} {xs : List Value} {x : Value} (H : Fl Bs w fb ab q N st (.slice ca (n + 1) cc) (n + 1) (xs ++ [x])) : Fl Bs (w.setCell ⟨fb, 7, none⟩ (.slice ca n cc)) fb ab q N st (.slice ca n cc) n xs := by
  refine ⟨Go.Joins.block_setCell (cs := flowC q ab N (.slice ca (n + 1) cc) false) H.fblk _, ?_, ?_, H.fge, H.age⟩
  · obtain ⟨cs, h1, h2, h3⟩ := H.ablk
    exact ⟨cs, by rw [Below.heap_setCell _ _ _ _ (Ne.symm H.own.2.2)]; exact h1, h2, h3⟩
  · have hr : w.ownsRow Bs 3 1 (.slice ca n cc) n xs := by
      have hl := H.row.1
      simp at hl
      refine ⟨by omega, ?_⟩
      rcases H.row.2 with ⟨e, h0⟩ | ⟨g, cap, cur, e, h2, h3, h4, h5, h6, h7⟩
      · omega
      · cases e
        refine .inr ⟨g, cc, cur, rfl, h2, h3, by omega, h5, h6, ?_⟩
        rw [Nat.mul_one] at h7 ⊢
        have h8 : List.take n (List.take (n + 1) cur.toList) = List.take n (xs ++ [x]) := congrArg (List.take n) h7
        rw [List.take_take, Nat.min_eq_left (by omega)] at h8
        rw [h8, ← hl, List.take_left]
    refine row_setCell hr ?_
    have := H.own.1
    cases ca with
    | none => simp [Value.ownBlock]
    | some a => simpa [Value.ownBlock] using this
theorem step_halt {Bs : Nat} {w : World} {fb ab q N g cap : Nat} {st : Nat → Option Int} {left : Value} {n : Nat} {xs : List Value} (H : Fl Bs w fb ab q N st left n xs) (hB : Bs ≤ w.heap.size) (hq : w.cell? ⟨q, 0, none⟩ = some (.slice (some ⟨g, 0, none⟩) (N + 3) cap))
    {k : Nat} (hk : k < N + 3) {a h : Int}
    (c0 : w.cell? ⟨g, k * 5, none⟩ = some (.int .u8 25)) (c1 : w.cell? ⟨g, k * 5 + 1, none⟩ = some (.int .i64 a)) (c2 : w.cell? ⟨g, k * 5 + 2, none⟩ = some (.int .i64 0)) (c3 : w.cell? ⟨g, k * 5 + 3, none⟩ = some (.int .i64 0)) (c4 : w.cell? ⟨g, k * 5 + 4, none⟩ = some (.string { data := #[] }))
    (hs : st k = some h) (hN : N ≤ 59000) :
    Calls Tryz.prog 23 #[.pointer (some ⟨fb, 0, none⟩), .int .i64 k] w fun e w' =>
      e = .returned (.tuple #[]) ∧ Below Bs w w' ∧ Fl Bs w' fb ab q N st left n xs := by
  obtain ⟨f0, f2, f6, f8, z8, a0, a1, a2⟩ := H.cells hk hs
  have fl := cell_lt f0
  have al := cell_lt a0
  have ql := cell_lt hq
  have gl := cell_lt c0
  have HH := Lib.hid H
  clear H
  go_enter Tryz.func23, Tryz.ntmps23
  go_wp2
  go_region
  all_goals
    go_wp2
    go_end0
    refine ⟨rfl, ?_, HH.out.flag.below ?_⟩
    · repeat (first | exact Below.setCell (Below.refl _ _) HH.out.fge _ | refine Below.drew ?_ | refine Below.alloc ?_ (by first | (simp; done) | (simp; omega)) _)
    · repeat (first | exact Below.refl _ _ | refine Below.drew ?_ | refine Below.alloc ?_ (by first | (simp; done) | (simp; omega)) _)
end Go.Gen
set_option linter.unusedVariables false
set_option linter.unusedSimpArgs false
set_option maxRecDepth 100000
set_option maxHeartbeats 4000000
namespace Go.Gen
open Go Go.RowKit Go.Proofs
theorem i94 : (Tryz.prog.info? 94).map (fun i => (i.size, i.bytes, i.zero)) = some (3, 40, some (.agg #[.bool false, .int .i64 0, .slice none 0 0])) := by kernel_rfl
/-- the states at the beginning -/
def atZ (N : Nat) : Array Value := madeCells #[.bool false, .int .i64 0, .slice none 0 0] ((N + 3) * 3)
theorem mk90 {N : Nat} (hN : N ≤ 59000) (w : World) : (Instr.makeSlice 90 (.int .i64 ((N : Int) + 3)) (.int .i64 ((N : Int) + 3))).run Tryz.prog w = .ok (.slice (some ⟨w.heap.size, 0, none⟩) (N + 3) (N + 3)) (w.alloc (.cells (atZ N) 94)) := by
  obtain ⟨i, hi, hi2⟩ := Option.map_eq_some_iff.1 i94
  injection hi2 with h1 h2
  injection h2 with h2 h3
  have := run_makeSlice (P := Tryz.prog) w 90 94 i (.agg #[.bool false, .int .i64 0, .slice none 0 0]) Tryz.underlying90 hi h3 .i64 .i64 ((N : Int) + 3) ((N : Int) + 3) (by omega) (by omega) (by rw [h1]; omega) (by rw [h2]; omega) (by omega)
  rw [this, h1]
  have e : ((N : Int) + 3).toNat = N + 3 := by omega
  rw [e]; rfl
theorem atZ_get {N i : Nat} (hi : i < N + 3) : (atZ N)[i * 3]? = some (.bool false) := by
  unfold atZ madeCells
  rw [Array.getElem?_map, Array.getElem?_range, if_pos (by omega)]
  simp
theorem atZ_size (N : Nat) : (atZ N).size = (N + 3) * 3 := size_madeCells _ _
/-- the states, where k is the last place come to -/
def stK (N k : Nat) : Nat → Option Int := fun i => if i ≤ k then some (hgt N i) else none
theorem stK_succ (N k : Nat) : upd (stK N k) (k + 1) (hgt N (k + 1)) = stK N (k + 1) := by
  funext i
  unfold upd stK
  by_cases h : i = k + 1
  · subst h; simp
  · by_cases h2 : i ≤ k
    · simp [h, h2, show i ≤ k + 1 by omega]
    · simp [h, h2, show ¬ i ≤ k + 1 by omega]
theorem stK_zero (N : Nat) : upd (fun _ => none) 0 0 = stK N 0 := by
  funext i
  unfold upd stK
  by_cases h : i = 0
  · subst h; simp [hgt]
  · simp [h]
/-- what holds while the flow is run -/
def LoopI (w : World) (fb ab q N : Nat) (wr : World) : Prop := Below w.heap.size w wr ∧ ((∃ k left, k < N + 3 ∧ Fl w.heap.size wr fb ab q N (stK N k) left 1 [.int .i64 k]) ∨ ∃ left, Fl w.heap.size wr fb ab q N (stK N (N + 2)) left 0 [])
def mOf (fb N : Nat) (wr : World) : Nat := match wr.cell? ⟨fb, 7, none⟩ with
  | some (.slice (some a) 1 _) => (match wr.cell? a with | some (.int _ k) => N + 4 - k.toNat | _ => 0)
  | _ => 0
theorem Fl.f7 {Bs : Nat} {w : World} {fb ab q N : Nat} {st : Nat → Option Int} {left : Value} {n : Nat} {xs : List Value} (H : Fl Bs w fb ab q N st left n xs) : w.cell? ⟨fb, 7, none⟩ = some left ∧ w.frozen? ⟨fb, 7, none⟩ = false ∧ w.cell? ⟨fb, 8, none⟩ = some (.bool false) := by
  refine ⟨by simp [World.cell?, H.fblk, flowC], by simp [World.frozen?, H.fblk], by simp [World.cell?, H.fblk, flowC]⟩
theorem Fl.one {Bs : Nat} {w : World} {fb ab q N : Nat} {st : Nat → Option Int} {left : Value} {x : Value} (H : Fl Bs w fb ab q N st left 1 [x]) : ∃ gl lc, left = .slice (some ⟨gl, 0, none⟩) 1 lc ∧ w.cell? ⟨gl, 0, none⟩ = some x := by
  obtain ⟨gl, lc, e, _, _⟩ := row_form H.row
  subst e
  exact ⟨gl, lc, rfl, H.row.cellAt 0 (by decide)⟩
theorem mOf_one {Bs : Nat} {w : World} {fb ab q N : Nat} {st : Nat → Option Int} {left : Value} {k : Nat} (H : Fl Bs w fb ab q N st left 1 [.int .i64 k]) : mOf fb N w = N + 4 - k := by
  obtain ⟨gl, lc, rfl, h⟩ := H.one
  simp [mOf, H.f7.1, h]
theorem mOf_none {Bs : Nat} {w : World} {fb ab q N : Nat} {st : Nat → Option Int} {left : Value} (H : Fl Bs w fb ab q N st left 0 []) : mOf fb N w = 0 := by
  have : ∃ ca cc, left = .slice ca 0 cc := by
    rcases H.row.2 with ⟨h, _⟩ | ⟨g, cap, cur, h1, _⟩
    · exact ⟨_, _, h⟩
    · exact ⟨_, _, h1⟩
  obtain ⟨ca, cc, rfl⟩ := this
  unfold mOf
  rw [H.f7.1]
  cases ca <;> rfl
/-- one step of the flow -/
theorem step_at {B : Nat} {w wr : World} {fb ab q N g cap : Nat} {left : Value} (h2 : 2 ≤ N) (hN : N ≤ 59000) (hw : Below w.heap.size w wr) (hB : B ≤ w.heap.size) (hql : q < w.heap.size) (hq : w.cell? ⟨q, 0, none⟩ = some (.slice (some ⟨g, 0, none⟩) (N + 3) cap)) (hr : w.ownsRow B 50 5 (.slice (some ⟨g, 0, none⟩) (N + 3) cap) (N + 3) (progL N))
    {k : Nat} (hk : k < N + 3) (H : Fl w.heap.size wr fb ab q N (stK N k) left 0 []) :
    Calls Tryz.prog 23 #[.pointer (some ⟨fb, 0, none⟩), .int .i64 k] wr fun e w' => e = .returned (.tuple #[]) ∧ LoopI w fb ab q N w' ∧ mOf fb N w' < N + 4 - k := by
  have hq' : wr.cell? ⟨q, 0, none⟩ = _ := (hw.cell (p := ⟨q, 0, none⟩) hql).trans hq
  obtain ⟨op, a, e, ho, c0, c1, c2, c3, c4⟩ := ins_cells (ownsRow_below hr hw) hk
  have hs : stK N k k = some (hgt N k) := by simp [stK]
  by_cases hl : k = N + 2
  · subst hl
    have : op = 25 := by
      unfold insAt at e
      rw [if_neg (by omega), if_neg (by omega), if_neg (by omega)] at e
      simp [ins] at e
      exact e.1.symm
    subst this
    refine (step_halt H hw.size hq' hk c0 c1 c2 c3 c4 hs hN).mono ?_
    rintro e w' ⟨h1, h3, h4⟩
    exact ⟨h1, ⟨hw.trans h3, .inr ⟨_, h4⟩⟩, by rw [mOf_none h4]; omega⟩
  · have hs1 : stK N k (k + 1) = none := by simp [stK]
    have main : ∀ (takes puts : Int), ((op = 1 ∧ takes = 0 ∧ puts = 1) ∨ (op = 11 ∧ takes = a ∧ puts = 1) ∨ (op = 21 ∧ takes = 1 ∧ puts = 0)) → 0 ≤ takes ∧ takes ≤ hgt N k → hgt N k - takes + puts = hgt N (k + 1) → 0 ≤ hgt N k ∧ hgt N k ≤ 100000 →
        Calls Tryz.prog 23 #[.pointer (some ⟨fb, 0, none⟩), .int .i64 k] wr fun e w' => e = .returned (.tuple #[]) ∧ LoopI w fb ab q N w' ∧ mOf fb N w' < N + 4 - k := by
      intro takes puts hop ht hh hb
      refine (step_int (B := B) H hw.size hq' (k := k) (by omega) hop c0 c1 c2 c3 c4 hs hs1 hN (by omega) hb ht).mono ?_
      rintro e w' ⟨h1, h3, left', h4⟩
      rw [hh, stK_succ, show ((k : Int) + 1) = ((k + 1 : Nat) : Int) from by simp] at h4
      have h4' : Fl w.heap.size w' fb ab q N (stK N (k + 1)) left' 1 [.int .i64 ((k + 1 : Nat) : Int)] := h4
      exact ⟨h1, ⟨hw.trans h3, .inl ⟨k + 1, left', by omega, h4'⟩⟩, by rw [mOf_one h4']; omega⟩
    unfold insAt at e
    by_cases h3 : k < N
    · rw [if_pos h3] at e
      simp [ins] at e
      have e1 : hgt N k = k := by unfold hgt; rw [if_pos (by omega)]
      have e2 : hgt N (k + 1) = (k : Int) + 1 := by unfold hgt; rw [if_pos (by omega)]; simp
      exact main 0 1 (.inl ⟨e.1.symm, rfl, rfl⟩) (by omega) (by omega) (by omega)
    · rw [if_neg h3] at e
      by_cases h4 : k = N
      · rw [if_pos h4] at e
        simp [ins] at e
        have e1 : hgt N k = k := by unfold hgt; rw [if_pos (by omega)]
        have e2 : hgt N (k + 1) = 1 := by unfold hgt; rw [if_neg (by omega), if_pos (by omega)]
        exact main a 1 (.inr (.inl ⟨e.1.symm, rfl, rfl⟩)) (by omega) (by omega) (by omega)
      · rw [if_neg h4, if_pos (by omega)] at e
        simp [ins] at e
        have e1 : hgt N k = 1 := by unfold hgt; rw [if_neg (by omega), if_pos (by omega)]
        have e2 : hgt N (k + 1) = 0 := by unfold hgt; rw [if_neg (by omega), if_neg (by omega)]
        exact main 1 0 (.inr (.inr ⟨e.1.symm, rfl, rfl⟩)) (by omega) (by omega) (by omega)
end Go.Gen
set_option linter.unusedVariables false
set_option linter.unusedSimpArgs false
set_option maxRecDepth 100000
set_option maxHeartbeats 4000000
namespace Go.Gen
open Go Go.RowKit Go.Proofs
/-- the world as the flow is begun -/
def Y4 (w : World) (q N : Nat) : World := (((w.alloc (.cells #[.slice (some ⟨q, 0, none⟩) 1 1, .slice none 0 0] 29)).alloc (.cells #[.int .i64 0, .int .i64 0, .int .i64 0] 59)).alloc (.cells (atZ N) 94)).alloc (.cells (flowC q (w.heap.size + 1 + 1) N (.slice none 0 0) false) 92)
theorem y4_facts (w : World) (q N : Nat) : Below w.heap.size w (Y4 w q N) ∧ (Y4 w q N).heap.size = w.heap.size + 4 ∧ Fl w.heap.size (Y4 w q N) (w.heap.size + 1 + 1 + 1) (w.heap.size + 1 + 1) q N (fun _ => none) (.slice none 0 0) 0 [] := by
  have push : ∀ (w : World) (o : Obj) (k : Nat), k < w.heap.size → (w.alloc o).heap[k]? = w.heap[k]? := fun w o k hk => Below.heap_alloc w o k hk
  have new : ∀ (w : World) (o : Obj) (k : Nat), k = w.heap.size → (w.alloc o).heap[k]? = some o := fun w o k hk => by subst hk; exact heap_alloc_new w o
  unfold Y4
  refine ⟨(by repeat (first | exact Below.refl _ _ | refine Below.drew ?_ | refine Below.alloc ?_ (by first | (simp; done) | (simp; omega)) _)), by simp, ?_, ⟨atZ N, ?_, atZ_size N, fun i hi => ⟨atZ_get hi, fun h e => by cases e⟩⟩, World.ownsRow_nil _ _ _ _, by omega, by omega⟩
  · exact new _ _ _ (by simp)
  · rw [push _ _ _ (by simp)]; exact new _ _ _ (by simp)
theorem runs_ok {B : Nat} {w : World} {q N : Nat} {code' : Value} (hB : B ≤ w.heap.size) (h2 : 2 ≤ N) (hN : N ≤ 59000) (hq : w.heap[q]? = some (.cells #[code'] 43 (0, 0))) (hr : w.ownsRow B 50 5 code' (N + 3) (progL N)) :
    Calls Tryz.prog 13 #[.agg #[.slice (some ⟨q, 0, none⟩) 1 1, .slice none 0 0], .int .i64 0, .agg #[.int .i64 0, .int .i64 0, .int .i64 0]] w fun e w' => e = .returned (.bool true) ∧ Below w.heap.size w w' := by
  obtain ⟨g, cap, rfl, hBg, hgl⟩ := row_form hr
  have hql := (Array.getElem?_eq_some_iff.1 hq).1
  have q0 : w.cell? ⟨q, 0, none⟩ = some (.slice (some ⟨g, 0, none⟩) (N + 3) cap) := by simp [World.cell?, hq]
  obtain ⟨hy1, hy2, hy3⟩ := y4_facts w q N
  have HT : Hid (∀ X, Below (w.heap.size + 4) (Y4 w q N) X → Calls Tryz.prog 22 #[.pointer (some ⟨w.heap.size + 1 + 1 + 1, 0, none⟩), .int .i64 0, .agg #[.bool false, .int .i64 0, .slice none 0 0]] X fun e w' => e = .returned (.tuple #[]) ∧ LoopI w (w.heap.size + 1 + 1 + 1) (w.heap.size + 1 + 1) q N w') := Lib.hid fun X hX => by
    have hX' : Below (Y4 w q N).heap.size (Y4 w q N) X := by rw [hy2]; exact hX
    have key := to_ok (hy3.below hX') (Nat.le_trans (by omega : w.heap.size ≤ (Y4 w q N).heap.size) hX.size) (at' := 0) (by omega) rfl hN (by omega) false 0
    rw [stK_zero] at key
    exact key.mono fun e w' ⟨k1, k2, left', k3⟩ => ⟨k1, (hy1.trans (hX.mono (by omega))).trans k2, .inl ⟨0, left', by omega, k3⟩⟩
  have HS : Hid (∀ (wr : World) (left : Value) (k : Nat), Below w.heap.size w wr → k < N + 3 → Fl w.heap.size wr (w.heap.size + 1 + 1 + 1) (w.heap.size + 1 + 1) q N (stK N k) left 0 [] → Calls Tryz.prog 23 #[.pointer (some ⟨w.heap.size + 1 + 1 + 1, 0, none⟩), .int .i64 k] wr fun e w' => e = .returned (.tuple #[]) ∧ LoopI w (w.heap.size + 1 + 1 + 1) (w.heap.size + 1 + 1) q N w' ∧ mOf (w.heap.size + 1 + 1 + 1) N w' < N + 4 - k) :=
    Lib.hid fun wr left k hw hk hF => step_at h2 hN hw hB hql q0 hr hk hF
  have hyy : Hid (Y4 w q N = (((w.alloc (.cells #[.slice (some ⟨q, 0, none⟩) 1 1, .slice none 0 0] 29)).alloc (.cells #[.int .i64 0, .int .i64 0, .int .i64 0] 59)).alloc (.cells (atZ N) 94)).alloc (.cells (flowC q (w.heap.size + 1 + 1) N (.slice none 0 0) false) 92)) := Lib.hid rfl
  have MK := fun w => mk90 hN w
  clear hq hr hy1 hy3
  go_enter Tryz.func13, Tryz.ntmps13
  go_wp2
  go_region
  all_goals
    rw [show (((w.alloc (.cells #[.slice (some ⟨q, 0, none⟩) 1 1, .slice none 0 0] 29)).alloc (.cells #[.int .i64 0, .int .i64 0, .int .i64 0] 59)).alloc (.cells (atZ N) 94)).alloc (.cells #[.slice (some ⟨q, 0, none⟩) 1 1, .slice none 0 0, .int .i64 0, .int .i64 0, .int .i64 0, .int .i64 0, .slice (some ⟨w.heap.size + 1 + 1, 0, none⟩) (N + 3) (N + 3), .slice none 0 0, .bool false] 92) = Y4 w q N from rfl]
    generalize hY : Y4 w q N = y4 at *
    clear hyy hY MK
    go_wp2_with fail
    refine (HT.out _ ?_).mono ?_
    · rw [← hy2]
      repeat (first | exact Below.refl _ _ | refine Below.drew ?_ | refine Below.alloc ?_ (by first | (simp; done) | (simp; omega)) _)
    rintro e w5 ⟨rfl, hL⟩
    have HL := Lib.hid hL
    clear hL HT
    go_wp2
    go_loopw [] (fun wr => Hid (LoopI w (w.heap.size + 1 + 1 + 1) (w.heap.size + 1 + 1) q N wr)) (fun wr => mOf (w.heap.size + 1 + 1 + 1) N wr)
    case atStart => exact HL
    case round =>
      obtain ⟨hbw, hcase⟩ := hrel.out
      have HBW := Lib.hid hbw
      rcases hcase with ⟨k, left, hk, hF⟩ | ⟨left, hF⟩
      · obtain ⟨gl, lc, rfl, hgl0⟩ := hF.one
        obtain ⟨f7, z7, f8⟩ := hF.f7
        have hm := Lib.hid (mOf_one hF)
        have HF := Lib.hid hF
        clear hF hbw
        go_wp2
        go_region
        all_goals
          go_wp2
          go_region
          all_goals
            go_wp2_with fail
            refine (HS.out _ (.slice (some ⟨gl, 0, none⟩) 0 lc) k ?_ hk ?_).mono ?_
            · repeat (first | exact Below.setCell HBW.out (by simp; omega) _ | refine Below.drew ?_)
            · have h1 := (Fl.less (n := 0) (xs := []) HF.out).below (Below.refl _ _).drew
              exact h1.below (Below.refl _ _).drew
            rintro e w6 ⟨rfl, hL6, hm6⟩
            have HL6 := Lib.hid hL6
            have HM6 := Lib.hid hm6
            clear hL6 hm6
            go_wp2
            refine ⟨HL6, ?_⟩
            rw [hm.out]; exact HM6.out
      · obtain ⟨f7, z7, f8⟩ := hF.f7
        have hl0 : ∃ ca cc, left = .slice ca 0 cc := by
          rcases hF.row.2 with ⟨h, _⟩ | ⟨g, cap, cur, h1, _⟩
          · exact ⟨_, _, h⟩
          · exact ⟨_, _, h1⟩
        obtain ⟨ca, cc, rfl⟩ := hl0
        clear hF hbw
        go_wp2
        exact bodyPost_ret (v := .bool true) (by simp [results, Tryz.results13, go_sem]) rfl ⟨rfl, by repeat (first | exact HBW.out | refine Below.drew ?_)⟩
end Go.Gen
set_option linter.unusedVariables false
set_option linter.unusedSimpArgs false
set_option maxRecDepth 100000
set_option maxHeartbeats 4000000
namespace Go.Gen
open Go Go.RowKit Go.Proofs
/-- what holds all along: the box of the code -/
def CkI (w : World) (q : Nat) (wr : World) : Prop := Below w.heap.size w wr ∧ wr.heap[w.heap.size]? = some (.cells #[.slice (some ⟨q, 0, none⟩) 1 1, .slice none 0 0] 29 (0, 0))
theorem CkI.below {w : World} {q : Nat} {wr wr' : World} (h : CkI w q wr) (hb : Below wr.heap.size wr wr') : CkI w q wr' :=
  ⟨h.1.trans (hb.mono (h.1.size)), (hb.block _ (Array.getElem?_eq_some_iff.1 h.2).1).trans h.2⟩
theorem check_ok : CheckOK := by
  intro B w q N code' hB h2 hN hq hr
  have hr : w.ownsRow B 50 5 code' (N + 3) (progL N) := hr
  obtain ⟨g, cap, rfl, hBg, hgl⟩ := row_form hr
  have hql := (Array.getElem?_eq_some_iff.1 hq).1
  have q0 : w.cell? ⟨q, 0, none⟩ = some (.slice (some ⟨g, 0, none⟩) (N + 3) cap) := by simp [World.cell?, hq]
  have hI0 : CkI w q (w.alloc (.cells #[.slice (some ⟨q, 0, none⟩) 1 1, .slice none 0 0] 29)) := ⟨(Below.refl _ _).alloc (Nat.le_refl _) _, heap_alloc_new _ _⟩
  have HROOT : Hid (∀ X, CkI w q X → Calls Tryz.prog 10 #[.slice none 0 0] X fun e w' => e = .returned (.bool true) ∧ CkI w q w') := Lib.hid fun X hX => (rooted_nil X).mono fun e w' ⟨h1, h3⟩ => ⟨h1, hX.below h3⟩
  have HOP : Hid (∀ X i, i < N + 3 → CkI w q X → ∀ op a : Int, insAt N i = ins op a 0 0 { data := #[] } → Calls Tryz.prog 11 #[.agg #[.slice (some ⟨q, 0, none⟩) 1 1, .slice none 0 0], .int .i64 0, .agg #[.int .u8 op, .int .i64 a, .int .i64 0, .int .i64 0, .string { data := #[] }]] X fun e w' => e = .returned (.bool true) ∧ CkI w q w') := Lib.hid fun X i hi hX op a hins => by
    have key := operands_at (w := X) ((hX.1.cell (p := ⟨q, 0, none⟩) hql).trans q0) N i h2 hN hi
    rw [hins] at key
    exact key.mono fun e w' ⟨h1, h3⟩ => ⟨h1, hX.below h3⟩
  have HGR : Hid (∀ X, CkI w q X → Calls Tryz.prog 12 #[.agg #[.slice (some ⟨q, 0, none⟩) 1 1, .slice none 0 0]] X fun e w' => ∃ gb, e = .returned (.tuple #[.slice (some ⟨gb, 0, none⟩) 1 1, .bool true]) ∧ CkI w q w' ∧ w'.heap[gb]? = some (.cells #[.int .i64 0, .int .i64 0, .int .i64 0] 59 (0, 0))) := Lib.hid fun X hX =>
    (groups_ok (Nat.le_trans hB hX.1.size) h2 hN ((hX.1.block q hql).trans hq) (ownsRow_below hr hX.1)).mono fun e w' ⟨h1, gb, h3, h4, h5⟩ => ⟨gb, h4, hX.below h1, h5⟩
  have HRUN : Hid (∀ X, CkI w q X → Calls Tryz.prog 13 #[.agg #[.slice (some ⟨q, 0, none⟩) 1 1, .slice none 0 0], .int .i64 0, .agg #[.int .i64 0, .int .i64 0, .int .i64 0]] X fun e w' => e = .returned (.bool true) ∧ CkI w q w') := Lib.hid fun X hX =>
    (runs_ok (Nat.le_trans hB hX.1.size) h2 hN ((hX.1.block q hql).trans hq) (ownsRow_below hr hX.1)).mono fun e w' ⟨h1, h3⟩ => ⟨h1, hX.below h3⟩
  have HR := Lib.hid hr
  have HI0 := Lib.hid hI0
  clear hr hq hI0
  go_enter Tryz.func6, Tryz.ntmps6
  go_wp2_with fail
  refine (HROOT.out _ ?_).mono ?_
  · exact HI0.out
  rintro e w1 ⟨rfl, hI1⟩
  have HI1 := Lib.hid hI1
  have b0 : w1.cell? ⟨w.heap.size, 0, none⟩ = some (.slice (some ⟨q, 0, none⟩) 1 1) := by simp [World.cell?, hI1.2]
  have b1 : w1.cell? ⟨w.heap.size, 1, none⟩ = some (.slice none 0 0) := by simp [World.cell?, hI1.2]
  clear hI1 HI0
  go_wp2
  refine wp_loop_rounds 2 ?_
  rw [rounds_succ]
  go_wp2
  go_loopw [4] (fun j wr => ∃ k : Nat, k ≤ N + 3 ∧ j = .int .i64 k ∧ Hid (CkI w q wr)) (fun j _ => N + 3 - (intOf j).toNat)
  case atStart => exact ⟨0, Nat.zero_le _, rfl, Lib.hid (by
    refine HI1.out.below ?_
    repeat (first | exact Below.refl _ _ | refine Below.drew ?_))⟩
  case round =>
    obtain ⟨k, hk, rfl, hS⟩ := hrel
    have t0 : wr.cell? ⟨w.heap.size, 0, none⟩ = some (.slice (some ⟨q, 0, none⟩) 1 1) := by simp [World.cell?, hS.out.2]
    have t1 : wr.cell? ⟨w.heap.size, 1, none⟩ = some (.slice none 0 0) := by simp [World.cell?, hS.out.2]
    have q0' : wr.cell? ⟨q, 0, none⟩ = some (.slice (some ⟨g, 0, none⟩) (N + 3) cap) := (hS.out.1.cell (p := ⟨q, 0, none⟩) hql).trans q0
    by_cases hlt : k < N + 3
    · obtain ⟨op, a, hins, hop, c0, c1, c2, c3, c4⟩ := ins_cells (ownsRow_below HR.out hS.out.1) hlt
      go_wp2
      go_region_with (go_at_call 11; refine (HOP.out _ k hlt ?_ op a hins).mono ?_; (refine hS.out.below ?_; repeat (first | exact Below.refl _ _ | refine Below.drew ?_)); rintro e w2 ⟨rfl, hI2⟩; (have HI2 := Lib.hid hI2); clear hI2)
      all_goals
        go_wp2
        refine ⟨⟨k + 1, by omega, by simp, Lib.hid (HI2.out.below ?_)⟩, by simp [intOf]; omega⟩
        repeat (first | exact Below.refl _ _ | refine Below.drew ?_)
    · obtain rfl : k = N + 3 := by omega
      go_wp2
      rw [rounds_succ]
      go_wp2_with fail
      refine (HGR.out _ ?_).mono ?_
      · refine hS.out.below ?_
        repeat (first | exact Below.refl _ _ | refine Below.drew ?_)
      rintro e w3 ⟨gb, rfl, hI3, hgb⟩
      have HI3 := Lib.hid hI3
      have r0 : w3.cell? ⟨w.heap.size, 0, none⟩ = some (.slice (some ⟨q, 0, none⟩) 1 1) := by simp [World.cell?, hI3.2]
      have r1 : w3.cell? ⟨w.heap.size, 1, none⟩ = some (.slice none 0 0) := by simp [World.cell?, hI3.2]
      have g0 : w3.cell? ⟨gb, 0, none⟩ = some (.int .i64 0) := by simp [World.cell?, hgb]
      have g1 : w3.cell? ⟨gb, 1, none⟩ = some (.int .i64 0) := by simp [World.cell?, hgb]
      have g2 : w3.cell? ⟨gb, 2, none⟩ = some (.int .i64 0) := by simp [World.cell?, hgb]
      clear hI3 hgb
      go_wp2
      refine wp_loop_rounds 2 ?_
      rw [rounds_succ]
      go_wp2
      go_region_with (go_at_call 13; refine (HRUN.out _ ?_).mono ?_; (refine HI3.out.below ?_; repeat (first | exact Below.refl _ _ | refine Below.drew ?_)); rintro e w4 ⟨rfl, hI4⟩; (have s0 : w4.cell? ⟨w.heap.size, 0, none⟩ = some (.slice (some ⟨q, 0, none⟩) 1 1) := by simp [World.cell?, hI4.2]); (have HI4 := Lib.hid hI4); clear hI4)
      all_goals
        go_wp2
        rw [rounds_succ]
        go_wp2
        exact bodyPost_ret (v := .int .i64 0) (by simp [results, Tryz.results6, go_sem]) rfl ⟨rfl, by repeat (first | exact HI4.out.1 | refine Below.drew ?_)⟩
end Go.Gen
