/- What is done with no space: walked where bytes of any number are handed on, run by the kernel elsewhere; each says its own conditions. -/
import Derived.Test.YtaamiedjgfopiaaGreatDoorSort
import Derived.WalkKit
import Derived.Handy
import Derived.LoopTactic
import Derived.Test.YtaamiedjgfopiaaGreatDoorShA
set_option linter.unusedVariables false
set_option linter.unusedSimpArgs false
set_option maxRecDepth 100000
set_option maxHeartbeats 800000
namespace Go.Eng
open Go.RowKit Go.Proofs
/-- cells that may be written -/
def Wr (w : World) (g n : Nat) : Prop := ∀ i, i < n → (∃ u, w.cell? ⟨g, i, none⟩ = some u) ∧ w.frozen? ⟨g, i, none⟩ = false
theorem i5s : (Tryz.prog.info? 5).map (fun i => (i.size, i.bytes, i.zero)) = some (1, 1, some (.int .u8 0)) := by kernel_rfl
theorem twin_calls {w : World} {a : Option Addr} {n c : Nat} (hn : n ≤ 1024) (ha : a = none → n = 0) (hc : ∀ p, a = some p → ∀ j, j < n → ∃ x : Int, w.cell? (p.add j) = some (.int .u8 x)) :
    Calls Tryz.prog 58 #[.slice a n c] w fun e w' => ∃ g cap, e = .returned (.slice (some ⟨g, 0, none⟩) n cap) ∧ w.heap.size ≤ g ∧ g < w'.heap.size ∧ Wr w' g n ∧ Below w.heap.size w w' := by
  obtain ⟨i, hi, hi2⟩ := Option.map_eq_some_iff.1 i5s
  have hz1 : i.size = 1 := congrArg Prod.fst hi2
  have hz2 : i.bytes = 1 := congrArg (fun x => x.2.1) hi2
  have hz0 : i.zero = some (.int .u8 0) := congrArg (fun x => x.2.2) hi2
  cases a with
  | none =>
    obtain rfl : n = 0 := ha rfl
    go_enter Tryz.func58, Tryz.ntmps58
    go_wp2
    go_ret
    exact ⟨w.heap.size, ⟨0, rfl⟩, Nat.le_refl _, by simp, fun i hi => absurd hi (Nat.not_lt_zero _), (Below.refl _ _).alloc (Nat.le_refl _) _⟩
  | some p =>
    have hx : ∃ x : Nat → Int, ∀ j, j < n → w.cell? (p.add j) = some (.int .u8 (x j)) := by
      have : ∀ j, ∃ y : Int, j < n → w.cell? (p.add j) = some (.int .u8 y) := fun j => by
        by_cases h : j < n
        · obtain ⟨y, hy⟩ := hc p rfl j h
          exact ⟨y, fun _ => hy⟩
        · exact ⟨0, fun h' => absurd h' h⟩
      exact ⟨fun j => (this j).choose, fun j hj => (this j).choose_spec hj⟩
    obtain ⟨x, hx⟩ := hx
    have hown : (w.alloc (.cells #[] 5)).ownsRow w.heap.size 5 1 (.slice (some ⟨w.heap.size, 0, none⟩) 0 0) 0 [] := World.ownsRow_made w #[] 0 (Nat.le_refl _) (by decide) rfl
    have hnews : ∀ j u, ((List.range n).map fun j => Value.int .u8 (x j))[j]? = some u → (w.alloc (.cells #[] 5)).cell? (p.add j) = some u := by
      intro j u hu
      rw [List.getElem?_map] at hu
      obtain ⟨k, hk, rfl⟩ := Option.map_eq_some_iff.1 hu
      obtain ⟨hk1, hk2⟩ := List.getElem?_eq_some_iff.1 hk
      rw [List.getElem_range] at hk2
      subst hk2
      have hj : j < n := by simpa using hk1
      have hcj := hx j hj
      rw [(Below.alloc (Below.refl w.heap.size w) (Nat.le_refl _) _).cell]
      · exact hcj
      · rcases Nat.lt_or_ge (p.add j).block w.heap.size with h | h
        · exact h
        · have : w.heap[(p.add j).block]? = none := Array.getElem?_eq_none h
          simp [World.cell?, this] at hcj
    go_enter Tryz.func58, Tryz.ntmps58
    go_wp2_with (first
      | (at_builtin; refine wpList_append_own _ rfl _ _ 22 rfl w.heap.size 5 i (.int .u8 0) 1 1 Tryz.underlying22 hi hz0 hz1 hz2 rfl (by decide) _ 0 [] rfl hown p n c ((List.range n).map fun j => Value.int .u8 (x j)) rfl (by simp) hnews (by simp [Value.oneCell']) (by simp only [maxLen]; omega) (by omega) (by simp) ?_; intro v' w' ho hgr hnil))
    go_ret
    have hgr : (w.alloc (Obj.cells #[] 5)).grownBy w' (some w.heap.size) := hgr
    have hb : Below w.heap.size w w' := ((Below.refl w.heap.size w).alloc (Nat.le_refl _) _).grown hgr (by simp) (fun k hk => by cases hk; exact Nat.le_refl _)
    rcases ho.2 with ⟨rfl, h0⟩ | ⟨g, cap, cur, rfl, hbg, hg, hnc, _, hcs, _⟩
    · exact absurd (hnil.1 rfl).1 (fun e => by cases e)
    · have hlt := (Array.getElem?_eq_some_iff.1 hg).1
      refine ⟨g, cap, by simp, hbg, hlt, fun j hj => ?_, hb⟩
      have hjc : j < cur.size := by omega
      constructor
      · exact ⟨cur[j], by simp [World.cell?, hg, Array.getElem?_eq_getElem hjc]⟩
      · simp [World.frozen?, hg]
/-! ## Calls with no space -/
noncomputable def errV : AV := .int .i64 (.ofNat 2)
theorem run54 : isV errV (c0 54 [.nilPtr, .opq 0, .opq 1] h0) = true := by kernel_rfl
theorem run55 : isV errV (c0 55 [.nilPtr, .opq 0] h0) = true := by kernel_rfl
theorem enters54 : Enters Tryz.prog 54 := enters_of Tryz.func54 (by kernel_rfl) (by kernel_rfl)
theorem enters55 : Enters Tryz.prog 55 := enters_of Tryz.func55 (by kernel_rfl) (by kernel_rfl)
def Scal (v : Value) : Prop := v.cells = #[v] ∧ ∀ x, v ≠ .tuple x
noncomputable def ctx2 (w : World) (u v : Value) (hu : Scal u) (hv : Scal v) : Ctx :=
  ⟨w.heap.size, w, fun i => match i with | 0 => u | _ => v, fun i => (match i with | 0 => hu.1 | _ + 1 => hv.1), fun i => (match i with | 0 => hu.2 | _ + 1 => hv.2), codesOf Tryz.prog, fun _ => ([], 0)⟩
theorem write_nil (w : World) (u v : Value) (hu : Scal u) (hv : Scal v) : Calls Tryz.prog 54 #[.pointer none, u, v] w fun e w' => e = .returned (.int .i64 2) ∧ Below w.heap.size w w' := by
  refine (run_isV (K := ctx2 w u v hu hv) (call0 rfl) enters54 (by decide) rfl rfl (globs_of fun g hg => ⟨1, by simp [hg]⟩) (h0_ok rfl rfl) (VRs.cons (x := .nilPtr) rfl (VRs.cons (x := .opq 0) rfl (VRs.cons (x := .opq 1) rfl VRs.nil))) run54).mono ?_
  rintro e w' ⟨⟨vc, σ', rfl, h1⟩, hb⟩
  have h1 : vc = .int .i64 2 := h1
  subst h1
  exact ⟨rfl, hb⟩
theorem commit_nil (w : World) (v : Value) (hv : Scal v) : Calls Tryz.prog 55 #[.pointer none, v] w fun e w' => e = .returned (.int .i64 2) ∧ Below w.heap.size w w' := by
  refine (run_isV (K := ctx2 w v v hv hv) (call0 rfl) enters55 (by decide) rfl rfl (globs_of fun g hg => ⟨1, by simp [hg]⟩) (h0_ok rfl rfl) (VRs.cons (x := .nilPtr) rfl (VRs.cons (x := .opq 0) rfl VRs.nil)) run55).mono ?_
  rintro e w' ⟨⟨vc, σ', rfl, h1⟩, hb⟩
  have h1 : vc = .int .i64 2 := h1
  subst h1
  exact ⟨rfl, hb⟩
theorem slice_scal (a : Option Addr) (n c : Nat) : Scal (.slice a n c) := ⟨rfl, fun x h => by cases h⟩
structure DI (w wr : World) (g n : Nat) (x : Int) : Prop where
  below : Below w.heap.size w wr
  c0 : wr.cell? ⟨w.heap.size + 1 + 1, 0, none⟩ = some (.slice none 0 0)
  c1 : wr.cell? ⟨w.heap.size + 1 + 1, 1, none⟩ = some (.bool false)
  c2 : wr.cell? ⟨w.heap.size + 1 + 1, 2, none⟩ = some (.int .i64 x)
  f2 : wr.frozen? ⟨w.heap.size + 1 + 1, 2, none⟩ = false
  d0 : ∃ u, wr.cell? ⟨w.heap.size + 1, 0, none⟩ = some u
  d1 : ∃ u, wr.cell? ⟨w.heap.size + 1, 1, none⟩ = some u
  d2 : ∃ u, wr.cell? ⟨w.heap.size + 1, 2, none⟩ = some u
  e0 : wr.frozen? ⟨w.heap.size + 1, 0, none⟩ = false
  e1 : wr.frozen? ⟨w.heap.size + 1, 1, none⟩ = false
  e2 : wr.frozen? ⟨w.heap.size + 1, 2, none⟩ = false
  wr : Wr wr g n
  hg : w.heap.size + 3 ≤ g
theorem DI.below' {w w1 w2 : World} {g n : Nat} {x : Int} (h : DI w w1 g n x) (hb : Below w1.heap.size w1 w2) (hs : w.heap.size + 3 ≤ w1.heap.size) (hgl : g < w1.heap.size) : DI w w2 g n x :=
  ⟨h.below.trans (hb.mono h.below.size), by rw [hb.cell (by show w.heap.size + 1 + 1 < _; omega)]; exact h.c0, by rw [hb.cell (by show w.heap.size + 1 + 1 < _; omega)]; exact h.c1, by rw [hb.cell (by show w.heap.size + 1 + 1 < _; omega)]; exact h.c2,
    by rw [hb.frozen (by show w.heap.size + 1 + 1 < _; omega)]; exact h.f2,
    by rw [hb.cell (by show w.heap.size + 1 < _; omega)]; exact h.d0, by rw [hb.cell (by show w.heap.size + 1 < _; omega)]; exact h.d1, by rw [hb.cell (by show w.heap.size + 1 < _; omega)]; exact h.d2,
    by rw [hb.frozen (by show w.heap.size + 1 < _; omega)]; exact h.e0, by rw [hb.frozen (by show w.heap.size + 1 < _; omega)]; exact h.e1, by rw [hb.frozen (by show w.heap.size + 1 < _; omega)]; exact h.e2,
    fun i hi => by rw [hb.cell (by exact hgl), hb.frozen (by exact hgl)]; exact h.wr i hi, h.hg⟩
theorem DI.setX {w w1 : World} {g n : Nat} {x : Int} (h : DI w w1 g n x) (y : Int) : DI w (w1.setCell ⟨w.heap.size + 1 + 1, 2, none⟩ (.int .i64 y)) g n y := by
  have hne : ∀ (b o : Nat), (b ≠ w.heap.size + 1 + 1 ∨ o ≠ 2) → (⟨w.heap.size + 1 + 1, 2, none⟩ : Addr) ≠ ⟨b, o, none⟩ := fun b o hh e => by
    have e1 := congrArg Addr.block e
    have e2 := congrArg Addr.off e
    simp only at e1 e2
    omega
  refine ⟨h.below.setCell (by show w.heap.size ≤ w.heap.size + 1 + 1; omega) _, ?_, ?_, World.cell?_setCell_same _ _ _ h.c2, ?_, ?_, ?_, ?_, ?_, ?_, ?_, ?_, h.hg⟩
  · rw [World.cell?_setCell_other _ _ _ _ (hne _ 0 (.inr (by decide)))]; exact h.c0
  · rw [World.cell?_setCell_other _ _ _ _ (hne _ 1 (.inr (by decide)))]; exact h.c1
  · rw [World.frozen?_setCell]; exact h.f2
  · rw [World.cell?_setCell_other _ _ _ _ (hne (w.heap.size + 1) 0 (.inl (by omega)))]; exact h.d0
  · rw [World.cell?_setCell_other _ _ _ _ (hne (w.heap.size + 1) 1 (.inl (by omega)))]; exact h.d1
  · rw [World.cell?_setCell_other _ _ _ _ (hne (w.heap.size + 1) 2 (.inl (by omega)))]; exact h.d2
  · rw [World.frozen?_setCell]; exact h.e0
  · rw [World.frozen?_setCell]; exact h.e1
  · rw [World.frozen?_setCell]; exact h.e2
  · intro i hi
    have := h.hg
    rw [World.cell?_setCell_other _ _ _ _ (hne g i (.inl (by omega))), World.frozen?_setCell]
    exact h.wr i hi
theorem DI.setG {w w1 : World} {g n : Nat} {x : Int} (h : DI w w1 g n x) (k : Nat) (v : Value) : DI w (w1.setCell ⟨g, k, none⟩ v) g n x := by
  have hg := h.hg
  have hne : ∀ (b o : Nat), b ≠ g → (⟨g, k, none⟩ : Addr) ≠ ⟨b, o, none⟩ := fun b o hh e => hh (congrArg Addr.block e).symm
  refine ⟨h.below.setCell (by show w.heap.size ≤ g; omega) _, ?_, ?_, ?_, ?_, ?_, ?_, ?_, ?_, ?_, ?_, ?_, h.hg⟩
  · rw [World.cell?_setCell_other _ _ _ _ (hne (w.heap.size + 1 + 1) 0 (by omega))]; exact h.c0
  · rw [World.cell?_setCell_other _ _ _ _ (hne (w.heap.size + 1 + 1) 1 (by omega))]; exact h.c1
  · rw [World.cell?_setCell_other _ _ _ _ (hne (w.heap.size + 1 + 1) 2 (by omega))]; exact h.c2
  · rw [World.frozen?_setCell]; exact h.f2
  · rw [World.cell?_setCell_other _ _ _ _ (hne (w.heap.size + 1) 0 (by omega))]; exact h.d0
  · rw [World.cell?_setCell_other _ _ _ _ (hne (w.heap.size + 1) 1 (by omega))]; exact h.d1
  · rw [World.cell?_setCell_other _ _ _ _ (hne (w.heap.size + 1) 2 (by omega))]; exact h.d2
  · rw [World.frozen?_setCell]; exact h.e0
  · rw [World.frozen?_setCell]; exact h.e1
  · rw [World.frozen?_setCell]; exact h.e2
  · intro i hi
    rw [World.frozen?_setCell]
    obtain ⟨⟨u, hu⟩, hf⟩ := h.wr i hi
    exact ⟨cell?_setCell_some hu, hf⟩
theorem does_write {w : World} {a : Option Addr} {n c : Nat} {pg kp tn : Value} (hn : n ≤ 1024) (ha : a = none → n = 0) (hc : ∀ p, a = some p → ∀ j, j < n → ∃ x : Int, w.cell? (p.add j) = some (.int .u8 x)) (hlt : ∀ p, a = some p → 0 < n → p.block < w.heap.size)
    (h1 : Scal pg) (h2 : Scal kp) (h3 : Scal tn) :
    Calls Tryz.prog 18 #[.pointer none, .agg #[.int .i64 1, pg, .slice a n c, kp, tn]] w fun e w' => e = .returned (.agg #[.slice none 0 0, .bool false, .int .i64 2]) ∧ Below w.heap.size w w' := by
  have tw : ∀ w' : World, Below w.heap.size w w' → Calls Tryz.prog 58 #[.slice a n c] w' fun e w2 => ∃ g cap, e = .returned (.slice (some ⟨g, 0, none⟩) n cap) ∧ w'.heap.size ≤ g ∧ g < w2.heap.size ∧ Wr w2 g n ∧ Below w'.heap.size w' w2 := fun w' hb =>
    twin_calls hn ha fun p hp j hj => by
      obtain ⟨x, hx⟩ := hc p hp j hj
      refine ⟨x, ?_⟩
      rw [hb.cell]
      · exact hx
      · have := hlt p hp (by omega)
        unfold Addr.add
        split <;> simpa using this
  have hB1 := (Below.refl w.heap.size w).alloc (Nat.le_refl _) (Obj.cells #[Value.int IntKind.i64 1, pg, Value.slice a n c, kp, tn] 41)
  have hB2 := hB1.alloc (by simp) (Obj.cells #[Value.slice none 0 0, Value.bool false, Value.int IntKind.i64 0] 46)
  have hB3 := hB2.alloc (by simp; omega) (Obj.cells #[Value.slice none 0 0, Value.bool false, Value.int IntKind.i64 0] 46)
  go_enter Tryz.func18, Tryz.ntmps18
  go_wp2_with fail
  refine (tw _ hB3).mono ?_
  rintro e w1 ⟨g, cap, rfl, hg1, hg2, hwr, hb1⟩
  have hs0 : (((w.alloc (Obj.cells #[Value.int IntKind.i64 1, pg, Value.slice a n c, kp, tn] 41)).alloc (Obj.cells #[Value.slice none 0 0, Value.bool false, Value.int IntKind.i64 0] 46)).alloc
      (Obj.cells #[Value.slice none 0 0, Value.bool false, Value.int IntKind.i64 0] 46)).heap.size = w.heap.size + 3 := by simp
  have hp1 : w1.cell? ⟨w.heap.size, 1, none⟩ = some pg := by
    rw [hb1.cell (by show w.heap.size < _; omega)]; simp [go_sem]
  have hI : DI w w1 g n 0 := by
    refine ⟨hB3.trans (hb1.mono (by omega)), ?_, ?_, ?_, ?_, ?_, ?_, ?_, ?_, ?_, ?_, hwr, by omega⟩
    · rw [hb1.cell (by show w.heap.size + 1 + 1 < _; omega)]; simp [go_sem]
    · rw [hb1.cell (by show w.heap.size + 1 + 1 < _; omega)]; simp [go_sem]
    · rw [hb1.cell (by show w.heap.size + 1 + 1 < _; omega)]; simp [go_sem]
    · rw [hb1.frozen (by show w.heap.size + 1 + 1 < _; omega)]; simp [go_sem]
    · rw [hb1.cell (by show w.heap.size + 1 < _; omega)]; simp [go_sem]
    · rw [hb1.cell (by show w.heap.size + 1 < _; omega)]; simp [go_sem]
    · rw [hb1.cell (by show w.heap.size + 1 < _; omega)]; simp [go_sem]
    · rw [hb1.frozen (by show w.heap.size + 1 < _; omega)]; simp [go_sem]
    · rw [hb1.frozen (by show w.heap.size + 1 < _; omega)]; simp [go_sem]
    · rw [hb1.frozen (by show w.heap.size + 1 < _; omega)]; simp [go_sem]
  have hs1 : w.heap.size + 3 ≤ w1.heap.size := by have := hb1.size; omega
  clear hb1 hs0 hB1 hB2 hB3 hwr tw
  go_wp2_with fail
  refine (write_nil w1 _ _ h1 (slice_scal _ _ _)).mono ?_
  rintro e w2 ⟨rfl, hb2⟩
  have hI2 := hI.below' hb2 hs1 hg2
  have hI3 := hI2.setX 2
  have c2 := hI2.c2
  have f2 := hI2.f2
  clear hI hp1
  go_wp2_with fail
  clear c2 f2 hI2
  go_loopw [10] (fun i wr => ∃ k : Nat, k ≤ n ∧ i = .int .i64 k ∧ DI w wr g n 2) (fun i _ => n - (intOf i).toNat)
  case atStart => exact ⟨0, Nat.zero_le _, rfl, hI3⟩
  case round =>
    obtain ⟨k, hk, rfl, hI⟩ := hrel
    by_cases hkn : k < n
    · obtain ⟨⟨u, hu⟩, hf⟩ := hI.wr k hkn
      have hIn := hI.setG k (.int .u8 85)
      go_wp2
      go_roundw
      case rel => exact ⟨k + 1, by omega, by simp, hIn⟩
      case measure => simp [intOf]; omega
    · obtain rfl : k = n := by omega
      obtain ⟨hbl, c0, c1, c2, f2, ⟨u0, d0⟩, ⟨u1, d1⟩, ⟨u2, d2⟩, e0, e1, e2, _, hgg⟩ := hI
      go_wp2
      have k0 : (((wr.setCell ⟨w.heap.size + 1, 0, none⟩ (.slice none 0 0)).setCell ⟨w.heap.size + 1, 1, none⟩ (.bool false)).setCell ⟨w.heap.size + 1, 2, none⟩ (.int .i64 2)).cell? ⟨w.heap.size + 1, 0, none⟩ = some (.slice none 0 0) := by
        simp [go_sem, d0, d1, d2]
      have k1 : (((wr.setCell ⟨w.heap.size + 1, 0, none⟩ (.slice none 0 0)).setCell ⟨w.heap.size + 1, 1, none⟩ (.bool false)).setCell ⟨w.heap.size + 1, 2, none⟩ (.int .i64 2)).cell? ⟨w.heap.size + 1, 1, none⟩ = some (.bool false) := by
        simp [go_sem, d0, d1, d2]
      have k2 : (((wr.setCell ⟨w.heap.size + 1, 0, none⟩ (.slice none 0 0)).setCell ⟨w.heap.size + 1, 1, none⟩ (.bool false)).setCell ⟨w.heap.size + 1, 2, none⟩ (.int .i64 2)).cell? ⟨w.heap.size + 1, 2, none⟩ = some (.int .i64 2) := by
        simp [go_sem, d0, d1, d2]
      refine ⟨rfl, .agg #[.slice none 0 0, .bool false, .int .i64 2], ?_, rfl, ((hbl.setCell (by show w.heap.size ≤ w.heap.size + 1; omega) _).setCell (by show w.heap.size ≤ w.heap.size + 1; omega) _).setCell (by show w.heap.size ≤ w.heap.size + 1; omega) _⟩
      generalize ((wr.setCell ⟨w.heap.size + 1, 0, none⟩ (.slice none 0 0)).setCell ⟨w.heap.size + 1, 1, none⟩ (.bool false)).setCell ⟨w.heap.size + 1, 2, none⟩ (.int .i64 2) = wz at k0 k1 k2
      simp [results, Tryz.results18, go_sem, asAddr, k0, k1, k2]
theorem does_commit {w : World} {a : Option Addr} {n c : Nat} {pg kp tn : Value} (hn : n ≤ 1024) (ha : a = none → n = 0) (hc : ∀ p, a = some p → ∀ j, j < n → ∃ x : Int, w.cell? (p.add j) = some (.int .u8 x)) (hlt : ∀ p, a = some p → 0 < n → p.block < w.heap.size)
    (h1 : Scal pg) (h2 : Scal kp) (h3 : Scal tn) :
    Calls Tryz.prog 18 #[.pointer none, .agg #[.int .i64 3, pg, .slice a n c, kp, tn]] w fun e w' => e = .returned (.agg #[.slice none 0 0, .bool false, .int .i64 2]) ∧ Below w.heap.size w w' := by
  have tw : ∀ w' : World, Below w.heap.size w w' → Calls Tryz.prog 58 #[.slice a n c] w' fun e w2 => ∃ g cap, e = .returned (.slice (some ⟨g, 0, none⟩) n cap) ∧ w'.heap.size ≤ g ∧ g < w2.heap.size ∧ Wr w2 g n ∧ Below w'.heap.size w' w2 := fun w' hb =>
    twin_calls hn ha fun p hp j hj => by
      obtain ⟨x, hx⟩ := hc p hp j hj
      refine ⟨x, ?_⟩
      rw [hb.cell]
      · exact hx
      · have := hlt p hp (by omega)
        unfold Addr.add
        split <;> simpa using this
  have hB1 := (Below.refl w.heap.size w).alloc (Nat.le_refl _) (Obj.cells #[Value.int IntKind.i64 3, pg, Value.slice a n c, kp, tn] 41)
  have hB2 := hB1.alloc (by simp) (Obj.cells #[Value.slice none 0 0, Value.bool false, Value.int IntKind.i64 0] 46)
  have hB3 := hB2.alloc (by simp; omega) (Obj.cells #[Value.slice none 0 0, Value.bool false, Value.int IntKind.i64 0] 46)
  go_enter Tryz.func18, Tryz.ntmps18
  go_wp2_with fail
  refine (tw _ hB3).mono ?_
  rintro e w1 ⟨g, cap, rfl, hg1, hg2, hwr, hb1⟩
  have hs0 : (((w.alloc (Obj.cells #[Value.int IntKind.i64 3, pg, Value.slice a n c, kp, tn] 41)).alloc (Obj.cells #[Value.slice none 0 0, Value.bool false, Value.int IntKind.i64 0] 46)).alloc
      (Obj.cells #[Value.slice none 0 0, Value.bool false, Value.int IntKind.i64 0] 46)).heap.size = w.heap.size + 3 := by simp
  have hp1 : w1.cell? ⟨w.heap.size, 1, none⟩ = some pg := by
    rw [hb1.cell (by show w.heap.size < _; omega)]; simp [go_sem]
  have hI : DI w w1 g n 0 := by
    refine ⟨hB3.trans (hb1.mono (by omega)), ?_, ?_, ?_, ?_, ?_, ?_, ?_, ?_, ?_, ?_, hwr, by omega⟩
    · rw [hb1.cell (by show w.heap.size + 1 + 1 < _; omega)]; simp [go_sem]
    · rw [hb1.cell (by show w.heap.size + 1 + 1 < _; omega)]; simp [go_sem]
    · rw [hb1.cell (by show w.heap.size + 1 + 1 < _; omega)]; simp [go_sem]
    · rw [hb1.frozen (by show w.heap.size + 1 + 1 < _; omega)]; simp [go_sem]
    · rw [hb1.cell (by show w.heap.size + 1 < _; omega)]; simp [go_sem]
    · rw [hb1.cell (by show w.heap.size + 1 < _; omega)]; simp [go_sem]
    · rw [hb1.cell (by show w.heap.size + 1 < _; omega)]; simp [go_sem]
    · rw [hb1.frozen (by show w.heap.size + 1 < _; omega)]; simp [go_sem]
    · rw [hb1.frozen (by show w.heap.size + 1 < _; omega)]; simp [go_sem]
    · rw [hb1.frozen (by show w.heap.size + 1 < _; omega)]; simp [go_sem]
  have hs1 : w.heap.size + 3 ≤ w1.heap.size := by have := hb1.size; omega
  clear hb1 hs0 hB1 hB2 hB3 hwr tw
  go_wp2_with fail
  refine (commit_nil w1 _ (slice_scal _ _ _)).mono ?_
  rintro e w2 ⟨rfl, hb2⟩
  have hI2 := hI.below' hb2 hs1 hg2
  have hI3 := hI2.setX 2
  have c2 := hI2.c2
  have f2 := hI2.f2
  clear hI hp1
  go_wp2_with fail
  clear c2 f2 hI2
  go_loopw [12] (fun i wr => ∃ k : Nat, k ≤ n ∧ i = .int .i64 k ∧ DI w wr g n 2) (fun i _ => n - (intOf i).toNat)
  case atStart => exact ⟨0, Nat.zero_le _, rfl, hI3⟩
  case round =>
    obtain ⟨k, hk, rfl, hI⟩ := hrel
    by_cases hkn : k < n
    · obtain ⟨⟨u, hu⟩, hf⟩ := hI.wr k hkn
      have hIn := hI.setG k (.int .u8 85)
      go_wp2
      go_roundw
      case rel => exact ⟨k + 1, by omega, by simp, hIn⟩
      case measure => simp [intOf]; omega
    · obtain rfl : k = n := by omega
      obtain ⟨hbl, c0, c1, c2, f2, ⟨u0, d0⟩, ⟨u1, d1⟩, ⟨u2, d2⟩, e0, e1, e2, _, hgg⟩ := hI
      go_wp2
      have k0 : (((wr.setCell ⟨w.heap.size + 1, 0, none⟩ (.slice none 0 0)).setCell ⟨w.heap.size + 1, 1, none⟩ (.bool false)).setCell ⟨w.heap.size + 1, 2, none⟩ (.int .i64 2)).cell? ⟨w.heap.size + 1, 0, none⟩ = some (.slice none 0 0) := by
        simp [go_sem, d0, d1, d2]
      have k1 : (((wr.setCell ⟨w.heap.size + 1, 0, none⟩ (.slice none 0 0)).setCell ⟨w.heap.size + 1, 1, none⟩ (.bool false)).setCell ⟨w.heap.size + 1, 2, none⟩ (.int .i64 2)).cell? ⟨w.heap.size + 1, 1, none⟩ = some (.bool false) := by
        simp [go_sem, d0, d1, d2]
      have k2 : (((wr.setCell ⟨w.heap.size + 1, 0, none⟩ (.slice none 0 0)).setCell ⟨w.heap.size + 1, 1, none⟩ (.bool false)).setCell ⟨w.heap.size + 1, 2, none⟩ (.int .i64 2)).cell? ⟨w.heap.size + 1, 2, none⟩ = some (.int .i64 2) := by
        simp [go_sem, d0, d1, d2]
      refine ⟨rfl, .agg #[.slice none 0 0, .bool false, .int .i64 2], ?_, rfl, ((hbl.setCell (by show w.heap.size ≤ w.heap.size + 1; omega) _).setCell (by show w.heap.size ≤ w.heap.size + 1; omega) _).setCell (by show w.heap.size ≤ w.heap.size + 1; omega) _⟩
      generalize ((wr.setCell ⟨w.heap.size + 1, 0, none⟩ (.slice none 0 0)).setCell ⟨w.heap.size + 1, 1, none⟩ (.bool false)).setCell ⟨w.heap.size + 1, 2, none⟩ (.int .i64 2) = wz at k0 k1 k2
      simp [results, Tryz.results18, go_sem, asAddr, k0, k1, k2]
end Go.Eng
set_option linter.unusedVariables false
set_option linter.unusedSimpArgs false
set_option maxRecDepth 1000000
namespace Go.Eng
open Go.RowKit Go.Proofs
/-! ## ShadowNil: what is asked of o -/
noncomputable def lenO (t i : Nat) : Option AV := ifb (Nat.beq i 2) (ifb (Nat.beq t 22) (some (.opq 5)) none) (ifb (Nat.beq i 3) (ifb (Nat.beq t 36) (some (.opq 6)) none) none)
noncomputable def gtrO (v1 v2 : Bool) (i n : Nat) : Option AV := ifb (Nat.beq i 5) (ifb (Nat.beq n 1024) (some (.bool v1)) none) (ifb (Nat.beq i 6) (ifb (Nat.beq n 200) (some (.bool v2)) none) none)
/-- a kind that is none: eql, geq, leq -/
noncomputable def kindO (g l : Bool) (b : BinOp) (n : Nat) : Option AV :=
  match b with
  | .eql => ifb (Nat.ble n 5) (some (.bool false)) none
  | .geq => ifb (Nat.beq n 0) (some (.bool g)) none
  | .leq => ifb (Nat.beq n 5) (some (.bool l)) none
  | _ => none
noncomputable def OL (v1 v2 kn g l : Bool) : Op → List AV → Option AV := fun op vs =>
  match op with
  | .call c => (match c.callee with
    | .builtin .len => (match c.argTypes.toList with
      | [t] => (match vs with
        | [.opq i] => lenO t i
        | _ => none)
      | _ => none)
    | _ => none)
  | .binOp b t x y t' => (match vs with
    | [.opq i, .int .i64 (.ofNat n)] => (match b with
      | .gtr => gtrO v1 v2 i n
      | b => ifb kn (ifb (Nat.beq i 0) (kindO g l b n) none) none)
    | vs => O3 (.binOp b t x y t') vs)
  | _ => none
theorem list1 {l : List Value} {ops : List Operand} {ρ : Operand → Value} {K : Ctx} {σ : Env} {v : AV} (h : VRs K σ [v] (ops.map ρ)) : ∃ x, ops = [x] ∧ VR K σ v (ρ x) := by
  obtain ⟨y, ys, e, h1, h2⟩ := h
  have h2 : ys = [] := h2
  subst h2
  cases ops with
  | nil => cases e
  | cons x ops =>
    simp only [List.map_cons, List.cons.injEq, List.map_eq_nil_iff] at e
    obtain ⟨rfl, rfl⟩ := e
    exact ⟨x, rfl, h1⟩
theorem run_lenS {ρ : Operand → Value} {w : World} {dst : Option Tmp} {x : Operand} {t e : TypeId} {ty : TypeId} {pos : String} {af : Array Edge} {gd : Option (Nat × Bool)} {a : Option Addr} {n c : Nat} (ht : Tryz.prog.underlying t = some (.slice e)) (hx : ρ x = .slice a n c) :
    (execOp ρ ⟨dst, .call ⟨.builtin .len, #[x], #[t]⟩, ty, pos, af, gd⟩).run Tryz.prog w = .ok (.value (.int .i64 n)) w := by
  simp [execOp, resolve, invoke, builtin, Builtin.len_, hx, run_underlying ht, goInt]
structure Known4 (K : Ctx) (v1 v2 kn g l : Bool) : Prop where
  b : ∃ a n c, K.opq 2 = .slice a n c ∧ K.opq 5 = .int .i64 (.ofNat n) ∧ v1 = decide (1024 < n)
  k : ∃ a n c, K.opq 3 = .slice a n c ∧ K.opq 6 = .int .i64 (.ofNat n) ∧ v2 = decide (200 < n)
  o : kn = true → ∃ k : Int, K.opq 0 = .int .i64 k ∧ (k < 0 ∨ 5 < k) ∧ g = decide (0 ≤ k) ∧ l = decide (k ≤ 5)
theorem orcL {K : Ctx} {v1 v2 kn g l : Bool} (H : Known4 K v1 v2 kn g l) : OrcOK Tryz.prog K (OL v1 v2 kn g l) := by
  intro op vs z h σ ρ w dst ty pos af gd hv
  unfold OL at h
  split at h
  · rename_i c
    obtain ⟨cal, ⟨ops⟩, ⟨ts⟩⟩ := c
    split at h
    · rename_i hcal
      simp only at hcal
      subst hcal
      split at h
      · rename_i t ht
        simp only at ht
        subst ht
        split at h
        · rename_i i
          obtain ⟨x, rfl, hx⟩ := list1 (l := []) (show VRs K σ [.opq i] (ops.map ρ) from hv)
          have hx : ρ x = K.opq i := hx
          unfold lenO at h
          cases e2 : Nat.beq i 2 with
          | true =>
            rw [e2] at h
            obtain ⟨e3, h⟩ := ifb_some (show ifb (Nat.beq t 22) (some (AV.opq 5)) none = some z from h)
            cases h
            obtain rfl := Nat.eq_of_beq_eq_true e2
            obtain rfl := Nat.eq_of_beq_eq_true e3
            obtain ⟨a, n, c, k1, k2, _⟩ := H.b
            exact ⟨_, run_lenS (a := a) (n := n) (c := c) Tryz.underlying22 (by rw [hx, k1]), k2.symm⟩
          | false =>
            rw [e2] at h
            obtain ⟨e3, h⟩ := ifb_some (show ifb (Nat.beq i 3) (ifb (Nat.beq t 36) (some (AV.opq 6)) none) none = some z from h)
            obtain ⟨e4, h⟩ := ifb_some h
            cases h
            obtain rfl := Nat.eq_of_beq_eq_true e3
            obtain rfl := Nat.eq_of_beq_eq_true e4
            obtain ⟨a, n, c, k1, k2, _⟩ := H.k
            exact ⟨_, run_lenS (a := a) (n := n) (c := c) Tryz.underlying36 (by rw [hx, k1]), k2.symm⟩
        · cases h
      · cases h
    · cases h
  · rename_i b t x y t'
    split at h
    · rename_i i n
      obtain ⟨u, _, e1, hu, v, _, e2, hv', e3⟩ := hv
      have e : ρ x = K.opq i ∧ ρ y = .int .i64 (.ofNat n) := by
        simp only [orcArgs, List.map_cons, List.map_nil, List.cons.injEq] at e1
        obtain ⟨rfl, e1⟩ := e1
        subst e2
        simp only [List.cons.injEq] at e1
        obtain ⟨rfl, _⟩ := e1
        exact ⟨hu, hv'⟩
      obtain ⟨hx, hy⟩ := e
      split at h
      · unfold gtrO at h
        cases e2 : Nat.beq i 5 with
        | true =>
          rw [e2] at h
          obtain ⟨e3, h⟩ := ifb_some (show ifb (Nat.beq n 1024) (some (AV.bool v1)) none = some z from h)
          cases h
          obtain rfl := Nat.eq_of_beq_eq_true e2
          obtain rfl := Nat.eq_of_beq_eq_true e3
          obtain ⟨a, m, c, k1, k2, k3⟩ := H.b
          rw [k2] at hx
          refine ⟨.bool v1, ?_, rfl⟩
          rw [k3]
          simp [execOp, hx, hy, binOp_gtr, eqGuard_gtr]
          omega
        | false =>
          rw [e2] at h
          obtain ⟨e3, h⟩ := ifb_some (show ifb (Nat.beq i 6) (ifb (Nat.beq n 200) (some (AV.bool v2)) none) none = some z from h)
          obtain ⟨e4, h⟩ := ifb_some h
          cases h
          obtain rfl := Nat.eq_of_beq_eq_true e3
          obtain rfl := Nat.eq_of_beq_eq_true e4
          obtain ⟨a, m, c, k1, k2, k3⟩ := H.k
          rw [k2] at hx
          refine ⟨.bool v2, ?_, rfl⟩
          rw [k3]
          simp [execOp, hx, hy, binOp_gtr, eqGuard_gtr]
          omega
      · rename_i hng
        obtain ⟨e1, h⟩ := ifb_some h
        obtain ⟨e2, h⟩ := ifb_some h
        obtain rfl := Nat.eq_of_beq_eq_true e2
        obtain ⟨k, k1, k2, k3, k4⟩ := H.o e1
        rw [k1] at hx
        unfold kindO at h
        split at h
        · obtain ⟨e3, h⟩ := ifb_some (show ifb (Nat.ble n 5) (some (AV.bool false)) none = some z from h)
          cases h
          have := Nat.le_of_ble_eq_true e3
          refine ⟨.bool false, ?_, rfl⟩
          have hne : ¬ k = (n : Int) := by omega
          simp [execOp, hx, hy, binOp, eqGuard, Op.intCmp, hne]
        · obtain ⟨e3, h⟩ := ifb_some (show ifb (Nat.beq n 0) (some (AV.bool g)) none = some z from h)
          cases h
          obtain rfl := Nat.eq_of_beq_eq_true e3
          refine ⟨.bool g, ?_, rfl⟩
          rw [k3]
          simp [execOp, hx, hy, binOp_geq, eqGuard_geq]
        · obtain ⟨e3, h⟩ := ifb_some (show ifb (Nat.beq n 5) (some (AV.bool l)) none = some z from h)
          cases h
          obtain rfl := Nat.eq_of_beq_eq_true e3
          refine ⟨.bool l, ?_, rfl⟩
          rw [k4]
          simp [execOp, hx, hy, binOp_leq, eqGuard_leq]
        · cases h
    · exact orc3 _ _ _ h σ ρ w dst ty pos af gd hv
  · cases h
/-- a run of its own that tells true and leaves what there was -/
noncomputable def trueK : Known := fun args h => match args with | [] => .ok (.bool true, h) | _ => .fail
theorem trueK_ok {K : Ctx} {ng f : Nat} (hE : Enters Tryz.prog f) (hc : ∀ w, Calls Tryz.prog f #[] w fun e w' => e = .returned (.bool true) ∧ Below w.heap.size w w') : KnownOK Tryz.prog K ng f trueK := by
  intro σ own w h args cargs hg hH ha hf
  obtain ⟨cl⟩ := cargs
  simp only at ha
  match args, cl, ha, hf with
  | _ :: _, _, _, hf => exact absurd rfl hf
  | [], _, ha, hf =>
    have ha : _ = [] := ha
    subst ha
    refine .inl ⟨hE, (hc w).mono ?_⟩
    rintro e w' ⟨rfl, hb⟩
    exact ⟨_, rfl, σ, own, rfl, Grow.refl _ _, hH.grownWorld hb⟩
theorem enters17 : Enters Tryz.prog 17 := enters_of Tryz.func17 (by kernel_rfl) (by kernel_rfl)
theorem enters18 : Enters Tryz.prog 18 := enters_of Tryz.func18 (by kernel_rfl) (by kernel_rfl)
theorem works17 (w : World) : Calls Tryz.prog 17 #[] w fun e w' => e = .returned (.bool true) ∧ Below w.heap.size w w' :=
  run_true (K := ctxAt Tryz.prog w) (call4 rfl) enters17 (by decide) rfl rfl (globs_of fun g hg => ⟨1, by simp [hg]⟩) (h0_ok rfl rfl) VRs.nil run17
/-- does, of a kind that hands bytes on, with no space -/
noncomputable def doesK : Known := fun args h =>
  match args with
  | [.nilPtr, .agg [.int .i64 (.ofNat k), .opq 1, .opq 2, .opq 3, .opq 4]] => ifb (Nat.beq k 1) (.ok (.agg [.nilSlice, .bool false, errV], h)) (ifb (Nat.beq k 3) (.ok (.agg [.nilSlice, .bool false, errV], h)) .fail)
  | _ => .fail
/-- what is known of o's bytes, in the world in which the call begins -/
structure Bytes4 (K : Ctx) : Prop where
  base : K.base = K.w0.heap.size
  b : ∃ a n c, K.opq 2 = .slice a n c ∧ n ≤ 1024 ∧ (a = none → n = 0) ∧ (∀ p, a = some p → ∀ j, j < n → ∃ x : Int, K.w0.cell? (p.add j) = some (.int .u8 x)) ∧ ∀ p, a = some p → 0 < n → p.block < K.w0.heap.size
theorem doesK_ok {K : Ctx} (B : Bytes4 K) : KnownOK Tryz.prog K 2 18 doesK := by
  intro σ own w h args cargs hg hH ha hf
  obtain ⟨cl⟩ := cargs
  simp only at ha
  unfold doesK at hf ⊢
  split at hf
  · rename_i k
    obtain ⟨v0, _, rfl, h0, v1, _, rfl, ⟨⟨cs⟩, rfl, h1⟩, h2⟩ := ha
    have h2 : _ = [] := h2
    subst h2
    simp only at h1
    obtain ⟨x0, _, rfl, e0, x1, _, rfl, e1, x2, _, rfl, e2, x3, _, rfl, e3, x4, _, rfl, e4, h3⟩ := h1
    have h3 : _ = [] := h3
    subst h3
    have h0 : v0 = .pointer none := h0
    have e0 : x0 = .int .i64 (.ofNat k) := e0
    have e1 : x1 = K.opq 1 := e1
    have e2 : x2 = K.opq 2 := e2
    have e3 : x3 = K.opq 3 := e3
    have e4 : x4 = K.opq 4 := e4
    obtain ⟨a, n, c, b1, b2, b3, b4, b5⟩ := B.b
    subst h0 e0 e1 e2 e3 e4
    rw [b1]
    have hc : ∀ p, a = some p → ∀ j, j < n → ∃ x : Int, w.cell? (p.add j) = some (.int .u8 x) := fun p hp j hj => by
      obtain ⟨x, hx⟩ := b4 p hp j hj
      refine ⟨x, ?_⟩
      rw [hH.below.cell]
      · exact hx
      · have := b5 p hp (by omega)
        rw [B.base]
        unfold Addr.add
        split <;> simpa using this
    have hlt : ∀ p, a = some p → 0 < n → p.block < w.heap.size := fun p hp h0 => by
      have := b5 p hp h0
      have := hH.below.size
      omega
    have fin : ∀ (e : Ending) (w' : World), (e = .returned (.agg #[.slice none 0 0, .bool false, .int .i64 2]) ∧ Below w.heap.size w w') → Back K σ h (.ok (.agg [.nilSlice, .bool false, errV], h)) e w' := by
      rintro e w' ⟨rfl, hb⟩
      exact ⟨_, rfl, σ, own, ⟨_, rfl, VRs.cons (x := .nilSlice) rfl (VRs.cons (x := .bool false) rfl (VRs.cons (x := errV) rfl VRs.nil))⟩, Grow.refl _ _, hH.grownWorld hb⟩
    cases k1 : Nat.beq k 1 with
    | true =>
      obtain rfl := Nat.eq_of_beq_eq_true k1
      exact .inl ⟨enters18, (does_write b2 b3 hc hlt ⟨K.scal 1, K.notup 1⟩ ⟨K.scal 3, K.notup 3⟩ ⟨K.scal 4, K.notup 4⟩).mono fin⟩
    | false =>
      rw [k1] at hf
      cases k3 : Nat.beq k 3 with
      | true =>
        obtain rfl := Nat.eq_of_beq_eq_true k3
        exact .inl ⟨enters18, (does_commit b2 b3 hc hlt ⟨K.scal 1, K.notup 1⟩ ⟨K.scal 3, K.notup 3⟩ ⟨K.scal 4, K.notup 4⟩).mono fin⟩
      | false => rw [k3] at hf; exact absurd rfl hf
  · exact absurd rfl hf
noncomputable def po5 (v1 v2 kn g l : Bool) : PO := ⟨[], OL v1 v2 kn g l, fun f => memN f [210, 251, 259, 310, 314, 118, 234, 304]⟩
theorem pok5 {K : Ctx} {v1 v2 kn g l : Bool} (H : Known4 K v1 v2 kn g l) : POK Tryz.prog K (po5 v1 v2 kn g l) := ⟨fun t ht => (by cases ht), orcL H, (pok3 (K := K)).ent⟩
noncomputable def F5 (v1 v2 kn g l : Bool) : Nat → Option AFun := funs 2 cstA T3 (po5 v1 v2 kn g l) nd4 fl3
noncomputable def kn5 : List (Nat × KnownY) := (17, upK trueK) :: kn3
noncomputable def kn6 : List (Nat × KnownY) := (18, upK doesK) :: kn5
noncomputable def c5 (v1 v2 kn g l : Bool) : Caller := detC (callG (lookK kn5) (fun _ => none) (F5 v1 v2 kn g l) J4 2000 100 noY)
noncomputable def c6 : Caller := detC (callG (lookK kn6) (fun _ => none) (F5 false false false false false) J4 2000 100 noY)
theorem kn5_ok {K : Ctx} : ∀ p ∈ kn5, KnownYOK Tryz.prog K 2 p.1 p.2 := by
  intro p hp
  rcases List.mem_cons.1 hp with rfl | hp
  · exact (trueK_ok enters17 works17).up
  · exact kn3_ok p hp
theorem call5 {K : Ctx} {v1 v2 kn g l : Bool} (H : Known4 K v1 v2 kn g l) (hK : K.codes = codesOf Tryz.prog) : CallOK Tryz.prog K 2 (c5 v1 v2 kn g l) :=
  callG1_ok (lookK_ok kn5_ok) (fun f g h => by cases h) (funs_ok cst_ok T3_ok (pok5 H) mix3 hK fl3_ok) 2000 100
theorem call6 {K : Ctx} (H : Known4 K false false false false false) (B : Bytes4 K) (hK : K.codes = codesOf Tryz.prog) : CallOK Tryz.prog K 2 c6 :=
  callG1_ok (lookK_ok (l := kn6) fun p hp => by
    rcases List.mem_cons.1 hp with rfl | hp
    · exact (doesK_ok B).up
    · exact kn5_ok p hp) (fun f g h => by cases h) (funs_ok cst_ok T3_ok (pok5 H) mix3 hK fl3_ok) 2000 100
noncomputable def oA (x : AV) : List AV := [.agg [x, .opq 1, .opq 2, .opq 3, .opq 4]]
theorem r4a : isTrueO (c5 true false false false false 4 (oA (.opq 0)) h0) = true := by kernel_rfl
theorem r4a' : isTrueO (c5 true true false false false 4 (oA (.opq 0)) h0) = true := by kernel_rfl
theorem r4b : isTrueO (c5 false true false false false 4 (oA (.opq 0)) h0) = true := by kernel_rfl
theorem r4k0 : isTrueO (c5 false false false false false 4 (oA (.int .i64 (.ofNat 0))) h0) = true := by kernel_rfl
theorem r4k1 : isTrueO (c6 4 (oA (.int .i64 (.ofNat 1))) h0) = true := by kernel_rfl
theorem r4k2 : isTrueO (c5 false false false false false 4 (oA (.int .i64 (.ofNat 2))) h0) = true := by kernel_rfl
theorem r4k3 : isTrueO (c6 4 (oA (.int .i64 (.ofNat 3))) h0) = true := by kernel_rfl
theorem r4k4 : isTrueO (c5 false false false false false 4 (oA (.int .i64 (.ofNat 4))) h0) = true := by kernel_rfl
theorem r4k5 : isTrueO (c5 false false false false false 4 (oA (.int .i64 (.ofNat 5))) h0) = true := by kernel_rfl
theorem r4lo : isTrueO (c5 false false true false true 4 (oA (.opq 0)) h0) = true := by kernel_rfl
theorem r4hi : isTrueO (c5 false false true true false 4 (oA (.opq 0)) h0) = true := by kernel_rfl
end Go.Eng
