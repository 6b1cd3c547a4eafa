/- errors.Join and errors.Is of joined errors, and the walker's all, walked. Each says its own conditions. -/
import Derived.Test.YtadbbfmmhimgcaaGreatDoorStC
import Derived.Test.YtadbbfmmhimgcaaGreatDoorBase
import Derived.ArgAppend
import Derived.Laws.MakeOwn
import Derived.Deep.RegionWith
set_option linter.unusedVariables false
set_option linter.unusedSimpArgs false
set_option maxRecDepth 100000
set_option maxHeartbeats 4000000
namespace Go.Stamp
open Go Go.RowKit Go.Proofs Go.Maps Go.Proofs.YtadbbfmmhimgcaaGreatDoor Go.Extern.Stop Go.Stop Go.Extern Go.Extern.Rtype
/-- the error itself, or errors joined: the first of them is one -/
def ErrV (w : World) (g : Addr) : Nat → Value → Prop
  | 0, v => v = .iface 224 (.pointer (some g))
  | n + 1, v => ErrV w g n v ∨ ∃ b s cs fr k cap v', v = .iface 105 (.pointer (some ⟨b, 0, none⟩)) ∧ w.heap[b]? = some (.cells #[.slice (some ⟨s, 0, none⟩) (k + 1) cap] 107 (0, 0)) ∧ w.heap[s]? = some (.cells cs 58 fr) ∧ cs[0]? = some v' ∧ ErrV w g n v'
theorem ErrV.shape {w : World} {g : Addr} : ∀ {n : Nat} {v : Value}, ErrV w g n v → ∃ t a, v = .iface t (.pointer (some a))
  | 0, v, h => ⟨_, _, h⟩
  | n + 1, v, h => by
    rcases h with h | ⟨b, s, cs, fr, k, cap, v', rfl, _⟩
    · exact h.shape
    · exact ⟨_, _, rfl⟩
theorem ErrV.mono {w w' : World} {g : Addr} (hw : ∀ (b : Nat) (cs : Array Value) (fr : Nat × Nat), (w.heap[b]? = some (Obj.cells cs 107 fr) ∨ w.heap[b]? = some (Obj.cells cs 58 fr)) → w'.heap[b]? = w.heap[b]?) : ∀ {n : Nat} {v : Value}, ErrV w g n v → ErrV w' g n v
  | 0, v, h => h
  | n + 1, v, h => by
    rcases h with h | ⟨b, s, cs, fr, k, cap, v', rfl, h1, h2, h3, h4⟩
    · exact .inl (h.mono hw)
    · exact .inr ⟨b, s, cs, fr, k, cap, v', rfl, (hw b _ _ (.inl h1)).trans h1, (hw s _ _ (.inr h2)).trans h2, h3, h4.mono hw⟩
theorem ErrV.kept {W0 w w' : World} {D row : List Dec} {dv : Value} {pb m : Nat} {rv : Value} {xs : List Value} (hS : WS W0 w D row dv pb m rv xs) (hk : Kept pb m w w') {g : Addr} {n : Nat} {v : Value} (h : ErrV w g n v) : ErrV w' g n v := by
  refine h.mono fun b cs fr hb => ?_
  obtain ⟨es, clock, e1, _⟩ := hS.seen
  have e2 := hS.blk
  have hl : b < w.heap.size := by rcases hb with h | h <;> exact (Array.getElem?_eq_some_iff.1 h).1
  refine hk.2 b hl ?_ ?_ ?_
  · rintro rfl; rcases hb with h | h <;> (rw [e2] at h; cases h)
  · rintro rfl; rcases hb with h | h <;> (rw [e1] at h; cases h)
  · intro cs' fr' e; rcases hb with h | h <;> (rw [e] at h; cases h)
theorem is26 {w : World} {g : Addr} : ∀ (n : Nat) (v : Value), ErrV w g n v → Calls Tryz.prog 26 #[v, .iface 224 (.pointer (some g)), .bool true] w fun e w' => e = .returned (.bool true) ∧ w' = w
  | 0, v, h => by
    obtain ⟨i, hi, hcmp⟩ := Option.map_eq_some_iff.1 isComp
    obtain ⟨j, hj, hjs⟩ := Option.map_eq_some_iff.1 isSize
    have heq := run_eql_iface_ptr_same (P := Tryz.prog) w g Tryz.underlying58 Tryz.underlying224 hi hcmp hj
    obtain rfl : v = _ := h
    go_enter Tryz.func26, Tryz.ntmps26
    go_wp2
    refine wp_loop_rounds 1 ?_
    rw [rounds_succ]
    go_wp2
    go_ret
    exact ⟨rfl, rfl⟩
  | n + 1, v, h => by
    rcases h with h | ⟨b, s, cs, fr, k, cap, v', rfl, h1, h2, h3, h4⟩
    · exact is26 n v h
    · have IH := Lib.hid (is26 n v' h4)
      have heq := eqOther (.pointer (some ⟨b, 0, none⟩)) (.pointer (some g)) w
      have n1 := isNoIs
      have n2 := isNoUn
      have n3 := isUns
      have mR := isMethodUnwrap
      have c1 : w.cell? ⟨b, 0, none⟩ = some (.slice (some ⟨s, 0, none⟩) (k + 1) cap) := by simp [World.cell?, h1]
      have c2 : w.cell? ⟨s, 0, none⟩ = some v' := by simp [World.cell?, h2, h3]
      obtain ⟨vt, va, rfl⟩ := h4.shape
      clear h1 h2 h3 h4
      go_enter Tryz.func26, Tryz.ntmps26
      go_wp2
      refine wp_loop_rounds 1 ?_
      rw [rounds_succ]
      go_wp2
      refine wp_loop_rounds 1 ?_
      rw [rounds_succ]
      go_wp2_with fail
      refine IH.out.mono ?_
      rintro e w2 ⟨rfl, rfl⟩
      go_wp2
      go_ret
      exact ⟨rfl, rfl⟩
theorem is16 {w : World} {g : Addr} {n : Nat} {v : Value} (h : ErrV w g n v) : Calls Tryz.prog 16 #[v, .iface 224 (.pointer (some g))] w fun e w' => e = .returned (.bool true) ∧ w' = w := by
  have h8 := @run_callFunc_extern Tryz.prog 25 _ Extern.ReflectliteType.typeOf Tryz.func25 (by kernel_rfl) (by kernel_rfl) (by kernel_rfl) (by kernel_rfl)
  have h32 := @run_callFunc_extern Tryz.prog 152 _ (Extern.ReflectliteType.method fun t => do noPackHeld "Comparable" t; pure (.bool (← typeInfo t).comparable)) Tryz.func152 (by kernel_rfl) (by kernel_rfl) (by kernel_rfl) (by kernel_rfl)
  have tT := isTypeOf
  have cT := isComparable
  have mR' := isMethodComparable
  have HI := Lib.hid (is26 n v h)
  obtain ⟨vt, va, rfl⟩ := h.shape
  clear h
  go_enter Tryz.func16, Tryz.ntmps16
  go_wp2_with fail
  refine HI.out.mono ?_
  rintro e w2 ⟨rfl, rfl⟩
  go_wp2
  go_ret
  exact ⟨rfl, rfl⟩
end Go.Stamp
set_option linter.unusedVariables false
set_option linter.unusedSimpArgs false
set_option maxRecDepth 100000
set_option maxHeartbeats 4000000
namespace Go.Stamp
open Go Go.RowKit Go.Proofs Go.Maps
theorem i58 : (Tryz.prog.info? 58).map (fun i => (i.size, i.bytes, i.zero)) = some (1, 16, some .nilIface) := by kernel_rfl
theorem made1 : madeCells Value.nilIface.cells (Int.toNat 1 * 1) = #[.nilIface] := by kernel_rfl
theorem made2 : madeCells Value.nilIface.cells (Int.toNat 2 * 1) = #[.nilIface, .nilIface] := by kernel_rfl
theorem add0 (a : Addr) : a.add 0 = a := by cases a; simp [Addr.add]
theorem mk1 (w : World) : (Instr.makeSlice 102 (.int .i64 0) (.int .i64 1)).run Tryz.prog w = .ok (.slice (some ⟨w.heap.size, 0, none⟩) 0 1) (w.alloc (.cells #[.nilIface] 58)) := by
  obtain ⟨i, hi, hi2⟩ := Option.map_eq_some_iff.1 i58
  injection hi2 with h1 h2
  injection h2 with h2 h3
  have := run_makeSlice (P := Tryz.prog) w 102 58 i .nilIface Tryz.underlying102 hi h3 .i64 .i64 0 1 (by decide) (by decide) (by rw [h1]; decide) (by rw [h2]; decide) (by decide)
  rw [this, h1, made1]; rfl
theorem mk2 (w : World) : (Instr.makeSlice 102 (.int .i64 0) (.int .i64 2)).run Tryz.prog w = .ok (.slice (some ⟨w.heap.size, 0, none⟩) 0 2) (w.alloc (.cells #[.nilIface, .nilIface] 58)) := by
  obtain ⟨i, hi, hi2⟩ := Option.map_eq_some_iff.1 i58
  injection hi2 with h1 h2
  injection h2 with h2 h3
  have := run_makeSlice (P := Tryz.prog) w 102 58 i .nilIface Tryz.underlying102 hi h3 .i64 .i64 0 2 (by decide) (by decide) (by rw [h1]; decide) (by rw [h2]; decide) (by decide)
  rw [this, h1, made2]; rfl
theorem app_err {w : World} {ty : TypeId} {b k cap c : Nat} {a : Addr} {u0 : Value} {t : TypeId} {p : Addr} (hk : k + 1 ≤ cap) (hc : w.cell? ⟨b, k, none⟩ = some u0) (hf : w.frozen? ⟨b, k, none⟩ = false) (ha : w.cell? a = some (.iface t (.pointer (some p)))) :
    (Builtin.append_ #[102, 102] ty #[.slice (some ⟨b, 0, none⟩) k cap, .slice (some a) 1 c]).run Tryz.prog w = .ok (.slice (some ⟨b, 0, none⟩) (k + 1) cap) (w.setCell ⟨b, k, none⟩ (.iface t (.pointer (some p)))) := by
  obtain ⟨i, hi, hi2⟩ := Option.map_eq_some_iff.1 i58
  injection hi2 with h1 h2
  have := run_append_room_cells (P := Tryz.prog) w 102 ty 58 i Tryz.underlying102 hi b 0 k cap a 1 c [.iface t (.pointer (some p))] (by rw [h1]; rfl) (by intro j u hj; cases j with | zero => cases hj; rw [add0]; exact ha | succ j => simp at hj) (by simp [Value.oneCell']) hk (by intro j hj; simp at hj; subst hj; simp [h1, hc]) (by intro j hj; simp at hj; subst hj; simpa [h1] using hf)
  rw [this, h1]; simp [World.setCells]
attribute [local simp] mk1 mk2 app_err
theorem join_nil {w : World} {q : Nat} (c0 : w.cell? ⟨q, 0, none⟩ = some .nilIface) (c1 : w.cell? ⟨q, 1, none⟩ = some .nilIface) : Calls Tryz.prog 28 #[.slice (some ⟨q, 0, none⟩) 2 2] w fun e w' => e = .returned .nilIface ∧ w' = w := by
  go_enter Tryz.func28, Tryz.ntmps28
  go_wp2
  refine wp_loop_rounds 3 ?_
  rw [rounds_succ]
  go_wp2
  rw [rounds_succ]
  go_wp2
  rw [rounds_succ]
  go_wp2
  go_ret
  exact ⟨rfl, rfl⟩
/-- what errors.Join leaves where something is amiss -/
def JoinP (w : World) (g : Addr) (e : Ending) (w' : World) : Prop := Below w.heap.size w w' ∧ ∃ n v, e = .returned v ∧ ErrV w' g n v
theorem joinP_end {w F : World} {g : Addr} {n : Nat} {v : Value} {X : Array Value} {k cap : Nat} (he : ErrV w g n v) (hX : X[0]? = some v)
    (hF : Below (w.heap.size + 2) ((w.alloc (.cells X 58)).alloc (.cells #[.slice (some ⟨w.heap.size, 0, none⟩) (k + 1) cap] 107)) F) : JoinP w g (.returned (.iface 105 (.pointer (some ⟨w.heap.size + 1, 0, none⟩)))) F := by
  have hb : Below w.heap.size w ((w.alloc (.cells X 58)).alloc (.cells #[.slice (some ⟨w.heap.size, 0, none⟩) (k + 1) cap] 107)) := ((Below.refl _ _).alloc (Nat.le_refl _) _).alloc (by simp) _
  have hbF := hb.trans (hF.mono (by omega))
  refine ⟨hbF, n + 1, _, rfl, .inr ⟨w.heap.size + 1, w.heap.size, X, (0, 0), k, cap, v, rfl, ?_, ?_, hX, ?_⟩⟩
  · rw [hF.block _ (by omega)]
    have e : (w.alloc (.cells X 58)).heap.size = w.heap.size + 1 := by simp
    rw [← e]; exact Array.getElem?_push_size
  · rw [hF.block _ (by omega), Below.heap_alloc _ _ _ (by simp)]
    exact Array.getElem?_push_size
  · refine he.mono fun b cs fr h => hbF.block b ?_
    rcases h with h | h <;> exact (Array.getElem?_eq_some_iff.1 h).1
theorem join_right {w : World} {q n : Nat} {g : Addr} {v : Value} (he : ErrV w g n v) (c0 : w.cell? ⟨q, 0, none⟩ = some .nilIface) (c1 : w.cell? ⟨q, 1, none⟩ = some v) : Calls Tryz.prog 28 #[.slice (some ⟨q, 0, none⟩) 2 2] w fun e w' => JoinP w g e w' := by
  have hq := cell_lt c0
  have hq1 : ¬ q = w.heap.size := by omega
  have hq2 : ¬ q = w.heap.size + 1 := by omega
  have hq3 : ¬ w.heap.size = q := by omega
  have hq4 : ¬ w.heap.size + 1 = q := by omega
  obtain ⟨vt, va, rfl⟩ := he.shape
  have HE := Lib.hid he
  clear he
  go_enter Tryz.func28, Tryz.ntmps28
  go_wp2
  refine wp_loop_rounds 3 ?_
  rw [rounds_succ]
  go_wp2
  rw [rounds_succ]
  go_wp2
  rw [rounds_succ]
  go_wp2
  refine wp_loop_rounds 3 ?_
  rw [rounds_succ]
  go_wp2
  rw [rounds_succ]
  go_wp2
  rw [rounds_succ]
  go_wp2
  go_ret
  exact joinP_end (X := #[.iface vt (.pointer (some va))]) (k := 0) HE.out rfl (by first | exact (Below.refl _ _).alloc (by simp) _ | exact ((Below.refl _ _).alloc (by simp) _).alloc (by simp; omega) _ | exact ((Below.refl _ _).alloc (by simp) _).alloc (by simp) _)
theorem join_left {w : World} {q n : Nat} {g : Addr} {v : Value} (he : ErrV w g n v) (c0 : w.cell? ⟨q, 0, none⟩ = some v) (c1 : w.cell? ⟨q, 1, none⟩ = some .nilIface) : Calls Tryz.prog 28 #[.slice (some ⟨q, 0, none⟩) 2 2] w fun e w' => JoinP w g e w' := by
  have hq := cell_lt c0
  have hq1 : ¬ q = w.heap.size := by omega
  have hq2 : ¬ q = w.heap.size + 1 := by omega
  have hq3 : ¬ w.heap.size = q := by omega
  have hc3 : ∀ o1 o2 o3, (((w.alloc o1).alloc o2).alloc o3).cell? ⟨q, 1, none⟩ = some .nilIface := fun o1 o2 o3 => (Below.cell (p := ⟨q, 1, none⟩) ((((Below.refl w.heap.size w).alloc (Nat.le_refl _) o1).alloc (by simp) o2).alloc (by simp; omega) o3) hq).trans c1
  have hq4 : ¬ w.heap.size + 1 = q := by omega
  obtain ⟨vt, va, rfl⟩ := he.shape
  have HE := Lib.hid he
  clear he
  go_enter Tryz.func28, Tryz.ntmps28
  go_wp2
  refine wp_loop_rounds 3 ?_
  rw [rounds_succ]
  go_wp2
  rw [rounds_succ]
  go_wp2
  rw [rounds_succ]
  go_wp2
  refine wp_loop_rounds 3 ?_
  rw [rounds_succ]
  go_wp2
  rw [rounds_succ]
  go_wp2
  rw [rounds_succ]
  go_wp2
  go_ret
  exact joinP_end (X := #[.iface vt (.pointer (some va))]) (k := 0) HE.out rfl (by first | exact (Below.refl _ _).alloc (by simp) _ | exact ((Below.refl _ _).alloc (by simp) _).alloc (by simp; omega) _ | exact ((Below.refl _ _).alloc (by simp) _).alloc (by simp) _)
theorem join_both {w : World} {q n : Nat} {g : Addr} {v : Value} {t : TypeId} {a : Addr} (he : ErrV w g n v) (c0 : w.cell? ⟨q, 0, none⟩ = some v) (c1 : w.cell? ⟨q, 1, none⟩ = some (.iface t (.pointer (some a)))) : Calls Tryz.prog 28 #[.slice (some ⟨q, 0, none⟩) 2 2] w fun e w' => JoinP w g e w' := by
  have hq := cell_lt c0
  have hq1 : ¬ q = w.heap.size := by omega
  have hq2 : ¬ q = w.heap.size + 1 := by omega
  have hq3 : ¬ w.heap.size = q := by omega
  have hc3 : ∀ o1 o2 o3, (((w.alloc o1).alloc o2).alloc o3).cell? ⟨q, 1, none⟩ = some (.iface t (.pointer (some a))) := fun o1 o2 o3 => (Below.cell (p := ⟨q, 1, none⟩) ((((Below.refl w.heap.size w).alloc (Nat.le_refl _) o1).alloc (by simp) o2).alloc (by simp; omega) o3) hq).trans c1
  have hq4 : ¬ w.heap.size + 1 = q := by omega
  obtain ⟨vt, va, rfl⟩ := he.shape
  have HE := Lib.hid he
  clear he
  go_enter Tryz.func28, Tryz.ntmps28
  go_wp2
  refine wp_loop_rounds 3 ?_
  rw [rounds_succ]
  go_wp2
  rw [rounds_succ]
  go_wp2
  rw [rounds_succ]
  go_wp2
  refine wp_loop_rounds 3 ?_
  rw [rounds_succ]
  go_wp2
  rw [rounds_succ]
  go_wp2
  rw [rounds_succ]
  go_wp2
  go_ret
  exact joinP_end (X := #[.iface vt (.pointer (some va)), .iface t (.pointer (some a))]) (k := 1) HE.out rfl (by first | exact (Below.refl _ _).alloc (by simp) _ | exact ((Below.refl _ _).alloc (by simp) _).alloc (by simp; omega) _ | exact ((Below.refl _ _).alloc (by simp) _).alloc (by simp) _)
end Go.Stamp
set_option linter.unusedVariables false
set_option linter.unusedSimpArgs false
namespace Go.Stamp
open Go Go.RowKit Go.Proofs Go.Maps
/-- a datatype that the walker holds, where it lies -/
theorem WS.get {W0 w : World} {D row : List Dec} {dv : Value} {pb m : Nat} {rv : Value} {xs : List Value} (h : WS W0 w D row dv pb m rv xs) {i : Nat} (hi : i < row.length) :
    ∃ g cap vs, rv = .slice (some ⟨g, 0, none⟩) row.length cap ∧ vs.length = 16 ∧ Cells w g (i * 16) vs ∧ DecV W0 row[i] vs := by
  obtain ⟨vs, hl, hx, hd⟩ := h.items i hi
  rcases h.rows.2 with ⟨_, h0⟩ | ⟨g, cap, cur, h1, h2, h3, h4, h5, h6, h7⟩
  · omega
  · refine ⟨g, cap, vs, h1, hl, fun j v hj => ?_, hd⟩
    have hjl : j < 16 := by rw [← hl]; exact (List.getElem?_eq_some_iff.1 hj).1
    have hx' := hx j hjl
    rw [← h7, List.getElem?_take_of_lt (by omega), Array.getElem?_toList, hj] at hx'
    simp [World.cell?, h3, hx']
variable {ownN : ByteArray → Option Nat}
theorem consL_append (D : List Dec) (vars : List ByteArray) : ∀ (a b : List Con) (row : List Dec), consL ownN D vars (a ++ b) row = (consL ownN D vars a row).bind (consL ownN D vars b)
  | [], b, row => by rw [List.nil_append, consL]; rfl
  | c :: cs, b, row => by
    rw [List.cons_append, consL, consL]
    split
    · cases come ownN D vars c.ty row with
      | none => rfl
      | some r => exact consL_append D vars cs b r
    · exact consL_append D vars cs b row
theorem consL_skip {D : List Dec} {vars : List ByteArray} {l : List Con} {k : Nat} (hk : k < l.length) {row : List Dec} (hh : l[k].has = false) : consL ownN D vars (l.take (k + 1)) row = consL ownN D vars (l.take k) row := by
  rw [List.take_succ_eq_append_getElem hk, consL_append]
  cases consL ownN D vars (l.take k) row with
  | none => rfl
  | some r =>
    show consL ownN D vars [l[k]] r = _
    rw [consL, hh, if_neg (by simp), consL]
theorem consL_step {D : List Dec} {vars : List ByteArray} {l : List Con} {k : Nat} (hk : k < l.length) {row r : List Dec} (hh : l[k].has = true) (h : consL ownN D vars (l.take k) row = some r) : consL ownN D vars (l.take (k + 1)) row = come ownN D vars l[k].ty r := by
  rw [List.take_succ_eq_append_getElem hk, consL_append, h]
  show consL ownN D vars [l[k]] r = _
  rw [consL, hh, if_pos rfl]
  cases come ownN D vars l[k].ty r with
  | none => rfl
  | some r' => show consL ownN D vars [] r' = _; rw [consL]
theorem consL_none {D : List Dec} {vars : List ByteArray} {l : List Con} (k : Nat) {row : List Dec} (h : consL ownN D vars (l.take k) row = none) : consL ownN D vars l row = none := by
  conv => lhs; rw [← List.take_append_drop k l]
  rw [consL_append, h]; rfl
theorem goRow_end {D : List Dec} {f i : Nat} {row : List Dec} (h : row.length ≤ i) : goRow ownN D f i row = some row := by
  cases f with
  | zero => rw [goRow]
  | succ f => rw [goRow, List.getElem?_eq_none h]
theorem goRow_step {D : List Dec} {f i : Nat} {row : List Dec} (h : i < row.length) : goRow ownN D (f + 1) i row = (consL ownN D row[i].vars row[i].cons row).bind (goRow ownN D f (i + 1)) := by
  rw [goRow, List.getElem?_eq_getElem h]
end Go.Stamp
set_option linter.unusedVariables false
set_option linter.unusedSimpArgs false
namespace Go.Stamp
open Go Go.RowKit Go.Proofs Go.Maps Go.Proofs.YtadbbfmmhimgcaaGreatDoor
/-- no error, or one -/
def ErrN (w : World) (g : Addr) (v : Value) : Prop := v = .nilIface ∨ ∃ n, ErrV w g n v
theorem ErrN.kept {W0 w w' : World} {D row : List Dec} {dv : Value} {pb m : Nat} {rv : Value} {xs : List Value} (hS : WS W0 w D row dv pb m rv xs) (hk : Kept pb m w w') {g : Addr} {v : Value} (h : ErrN w g v) : ErrN w' g v := by
  rcases h with h | ⟨n, h⟩
  · exact .inl h
  · exact .inr ⟨n, h.kept hS hk⟩
/-- errors.Join of two -/
theorem join_ok {w : World} {q : Nat} {g : Addr} {x y : Value} (hx : ErrN w g x) (hy : ErrN w g y) (c0 : w.cell? ⟨q, 0, none⟩ = some x) (c1 : w.cell? ⟨q, 1, none⟩ = some y) :
    Calls Tryz.prog 28 #[.slice (some ⟨q, 0, none⟩) 2 2] w fun e w' => Below w.heap.size w w' ∧ ((x = .nilIface ∧ y = .nilIface ∧ e = .returned .nilIface) ∨ (¬ (x = .nilIface ∧ y = .nilIface) ∧ ∃ n v, e = .returned v ∧ ErrV w' g n v)) := by
  rcases hx with rfl | ⟨n, hx⟩
  · rcases hy with rfl | ⟨n, hy⟩
    · refine (join_nil c0 c1).mono ?_
      rintro e w' ⟨rfl, rfl⟩
      exact ⟨Below.refl _ _, .inl ⟨rfl, rfl, rfl⟩⟩
    · refine (join_right hy c0 c1).mono ?_
      rintro e w' ⟨h1, h2⟩
      obtain ⟨t, a, rfl⟩ := hy.shape
      exact ⟨h1, .inr ⟨by simp, h2⟩⟩
  · obtain ⟨t, a, e⟩ := hx.shape
    rcases hy with rfl | ⟨k, hy⟩
    · refine (join_left hx c0 c1).mono ?_
      rintro e' w' ⟨h1, h2⟩
      exact ⟨h1, .inr ⟨by subst e; simp, h2⟩⟩
    · obtain ⟨t', a', rfl⟩ := hy.shape
      refine (join_both hx c0 c1).mono ?_
      rintro e' w' ⟨h1, h2⟩
      exact ⟨h1, .inr ⟨by simp, h2⟩⟩
/-- errors.Is -/
theorem isN {w : World} {g : Addr} {v : Value} (h : ErrN w g v) : Calls Tryz.prog 16 #[v, .iface 224 (.pointer (some g))] w fun e w' => (∃ b, e = .returned (.bool b) ∧ (b = false ↔ v = .nilIface)) ∧ w' = w := by
  rcases h with rfl | ⟨n, h⟩
  · refine (is_nil g w).mono ?_
    rintro e w' ⟨rfl, rfl⟩
    exact ⟨⟨false, rfl, by simp⟩, rfl⟩
  · refine (is16 h).mono ?_
    rintro e w' ⟨rfl, rfl⟩
    obtain ⟨t, a, rfl⟩ := h.shape
    exact ⟨⟨true, rfl, by simp⟩, rfl⟩
end Go.Stamp
set_option linter.unusedVariables false
set_option linter.unusedSimpArgs false
namespace Go.Stamp
open Go Go.RowKit Go.Proofs Go.Maps
/-- come's answer as one value (for drawn regions: one way alone) -/
theorem come_one {W0 : World} {D : List Dec} {dv : Value} {pb m : Nat} {g : Addr} (hD : DecsV W0 D dv) (hDl : D.length ≤ 1000000) (h0 : W0.cell? ⟨0, 0, none⟩ = some (.iface 224 (.pointer (some g)))) {vars : List ByteArray} {vv : Value} (hvv : StrsV W0 vars vv) (hvl : vars.length ≤ 1099511627776)
    (t : Ty) (ht : partsT t < 1099511627776) (hok : okT t) (w : World) (row : List Dec) (rv : Value) (xs vs : List Value) (hS : WS W0 w D row dv pb m rv xs) (hT : TyV W0 t vs) :
    Calls Tryz.prog 27 #[.pointer (some ⟨pb, 0, none⟩), .agg vs.toArray, vv] w fun e w' => ∃ v, e = .returned v ∧ Kept pb m w w' ∧ ErrN w' g v ∧ ∃ row' rv' xs', row <+: row' ∧ WS W0 w' D row' dv pb m rv' xs' ∧ ((come ownN D vars t row = some row' ∧ v = .nilIface) ∨ (come ownN D vars t row = none ∧ v ≠ .nilIface)) := by
  refine (come_ok hD hDl h0 hvv hvl 1099511627776 t ht (Nat.le_refl _) hok w row rv xs vs hS hT).mono ?_
  rintro e w' ⟨hk, row', rv', xs', hp, hw, (⟨h1, rfl⟩ | ⟨h1, rfl⟩)⟩
  · exact ⟨_, rfl, hk, .inl rfl, row', rv', xs', hp, hw, .inl ⟨h1, rfl⟩⟩
  · exact ⟨_, rfl, hk, .inr ⟨0, rfl⟩, row', rv', xs', hp, hw, .inr ⟨h1, by simp⟩⟩
/-- errors.Join's answer as one value -/
theorem join_one {w : World} {q : Nat} {g : Addr} {x y : Value} (hx : ErrN w g x) (hy : ErrN w g y) (c0 : w.cell? ⟨q, 0, none⟩ = some x) (c1 : w.cell? ⟨q, 1, none⟩ = some y) :
    Calls Tryz.prog 28 #[.slice (some ⟨q, 0, none⟩) 2 2] w fun e w' => ∃ v, e = .returned v ∧ Below w.heap.size w w' ∧ ErrN w' g v ∧ (v = .nilIface ↔ x = .nilIface ∧ y = .nilIface) := by
  refine (join_ok hx hy c0 c1).mono ?_
  rintro e w' ⟨hb, (⟨rfl, rfl, rfl⟩ | ⟨h, n, v, rfl, hv⟩)⟩
  · exact ⟨_, rfl, hb, .inl rfl, by simp⟩
  · refine ⟨v, rfl, hb, .inr ⟨n, hv⟩, fun e => ?_, fun e => absurd e h⟩
    obtain ⟨t, a, rfl⟩ := hv.shape
    cases e
end Go.Stamp
set_option linter.unusedVariables false
set_option linter.unusedSimpArgs false
set_option maxRecDepth 100000
set_option maxHeartbeats 4000000
namespace Go.Stamp
open Go Go.RowKit Go.Proofs Go.Maps
/-- what all holds at a round's start -/
def AllR (W0 w : World) (D : List Dec) (dv : Value) (pb m : Nat) (g : Addr) (t : Ty) (e : Value) (k : Nat) (wr : World) : Prop :=
  ∃ row rv xs, WS W0 wr D row dv pb m rv xs ∧ k ≤ row.length ∧ Kept pb m w wr ∧ ErrN wr g e ∧ ((e = .nilIface ∧ goRow ownN D (D.length + 1 - k) k row = allOf ownN D t) ∨ (e ≠ .nilIface ∧ allOf ownN D t = none))
/-- what all answers and leaves -/
def AllP (W0 w : World) (D : List Dec) (dv : Value) (pb m : Nat) (g : Addr) (t : Ty) (e : Ending) (w' : World) : Prop :=
  ∃ v row rv xs, e = .returned v ∧ WS W0 w' D row dv pb m rv xs ∧ Kept pb m w w' ∧ ErrN w' g v ∧ ((v = .nilIface ∧ allOf ownN D t = some row) ∨ (v ≠ .nilIface ∧ allOf ownN D t = none))
/-- what all holds between two constructors -/
def InR (W0 w : World) (D : List Dec) (dv : Value) (pb m : Nat) (g : Addr) (d : Dec) (row1 : List Dec) (e : Value) (kk : Nat) (wr : World) : Prop :=
  ∃ r rv xs, row1 <+: r ∧ WS W0 wr D r dv pb m rv xs ∧ Kept pb m w wr ∧ ErrN wr g e ∧ ((e = .nilIface ∧ consL ownN D d.vars (d.cons.take kk) row1 = some r) ∨ (e ≠ .nilIface ∧ consL ownN D d.vars d.cons row1 = none))
theorem ErrN.below {w w' : World} {g : Addr} {v : Value} (h : ErrN w g v) (hb : Below w.heap.size w w') : ErrN w' g v := by
  rcases h with h | ⟨n, h⟩
  · exact .inl h
  · exact .inr ⟨n, h.mono fun b cs fr hc => hb.block b (by rcases hc with h | h <;> exact (Array.getElem?_eq_some_iff.1 h).1)⟩
/-- nil, or an interface value -/
def IsI (v : Value) : Prop := v = .nilIface ∨ ∃ t a, v = .iface t a
theorem ErrN.isI {w : World} {g : Addr} {v : Value} (h : ErrN w g v) : IsI v := by
  rcases h with rfl | ⟨n, h⟩
  · exact .inl rfl
  · obtain ⟨t, a, rfl⟩ := h.shape
    exact .inr ⟨_, _, rfl⟩
theorem ErrN.cells {w : World} {g : Addr} {v : Value} (h : ErrN w g v) : v.cells = #[v] ∧ v.oneCell' = true := by
  rcases h with rfl | ⟨n, h⟩
  · exact ⟨rfl, rfl⟩
  · obtain ⟨t, a, rfl⟩ := h.shape
    exact ⟨rfl, rfl⟩
theorem all_ok {W0 : World} {D : List Dec} {dv : Value} {pb m : Nat} {g : Addr} (hD : DecsV W0 D dv) (hDl : D.length ≤ 1000000) (hcl : ∀ d ∈ D, d.cons.length ≤ 1099511627776 ∧ d.vars.length ≤ 1099511627776 ∧ ∀ c ∈ d.cons, partsT c.ty < 1099511627776 ∧ okT c.ty) (h0 : W0.cell? ⟨0, 0, none⟩ = some (.iface 224 (.pointer (some g))))
    (t : Ty) (ht : partsT t < 1099511627776) (hok : okT t) (w : World) (rv : Value) (xs vs : List Value) (hS : WS W0 w D [] dv pb m rv xs) (hT : TyV W0 t vs) :
    Calls Tryz.prog 17 #[.pointer (some ⟨pb, 0, none⟩), .agg vs.toArray] w fun e w' => AllP W0 w D dv pb m g t e w' := by
  have hnv : StrsV W0 [] (.slice none 0 0) := ⟨none, 0, rfl, fun h => absurd rfl h, Nat.le_refl _⟩
  have hcall := fun o => come_one hD hDl h0 hnv (by simp) t ht hok (w.alloc o) [] rv xs vs (hS.grow ((Below.refl _ _).alloc (Nat.le_refl _) o)) hT
  have HC := Lib.hid hcall
  have HD := Lib.hid hD
  obtain ⟨s, rfl, hs⟩ := hT.vals
  obtain ⟨ka, kc, rfl, hrow⟩ := hs.slice
  have hpl := hS.c0.2.2.2.2
  clear hcall hD hS hs hrow hT hnv
  go_enter Tryz.func17, Tryz.ntmps17
  go_wp2_with fail
  refine (HC.out _).mono ?_
  rintro e w2 ⟨v, rfl, hk, he, row, rv2, xs2, hp, hw, hor⟩
  have hst : AllR W0 w D dv pb m g t v 0 w2 := ⟨row, rv2, xs2, hw, Nat.zero_le _, (Kept.of_below (w := w) ((Below.refl _ _).alloc (Nat.le_refl _) _)).trans hk, he, by
    rcases hor with ⟨h1, h2⟩ | ⟨h1, h2⟩
    · exact .inl ⟨h2, by rw [allOf, h1]; rfl⟩
    · exact .inr ⟨h2, by rw [allOf, h1]; rfl⟩⟩
  have HST := Lib.hid hst
  clear hst hk he hp hw hor
  go_wp2
  go_loopw [5, 6] (fun e i wr => ∃ k : Nat, k ≤ D.length ∧ i = .int .i64 k ∧ Hid (AllR W0 w D dv pb m g t e k wr)) (fun _ i _ => D.length + 1 - (intOf i).toNat)
  case atStart => exact ⟨0, Nat.zero_le _, rfl, HST⟩
  case round =>
    obtain ⟨k, hkD, rfl, hR⟩ := hrel
    obtain ⟨row1, rv1, xs1, hw1, hkl, hkp, he1, hor1⟩ := hR.out
    clear hR
    have hlD := hw1.len
    obtain ⟨ra, rc, rfl⟩ : ∃ ra rc, rv1 = .slice ra row1.length rc := by
      rcases hw1.rows.2 with ⟨h, h0⟩ | ⟨g, cap, cur, h1, _⟩
      · exact ⟨none, 0, by rw [h, h0]⟩
      · exact ⟨_, _, h1⟩
    obtain ⟨f0, f1, f2, f3, f4⟩ := hw1.c0
    have HW1 := Lib.hid hw1
    have HKP := Lib.hid hkp
    have HE1 := Lib.hid he1
    clear hw1 hkp he1
    by_cases hlt : k < row1.length
    · rcases hor1 with ⟨rfl, hg⟩ | ⟨hne, hno⟩
      · obtain ⟨g', cap', ds, hrv, hdl, hcells, hdec⟩ := HW1.out.get hlt
        cases hrv
        obtain ⟨sv, sc, R, rfl, hsv, hsc⟩ := hdec
        obtain ⟨ca, cc, rfl⟩ := hsc.slice
        have c3 := hcells 3 _ rfl
        obtain ⟨hcb, hvb, hct⟩ := hcl _ (find_mem (HW1.out.source _ (List.getElem_mem hlt))).1
        have HG := Lib.hid hg
        have HSV := Lib.hid hsv
        have HSC := Lib.hid hsc
        have HI0 : Hid (InR W0 w D dv pb m g row1[k] row1 .nilIface 0 wr) := Lib.hid ⟨row1, _, _, List.prefix_rfl, HW1.out, HKP.out, .inl rfl, .inl ⟨rfl, by rw [List.take_zero, consL]⟩⟩
        clear hg hsv hsc hcells hdl
        go_wp2
        go_loopw [5, 34] (fun e j wr2 => ∃ kk : Nat, kk ≤ row1[k].cons.length ∧ j = .int .i64 kk ∧ Hid (InR W0 w D dv pb m g row1[k] row1 e kk wr2)) (fun _ j _ => row1[k].cons.length - (intOf j).toNat)
        case atStart => exact ⟨0, Nat.zero_le _, rfl, HI0⟩
        case round =>
          obtain ⟨kk, hkk, rfl, hI⟩ := hrel
          by_cases hlt2 : kk < row1[k].cons.length
          · obtain ⟨r, rv2, xs2, hpr, hws, hke, hen, hor⟩ := hI.out
            obtain ⟨cb, co, us, hce, hcc, ts, rfl, hty⟩ := HSC.out.get hlt2
            cases hce
            obtain ⟨ks, rfl, hks⟩ := hty.vals
            obtain ⟨ka2, kc2, rfl, _⟩ := hks.slice
            have hcW := hcc.below hws.below
            have k0 : wr.cell? ⟨cb, co + kk * 6, none⟩ = some (.string row1[k].cons[kk].name) := hcW 0 _ rfl
            have k1 := hcW 1 _ rfl
            have k2 := hcW 2 _ rfl
            have k3 := hcW 3 _ rfl
            have k4 := hcW 4 _ rfl
            have k5 := hcW 5 _ rfl
            have HIR := Lib.hid hI
            have HTY := Lib.hid hty
            clear hcc hcW hty hks
            cases hh : row1[k].cons[kk].has with
            | false =>
              rw [hh] at k1
              have HN := Lib.hid fun (o : Obj) => (show InR W0 w D dv pb m g row1[k] row1 _ (kk + 1) (World.alloc _ o) from ⟨r, rv2, xs2, hpr, hws.grow ((Below.refl _ _).alloc (Nat.le_refl _) o), hke.trans (Kept.of_below ((Below.refl _ _).alloc (Nat.le_refl _) o)), hen.kept hws (Kept.of_below ((Below.refl _ _).alloc (Nat.le_refl _) o)), by
                rcases hor with ⟨h1, h2⟩ | ⟨h1, h2⟩
                · exact .inl ⟨h1, by rw [consL_skip hlt2 hh]; exact h2⟩
                · exact .inr ⟨h1, h2⟩⟩)
              clear hws hke hen hor hpr hI HIR
              go_wp2
              go_round
              case rel => exact ⟨kk + 1, by omega, by simp, Lib.hid (HN.out _)⟩
              case measure => simp [intOf]; omega
            | true =>
              rw [hh] at k1
              have hrl : k < r.length := by have := hpr.length_le; omega
              obtain ⟨g2, cap2, vs2, hrv2, hvl2, hcells2, hdec2⟩ := hws.get hrl
              have hrk : r[k] = row1[k] := (hpr.getElem hlt).symm
              rw [hrk] at hdec2
              subst hrv2
              obtain ⟨sv2, sc2, R2, rfl, hsv2, hsc2⟩ := hdec2
              obtain ⟨va2, vc2, rfl⟩ := hsv2.slice
              have v2 : wr.cell? ⟨g2, k * 16 + 2, none⟩ = some (.slice va2 row1[k].vars.length vc2) := hcells2 2 _ rfl
              have hg2 := cell_lt v2
              obtain ⟨q0, q1, q2, q3, q4⟩ := hws.c0
              have hcc := hct _ (List.getElem_mem hlt2)
              have HC : Hid (∀ w', Below wr.heap.size wr w' → Calls Tryz.prog 27 #[.pointer (some ⟨pb, 0, none⟩), .agg #[.int .u8 row1[k].cons[kk].ty.kind, .string row1[k].cons[kk].ty.name, .int .i64 row1[k].cons[kk].ty.num, .slice ka2 row1[k].cons[kk].ty.kids.length kc2], .slice va2 row1[k].vars.length vc2] w'
                  fun e w2 => ∃ v, e = .returned v ∧ Kept pb m w' w2 ∧ ErrN w2 g v ∧ ∃ row' rv' xs', r <+: row' ∧ WS W0 w2 D row' dv pb m rv' xs' ∧ ((come ownN D row1[k].vars row1[k].cons[kk].ty r = some row' ∧ v = .nilIface) ∨ (come ownN D row1[k].vars row1[k].cons[kk].ty r = none ∧ v ≠ .nilIface))) :=
                Lib.hid fun w' hb => come_one HD.out hDl h0 hsv2 hvb _ hcc.1 hcc.2 w' r _ _ _ (hws.grow hb) HTY.out
              have HWS := Lib.hid hws
              have HEN := Lib.hid hen
              have hisI := hen.cells.1
              unfold Value.cells at hisI
              have hisO := hen.cells.2
              have HOR := Lib.hid hor
              have HPR := Lib.hid hpr
              have HKE := Lib.hid hke
              clear hws hen hor hpr hke hsv2 hsc2 hcells2 hI HIR
              go_wp2
              go_region_with (first
                | (go_at_call 27; refine (HC.out _ ?_).mono ?_; (repeat (first | exact Below.refl _ _ | refine Below.drew ?_ | refine Below.alloc ?_ (by simp) _)); rintro e w' ⟨v, rfl, hk, he, hrest⟩; (have hvc := he.cells.1); unfold Value.cells at hvc; (have hvo := he.cells.2); (have HE0 : Hid (ErrN w' g u5) := Lib.hid (ErrN.kept (HWS.out.grow (by repeat (first | exact Below.refl _ _ | refine Below.drew ?_ | refine Below.alloc ?_ (by simp) _))) hk (HEN.out.below (by repeat (first | exact Below.refl _ _ | refine Below.drew ?_ | refine Below.alloc ?_ (by simp) _))))); (have HK := Lib.hid hk); (have HEV := Lib.hid he); (have HRE := Lib.hid hrest); clear hk he hrest)
                | (go_at_call 28; refine (join_one (x := u5) (y := v) (HE0.out.below (by repeat (first | exact Below.refl _ _ | refine Below.drew ?_ | refine Below.alloc ?_ (by simp) _))) (HEV.out.below (by repeat (first | exact Below.refl _ _ | refine Below.drew ?_ | refine Below.alloc ?_ (by simp) _))) (by simp [go_sem]) (by simp [go_sem])).mono ?_; rintro e w4 ⟨v4, rfl, hb4, he4, hv4⟩; (have HB4 := Lib.hid hb4); (have HE4 := Lib.hid he4); (have HV4 := Lib.hid hv4); clear hb4 he4 hv4))
              all_goals
                have HNEW : Hid (InR W0 w D dv pb m g row1[k] row1 v4 (kk + 1) w4) := Lib.hid (by
                  have hb5 : Below w'.heap.size w' w4 := Below.trans (by repeat (first | exact Below.refl _ _ | refine Below.drew ?_ | refine Below.alloc ?_ (by simp) _)) (HB4.out.mono (by simp))
                  obtain ⟨r2, rv3, xs3, hp3, hw3, hr3⟩ := HRE.out
                  refine ⟨r2, rv3, xs3, HPR.out.trans hp3, hw3.grow hb5, ((HKE.out.trans (Kept.of_below (by repeat (first | exact Below.refl _ _ | refine Below.drew ?_ | refine Below.alloc ?_ (by simp) _)))).trans HK.out).trans (Kept.of_below hb5), HE4.out, ?_⟩
                  rcases HOR.out with ⟨e1, e2⟩ | ⟨e1, e2⟩
                  · rcases hr3 with ⟨e3, e4⟩ | ⟨e3, e4⟩
                    · exact .inl ⟨HV4.out.2 ⟨e1, e4⟩, by rw [consL_step hlt2 hh e2]; exact e3⟩
                    · exact .inr ⟨fun e => e4 (HV4.out.1 e).2, consL_none (kk + 1) (by rw [consL_step hlt2 hh e2]; exact e3)⟩
                  · exact .inr ⟨fun e => e1 (HV4.out.1 e).1, e2⟩)
                go_wp2
                go_round
                case rel => exact ⟨kk + 1, by omega, by simp, HNEW⟩
                case measure => simp [intOf]; omega
          · obtain rfl : kk = row1[k].cons.length := by omega
            go_wp2
            go_round
            case rel => exact ⟨k + 1, by omega, by simp, Lib.hid (by
              obtain ⟨r, rv2, xs2, hpr, hws, hke, hen, hor⟩ := hI.out
              refine ⟨r, rv2, xs2, hws, ?_, hke, hen, ?_⟩
              · have := hpr.length_le; omega
              · have hgo := HG.out
                rw [show D.length + 1 - k = (D.length - k) + 1 by omega, goRow_step hlt] at hgo
                rcases hor with ⟨h1, h2⟩ | ⟨h1, h2⟩
                · rw [List.take_length] at h2
                  rw [h2] at hgo
                  exact .inl ⟨h1, by rw [show D.length + 1 - (k + 1) = D.length - k by omega]; exact hgo⟩
                · rw [h2] at hgo
                  exact .inr ⟨h1, hgo.symm⟩)⟩
            case measure => simp [intOf]; omega
      · have HN := Lib.hid hno
        obtain ⟨n, hv⟩ := HE1.out.resolve_left hne
        obtain ⟨et, ea, rfl⟩ := hv.shape
        clear hv hno hne
        go_wp2
        go_ret
        exact ⟨_, _, _, _, rfl, HW1.out, HKP.out, HE1.out, .inr ⟨by simp, HN.out⟩⟩
    · obtain rfl : k = row1.length := by omega
      rcases hor1 with ⟨rfl, hg⟩ | ⟨hne, hno⟩
      · have HG := Lib.hid (hg.symm.trans (goRow_end (Nat.le_refl _)))
        clear hg
        go_wp2
        go_ret
        exact ⟨_, _, _, _, rfl, HW1.out, HKP.out, HE1.out, .inl ⟨rfl, HG.out⟩⟩
      · have HN := Lib.hid hno
        obtain ⟨n, hv⟩ := HE1.out.resolve_left hne
        obtain ⟨et, ea, rfl⟩ := hv.shape
        clear hv hno hne
        go_wp2
        go_ret
        exact ⟨_, _, _, _, rfl, HW1.out, HKP.out, HE1.out, .inr ⟨by simp, HN.out⟩⟩
end Go.Stamp
