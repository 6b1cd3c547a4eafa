/- A part of a proof about the table over the shadow space: what a function of the program answers, walked by hand. Each theorem says its own conditions. -/
import Derived.Test.YthejkfnigalniabGreatDoorWaB
import Derived.Test.YthejkfnigalniabGreatDoorWaA
import Derived.Test.YthejkfnigalniabGreatDoorPla
import Derived.Test.YthejkfnigalniabGreatDoorWaE
import Derived.Lib.Bytes
set_option linter.unusedVariables false
set_option linter.unusedSimpArgs false
set_option maxRecDepth 100000
set_option maxHeartbeats 1600000
namespace Go.Tb
open Go Go.RowKit Go.Proofs Go.Maps Go.Sp
theorem open_y {w : World} {v : Value} {bs : Bs} (h : RV w v bs) (hL : bs.length = 256) {q : Nat × Bs × Nat} (hq : openB bs = q) :
    Calls Tryz.prog 45 #[v] w fun e w' => ∃ a c, e = .returned (.tuple #[.int .u8 (q.1 : Nat), .slice a q.2.1.length c, .int .i64 (q.2.2 : Nat)]) ∧ Hid (RN w.heap.size w' (.slice a q.2.1.length c) q.2.1 ∧ Below w.heap.size w w') := by
  refine (open_x h hL).mono ?_
  intro e w' ho
  unfold OpenP at ho
  rw [hq] at ho
  obtain ⟨v', h1, h2, h3⟩ := ho
  obtain ⟨a, c, rfl⟩ := h2.rv.len
  exact ⟨a, c, h1, Lib.hid ⟨h2, h3⟩⟩
theorem rd_ok {γ : Gh} {w : World} {db : Nat} {d : Dk} (H : DkV γ w db d) (h0 : γ.lim ≤ w.heap.size) (hok : d.Ok) (hcap : d.P.length < 2000000) (s k : Nat) (hk : k < 256) :
    Calls Tryz.prog 75 #[.pointer (some ⟨db, 0, none⟩), .int .i64 (s : Int), .int .u8 (k : Int)] w fun e w' => ∃ a c, e = .returned (.tuple #[.slice a (d.rd s k).1.length c, .bool (d.rd s k).2]) ∧ Hid (RN w.heap.size w' (.slice a (d.rd s k).1.length c) (d.rd s k).1 ∧ Below w.heap.size w w') := by
  have DR := dread_ok H h0 hok hcap s
  have hlen : (d.read s).1 = 0 → (d.read s).2.length = 256 := fun h => Dk.read_len hok h
  by_cases he : (d.read s).1 ≠ 0
  · have e1 : d.rd s k = ([], false) := if_pos he
    rw [e1]
    have hb := nz he
    clear H hok hlen e1
    generalize d.read s = q at *
    go_enter Tryz.func75, Tryz.ntmps75
    go_wp2_with (go_at_call 103; refine DR.mono ?_; rintro e w5 ⟨⟨v5, rfl, h5⟩, hb5⟩; have HB := Lib.hid hb5; obtain ⟨a5, c5, rfl⟩ := h5.rv.len; clear h5 hb5)
    go_ret2
    exact ⟨_, _, rfl, Lib.hid ⟨RN.nil _ _ _ _, HB.out⟩⟩
  · have he : (d.read s).1 = 0 := by omega
    have hL := hlen he
    have e1 : d.rd s k = ((openB (d.read s).2).2.1, decide ((openB (d.read s).2).2.2 = 0) && decide ((openB (d.read s).2).1 = k)) := if_neg (by omega)
    rw [e1]
    rw [he] at DR
    obtain ⟨q, hq⟩ : ∃ q, openB (d.read s).2 = q := ⟨_, rfl⟩
    rw [hq]
    have OP := Lib.hid (fun (w5 : World) (v5 : Value) (h5 : RN w.heap.size w5 v5 (d.read s).2) => open_y h5.rv hL hq)
    have hkk : ∀ a b : Nat, (((a : Nat) : Int) == ((b : Nat) : Int)) = decide (a = b) := fun a b => by
      by_cases h : a = b
      · subst h; simp
      · rw [decide_eq_false h, beq_eq_false_iff_ne]; omega
    have hk0 : ∀ a : Nat, (((a : Nat) : Int) == 0) = decide (a = 0) := fun a => hkk a 0
    clear H hok hlen e1 hq hL
    generalize (d.read s).2 = bs at *
    obtain ⟨q1, q2, q3⟩ := q
    dsimp only at *
    by_cases h3 : q3 = 0
    · subst h3
      rw [show (decide ((0 : Nat) = 0) && decide (q1 = k)) = decide (q1 = k) by simp]
      go_enter Tryz.func75, Tryz.ntmps75
      go_wp2_with (first
        | (go_at_call 103; refine DR.mono ?_; rintro e w5 ⟨⟨v5, rfl, h5⟩, hb5⟩; have H5 := Lib.hid (And.intro h5 hb5); obtain ⟨a5, c5, rfl⟩ := h5.rv.len; clear h5 hb5)
        | (go_at_call 45; refine (OP.out _ _ H5.out.1).mono ?_; rintro e w6 ⟨a, c, rfl, hq6⟩))
      go_ret2
      exact ⟨_, _, rfl, Lib.hid ⟨hq6.out.1.mono H5.out.2.size, Below.up H5.out.2 hq6.out.2⟩⟩
    · have hb := nz h3
      rw [show (decide (q3 = 0) && decide (q1 = k)) = false by simp [h3]]
      go_enter Tryz.func75, Tryz.ntmps75
      go_wp2_with (first
        | (go_at_call 103; refine DR.mono ?_; rintro e w5 ⟨⟨v5, rfl, h5⟩, hb5⟩; have H5 := Lib.hid (And.intro h5 hb5); obtain ⟨a5, c5, rfl⟩ := h5.rv.len; clear h5 hb5)
        | (go_at_call 45; refine (OP.out _ _ H5.out.1).mono ?_; rintro e w6 ⟨a, c, rfl, hq6⟩))
      go_ret2
      exact ⟨_, _, rfl, Lib.hid ⟨hq6.out.1.mono H5.out.2.size, Below.up H5.out.2 hq6.out.2⟩⟩
end Go.Tb
namespace Go.Tb
open Go Go.RowKit Go.Proofs Go.Maps Go.Sp
def n12 (r : Rt) (v : Value) : List Value := [.int .u32 (r.ep : Int), .int .i64 (r.at' 0 : Int), .int .i64 (r.at' 1 : Int), .int .i64 (r.at' 2 : Int), .int .i64 (r.at' 3 : Int), .int .i64 (r.at' 4 : Int), .int .i64 (r.at' 5 : Int), .int .i64 (r.at' 6 : Int), .int .i64 (r.at' 7 : Int), .int .i64 (r.at' 8 : Int), v, .pointer none]
def rtz : Rt := ⟨0, fun _ => 0, [], fun _ => 0⟩
def txt (bs : Bs) : ByteArray := strOfNums (bs.map fun (x : Nat) => (x : Int))
theorem txt_inj {a b : Bs} (ha : ∀ x ∈ a, x < 256) (hb : ∀ x ∈ b, x < 256) (h : txt a = txt b) : a = b := by
  have h2 : a.map (fun x => UInt8.ofNat x) = b.map (fun x => UInt8.ofNat x) := by
    have := congrArg (fun s : ByteArray => s.data.toList) h
    simpa [txt, strOfNums, Function.comp_def] using this
  have h3 := congrArg (fun l : List UInt8 => l.map UInt8.toNat) h2
  simp only [List.map_map] at h3
  have id' : ∀ l : Bs, (∀ x ∈ l, x < 256) → l.map (UInt8.toNat ∘ fun x => UInt8.ofNat x) = l := fun l hl => by
    conv => rhs; rw [← List.map_id l]
    refine List.map_congr_left fun x hx => ?_
    have := hl x hx
    simp [UInt8.toNat_ofNat', Nat.mod_eq_of_lt this]
  rw [id' a ha, id' b hb] at h3
  exact h3
theorem conv_txt {w : World} {g o c : Nat} {bs : Bs} (h : ∀ (j x : Nat), bs[j]? = some x → w.cell? ⟨g, o + j, none⟩ = some (.int .u8 (x : Int))) (n : Nat) (hn : bs.length = n) :
    (convert 33 9 (.slice (some ⟨g, o, none⟩) n c)).run Tryz.prog w = .ok (.string (txt bs)) w := by
  refine run_convert_bytes_arg (P := Tryz.prog) w 33 5 Tryz.underlying33 Tryz.underlying5 g o n c (bs.map fun (x : Nat) => (x : Int)) (by simp [hn]) (fun i hi => ?_) 9 (by kernel_rfl)
  have hb : i < bs.length := by omega
  have := h i bs[i] (List.getElem?_eq_getElem hb)
  rw [this]
  congr 2
  rw [List.getD_eq_getElem?_getD, List.getElem?_map, List.getElem?_eq_getElem hb]
  rfl
theorem txt_list {l : Bs} (m : List UInt8) : (txt l).toList = l.map fun x => UInt8.ofNat x := by
  unfold txt
  rw [Lib.strOfNums_toList]
  simp [Lib.bytesOf, Function.comp_def]
theorem txt_is {l m : Bs} (hl : ∀ x ∈ l, x < 256) (hm : ∀ x ∈ m, x < 256) : ((txt l).toList == m.map fun x => UInt8.ofNat x) = decide (l = m) := by
  by_cases h : l = m
  · subst h; rw [txt_list []]; simp
  · rw [decide_eq_false h, beq_eq_false_iff_ne]
    intro e
    rw [txt_list []] at e
    have h3 := congrArg (fun l : List UInt8 => l.map UInt8.toNat) e
    simp only [List.map_map] at h3
    have id' : ∀ l : Bs, (∀ x ∈ l, x < 256) → l.map (UInt8.toNat ∘ fun x => UInt8.ofNat x) = l := fun l hl => by
      conv => rhs; rw [← List.map_id l]
      refine List.map_congr_left fun x hx => ?_
      have := hl x hx
      simp [UInt8.toNat_ofNat', Nat.mod_eq_of_lt this]
    rw [id' l hl, id' m hm] at h3
    exact h h3
theorem u92 : ∃ d, Tryz.prog.underlying 70 = some d ∧ d.isRow = true := ⟨_, Tryz.underlying70, rfl⟩
theorem s92 : (Tryz.prog.info? 70).map (·.size) = some 12 := by kernel_rfl
theorem range12 {W : World} {b : Nat} {l : List Value} {T : TypeId} {r : Nat × Nat} (h : W.heap[b]? = some (.cells l.toArray T r)) : W.rangeAt b 0 l := fun j v hv => by
  simp [World.cell?, h, hv]
theorem cand_ret {tmps : Array Value} {W : World} {A : Nat} {l : List Value} {b : Bool} (h2 : tmps.getD 4 undef = .pointer (some ⟨A, 0, none⟩)) (h3 : tmps.getD 5 undef = .bool b) (hr : W.heap[A]? = some (.cells l.toArray 70 (0, 0))) (hl : l.length = 12) :
    (results Tryz.f40 tmps).run Tryz.prog W = .ok (.tuple #[.agg l.toArray, .bool b]) W := by
  obtain ⟨d, hu, hd⟩ := u92
  have hl := run_loadVar_mid (P := Tryz.prog) W A 0 70 l d (range12 hr) hu hd (by rw [hl]; exact s92)
  rw [results_cell_tmp (fn := Tryz.f40) (p := 4) (u := 5) (ty := 70) rfl, h2, h3]
  simp only [asAddr, Result.andThen, Sem.run_pure, hl]
def CandP (w : World) (o : Option Rt) (e : Ending) (w' : World) : Prop :=
  ∃ r v, e = .returned (.tuple #[.agg (n12 r v).toArray, .bool o.isSome]) ∧ Hid (RN w.heap.size w' v r.mt ∧ r.ep < 4294967296 ∧ (∀ i, r.at' i < 65536) ∧ (∀ r0, o = some r0 → r = r0) ∧ Below w.heap.size w w')
theorem cand_no {γ : Gh} {w : World} {db : Nat} {d : Dk} (H : DkV γ w db d) (h0 : γ.lim ≤ w.heap.size) (hok : d.Ok) (hcap : d.P.length < 2000000) (s : Nat) (hs : s < 2)
    (hy : (d.rd s 1).2 = false ∨ rootMay (d.rd s 1).1 = false) :
    Calls Tryz.prog 40 #[.pointer (some ⟨db, 0, none⟩), .int .i64 (s : Int)] w (CandP w none) := by
  obtain ⟨W1, hW1⟩ : ∃ W1, w.alloc (.cells z12 70) = W1 := ⟨_, rfl⟩
  have hb1 : Below w.heap.size w W1 := hW1 ▸ Below.alloc (Below.refl _ _) (Nat.le_refl _) _
  have hA : W1.heap[w.heap.size]? = some (.cells z12 70 (0, 0)) := hW1 ▸ (Go.MapKept.heap_alloc w _).1
  have RD := rd_ok (H.keep (Step.below (S := fun _ => false) hb1 h0) ⟨rfl, rfl, rfl, rfl⟩) (Nat.le_trans h0 hb1.size) hok hcap s 1 (by decide)
  have HW := Lib.hid hW1
  have HA := Lib.hid (And.intro hb1 hA)
  have fin : Hid (∀ w5 : World, Below W1.heap.size W1 w5 → ∀ W9, w5.setCells w.heap.size 0 z12.toList = W9 → W9.heap[w.heap.size]? = some (.cells (n12 rtz (.slice none 0 0)).toArray 70 (0, 0)) ∧ CandP w none (.returned (.tuple #[.agg (n12 rtz (.slice none 0 0)).toArray, .bool false])) W9) := Lib.hid fun w5 hb5 W9 h9 => by
    have hl := (Array.getElem?_eq_some_iff.1 hA).1
    have n5 : w5.heap[w.heap.size]? = some (.cells z12 70 (0, 0)) := (hb5.block _ hl).trans hA
    have h12 := set12 (l := z12.toList) n5 rfl rfl
    rw [h9] at h12
    refine ⟨h12, rtz, .slice none 0 0, rfl, Lib.hid ⟨RN.nil _ _ _ _, by decide, (fun i => (by decide : (0 : Nat) < 65536)), (fun r0 h => by cases h), ?_⟩⟩
    have hbb := Below.up hb1 hb5
    rw [← h9]
    exact ⟨(setCells_os _ _ _).1.trans hbb.os, (setCells_os _ _ _).2.1.trans hbb.tape, (setCells_os _ _ _).2.2.trans hbb.output, by rw [setCells_size]; exact hbb.size, fun k hk => (setCells_other _ _ _ _ (by omega)).trans (hbb.block k hk)⟩
  have hkk : Hid (∀ w5 : World, Below W1.heap.size W1 w5 → w5.heap[w.heap.size]? = some (.cells z12 70 (0, 0))) := Lib.hid fun w5 hb5 => (hb5.block _ (Array.getElem?_eq_some_iff.1 hA).1).trans hA
  obtain ⟨b, hb⟩ : ∃ b, (d.rd s 1).1 = b := ⟨_, rfl⟩
  obtain ⟨y, hyy⟩ : ∃ y, (d.rd s 1).2 = y := ⟨_, rfl⟩
  rw [hb, hyy] at RD
  rw [hb, hyy] at hy
  clear H hok hcap hb1 hA hW1 hb hyy
  cases y with
  | false =>
    clear hy
    go_enter Tryz.func40, Tryz.ntmps40
    go_upto_region 1 with fail
    rw [show w.alloc (.cells #[.int .u32 0, .int .i64 0, .int .i64 0, .int .i64 0, .int .i64 0, .int .i64 0, .int .i64 0, .int .i64 0, .int .i64 0, .int .i64 0, .slice none 0 0, .pointer none] 70) = W1 from HW.out]
    go_upto_region 2 with (go_at_call 75; refine RD.mono ?_; rintro e w5 ⟨a5, c5, rfl, hq5⟩)
    obtain ⟨k0, k1, k2, k3, k4, k5, k6, k7, k8, k9, k10, k11, f0, f1, f2, f3, f4, f5, f6, f7, f8, f9, f10, f11⟩ := z12_cells (hkk.out w5 hq5.out.2)
    have lA := cell_lt' k0
    go_wp2_with fail
    refine take_last ?_
    intro W9 hW9
    obtain ⟨q1, q2⟩ := fin.out w5 hq5.out.2 W9 hW9
    clear hW9 k0 k1 k2 k3 k4 k5 k6 k7 k8 k9 k10 k11 f0 f1 f2 f3 f4 f5 f6 f7 f8 f9 f10 f11
    refine bodyPost_ret (cand_ret (A := w.heap.size) (l := n12 rtz (.slice none 0 0)) (b := false) rfl rfl q1 rfl) rfl ?_
    exact q2
  | true =>
    have hy : rootMay b = false := hy.resolve_left (by simp)
    by_cases hL : 26 ≤ b.length
    · have i1 : decide ((b.length : Int) < 26) = false := by rw [decide_eq_false_iff_not]; omega
      have hlen : (4 : Int) ≤ (b.length : Int) := by omega
      have hne : ¬ b.take 4 = [97, 117, 109, 49] := fun e => by
        unfold rootMay at hy
        rw [e] at hy
        simp at hy
        omega
      go_enter Tryz.func40, Tryz.ntmps40
      go_upto_region 1 with fail
      rw [show w.alloc (.cells #[.int .u32 0, .int .i64 0, .int .i64 0, .int .i64 0, .int .i64 0, .int .i64 0, .int .i64 0, .int .i64 0, .int .i64 0, .int .i64 0, .slice none 0 0, .pointer none] 70) = W1 from HW.out]
      go_upto_region 2 with (go_at_call 75; refine RD.mono ?_; rintro e w5 ⟨a5, c5, rfl, hq5⟩)
      obtain ⟨a', c', e1, ⟨hx, hcap5⟩, hrow⟩ := hq5.out.1
      injection e1 with e1 e3 e2
      subst e1 e2
      clear e3
      obtain ⟨g, o, r5, cs5, rfl, hg5, hh5, hc5⟩ := hrow (by omega)
      have HC5 := Lib.hid hc5
      have hcv := conv_txt (w := w5) (g := g) (o := o) (c := c5) (bs := b.take 4) (fun j x hj => HC5.out j x (by rw [List.getElem?_take] at hj; split at hj; exact hj; cases hj)) 4 (by simp; omega)
      have hti : ((txt (b.take 4)).toList == [97, 117, 109, 49]) = false := by
        have := txt_is (l := b.take 4) (m := [97, 117, 109, 49]) (fun x hm => hx x (List.mem_of_mem_take hm)) (by decide)
        rw [decide_eq_false hne] at this
        exact this
      obtain ⟨k0, k1, k2, k3, k4, k5, k6, k7, k8, k9, k10, k11, f0, f1, f2, f3, f4, f5, f6, f7, f8, f9, f10, f11⟩ := z12_cells (hkk.out w5 hq5.out.2)
      have lA := cell_lt' k0
      clear hc5 hrow hx hne hy
      generalize txt (b.take 4) = T4 at hcv hti
      go_wp2_with fail
      refine take_last ?_
      intro W9 hW9
      obtain ⟨q1, q2⟩ := fin.out w5 hq5.out.2 W9 hW9
      refine bodyPost_ret (cand_ret (A := w.heap.size) (l := n12 rtz (.slice none 0 0)) (b := false) rfl rfl q1 rfl) rfl ?_
      exact q2
    · have i1 : decide ((b.length : Int) < 26) = true := by rw [decide_eq_true_iff]; omega
      clear hy
      go_enter Tryz.func40, Tryz.ntmps40
      go_upto_region 1 with fail
      rw [show w.alloc (.cells #[.int .u32 0, .int .i64 0, .int .i64 0, .int .i64 0, .int .i64 0, .int .i64 0, .int .i64 0, .int .i64 0, .int .i64 0, .int .i64 0, .slice none 0 0, .pointer none] 70) = W1 from HW.out]
      go_upto_region 2 with (go_at_call 75; refine RD.mono ?_; rintro e w5 ⟨a5, c5, rfl, hq5⟩)
      obtain ⟨k0, k1, k2, k3, k4, k5, k6, k7, k8, k9, k10, k11, f0, f1, f2, f3, f4, f5, f6, f7, f8, f9, f10, f11⟩ := z12_cells (hkk.out w5 hq5.out.2)
      have lA := cell_lt' k0
      go_wp2_with fail
      refine take_last ?_
      intro W9 hW9
      obtain ⟨q1, q2⟩ := fin.out w5 hq5.out.2 W9 hW9
      refine bodyPost_ret (cand_ret (A := w.heap.size) (l := n12 rtz (.slice none 0 0)) (b := false) rfl rfl q1 rfl) rfl ?_
      exact q2
theorem n12_cell {W : World} {B k : Nat} {r : Rt} {v : Value} (hk : k < 9) (h : W.heap[B]? = some (.cells (n12 r v).toArray 70 (0, 0))) : W.cell? ⟨B, 1 + k, none⟩ = some (.int .i64 (r.at' k : Int)) ∧ W.frozen? ⟨B, 1 + k, none⟩ = false := by
  have h9 : k = 0 ∨ k = 1 ∨ k = 2 ∨ k = 3 ∨ k = 4 ∨ k = 5 ∨ k = 6 ∨ k = 7 ∨ k = 8 := by omega
  rcases h9 with rfl | rfl | rfl | rfl | rfl | rfl | rfl | rfl | rfl <;> simp [World.cell?, World.frozen?, h, n12]
theorem n12_set {W : World} {B k x : Nat} {r : Rt} {v : Value} (hk : k < 9) (h : W.heap[B]? = some (.cells (n12 r v).toArray 70 (0, 0))) : (W.setCell ⟨B, 1 + k, none⟩ (.int .i64 (x : Int))).heap[B]? = some (.cells (n12 ⟨r.ep, upd r.at' k x, r.mt, r.pg⟩ v).toArray 70 (0, 0)) := by
  have e : (W.setCell ⟨B, 1 + k, none⟩ (.int .i64 (x : Int))).heap[B]? = some (.cells ((n12 r v).toArray.setIfInBounds (1 + k) (.int .i64 (x : Int))) 70 (0, 0)) := by
    unfold World.setCell
    simp only [Array.getElem?_modify]
    rw [h]
    simp
  rw [e]
  have h9 : k = 0 ∨ k = 1 ∨ k = 2 ∨ k = 3 ∨ k = 4 ∨ k = 5 ∨ k = 6 ∨ k = 7 ∨ k = 8 := by omega
  rcases h9 with rfl | rfl | rfl | rfl | rfl | rfl | rfl | rfl | rfl <;> simp [n12, upd]
theorem slice26 (w : World) (g o n c : Nat) (h : 26 ≤ n) (hc : n ≤ c) : ∃ o', (Instr.sliceAt 33 (.slice (some ⟨g, o, none⟩) n c) (some (.int .i64 26)) none none).run Tryz.prog w = .ok (.slice (some ⟨g, o', none⟩) (n - 26) (c - 26)) w ∧ (26 < n → o' = o + 26) := by
  have hlen : (26 : Int) ≤ (n : Int) := by omega
  have hlen2 : (n : Int) ≤ (c : Int) := by omega
  have hlen3 : (26 : Int) ≤ (c : Int) := by omega
  by_cases e : c = 26
  · refine ⟨o, ?_, fun h => by omega⟩
    go_simp
  · refine ⟨o + 26, ?_, fun h => rfl⟩
    go_simp
theorem openB_len (x : Bs) : (openB x).2.1.length ≤ 248 := by
  unfold openB
  split
  · simp
  · split
    · simp
    · split
      · simp
      · split
        · simp
        · simp; omega
theorem rd_len (d : Dk) (s k : Nat) : (d.rd s k).1.length ≤ 248 := by
  unfold Dk.rd
  split
  · simp
  · exact openB_len _
def atB (b : Bs) (k : Nat) : Nat → Nat := fun i => if i < k then num ((b.drop (8 + 2 * i)).take 2) else 0
theorem num_two {b : Bs} (hb : ∀ x ∈ b, x < 256) (m n : Nat) : num ((b.drop m).take n) < 256 ^ n := by
  have h := num_lt ((b.drop m).take n) fun x hx => hb x (List.mem_of_mem_drop (List.mem_of_mem_take hx))
  refine Nat.lt_of_lt_of_le h (Nat.pow_le_pow_right (by decide) ?_)
  rw [List.length_take]; omega
theorem cand_yes {γ : Gh} {w : World} {db : Nat} {d : Dk} (H : DkV γ w db d) (h0 : γ.lim ≤ w.heap.size) (hok : d.Ok) (hcap : d.P.length < 2000000) (s : Nat) (hs : s < 2)
    (hy : (d.rd s 1).2 = true) (hm : rootMay (d.rd s 1).1 = true) :
    Calls Tryz.prog 40 #[.pointer (some ⟨db, 0, none⟩), .int .i64 (s : Int)] w (CandP w (d.cand s)) := by
  obtain ⟨W1, hW1⟩ : ∃ W1, w.alloc (.cells z12 70) = W1 := ⟨_, rfl⟩
  have hb1 : Below w.heap.size w W1 := hW1 ▸ Below.alloc (Below.refl _ _) (Nat.le_refl _) _
  have hA : W1.heap[w.heap.size]? = some (.cells z12 70 (0, 0)) := hW1 ▸ (Go.MapKept.heap_alloc w _).1
  have RD := rd_ok (H.keep (Step.below (S := fun _ => false) hb1 h0) ⟨rfl, rfl, rfl, rfl⟩) (Nat.le_trans h0 hb1.size) hok hcap s 1 (by decide)
  have hcd : d.cand s = if 0 < (rootOf (d.rd s 1).1).ep ∧ (rootOf (d.rd s 1).1).ep % 2 = s then some (rootOf (d.rd s 1).1) else none := by
    unfold Dk.cand
    by_cases h : 0 < (rootOf (d.rd s 1).1).ep ∧ (rootOf (d.rd s 1).1).ep % 2 = s
    · rw [if_pos h, if_pos ⟨hy, hm, h⟩]
    · rw [if_neg h, if_neg (fun h2 => h h2.2.2)]
  obtain ⟨oc, hoc⟩ : ∃ oc, d.cand s = oc := ⟨_, rfl⟩
  rw [hoc] at hcd ⊢
  rw [hy] at RD
  obtain ⟨b, hb⟩ : ∃ b, (d.rd s 1).1 = b := ⟨_, rfl⟩
  have hL9 : b.length ≤ 248 := hb ▸ rd_len d s 1
  rw [hb] at RD hm hcd
  have HCD := Lib.hid hcd
  have HW := Lib.hid hW1
  have hkk : Hid (∀ w5 : World, Below W1.heap.size W1 w5 → w5.heap[w.heap.size]? = some (.cells z12 70 (0, 0))) := Lib.hid fun w5 hb5 => (hb5.block _ (Array.getElem?_eq_some_iff.1 hA).1).trans hA
  have HB1 := Lib.hid hb1
  unfold rootMay at hm
  simp only [Bool.and_eq_true, decide_eq_true_eq] at hm
  obtain ⟨hL, hmag⟩ := hm
  have i1 : decide ((b.length : Int) < 26) = false := by rw [decide_eq_false_iff_not]; omega
  have hlen : (4 : Int) ≤ (b.length : Int) := by omega
  clear H hok hcap hb1 hA hW1 hb hy hoc hcd
  go_enter Tryz.func40, Tryz.ntmps40
  go_upto_region 1 with fail
  rw [show w.alloc (.cells #[.int .u32 0, .int .i64 0, .int .i64 0, .int .i64 0, .int .i64 0, .int .i64 0, .int .i64 0, .int .i64 0, .int .i64 0, .int .i64 0, .slice none 0 0, .pointer none] 70) = W1 from HW.out]
  go_upto_region 2 with (go_at_call 75; refine RD.mono ?_; rintro e w5 ⟨a5, c5, rfl, hq5⟩)
  obtain ⟨a', c', e1, ⟨hx, hcap5⟩, hrow⟩ := hq5.out.1
  injection e1 with e1 e3 e2
  subst e1 e2
  clear e3
  obtain ⟨g, o, r5, cs5, rfl, hg5, hh5, hc5⟩ := hrow (by omega)
  have HC5 := Lib.hid hc5
  have hcv := conv_txt (w := w5) (g := g) (o := o) (c := c5) (bs := b.take 4) (fun j x hj => HC5.out j x (by rw [List.getElem?_take] at hj; split at hj; exact hj; cases hj)) 4 (by simp; omega)
  have hti : ((txt (b.take 4)).toList == [97, 117, 109, 49]) = true := by
    have := txt_is (l := b.take 4) (m := [97, 117, 109, 49]) (fun x hm => hx x (List.mem_of_mem_take hm)) (by decide)
    rw [decide_eq_true hmag] at this
    exact this
  have HX := Lib.hid hx
  have GE := get_x (hq5.out.1.rv) (at' := 4) (m := 4) (by omega) (by omega) (by omega) (.inr rfl)
  have hnum : num ((b.drop 4).take 4) < 4294967296 := num_two hx 4 4
  clear hc5 hrow hx hmag
  generalize txt (b.take 4) = T4 at hcv hti
  go_upto_region 5 with (go_at_call 76; refine GE.mono ?_; rintro e w6 ⟨rfl, hb6⟩)
  generalize hE : num ((b.drop 4).take 4) = ep at hnum ⊢
  have HE := Lib.hid hE
  clear hE
  have hl26 : (26 : Int) ≤ (b.length : Int) := by omega
  have hwe : IntKind.u32.wrap (ep : Int) = (ep : Int) := by rw [IntKind.wrap_u32]; omega
  obtain ⟨o26, hs26, ho26⟩ := slice26 w6 g o b.length c5 hL hcap5
  have hRV : Hid (RV w6 (.slice (some ⟨g, o26, none⟩) (b.length - 26) (c5 - 26)) (b.drop 26)) := Lib.hid ⟨some ⟨g, o26, none⟩, c5 - 26, by rw [List.length_drop], ⟨fun x hx => HX.out x (List.mem_of_mem_drop hx), by rw [List.length_drop]; omega⟩, fun hp => by
    rw [List.length_drop] at hp
    have := ho26 (by omega)
    subst this
    have hgl := (Array.getElem?_eq_some_iff.1 hh5).1
    refine ⟨g, o + 26, rfl, Nat.lt_of_lt_of_le hgl hb6.size, fun j x hj => ?_⟩
    rw [List.getElem?_drop] at hj
    have := HC5.out (26 + j) x hj
    rw [← Nat.add_assoc] at this
    exact cells_below hb6 _ _ this⟩
  have CL := Lib.hid (clone_x hRV.out (by rw [List.length_drop]; omega))
  have hdl : Hid ((b.drop 26).length = b.length - 26) := Lib.hid List.length_drop
  clear ho26 hcv hti i1 hlen RD
  go_upto_region 7 with (go_at_call 29; refine CL.out.mono ?_; rintro e w7 ⟨⟨v7, rfl, h7⟩, hb7⟩; have H7 := Lib.hid h7; have HB7 := Lib.hid hb7; obtain ⟨a7, c7, hv7⟩ := h7.rv.len; rw [hdl.out] at hv7; subst hv7; clear h7 hb7)
  refine take_last ?_
  intro W8 hW8
  have h8 : W8.heap[w7.heap.size]? = some (.cells (n12 ⟨ep, atB b 0, b.drop 26, fun _ => 0⟩ (.slice a7 (b.length - 26) c7)).toArray 70 (0, 0)) := hW8 ▸ (Go.MapKept.heap_alloc w7 _).1
  have hb8 : Below w7.heap.size w7 W8 := hW8 ▸ Below.alloc (Below.refl _ _) (Nat.le_refl _) _
  have HI0 := Lib.hid (And.intro h8 hb8)
  have H56 := Lib.hid hb6
  have H57 : Hid (Below w5.heap.size w5 w7) := Lib.hid (Below.up hb6 HB7.out)
  have H5R := Lib.hid (And.intro hq5.out.1 hq5.out.2)
  clear hW8 h8 hb8 hs26 CL hq5 hb6 HB7 hRV hwe hl26
  generalize hBk : w7.heap.size = B at HI0 ⊢
  have HBk := Lib.hid hBk
  clear hBk
  go_loopw [45] (fun u wr => ∃ k : Nat, u = .int .i64 (k : Int) ∧ k ≤ 9 ∧ Hid (wr.heap[B]? = some (.cells (n12 ⟨ep, atB b k, b.drop 26, fun _ => 0⟩ (.slice a7 (b.length - 26) c7)).toArray 70 (0, 0)) ∧ Below B w7 wr)) (fun u _ => 9 - (Go.RowKit.intOf u).toNat)
  case atStart => exact ⟨0, rfl, Nat.zero_le _, HI0⟩
  case round =>
    obtain ⟨k, rfl, hk, hI⟩ := hrel
    by_cases e : k < 9
    · have i1 : (k : Int) < 9 := by omega
      have i0 : (0 : Int) ≤ (k : Int) := by omega
      have GE := get_x ((H5R.out.1.rv).keep (Below.up H57.out (HBk.out ▸ hI.out.2))) (at' := 8 + 2 * k) (m := 2) (by omega) (by omega) (by omega) (.inl rfl)
      have hnk := num_two HX.out (8 + 2 * k) 2
      obtain ⟨x, hx⟩ : ∃ x, num ((b.drop (8 + 2 * k)).take 2) = x := ⟨_, rfl⟩
      rw [hx] at GE hnk
      have hn2 : x < 65536 := hnk
      obtain ⟨cB, zB⟩ := n12_cell e hI.out.1
      have HX2 := Lib.hid hx
      have lB := cell_lt' cB
      have hJ := Lib.hid hI.out
      clear hI hx hnk
      have hw1 : IntKind.i64.wrap (x : Int) = (x : Int) := by rw [IntKind.wrap_i64]; omega
      rw [show ((8 + 2 * k : Nat) : Int) = 8 + 2 * (k : Int) by omega] at GE
      have hfin := Lib.hid (fun (w9 : World) (hb9 : Below wr.heap.size wr w9) => show Hid ((w9.setCell ⟨B, 1 + k, none⟩ (.int .i64 (x : Int))).heap[B]? = some (.cells (n12 ⟨ep, atB b (k + 1), b.drop 26, fun _ => 0⟩ (.slice a7 (b.length - 26) c7)).toArray 70 (0, 0)) ∧ Below B w7 (w9.setCell ⟨B, 1 + k, none⟩ (.int .i64 (x : Int)))) from by
        have h9 : w9.heap[B]? = _ := (hb9.block B lB).trans hJ.out.1
        have hs9 := n12_set (x := x) e h9
        have hat : upd (atB b k) k x = atB b (k + 1) := funext fun j => by
          unfold upd atB
          by_cases ej : j = k
          · subst ej; rw [if_pos rfl, if_pos (by omega)]; exact HX2.out.symm
          · rw [if_neg ej]
            by_cases h1 : j < k
            · rw [if_pos h1, if_pos (by omega)]
            · rw [if_neg h1, if_neg (by omega)]
        dsimp only at hs9
        rw [hat] at hs9
        have hb := hJ.out.2.trans (hb9.mono (Nat.le_of_lt lB))
        exact Lib.hid ⟨hs9, ⟨hb.os, hb.tape, hb.output, by simpa [World.setCell] using hb.size, fun j hj => (heap_setCell_other _ _ _ _ (show j ≠ B by omega)).trans (hb.block j hj)⟩⟩)
      go_wp2_with (go_at_call 76; refine GE.mono ?_; rintro e w9 ⟨rfl, hb9⟩; have cB9 := cells_below hb9 _ _ cB; have zB9 := (cell_of_heap (a := ⟨B, 1 + k, none⟩) (hb9.block B lB)).2.trans zB; have lB9 := cell_lt' cB9)
      exact ⟨⟨k + 1, rfl, by omega, hfin.out w9 hb9⟩, measT e⟩
    · have ek : k = 9 := by omega
      subst ek
      have i1 : ¬ ((9 : Nat) : Int) < 9 := by omega
      have hJ := Lib.hid hI.out
      clear hI
      go_upto_region 12 with fail
      have hA9 : wr.heap[w.heap.size]? = some (.cells z12 70 (0, 0)) := by
        have h1 := hkk.out w5 H5R.out.2
        have l1 := (Array.getElem?_eq_some_iff.1 h1).1
        have h2 := (H57.out.block _ l1).trans h1
        have l2 := (Array.getElem?_eq_some_iff.1 h2).1
        exact (hJ.out.2.block _ (by rw [← HBk.out]; exact l2)).trans h2
      have hAB : w.heap.size < B := by
        have h1 := hkk.out w5 H5R.out.2
        have l1 := (Array.getElem?_eq_some_iff.1 h1).1
        rw [← HBk.out]; exact Nat.lt_of_lt_of_le l1 H57.out.size
      obtain ⟨k0, k1, k2, k3, k4, k5, k6, k7, k8, k9, k10, k11, f0, f1, f2, f3, f4, f5, f6, f7, f8, f9, f10, f11⟩ := z12_cells hA9
      have HA9 := Lib.hid hA9
      have HAB := Lib.hid hAB
      have lA := cell_lt' k0
      clear hA9 hAB
      have HS : Hid (∀ W, Below wr.heap.size wr W → W.cell? ⟨B, 0, none⟩ = some (.int .u32 (ep : Int)) ∧ W.cell? ⟨B, 1, none⟩ = some (.int .i64 (atB b 9 0 : Int)) ∧ W.cell? ⟨B, 2, none⟩ = some (.int .i64 (atB b 9 1 : Int)) ∧ W.cell? ⟨B, 3, none⟩ = some (.int .i64 (atB b 9 2 : Int)) ∧ W.cell? ⟨B, 4, none⟩ = some (.int .i64 (atB b 9 3 : Int)) ∧ W.cell? ⟨B, 5, none⟩ = some (.int .i64 (atB b 9 4 : Int)) ∧ W.cell? ⟨B, 6, none⟩ = some (.int .i64 (atB b 9 5 : Int)) ∧ W.cell? ⟨B, 7, none⟩ = some (.int .i64 (atB b 9 6 : Int)) ∧ W.cell? ⟨B, 8, none⟩ = some (.int .i64 (atB b 9 7 : Int)) ∧ W.cell? ⟨B, 9, none⟩ = some (.int .i64 (atB b 9 8 : Int)) ∧ W.cell? ⟨B, 10, none⟩ = some (.slice a7 (b.length - 26) c7) ∧ W.cell? ⟨B, 11, none⟩ = some (.pointer none)) := Lib.hid fun W hW => by
        have hb : W.heap[B]? = _ := (hW.block B (Array.getElem?_eq_some_iff.1 hJ.out.1).1).trans hJ.out.1
        refine ⟨?_, ?_, ?_, ?_, ?_, ?_, ?_, ?_, ?_, ?_, ?_, ?_⟩ <;> simp [World.cell?, hb, n12]
      have HSC : Hid (∀ (W : World) (i : Nat) (u : Value), (W.cell? ⟨B, 0, none⟩ = some (.int .u32 (ep : Int)) ∧ W.cell? ⟨B, 1, none⟩ = some (.int .i64 (atB b 9 0 : Int)) ∧ W.cell? ⟨B, 2, none⟩ = some (.int .i64 (atB b 9 1 : Int)) ∧ W.cell? ⟨B, 3, none⟩ = some (.int .i64 (atB b 9 2 : Int)) ∧ W.cell? ⟨B, 4, none⟩ = some (.int .i64 (atB b 9 3 : Int)) ∧ W.cell? ⟨B, 5, none⟩ = some (.int .i64 (atB b 9 4 : Int)) ∧ W.cell? ⟨B, 6, none⟩ = some (.int .i64 (atB b 9 5 : Int)) ∧ W.cell? ⟨B, 7, none⟩ = some (.int .i64 (atB b 9 6 : Int)) ∧ W.cell? ⟨B, 8, none⟩ = some (.int .i64 (atB b 9 7 : Int)) ∧ W.cell? ⟨B, 9, none⟩ = some (.int .i64 (atB b 9 8 : Int)) ∧ W.cell? ⟨B, 10, none⟩ = some (.slice a7 (b.length - 26) c7) ∧ W.cell? ⟨B, 11, none⟩ = some (.pointer none)) → (W.setCell ⟨w.heap.size, i, none⟩ u).cell? ⟨B, 0, none⟩ = some (.int .u32 (ep : Int)) ∧ (W.setCell ⟨w.heap.size, i, none⟩ u).cell? ⟨B, 1, none⟩ = some (.int .i64 (atB b 9 0 : Int)) ∧ (W.setCell ⟨w.heap.size, i, none⟩ u).cell? ⟨B, 2, none⟩ = some (.int .i64 (atB b 9 1 : Int)) ∧ (W.setCell ⟨w.heap.size, i, none⟩ u).cell? ⟨B, 3, none⟩ = some (.int .i64 (atB b 9 2 : Int)) ∧ (W.setCell ⟨w.heap.size, i, none⟩ u).cell? ⟨B, 4, none⟩ = some (.int .i64 (atB b 9 3 : Int)) ∧ (W.setCell ⟨w.heap.size, i, none⟩ u).cell? ⟨B, 5, none⟩ = some (.int .i64 (atB b 9 4 : Int)) ∧ (W.setCell ⟨w.heap.size, i, none⟩ u).cell? ⟨B, 6, none⟩ = some (.int .i64 (atB b 9 5 : Int)) ∧ (W.setCell ⟨w.heap.size, i, none⟩ u).cell? ⟨B, 7, none⟩ = some (.int .i64 (atB b 9 6 : Int)) ∧ (W.setCell ⟨w.heap.size, i, none⟩ u).cell? ⟨B, 8, none⟩ = some (.int .i64 (atB b 9 7 : Int)) ∧ (W.setCell ⟨w.heap.size, i, none⟩ u).cell? ⟨B, 9, none⟩ = some (.int .i64 (atB b 9 8 : Int)) ∧ (W.setCell ⟨w.heap.size, i, none⟩ u).cell? ⟨B, 10, none⟩ = some (.slice a7 (b.length - 26) c7) ∧ (W.setCell ⟨w.heap.size, i, none⟩ u).cell? ⟨B, 11, none⟩ = some (.pointer none)) := Lib.hid fun W i u h => by
        have hne : ∀ j, (W.setCell ⟨w.heap.size, i, none⟩ u).cell? ⟨B, j, none⟩ = W.cell? ⟨B, j, none⟩ := fun j => World.cell?_setCell_other _ _ _ _ (fun hh => by injection hh with hh; have := HAB.out; omega)
        simp only [hne]
        exact h
      have HSD : Hid (∀ (W : World), (W.cell? ⟨B, 0, none⟩ = some (.int .u32 (ep : Int)) ∧ W.cell? ⟨B, 1, none⟩ = some (.int .i64 (atB b 9 0 : Int)) ∧ W.cell? ⟨B, 2, none⟩ = some (.int .i64 (atB b 9 1 : Int)) ∧ W.cell? ⟨B, 3, none⟩ = some (.int .i64 (atB b 9 2 : Int)) ∧ W.cell? ⟨B, 4, none⟩ = some (.int .i64 (atB b 9 3 : Int)) ∧ W.cell? ⟨B, 5, none⟩ = some (.int .i64 (atB b 9 4 : Int)) ∧ W.cell? ⟨B, 6, none⟩ = some (.int .i64 (atB b 9 5 : Int)) ∧ W.cell? ⟨B, 7, none⟩ = some (.int .i64 (atB b 9 6 : Int)) ∧ W.cell? ⟨B, 8, none⟩ = some (.int .i64 (atB b 9 7 : Int)) ∧ W.cell? ⟨B, 9, none⟩ = some (.int .i64 (atB b 9 8 : Int)) ∧ W.cell? ⟨B, 10, none⟩ = some (.slice a7 (b.length - 26) c7) ∧ W.cell? ⟨B, 11, none⟩ = some (.pointer none)) → W.drew.cell? ⟨B, 0, none⟩ = some (.int .u32 (ep : Int)) ∧ W.drew.cell? ⟨B, 1, none⟩ = some (.int .i64 (atB b 9 0 : Int)) ∧ W.drew.cell? ⟨B, 2, none⟩ = some (.int .i64 (atB b 9 1 : Int)) ∧ W.drew.cell? ⟨B, 3, none⟩ = some (.int .i64 (atB b 9 2 : Int)) ∧ W.drew.cell? ⟨B, 4, none⟩ = some (.int .i64 (atB b 9 3 : Int)) ∧ W.drew.cell? ⟨B, 5, none⟩ = some (.int .i64 (atB b 9 4 : Int)) ∧ W.drew.cell? ⟨B, 6, none⟩ = some (.int .i64 (atB b 9 5 : Int)) ∧ W.drew.cell? ⟨B, 7, none⟩ = some (.int .i64 (atB b 9 6 : Int)) ∧ W.drew.cell? ⟨B, 8, none⟩ = some (.int .i64 (atB b 9 7 : Int)) ∧ W.drew.cell? ⟨B, 9, none⟩ = some (.int .i64 (atB b 9 8 : Int)) ∧ W.drew.cell? ⟨B, 10, none⟩ = some (.slice a7 (b.length - 26) c7) ∧ W.drew.cell? ⟨B, 11, none⟩ = some (.pointer none)) := Lib.hid fun W h => h
      obtain ⟨m0, m1, m2, m3, m4, m5, m6, m7, m8, m9, m10, m11⟩ := HS.out wr (Below.refl _ _)
      obtain ⟨R, hR⟩ : ∃ R : Rt, rootOf b = R := ⟨_, rfl⟩
      have hRR : Hid (R = ⟨ep, atB b 9, b.drop 26, fun _ => 0⟩) := Lib.hid (by
        rw [← hR]
        unfold rootOf
        rw [HE.out]; rfl)
      rw [hR] at HCD
      have hrep : Hid (R.ep = ep) := Lib.hid (by rw [hRR.out])
      have FIN := Lib.hid (fun (W9 : World) (hh : W9.heap = (wr.setCells w.heap.size 0 (n12 R (.slice a7 (b.length - 26) c7))).heap) (ho : W9.os = wr.os ∧ W9.tape = wr.tape ∧ W9.output = wr.output) => show W9.heap[w.heap.size]? = some (.cells (n12 R (.slice a7 (b.length - 26) c7)).toArray 70 (0, 0)) ∧ CandP w oc (.returned (.tuple #[.agg (n12 R (.slice a7 (b.length - 26) c7)).toArray, .bool oc.isSome])) W9 from by
        have h12 := set12 (l := n12 R (.slice a7 (b.length - 26) c7)) HA9.out rfl rfl
        rw [← hh] at h12
        have hbw : Below w.heap.size w wr := Below.up HB1.out (Below.up H5R.out.2 (Below.up H57.out (HBk.out ▸ hJ.out.2)))
        have hmt : R.mt = b.drop 26 := by rw [hRR.out]
        have hbase : w.heap.size ≤ w6.heap.size := by
          have h1 := HB1.out.size
          have h2 := H5R.out.2.size
          have h3 := H56.out.size
          omega
        have h7r : Below w7.heap.size w7 wr := HBk.out ▸ hJ.out.2
        have hRN : RN w.heap.size wr (.slice a7 (b.length - 26) c7) (b.drop 26) := (H7.out.keep h7r).mono hbase
        refine ⟨h12, R, .slice a7 (b.length - 26) c7, rfl, Lib.hid ⟨?_, ?_, fun i => ?_, fun r0 h => ?_, ⟨ho.1.trans hbw.os, ho.2.1.trans hbw.tape, ho.2.2.trans hbw.output, by rw [hh, setCells_size]; exact hbw.size, fun k hk => ?_⟩⟩⟩
        · rw [hmt]
          obtain ⟨a, c, e1, e2, e3⟩ := hRN
          refine ⟨a, c, e1, e2, fun hp => ?_⟩
          obtain ⟨g', o', r', cs', f1, f2, f3, f4⟩ := e3 hp
          have hgl := (Array.getElem?_eq_some_iff.1 f3).1
          have hgA : g' ≠ w.heap.size := fun e => by
            have := HA9.out
            rw [← e, f3] at this
            injection this with this
            injection this with _ this
            cases this
          have hbk : W9.heap[g']? = wr.heap[g']? := by rw [hh]; exact setCells_other _ _ _ _ hgA
          exact ⟨g', o', r', cs', f1, f2, hbk.trans f3, fun j x hj => (cell_of_heap (a := ⟨g', o' + j, none⟩) hbk).1.trans (f4 j x hj)⟩
        · rw [hrep.out]; exact hnum
        · rw [hRR.out]
          show atB b 9 i < 65536
          unfold atB
          split
          · exact num_two HX.out _ 2
          · decide
        · rw [HCD.out] at h
          split at h
          · injection h
          · cases h
        · rw [hh, setCells_other _ _ _ _ (by omega)]; exact hbw.block k hk)
      have hn12 : Hid (n12 R (.slice a7 (b.length - 26) c7) = [.int .u32 (ep : Int), .int .i64 (atB b 9 0 : Int), .int .i64 (atB b 9 1 : Int), .int .i64 (atB b 9 2 : Int), .int .i64 (atB b 9 3 : Int), .int .i64 (atB b 9 4 : Int), .int .i64 (atB b 9 5 : Int), .int .i64 (atB b 9 6 : Int), .int .i64 (atB b 9 7 : Int), .int .i64 (atB b 9 8 : Int), .slice a7 (b.length - 26) c7, .pointer none]) := Lib.hid (by rw [hRR.out]; rfl)
      clear hR
      by_cases hep : 0 < ep
      · have i3 : decide ((0 : Int) < (ep : Int)) = true := by rw [decide_eq_true_iff]; omega
        have hq : Hid ((IntKind.i64.wrap ((ep : Int).tmod 2) == (s : Int)) = oc.isSome) := Lib.hid (by
          have h1 : IntKind.i64.wrap ((ep : Int).tmod 2) = ((ep % 2 : Nat) : Int) := by rw [Int.tmod_eq_emod_of_nonneg (by omega), IntKind.wrap_i64]; omega
          rw [h1, HCD.out, hrep.out]
          by_cases h2 : ep % 2 = s
          · rw [if_pos ⟨hep, h2⟩, h2]; simp
          · rw [if_neg (fun h => h2 h.2)]
            simp only [Option.isSome_none, beq_eq_false_iff_ne, ne_eq]; omega)
        go_region_held3 (fun W => W.cell? ⟨B, 0, none⟩ = some (.int .u32 (ep : Int)) ∧ W.cell? ⟨B, 1, none⟩ = some (.int .i64 (atB b 9 0 : Int)) ∧ W.cell? ⟨B, 2, none⟩ = some (.int .i64 (atB b 9 1 : Int)) ∧ W.cell? ⟨B, 3, none⟩ = some (.int .i64 (atB b 9 2 : Int)) ∧ W.cell? ⟨B, 4, none⟩ = some (.int .i64 (atB b 9 3 : Int)) ∧ W.cell? ⟨B, 5, none⟩ = some (.int .i64 (atB b 9 4 : Int)) ∧ W.cell? ⟨B, 6, none⟩ = some (.int .i64 (atB b 9 5 : Int)) ∧ W.cell? ⟨B, 7, none⟩ = some (.int .i64 (atB b 9 6 : Int)) ∧ W.cell? ⟨B, 8, none⟩ = some (.int .i64 (atB b 9 7 : Int)) ∧ W.cell? ⟨B, 9, none⟩ = some (.int .i64 (atB b 9 8 : Int)) ∧ W.cell? ⟨B, 10, none⟩ = some (.slice a7 (b.length - 26) c7) ∧ W.cell? ⟨B, 11, none⟩ = some (.pointer none))
          (((repeat (first | (with_reducible refine HSC.out _ _ _ ?_) | (with_reducible refine HSD.out _ ?_))); with_reducible refine HS.out _ ?_; (repeat (first | with_reducible exact Below.refl _ _ | with_reducible assumption | with_reducible refine Below.drew ?_ | with_reducible refine Below.allocs ?_ _)); done))
          (fail)
        refine take_last ?_
        intro W9 hW9
        rw [hq.out]
        have hW9' : (wr.setCells w.heap.size 0 [.int .u32 (ep : Int), .int .i64 (atB b 9 0 : Int), .int .i64 (atB b 9 1 : Int), .int .i64 (atB b 9 2 : Int), .int .i64 (atB b 9 3 : Int), .int .i64 (atB b 9 4 : Int), .int .i64 (atB b 9 5 : Int), .int .i64 (atB b 9 6 : Int), .int .i64 (atB b 9 7 : Int), .int .i64 (atB b 9 8 : Int), .slice a7 (b.length - 26) c7, .pointer none]).drew = W9 := hW9
        rw [← hn12.out] at hW9'
        obtain ⟨X, hX⟩ : ∃ X, wr.setCells w.heap.size 0 (n12 R (.slice a7 (b.length - 26) c7)) = X := ⟨_, rfl⟩
        have hos := setCells_os (b := w.heap.size) (n12 R (.slice a7 (b.length - 26) c7)) 0 wr
        rw [hX] at hW9' hos FIN
        obtain ⟨q1, q2⟩ := FIN.out W9 (by rw [← hW9']; rfl) (by rw [← hW9']; exact hos)
        clear hos hX hW9'
        clear hW9 HS HSC HSD k0 k1 k2 k3 k4 k5 k6 k7 k8 k9 k10 k11 f0 f1 f2 f3 f4 f5 f6 f7 f8 f9 f10 f11 m0 m1 m2 m3 m4 m5 m6 m7 m8 m9 m10 m11
        go_wp2_with fail
        refine bodyPost_ret (cand_ret (A := w.heap.size) (l := n12 R (.slice a7 (b.length - 26) c7)) (b := oc.isSome) rfl rfl q1 rfl) rfl ?_
        exact q2
      · have i3 : decide ((0 : Int) < (ep : Int)) = false := by rw [decide_eq_false_iff_not]; omega
        have i4 : ¬ (0 : Int) < (ep : Int) := by omega
        have hq : Hid (false = oc.isSome) := Lib.hid (by rw [HCD.out, hrep.out, if_neg (fun h => hep h.1)]; rfl)
        refine wp_region_held_drew (S := (fun W => W.cell? ⟨B, 0, none⟩ = some (.int .u32 (ep : Int)) ∧ W.cell? ⟨B, 1, none⟩ = some (.int .i64 (atB b 9 0 : Int)) ∧ W.cell? ⟨B, 2, none⟩ = some (.int .i64 (atB b 9 1 : Int)) ∧ W.cell? ⟨B, 3, none⟩ = some (.int .i64 (atB b 9 2 : Int)) ∧ W.cell? ⟨B, 4, none⟩ = some (.int .i64 (atB b 9 3 : Int)) ∧ W.cell? ⟨B, 5, none⟩ = some (.int .i64 (atB b 9 4 : Int)) ∧ W.cell? ⟨B, 6, none⟩ = some (.int .i64 (atB b 9 5 : Int)) ∧ W.cell? ⟨B, 7, none⟩ = some (.int .i64 (atB b 9 6 : Int)) ∧ W.cell? ⟨B, 8, none⟩ = some (.int .i64 (atB b 9 7 : Int)) ∧ W.cell? ⟨B, 9, none⟩ = some (.int .i64 (atB b 9 8 : Int)) ∧ W.cell? ⟨B, 10, none⟩ = some (.slice a7 (b.length - 26) c7) ∧ W.cell? ⟨B, 11, none⟩ = some (.pointer none))) (by kernel_rfl) ?_ (fun hHeld => ?_)
        · ((repeat (first | (with_reducible refine HSC.out _ _ _ ?_) | (with_reducible refine HSD.out _ ?_))); with_reducible refine HS.out _ ?_; (repeat (first | with_reducible exact Below.refl _ _ | with_reducible assumption | with_reducible refine Below.drew ?_ | with_reducible refine Below.allocs ?_ _)); done)
        refine wpAnyH_take (i := 0) (oi := { dst := some 62, op := .load 70 (.tmp 10), type := _, pos := _, after := _, guard := none }) (v := ?vz1) rfl (by kernel_rfl) (by kernel_rfl) (by kernel_rfl) (fun _ _ _ h => h) (Or.inl ⟨by rfl, ?hyz1⟩) (by assumption) ?restz1
        case hyz1 => (intro w hSw; (try dsimp only at hSw); go_simp; try with_reducible rfl)
        try simp only [Act.put, List.setIfInBounds_toArray, List.set_cons_zero, List.set_cons_succ]
        refine wpAnyH_take (i := 1) (oi := { dst := some 63, op := .fieldAddr 70 (.tmp 10) 0, type := _, pos := _, after := _, guard := none }) (v := ?vz2) rfl (by kernel_rfl) (by kernel_rfl) (by kernel_rfl) (fun _ _ _ h => h) (Or.inl ⟨by rfl, ?hyz2⟩) (by assumption) ?restz2
        case hyz2 => (intro w hSw; (try dsimp only at hSw); go_simp; try with_reducible rfl)
        try simp only [Act.put, List.setIfInBounds_toArray, List.set_cons_zero, List.set_cons_succ]
        refine wpAnyH_take (i := 2) (oi := { dst := some 64, op := .load 66 (.tmp 63), type := _, pos := _, after := _, guard := none }) (v := ?vz3) rfl (by kernel_rfl) (by kernel_rfl) (by kernel_rfl) (fun _ _ _ h => h) (Or.inl ⟨by rfl, ?hyz3⟩) (by assumption) ?restz3
        case hyz3 => (intro w hSw; (try dsimp only at hSw); go_simp; try with_reducible rfl)
        try simp only [Act.put, List.setIfInBounds_toArray, List.set_cons_zero, List.set_cons_succ]
        refine wpAnyH_take (i := 3) (oi := { dst := some 65, op := .binOp .gtr 66 (.tmp 64) (.const (.int .u32 0)) 66, type := _, pos := _, after := _, guard := none }) (v := ?vz4) rfl (by kernel_rfl) (by kernel_rfl) (by kernel_rfl) (fun _ _ _ h => h) (Or.inl ⟨by rfl, ?hyz4⟩) (by assumption) ?restz4
        case hyz4 => (intro w hSw; (try dsimp only at hSw); go_simp; try with_reducible rfl)
        try simp only [Act.put, List.setIfInBounds_toArray, List.set_cons_zero, List.set_cons_succ]
        refine wpAnyH_take (i := 4) (oi := { dst := some 66, op := .move (.tmp 65), type := _, pos := _, after := _, guard := none }) (v := ?vz5) rfl (by kernel_rfl) (by kernel_rfl) (by kernel_rfl) (fun _ _ _ h => h) (Or.inl ⟨by rfl, ?hyz5⟩) (by assumption) ?restz5
        case hyz5 => (intro w hSw; (try dsimp only at hSw); go_simp; try with_reducible rfl)
        try simp only [Act.put, List.setIfInBounds_toArray, List.set_cons_zero, List.set_cons_succ]
        refine wpAnyH_take (i := 5) (oi := { dst := some 67, op := .fieldAddr 70 (.tmp 10) 0, type := _, pos := _, after := _, guard := some (4, true) }) (v := undef) rfl (by kernel_rfl) (by kernel_rfl) (by kernel_rfl) (fun _ _ _ h => h) (Or.inr ⟨by first | kernel_rfl | rfl, rfl⟩) (by assumption) ?_
        try simp only [Act.put, List.setIfInBounds_toArray, List.set_cons_zero, List.set_cons_succ]
        refine wpAnyH_take (i := 6) (oi := { dst := some 68, op := .load 66 (.tmp 67), type := _, pos := _, after := _, guard := some (4, true) }) (v := undef) rfl (by kernel_rfl) (by kernel_rfl) (by kernel_rfl) (fun _ _ _ h => h) (Or.inr ⟨by first | kernel_rfl | rfl, rfl⟩) (by assumption) ?_
        try simp only [Act.put, List.setIfInBounds_toArray, List.set_cons_zero, List.set_cons_succ]
        refine wpAnyH_take (i := 7) (oi := { dst := some 69, op := .binOp .rem 66 (.tmp 68) (.const (.int .u32 2)) 66, type := _, pos := _, after := _, guard := some (4, true) }) (v := undef) rfl (by kernel_rfl) (by kernel_rfl) (by kernel_rfl) (fun _ _ _ h => h) (Or.inr ⟨by first | kernel_rfl | rfl, rfl⟩) (by assumption) ?_
        try simp only [Act.put, List.setIfInBounds_toArray, List.set_cons_zero, List.set_cons_succ]
        refine wpAnyH_take (i := 8) (oi := { dst := some 70, op := .convert 66 3 (.tmp 69), type := _, pos := _, after := _, guard := some (4, true) }) (v := undef) rfl (by kernel_rfl) (by kernel_rfl) (by kernel_rfl) (fun _ _ _ h => h) (Or.inr ⟨by first | kernel_rfl | rfl, rfl⟩) (by assumption) ?_
        try simp only [Act.put, List.setIfInBounds_toArray, List.set_cons_zero, List.set_cons_succ]
        refine wpAnyH_take (i := 9) (oi := { dst := some 71, op := .move (.tmp 1), type := _, pos := _, after := _, guard := some (4, true) }) (v := undef) rfl (by kernel_rfl) (by kernel_rfl) (by kernel_rfl) (fun _ _ _ h => h) (Or.inr ⟨by first | kernel_rfl | rfl, rfl⟩) (by assumption) ?_
        try simp only [Act.put, List.setIfInBounds_toArray, List.set_cons_zero, List.set_cons_succ]
        refine wpAnyH_take (i := 10) (oi := { dst := some 72, op := .binOp .eql 3 (.tmp 70) (.tmp 71) 3, type := _, pos := _, after := _, guard := some (4, true) }) (v := undef) rfl (by kernel_rfl) (by kernel_rfl) (by kernel_rfl) (fun _ _ _ h => h) (Or.inr ⟨by first | kernel_rfl | rfl, rfl⟩) (by assumption) ?_
        try simp only [Act.put, List.setIfInBounds_toArray, List.set_cons_zero, List.set_cons_succ]
        refine wpAnyH_take (i := 11) (oi := { dst := some 73, op := .pick (.tmp 66) (.tmp 72) (.const (.bool false)), type := _, pos := _, after := _, guard := none }) (v := ?vz6) rfl (by kernel_rfl) (by kernel_rfl) (by kernel_rfl) (fun _ _ _ h => h) (Or.inl ⟨by rfl, ?hyz6⟩) (by assumption) ?restz6
        case hyz6 => (intro w hSw; (try dsimp only at hSw); go_simp; try with_reducible rfl)
        try simp only [Act.put, List.setIfInBounds_toArray, List.set_cons_zero, List.set_cons_succ]
        refine wpAnyH_ready (rs := [12]) (by kernel_rfl) (by simp) ?_
        refine AllReadyH.cons (o := { dst := none, op := .store 70 (.tmp 4) (.tmp 62), type := _, pos := _, after := _, guard := none }) rfl (fun K hK => ?_) AllReadyH.nil
        go_simp
        refine hK.out _ _ ?_ (fun hHeld => ?_)
        · ((repeat (first | (with_reducible refine HSC.out _ _ _ ?_) | (with_reducible refine HSD.out _ ?_))); with_reducible refine HS.out _ ?_; (repeat (first | with_reducible exact Below.refl _ _ | with_reducible assumption | with_reducible refine Below.drew ?_ | with_reducible refine Below.allocs ?_ _)); done)
        clear hK K
        try simp only [Act.put, List.setIfInBounds_toArray, List.set_cons_zero, List.set_cons_succ]
        refine wpAnyH_take (i := 13) (oi := { dst := some 5, op := .assign (.tmp 73), type := _, pos := _, after := _, guard := none }) (v := ?vz7) rfl (by kernel_rfl) (by kernel_rfl) (by kernel_rfl) (fun _ _ _ h => h) (Or.inl ⟨by rfl, ?hyz7⟩) (by assumption) ?restz7
        case hyz7 => (intro w hSw; (try dsimp only at hSw); go_simp; try with_reducible rfl)
        try simp only [Act.put, List.setIfInBounds_toArray, List.set_cons_zero, List.set_cons_succ]
        refine wpAnyH_done (by kernel_rfl) ?_ _
        refine take_last ?_
        intro W9 hW9
        rw [hq.out]
        have hW9' : (wr.setCells w.heap.size 0 [.int .u32 (ep : Int), .int .i64 (atB b 9 0 : Int), .int .i64 (atB b 9 1 : Int), .int .i64 (atB b 9 2 : Int), .int .i64 (atB b 9 3 : Int), .int .i64 (atB b 9 4 : Int), .int .i64 (atB b 9 5 : Int), .int .i64 (atB b 9 6 : Int), .int .i64 (atB b 9 7 : Int), .int .i64 (atB b 9 8 : Int), .slice a7 (b.length - 26) c7, .pointer none]).drew = W9 := hW9
        rw [← hn12.out] at hW9'
        obtain ⟨X, hX⟩ : ∃ X, wr.setCells w.heap.size 0 (n12 R (.slice a7 (b.length - 26) c7)) = X := ⟨_, rfl⟩
        have hos := setCells_os (b := w.heap.size) (n12 R (.slice a7 (b.length - 26) c7)) 0 wr
        rw [hX] at hW9' hos FIN
        obtain ⟨q1, q2⟩ := FIN.out W9 (by rw [← hW9']; rfl) (by rw [← hW9']; exact hos)
        clear hos hX hW9'
        clear hW9 HS HSC HSD k0 k1 k2 k3 k4 k5 k6 k7 k8 k9 k10 k11 f0 f1 f2 f3 f4 f5 f6 f7 f8 f9 f10 f11 m0 m1 m2 m3 m4 m5 m6 m7 m8 m9 m10 m11
        go_wp2_with fail
        refine bodyPost_ret (cand_ret (A := w.heap.size) (l := n12 R (.slice a7 (b.length - 26) c7)) (b := oc.isSome) rfl rfl q1 rfl) rfl ?_
        exact q2
theorem cand_ok {γ : Gh} {w : World} {db : Nat} {d : Dk} (H : DkV γ w db d) (h0 : γ.lim ≤ w.heap.size) (hok : d.Ok) (hcap : d.P.length < 2000000) (s : Nat) (hs : s < 2) :
    Calls Tryz.prog 40 #[.pointer (some ⟨db, 0, none⟩), .int .i64 (s : Int)] w (CandP w (d.cand s)) := by
  cases hy : (d.rd s 1).2 with
  | false =>
    have e : d.cand s = none := by unfold Dk.cand; rw [if_neg (fun h => by rw [hy] at h; simp at h)]
    rw [e]; exact cand_no H h0 hok hcap s hs (.inl hy)
  | true =>
    cases hm : rootMay (d.rd s 1).1 with
    | false =>
      have e : d.cand s = none := by unfold Dk.cand; rw [if_neg (fun h => by rw [hm] at h; simp at h)]
      rw [e]; exact cand_no H h0 hok hcap s hs (.inr hm)
    | true => exact cand_yes H h0 hok hcap s hs hy hm
end Go.Tb
namespace Go.Tb
open Go Go.RowKit Go.Proofs Go.Maps Go.Sp
def gh0 (n : Nat) : Gh := ⟨n, n, fun _ => none, Nat.le_refl _, fun _ _ h => nomatch h⟩
theorem Tag.new0 {n : Nat} {w : World} {k : Nat} {T : TypeId} {c : Array Value} {r : Nat × Nat} (h : w.heap[k]? = some (.cells c T r)) : Tag (gh0 n) w k T := by
  have e : kindOf w k = some T := by simp [kindOf, h]
  unfold Tag Gh.kind
  rw [e]
  split
  · rename_i h; exact h.symm
  · rfl
theorem zrs_get {n j : Nat} (h : j < n) : (zrs n).toArray[j]? = some (.int .u8 0) := by simp [zrs, h]
theorem NewJ.dk {w w' : World} {n : Nat} {v : Value} {us : List Value} (h : NewJ w w' n v us) (hn : 16 ≤ n ∧ n ≤ 4096) : DkV (gh0 w.heap.size) w' w.heap.size (Dk.new n) := by
  have hl := h.len
  rcases h.own.2 with ⟨_, h0⟩ | ⟨g, cap, cur, rfl, hg, hh, hcap, hm, hsz, hta⟩
  · omega
  have hown := h.own
  have hgl := (Array.getElem?_eq_some_iff.1 hh).1
  refine { tg := Tag.new0 h.bk, Bd := Nat.le_refl _, hN := hn.2, ha := (by decide : (0 : Nat) ≤ 9223372036854775807), dz := fun o _ => by simp [World.frozen?, h.bk], d0 := ⟨g, 0, cap, by simp [World.cell?, h.bk, dk5]; rfl, Tag.new0 hh, Nat.le_trans (Nat.le_succ _) hg, hgl, fun s _ => by rw [Nat.zero_add]; exact hown.frozenAt s, fun s hs => ?_⟩, d1 := ⟨.slice none 0 0, [], by simp [World.cell?, h.bk, dk5], rfl, World.ownsRow_nil _ _ _ _, fun i p u hp => by simp [Dk.new] at hp⟩, d2 := by simp [World.cell?, h.bk, dk5, Dk.new], d3 := by simp [World.cell?, h.bk, dk5, Dk.new], d4 := ⟨0, by simp [World.cell?, h.bk, dk5], fun _ => rfl⟩ }
  have hs' : s < us.length := by rw [hl]; exact hs
  have hc := hown.cellAt s (by rw [Nat.mul_one]; exact hs)
  rw [List.getElem?_eq_getElem hs'] at hc
  obtain ⟨g', e1, e2, e3⟩ := h.rows _ (List.getElem_mem hs')
  refine ⟨_, by rw [Nat.zero_add]; exact hc, some ⟨g', 0, none⟩, 256, ?_, ⟨fun x hx => ?_, ?_⟩, fun _ => ⟨g', 0, rfl, (Array.getElem?_eq_some_iff.1 e3).1, Tag.new0 e3, fun j x hj => ?_⟩⟩
  · rw [e1]; simp [Dk.new]
  · have := (List.mem_replicate.1 hx).2; omega
  · simp [Dk.new]
  · have hj' := List.getElem?_eq_some_iff.1 hj
    obtain ⟨hj1, hj2⟩ := hj'
    have hj3 : j < 256 := by simpa [Dk.new] using hj1
    have hx0 : x = 0 := (List.mem_replicate.1 (show x ∈ List.replicate 256 0 from List.mem_of_getElem? hj)).2
    subst hx0
    unfold World.cell?
    simp only [e3]
    rw [Nat.zero_add]
    exact zrs_get hj3
def fm (N : Nat) : Nat → Dk
  | 0 => Dk.new N
  | 1 => ⟨N, setS (fun _ => zero256) (0, zero256), [], false, 0, 2⟩
  | _ => fmtDk N
def fmB : Nat → Bs
  | 0 => []
  | _ => root1
theorem lay_al (d : Dk) (s : Nat) (b : Bs) (hd : d.dead = false) (ha : d.ar = 0) (hP : d.P = []) :
    (d.push s b).tick.pw = 0 ∧ (d.push s b).tick.barrier = (0, { d with S := setS d.S (s, pad 256 b), st := d.st + 2 }) := by
  cases d with
  | mk N S P dead ar st =>
  simp only at hd ha hP
  subst hd; subst ha; subst hP
  simp [Dk.push, Dk.tick, Dk.pw, Dk.barrier, Dk.flat]
theorem fm_next (N k : Nat) (hk : k < 2) : ((fm N k).push k (fmB k)).tick.pw = 0 ∧ ((fm N k).push k (fmB k)).tick.barrier = (0, fm N (k + 1)) ∧ (fm N k).dead = false ∧ (fm N k).N = N ∧ (fm N k).P = [] := by
  have h2 : k = 0 ∨ k = 1 := by omega
  rcases h2 with rfl | rfl
  · obtain ⟨h1, h2⟩ := lay_al (fm N 0) 0 (fmB 0) rfl rfl rfl
    refine ⟨h1, h2.trans ?_, rfl, rfl, rfl⟩
    rw [show pad 256 (fmB 0) = zero256 from zero256_eq]
    rfl
  · obtain ⟨h1, h2⟩ := lay_al (fm N 1) 1 (fmB 1) rfl rfl rfl
    refine ⟨h1, h2.trans ?_, rfl, rfl, rfl⟩
    rw [show pad 256 (fmB 1) = root1 from root1_pad]
    rfl
def Gh.and0 (γ : Gh) (g : Nat) (h : γ.lim ≤ g) : Gh := ⟨γ.B, g + 1, fun k => if k = g then some 0 else γ.told k, Nat.le_trans γ.hB (Nat.le_trans h (Nat.le_succ _)), fun k T hk => by
  split at hk
  · omega
  · have := γ.ht k T hk; omega⟩
theorem Gh.and0_le (γ : Gh) {w : World} (h : γ.lim ≤ w.heap.size) : Gh.Le w γ (γ.and0 w.heap.size h) := ⟨rfl, fun k hk => if_neg (by omega)⟩
theorem fmt_ok {γ : Gh} {w : World} {db N : Nat} (H : DkV γ w db (Dk.new N)) (h0 : γ.lim ≤ w.heap.size) (hN : 16 ≤ N) :
    Calls Tryz.prog 20 #[.pointer (some ⟨db, 0, none⟩)] w fun e w' => e = .returned (.int .i64 0) ∧ ∃ γ' : Gh, γ'.B = γ.B ∧ γ'.lim ≤ w'.heap.size ∧ DkV γ' w' db (fmtDk N) ∧ Below γ.B w w' := by
  obtain ⟨W1, hW1⟩ : ∃ W1, w.alloc (.cells #[.int .u32 1, .int .i64 0, .int .i64 0, .int .i64 0, .int .i64 0, .int .i64 0, .int .i64 0, .int .i64 0, .int .i64 0, .int .i64 0, .slice none 0 0, .pointer none] 70) = W1 := ⟨_, rfl⟩
  have hb1 : Below w.heap.size w W1 := hW1 ▸ Below.alloc (Below.refl _ _) (Nat.le_refl _) _
  have hA : W1.heap[w.heap.size]? = _ := hW1 ▸ (Go.MapKept.heap_alloc w _).1
  have BO := body_ok (w := W1) (b := w.heap.size) (r := root0) (v := .slice none 0 0) (by simp [World.cell?, hA, root0]) (by decide) (fun i hi => by
    have h9 : i = 0 ∨ i = 1 ∨ i = 2 ∨ i = 3 ∨ i = 4 ∨ i = 5 ∨ i = 6 ∨ i = 7 ∨ i = 8 := by omega
    rcases h9 with rfl | rfl | rfl | rfl | rfl | rfl | rfl | rfl | rfl <;> simp [World.cell?, hA, root0]) (by simp [World.cell?, hA]) (RV.nil _ _ _) (by decide)
  have SE := Lib.hid (fun (W : World) (v : Value) (h : RV W v (bodyR root0)) => seal_x h (k := 1) (by decide) (by decide))
  rw [show sealed 1 (bodyR root0) = root1 from rfl] at SE
  have HW := Lib.hid hW1
  have HB1 := Lib.hid hb1
  have HH := Lib.hid H
  have hl := H.lt
  clear hW1 hb1 hA H
  generalize bodyR root0 = BB at BO SE
  go_enter Tryz.func20, Tryz.ntmps20
  go_wp2_with (first
    | (go_at_call 34; rw [HW.out]; refine BO.mono ?_; rintro e w2 ⟨v2, rfl, h2, hb2⟩; have H2 := Lib.hid h2; have HB2 := Lib.hid hb2; obtain ⟨a2, c2, hv2⟩ := h2.rv.len; subst hv2; clear h2 hb2)
    | (go_at_call 33; refine (SE.out _ _ H2.out.rv).mono ?_; rintro e w3 ⟨⟨v3, rfl, h3⟩, hb3⟩; have H3 := Lib.hid h3; have HB3 := Lib.hid hb3; obtain ⟨a3, c3, hv3⟩ := h3.rv.len; subst hv3; clear h3 hb3))
  refine take_last ?_
  intro w4 hw4
  have hb4 : Below w3.heap.size w3 w4 := hw4 ▸ Below.alloc (Below.refl _ _) (Nat.le_refl _) _
  have hk4 : w4.heap[w3.heap.size]? = some (.cells #[.slice none 0 0, .slice a3 root1.length c3] 33 (0, 0)) := hw4 ▸ (Go.MapKept.heap_alloc w3 _).1
  clear hw4
  have h03 : γ.lim ≤ w3.heap.size := Nat.le_trans h0 (Nat.le_trans HB1.out.size (Nat.le_trans HB2.out.size HB3.out.size))
  obtain ⟨γ', hγ⟩ : ∃ γ', γ.and0 w3.heap.size h03 = γ' := ⟨_, rfl⟩
  have hle : Gh.Le w3 γ γ' := hγ ▸ Gh.and0_le γ h03
  have hBB : γ'.B = γ.B := by rw [← hγ]; rfl
  have hlim : γ'.lim = w3.heap.size + 1 := by rw [← hγ]; rfl
  have htold : γ'.told w3.heap.size = some 0 := by rw [← hγ]; exact if_pos rfl
  have hb03 : Below w.heap.size w w3 := Below.up HB1.out (Below.up HB2.out HB3.out)
  have hs4 : Step γ' (fun _ => false) w3 w4 := Step.belowB hb4 (by rw [hBB]; exact Nat.le_trans γ.hB h03)
  have hd4 : DkV γ' w4 db (fm N 0) := ((HH.out.keep (Step.below (S := fun _ => false) hb03 h0) ⟨rfl, rfl, rfl, rfl⟩).more hle).keep hs4 ⟨rfl, rfl, rfl, rfl⟩
  have hv4 : RB γ' w4 (.slice a3 root1.length c3) root1 := ((H3.out.rb (Nat.le_trans h0 (Nat.le_trans HB1.out.size HB2.out.size))).more hle).keep hs4 rfl
  have hg4 : Tag γ' w4 w3.heap.size 0 := Tag.told htold (by simp [kindOf, hk4])
  have hbw4 : Below γ.B w w4 := (Below.up hb03 hb4).mono (Nat.le_trans γ.hB h0)
  have lg4 := (Array.getElem?_eq_some_iff.1 hk4).1
  have HI0 : Hid (DkV γ' w4 db (fm N 0) ∧ w4.heap[w3.heap.size]? = some (.cells #[.slice none 0 0, .slice a3 root1.length c3] 33 (0, 0)) ∧ Tag γ' w4 w3.heap.size 0 ∧ RB γ' w4 (.slice a3 root1.length c3) root1 ∧ γ'.lim ≤ w4.heap.size ∧ Below γ.B w w4) := Lib.hid ⟨hd4, hk4, hg4, hv4, by rw [hlim]; exact lg4, hbw4⟩
  have hrl : Hid (root1.length = 256) := Lib.hid root1_len
  have HBBB := Lib.hid hBB
  clear hγ hle hlim htold hb03 hs4 hd4 hv4 hg4 hbw4 hk4 hb4 lg4 h03 hBB
  generalize root1.length = n1 at *
  go_loopw [21] (fun u wr => ∃ k : Nat, u = .int .i64 (k : Int) ∧ k ≤ 2 ∧ Hid (DkV γ' wr db (fm N k) ∧ wr.heap[w3.heap.size]? = some (.cells #[.slice none 0 0, .slice a3 n1 c3] 33 (0, 0)) ∧ Tag γ' wr w3.heap.size 0 ∧ RB γ' wr (.slice a3 n1 c3) root1 ∧ γ'.lim ≤ wr.heap.size ∧ Below γ.B w wr)) (fun u _ => 2 - (Go.RowKit.intOf u).toNat)
  case atStart => exact ⟨0, rfl, Nat.zero_le _, HI0⟩
  case round =>
    obtain ⟨k, rfl, hk, hI⟩ := hrel
    obtain ⟨hd, hkk, hg, hv, h0r, hbw⟩ := hI.out
    by_cases e : k < 2
    · have i1 : (k : Int) < 2 := by omega
      have i0 : (0 : Int) ≤ (k : Int) := by omega
      obtain ⟨u, hu, hra⟩ : ∃ u, wr.cell? ⟨w3.heap.size, k, none⟩ = some u ∧ RA γ' wr u (fmB k) := by
        have h2 : k = 0 ∨ k = 1 := by omega
        rcases h2 with rfl | rfl
        · exact ⟨.slice none 0 0, by simp [World.cell?, hkk], RA.nil _ _ _ _⟩
        · exact ⟨.slice a3 n1 c3, by simp [World.cell?, hkk], hv.ra⟩
      obtain ⟨f1, f2, f3, f4, f5⟩ := fm_next N k e
      have hbl : (fmB k).length ≤ 256 := by
        have h2 : k = 0 ∨ k = 1 := by omega
        rcases h2 with rfl | rfl
        · decide
        · show root1.length ≤ 256; rw [root1_len]; decide
      have DW := dwrite_ok hd f3 h0r (s := k) (by rw [f4]; omega) hra hbl (by rw [f5]; decide)
      rw [f1] at DW
      have BR := Lib.hid (fun (W : World) (h : DkV γ' W db ((fm N k).push k (fmB k)).tick) (hl : γ'.lim ≤ W.heap.size) => barrier_ok h hl (by show ((fm N k).P ++ [(k, pad 256 (fmB k))]).length < _; rw [f5]; simp))
      rw [f2] at BR
      have lgr := (Array.getElem?_eq_some_iff.1 hkk).1
      have hfin := Lib.hid (fun (W : World) (h : DkV γ' W db (fm N (k + 1))) (hs : Step γ' dkS wr W) => show Hid (DkV γ' W db (fm N (k + 1)) ∧ W.heap[w3.heap.size]? = some (.cells #[.slice none 0 0, .slice a3 n1 c3] 33 (0, 0)) ∧ Tag γ' W w3.heap.size 0 ∧ RB γ' W (.slice a3 n1 c3) root1 ∧ γ'.lim ≤ W.heap.size ∧ Below γ.B w W) from
        Lib.hid ⟨h, (hs.heap hg rfl lgr).trans hkk, hs.tg _ _ (by decide) lgr hg, hv.keep hs rfl, Nat.le_trans h0r hs.size, hbw.trans (HBBB.out ▸ hs.be)⟩)
      obtain ⟨au, cu, hsu⟩ := hra.rv.len
      subst hsu
      clear hI hd hkk hg hv hbw f1 f2 f3 f4 f5 hra hbl
      go_wp2_with (first
        | (go_at_call 35; refine DW.mono ?_; rintro e w5 ⟨rfl, h5, s5⟩; have H5 := Lib.hid h5; have S5 := Lib.hid s5; clear h5 s5)
        | (go_at_call 36; refine (BR.out _ H5.out (Nat.le_trans h0r S5.out.size)).mono ?_; rintro e w6 ⟨rfl, h6, s6⟩; have H6 := Lib.hid h6; have S6 := Lib.hid s6; clear h6 s6))
      exact ⟨⟨k + 1, rfl, by omega, hfin.out w6 H6.out (S5.out.trans S6.out)⟩, measT e⟩
    · have ek : k = 2 := by omega
      subst ek
      have i1 : ¬ ((2 : Nat) : Int) < 2 := by omega
      have HF := Lib.hid (show DkV γ' wr db (fmtDk N) ∧ γ'.lim ≤ wr.heap.size ∧ Below γ.B w wr from ⟨hd, h0r, hbw⟩)
      clear hI hd hkk hg hv h0r hbw
      go_wp2_with fail
      go_ret
      exact ⟨rfl, γ', HBBB.out, HF.out.2.1, HF.out.1, HF.out.2.2⟩
end Go.Tb
namespace Go.Tb
open Go Go.RowKit Go.Proofs Go.Maps Go.Sp
def wordsV (ws : List Nat) : Array Value := (ws.map fun (x : Nat) => Value.int .u64 (x : Int)).toArray
structure BitsV (W : World) (bb wb N : Nat) (ws : List Nat) : Prop where
  c0 : W.cell? ⟨bb, 0, none⟩ = some (.int .i64 (N : Int))
  c1 : W.cell? ⟨bb, 1, none⟩ = some (.slice (some ⟨wb, 0, none⟩) ws.length ws.length)
  wd : W.heap[wb]? = some (.cells (wordsV ws) 101 (0, 0))
  lt : ∀ x ∈ ws, x < 18446744073709551616
  len : ws.length = (N + 63) / 64
  ne : bb ≠ wb
theorem BitsV.word {W : World} {bb wb N : Nat} {ws : List Nat} (h : BitsV W bb wb N ws) {j x : Nat} (hj : ws[j]? = some x) : W.cell? ⟨wb, j, none⟩ = some (.int .u64 (x : Int)) ∧ W.frozen? ⟨wb, j, none⟩ = false := by
  simp [World.cell?, World.frozen?, h.wd, wordsV, hj]
theorem BitsV.set {W : World} {bb wb N : Nat} {ws : List Nat} (h : BitsV W bb wb N ws) {j x y : Nat} (hj : ws[j]? = some x) (hy : y < 18446744073709551616) : BitsV (W.setCell ⟨wb, j, none⟩ (.int .u64 (y : Int))) bb wb N (ws.set j y) := by
  have hn : ∀ o, (W.setCell ⟨wb, j, none⟩ (.int .u64 (y : Int))).cell? ⟨bb, o, none⟩ = W.cell? ⟨bb, o, none⟩ := fun o => World.cell?_setCell_other _ _ _ _ (fun hh => by injection hh with hh; exact h.ne hh.symm)
  refine ⟨(hn 0).trans h.c0, (hn 1).trans (by rw [List.length_set]; exact h.c1), ?_, fun z hz => ?_, by rw [List.length_set]; exact h.len, h.ne⟩
  · unfold World.setCell
    simp only [Array.getElem?_modify]
    rw [h.wd]
    simp [wordsV]
  · rcases List.mem_or_eq_of_mem_set hz with h1 | h1
    · exact h.lt z h1
    · rw [h1]; exact hy
theorem or_lt {x k : Nat} (hx : x < 18446744073709551616) (hk : k < 64) : x ||| 2 ^ k < 18446744073709551616 := Nat.or_lt_two_pow (n := 64) hx (Nat.pow_lt_pow_right (by decide) hk)
theorem or_ne {x k : Nat} : decide (x ≠ x ||| 2 ^ k) = !x.testBit k := by
  have h2 : ∀ j, (2 ^ k).testBit j = decide (k = j) := fun j => by
    rw [Nat.testBit_two_pow]
  by_cases h : x.testBit k = true
  · rw [h]
    have : x = x ||| 2 ^ k := by
      apply Nat.eq_of_testBit_eq
      intro j
      rw [Nat.testBit_or, h2]
      by_cases e : k = j
      · subst e; rw [h]; rfl
      · simp [e]
    simp [← this]
  · have hf : x.testBit k = false := by simpa using h
    rw [hf]
    rw [decide_eq_true]
    · rfl
    · intro e
      have := congrArg (fun y : Nat => y.testBit k) e
      simp only [Nat.testBit_or, h2, hf] at this
      simp at this
theorem set190 {W : World} {wb j x bit : Nat} (hx : W.cell? ⟨wb, j, none⟩ = some (.int .u64 (x : Int))) (hz : W.frozen? ⟨wb, j, none⟩ = false) (h1 : x < 18446744073709551616) (h2 : bit < 18446744073709551616) :
    Calls Tryz.prog 106 #[.pointer (some ⟨wb, j, none⟩), .int .u64 (bit : Int)] W fun e w' => e = .returned (.bool (decide (x ≠ x ||| bit))) ∧ w' = W.setCell ⟨wb, j, none⟩ (.int .u64 ((x ||| bit : Nat) : Int)) := by
  have hl := cell_lt' hx
  have hor : bits .or .u64 (x : Int) (bit : Int) = ((x ||| bit : Nat) : Int) := u64_or_nat x bit h1 h2
  have hne : ((x : Int) != ((x ||| bit : Nat) : Int)) = decide (x ≠ x ||| bit) := by
    by_cases e : x = x ||| bit
    · rw [← e]; simp
    · rw [decide_eq_true e, bne_iff_ne]; omega
  clear h1 h2
  go_enter Tryz.func106, Tryz.ntmps106
  go_wp2_with fail
  go_ret
  exact ⟨by simp, rfl⟩
theorem i180 : (Tryz.prog.info? 101).map (fun i => (i.size, i.bytes, i.zero)) = some (1, 8, some (.int .u64 0)) := by kernel_rfl
theorem mk228 {m : Nat} (hm : m ≤ 4096) (w : World) : (Instr.makeSlice 168 (.int .i64 (m : Int)) (.int .i64 (m : Int))).run Tryz.prog w = .ok (.slice (some ⟨w.heap.size, 0, none⟩) m m) (w.alloc (.cells (wordsV (List.replicate m 0)) 101)) := by
  obtain ⟨i, hi, hi2⟩ := Option.map_eq_some_iff.1 i180
  injection hi2 with h1 h2
  injection h2 with h2 h3
  have := run_makeSlice (P := Tryz.prog) w 168 101 i _ Tryz.underlying168 hi h3 .i64 .i64 (m : Int) (m : Int) (by omega) (by omega) (by rw [h1]; simp [maxLen]; omega) (by rw [h2]; simp [maxLen]; omega) (by omega)
  rw [this, h1]
  have e1 : madeCells (Value.int IntKind.u64 0).cells (((m : Nat) : Int).toNat * 1) = wordsV (List.replicate m 0) := by
    rw [Int.toNat_natCast]
    simp [madeCells, wordsV, Value.cells]
    apply Array.ext
    · simp
    · intro i h1 h2; simp [Nat.mod_one]
  rw [e1, Int.toNat_natCast]
theorem bnew_ok {w : World} (N : Nat) (hN : N ≤ 4096) (hN1 : 1 ≤ N) :
    Calls Tryz.prog 77 #[.int .i64 (N : Int)] w fun e w' => ∃ bb wb, e = .returned (.tuple #[.pointer (some ⟨bb, 0, none⟩), .int .i64 0]) ∧ Hid (BitsV w' bb wb N (List.replicate ((N + 63) / 64) 0) ∧ w.heap.size ≤ bb ∧ w.heap.size ≤ wb ∧ Below w.heap.size w w') := by
  have i1 : decide ((65536 : Int) < (N : Int)) = false := by rw [decide_eq_false_iff_not]; omega
  obtain ⟨m, hm⟩ : ∃ m, (N + 63) / 64 = m := ⟨_, rfl⟩
  have MK := mk228 (m := m) (by omega) w
  have hmi : ((N : Int) + 64 - 1) / 64 = (m : Int) := by omega
  have HM := Lib.hid hm
  clear hm
  go_enter Tryz.func77, Tryz.ntmps77
  go_wp2_with fail
  refine take_last ?_
  intro W hW
  have hb1 : Below w.heap.size w (w.alloc (.cells (wordsV (List.replicate m 0)) 101)) := Below.allocs (Below.refl _ _) _
  have hb2 : Below w.heap.size w W := hW ▸ Below.allocs hb1 _
  have hk1 : W.heap[w.heap.size]? = some (.cells (wordsV (List.replicate m 0)) 101 (0, 0)) := by
    rw [← hW]
    exact (Below.heap_alloc _ _ _ (by simp)).trans (Go.MapKept.heap_alloc w _).1
  have hk2 : W.heap[w.heap.size + 1]? = some (.cells #[.int .i64 (N : Int), .slice (some ⟨w.heap.size, 0, none⟩) m m] 170 (0, 0)) := by
    rw [← hW]
    have := (Go.MapKept.heap_alloc (w.alloc (.cells (wordsV (List.replicate m 0)) 101)) (.cells #[.int .i64 (N : Int), .slice (some ⟨w.heap.size, 0, none⟩) m m] 170)).1
    rwa [show (w.alloc (.cells (wordsV (List.replicate m 0)) 101)).heap.size = w.heap.size + 1 by simp] at this
  clear hW hb1
  go_ret2
  rw [HM.out]
  refine ⟨w.heap.size + 1, w.heap.size, rfl, Lib.hid ⟨⟨by simp [World.cell?, hk2], by simp [World.cell?, hk2], hk1, fun x hx => by rw [(List.mem_replicate.1 hx).2]; decide, by rw [List.length_replicate, ← HM.out], by omega⟩, by omega, Nat.le_refl _, hb2⟩⟩
def hasB (ws : List Nat) (i : Nat) : Bool := (ws.getD (i / 64) 0).testBit (i % 64)
def setB (ws : List Nat) (i : Nat) : List Nat := ws.set (i / 64) (ws.getD (i / 64) 0 ||| 2 ^ (i % 64))
theorem hasB_set {ws : List Nat} {i j : Nat} (hi : i / 64 < ws.length) : hasB (setB ws i) j = (decide (j = i) || hasB ws j) := by
  unfold hasB setB
  by_cases e : j / 64 = i / 64
  · have h1 : (ws.set (i / 64) (ws.getD (i / 64) 0 ||| 2 ^ (i % 64))).getD (j / 64) 0 = ws.getD (i / 64) 0 ||| 2 ^ (i % 64) := by
      rw [e]
      simp [List.getD_eq_getElem?_getD, hi]
    rw [h1, Nat.testBit_or, Nat.testBit_two_pow, e]
    by_cases e2 : j = i
    · subst e2; simp
    · have : ¬ i % 64 = j % 64 := by omega
      simp [e2, this]
  · have h1 : (ws.set (i / 64) (ws.getD (i / 64) 0 ||| 2 ^ (i % 64))).getD (j / 64) 0 = ws.getD (j / 64) 0 := by
      simp only [List.getD_eq_getElem?_getD]
      rw [List.getElem?_set_ne (by omega)]
    have e2 : ¬ j = i := fun h => e (by rw [h])
    rw [h1]
    simp [e2]
def SeenV (W : World) (bb wb N : Nat) (seen : List Nat) : Prop := ∃ ws, BitsV W bb wb N ws ∧ ∀ j, j < N → hasB ws j = seen.contains j
theorem size218 {W : World} {bb N : Nat} (h : W.cell? ⟨bb, 0, none⟩ = some (.int .i64 (N : Int))) : Calls Tryz.prog 124 #[.pointer (some ⟨bb, 0, none⟩)] W fun e w' => e = .returned (.int .i64 (N : Int)) ∧ w' = W := by
  have hl := cell_lt' h
  go_enter Tryz.func124, Tryz.ntmps124
  go_wp2_with fail
  go_ret
  exact ⟨rfl, rfl⟩
theorem at189 {W : World} {bb wb N i : Nat} {ws : List Nat} (h : BitsV W bb wb N ws) (hi : i < N) (hN : N ≤ 4096) :
    Calls Tryz.prog 105 #[.pointer (some ⟨bb, 0, none⟩), .int .i64 (i : Int), .func (.func 106) #[] #[]] W fun e w' => e = .returned (.bool (!hasB ws i)) ∧ ∃ W0, W0 = W.drew ∧ w' = W0.setCell ⟨wb, i / 64, none⟩ (.int .u64 ((ws.getD (i / 64) 0 ||| 2 ^ (i % 64) : Nat) : Int)) := by
  have c0 := h.c0
  have c1 := h.c1
  have hl := cell_lt' c0
  have hj : i / 64 < ws.length := by rw [h.len]; omega
  obtain ⟨x, hx⟩ : ∃ x, ws[i / 64]? = some x := ⟨_, List.getElem?_eq_getElem hj⟩
  have i1 : decide ((N : Int) ≤ (i : Int)) = false := by rw [decide_eq_false_iff_not]; omega
  have S1 := Lib.hid (fun (W' : World) (hW : Below W.heap.size W W') => set190 (W := W') (wb := wb) (j := i / 64) (x := x) (bit := 2 ^ (i % 64)) (cells_below hW _ _ (h.word hx).1) ((cell_of_heap (a := ⟨wb, i / 64, none⟩) (hW.block wb (cell_lt' (h.word hx).1))).2.trans (h.word hx).2) (h.lt x (List.mem_of_getElem? hx)) (show 2 ^ (i % 64) < 2 ^ 64 from Nat.pow_lt_pow_right (by decide) (Nat.mod_lt i (by decide))))
  have HL := h.len
  have SZ := size218 c0
  have HNE := Lib.hid h.ne
  obtain ⟨D, hD⟩ : ∃ D, hasB ws i = D := ⟨_, rfl⟩
  obtain ⟨Y, hY⟩ : ∃ Y, ws.getD (i / 64) 0 ||| 2 ^ (i % 64) = Y := ⟨_, rfl⟩
  have hgd : ws.getD (i / 64) 0 = x := by rw [List.getD_eq_getElem?_getD, hx]; rfl
  have HDY := Lib.hid (show decide (x = x ||| 2 ^ (i % 64)) = D ∧ x ||| 2 ^ (i % 64) = Y from ⟨by have h1 := @or_ne x (i % 64); rw [show x.testBit (i % 64) = D by rw [← hD]; unfold hasB; rw [hgd]] at h1; cases D <;> simpa using h1, by rw [← hY, hgd]⟩)
  rw [hD, hY]
  obtain ⟨m, hm⟩ : ∃ m, ws.length = m := ⟨_, rfl⟩
  rw [hm] at c1 hj HL
  have hjm : i / 64 < m := hj
  have hm64 : Hid (m = (N + 63) / 64) := Lib.hid HL
  clear h hx hD hY hgd hm HL hj
  go_enter Tryz.func105, Tryz.ntmps105
  go_upto_region 3 with (go_at_call 124; refine SZ.mono ?_; rintro e w5 ⟨rfl, rfl⟩)
  have HS : Hid (∀ W, Below w5.heap.size w5 W → W.cell? ⟨bb, 1, none⟩ = some (.slice (some ⟨wb, 0, none⟩) m m)) := Lib.hid fun W hW => cells_below hW _ _ c1
  obtain ⟨q, hq⟩ : ∃ q, i / 64 = q := ⟨_, rfl⟩
  obtain ⟨r, hr⟩ : ∃ r, i % 64 = r := ⟨_, rfl⟩
  have e1 : (i : Int) / 64 = (q : Int) := by omega
  have e2 : (i : Int).tdiv 64 = (q : Int) := by rw [Int.tdiv_eq_ediv_of_nonneg (by omega)]; omega
  have e3 : (i : Int) % 64 = (r : Int) := by omega
  have e4 : (i : Int).tmod 64 = (r : Int) := by rw [Int.tmod_eq_emod_of_nonneg (by omega)]; omega
  have e5 : IntKind.i64.wrap (q : Int) = (q : Int) := by rw [IntKind.wrap_i64]; omega
  have e6 : IntKind.i64.wrap (r : Int) = (r : Int) := by rw [IntKind.wrap_i64]; omega
  have q1 : (0 : Int) ≤ (q : Int) := by omega
  have q2 : (q : Int) < (m : Int) := by omega
  have r1 : (0 : Int) ≤ (r : Int) := by omega
  have r2 : (r : Int) < 64 := by omega
  rw [hq, hr] at S1
  rw [hr] at HDY
  have hrr : r < 64 := by omega
  have e7 : Hid (IntKind.u64.wrap ((2 : Int) ^ r) = ((2 ^ r : Nat) : Int)) := Lib.hid (by
    have h1 : (2 : Nat) ^ r < 2 ^ 64 := Nat.pow_lt_pow_right (by decide) hrr
    have h2 : ((2 ^ r : Nat) : Int) = (2 : Int) ^ r := by simp
    rw [IntKind.wrap_u64, ← h2]
    obtain ⟨p, hp⟩ : ∃ p : Nat, 2 ^ r = p := ⟨_, rfl⟩
    rw [hp] at h1 ⊢
    omega)
  have HQ := Lib.hid hq
  have HC6 : Hid (∀ u, (w5.setCell ⟨wb, q, none⟩ u).drew.cell? ⟨bb, 1, none⟩ = some (.slice (some ⟨wb, 0, none⟩) m m)) := Lib.hid fun u => (World.cell?_setCell_other _ _ _ _ (fun hh => by injection hh with hh; exact HNE.out hh.symm)).trans c1
  clear hq hr hrr hjm
  go_region_held3 (fun W => W.cell? ⟨bb, 1, none⟩ = some (.slice (some ⟨wb, 0, none⟩) m m))
    ((first | (with_reducible refine HS.out _ ?_; (repeat (first | with_reducible exact Below.refl _ _ | with_reducible assumption | with_reducible refine Below.drew ?_ | with_reducible refine Below.allocs ?_ _)); done) | (with_reducible exact HC6.out _)))
    ((go_at_call 106; rw [e7.out]; refine (S1.out _ ?_).mono ?_; (repeat (first | with_reducible exact Below.refl _ _ | with_reducible assumption | with_reducible refine Below.drew ?_ | with_reducible refine Below.allocs ?_ _)); rintro e w6 ⟨rfl, rfl⟩))
  go_wp2_with fail
  go_ret
  rw [HQ.out, HDY.out.1, HDY.out.2]
  exact ⟨rfl, w5.drew, rfl, rfl⟩
end Go.Tb
namespace Go.Tb
open Go Go.RowKit Go.Proofs Go.Maps Go.Sp
structure OnlyB (b : Nat) (w w' : World) : Prop where
  os : w'.os = w.os
  tape : w'.tape = w.tape
  output : w'.output = w.output
  size : w.heap.size ≤ w'.heap.size
  block : ∀ k, k < w.heap.size → k ≠ b → w'.heap[k]? = w.heap[k]?
theorem OnlyB.of_below {b : Nat} {w w' : World} (h : Below w.heap.size w w') : OnlyB b w w' := ⟨h.os, h.tape, h.output, h.size, fun k hk _ => h.block k hk⟩
theorem OnlyB.refl (b : Nat) (w : World) : OnlyB b w w := ⟨rfl, rfl, rfl, Nat.le_refl _, fun _ _ _ => rfl⟩
theorem OnlyB.set (w : World) (b o : Nat) (v : Value) : OnlyB b w (w.setCell ⟨b, o, none⟩ v) := ⟨rfl, rfl, rfl, by simp [World.setCell], fun k _ hk => heap_setCell_other _ _ _ _ hk⟩
theorem OnlyB.trans {b : Nat} {w w1 w2 : World} (h : OnlyB b w w1) (g : OnlyB b w1 w2) : OnlyB b w w2 := ⟨g.os.trans h.os, g.tape.trans h.tape, g.output.trans h.output, Nat.le_trans h.size g.size, fun k hk hb => (g.block k (Nat.lt_of_lt_of_le hk h.size) hb).trans (h.block k hk hb)⟩
theorem BitsV.drew {W : World} {bb wb N : Nat} {ws : List Nat} (h : BitsV W bb wb N ws) : BitsV W.drew bb wb N ws := ⟨h.c0, h.c1, h.wd, h.lt, h.len, h.ne⟩
theorem at189_no {W : World} {bb N i : Nat} (c0 : W.cell? ⟨bb, 0, none⟩ = some (.int .i64 (N : Int))) (hi : N ≤ i) :
    Calls Tryz.prog 105 #[.pointer (some ⟨bb, 0, none⟩), .int .i64 (i : Int), .func (.func 106) #[] #[]] W fun e w' => e = .returned (.bool false) ∧ w' = W := by
  have SZ := size218 c0
  have i1 : decide ((N : Int) ≤ (i : Int)) = true := by rw [decide_eq_true_iff]; omega
  clear c0
  go_enter Tryz.func105, Tryz.ntmps105
  go_wp2_with (go_at_call 124; refine SZ.mono ?_; rintro e w5 ⟨rfl, rfl⟩)
  go_ret
  exact ⟨rfl, rfl⟩
theorem bset_ok {W : World} {bb wb N s : Nat} {seen : List Nat} (h : SeenV W bb wb N seen) (hN : N ≤ 4096) :
    Calls Tryz.prog 80 #[.pointer (some ⟨bb, 0, none⟩), .int .i64 (s : Int)] W fun e w' => e = .returned (.bool (decide (s < N) && !seen.contains s)) ∧ Hid (OnlyB wb W w' ∧ (s < N → SeenV w' bb wb N (s :: seen))) := by
  obtain ⟨ws, hB, hS⟩ := h
  by_cases hs : s < N
  · have A := at189 hB hs hN
    have hl := cell_lt' hB.c0
    rw [hS s hs] at A
    have FIN := Lib.hid (fun (w' : World) (h : ∃ W0, W0 = W.drew ∧ w' = W0.setCell ⟨wb, s / 64, none⟩ (.int .u64 ((ws.getD (s / 64) 0 ||| 2 ^ (s % 64) : Nat) : Int))) => show OnlyB wb W w' ∧ (s < N → SeenV w' bb wb N (s :: seen)) from by
      obtain ⟨W0, rfl, rfl⟩ := h
      have hj : s / 64 < ws.length := by rw [hB.len]; omega
      obtain ⟨x, hx⟩ : ∃ x, ws[s / 64]? = some x := ⟨_, List.getElem?_eq_getElem hj⟩
      have hgd : ws.getD (s / 64) 0 = x := by rw [List.getD_eq_getElem?_getD, hx]; rfl
      refine ⟨(OnlyB.of_below (Below.drew (Below.refl _ _))).trans (OnlyB.set _ _ _ _), fun _ => ⟨setB ws s, ?_, fun j hj2 => ?_⟩⟩
      · exact (hB.drew).set hx (by rw [hgd]; exact or_lt (hB.lt x (List.mem_of_getElem? hx)) (Nat.mod_lt _ (by decide)))
      · rw [hasB_set hj, hS j hj2, List.contains_cons]
        congr 1)
    rw [show (decide (s < N) && !seen.contains s) = !seen.contains s by simp [hs]]
    generalize seen.contains s = D at *
    clear hB hS hs
    go_enter Tryz.func80, Tryz.ntmps80
    go_wp2_with (go_at_call 105; refine A.mono ?_; rintro e w5 ⟨rfl, h5⟩)
    go_ret
    exact ⟨rfl, Lib.hid (FIN.out _ h5)⟩
  · have A := at189_no (W := W) hB.c0 (i := s) (by omega)
    rw [show (decide (s < N) && !seen.contains s) = false by simp [hs]]
    have hl := cell_lt' hB.c0
    have hF : Hid (OnlyB wb W W ∧ (s < N → SeenV W bb wb N (s :: seen))) := Lib.hid ⟨OnlyB.refl _ _, fun h => absurd h hs⟩
    clear hB hS hs
    go_enter Tryz.func80, Tryz.ntmps80
    go_wp2_with (go_at_call 105; refine A.mono ?_; rintro e w5 ⟨rfl, rfl⟩)
    go_ret
    exact ⟨rfl, hF⟩
theorem fresh_ok {W : World} {qb bb wb N s : Nat} {seen : List Nat} (hq : W.cell? ⟨qb, 0, none⟩ = some (.pointer (some ⟨bb, 0, none⟩))) (h : SeenV W bb wb N seen) (hN : N ≤ 4096) :
    Calls Tryz.prog 79 #[.int .i64 (s : Int), .pointer (some ⟨qb, 0, none⟩)] W fun e w' => e = .returned (.bool (fresh N seen s)) ∧ Hid (OnlyB wb W w' ∧ (fresh N seen s = true → SeenV w' bb wb N (s :: seen))) := by
  have hl := cell_lt' hq
  by_cases h2 : 2 ≤ s
  · have B := bset_ok (s := s) h hN
    have hfr : fresh N seen s = (decide (s < N) && !seen.contains s) := by unfold fresh; simp [h2]
    have hsN : fresh N seen s = true → s < N := fun h => by rw [hfr] at h; simp at h; exact h.1
    have HSN := Lib.hid hsN
    rw [hfr] at HSN ⊢
    generalize (decide (s < N) && !seen.contains s) = D at *
    have i1 : decide ((2 : Int) ≤ (s : Int)) = true := by rw [decide_eq_true_iff]; omega
    clear h hfr hsN
    go_enter Tryz.func79, Tryz.ntmps79
    go_wp2_with (go_at_call 80; refine B.mono ?_; rintro e w5 ⟨rfl, h5⟩)
    go_ret
    exact ⟨rfl, Lib.hid ⟨h5.out.1, fun hd => h5.out.2 (HSN.out hd)⟩⟩
  · have hfr : fresh N seen s = false := by unfold fresh; simp [h2]
    rw [hfr]
    have i1 : decide ((2 : Int) ≤ (s : Int)) = false := by rw [decide_eq_false_iff_not]; omega
    have hF : Hid (OnlyB wb W W ∧ (false = true → SeenV W bb wb N (s :: seen))) := Lib.hid ⟨OnlyB.refl _ _, fun h => nomatch h⟩
    clear h hfr h2
    go_enter Tryz.func79, Tryz.ntmps79
    go_wp2_with fail
    go_ret
    exact ⟨rfl, hF⟩
end Go.Tb
