/- A part of a proof about the table over the shadow space: what a function of the program answers, walked by hand. Each theorem says its own conditions. -/
import Derived.Test.YthejkfnigalniabGreatDoorWaG
import Derived.Test.YthejkfnigalniabGreatDoorWaD
set_option linter.unusedVariables false
set_option linter.unusedSimpArgs false
set_option maxRecDepth 100000
set_option maxHeartbeats 1600000
namespace Go.Tb
open Go Go.RowKit Go.Proofs Go.Maps Go.Sp
theorem partN_sp {i : Nat} (h : i < 9) : Go.Sp.partN i = partN i := by
  unfold Go.Sp.partN partN
  split <;> omega
theorem run_clear212 (w : World) {r n c o : Nat} (hn : 0 < n) (hc : ∀ j, j < n → (w.cell? ⟨r, o + j, none⟩).isSome = true) (hf : ∀ j, j < n → w.frozen? ⟨r, o + j, none⟩ = false) (ty : TypeId) :
    (Builtin.clear_ #[159] ty #[.slice (some ⟨r, o, none⟩) n c]).run Tryz.prog w = .ok (.tuple #[]) (w.setCells r o (List.replicate n (.int .u16 0))) :=
  Lib.run_clear_slice w 159 106 ty (.int .u16 0) Tryz.underlying159 (fun w => Tryz.zeroValue106 w) rfl rfl r o n c hn hc hf
theorem eql212_some (a : Addr) (n c : Nat) (w : World) : (binOp .eql 159 (.slice (some a) n c) (.slice none 0 0)).run Tryz.prog w = .ok (.bool false) w := by
  have := run_equal_slice_nil (P := Tryz.prog) w 159 106 (some a) n c Tryz.underlying159
  simp [binOp, this]
theorem lay_no {W : World} {mb i : Nat} {f : Nat → Nat} (hm : MapV W mb f) (hi : i < 9) {b : Bs} {v : Value} (hv : RV W v b) (hL : b.length ≤ 248) (hno : layOk i b = false) :
    Calls Tryz.prog 82 #[.pointer (some ⟨mb, 0, none⟩), .int .i64 (i : Int), v] W fun e w' => e = .returned (.bool false) ∧ w' = W := by
  have hlm := cell_lt' (hm.at (i := 0) (by decide)).1
  have PT := part_ok hlm hi
  obtain ⟨a, c, hvs, ⟨hx, hcap⟩, hrow⟩ := id hv
  unfold layOk at hno
  rw [partN_sp hi] at hno
  obtain ⟨n, hn⟩ : ∃ n, b.length = n := ⟨_, rfl⟩
  rw [hn] at hno hvs hrow hL
  obtain ⟨pn, hpn⟩ : ∃ pn, partN i = pn := ⟨_, rfl⟩
  have hpl := partN_le hi
  rw [hpn] at hno PT hpl
  subst hvs
  have HN := Lib.hid hn
  have E := fun (k : Nat) => eql212_some ⟨mb, i * 124, none⟩ pn k W
  clear hm hv hpn
  by_cases h1 : n % 2 = 0
  · have d1 : decide ((0 : Int) < (n : Int) % 2) = false := by rw [decide_eq_false_iff_not]; omega
    by_cases h2 : n ≤ 2 * pn
    · have d2 : decide (2 * (pn : Int) < (n : Int)) = false := by rw [decide_eq_false_iff_not]; omega
      have hno : 0 < n ∧ b.getD (n - 1) 0 = 0 ∧ b.getD (n - 2) 0 = 0 := by
        simp only [h1, h2, decide_true, Bool.true_and, Bool.not_eq_false', Bool.and_eq_true, decide_eq_true_eq] at hno
        exact ⟨hno.1.1, hno.1.2, hno.2⟩
      obtain ⟨h3, h4, h5⟩ := hno
      have d3 : decide ((0 : Int) < (n : Int)) = true := by rw [decide_eq_true_iff]; omega
      obtain ⟨g, o, rfl, hg, hc⟩ := hrow h3
      obtain ⟨m1, hm1⟩ : ∃ m, n - 1 = m := ⟨_, rfl⟩
      obtain ⟨m2, hm2⟩ : ∃ m, n - 2 = m := ⟨_, rfl⟩
      have e1 : (n : Int) - 1 = (m1 : Int) := by omega
      have e2 : (n : Int) - 2 = (m2 : Int) := by omega
      have b1 : b[m1]? = some 0 := by
        have hlt : m1 < b.length := by have := HN.out; omega
        rw [List.getElem?_eq_getElem hlt]
        rw [hm1, List.getD_eq_getElem?_getD, List.getElem?_eq_getElem hlt] at h4
        simpa using h4
      have b2 : b[m2]? = some 0 := by
        have hlt : m2 < b.length := by have := HN.out; omega
        rw [List.getElem?_eq_getElem hlt]
        rw [hm2, List.getD_eq_getElem?_getD, List.getElem?_eq_getElem hlt] at h5
        simpa using h5
      have c1 := hc m1 0 b1
      have c2 := hc m2 0 b2
      have l1 : (m1 : Int) < (n : Int) := by omega
      have l2 : (m2 : Int) < (n : Int) := by omega
      have l3 : (0 : Int) ≤ (m1 : Int) := by omega
      have l4 : (0 : Int) ≤ (m2 : Int) := by omega
      clear hc hrow b1 b2 hm1 hm2 h4 h5 hno
      go_enter Tryz.func82, Tryz.ntmps82
      go_wp2_with (go_at_call 99; refine PT.mono ?_; rintro e w5 ⟨rfl, rfl⟩)
      go_ret
      exact ⟨rfl, rfl⟩
    · have d2 : decide (2 * (pn : Int) < (n : Int)) = true := by rw [decide_eq_true_iff]; omega
      clear hno hrow
      go_enter Tryz.func82, Tryz.ntmps82
      go_wp2_with (go_at_call 99; refine PT.mono ?_; rintro e w5 ⟨rfl, rfl⟩)
      go_ret
      exact ⟨rfl, rfl⟩
  · have d1 : decide ((0 : Int) < (n : Int) % 2) = true := by rw [decide_eq_true_iff]; omega
    clear hno hrow
    go_enter Tryz.func82, Tryz.ntmps82
    go_wp2_with (go_at_call 99; refine PT.mono ?_; rintro e w5 ⟨rfl, rfl⟩)
    go_ret
    exact ⟨rfl, rfl⟩
def clrP (f : Nat → Nat) (i k : Nat) (b : Bs) : Nat → Nat := fun p => if i * 124 ≤ p ∧ p < (i + 1) * 124 ∧ p < 1024 then (if p - i * 124 < k then num ((b.drop (2 * (p - i * 124))).take 2) else 0) else f p
theorem clrP_end {f : Nat → Nat} {i k : Nat} {b : Bs} (h : b.length ≤ 2 * k) : clrP f i k b = layP f i b := by
  funext p
  unfold clrP layP
  split
  · split
    · rfl
    · rename_i h2
      rw [List.drop_eq_nil_of_le (by omega)]
      rfl
  · rfl
theorem clrP_next {f : Nat → Nat} {i k : Nat} {b : Bs} (hi : i < 9) (hk : k < partN i) : (fun q => if q = i * 124 + k then num ((b.drop (2 * k)).take 2) else clrP f i k b q) = clrP f i (k + 1) b := by
  have hp := partN_le hi
  have hp2 : partN i ≤ 124 := hp.2.1
  funext q
  unfold clrP
  by_cases e : q = i * 124 + k
  · subst e
    rw [if_pos rfl, if_pos ⟨by omega, by omega, by omega⟩, if_pos (by omega), show i * 124 + k - i * 124 = k by omega]
  · rw [if_neg e]
    by_cases h : i * 124 ≤ q ∧ q < (i + 1) * 124 ∧ q < 1024
    · rw [if_pos h, if_pos h]
      by_cases h2 : q - i * 124 < k
      · rw [if_pos h2, if_pos (by omega)]
      · rw [if_neg h2, if_neg (by omega)]
    · rw [if_neg h, if_neg h]
theorem MapV.clear {W : World} {mb i : Nat} {f : Nat → Nat} (hm : MapV W mb f) (hi : i < 9) (b : Bs) : MapV (W.setCells mb (i * 124) (List.replicate (partN i) (.int .u16 0))) mb (clrP f i 0 b) := by
  have hp := partN_le hi
  have hpd : i = 8 ∧ partN i = 32 ∨ i < 8 ∧ partN i = 124 := by unfold partN; by_cases e : i = 8 <;> simp [e] <;> omega
  have hsome : ∀ j, j < (List.replicate (partN i) (Value.int .u16 0)).length → (W.cell? ⟨mb, i * 124 + j, none⟩).isSome = true := fun j hj => by
    rw [List.length_replicate] at hj
    rw [(hm.at (i := i * 124 + j) (by omega)).1]; rfl
  refine ⟨fun p hpp => ?_, fun p hpp => (World.frozen?_setCells _ _ _ _ _).trans (hm.at hpp).2.1⟩
  unfold clrP
  by_cases h : i * 124 ≤ p ∧ p < (i + 1) * 124 ∧ p < 1024
  · rw [if_pos h, if_neg (by omega)]
    have hj : p - i * 124 < (List.replicate (partN i) (Value.int .u16 0)).length := by rw [List.length_replicate]; omega
    have := World.cell?_setCells_in mb (List.replicate (partN i) (Value.int .u16 0)) (i * 124) W hsome (p - i * 124) hj
    rw [show i * 124 + (p - i * 124) = p by omega] at this
    refine ⟨?_, by decide⟩
    rw [this]
    simp
  · rw [if_neg h]
    refine ⟨(World.cell?_setCells_out mb _ _ _ _ fun _ _ => ?_).trans (hm.at hpp).1, (hm.at hpp).2.2⟩
    rw [List.length_replicate]
    show p < i * 124 ∨ i * 124 + partN i ≤ p
    omega
theorem lay_yes {W : World} {mb i : Nat} {f : Nat → Nat} (hm : MapV W mb f) (hi : i < 9) {b : Bs} {v : Value} (hv : RV W v b) (hvm : ∀ g o n c, v = .slice (some ⟨g, o, none⟩) n c → g ≠ mb) (hL : b.length ≤ 248) (hyes : layOk i b = true) :
    Calls Tryz.prog 82 #[.pointer (some ⟨mb, 0, none⟩), .int .i64 (i : Int), v] W fun e w' => e = .returned (.bool true) ∧ Hid (OnlyB mb W w' ∧ MapV w' mb (layP f i b) ∧ kindOf w' mb = kindOf W mb) := by
  have hlm := cell_lt' (hm.at (i := 0) (by decide)).1
  have PT := part_ok hlm hi
  obtain ⟨a, c, hvs, ⟨hx, hcap⟩, hrow⟩ := id hv
  unfold layOk at hyes
  rw [partN_sp hi] at hyes
  obtain ⟨n, hn⟩ : ∃ n, b.length = n := ⟨_, rfl⟩
  have hpl := partN_le hi
  have CL := run_clear212 W (r := mb) (n := partN i) (c := 1024 - i * 124) (o := i * 124) (by omega) (fun j hj => by rw [(hm.at (i := i * 124 + j) (by omega)).1]; rfl) (fun j hj => (hm.at (i := i * 124 + j) (by omega)).2.1)
  have HCLR := Lib.hid (hm.clear hi b)
  have HKD : Hid (kindOf (W.setCells mb (i * 124) (List.replicate (partN i) (.int .u16 0))) mb = kindOf W mb) := Lib.hid (setCells_kind (b := mb) (List.replicate (partN i) (.int .u16 0)) (i * 124) W (fun j hj => by rw [List.length_replicate] at hj; rw [(hm.at (i := i * 124 + j) (by omega)).1]; rfl) mb)
  have HRV := Lib.hid hv
  have HVM := Lib.hid hvm
  have HPN : Hid (∀ k, k < partN i → (fun q => if q = i * 124 + k then num ((b.drop (2 * k)).take 2) else clrP f i k b q) = clrP f i (k + 1) b) := Lib.hid fun k hk => clrP_next hi hk
  rw [hn] at hyes hvs hrow hL
  obtain ⟨pn, hpn⟩ : ∃ pn, partN i = pn := ⟨_, rfl⟩
  rw [hpn] at hyes PT hpl CL HCLR HPN HKD
  subst hvs
  have HN := Lib.hid hn
  have E := fun (k : Nat) => eql212_some ⟨mb, i * 124, none⟩ pn k W
  simp only [Bool.and_eq_true, decide_eq_true_eq, Bool.not_eq_true'] at hyes
  obtain ⟨⟨h1, h2⟩, h3⟩ := hyes
  have d1 : decide ((0 : Int) < (n : Int) % 2) = false := by rw [decide_eq_false_iff_not]; omega
  have d2 : decide (2 * (pn : Int) < (n : Int)) = false := by rw [decide_eq_false_iff_not]; omega
  obtain ⟨h, hh⟩ : ∃ h, n / 2 = h := ⟨_, rfl⟩
  have hq : (n : Int) / 2 = (h : Int) := by omega
  have HHN : Hid (n = 2 * h) := Lib.hid (by omega)
  clear hm hv hpn hvm
  have hcase : n = 0 ∨ (0 < n ∧ b.getD (n - 1) 0 ≠ 0) ∨ (0 < n ∧ b.getD (n - 1) 0 = 0 ∧ b.getD (n - 2) 0 ≠ 0) := by
    by_cases g0 : n = 0
    · exact .inl g0
    · by_cases g1 : b.getD (n - 1) 0 = 0
      · by_cases g2 : b.getD (n - 2) 0 = 0
        · rw [g1, g2] at h3
          simp at h3
          omega
        · exact .inr (.inr ⟨by omega, g1, g2⟩)
      · exact .inr (.inl ⟨by omega, g1⟩)
  clear h3 hh
  have hget : Hid (∀ m, m < n → b[m]? = some (b.getD m 0)) := Lib.hid fun m hm => by
    have hlt : m < b.length := by rw [HN.out]; exact hm
    rw [List.getD_eq_getElem?_getD, List.getElem?_eq_getElem hlt]; rfl
  rcases hcase with g0 | ⟨g0, g1⟩ | ⟨g0, g1, g2⟩
  · have d3 : decide ((0 : Int) < (n : Int)) = false := by rw [decide_eq_false_iff_not]; omega
    have d4 : decide (0 < n) = false := by rw [decide_eq_false_iff_not]; omega
    have d5 : ¬ 0 < n := by omega
    have d6 : ¬ (0 : Int) < (n : Int) := by omega
    clear hrow g0
    go_enter Tryz.func82, Tryz.ntmps82
    go_upto_region 4 with (go_at_call 99; refine PT.mono ?_; rintro e w5 ⟨rfl, rfl⟩)
    have HM0 : Hid (∃ W1, W1 = w5.setCells mb (i * 124) (List.replicate pn (.int .u16 0)) ∧ MapV W1 mb (clrP f i 0 b) ∧ OnlyB mb w5 W1 ∧ kindOf W1 mb = kindOf w5 mb) := Lib.hid ⟨_, rfl, HCLR.out, ⟨(setCells_os _ _ _).1, (setCells_os _ _ _).2.1, (setCells_os _ _ _).2.2, by rw [setCells_size]; exact Nat.le_refl _, fun k _ hk => setCells_other _ _ _ _ hk⟩, HKD.out⟩
    go_upto_region 6 with fail
    refine take_last ?_
    intro W1 hW1
    obtain ⟨W1', hW1', hM1, hO1, hK1⟩ := HM0.out
    have hWW : W1' = W1 := hW1'.trans hW1
    subst hWW
    have HI0 := Lib.hid (And.intro hM1 (And.intro hO1 hK1))
    have HWL := Lib.hid (cell_lt' (hM1.at (i := 0) (by decide)).1)
    clear hW1 hW1' hM1 hO1 hK1 HKD HM0 HCLR CL d1 d2 d3 d4 d5 d6 PT E
    go_loopw [57] (fun u wr => ∃ k : Nat, u = .int .i64 (k : Int) ∧ k ≤ h ∧ Hid (MapV wr mb (clrP f i k b) ∧ OnlyB mb w5 wr ∧ kindOf wr mb = kindOf w5 mb)) (fun u _ => h - (Go.RowKit.intOf u).toNat)
    case atStart => exact ⟨0, rfl, Nat.zero_le _, HI0⟩
    case round =>
      obtain ⟨k, rfl, hk, hI⟩ := hrel
      by_cases e : k < h
      · have j1 : (k : Int) < (h : Int) := by omega
        have j0 : (0 : Int) ≤ (k : Int) := by omega
        have j2 : (k : Int) < (pn : Int) := by have := HHN.out; omega
        have hrv : RV wr (.slice a n c) b := by
          obtain ⟨a', c', e1, e2, e3⟩ := HRV.out
          refine ⟨a', c', e1, e2, fun hp => ?_⟩
          obtain ⟨g, o, f1, f2, f3⟩ := e3 hp
          have hgm : g ≠ mb := HVM.out g o n c' (by rw [e1, f1, HN.out])
          have hbk := hI.out.2.1.block g f2 hgm
          exact ⟨g, o, f1, Nat.lt_of_lt_of_le f2 hI.out.2.1.size, fun j x hj => (cell_of_heap (a := ⟨g, o + j, none⟩) hbk).1.trans (f3 j x hj)⟩
        have GE := get_x hrv (at' := 2 * k) (m := 2) (by rw [HN.out]; have := HHN.out; omega) (by rw [HN.out]; have := HHN.out; omega) (by rw [HN.out]; omega) (.inl rfl)
        rw [show ((2 * k : Nat) : Int) = 2 * (k : Int) by omega] at GE
        have hnk : num ((b.drop (2 * k)).take 2) < 65536 := num_two hx (2 * k) 2
        obtain ⟨x, hxx⟩ : ∃ x, num ((b.drop (2 * k)).take 2) = x := ⟨_, rfl⟩
        have hpk := HPN.out k (by have := HHN.out; omega)
        rw [hxx] at GE hnk hpk
        have hpk9 : i * 124 + k < 1024 := by have := HHN.out; omega
        obtain ⟨cM, zM, _⟩ := hI.out.1.at hpk9
        have lM := cell_lt' cM
        have hw16 : IntKind.u16.wrap (x : Int) = (x : Int) := by rw [IntKind.wrap_u16]; omega
        have hfin := Lib.hid (fun (W : World) (hb : Below wr.heap.size wr W) => show Hid (MapV (W.setCell ⟨mb, i * 124 + k, none⟩ (.int .u16 (x : Int))) mb (clrP f i (k + 1) b) ∧ OnlyB mb w5 (W.setCell ⟨mb, i * 124 + k, none⟩ (.int .u16 (x : Int))) ∧ kindOf (W.setCell ⟨mb, i * 124 + k, none⟩ (.int .u16 (x : Int))) mb = kindOf w5 mb) from by
          have h2 := (hI.out.1.keep (hb.block mb lM)).set hpk9 hnk
          rw [hpk] at h2
          exact Lib.hid ⟨h2, (hI.out.2.1.trans (OnlyB.of_below hb)).trans (OnlyB.set _ _ _ _), (kindOf_set (cells_below hb _ _ cM)).trans ((kindOf_same (hb.block mb lM)).trans hI.out.2.2)⟩)
        clear hrv hxx hpk hI
        go_wp2_with (go_at_call 76; refine GE.mono ?_; rintro e w9 ⟨rfl, hb9⟩; have cM9 := cells_below hb9 _ _ cM; have zM9 := (cell_of_heap (a := ⟨mb, i * 124 + k, none⟩) (hb9.block mb lM)).2.trans zM; have lM9 := cell_lt' cM9)
        exact ⟨⟨k + 1, rfl, by omega, hfin.out w9 hb9⟩, measT e⟩
      · have ek : k = h := by omega
        subst ek
        have j1 : ¬ (k : Int) < (k : Int) := by omega
        have HF : Hid (OnlyB mb w5 wr ∧ MapV wr mb (layP f i b) ∧ kindOf wr mb = kindOf w5 mb) := Lib.hid ⟨hI.out.2.1, by rw [← clrP_end (f := f) (i := i) (k := k) (b := b) (by rw [HN.out]; have := HHN.out; omega)]; exact hI.out.1, hI.out.2.2⟩
        clear hI
        go_wp2_with fail
        go_ret
        exact ⟨rfl, HF⟩
  · have d3 : decide ((0 : Int) < (n : Int)) = true := by rw [decide_eq_true_iff]; omega
    obtain ⟨m1, hm1⟩ : ∃ m, n - 1 = m := ⟨_, rfl⟩
    have e1 : (n : Int) - 1 = (m1 : Int) := by omega
    rw [hm1] at g1
    obtain ⟨x1, hx1⟩ : ∃ x, b.getD m1 0 = x := ⟨_, rfl⟩
    rw [hx1] at g1
    obtain ⟨g, o, rfl, hg, hc⟩ := hrow g0
    have c1 := hc m1 x1 (by rw [← hx1]; exact hget.out m1 (by omega))
    have l1 : (m1 : Int) < (n : Int) := by omega
    have l3 : (0 : Int) ≤ (m1 : Int) := by omega
    have y1 : ((x1 : Int) == 0) = false := eq0 g1
    clear hc hrow hm1 g0 g1 hx1
    go_enter Tryz.func82, Tryz.ntmps82
    go_upto_region 4 with (go_at_call 99; refine PT.mono ?_; rintro e w5 ⟨rfl, rfl⟩)
    clear c1 l1 l3 y1 e1
    have HM0 : Hid (∃ W1, W1 = w5.setCells mb (i * 124) (List.replicate pn (.int .u16 0)) ∧ MapV W1 mb (clrP f i 0 b) ∧ OnlyB mb w5 W1 ∧ kindOf W1 mb = kindOf w5 mb) := Lib.hid ⟨_, rfl, HCLR.out, ⟨(setCells_os _ _ _).1, (setCells_os _ _ _).2.1, (setCells_os _ _ _).2.2, by rw [setCells_size]; exact Nat.le_refl _, fun k _ hk => setCells_other _ _ _ _ hk⟩, HKD.out⟩
    go_upto_region 6 with fail
    refine take_last ?_
    intro W1 hW1
    obtain ⟨W1', hW1', hM1, hO1, hK1⟩ := HM0.out
    have hWW : W1' = W1 := hW1'.trans hW1
    subst hWW
    have HI0 := Lib.hid (And.intro hM1 (And.intro hO1 hK1))
    have HWL := Lib.hid (cell_lt' (hM1.at (i := 0) (by decide)).1)
    clear hW1 hW1' hM1 hO1 hK1 HKD HM0 HCLR CL d1 d2 d3 PT E
    go_loopw [57] (fun u wr => ∃ k : Nat, u = .int .i64 (k : Int) ∧ k ≤ h ∧ Hid (MapV wr mb (clrP f i k b) ∧ OnlyB mb w5 wr ∧ kindOf wr mb = kindOf w5 mb)) (fun u _ => h - (Go.RowKit.intOf u).toNat)
    case atStart => exact ⟨0, rfl, Nat.zero_le _, HI0⟩
    case round =>
      obtain ⟨k, rfl, hk, hI⟩ := hrel
      by_cases e : k < h
      · have j1 : (k : Int) < (h : Int) := by omega
        have j0 : (0 : Int) ≤ (k : Int) := by omega
        have j2 : (k : Int) < (pn : Int) := by have := HHN.out; omega
        have hrv : RV wr (.slice (some ⟨g, o, none⟩) n c) b := by
          obtain ⟨a', c', e1, e2, e3⟩ := HRV.out
          refine ⟨a', c', e1, e2, fun hp => ?_⟩
          obtain ⟨g', o', f1, f2, f3⟩ := e3 hp
          have hgm : g' ≠ mb := HVM.out g' o' n c' (by rw [e1, f1, HN.out])
          have hbk := hI.out.2.1.block g' f2 hgm
          exact ⟨g', o', f1, Nat.lt_of_lt_of_le f2 hI.out.2.1.size, fun j x hj => (cell_of_heap (a := ⟨g', o' + j, none⟩) hbk).1.trans (f3 j x hj)⟩
        have GE := get_x hrv (at' := 2 * k) (m := 2) (by rw [HN.out]; have := HHN.out; omega) (by rw [HN.out]; have := HHN.out; omega) (by rw [HN.out]; omega) (.inl rfl)
        rw [show ((2 * k : Nat) : Int) = 2 * (k : Int) by omega] at GE
        have hnk : num ((b.drop (2 * k)).take 2) < 65536 := num_two hx (2 * k) 2
        obtain ⟨x, hxx⟩ : ∃ x, num ((b.drop (2 * k)).take 2) = x := ⟨_, rfl⟩
        have hpk := HPN.out k (by have := HHN.out; omega)
        rw [hxx] at GE hnk hpk
        have hpk9 : i * 124 + k < 1024 := by have := HHN.out; omega
        obtain ⟨cM, zM, _⟩ := hI.out.1.at hpk9
        have lM := cell_lt' cM
        have hw16 : IntKind.u16.wrap (x : Int) = (x : Int) := by rw [IntKind.wrap_u16]; omega
        have hfin := Lib.hid (fun (W : World) (hb : Below wr.heap.size wr W) => show Hid (MapV (W.setCell ⟨mb, i * 124 + k, none⟩ (.int .u16 (x : Int))) mb (clrP f i (k + 1) b) ∧ OnlyB mb w5 (W.setCell ⟨mb, i * 124 + k, none⟩ (.int .u16 (x : Int))) ∧ kindOf (W.setCell ⟨mb, i * 124 + k, none⟩ (.int .u16 (x : Int))) mb = kindOf w5 mb) from by
          have h2 := (hI.out.1.keep (hb.block mb lM)).set hpk9 hnk
          rw [hpk] at h2
          exact Lib.hid ⟨h2, (hI.out.2.1.trans (OnlyB.of_below hb)).trans (OnlyB.set _ _ _ _), (kindOf_set (cells_below hb _ _ cM)).trans ((kindOf_same (hb.block mb lM)).trans hI.out.2.2)⟩)
        clear hrv hxx hpk hI
        go_wp2_with (go_at_call 76; refine GE.mono ?_; rintro e w9 ⟨rfl, hb9⟩; have cM9 := cells_below hb9 _ _ cM; have zM9 := (cell_of_heap (a := ⟨mb, i * 124 + k, none⟩) (hb9.block mb lM)).2.trans zM; have lM9 := cell_lt' cM9)
        exact ⟨⟨k + 1, rfl, by omega, hfin.out w9 hb9⟩, measT e⟩
      · have ek : k = h := by omega
        subst ek
        have j1 : ¬ (k : Int) < (k : Int) := by omega
        have HF : Hid (OnlyB mb w5 wr ∧ MapV wr mb (layP f i b) ∧ kindOf wr mb = kindOf w5 mb) := Lib.hid ⟨hI.out.2.1, by rw [← clrP_end (f := f) (i := i) (k := k) (b := b) (by rw [HN.out]; have := HHN.out; omega)]; exact hI.out.1, hI.out.2.2⟩
        clear hI
        go_wp2_with fail
        go_ret
        exact ⟨rfl, HF⟩
  · have d3 : decide ((0 : Int) < (n : Int)) = true := by rw [decide_eq_true_iff]; omega
    obtain ⟨m1, hm1⟩ : ∃ m, n - 1 = m := ⟨_, rfl⟩
    obtain ⟨m2, hm2⟩ : ∃ m, n - 2 = m := ⟨_, rfl⟩
    have e1 : (n : Int) - 1 = (m1 : Int) := by omega
    have e2 : (n : Int) - 2 = (m2 : Int) := by omega
    rw [hm1] at g1
    rw [hm2] at g2
    obtain ⟨x2, hx2⟩ : ∃ x, b.getD m2 0 = x := ⟨_, rfl⟩
    rw [hx2] at g2
    obtain ⟨g, o, rfl, hg, hc⟩ := hrow g0
    have c1 := hc m1 0 (by rw [← g1]; exact hget.out m1 (by omega))
    have c2 := hc m2 x2 (by rw [← hx2]; exact hget.out m2 (by omega))
    have l1 : (m1 : Int) < (n : Int) := by omega
    have l2 : (m2 : Int) < (n : Int) := by omega
    have l3 : (0 : Int) ≤ (m1 : Int) := by omega
    have l4 : (0 : Int) ≤ (m2 : Int) := by omega
    have y2 : ((x2 : Int) == 0) = false := eq0 g2
    clear hc hrow hm1 hm2 g0 g1 g2 hx2
    go_enter Tryz.func82, Tryz.ntmps82
    go_upto_region 4 with (go_at_call 99; refine PT.mono ?_; rintro e w5 ⟨rfl, rfl⟩)
    clear c1 c2 l1 l2 l3 l4 y2 e1 e2
    have HM0 : Hid (∃ W1, W1 = w5.setCells mb (i * 124) (List.replicate pn (.int .u16 0)) ∧ MapV W1 mb (clrP f i 0 b) ∧ OnlyB mb w5 W1 ∧ kindOf W1 mb = kindOf w5 mb) := Lib.hid ⟨_, rfl, HCLR.out, ⟨(setCells_os _ _ _).1, (setCells_os _ _ _).2.1, (setCells_os _ _ _).2.2, by rw [setCells_size]; exact Nat.le_refl _, fun k _ hk => setCells_other _ _ _ _ hk⟩, HKD.out⟩
    go_upto_region 6 with fail
    refine take_last ?_
    intro W1 hW1
    obtain ⟨W1', hW1', hM1, hO1, hK1⟩ := HM0.out
    have hWW : W1' = W1 := hW1'.trans hW1
    subst hWW
    have HI0 := Lib.hid (And.intro hM1 (And.intro hO1 hK1))
    have HWL := Lib.hid (cell_lt' (hM1.at (i := 0) (by decide)).1)
    clear hW1 hW1' hM1 hO1 hK1 HKD HM0 HCLR CL d1 d2 d3 PT E
    go_loopw [57] (fun u wr => ∃ k : Nat, u = .int .i64 (k : Int) ∧ k ≤ h ∧ Hid (MapV wr mb (clrP f i k b) ∧ OnlyB mb w5 wr ∧ kindOf wr mb = kindOf w5 mb)) (fun u _ => h - (Go.RowKit.intOf u).toNat)
    case atStart => exact ⟨0, rfl, Nat.zero_le _, HI0⟩
    case round =>
      obtain ⟨k, rfl, hk, hI⟩ := hrel
      by_cases e : k < h
      · have j1 : (k : Int) < (h : Int) := by omega
        have j0 : (0 : Int) ≤ (k : Int) := by omega
        have j2 : (k : Int) < (pn : Int) := by have := HHN.out; omega
        have hrv : RV wr (.slice (some ⟨g, o, none⟩) n c) b := by
          obtain ⟨a', c', e1, e2, e3⟩ := HRV.out
          refine ⟨a', c', e1, e2, fun hp => ?_⟩
          obtain ⟨g', o', f1, f2, f3⟩ := e3 hp
          have hgm : g' ≠ mb := HVM.out g' o' n c' (by rw [e1, f1, HN.out])
          have hbk := hI.out.2.1.block g' f2 hgm
          exact ⟨g', o', f1, Nat.lt_of_lt_of_le f2 hI.out.2.1.size, fun j x hj => (cell_of_heap (a := ⟨g', o' + j, none⟩) hbk).1.trans (f3 j x hj)⟩
        have GE := get_x hrv (at' := 2 * k) (m := 2) (by rw [HN.out]; have := HHN.out; omega) (by rw [HN.out]; have := HHN.out; omega) (by rw [HN.out]; omega) (.inl rfl)
        rw [show ((2 * k : Nat) : Int) = 2 * (k : Int) by omega] at GE
        have hnk : num ((b.drop (2 * k)).take 2) < 65536 := num_two hx (2 * k) 2
        obtain ⟨x, hxx⟩ : ∃ x, num ((b.drop (2 * k)).take 2) = x := ⟨_, rfl⟩
        have hpk := HPN.out k (by have := HHN.out; omega)
        rw [hxx] at GE hnk hpk
        have hpk9 : i * 124 + k < 1024 := by have := HHN.out; omega
        obtain ⟨cM, zM, _⟩ := hI.out.1.at hpk9
        have lM := cell_lt' cM
        have hw16 : IntKind.u16.wrap (x : Int) = (x : Int) := by rw [IntKind.wrap_u16]; omega
        have hfin := Lib.hid (fun (W : World) (hb : Below wr.heap.size wr W) => show Hid (MapV (W.setCell ⟨mb, i * 124 + k, none⟩ (.int .u16 (x : Int))) mb (clrP f i (k + 1) b) ∧ OnlyB mb w5 (W.setCell ⟨mb, i * 124 + k, none⟩ (.int .u16 (x : Int))) ∧ kindOf (W.setCell ⟨mb, i * 124 + k, none⟩ (.int .u16 (x : Int))) mb = kindOf w5 mb) from by
          have h2 := (hI.out.1.keep (hb.block mb lM)).set hpk9 hnk
          rw [hpk] at h2
          exact Lib.hid ⟨h2, (hI.out.2.1.trans (OnlyB.of_below hb)).trans (OnlyB.set _ _ _ _), (kindOf_set (cells_below hb _ _ cM)).trans ((kindOf_same (hb.block mb lM)).trans hI.out.2.2)⟩)
        clear hrv hxx hpk hI
        go_wp2_with (go_at_call 76; refine GE.mono ?_; rintro e w9 ⟨rfl, hb9⟩; have cM9 := cells_below hb9 _ _ cM; have zM9 := (cell_of_heap (a := ⟨mb, i * 124 + k, none⟩) (hb9.block mb lM)).2.trans zM; have lM9 := cell_lt' cM9)
        exact ⟨⟨k + 1, rfl, by omega, hfin.out w9 hb9⟩, measT e⟩
      · have ek : k = h := by omega
        subst ek
        have j1 : ¬ (k : Int) < (k : Int) := by omega
        have HF : Hid (OnlyB mb w5 wr ∧ MapV wr mb (layP f i b) ∧ kindOf wr mb = kindOf w5 mb) := Lib.hid ⟨hI.out.2.1, by rw [← clrP_end (f := f) (i := i) (k := k) (b := b) (by rw [HN.out]; have := HHN.out; omega)]; exact hI.out.1, hI.out.2.2⟩
        clear hI
        go_wp2_with fail
        go_ret
        exact ⟨rfl, HF⟩
end Go.Tb
namespace Go.Tb
open Go Go.RowKit Go.Proofs Go.Maps Go.Sp
def p12 (r : Rt) (v : Value) (mb : Nat) : List Value := [.int .u32 (r.ep : Int), .int .i64 (r.at' 0 : Int), .int .i64 (r.at' 1 : Int), .int .i64 (r.at' 2 : Int), .int .i64 (r.at' 3 : Int), .int .i64 (r.at' 4 : Int), .int .i64 (r.at' 5 : Int), .int .i64 (r.at' 6 : Int), .int .i64 (r.at' 7 : Int), .int .i64 (r.at' 8 : Int), v, .pointer (some ⟨mb, 0, none⟩)]
theorem OnlyB.past {A b : Nat} {w W W' : World} (h : OnlyB A w W) (g : OnlyB b W W') (hb : w.heap.size ≤ b) : OnlyB A w W' :=
  ⟨g.os.trans h.os, g.tape.trans h.tape, g.output.trans h.output, Nat.le_trans h.size g.size, fun k hk hA => (g.block k (Nat.lt_of_lt_of_le hk h.size) (by omega)).trans (h.block k hk hA)⟩
theorem OnlyB.step {γ : Gh} {A : Nat} {w W : World} (h : OnlyB A w W) (hB : γ.B ≤ A) (hw : γ.B ≤ w.heap.size) (hA : Tag γ w A 70) (hk : kindOf W A = kindOf w A) : Step γ (fun T => T == 70) w W :=
  ⟨⟨h.os, h.tape, h.output, h.size, fun k hk2 => by
    exact h.block k (by omega) (by omega)⟩, fun k hk2 hT => h.block k hk2 (fun e => by subst e; have := hT 70 hA; cases this), fun k T hn hk2 ht => by
    by_cases e : k = A
    · subst e; exact (Gh.kind_of hk).trans ht
    · exact ht.same (h.block k hk2 e)⟩
structure WhI (γ : Gh) (w W : World) (A qb bb wb mb N : Nat) (r : Rt) (v : Value) (seen : List Nat) (f : Nat → Nat) : Prop where
  hA : W.heap[A]? = some (.cells (p12 r v mb).toArray 70 (0, 0))
  oA : OnlyB A w W
  q : W.cell? ⟨qb, 0, none⟩ = some (.pointer (some ⟨bb, 0, none⟩))
  sn : SeenV W bb wb N seen
  mp : MapV W mb f
  kd : kindOf W mb = some 109
  pq : w.heap.size ≤ qb
  pb : w.heap.size ≤ bb
  pw : w.heap.size ≤ wb
  pm : w.heap.size ≤ mb
  mw : mb ≠ wb
  mq : mb ≠ qb
  mbb : mb ≠ bb
  qw : qb ≠ wb
  lA : A < w.heap.size
  lm : mb < W.heap.size
  lw : wb < W.heap.size
theorem SeenV.keep {W W' : World} {bb wb N : Nat} {seen : List Nat} (h : SeenV W bb wb N seen) (h1 : W'.heap[bb]? = W.heap[bb]?) (h2 : W'.heap[wb]? = W.heap[wb]?) : SeenV W' bb wb N seen := by
  obtain ⟨ws, hB, hS⟩ := h
  exact ⟨ws, ⟨(cell_of_heap (a := ⟨bb, 0, none⟩) h1).1.trans hB.c0, (cell_of_heap (a := ⟨bb, 1, none⟩) h1).1.trans hB.c1, h2.trans hB.wd, hB.lt, hB.len, hB.ne⟩, hS⟩
theorem SeenV.ltb {W : World} {bb wb N : Nat} {seen : List Nat} (h : SeenV W bb wb N seen) : bb < W.heap.size := by obtain ⟨ws, hB, _⟩ := h; exact cell_lt' hB.c0
theorem WhI.below {γ : Gh} {w W W' : World} {A qb bb wb mb N : Nat} {r : Rt} {v : Value} {seen : List Nat} {f : Nat → Nat} (h : WhI γ w W A qb bb wb mb N r v seen f) (hb : Below W.heap.size W W') : WhI γ w W' A qb bb wb mb N r v seen f :=
  { h with hA := (hb.block A (Nat.lt_of_lt_of_le h.lA h.oA.size)).trans h.hA, oA := h.oA.trans (OnlyB.of_below hb), q := cells_below hb _ _ h.q, sn := h.sn.keep (hb.block _ h.sn.ltb) (hb.block _ h.lw), mp := h.mp.keep (hb.block _ h.lm), kd := (kindOf_same (hb.block _ h.lm)).trans h.kd, lm := Nat.lt_of_lt_of_le h.lm hb.size, lw := Nat.lt_of_lt_of_le h.lw hb.size }
theorem WhI.fresh {γ : Gh} {w W W' : World} {A qb bb wb mb N s : Nat} {r : Rt} {v : Value} {seen : List Nat} {f : Nat → Nat} (h : WhI γ w W A qb bb wb mb N r v seen f) (hb : OnlyB wb W W') (hs : SeenV W' bb wb N (s :: seen)) : WhI γ w W' A qb bb wb mb N r v (s :: seen) f :=
  { h with hA := (hb.block A (Nat.lt_of_lt_of_le h.lA h.oA.size) (by have := h.lA; have := h.pw; omega)).trans h.hA, oA := h.oA.past hb h.pw, q := (cell_of_heap (a := ⟨qb, 0, none⟩) (hb.block qb (cell_lt' h.q) h.qw)).1.trans h.q, sn := hs, mp := h.mp.keep (hb.block _ h.lm h.mw), kd := (kindOf_same (hb.block _ h.lm h.mw)).trans h.kd, lm := Nat.lt_of_lt_of_le h.lm hb.size, lw := Nat.lt_of_lt_of_le h.lw hb.size }
theorem WhI.lay {γ : Gh} {w W W' : World} {A qb bb wb mb N : Nat} {r : Rt} {v : Value} {seen : List Nat} {f f' : Nat → Nat} (h : WhI γ w W A qb bb wb mb N r v seen f) (hb : OnlyB mb W W') (hm : MapV W' mb f') (hk : kindOf W' mb = kindOf W mb) : WhI γ w W' A qb bb wb mb N r v seen f' :=
  { h with hA := (hb.block A (Nat.lt_of_lt_of_le h.lA h.oA.size) (by have := h.lA; have := h.pm; omega)).trans h.hA, oA := h.oA.past hb h.pm, q := (cell_of_heap (a := ⟨qb, 0, none⟩) (hb.block qb (cell_lt' h.q) h.mq.symm)).1.trans h.q, sn := h.sn.keep (hb.block _ h.sn.ltb h.mbb.symm) (hb.block _ h.lw h.mw.symm), mp := hm, kd := hk.trans h.kd, lm := Nat.lt_of_lt_of_le h.lm hb.size, lw := Nat.lt_of_lt_of_le h.lw hb.size }
theorem wparts_stop {d : Dk} {r : Rt} {k : Nat} (h : d.wparts r k = none) : ∀ j, d.wparts r (k + j) = none
  | 0 => h
  | j + 1 => by
    show (d.wparts r (k + j)).bind _ = none
    rw [wparts_stop h j]; rfl
theorem whole_stop {d : Dk} {r : Rt} {k : Nat} (hk : k ≤ 9) (h : d.wparts r k = none) : d.whole r = none := by
  have h9 := wparts_stop h (9 - k)
  rw [show k + (9 - k) = 9 by omega] at h9
  unfold Dk.whole
  split
  · rfl
  · rw [h9]
theorem wpages_drop {d : Dk} {seen l : List Nat} {k s : Nat} (h : l[k]? = some s) : d.wpages seen (l.drop k) = (Sp.fresh d.N seen s && (d.rd s 3).2 && d.wpages (s :: seen) (l.drop (k + 1))) := by
  have : l.drop k = s :: l.drop (k + 1) := by
    have hlt := (List.getElem?_eq_some_iff.1 h).1
    rw [List.drop_eq_getElem_cons hlt, (List.getElem?_eq_some_iff.1 h).2]
  rw [this]; rfl
def WholeP (γ : Gh) (w : World) (A : Nat) (r : Rt) (v : Value) (o : Option Rt) (e : Ending) (w' : World) : Prop :=
  e = .returned (.bool o.isSome) ∧ Hid (OnlyB A w w' ∧ ∀ r', o = some r' → ∃ mb, w'.heap[A]? = some (.cells (p12 r v mb).toArray 70 (0, 0)) ∧ w.heap.size ≤ mb ∧ MapV w' mb r'.pg ∧ kindOf w' mb = some 109)
theorem p12_cells {W : World} {A mb : Nat} {r : Rt} {v : Value} (h : W.heap[A]? = some (.cells (p12 r v mb).toArray 70 (0, 0))) : W.cell? ⟨A, 11, none⟩ = some (.pointer (some ⟨mb, 0, none⟩)) ∧ W.frozen? ⟨A, 11, none⟩ = false := by
  simp [World.cell?, World.frozen?, h, p12]
theorem n12_set11 {W : World} {A mb : Nat} {r : Rt} {v : Value} (h : W.heap[A]? = some (.cells (n12 r v).toArray 70 (0, 0))) : (W.setCell ⟨A, 11, none⟩ (.pointer (some ⟨mb, 0, none⟩))).heap[A]? = some (.cells (p12 r v mb).toArray 70 (0, 0)) := by
  unfold World.setCell
  simp only [Array.getElem?_modify]
  rw [h]
  simp [n12, p12]
theorem seen_zero {W : World} {bb wb N : Nat} (h : BitsV W bb wb N (List.replicate ((N + 63) / 64) 0)) : SeenV W bb wb N [] :=
  ⟨_, h, fun j _ => by
    unfold hasB
    have : (List.replicate ((N + 63) / 64) 0).getD (j / 64) 0 = 0 := by
      rw [List.getD_eq_getElem?_getD, List.getElem?_replicate]
      split <;> rfl
    rw [this]; simp⟩
theorem p12_at {W : World} {A mb k : Nat} {r : Rt} {v : Value} (hk : k < 9) (h : W.heap[A]? = some (.cells (p12 r v mb).toArray 70 (0, 0))) : W.cell? ⟨A, 1 + k, none⟩ = some (.int .i64 (r.at' k : Int)) := by
  have h9 : k = 0 ∨ k = 1 ∨ k = 2 ∨ k = 3 ∨ k = 4 ∨ k = 5 ∨ k = 6 ∨ k = 7 ∨ k = 8 := by omega
  rcases h9 with rfl | rfl | rfl | rfl | rfl | rfl | rfl | rfl | rfl <;> simp [World.cell?, h, p12]
def RowI (W : World) (v : Value) (l : List Nat) : Prop := ∃ a c, v = .slice a l.length c ∧ (0 < l.length → ∃ g cs, a = some ⟨g, 0, none⟩ ∧ W.heap[g]? = some (.cells cs 3 (0, 0)) ∧ ∀ (j x : Nat), l[j]? = some x → W.cell? ⟨g, j, none⟩ = some (.int .i64 (x : Int)))
theorem RowI.below {W W' : World} {v : Value} {l : List Nat} (h : RowI W v l) (hb : Below W.heap.size W W') : RowI W' v l := by
  obtain ⟨a, c, e, h⟩ := h
  refine ⟨a, c, e, fun hp => ?_⟩
  obtain ⟨g, cs, e1, e2, e3⟩ := h hp
  have hbk := hb.block g (Array.getElem?_eq_some_iff.1 e2).1
  exact ⟨g, cs, e1, hbk.trans e2, fun j x hj => (cell_of_heap (a := ⟨g, j, none⟩) hbk).1.trans (e3 j x hj)⟩
theorem RowI.seen {W W' : World} {v : Value} {l : List Nat} {bb wb N : Nat} {seen : List Nat} (h : RowI W v l) (hs : SeenV W bb wb N seen) (hb : OnlyB wb W W') : RowI W' v l := by
  obtain ⟨a, c, e, h⟩ := h
  refine ⟨a, c, e, fun hp => ?_⟩
  obtain ⟨g, cs, e1, e2, e3⟩ := h hp
  have hne : g ≠ wb := fun e => by
    obtain ⟨ws, hB, _⟩ := hs
    rw [e, hB.wd] at e2
    injection e2 with e2
    injection e2 with _ e2
    cases e2
  have hbk := hb.block g (Array.getElem?_eq_some_iff.1 e2).1 hne
  exact ⟨g, cs, e1, hbk.trans e2, fun j x hj => (cell_of_heap (a := ⟨g, j, none⟩) hbk).1.trans (e3 j x hj)⟩
theorem secs_row {x : World} {mb : Nat} {f : Nat → Nat} (hm : MapV x mb f) : Calls Tryz.prog 83 #[.pointer (some ⟨mb, 0, none⟩)] x fun e w' => ∃ a c, e = .returned (.slice a (secs f).length c) ∧ RowI w' (.slice a (secs f).length c) (secs f) ∧ Below x.heap.size x w' := by
  refine (secs_ok hm).mono ?_
  rintro e w' ⟨v, rfl, ho, hb⟩
  have hlen : (secs f).length = (ents f 1024).length := by rw [← secs_eq, List.length_map]
  have hmap : ((ents f 1024).map fun x => encI x.2) = (secs f).map encI := by rw [← secs_eq, List.map_map]; rfl
  rw [hmap, ← hlen] at ho
  rcases ho.2 with ⟨rfl, h0⟩ | ⟨g, cap, cur, rfl, h1, h2, h3, h4, h5, h6⟩
  · refine ⟨none, 0, by rw [h0], ⟨none, 0, rfl, fun hp => by omega⟩, hb⟩
  · refine ⟨some ⟨g, 0, none⟩, cap, rfl, ⟨_, _, rfl, fun hp => ⟨g, cur, rfl, h2, fun j x hj => ?_⟩⟩, hb⟩
    have hlt := (List.getElem?_eq_some_iff.1 hj).1
    have := ho.cellAt j (by omega)
    rw [this, List.getElem?_map, hj]; rfl
theorem whole_ok {γ : Gh} {w : World} {db A : Nat} {d : Dk} {r : Rt} {v : Value} (H : DkV γ w db d) (h0 : γ.lim ≤ w.heap.size) (hok : d.Ok) (hcap : d.P.length < 2000000) (hN1 : 1 ≤ d.N)
    (hA : w.heap[A]? = some (.cells (n12 r v).toArray 70 (0, 0))) (hAl : γ.lim ≤ A) (hv : RV w v r.mt) (hml : r.mt.length ≤ 1000000) :
    Calls Tryz.prog 41 #[.pointer (some ⟨A, 0, none⟩), .pointer (some ⟨db, 0, none⟩)] w (WholeP γ w A r v (d.whole r)) := by
  have hlA := (Array.getElem?_eq_some_iff.1 hA).1
  have hN4 := H.hN
  obtain ⟨sa, so, cc, dd0, _⟩ := H.d0
  have SO := sectors_ok dd0
  have BN := bnew_ok (w := w) d.N hN4 hN1
  have hc10 : w.cell? ⟨A, 10, none⟩ = some v := by simp [World.cell?, hA, n12]
  obtain ⟨va, vc, rfl⟩ := hv.len
  have hDK : Hid (∀ W, OnlyB A w W → kindOf W A = kindOf w A → DkV γ W db d ∧ γ.lim ≤ W.heap.size) := Lib.hid fun W hW hk => ⟨H.keep (hW.step (Nat.le_trans γ.hB hAl) (Nat.le_trans γ.hB h0) (Tag.new hAl hA) hk) ⟨rfl, rfl, rfl, rfl⟩, Nat.le_trans h0 hW.size⟩
  have hDW : Hid (∀ {W qb bb wb mb seen f}, WhI γ w W A qb bb wb mb d.N r (.slice va r.mt.length vc) seen f → DkV γ W db d ∧ γ.lim ≤ W.heap.size) := Lib.hid fun h => hDK.out _ h.oA (by simp [kindOf, h.hA, hA])
  have hHA := Lib.hid hA
  by_cases hm : 200 < r.mt.length
  · have hno : d.whole r = none := by unfold Dk.whole; rw [if_pos hm]
    rw [hno]
    have i1 : decide ((200 : Int) < (r.mt.length : Int)) = true := by rw [decide_eq_true_iff]; omega
    unfold WholeP
    clear H hA hv dd0 hm hno
    go_enter Tryz.func41, Tryz.ntmps41
    go_wp2_with (first
      | (go_at_call 78; refine SO.mono ?_; rintro e w5 ⟨rfl, rfl⟩)
      | (go_at_call 77; refine BN.mono ?_; rintro e w6 ⟨bb, wb, rfl, hq6⟩; have hb6 := Lib.hid hq6.out.2.2.2; have c6 := cells_below hb6.out _ _ hc10; have l6 := cell_lt' c6))
    go_ret
    exact ⟨rfl, Lib.hid ⟨OnlyB.of_below (Below.allocs hb6.out _), fun r' h => nomatch h⟩⟩
  · have i1 : decide ((200 : Int) < (r.mt.length : Int)) = false := by rw [decide_eq_false_iff_not]; omega
    have HM := Lib.hid hm
    obtain ⟨o, ho⟩ : ∃ o, d.whole r = o := ⟨_, rfl⟩
    have HO := Lib.hid ho
    rw [ho]
    unfold WholeP
    clear H hA hv dd0 hm ho
    go_enter Tryz.func41, Tryz.ntmps41
    go_upto_region 5 with (first
      | (go_at_call 78; refine SO.mono ?_; rintro e w5 ⟨rfl, rfl⟩)
      | (go_at_call 77; refine BN.mono ?_; rintro e w6 ⟨bb, wb, rfl, hq6⟩; have hb6 := Lib.hid hq6.out.2.2.2; have c6 := cells_below hb6.out _ _ hc10; have l6 := cell_lt' c6))
    refine take_last ?_
    intro W7 hW7
    have hb7 : Below w6.heap.size w6 W7 := hW7 ▸ Below.alloc (Below.refl _ _) (Nat.le_refl _) _
    have hq7 : W7.heap[w6.heap.size]? = some (.cells #[.pointer (some ⟨bb, 0, none⟩)] 141 (0, 0)) := hW7 ▸ (Go.MapKept.heap_alloc w6 _).1
    have hs7 : W7.heap.size = w6.heap.size + 1 := by rw [← hW7]; simp
    have h57 : Below w5.heap.size w5 W7 := Below.up hb6.out hb7
    have h07 : γ.lim ≤ W7.heap.size := Nat.le_trans h0 h57.size
    have PN := pnew_ok (γ := γ) (w := W7) h07
    have hA7 : W7.heap[A]? = some (.cells (n12 r (.slice va r.mt.length vc)).toArray 70 (0, 0)) := (h57.block A hlA).trans hHA.out
    have FIRST := Lib.hid (fun (W8 : World) (hm : MapK γ W8 W7.heap.size (fun _ => 0)) (hb : Below W7.heap.size W7 W8) => show WhI γ w5 (W8.setCell ⟨A, 11, none⟩ (.pointer (some ⟨W7.heap.size, 0, none⟩))) A w6.heap.size bb wb W7.heap.size d.N r (.slice va r.mt.length vc) [] (fun _ => 0) from by
      obtain ⟨q1, q2, q3, q4⟩ := hq6.out
      have hlt := cell_lt' q1.c0
      have hltw : wb < w6.heap.size := (Array.getElem?_eq_some_iff.1 q1.wd).1
      have h68 : Below w6.heap.size w6 W8 := Below.up hb7 hb
      have hlA7 : A < W7.heap.size := Nat.lt_of_lt_of_le hlA h57.size
      have hA8 := (hb.block A hlA7).trans hA7
      have hset : ∀ k, k ≠ A → (W8.setCell ⟨A, 11, none⟩ (.pointer (some ⟨W7.heap.size, 0, none⟩))).heap[k]? = W8.heap[k]? := fun k hk => heap_setCell_other _ _ _ _ hk
      have hq8 : (W8.setCell ⟨A, 11, none⟩ (.pointer (some ⟨W7.heap.size, 0, none⟩))).heap[w6.heap.size]? = some (.cells #[.pointer (some ⟨bb, 0, none⟩)] 141 (0, 0)) := (hset _ (by have := hb6.out.size; omega)).trans ((hb.block _ (by omega)).trans hq7)
      exact { hA := n12_set11 hA8, oA := (OnlyB.of_below (Below.up h57 hb)).trans (OnlyB.set _ _ _ _), q := by simp [World.cell?, hq8], sn := (seen_zero q1).keep ((hset _ (by omega)).trans (h68.block _ hlt)) ((hset _ (by omega)).trans (h68.block _ hltw)), mp := hm.v.keep (hset _ (by omega)), kd := (kindOf_same (hset _ (by omega))).trans (by
          have h1 := hm.tg
          unfold Tag Gh.kind at h1
          split at h1
          · cases h1
          · rw [γ.new h07] at h1
            exact h1), pq := hb6.out.size, pb := q2, pw := q3, pm := h57.size, mw := by omega, mq := by omega, mbb := by omega, qw := by omega, lA := hlA, lm := by simp [World.setCell]; exact hm.lt, lw := by simp [World.setCell]; exact Nat.lt_of_lt_of_le hltw h68.size })
    have c11 : Hid (∀ W8, Below W7.heap.size W7 W8 → W8.cell? ⟨A, 11, none⟩ = some (.pointer none) ∧ W8.frozen? ⟨A, 11, none⟩ = false) := Lib.hid fun W8 hb => by
      have hA8 := (hb.block A (Nat.lt_of_lt_of_le hlA h57.size)).trans hA7
      simp [World.cell?, World.frozen?, hA8, n12]
    generalize hqb : w6.heap.size = qb at FIRST ⊢
    clear hW7 hq7 hA7 SO BN hqb hs7 hb7 h57
    go_upto_region 6 with (go_at_call 81; refine PN.mono ?_; rintro e w8 ⟨rfl, hq8⟩; obtain ⟨d11, z11⟩ := c11.out _ hq8.out.2; have l11 := cell_lt' d11)
    refine take_last ?_
    intro W9 hW9
    have I9 := FIRST.out w8 hq8.out.1 hq8.out.2
    rw [hW9] at I9
    have HI9 := Lib.hid I9
    generalize hmb : W7.heap.size = mb at HI9 ⊢
    have x0 := p12_at (k := 0) (by decide) I9.hA
    have x1 := p12_at (k := 1) (by decide) I9.hA
    have x2 := p12_at (k := 2) (by decide) I9.hA
    have x3 := p12_at (k := 3) (by decide) I9.hA
    have x4 := p12_at (k := 4) (by decide) I9.hA
    have x5 := p12_at (k := 5) (by decide) I9.hA
    have x6 := p12_at (k := 6) (by decide) I9.hA
    have x7 := p12_at (k := 7) (by decide) I9.hA
    have x8 := p12_at (k := 8) (by decide) I9.hA
    have lA9 := cell_lt' x0
    clear I9 hW9 d11 z11 l11 hq8 FIRST c11 PN hmb
    go_upto_region 7 with fail
    clear x0 x1 x2 x3 x4 x5 x6 x7 x8 lA9
    have HI0 : Hid (∃ seen f, d.wparts r 0 = some (seen, f) ∧ WhI γ w5 W9 A qb bb wb mb d.N r (.slice va r.mt.length vc) seen f) := Lib.hid ⟨_, _, rfl, HI9.out⟩
    clear HI9
    have STOP := Lib.hid (fun (W : World) (k : Nat) (hk : k ≤ 9) (h : d.wparts r k = none) (hO : OnlyB A w5 W) => show Ending.returned (.bool false) = Ending.returned (.bool o.isSome) ∧ Hid (OnlyB A w5 W ∧ ∀ r', o = some r' → ∃ mb, W.heap[A]? = some (.cells (p12 r (.slice va r.mt.length vc) mb).toArray 70 (0, 0)) ∧ w5.heap.size ≤ mb ∧ MapV W mb r'.pg ∧ kindOf W mb = some 109) from by
      have hw := whole_stop hk h
      rw [HO.out] at hw
      subst hw
      exact ⟨rfl, Lib.hid ⟨hO, fun r' h => nomatch h⟩⟩)
    go_loopw [41] (fun u wr => ∃ k : Nat, u = .int .i64 (k : Int) ∧ k ≤ 9 ∧ Hid (∃ seen f, d.wparts r k = some (seen, f) ∧ WhI γ w5 wr A qb bb wb mb d.N r (.slice va r.mt.length vc) seen f)) (fun u _ => 9 - (Go.RowKit.intOf u).toNat)
    case atStart => exact ⟨0, rfl, Nat.zero_le _, HI0⟩
    case round =>
      obtain ⟨k, rfl, hk, hI⟩ := hrel
      obtain ⟨seen, f, hwp, I⟩ := hI.out
      by_cases e : k < 9
      · have j1 : (k : Int) < 9 := by omega
        have j0 : (0 : Int) ≤ (k : Int) := by omega
        have hix := fun W => run_index89 W r.at' e
        obtain ⟨x, hx⟩ : ∃ x, r.at' k = x := ⟨_, rfl⟩
        have hstep : d.wparts r (k + 1) = d.wpart r k (seen, f) := by
          show (d.wparts r k).bind (d.wpart r k) = _
          rw [hwp]; rfl
        simp only [hx] at hix
        have HX := Lib.hid hx
        have HST := Lib.hid hstep
        have HII := Lib.hid I
        clear hI hx hstep hwp
        by_cases hx0 : x = 0
        · have hnext : Hid (∃ seen f, d.wparts r (k + 1) = some (seen, f) ∧ WhI γ w5 wr A qb bb wb mb d.N r (.slice va r.mt.length vc) seen f) := Lib.hid ⟨seen, f, by rw [HST.out]; exact if_pos (HX.out.trans hx0), HII.out⟩
          subst hx0
          clear I
          go_wp2_with fail
          exact ⟨⟨k + 1, rfl, by omega, hnext⟩, measT e⟩
        · have y0 : ((x : Int) == 0) = false := eq0 hx0
          have FR := fresh_ok (s := x) I.q I.sn hN4
          have hq := I.q
          have lq := cell_lt' hq
          cases hfr : Sp.fresh d.N seen x with
          | false =>
            rw [hfr] at FR
            have hno : d.wparts r (k + 1) = none := by
              rw [HST.out]
              unfold Dk.wpart
              rw [HX.out, if_neg hx0, if_neg (fun h => by rw [hfr] at h; simp at h)]
            have HNO := Lib.hid hno
            clear I hno hfr
            go_wp2_with (go_at_call 79; refine FR.mono ?_; rintro e w10 ⟨rfl, hq10⟩)
            go_ret
            exact STOP.out w10 (k + 1) (by omega) HNO.out (HII.out.oA.past hq10.out.1 HII.out.pw)
          | true =>
            rw [hfr] at FR
            have HFR := Lib.hid hfr
            have RDF := Lib.hid (fun (W : World) (h : WhI γ w5 W A qb bb wb mb d.N r (.slice va r.mt.length vc) (x :: seen) f) => rd_ok (hDW.out h).1 (hDW.out h).2 hok hcap x 2 (by decide))
            obtain ⟨y, hy⟩ : ∃ y, (d.rd x 2).2 = y := ⟨_, rfl⟩
            obtain ⟨b, hb⟩ : ∃ b, (d.rd x 2).1 = b := ⟨_, rfl⟩
            have hbl : b.length ≤ 248 := hb ▸ rd_len d x 2
            have hwq : Hid (d.wpart r k (seen, f) = if y = true ∧ b ≠ [] ∧ layOk k b = true then some (x :: seen, layP f k b) else none) := Lib.hid (by
              unfold Dk.wpart
              rw [HX.out, if_neg hx0, hy, hb, hfr]
              simp only [true_and])
            rw [hy, hb] at RDF
            have HBL := Lib.hid hbl
            clear I hfr hy hb
            cases y with
            | false =>
              have HNO := Lib.hid (show d.wparts r (k + 1) = none from by rw [HST.out, hwq.out]; exact if_neg (fun h => by simp at h))
              go_wp2_with (first
                | (go_at_call 79; refine FR.mono ?_; rintro e w10 ⟨rfl, hq10⟩; have I10 := Lib.hid (HII.out.fresh hq10.out.1 (hq10.out.2 rfl)))
                | (go_at_call 75; refine (RDF.out _ I10.out).mono ?_; rintro e w11 ⟨a11, c11, rfl, hq11⟩; have I11 := Lib.hid (I10.out.below hq11.out.2); obtain ⟨c1111, z1111⟩ := p12_cells I11.out.hA; have l1111 := cell_lt' c1111))
              go_ret
              exact STOP.out w11 (k + 1) (by omega) HNO.out I11.out.oA
            | true =>
              by_cases hb0 : b.length = 0
              · have HNO := Lib.hid (show d.wparts r (k + 1) = none from by rw [HST.out, hwq.out]; exact if_neg (fun h => h.2.1 (List.length_eq_zero_iff.1 hb0)))
                have y1 : ((b.length : Int) == 0) = true := by rw [hb0]; rfl
                clear hb0
                go_wp2_with (first
                  | (go_at_call 79; refine FR.mono ?_; rintro e w10 ⟨rfl, hq10⟩; have I10 := Lib.hid (HII.out.fresh hq10.out.1 (hq10.out.2 rfl)))
                  | (go_at_call 75; refine (RDF.out _ I10.out).mono ?_; rintro e w11 ⟨a11, c11, rfl, hq11⟩; have I11 := Lib.hid (I10.out.below hq11.out.2); obtain ⟨c1111, z1111⟩ := p12_cells I11.out.hA; have l1111 := cell_lt' c1111))
                go_ret
                exact STOP.out w11 (k + 1) (by omega) HNO.out I11.out.oA
              · have y1 : ((b.length : Int) == 0) = false := eq0 hb0
                have HB0 : Hid (b ≠ []) := Lib.hid fun h => hb0 (by rw [h]; rfl)
                clear hb0
                have HVM : Hid (∀ (W : World) (v' : Value) (base : Nat), RN base W v' b → kindOf W mb = some 109 → ∀ g o n c, v' = .slice (some ⟨g, o, none⟩) n c → b ≠ [] → g ≠ mb) := Lib.hid fun W v' base hrn hkd g o n c hv' hbn hgm => by
                  obtain ⟨a', c', e1, e2, e3⟩ := hrn
                  obtain ⟨g', o', r', cs', f1, f2, f3, f4⟩ := e3 (by cases b with | nil => exact absurd rfl hbn | cons => simp)
                  rw [e1, f1] at hv'
                  injection hv' with hv1 _ _
                  injection hv1 with hv1
                  injection hv1 with hv1 _ _
                  subst hv1
                  rw [hgm] at f3
                  simp [kindOf, f3] at hkd
                cases hlo : layOk k b with
                | false =>
                  have HNO := Lib.hid (show d.wparts r (k + 1) = none from by rw [HST.out, hwq.out]; exact if_neg (fun h => by rw [hlo] at h; simp at h))
                  have LN := Lib.hid (fun (W : World) (h : WhI γ w5 W A qb bb wb mb d.N r (.slice va r.mt.length vc) (x :: seen) f) (v' : Value) (hv' : RV W v' b) => lay_no h.mp e hv' HBL.out hlo)
                  clear hlo
                  go_wp2_with (first
                    | (go_at_call 79; refine FR.mono ?_; rintro e w10 ⟨rfl, hq10⟩; have I10 := Lib.hid (HII.out.fresh hq10.out.1 (hq10.out.2 rfl)))
                    | (go_at_call 75; refine (RDF.out _ I10.out).mono ?_; rintro e w11 ⟨a11, c11, rfl, hq11⟩; have I11 := Lib.hid (I10.out.below hq11.out.2); obtain ⟨c1111, z1111⟩ := p12_cells I11.out.hA; have l1111 := cell_lt' c1111)
                    | (go_at_call 82; refine (LN.out _ I11.out _ hq11.out.1.rv).mono ?_; rintro e w12 ⟨rfl, rfl⟩))
                  go_ret
                  exact STOP.out _ (k + 1) (by omega) HNO.out I11.out.oA
                | true =>
                  have HYES := Lib.hid (show d.wparts r (k + 1) = some (x :: seen, layP f k b) from by rw [HST.out, hwq.out]; exact if_pos ⟨rfl, HB0.out, hlo⟩)
                  have LY := Lib.hid (fun (W : World) (h : WhI γ w5 W A qb bb wb mb d.N r (.slice va r.mt.length vc) (x :: seen) f) (v' : Value) (base : Nat) (hv' : RN base W v' b) => lay_yes h.mp e hv'.rv (fun g o n c hvv => HVM.out W v' base hv' h.kd g o n c hvv HB0.out) HBL.out hlo)
                  clear hlo
                  go_wp2_with (first
                    | (go_at_call 79; refine FR.mono ?_; rintro e w10 ⟨rfl, hq10⟩; have I10 := Lib.hid (HII.out.fresh hq10.out.1 (hq10.out.2 rfl)))
                    | (go_at_call 75; refine (RDF.out _ I10.out).mono ?_; rintro e w11 ⟨a11, c11, rfl, hq11⟩; have I11 := Lib.hid (I10.out.below hq11.out.2); obtain ⟨c1111, z1111⟩ := p12_cells I11.out.hA; have l1111 := cell_lt' c1111)
                    | (go_at_call 82; refine (LY.out _ I11.out _ _ hq11.out.1).mono ?_; rintro e w12 ⟨rfl, hq12⟩))
                  exact ⟨⟨k + 1, rfl, by omega, Lib.hid ⟨_, _, HYES.out, I11.out.lay hq12.out.1 hq12.out.2.1 hq12.out.2.2⟩⟩, measT e⟩
      · have ek : k = 9 := by omega
        subst ek
        have j1 : ¬ ((9 : Nat) : Int) < 9 := by omega
        have SR := secs_row I.mp
        have HII := Lib.hid I
        have HWP := Lib.hid hwp
        obtain ⟨c1111, z1111⟩ := p12_cells I.hA
        have l1111 := cell_lt' c1111
        obtain ⟨l, hl⟩ : ∃ l, secs f = l := ⟨_, rfl⟩
        rw [hl] at SR
        obtain ⟨n, hn⟩ : ∃ n, l.length = n := ⟨_, rfl⟩
        have hn4 : n ≤ 1024 := by
          rw [← hn, ← hl]
          unfold secs pgs
          rw [List.length_map]
          have := List.length_filter_le (fun p => decide (0 < f p)) (List.range 1024)
          simpa using this
        rw [hn] at SR
        have HL := Lib.hid hl
        have HNN := Lib.hid hn
        clear hI I hwp hl hn STOP
        go_upto_region 17 with (go_at_call 83; refine SR.mono ?_; rintro e w12 ⟨a12, c12, rfl, hr12, hb12⟩; have HR12 := Lib.hid hr12; have I12 := Lib.hid (HII.out.below hb12); clear hr12 hb12)
        have HI1 : Hid (∃ seen', WhI γ w5 w12 A qb bb wb mb d.N r (.slice va r.mt.length vc) seen' f ∧ RowI w12 (.slice a12 n c12) l ∧ d.wpages seen l = d.wpages seen' (l.drop 0)) := Lib.hid ⟨seen, I12.out, HR12.out, by rw [List.drop_zero]⟩
        have hwh : Hid (∀ b, d.wpages seen l = b → o = if b = true then some { r with pg := f } else none) := Lib.hid fun b hb => by
          rw [← HO.out]
          unfold Dk.whole
          rw [if_neg HM.out, HWP.out]
          simp only [HL.out, hb]
        clear I12 HR12 c1111 z1111 l1111
        go_loopw [81] (fun u wr => ∃ k : Nat, u = .int .i64 (k : Int) ∧ k ≤ n ∧ Hid (∃ seen', WhI γ w5 wr A qb bb wb mb d.N r (.slice va r.mt.length vc) seen' f ∧ RowI wr (.slice a12 n c12) l ∧ d.wpages seen l = d.wpages seen' (l.drop k))) (fun u _ => n - (Go.RowKit.intOf u).toNat)
        case atStart => exact ⟨0, rfl, Nat.zero_le _, HI1⟩
        case round =>
          obtain ⟨k, rfl, hk, hI⟩ := hrel
          obtain ⟨seen', I, hrow, hwp'⟩ := hI.out
          by_cases e : k < n
          · have j1 : (k : Int) < (n : Int) := by omega
            have j0 : (0 : Int) ≤ (k : Int) := by omega
            obtain ⟨x, hx⟩ : ∃ x, l[k]? = some x := ⟨_, List.getElem?_eq_getElem (by rw [HNN.out]; exact e)⟩
            rw [wpages_drop hx] at hwp'
            obtain ⟨a', c', e1, e2⟩ := hrow
            injection e1 with e1 e3 e4
            subst e1 e4
            obtain ⟨g, cs, rfl, hg1, hg2⟩ := e2 (by rw [HNN.out]; omega)
            have cx := hg2 k x hx
            have HROW : Hid (RowI wr (.slice (some ⟨g, 0, none⟩) n c12) l) := Lib.hid ⟨_, _, by rw [HNN.out], fun _ => ⟨g, cs, rfl, hg1, hg2⟩⟩
            have FR := fresh_ok (s := x) I.q I.sn hN4
            have hq := I.q
            have lq := cell_lt' hq
            have HII := Lib.hid I
            have HWPP := Lib.hid hwp'
            have ENDN := Lib.hid (fun (W : World) (hO : OnlyB A w5 W) (hw : d.wpages seen l = false) => show Ending.returned (.bool false) = Ending.returned (.bool o.isSome) ∧ Hid (OnlyB A w5 W ∧ ∀ r', o = some r' → ∃ mb, W.heap[A]? = some (.cells (p12 r (.slice va r.mt.length vc) mb).toArray 70 (0, 0)) ∧ w5.heap.size ≤ mb ∧ MapV W mb r'.pg ∧ kindOf W mb = some 109) from by
              have ho := hwh.out _ hw
              simp only [Bool.false_eq_true, if_false] at ho
              rw [ho]
              exact ⟨rfl, Lib.hid ⟨hO, fun r' h => nomatch h⟩⟩)
            clear hI I hwp' hx hg1 hg2 e2 e3
            cases hfr : Sp.fresh d.N seen' x with
            | false =>
              rw [hfr] at FR
              have HNO := Lib.hid (show d.wpages seen l = false from by rw [HWPP.out, hfr]; rfl)
              clear hfr
              go_wp2_with (go_at_call 79; refine FR.mono ?_; rintro e w20 ⟨rfl, hq20⟩)
              go_ret
              exact ENDN.out w20 (HII.out.oA.past hq20.out.1 HII.out.pw) HNO.out
            | true =>
              rw [hfr] at FR
              have RDF := Lib.hid (fun (W : World) (h : WhI γ w5 W A qb bb wb mb d.N r (.slice va r.mt.length vc) (x :: seen') f) => rd_ok (hDW.out h).1 (hDW.out h).2 hok hcap x 3 (by decide))
              obtain ⟨y, hy⟩ : ∃ y, (d.rd x 3).2 = y := ⟨_, rfl⟩
              obtain ⟨b, hb⟩ : ∃ b, (d.rd x 3).1 = b := ⟨_, rfl⟩
              have HW2 : Hid (d.wpages seen l = (y && d.wpages (x :: seen') (l.drop (k + 1)))) := Lib.hid (by rw [HWPP.out, hfr, hy]; simp)
              rw [hy, hb] at RDF
              clear hfr hy hb
              cases y with
              | false =>
                have HNO := Lib.hid (show d.wpages seen l = false from by rw [HW2.out]; rfl)
                go_wp2_with (first
                  | (go_at_call 79; refine FR.mono ?_; rintro e w20 ⟨rfl, hq20⟩; have I20 := Lib.hid (HII.out.fresh hq20.out.1 (hq20.out.2 rfl)))
                  | (go_at_call 75; refine (RDF.out _ I20.out).mono ?_; rintro e w21 ⟨a21, c21, rfl, hq21⟩))
                go_ret
                exact ENDN.out w21 (I20.out.below hq21.out.2).oA HNO.out
              | true =>
                go_wp2_with (first
                  | (go_at_call 79; refine FR.mono ?_; rintro e w20 ⟨rfl, hq20⟩; have I20 := Lib.hid (HII.out.fresh hq20.out.1 (hq20.out.2 rfl)); have R20 := Lib.hid (HROW.out.seen HII.out.sn hq20.out.1))
                  | (go_at_call 75; refine (RDF.out _ I20.out).mono ?_; rintro e w21 ⟨a21, c21, rfl, hq21⟩))
                exact ⟨⟨k + 1, rfl, by omega, Lib.hid ⟨x :: seen', I20.out.below hq21.out.2, R20.out.below hq21.out.2, by rw [HW2.out]; simp⟩⟩, measT e⟩
          · have ek : k = n := by omega
            subst ek
            have j1 : ¬ (k : Int) < (k : Int) := by omega
            have HF := Lib.hid (show true = o.isSome ∧ OnlyB A w5 wr ∧ ∀ r', o = some r' → ∃ mb, wr.heap[A]? = some (.cells (p12 r (.slice va r.mt.length vc) mb).toArray 70 (0, 0)) ∧ w5.heap.size ≤ mb ∧ MapV wr mb r'.pg ∧ kindOf wr mb = some 109 from by
              rw [List.drop_eq_nil_of_le (by rw [HNN.out]; exact Nat.le_refl _)] at hwp'
              have ho := hwh.out _ hwp'
              rw [show d.wpages seen' [] = true from rfl] at ho
              simp only [if_true] at ho
              subst ho
              exact ⟨rfl, I.oA, fun r' h => by injection h with h; subst h; exact ⟨mb, I.hA, I.pm, I.mp, I.kd⟩⟩)
            clear hI I hrow hwp'
            go_wp2_with fail
            go_ret
            exact ⟨by rw [← HF.out.1]; rfl, Lib.hid HF.out.2⟩
end Go.Tb
