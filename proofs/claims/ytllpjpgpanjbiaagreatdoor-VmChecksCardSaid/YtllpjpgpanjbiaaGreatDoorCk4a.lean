/- A part of the proof of VmChecks: what a function of the program or of the reference answers, walked by hand. Each theorem says its own conditions. -/
import Derived.Test.YtllpjpgpanjbiaaGreatDoorCk3
set_option linter.unusedVariables false
set_option linter.unusedSimpArgs false
set_option maxRecDepth 100000
set_option maxHeartbeats 8000000
namespace Go.Ck
open Go Go.RowKit Go.Proofs
theorem opsC_6 : OpsC 6 := by
  intro w kb m fc r rc n B ca ra cc g1 o1 f x k0 k1 hf hm hn hr c0 hT hB ha hx
  have l0 := cell_lt' k0; have l1 := cell_lt' c0
  have HS : Hid (∀ y, Below w.heap.size w y → y.cell? ⟨kb, 0, none⟩ = some (.slice (some ⟨g1, o1, none⟩) m fc) ∧ y.cell? ⟨kb, 1, none⟩ = some (.slice ra r rc) ∧ y.cell? ⟨g1, o1 + f, none⟩ = some (.slice ca n cc)) := Lib.hid fun y hy =>
    ⟨by rw [hy.cell (by exact l0)]; exact k0, by rw [hy.cell (by exact l0)]; exact k1, by rw [hy.cell (by exact l1)]; exact c0⟩
  obtain ⟨op, a, b, c, t⟩ := x
  simp only at hx ha
  subst hx
  have HTK : Hid (∀ y, Below w.heap.size w y → Calls Tryz.prog 46 #[.string t] y fun e w' => e = .returned (.tuple #[.int .i64 (takesN t), .bool (isPrim t)]) ∧ Hid (Below y.heap.size y w')) := Lib.hid fun y hy => (hT y t (hy.mono hB)).mono fun e w' ⟨h1, h2⟩ => ⟨h1, Lib.hid h2⟩
  have HA := Lib.hid ha
  clear k0 k1 c0 l0 l1 hT hB ha
  have i1 : (f : Int) < (m : Int) := by omega
  have i0 : (0 : Int) ≤ (f : Int) := by omega
  have im : (m : Int) ≤ 60000 := by omega
  unfold insA
  simp only
  go_enter Tryz.func25, Tryz.ntmps25
  go_wp2
  have HB4 : Hid (Below w.heap.size w (((((w.alloc (.cells #[.int .u8 6, .int .i64 a, .int .i64 b, .int .i64 c, .string t] 48)).alloc (.cells #[.int .i64 0, .int .i64 0] 107)).alloc (.cells #[.int .i64 0, .int .i64 0] 107)).alloc (.cells #[.int .i64 0, .int .i64 0] 107)).drew)) := Lib.hid (((((((Below.refl _ _).alloc (Nat.le_refl _) _).alloc (by simp) _).alloc (by simp; omega) _).alloc (by simp; omega) _)).drew)
  obtain ⟨s1, s2, s3⟩ := HS.out _ HB4.out
  clear HS
  go_region_held3 (fun z => z = (((((w.alloc (.cells #[.int .u8 6, .int .i64 a, .int .i64 b, .int .i64 c, .string t] 48)).alloc (.cells #[.int .i64 0, .int .i64 0] 107)).alloc (.cells #[.int .i64 0, .int .i64 0] 107)).alloc (.cells #[.int .i64 0, .int .i64 0] 107)).drew)) ((first | rfl | assumption)) (fail)
  clear HTK HB4
  have ha := HA.out
  by_cases ht : t.size = 0
  · obtain rfl := str0 ht
    go_wp2
    all_goals go_ret
    all_goals refine ⟨?_, ?_⟩
    all_goals first | (repeat' first | exact Below.refl _ _ | refine Below.drew ?_ | refine Below.alloc ?_ (by first | omega | (simp; done) | (simp; omega)) _ | refine Below.setCell ?_ (by first | omega | (simp; done) | (simp; omega)) _) | skip
    all_goals (show Ending.returned (Value.bool _) = Ending.returned (Value.bool _); refine congrArg (fun z => Ending.returned (Value.bool z)) ?_)
    all_goals first | exact (opB_f (by simp [opP, empty0]; omega)).symm | exact (opB_t (by simp [opP, empty0]; omega)).symm | (refine decide_eq_decide.2 ?_; simp [opP, empty0]; omega)
  · have e0 : t.toList.isEmpty = false := str_ne0 ht
    go_wp2
    all_goals go_ret
    all_goals refine ⟨?_, ?_⟩
    all_goals first | (repeat' first | exact Below.refl _ _ | refine Below.drew ?_ | refine Below.alloc ?_ (by first | omega | (simp; done) | (simp; omega)) _ | refine Below.setCell ?_ (by first | omega | (simp; done) | (simp; omega)) _) | skip
    all_goals (show Ending.returned (Value.bool _) = Ending.returned (Value.bool _); refine congrArg (fun z => Ending.returned (Value.bool z)) ?_)
    all_goals exact (opB_f (by simp [opP, ht])).symm
theorem opsC_9 : OpsC 9 := by
  intro w kb m fc r rc n B ca ra cc g1 o1 f x k0 k1 hf hm hn hr c0 hT hB ha hx
  have l0 := cell_lt' k0; have l1 := cell_lt' c0
  have HS : Hid (∀ y, Below w.heap.size w y → y.cell? ⟨kb, 0, none⟩ = some (.slice (some ⟨g1, o1, none⟩) m fc) ∧ y.cell? ⟨kb, 1, none⟩ = some (.slice ra r rc) ∧ y.cell? ⟨g1, o1 + f, none⟩ = some (.slice ca n cc)) := Lib.hid fun y hy =>
    ⟨by rw [hy.cell (by exact l0)]; exact k0, by rw [hy.cell (by exact l0)]; exact k1, by rw [hy.cell (by exact l1)]; exact c0⟩
  obtain ⟨op, a, b, c, t⟩ := x
  simp only at hx ha
  subst hx
  have HTK : Hid (∀ y, Below w.heap.size w y → Calls Tryz.prog 46 #[.string t] y fun e w' => e = .returned (.tuple #[.int .i64 (takesN t), .bool (isPrim t)]) ∧ Hid (Below y.heap.size y w')) := Lib.hid fun y hy => (hT y t (hy.mono hB)).mono fun e w' ⟨h1, h2⟩ => ⟨h1, Lib.hid h2⟩
  have HA := Lib.hid ha
  clear k0 k1 c0 l0 l1 hT hB ha
  have i1 : (f : Int) < (m : Int) := by omega
  have i0 : (0 : Int) ≤ (f : Int) := by omega
  have im : (m : Int) ≤ 60000 := by omega
  unfold insA
  simp only
  go_enter Tryz.func25, Tryz.ntmps25
  go_wp2
  have HB4 : Hid (Below w.heap.size w (((((w.alloc (.cells #[.int .u8 9, .int .i64 a, .int .i64 b, .int .i64 c, .string t] 48)).alloc (.cells #[.int .i64 0, .int .i64 0] 107)).alloc (.cells #[.int .i64 0, .int .i64 0] 107)).alloc (.cells #[.int .i64 0, .int .i64 0] 107)).drew)) := Lib.hid (((((((Below.refl _ _).alloc (Nat.le_refl _) _).alloc (by simp) _).alloc (by simp; omega) _).alloc (by simp; omega) _)).drew)
  obtain ⟨s1, s2, s3⟩ := HS.out _ HB4.out
  clear HS
  go_region_held3 (fun z => z = (((((w.alloc (.cells #[.int .u8 9, .int .i64 a, .int .i64 b, .int .i64 c, .string t] 48)).alloc (.cells #[.int .i64 0, .int .i64 0] 107)).alloc (.cells #[.int .i64 0, .int .i64 0] 107)).alloc (.cells #[.int .i64 0, .int .i64 0] 107)).drew)) ((first | rfl | assumption)) (fail)
  clear HTK HB4
  by_cases ht : t.size = 0
  · obtain rfl := str0 ht
    go_wp2
    all_goals go_ret
    all_goals refine ⟨?_, ?_⟩
    all_goals first | (repeat' first | exact Below.refl _ _ | refine Below.drew ?_ | refine Below.alloc ?_ (by first | omega | (simp; done) | (simp; omega)) _ | refine Below.setCell ?_ (by first | omega | (simp; done) | (simp; omega)) _) | skip
    all_goals (show Ending.returned (Value.bool _) = Ending.returned (Value.bool _); refine congrArg (fun z => Ending.returned (Value.bool z)) ?_)
    all_goals first | exact (opB_f (by simp [opP, empty0]; omega)).symm | exact (opB_t (by simp [opP, empty0]; omega)).symm | (refine decide_eq_decide.2 ?_; simp [opP, empty0]; omega)
  · have e0 : t.toList.isEmpty = false := str_ne0 ht
    go_wp2
    all_goals go_ret
    all_goals refine ⟨?_, ?_⟩
    all_goals first | (repeat' first | exact Below.refl _ _ | refine Below.drew ?_ | refine Below.alloc ?_ (by first | omega | (simp; done) | (simp; omega)) _ | refine Below.setCell ?_ (by first | omega | (simp; done) | (simp; omega)) _) | skip
    all_goals (show Ending.returned (Value.bool _) = Ending.returned (Value.bool _); refine congrArg (fun z => Ending.returned (Value.bool z)) ?_)
    all_goals exact (opB_f (by simp [opP, ht])).symm
theorem opsC_14 : OpsC 14 := by
  intro w kb m fc r rc n B ca ra cc g1 o1 f x k0 k1 hf hm hn hr c0 hT hB ha hx
  have l0 := cell_lt' k0; have l1 := cell_lt' c0
  have HS : Hid (∀ y, Below w.heap.size w y → y.cell? ⟨kb, 0, none⟩ = some (.slice (some ⟨g1, o1, none⟩) m fc) ∧ y.cell? ⟨kb, 1, none⟩ = some (.slice ra r rc) ∧ y.cell? ⟨g1, o1 + f, none⟩ = some (.slice ca n cc)) := Lib.hid fun y hy =>
    ⟨by rw [hy.cell (by exact l0)]; exact k0, by rw [hy.cell (by exact l0)]; exact k1, by rw [hy.cell (by exact l1)]; exact c0⟩
  obtain ⟨op, a, b, c, t⟩ := x
  simp only at hx ha
  subst hx
  have HTK : Hid (∀ y, Below w.heap.size w y → Calls Tryz.prog 46 #[.string t] y fun e w' => e = .returned (.tuple #[.int .i64 (takesN t), .bool (isPrim t)]) ∧ Hid (Below y.heap.size y w')) := Lib.hid fun y hy => (hT y t (hy.mono hB)).mono fun e w' ⟨h1, h2⟩ => ⟨h1, Lib.hid h2⟩
  have HA := Lib.hid ha
  clear k0 k1 c0 l0 l1 hT hB ha
  have i1 : (f : Int) < (m : Int) := by omega
  have i0 : (0 : Int) ≤ (f : Int) := by omega
  have im : (m : Int) ≤ 60000 := by omega
  unfold insA
  simp only
  go_enter Tryz.func25, Tryz.ntmps25
  go_wp2
  have HB4 : Hid (Below w.heap.size w (((((w.alloc (.cells #[.int .u8 14, .int .i64 a, .int .i64 b, .int .i64 c, .string t] 48)).alloc (.cells #[.int .i64 0, .int .i64 0] 107)).alloc (.cells #[.int .i64 0, .int .i64 0] 107)).alloc (.cells #[.int .i64 0, .int .i64 0] 107)).drew)) := Lib.hid (((((((Below.refl _ _).alloc (Nat.le_refl _) _).alloc (by simp) _).alloc (by simp; omega) _).alloc (by simp; omega) _)).drew)
  obtain ⟨s1, s2, s3⟩ := HS.out _ HB4.out
  clear HS
  go_region_held3 (fun z => z = (((((w.alloc (.cells #[.int .u8 14, .int .i64 a, .int .i64 b, .int .i64 c, .string t] 48)).alloc (.cells #[.int .i64 0, .int .i64 0] 107)).alloc (.cells #[.int .i64 0, .int .i64 0] 107)).alloc (.cells #[.int .i64 0, .int .i64 0] 107)).drew)) ((first | rfl | assumption)) (fail)
  clear HTK HB4
  by_cases ht : t.size = 0
  · obtain rfl := str0 ht
    go_wp2
    all_goals go_ret
    all_goals refine ⟨?_, ?_⟩
    all_goals first | (repeat' first | exact Below.refl _ _ | refine Below.drew ?_ | refine Below.alloc ?_ (by first | omega | (simp; done) | (simp; omega)) _ | refine Below.setCell ?_ (by first | omega | (simp; done) | (simp; omega)) _) | skip
    all_goals (show Ending.returned (Value.bool _) = Ending.returned (Value.bool _); refine congrArg (fun z => Ending.returned (Value.bool z)) ?_)
    all_goals first | exact (opB_f (by simp [opP, empty0]; omega)).symm | exact (opB_t (by simp [opP, empty0]; omega)).symm | (refine decide_eq_decide.2 ?_; simp [opP, empty0]; omega)
  · have e0 : t.toList.isEmpty = false := str_ne0 ht
    go_wp2
    all_goals go_ret
    all_goals refine ⟨?_, ?_⟩
    all_goals first | (repeat' first | exact Below.refl _ _ | refine Below.drew ?_ | refine Below.alloc ?_ (by first | omega | (simp; done) | (simp; omega)) _ | refine Below.setCell ?_ (by first | omega | (simp; done) | (simp; omega)) _) | skip
    all_goals (show Ending.returned (Value.bool _) = Ending.returned (Value.bool _); refine congrArg (fun z => Ending.returned (Value.bool z)) ?_)
    all_goals exact (opB_f (by simp [opP, ht])).symm
theorem opsC_21 : OpsC 21 := by
  intro w kb m fc r rc n B ca ra cc g1 o1 f x k0 k1 hf hm hn hr c0 hT hB ha hx
  have l0 := cell_lt' k0; have l1 := cell_lt' c0
  have HS : Hid (∀ y, Below w.heap.size w y → y.cell? ⟨kb, 0, none⟩ = some (.slice (some ⟨g1, o1, none⟩) m fc) ∧ y.cell? ⟨kb, 1, none⟩ = some (.slice ra r rc) ∧ y.cell? ⟨g1, o1 + f, none⟩ = some (.slice ca n cc)) := Lib.hid fun y hy =>
    ⟨by rw [hy.cell (by exact l0)]; exact k0, by rw [hy.cell (by exact l0)]; exact k1, by rw [hy.cell (by exact l1)]; exact c0⟩
  obtain ⟨op, a, b, c, t⟩ := x
  simp only at hx ha
  subst hx
  have HTK : Hid (∀ y, Below w.heap.size w y → Calls Tryz.prog 46 #[.string t] y fun e w' => e = .returned (.tuple #[.int .i64 (takesN t), .bool (isPrim t)]) ∧ Hid (Below y.heap.size y w')) := Lib.hid fun y hy => (hT y t (hy.mono hB)).mono fun e w' ⟨h1, h2⟩ => ⟨h1, Lib.hid h2⟩
  have HA := Lib.hid ha
  clear k0 k1 c0 l0 l1 hT hB ha
  have i1 : (f : Int) < (m : Int) := by omega
  have i0 : (0 : Int) ≤ (f : Int) := by omega
  have im : (m : Int) ≤ 60000 := by omega
  unfold insA
  simp only
  go_enter Tryz.func25, Tryz.ntmps25
  go_wp2
  have HB4 : Hid (Below w.heap.size w (((((w.alloc (.cells #[.int .u8 21, .int .i64 a, .int .i64 b, .int .i64 c, .string t] 48)).alloc (.cells #[.int .i64 0, .int .i64 0] 107)).alloc (.cells #[.int .i64 0, .int .i64 0] 107)).alloc (.cells #[.int .i64 0, .int .i64 0] 107)).drew)) := Lib.hid (((((((Below.refl _ _).alloc (Nat.le_refl _) _).alloc (by simp) _).alloc (by simp; omega) _).alloc (by simp; omega) _)).drew)
  obtain ⟨s1, s2, s3⟩ := HS.out _ HB4.out
  clear HS
  go_region_held3 (fun z => z = (((((w.alloc (.cells #[.int .u8 21, .int .i64 a, .int .i64 b, .int .i64 c, .string t] 48)).alloc (.cells #[.int .i64 0, .int .i64 0] 107)).alloc (.cells #[.int .i64 0, .int .i64 0] 107)).alloc (.cells #[.int .i64 0, .int .i64 0] 107)).drew)) ((first | rfl | assumption)) (fail)
  clear HTK HB4
  by_cases ht : t.size = 0
  · obtain rfl := str0 ht
    go_wp2
    all_goals go_ret
    all_goals refine ⟨?_, ?_⟩
    all_goals first | (repeat' first | exact Below.refl _ _ | refine Below.drew ?_ | refine Below.alloc ?_ (by first | omega | (simp; done) | (simp; omega)) _ | refine Below.setCell ?_ (by first | omega | (simp; done) | (simp; omega)) _) | skip
    all_goals (show Ending.returned (Value.bool _) = Ending.returned (Value.bool _); refine congrArg (fun z => Ending.returned (Value.bool z)) ?_)
    all_goals first | exact (opB_f (by simp [opP, empty0]; omega)).symm | exact (opB_t (by simp [opP, empty0]; omega)).symm | (refine decide_eq_decide.2 ?_; simp [opP, empty0]; omega)
  · have e0 : t.toList.isEmpty = false := str_ne0 ht
    go_wp2
    all_goals go_ret
    all_goals refine ⟨?_, ?_⟩
    all_goals first | (repeat' first | exact Below.refl _ _ | refine Below.drew ?_ | refine Below.alloc ?_ (by first | omega | (simp; done) | (simp; omega)) _ | refine Below.setCell ?_ (by first | omega | (simp; done) | (simp; omega)) _) | skip
    all_goals (show Ending.returned (Value.bool _) = Ending.returned (Value.bool _); refine congrArg (fun z => Ending.returned (Value.bool z)) ?_)
    all_goals exact (opB_f (by simp [opP, ht])).symm
end Go.Ck
namespace Go.Ck
open Go Go.RowKit Go.Proofs
theorem opsC_0 {w : World} {kb m fc r rc n B : Nat} {ca ra : Option Addr} {cc g1 o1 f : Nat} {x : Ins}
    (k0 : w.cell? ⟨kb, 0, none⟩ = some (.slice (some ⟨g1, o1, none⟩) m fc)) (k1 : w.cell? ⟨kb, 1, none⟩ = some (.slice ra r rc)) (hf : f < m) (hm : m ≤ 60000) (hn : n ≤ 60000) (hr : r ≤ 60000)
    (c0 : w.cell? ⟨g1, o1 + f, none⟩ = some (.slice ca n cc)) (hT : TakesV B w) (hB : B ≤ w.heap.size) (ha : -9223372036854775808 ≤ x.a ∧ x.a ≤ 9223372036854775807) (hx : x.op ≠ 1 ∧ x.op ≠ 2 ∧ x.op ≠ 3 ∧ x.op ≠ 4 ∧ x.op ≠ 5 ∧ x.op ≠ 6 ∧ x.op ≠ 7 ∧ x.op ≠ 8 ∧ x.op ≠ 9 ∧ x.op ≠ 10 ∧ x.op ≠ 11 ∧ x.op ≠ 12 ∧ x.op ≠ 13 ∧ x.op ≠ 14 ∧ x.op ≠ 15 ∧ x.op ≠ 16 ∧ x.op ≠ 17 ∧ x.op ≠ 18 ∧ x.op ≠ 19 ∧ x.op ≠ 20 ∧ x.op ≠ 21 ∧ x.op ≠ 22 ∧ x.op ≠ 23 ∧ x.op ≠ 24 ∧ x.op ≠ 25) :
    Calls Tryz.prog 25 #[.pointer (some ⟨kb, 0, none⟩), .int .i64 f, insA x] w fun e w' => e = .returned (.bool (opB m n r x)) ∧ Below w.heap.size w w' := by
  have l0 := cell_lt' k0; have l1 := cell_lt' c0
  have HS : Hid (∀ y, Below w.heap.size w y → y.cell? ⟨kb, 0, none⟩ = some (.slice (some ⟨g1, o1, none⟩) m fc) ∧ y.cell? ⟨kb, 1, none⟩ = some (.slice ra r rc) ∧ y.cell? ⟨g1, o1 + f, none⟩ = some (.slice ca n cc)) := Lib.hid fun y hy =>
    ⟨by rw [hy.cell (by exact l0)]; exact k0, by rw [hy.cell (by exact l0)]; exact k1, by rw [hy.cell (by exact l1)]; exact c0⟩
  obtain ⟨op, a, b, c, t⟩ := x
  simp only at hx ha
  obtain ⟨n1, n2, n3, n4, n5, n6, n7, n8, n9, n10, n11, n12, n13, n14, n15, n16, n17, n18, n19, n20, n21, n22, n23, n24, n25⟩ := hx
  have hop : opB m n r ⟨op, a, b, c, t⟩ = false := opB_f (by simp [opP, n1, n2, n3, n4, n5, n6, n7, n8, n9, n10, n11, n12, n13, n14, n15, n16, n17, n18, n19, n20, n21, n22, n23, n24, n25])
  rw [hop]
  have e1 : (op == 1) = false := by simpa using n1
  have e2 : (op == 2) = false := by simpa using n2
  have e3 : (op == 3) = false := by simpa using n3
  have e4 : (op == 4) = false := by simpa using n4
  have e5 : (op == 5) = false := by simpa using n5
  have e6 : (op == 6) = false := by simpa using n6
  have e7 : (op == 7) = false := by simpa using n7
  have e8 : (op == 8) = false := by simpa using n8
  have e9 : (op == 9) = false := by simpa using n9
  have e10 : (op == 10) = false := by simpa using n10
  have e11 : (op == 11) = false := by simpa using n11
  have e12 : (op == 12) = false := by simpa using n12
  have e13 : (op == 13) = false := by simpa using n13
  have e14 : (op == 14) = false := by simpa using n14
  have e15 : (op == 15) = false := by simpa using n15
  have e16 : (op == 16) = false := by simpa using n16
  have e17 : (op == 17) = false := by simpa using n17
  have e18 : (op == 18) = false := by simpa using n18
  have e19 : (op == 19) = false := by simpa using n19
  have e20 : (op == 20) = false := by simpa using n20
  have e21 : (op == 21) = false := by simpa using n21
  have e22 : (op == 22) = false := by simpa using n22
  have e23 : (op == 23) = false := by simpa using n23
  have e24 : (op == 24) = false := by simpa using n24
  have e25 : (op == 25) = false := by simpa using n25
  clear hop n1 n2 n3 n4 n5 n6 n7 n8 n9 n10 n11 n12 n13 n14 n15 n16 n17 n18 n19 n20 n21 n22 n23 n24 n25
  have HTK : Hid (∀ y, Below w.heap.size w y → Calls Tryz.prog 46 #[.string t] y fun e w' => e = .returned (.tuple #[.int .i64 (takesN t), .bool (isPrim t)]) ∧ Hid (Below y.heap.size y w')) := Lib.hid fun y hy => (hT y t (hy.mono hB)).mono fun e w' ⟨h1, h2⟩ => ⟨h1, Lib.hid h2⟩
  have HA := Lib.hid ha
  clear k0 k1 c0 l0 l1 hT hB ha
  have i1 : (f : Int) < (m : Int) := by omega
  have i0 : (0 : Int) ≤ (f : Int) := by omega
  have im : (m : Int) ≤ 60000 := by omega
  unfold insA
  simp only
  go_enter Tryz.func25, Tryz.ntmps25
  go_wp2
  have HB4 : Hid (Below w.heap.size w (((((w.alloc (.cells #[.int .u8 op, .int .i64 a, .int .i64 b, .int .i64 c, .string t] 48)).alloc (.cells #[.int .i64 0, .int .i64 0] 107)).alloc (.cells #[.int .i64 0, .int .i64 0] 107)).alloc (.cells #[.int .i64 0, .int .i64 0] 107)).drew)) := Lib.hid (((((((Below.refl _ _).alloc (Nat.le_refl _) _).alloc (by simp) _).alloc (by simp; omega) _).alloc (by simp; omega) _)).drew)
  obtain ⟨s1, s2, s3⟩ := HS.out _ HB4.out
  clear HS
  go_region_held3 (fun z => z = (((((w.alloc (.cells #[.int .u8 op, .int .i64 a, .int .i64 b, .int .i64 c, .string t] 48)).alloc (.cells #[.int .i64 0, .int .i64 0] 107)).alloc (.cells #[.int .i64 0, .int .i64 0] 107)).alloc (.cells #[.int .i64 0, .int .i64 0] 107)).drew)) ((first | rfl | assumption)) (fail)
  go_wp2
  all_goals go_ret
  all_goals refine ⟨?_, ?_⟩
  all_goals first | (repeat' first | exact Below.refl _ _ | refine Below.drew ?_ | refine Below.alloc ?_ (by first | omega | (simp; done) | (simp; omega)) _ | refine Below.setCell ?_ (by first | omega | (simp; done) | (simp; omega)) _) | skip
  all_goals rfl
theorem opsC_10 : OpsC 10 := by
  intro w kb m fc r rc n B ca ra cc g1 o1 f x k0 k1 hf hm hn hr c0 hT hB ha hx
  have l0 := cell_lt' k0; have l1 := cell_lt' c0
  have HS : Hid (∀ y, Below w.heap.size w y → y.cell? ⟨kb, 0, none⟩ = some (.slice (some ⟨g1, o1, none⟩) m fc) ∧ y.cell? ⟨kb, 1, none⟩ = some (.slice ra r rc) ∧ y.cell? ⟨g1, o1 + f, none⟩ = some (.slice ca n cc)) := Lib.hid fun y hy =>
    ⟨by rw [hy.cell (by exact l0)]; exact k0, by rw [hy.cell (by exact l0)]; exact k1, by rw [hy.cell (by exact l1)]; exact c0⟩
  obtain ⟨op, a, b, c, t⟩ := x
  simp only at hx ha
  subst hx
  have HTK : Hid (∀ y, Below w.heap.size w y → Calls Tryz.prog 46 #[.string t] y fun e w' => e = .returned (.tuple #[.int .i64 (takesN t), .bool (isPrim t)]) ∧ Hid (Below y.heap.size y w')) := Lib.hid fun y hy => (hT y t (hy.mono hB)).mono fun e w' ⟨h1, h2⟩ => ⟨h1, Lib.hid h2⟩
  have HA := Lib.hid ha
  clear k0 k1 c0 l0 l1 hT hB ha
  have i1 : (f : Int) < (m : Int) := by omega
  have i0 : (0 : Int) ≤ (f : Int) := by omega
  have im : (m : Int) ≤ 60000 := by omega
  unfold insA
  simp only
  go_enter Tryz.func25, Tryz.ntmps25
  go_wp2
  have HB4 : Hid (Below w.heap.size w (((((w.alloc (.cells #[.int .u8 10, .int .i64 a, .int .i64 b, .int .i64 c, .string t] 48)).alloc (.cells #[.int .i64 0, .int .i64 0] 107)).alloc (.cells #[.int .i64 0, .int .i64 0] 107)).alloc (.cells #[.int .i64 0, .int .i64 0] 107)).drew)) := Lib.hid (((((((Below.refl _ _).alloc (Nat.le_refl _) _).alloc (by simp) _).alloc (by simp; omega) _).alloc (by simp; omega) _)).drew)
  obtain ⟨s1, s2, s3⟩ := HS.out _ HB4.out
  clear HS
  go_region_held3 (fun z => z = (((((w.alloc (.cells #[.int .u8 10, .int .i64 a, .int .i64 b, .int .i64 c, .string t] 48)).alloc (.cells #[.int .i64 0, .int .i64 0] 107)).alloc (.cells #[.int .i64 0, .int .i64 0] 107)).alloc (.cells #[.int .i64 0, .int .i64 0] 107)).drew)) ((first | rfl | assumption)) (fail)
  clear HTK HB4
  by_cases ht : t.size = 0
  · obtain rfl := str0 ht
    go_wp2
    all_goals go_ret
    all_goals refine ⟨?_, ?_⟩
    all_goals first | (repeat' first | exact Below.refl _ _ | refine Below.drew ?_ | refine Below.alloc ?_ (by first | omega | (simp; done) | (simp; omega)) _ | refine Below.setCell ?_ (by first | omega | (simp; done) | (simp; omega)) _) | skip
    all_goals (show Ending.returned (Value.bool _) = Ending.returned (Value.bool _); refine congrArg (fun z => Ending.returned (Value.bool z)) ?_)
    all_goals first | exact (opB_f (by simp [opP, empty0]; omega)).symm | exact (opB_t (by simp [opP, empty0]; omega)).symm | (refine decide_eq_decide.2 ?_; simp [opP, empty0]; omega)
  · have e0 : t.toList.isEmpty = false := str_ne0 ht
    go_wp2
    all_goals go_ret
    all_goals refine ⟨?_, ?_⟩
    all_goals first | (repeat' first | exact Below.refl _ _ | refine Below.drew ?_ | refine Below.alloc ?_ (by first | omega | (simp; done) | (simp; omega)) _ | refine Below.setCell ?_ (by first | omega | (simp; done) | (simp; omega)) _) | skip
    all_goals (show Ending.returned (Value.bool _) = Ending.returned (Value.bool _); refine congrArg (fun z => Ending.returned (Value.bool z)) ?_)
    all_goals exact (opB_f (by simp [opP, ht])).symm
theorem opsC_20 : OpsC 20 := by
  intro w kb m fc r rc n B ca ra cc g1 o1 f x k0 k1 hf hm hn hr c0 hT hB ha hx
  have l0 := cell_lt' k0; have l1 := cell_lt' c0
  have HS : Hid (∀ y, Below w.heap.size w y → y.cell? ⟨kb, 0, none⟩ = some (.slice (some ⟨g1, o1, none⟩) m fc) ∧ y.cell? ⟨kb, 1, none⟩ = some (.slice ra r rc) ∧ y.cell? ⟨g1, o1 + f, none⟩ = some (.slice ca n cc)) := Lib.hid fun y hy =>
    ⟨by rw [hy.cell (by exact l0)]; exact k0, by rw [hy.cell (by exact l0)]; exact k1, by rw [hy.cell (by exact l1)]; exact c0⟩
  obtain ⟨op, a, b, c, t⟩ := x
  simp only at hx ha
  subst hx
  have HTK : Hid (∀ y, Below w.heap.size w y → Calls Tryz.prog 46 #[.string t] y fun e w' => e = .returned (.tuple #[.int .i64 (takesN t), .bool (isPrim t)]) ∧ Hid (Below y.heap.size y w')) := Lib.hid fun y hy => (hT y t (hy.mono hB)).mono fun e w' ⟨h1, h2⟩ => ⟨h1, Lib.hid h2⟩
  have HA := Lib.hid ha
  clear k0 k1 c0 l0 l1 hT hB ha
  have i1 : (f : Int) < (m : Int) := by omega
  have i0 : (0 : Int) ≤ (f : Int) := by omega
  have im : (m : Int) ≤ 60000 := by omega
  unfold insA
  simp only
  go_enter Tryz.func25, Tryz.ntmps25
  go_wp2
  have HB4 : Hid (Below w.heap.size w (((((w.alloc (.cells #[.int .u8 20, .int .i64 a, .int .i64 b, .int .i64 c, .string t] 48)).alloc (.cells #[.int .i64 0, .int .i64 0] 107)).alloc (.cells #[.int .i64 0, .int .i64 0] 107)).alloc (.cells #[.int .i64 0, .int .i64 0] 107)).drew)) := Lib.hid (((((((Below.refl _ _).alloc (Nat.le_refl _) _).alloc (by simp) _).alloc (by simp; omega) _).alloc (by simp; omega) _)).drew)
  obtain ⟨s1, s2, s3⟩ := HS.out _ HB4.out
  clear HS
  go_region_held3 (fun z => z = (((((w.alloc (.cells #[.int .u8 20, .int .i64 a, .int .i64 b, .int .i64 c, .string t] 48)).alloc (.cells #[.int .i64 0, .int .i64 0] 107)).alloc (.cells #[.int .i64 0, .int .i64 0] 107)).alloc (.cells #[.int .i64 0, .int .i64 0] 107)).drew)) ((first | rfl | assumption)) (fail)
  clear HTK HB4
  by_cases ht : t.size = 0
  · obtain rfl := str0 ht
    go_wp2
    all_goals go_ret
    all_goals refine ⟨?_, ?_⟩
    all_goals first | (repeat' first | exact Below.refl _ _ | refine Below.drew ?_ | refine Below.alloc ?_ (by first | omega | (simp; done) | (simp; omega)) _ | refine Below.setCell ?_ (by first | omega | (simp; done) | (simp; omega)) _) | skip
    all_goals (show Ending.returned (Value.bool _) = Ending.returned (Value.bool _); refine congrArg (fun z => Ending.returned (Value.bool z)) ?_)
    all_goals first | exact (opB_f (by simp [opP, empty0]; omega)).symm | exact (opB_t (by simp [opP, empty0]; omega)).symm | (refine decide_eq_decide.2 ?_; simp [opP, empty0]; omega)
  · have e0 : t.toList.isEmpty = false := str_ne0 ht
    go_wp2
    all_goals go_ret
    all_goals refine ⟨?_, ?_⟩
    all_goals first | (repeat' first | exact Below.refl _ _ | refine Below.drew ?_ | refine Below.alloc ?_ (by first | omega | (simp; done) | (simp; omega)) _ | refine Below.setCell ?_ (by first | omega | (simp; done) | (simp; omega)) _) | skip
    all_goals (show Ending.returned (Value.bool _) = Ending.returned (Value.bool _); refine congrArg (fun z => Ending.returned (Value.bool z)) ?_)
    all_goals exact (opB_f (by simp [opP, ht])).symm
theorem opsC_25 : OpsC 25 := by
  intro w kb m fc r rc n B ca ra cc g1 o1 f x k0 k1 hf hm hn hr c0 hT hB ha hx
  have l0 := cell_lt' k0; have l1 := cell_lt' c0
  have HS : Hid (∀ y, Below w.heap.size w y → y.cell? ⟨kb, 0, none⟩ = some (.slice (some ⟨g1, o1, none⟩) m fc) ∧ y.cell? ⟨kb, 1, none⟩ = some (.slice ra r rc) ∧ y.cell? ⟨g1, o1 + f, none⟩ = some (.slice ca n cc)) := Lib.hid fun y hy =>
    ⟨by rw [hy.cell (by exact l0)]; exact k0, by rw [hy.cell (by exact l0)]; exact k1, by rw [hy.cell (by exact l1)]; exact c0⟩
  obtain ⟨op, a, b, c, t⟩ := x
  simp only at hx ha
  subst hx
  have HTK : Hid (∀ y, Below w.heap.size w y → Calls Tryz.prog 46 #[.string t] y fun e w' => e = .returned (.tuple #[.int .i64 (takesN t), .bool (isPrim t)]) ∧ Hid (Below y.heap.size y w')) := Lib.hid fun y hy => (hT y t (hy.mono hB)).mono fun e w' ⟨h1, h2⟩ => ⟨h1, Lib.hid h2⟩
  have HA := Lib.hid ha
  clear k0 k1 c0 l0 l1 hT hB ha
  have i1 : (f : Int) < (m : Int) := by omega
  have i0 : (0 : Int) ≤ (f : Int) := by omega
  have im : (m : Int) ≤ 60000 := by omega
  unfold insA
  simp only
  go_enter Tryz.func25, Tryz.ntmps25
  go_wp2
  have HB4 : Hid (Below w.heap.size w (((((w.alloc (.cells #[.int .u8 25, .int .i64 a, .int .i64 b, .int .i64 c, .string t] 48)).alloc (.cells #[.int .i64 0, .int .i64 0] 107)).alloc (.cells #[.int .i64 0, .int .i64 0] 107)).alloc (.cells #[.int .i64 0, .int .i64 0] 107)).drew)) := Lib.hid (((((((Below.refl _ _).alloc (Nat.le_refl _) _).alloc (by simp) _).alloc (by simp; omega) _).alloc (by simp; omega) _)).drew)
  obtain ⟨s1, s2, s3⟩ := HS.out _ HB4.out
  clear HS
  go_region_held3 (fun z => z = (((((w.alloc (.cells #[.int .u8 25, .int .i64 a, .int .i64 b, .int .i64 c, .string t] 48)).alloc (.cells #[.int .i64 0, .int .i64 0] 107)).alloc (.cells #[.int .i64 0, .int .i64 0] 107)).alloc (.cells #[.int .i64 0, .int .i64 0] 107)).drew)) ((first | rfl | assumption)) (fail)
  clear HTK HB4
  by_cases ht : t.size = 0
  · obtain rfl := str0 ht
    go_wp2
    all_goals go_ret
    all_goals refine ⟨?_, ?_⟩
    all_goals first | (repeat' first | exact Below.refl _ _ | refine Below.drew ?_ | refine Below.alloc ?_ (by first | omega | (simp; done) | (simp; omega)) _ | refine Below.setCell ?_ (by first | omega | (simp; done) | (simp; omega)) _) | skip
    all_goals (show Ending.returned (Value.bool _) = Ending.returned (Value.bool _); refine congrArg (fun z => Ending.returned (Value.bool z)) ?_)
    all_goals first | exact (opB_f (by simp [opP, empty0]; omega)).symm | exact (opB_t (by simp [opP, empty0]; omega)).symm | (refine decide_eq_decide.2 ?_; simp [opP, empty0]; omega)
  · have e0 : t.toList.isEmpty = false := str_ne0 ht
    go_wp2
    all_goals go_ret
    all_goals refine ⟨?_, ?_⟩
    all_goals first | (repeat' first | exact Below.refl _ _ | refine Below.drew ?_ | refine Below.alloc ?_ (by first | omega | (simp; done) | (simp; omega)) _ | refine Below.setCell ?_ (by first | omega | (simp; done) | (simp; omega)) _) | skip
    all_goals (show Ending.returned (Value.bool _) = Ending.returned (Value.bool _); refine congrArg (fun z => Ending.returned (Value.bool z)) ?_)
    all_goals exact (opB_f (by simp [opP, ht])).symm
end Go.Ck
