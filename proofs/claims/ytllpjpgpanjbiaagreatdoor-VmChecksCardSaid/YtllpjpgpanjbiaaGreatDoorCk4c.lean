/- A part of the proof of VmChecks: what a function of the program or of the reference answers, walked by hand. Each theorem says its own conditions. -/
import Derived.Test.YtllpjpgpanjbiaaGreatDoorCk3
set_option linter.unusedVariables false
set_option linter.unusedSimpArgs false
set_option maxRecDepth 100000
set_option maxHeartbeats 8000000
namespace Go.Ck
open Go Go.RowKit Go.Proofs
theorem opsC_24 : OpsC 24 := by
  intro w kb m fc r rc n B ca ra cc g1 o1 f x k0 k1 hf hm hn hr c0 hT hB ha hx
  have l0 := cell_lt' k0; have l1 := cell_lt' c0
  have HS : Hid (∀ y, Below w.heap.size w y → y.cell? ⟨kb, 0, none⟩ = some (.slice (some ⟨g1, o1, none⟩) m fc) ∧ y.cell? ⟨kb, 1, none⟩ = some (.slice ra r rc) ∧ y.cell? ⟨g1, o1 + f, none⟩ = some (.slice ca n cc)) := Lib.hid fun y hy =>
    ⟨by rw [hy.cell (by exact l0)]; exact k0, by rw [hy.cell (by exact l0)]; exact k1, by rw [hy.cell (by exact l1)]; exact c0⟩
  obtain ⟨op, a, b, c, t⟩ := x
  simp only at hx ha
  subst hx
  have HTK : Hid (∀ y, Below w.heap.size w y → Calls Tryz.prog 46 #[.string t] y fun e w' => e = .returned (.tuple #[.int .i64 (takesN t), .bool (isPrim t)]) ∧ Hid (Below y.heap.size y w')) := Lib.hid fun y hy => (hT y t (hy.mono hB)).mono fun e w' ⟨h1, h2⟩ => ⟨h1, Lib.hid h2⟩
  have HA := Lib.hid ha
  clear k0 k1 c0 l0 l1 hT hB ha
  have i1 : (f : Int) < (m : Int) := by omega
  have i0 : (0 : Int) ≤ (f : Int) := by omega
  have im : (m : Int) ≤ 60000 := by omega
  unfold insA
  simp only
  go_enter Tryz.func25, Tryz.ntmps25
  go_wp2
  have HB4 : Hid (Below w.heap.size w (((((w.alloc (.cells #[.int .u8 24, .int .i64 a, .int .i64 b, .int .i64 c, .string t] 48)).alloc (.cells #[.int .i64 0, .int .i64 0] 107)).alloc (.cells #[.int .i64 0, .int .i64 0] 107)).alloc (.cells #[.int .i64 0, .int .i64 0] 107)).drew)) := Lib.hid (((((((Below.refl _ _).alloc (Nat.le_refl _) _).alloc (by simp) _).alloc (by simp; omega) _).alloc (by simp; omega) _)).drew)
  obtain ⟨s1, s2, s3⟩ := HS.out _ HB4.out
  clear HS
  go_region_held3 (fun z => z = (((((w.alloc (.cells #[.int .u8 24, .int .i64 a, .int .i64 b, .int .i64 c, .string t] 48)).alloc (.cells #[.int .i64 0, .int .i64 0] 107)).alloc (.cells #[.int .i64 0, .int .i64 0] 107)).alloc (.cells #[.int .i64 0, .int .i64 0] 107)).drew)) ((first | rfl | assumption)) (fail)
  clear HTK HB4
  by_cases ht : t.size = 0
  · obtain rfl := str0 ht
    go_wp2
    all_goals go_ret
    all_goals refine ⟨?_, ?_⟩
    all_goals first | (repeat' first | exact Below.refl _ _ | refine Below.drew ?_ | refine Below.alloc ?_ (by first | omega | (simp; done) | (simp; omega)) _ | refine Below.setCell ?_ (by first | omega | (simp; done) | (simp; omega)) _) | skip
    all_goals (show Ending.returned (Value.bool _) = Ending.returned (Value.bool _); refine congrArg (fun z => Ending.returned (Value.bool z)) ?_)
    all_goals first | exact (opB_f (by simp [opP, empty0]; omega)).symm | exact (opB_t (by simp [opP, empty0]; omega)).symm | (refine decide_eq_decide.2 ?_; simp [opP, empty0]; omega)
  · have e0 : t.toList.isEmpty = false := str_ne0 ht
    go_wp2
    all_goals go_ret
    all_goals refine ⟨?_, ?_⟩
    all_goals first | (repeat' first | exact Below.refl _ _ | refine Below.drew ?_ | refine Below.alloc ?_ (by first | omega | (simp; done) | (simp; omega)) _ | refine Below.setCell ?_ (by first | omega | (simp; done) | (simp; omega)) _) | skip
    all_goals (show Ending.returned (Value.bool _) = Ending.returned (Value.bool _); refine congrArg (fun z => Ending.returned (Value.bool z)) ?_)
    all_goals exact (opB_f (by simp [opP, ht])).symm
theorem opsC_4 : OpsC 4 := by
  intro w kb m fc r rc n B ca ra cc g1 o1 f x k0 k1 hf hm hn hr c0 hT hB ha hx
  have l0 := cell_lt' k0; have l1 := cell_lt' c0
  have HS : Hid (∀ y, Below w.heap.size w y → y.cell? ⟨kb, 0, none⟩ = some (.slice (some ⟨g1, o1, none⟩) m fc) ∧ y.cell? ⟨kb, 1, none⟩ = some (.slice ra r rc) ∧ y.cell? ⟨g1, o1 + f, none⟩ = some (.slice ca n cc)) := Lib.hid fun y hy =>
    ⟨by rw [hy.cell (by exact l0)]; exact k0, by rw [hy.cell (by exact l0)]; exact k1, by rw [hy.cell (by exact l1)]; exact c0⟩
  obtain ⟨op, a, b, c, t⟩ := x
  simp only at hx ha
  subst hx
  have HTK : Hid (∀ y, Below w.heap.size w y → Calls Tryz.prog 46 #[.string t] y fun e w' => e = .returned (.tuple #[.int .i64 (takesN t), .bool (isPrim t)]) ∧ Hid (Below y.heap.size y w')) := Lib.hid fun y hy => (hT y t (hy.mono hB)).mono fun e w' ⟨h1, h2⟩ => ⟨h1, Lib.hid h2⟩
  have HA := Lib.hid ha
  clear k0 k1 c0 l0 l1 hT hB ha
  have i1 : (f : Int) < (m : Int) := by omega
  have i0 : (0 : Int) ≤ (f : Int) := by omega
  have im : (m : Int) ≤ 60000 := by omega
  unfold insA
  simp only
  go_enter Tryz.func25, Tryz.ntmps25
  go_wp2
  have HB4 : Hid (Below w.heap.size w (((((w.alloc (.cells #[.int .u8 4, .int .i64 a, .int .i64 b, .int .i64 c, .string t] 48)).alloc (.cells #[.int .i64 0, .int .i64 0] 107)).alloc (.cells #[.int .i64 0, .int .i64 0] 107)).alloc (.cells #[.int .i64 0, .int .i64 0] 107)).drew)) := Lib.hid (((((((Below.refl _ _).alloc (Nat.le_refl _) _).alloc (by simp) _).alloc (by simp; omega) _).alloc (by simp; omega) _)).drew)
  obtain ⟨s1, s2, s3⟩ := HS.out _ HB4.out
  clear HS
  go_region_held3 (fun z => z = (((((w.alloc (.cells #[.int .u8 4, .int .i64 a, .int .i64 b, .int .i64 c, .string t] 48)).alloc (.cells #[.int .i64 0, .int .i64 0] 107)).alloc (.cells #[.int .i64 0, .int .i64 0] 107)).alloc (.cells #[.int .i64 0, .int .i64 0] 107)).drew)) ((first | rfl | assumption)) (fail)
  clear HTK HB4
  by_cases ht : t.size = 0
  · obtain rfl := str0 ht
    go_wp2
    all_goals go_ret
    all_goals refine ⟨?_, ?_⟩
    all_goals first | (repeat' first | exact Below.refl _ _ | refine Below.drew ?_ | refine Below.alloc ?_ (by first | omega | (simp; done) | (simp; omega)) _ | refine Below.setCell ?_ (by first | omega | (simp; done) | (simp; omega)) _) | skip
    all_goals (show Ending.returned (Value.bool _) = Ending.returned (Value.bool _); refine congrArg (fun z => Ending.returned (Value.bool z)) ?_)
    all_goals first | exact (opB_f (by simp [opP, empty0]; omega)).symm | exact (opB_t (by simp [opP, empty0]; omega)).symm | (refine decide_eq_decide.2 ?_; simp [opP, empty0]; omega)
  · have e0 : t.toList.isEmpty = false := str_ne0 ht
    go_wp2
    all_goals go_ret
    all_goals refine ⟨?_, ?_⟩
    all_goals first | (repeat' first | exact Below.refl _ _ | refine Below.drew ?_ | refine Below.alloc ?_ (by first | omega | (simp; done) | (simp; omega)) _ | refine Below.setCell ?_ (by first | omega | (simp; done) | (simp; omega)) _) | skip
    all_goals (show Ending.returned (Value.bool _) = Ending.returned (Value.bool _); refine congrArg (fun z => Ending.returned (Value.bool z)) ?_)
    all_goals exact (opB_f (by simp [opP, ht])).symm
theorem opsC_15 : OpsC 15 := by
  intro w kb m fc r rc n B ca ra cc g1 o1 f x k0 k1 hf hm hn hr c0 hT hB ha hx
  have l0 := cell_lt' k0; have l1 := cell_lt' c0
  have HS : Hid (∀ y, Below w.heap.size w y → y.cell? ⟨kb, 0, none⟩ = some (.slice (some ⟨g1, o1, none⟩) m fc) ∧ y.cell? ⟨kb, 1, none⟩ = some (.slice ra r rc) ∧ y.cell? ⟨g1, o1 + f, none⟩ = some (.slice ca n cc)) := Lib.hid fun y hy =>
    ⟨by rw [hy.cell (by exact l0)]; exact k0, by rw [hy.cell (by exact l0)]; exact k1, by rw [hy.cell (by exact l1)]; exact c0⟩
  obtain ⟨op, a, b, c, t⟩ := x
  simp only at hx ha
  subst hx
  have HTK : Hid (∀ y, Below w.heap.size w y → Calls Tryz.prog 46 #[.string t] y fun e w' => e = .returned (.tuple #[.int .i64 (takesN t), .bool (isPrim t)]) ∧ Hid (Below y.heap.size y w')) := Lib.hid fun y hy => (hT y t (hy.mono hB)).mono fun e w' ⟨h1, h2⟩ => ⟨h1, Lib.hid h2⟩
  have HA := Lib.hid ha
  clear k0 k1 c0 l0 l1 hT hB ha
  have i1 : (f : Int) < (m : Int) := by omega
  have i0 : (0 : Int) ≤ (f : Int) := by omega
  have im : (m : Int) ≤ 60000 := by omega
  unfold insA
  simp only
  go_enter Tryz.func25, Tryz.ntmps25
  go_wp2
  have HB4 : Hid (Below w.heap.size w (((((w.alloc (.cells #[.int .u8 15, .int .i64 a, .int .i64 b, .int .i64 c, .string t] 48)).alloc (.cells #[.int .i64 0, .int .i64 0] 107)).alloc (.cells #[.int .i64 0, .int .i64 0] 107)).alloc (.cells #[.int .i64 0, .int .i64 0] 107)).drew)) := Lib.hid (((((((Below.refl _ _).alloc (Nat.le_refl _) _).alloc (by simp) _).alloc (by simp; omega) _).alloc (by simp; omega) _)).drew)
  obtain ⟨s1, s2, s3⟩ := HS.out _ HB4.out
  clear HS
  go_region_held3 (fun z => z = (((((w.alloc (.cells #[.int .u8 15, .int .i64 a, .int .i64 b, .int .i64 c, .string t] 48)).alloc (.cells #[.int .i64 0, .int .i64 0] 107)).alloc (.cells #[.int .i64 0, .int .i64 0] 107)).alloc (.cells #[.int .i64 0, .int .i64 0] 107)).drew)) ((first | rfl | assumption)) (fail)
  clear HTK HB4
  by_cases ht : t.size = 0
  · obtain rfl := str0 ht
    go_wp2
    all_goals go_ret
    all_goals refine ⟨?_, ?_⟩
    all_goals first | (repeat' first | exact Below.refl _ _ | refine Below.drew ?_ | refine Below.alloc ?_ (by first | omega | (simp; done) | (simp; omega)) _ | refine Below.setCell ?_ (by first | omega | (simp; done) | (simp; omega)) _) | skip
    all_goals (show Ending.returned (Value.bool _) = Ending.returned (Value.bool _); refine congrArg (fun z => Ending.returned (Value.bool z)) ?_)
    all_goals first | exact (opB_f (by simp [opP, empty0]; omega)).symm | exact (opB_t (by simp [opP, empty0]; omega)).symm | (refine decide_eq_decide.2 ?_; simp [opP, empty0]; omega)
  · have e0 : t.toList.isEmpty = false := str_ne0 ht
    go_wp2
    all_goals go_ret
    all_goals refine ⟨?_, ?_⟩
    all_goals first | (repeat' first | exact Below.refl _ _ | refine Below.drew ?_ | refine Below.alloc ?_ (by first | omega | (simp; done) | (simp; omega)) _ | refine Below.setCell ?_ (by first | omega | (simp; done) | (simp; omega)) _) | skip
    all_goals (show Ending.returned (Value.bool _) = Ending.returned (Value.bool _); refine congrArg (fun z => Ending.returned (Value.bool z)) ?_)
    all_goals exact (opB_f (by simp [opP, ht])).symm
end Go.Ck
namespace Go.Ck
open Go Go.RowKit Go.Proofs
theorem opsC_13 : OpsC 13 := by
  intro w kb m fc r rc n B ca ra cc g1 o1 f x k0 k1 hf hm hn hr c0 hT hB ha hx
  have l0 := cell_lt' k0; have l1 := cell_lt' c0
  have HS : Hid (∀ y, Below w.heap.size w y → y.cell? ⟨kb, 0, none⟩ = some (.slice (some ⟨g1, o1, none⟩) m fc) ∧ y.cell? ⟨kb, 1, none⟩ = some (.slice ra r rc) ∧ y.cell? ⟨g1, o1 + f, none⟩ = some (.slice ca n cc)) := Lib.hid fun y hy =>
    ⟨by rw [hy.cell (by exact l0)]; exact k0, by rw [hy.cell (by exact l0)]; exact k1, by rw [hy.cell (by exact l1)]; exact c0⟩
  obtain ⟨op, a, b, c, t⟩ := x
  simp only at hx ha
  subst hx
  have HTK : Hid (∀ y, Below w.heap.size w y → Calls Tryz.prog 46 #[.string t] y fun e w' => e = .returned (.tuple #[.int .i64 (takesN t), .bool (isPrim t)]) ∧ Hid (Below y.heap.size y w')) := Lib.hid fun y hy => (hT y t (hy.mono hB)).mono fun e w' ⟨h1, h2⟩ => ⟨h1, Lib.hid h2⟩
  have HA := Lib.hid ha
  clear k0 k1 c0 l0 l1 hT hB ha
  have i1 : (f : Int) < (m : Int) := by omega
  have i0 : (0 : Int) ≤ (f : Int) := by omega
  have im : (m : Int) ≤ 60000 := by omega
  unfold insA
  simp only
  go_enter Tryz.func25, Tryz.ntmps25
  go_wp2
  have HB4 : Hid (Below w.heap.size w (((((w.alloc (.cells #[.int .u8 13, .int .i64 a, .int .i64 b, .int .i64 c, .string t] 48)).alloc (.cells #[.int .i64 0, .int .i64 0] 107)).alloc (.cells #[.int .i64 0, .int .i64 0] 107)).alloc (.cells #[.int .i64 0, .int .i64 0] 107)).drew)) := Lib.hid (((((((Below.refl _ _).alloc (Nat.le_refl _) _).alloc (by simp) _).alloc (by simp; omega) _).alloc (by simp; omega) _)).drew)
  obtain ⟨s1, s2, s3⟩ := HS.out _ HB4.out
  clear HS
  go_region_held3 (fun z => z = (((((w.alloc (.cells #[.int .u8 13, .int .i64 a, .int .i64 b, .int .i64 c, .string t] 48)).alloc (.cells #[.int .i64 0, .int .i64 0] 107)).alloc (.cells #[.int .i64 0, .int .i64 0] 107)).alloc (.cells #[.int .i64 0, .int .i64 0] 107)).drew)) ((first | rfl | assumption)) (fail)
  clear HTK HB4
  by_cases ht : t.size = 0
  · obtain rfl := str0 ht
    go_wp2
    all_goals go_ret
    all_goals refine ⟨?_, ?_⟩
    all_goals first | (repeat' first | exact Below.refl _ _ | refine Below.drew ?_ | refine Below.alloc ?_ (by first | omega | (simp; done) | (simp; omega)) _ | refine Below.setCell ?_ (by first | omega | (simp; done) | (simp; omega)) _) | skip
    all_goals (show Ending.returned (Value.bool _) = Ending.returned (Value.bool _); refine congrArg (fun z => Ending.returned (Value.bool z)) ?_)
    all_goals first | exact (opB_f (by simp [opP, empty0]; omega)).symm | exact (opB_t (by simp [opP, empty0]; omega)).symm | (refine decide_eq_decide.2 ?_; simp [opP, empty0]; omega)
  · have e0 : t.toList.isEmpty = false := str_ne0 ht
    go_wp2
    all_goals go_ret
    all_goals refine ⟨?_, ?_⟩
    all_goals first | (repeat' first | exact Below.refl _ _ | refine Below.drew ?_ | refine Below.alloc ?_ (by first | omega | (simp; done) | (simp; omega)) _ | refine Below.setCell ?_ (by first | omega | (simp; done) | (simp; omega)) _) | skip
    all_goals (show Ending.returned (Value.bool _) = Ending.returned (Value.bool _); refine congrArg (fun z => Ending.returned (Value.bool z)) ?_)
    all_goals exact (opB_f (by simp [opP, ht])).symm
theorem opsC_5 : OpsC 5 := by
  intro w kb m fc r rc n B ca ra cc g1 o1 f x k0 k1 hf hm hn hr c0 hT hB ha hx
  have l0 := cell_lt' k0; have l1 := cell_lt' c0
  have HS : Hid (∀ y, Below w.heap.size w y → y.cell? ⟨kb, 0, none⟩ = some (.slice (some ⟨g1, o1, none⟩) m fc) ∧ y.cell? ⟨kb, 1, none⟩ = some (.slice ra r rc) ∧ y.cell? ⟨g1, o1 + f, none⟩ = some (.slice ca n cc)) := Lib.hid fun y hy =>
    ⟨by rw [hy.cell (by exact l0)]; exact k0, by rw [hy.cell (by exact l0)]; exact k1, by rw [hy.cell (by exact l1)]; exact c0⟩
  obtain ⟨op, a, b, c, t⟩ := x
  simp only at hx ha
  subst hx
  have HTK : Hid (∀ y, Below w.heap.size w y → Calls Tryz.prog 46 #[.string t] y fun e w' => e = .returned (.tuple #[.int .i64 (takesN t), .bool (isPrim t)]) ∧ Hid (Below y.heap.size y w')) := Lib.hid fun y hy => (hT y t (hy.mono hB)).mono fun e w' ⟨h1, h2⟩ => ⟨h1, Lib.hid h2⟩
  have HA := Lib.hid ha
  clear k0 k1 c0 l0 l1 hT hB ha
  have i1 : (f : Int) < (m : Int) := by omega
  have i0 : (0 : Int) ≤ (f : Int) := by omega
  have im : (m : Int) ≤ 60000 := by omega
  unfold insA
  simp only
  go_enter Tryz.func25, Tryz.ntmps25
  go_wp2
  have HB4 : Hid (Below w.heap.size w (((((w.alloc (.cells #[.int .u8 5, .int .i64 a, .int .i64 b, .int .i64 c, .string t] 48)).alloc (.cells #[.int .i64 0, .int .i64 0] 107)).alloc (.cells #[.int .i64 0, .int .i64 0] 107)).alloc (.cells #[.int .i64 0, .int .i64 0] 107)).drew)) := Lib.hid (((((((Below.refl _ _).alloc (Nat.le_refl _) _).alloc (by simp) _).alloc (by simp; omega) _).alloc (by simp; omega) _)).drew)
  obtain ⟨s1, s2, s3⟩ := HS.out _ HB4.out
  clear HS
  go_region_held3 (fun z => z = (((((w.alloc (.cells #[.int .u8 5, .int .i64 a, .int .i64 b, .int .i64 c, .string t] 48)).alloc (.cells #[.int .i64 0, .int .i64 0] 107)).alloc (.cells #[.int .i64 0, .int .i64 0] 107)).alloc (.cells #[.int .i64 0, .int .i64 0] 107)).drew)) ((first | rfl | assumption)) (fail)
  clear HTK HB4
  by_cases ht : t.size = 0
  · obtain rfl := str0 ht
    go_wp2
    all_goals go_ret
    all_goals refine ⟨?_, ?_⟩
    all_goals first | (repeat' first | exact Below.refl _ _ | refine Below.drew ?_ | refine Below.alloc ?_ (by first | omega | (simp; done) | (simp; omega)) _ | refine Below.setCell ?_ (by first | omega | (simp; done) | (simp; omega)) _) | skip
    all_goals (show Ending.returned (Value.bool _) = Ending.returned (Value.bool _); refine congrArg (fun z => Ending.returned (Value.bool z)) ?_)
    all_goals first | exact (opB_f (by simp [opP, empty0]; omega)).symm | exact (opB_t (by simp [opP, empty0]; omega)).symm | (refine decide_eq_decide.2 ?_; simp [opP, empty0]; omega)
  · have e0 : t.toList.isEmpty = false := str_ne0 ht
    go_wp2
    all_goals go_ret
    all_goals refine ⟨?_, ?_⟩
    all_goals first | (repeat' first | exact Below.refl _ _ | refine Below.drew ?_ | refine Below.alloc ?_ (by first | omega | (simp; done) | (simp; omega)) _ | refine Below.setCell ?_ (by first | omega | (simp; done) | (simp; omega)) _) | skip
    all_goals (show Ending.returned (Value.bool _) = Ending.returned (Value.bool _); refine congrArg (fun z => Ending.returned (Value.bool z)) ?_)
    all_goals exact (opB_f (by simp [opP, ht])).symm
theorem opsC_17 : OpsC 17 := by
  intro w kb m fc r rc n B ca ra cc g1 o1 f x k0 k1 hf hm hn hr c0 hT hB ha hx
  have l0 := cell_lt' k0; have l1 := cell_lt' c0
  have HS : Hid (∀ y, Below w.heap.size w y → y.cell? ⟨kb, 0, none⟩ = some (.slice (some ⟨g1, o1, none⟩) m fc) ∧ y.cell? ⟨kb, 1, none⟩ = some (.slice ra r rc) ∧ y.cell? ⟨g1, o1 + f, none⟩ = some (.slice ca n cc)) := Lib.hid fun y hy =>
    ⟨by rw [hy.cell (by exact l0)]; exact k0, by rw [hy.cell (by exact l0)]; exact k1, by rw [hy.cell (by exact l1)]; exact c0⟩
  obtain ⟨op, a, b, c, t⟩ := x
  simp only at hx ha
  subst hx
  have HTK : Hid (∀ y, Below w.heap.size w y → Calls Tryz.prog 46 #[.string t] y fun e w' => e = .returned (.tuple #[.int .i64 (takesN t), .bool (isPrim t)]) ∧ Hid (Below y.heap.size y w')) := Lib.hid fun y hy => (hT y t (hy.mono hB)).mono fun e w' ⟨h1, h2⟩ => ⟨h1, Lib.hid h2⟩
  have HA := Lib.hid ha
  clear k0 k1 c0 l0 l1 hT hB ha
  have i1 : (f : Int) < (m : Int) := by omega
  have i0 : (0 : Int) ≤ (f : Int) := by omega
  have im : (m : Int) ≤ 60000 := by omega
  unfold insA
  simp only
  go_enter Tryz.func25, Tryz.ntmps25
  go_wp2
  have HB4 : Hid (Below w.heap.size w (((((w.alloc (.cells #[.int .u8 17, .int .i64 a, .int .i64 b, .int .i64 c, .string t] 48)).alloc (.cells #[.int .i64 0, .int .i64 0] 107)).alloc (.cells #[.int .i64 0, .int .i64 0] 107)).alloc (.cells #[.int .i64 0, .int .i64 0] 107)).drew)) := Lib.hid (((((((Below.refl _ _).alloc (Nat.le_refl _) _).alloc (by simp) _).alloc (by simp; omega) _).alloc (by simp; omega) _)).drew)
  obtain ⟨s1, s2, s3⟩ := HS.out _ HB4.out
  clear HS
  go_region_held3 (fun z => z = (((((w.alloc (.cells #[.int .u8 17, .int .i64 a, .int .i64 b, .int .i64 c, .string t] 48)).alloc (.cells #[.int .i64 0, .int .i64 0] 107)).alloc (.cells #[.int .i64 0, .int .i64 0] 107)).alloc (.cells #[.int .i64 0, .int .i64 0] 107)).drew)) ((first | rfl | assumption)) (fail)
  clear HTK HB4
  by_cases ht : t.size = 0
  · obtain rfl := str0 ht
    go_wp2
    all_goals go_ret
    all_goals refine ⟨?_, ?_⟩
    all_goals first | (repeat' first | exact Below.refl _ _ | refine Below.drew ?_ | refine Below.alloc ?_ (by first | omega | (simp; done) | (simp; omega)) _ | refine Below.setCell ?_ (by first | omega | (simp; done) | (simp; omega)) _) | skip
    all_goals (show Ending.returned (Value.bool _) = Ending.returned (Value.bool _); refine congrArg (fun z => Ending.returned (Value.bool z)) ?_)
    all_goals first | exact (opB_f (by simp [opP, empty0]; omega)).symm | exact (opB_t (by simp [opP, empty0]; omega)).symm | (refine decide_eq_decide.2 ?_; simp [opP, empty0]; omega)
  · have e0 : t.toList.isEmpty = false := str_ne0 ht
    go_wp2
    all_goals go_ret
    all_goals refine ⟨?_, ?_⟩
    all_goals first | (repeat' first | exact Below.refl _ _ | refine Below.drew ?_ | refine Below.alloc ?_ (by first | omega | (simp; done) | (simp; omega)) _ | refine Below.setCell ?_ (by first | omega | (simp; done) | (simp; omega)) _) | skip
    all_goals (show Ending.returned (Value.bool _) = Ending.returned (Value.bool _); refine congrArg (fun z => Ending.returned (Value.bool z)) ?_)
    all_goals exact (opB_f (by simp [opP, ht])).symm
end Go.Ck
namespace Go.Ck
open Go Go.RowKit Go.Proofs
theorem opsC_22 : OpsC 22 := by
  intro w kb m fc r rc n B ca ra cc g1 o1 f x k0 k1 hf hm hn hr c0 hT hB ha hx
  have l0 := cell_lt' k0; have l1 := cell_lt' c0
  have HS : Hid (∀ y, Below w.heap.size w y → y.cell? ⟨kb, 0, none⟩ = some (.slice (some ⟨g1, o1, none⟩) m fc) ∧ y.cell? ⟨kb, 1, none⟩ = some (.slice ra r rc) ∧ y.cell? ⟨g1, o1 + f, none⟩ = some (.slice ca n cc)) := Lib.hid fun y hy =>
    ⟨by rw [hy.cell (by exact l0)]; exact k0, by rw [hy.cell (by exact l0)]; exact k1, by rw [hy.cell (by exact l1)]; exact c0⟩
  obtain ⟨op, a, b, c, t⟩ := x
  simp only at hx ha
  subst hx
  have HTK : Hid (∀ y, Below w.heap.size w y → Calls Tryz.prog 46 #[.string t] y fun e w' => e = .returned (.tuple #[.int .i64 (takesN t), .bool (isPrim t)]) ∧ Hid (Below y.heap.size y w')) := Lib.hid fun y hy => (hT y t (hy.mono hB)).mono fun e w' ⟨h1, h2⟩ => ⟨h1, Lib.hid h2⟩
  have HA := Lib.hid ha
  clear k0 k1 c0 l0 l1 hT hB ha
  have i1 : (f : Int) < (m : Int) := by omega
  have i0 : (0 : Int) ≤ (f : Int) := by omega
  have im : (m : Int) ≤ 60000 := by omega
  unfold insA
  simp only
  go_enter Tryz.func25, Tryz.ntmps25
  go_wp2
  have HB4 : Hid (Below w.heap.size w (((((w.alloc (.cells #[.int .u8 22, .int .i64 a, .int .i64 b, .int .i64 c, .string t] 48)).alloc (.cells #[.int .i64 0, .int .i64 0] 107)).alloc (.cells #[.int .i64 0, .int .i64 0] 107)).alloc (.cells #[.int .i64 0, .int .i64 0] 107)).drew)) := Lib.hid (((((((Below.refl _ _).alloc (Nat.le_refl _) _).alloc (by simp) _).alloc (by simp; omega) _).alloc (by simp; omega) _)).drew)
  obtain ⟨s1, s2, s3⟩ := HS.out _ HB4.out
  clear HS
  go_region_held3 (fun z => z = (((((w.alloc (.cells #[.int .u8 22, .int .i64 a, .int .i64 b, .int .i64 c, .string t] 48)).alloc (.cells #[.int .i64 0, .int .i64 0] 107)).alloc (.cells #[.int .i64 0, .int .i64 0] 107)).alloc (.cells #[.int .i64 0, .int .i64 0] 107)).drew)) ((first | rfl | assumption)) (fail)
  clear HTK HB4
  by_cases ht : t.size = 0
  · obtain rfl := str0 ht
    go_wp2
    all_goals go_ret
    all_goals refine ⟨?_, ?_⟩
    all_goals first | (repeat' first | exact Below.refl _ _ | refine Below.drew ?_ | refine Below.alloc ?_ (by first | omega | (simp; done) | (simp; omega)) _ | refine Below.setCell ?_ (by first | omega | (simp; done) | (simp; omega)) _) | skip
    all_goals (show Ending.returned (Value.bool _) = Ending.returned (Value.bool _); refine congrArg (fun z => Ending.returned (Value.bool z)) ?_)
    all_goals first | exact (opB_f (by simp [opP, empty0]; omega)).symm | exact (opB_t (by simp [opP, empty0]; omega)).symm | (refine decide_eq_decide.2 ?_; simp [opP, empty0]; omega)
  · have e0 : t.toList.isEmpty = false := str_ne0 ht
    go_wp2
    all_goals go_ret
    all_goals refine ⟨?_, ?_⟩
    all_goals first | (repeat' first | exact Below.refl _ _ | refine Below.drew ?_ | refine Below.alloc ?_ (by first | omega | (simp; done) | (simp; omega)) _ | refine Below.setCell ?_ (by first | omega | (simp; done) | (simp; omega)) _) | skip
    all_goals (show Ending.returned (Value.bool _) = Ending.returned (Value.bool _); refine congrArg (fun z => Ending.returned (Value.bool z)) ?_)
    all_goals exact (opB_f (by simp [opP, ht])).symm
theorem opsC_12 : OpsC 12 := by
  intro w kb m fc r rc n B ca ra cc g1 o1 f x k0 k1 hf hm hn hr c0 hT hB ha hx
  have l0 := cell_lt' k0; have l1 := cell_lt' c0
  have HS : Hid (∀ y, Below w.heap.size w y → y.cell? ⟨kb, 0, none⟩ = some (.slice (some ⟨g1, o1, none⟩) m fc) ∧ y.cell? ⟨kb, 1, none⟩ = some (.slice ra r rc) ∧ y.cell? ⟨g1, o1 + f, none⟩ = some (.slice ca n cc)) := Lib.hid fun y hy =>
    ⟨by rw [hy.cell (by exact l0)]; exact k0, by rw [hy.cell (by exact l0)]; exact k1, by rw [hy.cell (by exact l1)]; exact c0⟩
  obtain ⟨op, a, b, c, t⟩ := x
  simp only at hx ha
  subst hx
  have HTK : Hid (∀ y, Below w.heap.size w y → Calls Tryz.prog 46 #[.string t] y fun e w' => e = .returned (.tuple #[.int .i64 (takesN t), .bool (isPrim t)]) ∧ Hid (Below y.heap.size y w')) := Lib.hid fun y hy => (hT y t (hy.mono hB)).mono fun e w' ⟨h1, h2⟩ => ⟨h1, Lib.hid h2⟩
  have HA := Lib.hid ha
  clear k0 k1 c0 l0 l1 hT hB ha
  have i1 : (f : Int) < (m : Int) := by omega
  have i0 : (0 : Int) ≤ (f : Int) := by omega
  have im : (m : Int) ≤ 60000 := by omega
  unfold insA
  simp only
  go_enter Tryz.func25, Tryz.ntmps25
  go_wp2
  have HB4 : Hid (Below w.heap.size w (((((w.alloc (.cells #[.int .u8 12, .int .i64 a, .int .i64 b, .int .i64 c, .string t] 48)).alloc (.cells #[.int .i64 0, .int .i64 0] 107)).alloc (.cells #[.int .i64 0, .int .i64 0] 107)).alloc (.cells #[.int .i64 0, .int .i64 0] 107)).drew)) := Lib.hid (((((((Below.refl _ _).alloc (Nat.le_refl _) _).alloc (by simp) _).alloc (by simp; omega) _).alloc (by simp; omega) _)).drew)
  obtain ⟨s1, s2, s3⟩ := HS.out _ HB4.out
  clear HS
  go_region_held3 (fun z => z = (((((w.alloc (.cells #[.int .u8 12, .int .i64 a, .int .i64 b, .int .i64 c, .string t] 48)).alloc (.cells #[.int .i64 0, .int .i64 0] 107)).alloc (.cells #[.int .i64 0, .int .i64 0] 107)).alloc (.cells #[.int .i64 0, .int .i64 0] 107)).drew)) ((first | rfl | assumption)) (fail)
  clear HTK HB4
  by_cases ht : t.size = 0
  · obtain rfl := str0 ht
    go_wp2
    all_goals go_ret
    all_goals refine ⟨?_, ?_⟩
    all_goals first | (repeat' first | exact Below.refl _ _ | refine Below.drew ?_ | refine Below.alloc ?_ (by first | omega | (simp; done) | (simp; omega)) _ | refine Below.setCell ?_ (by first | omega | (simp; done) | (simp; omega)) _) | skip
    all_goals (show Ending.returned (Value.bool _) = Ending.returned (Value.bool _); refine congrArg (fun z => Ending.returned (Value.bool z)) ?_)
    all_goals first | exact (opB_f (by simp [opP, empty0]; omega)).symm | exact (opB_t (by simp [opP, empty0]; omega)).symm | (refine decide_eq_decide.2 ?_; simp [opP, empty0]; omega)
  · have e0 : t.toList.isEmpty = false := str_ne0 ht
    go_wp2
    all_goals go_ret
    all_goals refine ⟨?_, ?_⟩
    all_goals first | (repeat' first | exact Below.refl _ _ | refine Below.drew ?_ | refine Below.alloc ?_ (by first | omega | (simp; done) | (simp; omega)) _ | refine Below.setCell ?_ (by first | omega | (simp; done) | (simp; omega)) _) | skip
    all_goals (show Ending.returned (Value.bool _) = Ending.returned (Value.bool _); refine congrArg (fun z => Ending.returned (Value.bool z)) ?_)
    all_goals exact (opB_f (by simp [opP, ht])).symm
theorem opsC_19 : OpsC 19 := by
  intro w kb m fc r rc n B ca ra cc g1 o1 f x k0 k1 hf hm hn hr c0 hT hB ha hx
  have l0 := cell_lt' k0; have l1 := cell_lt' c0
  have HS : Hid (∀ y, Below w.heap.size w y → y.cell? ⟨kb, 0, none⟩ = some (.slice (some ⟨g1, o1, none⟩) m fc) ∧ y.cell? ⟨kb, 1, none⟩ = some (.slice ra r rc) ∧ y.cell? ⟨g1, o1 + f, none⟩ = some (.slice ca n cc)) := Lib.hid fun y hy =>
    ⟨by rw [hy.cell (by exact l0)]; exact k0, by rw [hy.cell (by exact l0)]; exact k1, by rw [hy.cell (by exact l1)]; exact c0⟩
  obtain ⟨op, a, b, c, t⟩ := x
  simp only at hx ha
  subst hx
  have HTK : Hid (∀ y, Below w.heap.size w y → Calls Tryz.prog 46 #[.string t] y fun e w' => e = .returned (.tuple #[.int .i64 (takesN t), .bool (isPrim t)]) ∧ Hid (Below y.heap.size y w')) := Lib.hid fun y hy => (hT y t (hy.mono hB)).mono fun e w' ⟨h1, h2⟩ => ⟨h1, Lib.hid h2⟩
  have HA := Lib.hid ha
  clear k0 k1 c0 l0 l1 hT hB ha
  have i1 : (f : Int) < (m : Int) := by omega
  have i0 : (0 : Int) ≤ (f : Int) := by omega
  have im : (m : Int) ≤ 60000 := by omega
  unfold insA
  simp only
  go_enter Tryz.func25, Tryz.ntmps25
  go_wp2
  have HB4 : Hid (Below w.heap.size w (((((w.alloc (.cells #[.int .u8 19, .int .i64 a, .int .i64 b, .int .i64 c, .string t] 48)).alloc (.cells #[.int .i64 0, .int .i64 0] 107)).alloc (.cells #[.int .i64 0, .int .i64 0] 107)).alloc (.cells #[.int .i64 0, .int .i64 0] 107)).drew)) := Lib.hid (((((((Below.refl _ _).alloc (Nat.le_refl _) _).alloc (by simp) _).alloc (by simp; omega) _).alloc (by simp; omega) _)).drew)
  obtain ⟨s1, s2, s3⟩ := HS.out _ HB4.out
  clear HS
  go_region_held3 (fun z => z = (((((w.alloc (.cells #[.int .u8 19, .int .i64 a, .int .i64 b, .int .i64 c, .string t] 48)).alloc (.cells #[.int .i64 0, .int .i64 0] 107)).alloc (.cells #[.int .i64 0, .int .i64 0] 107)).alloc (.cells #[.int .i64 0, .int .i64 0] 107)).drew)) ((first | rfl | assumption)) (fail)
  clear HTK HB4
  by_cases ht : t.size = 0
  · obtain rfl := str0 ht
    go_wp2
    all_goals go_ret
    all_goals refine ⟨?_, ?_⟩
    all_goals first | (repeat' first | exact Below.refl _ _ | refine Below.drew ?_ | refine Below.alloc ?_ (by first | omega | (simp; done) | (simp; omega)) _ | refine Below.setCell ?_ (by first | omega | (simp; done) | (simp; omega)) _) | skip
    all_goals (show Ending.returned (Value.bool _) = Ending.returned (Value.bool _); refine congrArg (fun z => Ending.returned (Value.bool z)) ?_)
    all_goals first | exact (opB_f (by simp [opP, empty0]; omega)).symm | exact (opB_t (by simp [opP, empty0]; omega)).symm | (refine decide_eq_decide.2 ?_; simp [opP, empty0]; omega)
  · have e0 : t.toList.isEmpty = false := str_ne0 ht
    go_wp2
    all_goals go_ret
    all_goals refine ⟨?_, ?_⟩
    all_goals first | (repeat' first | exact Below.refl _ _ | refine Below.drew ?_ | refine Below.alloc ?_ (by first | omega | (simp; done) | (simp; omega)) _ | refine Below.setCell ?_ (by first | omega | (simp; done) | (simp; omega)) _) | skip
    all_goals (show Ending.returned (Value.bool _) = Ending.returned (Value.bool _); refine congrArg (fun z => Ending.returned (Value.bool z)) ?_)
    all_goals exact (opB_f (by simp [opP, ht])).symm
end Go.Ck
