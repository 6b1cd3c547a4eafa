/- A part of the proof of VmChecks: what a function of the program or of the reference answers, walked by hand. Each theorem says its own conditions. -/
import Derived.Test.YtllpjpgpanjbiaaGreatDoorCk3
set_option linter.unusedVariables false
set_option linter.unusedSimpArgs false
set_option maxRecDepth 100000
set_option maxHeartbeats 8000000
namespace Go.Ck
open Go Go.RowKit Go.Proofs
theorem opsC_16 : OpsC 16 := by
  intro w kb m fc r rc n B ca ra cc g1 o1 f x k0 k1 hf hm hn hr c0 hT hB ha hx
  have l0 := cell_lt' k0; have l1 := cell_lt' c0
  have HS : Hid (∀ y, Below w.heap.size w y → y.cell? ⟨kb, 0, none⟩ = some (.slice (some ⟨g1, o1, none⟩) m fc) ∧ y.cell? ⟨kb, 1, none⟩ = some (.slice ra r rc) ∧ y.cell? ⟨g1, o1 + f, none⟩ = some (.slice ca n cc)) := Lib.hid fun y hy =>
    ⟨by rw [hy.cell (by exact l0)]; exact k0, by rw [hy.cell (by exact l0)]; exact k1, by rw [hy.cell (by exact l1)]; exact c0⟩
  obtain ⟨op, a, b, c, t⟩ := x
  simp only at hx ha
  subst hx
  have HTK : Hid (∀ y, Below w.heap.size w y → Calls Tryz.prog 46 #[.string t] y fun e w' => e = .returned (.tuple #[.int .i64 (takesN t), .bool (isPrim t)]) ∧ Hid (Below y.heap.size y w')) := Lib.hid fun y hy => (hT y t (hy.mono hB)).mono fun e w' ⟨h1, h2⟩ => ⟨h1, Lib.hid h2⟩
  have HA := Lib.hid ha
  clear k0 k1 c0 l0 l1 hT hB ha
  have i1 : (f : Int) < (m : Int) := by omega
  have i0 : (0 : Int) ≤ (f : Int) := by omega
  have im : (m : Int) ≤ 60000 := by omega
  unfold insA
  simp only
  go_enter Tryz.func25, Tryz.ntmps25
  go_wp2
  have HB4 : Hid (Below w.heap.size w (((((w.alloc (.cells #[.int .u8 16, .int .i64 a, .int .i64 b, .int .i64 c, .string t] 48)).alloc (.cells #[.int .i64 0, .int .i64 0] 107)).alloc (.cells #[.int .i64 0, .int .i64 0] 107)).alloc (.cells #[.int .i64 0, .int .i64 0] 107)).drew)) := Lib.hid (((((((Below.refl _ _).alloc (Nat.le_refl _) _).alloc (by simp) _).alloc (by simp; omega) _).alloc (by simp; omega) _)).drew)
  obtain ⟨s1, s2, s3⟩ := HS.out _ HB4.out
  clear HS
  go_region_held3 (fun z => z = (((((w.alloc (.cells #[.int .u8 16, .int .i64 a, .int .i64 b, .int .i64 c, .string t] 48)).alloc (.cells #[.int .i64 0, .int .i64 0] 107)).alloc (.cells #[.int .i64 0, .int .i64 0] 107)).alloc (.cells #[.int .i64 0, .int .i64 0] 107)).drew)) ((first | rfl | assumption)) (fail)
  go_wp2_with fail
  refine (HTK.out _ (by (repeat' first | exact Below.refl _ _ | refine Below.drew ?_ | refine Below.alloc ?_ (by first | omega | (simp; done) | (simp; omega)) _ | refine Below.setCell ?_ (by first | omega | (simp; done) | (simp; omega)) _))).mono ?_
  rintro e w5 ⟨rfl, HB5⟩
  have q0 := HB5.out.cell (p := ⟨w.heap.size, 1, none⟩) (by simp; try omega)
  have q1 := HB5.out.cell (p := ⟨w.heap.size, 2, none⟩) (by simp; try omega)
  have q2 := HB5.out.cell (p := ⟨w.heap.size, 3, none⟩) (by simp; try omega)
  have q3 := HB5.out.cell (p := ⟨w.heap.size + 1, 0, none⟩) (by simp; try omega)
  have q4 := HB5.out.cell (p := ⟨w.heap.size + 1, 1, none⟩) (by simp; try omega)
  have q5 := HB5.out.cell (p := ⟨w.heap.size + 1 + 1, 0, none⟩) (by simp; try omega)
  have q6 := HB5.out.cell (p := ⟨w.heap.size + 1 + 1, 1, none⟩) (by simp; try omega)
  have q7 := HB5.out.cell (p := ⟨w.heap.size + 1 + 1 + 1, 0, none⟩) (by simp; try omega)
  have q8 := HB5.out.cell (p := ⟨w.heap.size + 1 + 1 + 1, 1, none⟩) (by simp; try omega)
  simp [go_sem] at q0 q1 q2 q3 q4 q5 q6 q7 q8
  have HS5 : Hid (∀ y, Below w5.heap.size w5 y → y.cell? ⟨w.heap.size, 1, none⟩ = some (.int .i64 a) ∧ y.cell? ⟨w.heap.size, 2, none⟩ = some (.int .i64 b) ∧ y.cell? ⟨w.heap.size, 3, none⟩ = some (.int .i64 c) ∧ y.cell? ⟨w.heap.size + 1, 0, none⟩ = some (.int .i64 0) ∧ y.cell? ⟨w.heap.size + 1, 1, none⟩ = some (.int .i64 0) ∧ y.cell? ⟨w.heap.size + 1 + 1, 0, none⟩ = some (.int .i64 0) ∧ y.cell? ⟨w.heap.size + 1 + 1, 1, none⟩ = some (.int .i64 0) ∧ y.cell? ⟨w.heap.size + 1 + 1 + 1, 0, none⟩ = some (.int .i64 0) ∧ y.cell? ⟨w.heap.size + 1 + 1 + 1, 1, none⟩ = some (.int .i64 0)) := Lib.hid fun y hy => ⟨(hy.cell (by exact cell_lt' q0)).trans q0, (hy.cell (by exact cell_lt' q1)).trans q1, (hy.cell (by exact cell_lt' q2)).trans q2, (hy.cell (by exact cell_lt' q3)).trans q3, (hy.cell (by exact cell_lt' q4)).trans q4, (hy.cell (by exact cell_lt' q5)).trans q5, (hy.cell (by exact cell_lt' q6)).trans q6, (hy.cell (by exact cell_lt' q7)).trans q7, (hy.cell (by exact cell_lt' q8)).trans q8⟩
  have HBB : Hid (Below w.heap.size w w5) := Lib.hid ((show Below w.heap.size w _ from by (repeat' first | exact Below.refl _ _ | refine Below.drew ?_ | refine Below.alloc ?_ (by first | omega | (simp; done) | (simp; omega)) _ | refine Below.setCell ?_ (by first | omega | (simp; done) | (simp; omega)) _)).trans (HB5.out.mono (by simp; try omega)))
  clear HB5 HTK
  cases hp : isPrim t with
  | false =>
    go_wp2
    all_goals go_ret
    all_goals refine ⟨?_, ?_⟩
    all_goals first | exact HBB.out | (repeat' first | exact Below.refl _ _ | refine Below.drew ?_ | refine Below.alloc ?_ (by first | omega | (simp; done) | (simp; omega)) _ | refine Below.setCell ?_ (by first | omega | (simp; done) | (simp; omega)) _) | skip
    all_goals (show Ending.returned (Value.bool _) = Ending.returned (Value.bool _); refine congrArg (fun z => Ending.returned (Value.bool z)) ?_)
    all_goals exact (opB_f (by simp [opP, hp])).symm
  | true =>
    clear q0 q1 q2 q3 q4 q5 q6 q7 q8
    obtain ⟨q0, q1, q2, q3, q4, q5, q6, q7, q8⟩ := HS5.out _ (Below.refl _ _)
    by_cases hA : 0 ≤ a ∧ a ≤ 0
    · go_wp2_with fail
      refine (has_t hA).mono ?_
      rintro e w6 ⟨rfl, hb6⟩
      obtain ⟨r0, r1, r2, r3, r4, r5, r6, r7, r8⟩ := HS5.out _ hb6
      have HE6 := Lib.hid hb6
      clear hb6
      by_cases hB : 0 ≤ b ∧ b ≤ 0
      · go_wp2_with fail
        refine (has_t hB).mono ?_
        rintro e w7 ⟨rfl, hb7⟩
        replace hb7 := (HE6.out.trans (hb7.mono HE6.out.size))
        obtain ⟨r0, r1, r2, r3, r4, r5, r6, r7, r8⟩ := HS5.out _ hb7
        have HE7 := Lib.hid hb7
        clear hb7
        by_cases hC : 0 ≤ c ∧ c ≤ 0
        · go_wp2_with fail
          refine (has_t hC).mono ?_
          rintro e w8 ⟨rfl, hb8⟩
          replace hb8 := (HE7.out.trans (hb8.mono HE7.out.size))
          obtain ⟨r0, r1, r2, r3, r4, r5, r6, r7, r8⟩ := HS5.out _ hb8
          have HE8 := Lib.hid hb8
          clear hb8
          go_wp2_with fail
          go_ret
          refine ⟨?_, HBB.out.trans (HE8.out.mono HBB.out.size)⟩
          show Ending.returned (Value.bool _) = Ending.returned (Value.bool _)
          rw [opB_t (by simp [opP, hp]; omega)]
        · go_wp2_with fail
          refine (has_f hC).mono ?_
          rintro e w8 ⟨rfl, hb8⟩
          replace hb8 := (HE7.out.trans (hb8.mono HE7.out.size))
          obtain ⟨r0, r1, r2, r3, r4, r5, r6, r7, r8⟩ := HS5.out _ hb8
          have HE8 := Lib.hid hb8
          clear hb8
          go_wp2_with fail
          go_ret
          refine ⟨?_, HBB.out.trans (HE8.out.mono HBB.out.size)⟩
          show Ending.returned (Value.bool _) = Ending.returned (Value.bool _)
          rw [opB_f (by simp [opP, hp]; omega)]
      · go_wp2_with fail
        refine (has_f hB).mono ?_
        rintro e w7 ⟨rfl, hb7⟩
        replace hb7 := (HE6.out.trans (hb7.mono HE6.out.size))
        obtain ⟨r0, r1, r2, r3, r4, r5, r6, r7, r8⟩ := HS5.out _ hb7
        have HE7 := Lib.hid hb7
        clear hb7
        go_wp2_with fail
        go_ret
        refine ⟨?_, HBB.out.trans (HE7.out.mono HBB.out.size)⟩
        show Ending.returned (Value.bool _) = Ending.returned (Value.bool _)
        rw [opB_f (by simp [opP, hp]; omega)]
    · go_wp2_with fail
      refine (has_f hA).mono ?_
      rintro e w6 ⟨rfl, hb6⟩
      obtain ⟨r0, r1, r2, r3, r4, r5, r6, r7, r8⟩ := HS5.out _ hb6
      have HE6 := Lib.hid hb6
      clear hb6
      go_wp2_with fail
      go_ret
      refine ⟨?_, HBB.out.trans (HE6.out.mono HBB.out.size)⟩
      show Ending.returned (Value.bool _) = Ending.returned (Value.bool _)
      rw [opB_f (by simp [opP, hp]; omega)]
theorem opsC_18 : OpsC 18 := by
  intro w kb m fc r rc n B ca ra cc g1 o1 f x k0 k1 hf hm hn hr c0 hT hB ha hx
  have l0 := cell_lt' k0; have l1 := cell_lt' c0
  have HS : Hid (∀ y, Below w.heap.size w y → y.cell? ⟨kb, 0, none⟩ = some (.slice (some ⟨g1, o1, none⟩) m fc) ∧ y.cell? ⟨kb, 1, none⟩ = some (.slice ra r rc) ∧ y.cell? ⟨g1, o1 + f, none⟩ = some (.slice ca n cc)) := Lib.hid fun y hy =>
    ⟨by rw [hy.cell (by exact l0)]; exact k0, by rw [hy.cell (by exact l0)]; exact k1, by rw [hy.cell (by exact l1)]; exact c0⟩
  obtain ⟨op, a, b, c, t⟩ := x
  simp only at hx ha
  subst hx
  have HTK : Hid (∀ y, Below w.heap.size w y → Calls Tryz.prog 46 #[.string t] y fun e w' => e = .returned (.tuple #[.int .i64 (takesN t), .bool (isPrim t)]) ∧ Hid (Below y.heap.size y w')) := Lib.hid fun y hy => (hT y t (hy.mono hB)).mono fun e w' ⟨h1, h2⟩ => ⟨h1, Lib.hid h2⟩
  have HA := Lib.hid ha
  clear k0 k1 c0 l0 l1 hT hB ha
  have i1 : (f : Int) < (m : Int) := by omega
  have i0 : (0 : Int) ≤ (f : Int) := by omega
  have im : (m : Int) ≤ 60000 := by omega
  unfold insA
  simp only
  go_enter Tryz.func25, Tryz.ntmps25
  go_wp2
  have HB4 : Hid (Below w.heap.size w (((((w.alloc (.cells #[.int .u8 18, .int .i64 a, .int .i64 b, .int .i64 c, .string t] 48)).alloc (.cells #[.int .i64 0, .int .i64 0] 107)).alloc (.cells #[.int .i64 0, .int .i64 0] 107)).alloc (.cells #[.int .i64 0, .int .i64 0] 107)).drew)) := Lib.hid (((((((Below.refl _ _).alloc (Nat.le_refl _) _).alloc (by simp) _).alloc (by simp; omega) _).alloc (by simp; omega) _)).drew)
  obtain ⟨s1, s2, s3⟩ := HS.out _ HB4.out
  clear HS
  go_region_held3 (fun z => z = (((((w.alloc (.cells #[.int .u8 18, .int .i64 a, .int .i64 b, .int .i64 c, .string t] 48)).alloc (.cells #[.int .i64 0, .int .i64 0] 107)).alloc (.cells #[.int .i64 0, .int .i64 0] 107)).alloc (.cells #[.int .i64 0, .int .i64 0] 107)).drew)) ((first | rfl | assumption)) (fail)
  clear HTK HB4
  by_cases ht : t.size = 0
  · obtain rfl := str0 ht
    go_wp2
    all_goals go_ret
    all_goals refine ⟨?_, ?_⟩
    all_goals first | (repeat' first | exact Below.refl _ _ | refine Below.drew ?_ | refine Below.alloc ?_ (by first | omega | (simp; done) | (simp; omega)) _ | refine Below.setCell ?_ (by first | omega | (simp; done) | (simp; omega)) _) | skip
    all_goals (show Ending.returned (Value.bool _) = Ending.returned (Value.bool _); refine congrArg (fun z => Ending.returned (Value.bool z)) ?_)
    all_goals first | exact (opB_f (by simp [opP, empty0]; omega)).symm | exact (opB_t (by simp [opP, empty0]; omega)).symm | (refine decide_eq_decide.2 ?_; simp [opP, empty0]; omega)
  · have e0 : t.toList.isEmpty = false := str_ne0 ht
    go_wp2
    all_goals go_ret
    all_goals refine ⟨?_, ?_⟩
    all_goals first | (repeat' first | exact Below.refl _ _ | refine Below.drew ?_ | refine Below.alloc ?_ (by first | omega | (simp; done) | (simp; omega)) _ | refine Below.setCell ?_ (by first | omega | (simp; done) | (simp; omega)) _) | skip
    all_goals (show Ending.returned (Value.bool _) = Ending.returned (Value.bool _); refine congrArg (fun z => Ending.returned (Value.bool z)) ?_)
    all_goals exact (opB_f (by simp [opP, ht])).symm
theorem opsC_1 : OpsC 1 := by
  intro w kb m fc r rc n B ca ra cc g1 o1 f x k0 k1 hf hm hn hr c0 hT hB ha hx
  have l0 := cell_lt' k0; have l1 := cell_lt' c0
  have HS : Hid (∀ y, Below w.heap.size w y → y.cell? ⟨kb, 0, none⟩ = some (.slice (some ⟨g1, o1, none⟩) m fc) ∧ y.cell? ⟨kb, 1, none⟩ = some (.slice ra r rc) ∧ y.cell? ⟨g1, o1 + f, none⟩ = some (.slice ca n cc)) := Lib.hid fun y hy =>
    ⟨by rw [hy.cell (by exact l0)]; exact k0, by rw [hy.cell (by exact l0)]; exact k1, by rw [hy.cell (by exact l1)]; exact c0⟩
  obtain ⟨op, a, b, c, t⟩ := x
  simp only at hx ha
  subst hx
  have HTK : Hid (∀ y, Below w.heap.size w y → Calls Tryz.prog 46 #[.string t] y fun e w' => e = .returned (.tuple #[.int .i64 (takesN t), .bool (isPrim t)]) ∧ Hid (Below y.heap.size y w')) := Lib.hid fun y hy => (hT y t (hy.mono hB)).mono fun e w' ⟨h1, h2⟩ => ⟨h1, Lib.hid h2⟩
  have HA := Lib.hid ha
  clear k0 k1 c0 l0 l1 hT hB ha
  have i1 : (f : Int) < (m : Int) := by omega
  have i0 : (0 : Int) ≤ (f : Int) := by omega
  have im : (m : Int) ≤ 60000 := by omega
  unfold insA
  simp only
  go_enter Tryz.func25, Tryz.ntmps25
  go_wp2
  have HB4 : Hid (Below w.heap.size w (((((w.alloc (.cells #[.int .u8 1, .int .i64 a, .int .i64 b, .int .i64 c, .string t] 48)).alloc (.cells #[.int .i64 0, .int .i64 0] 107)).alloc (.cells #[.int .i64 0, .int .i64 0] 107)).alloc (.cells #[.int .i64 0, .int .i64 0] 107)).drew)) := Lib.hid (((((((Below.refl _ _).alloc (Nat.le_refl _) _).alloc (by simp) _).alloc (by simp; omega) _).alloc (by simp; omega) _)).drew)
  obtain ⟨s1, s2, s3⟩ := HS.out _ HB4.out
  clear HS
  go_region_held3 (fun z => z = (((((w.alloc (.cells #[.int .u8 1, .int .i64 a, .int .i64 b, .int .i64 c, .string t] 48)).alloc (.cells #[.int .i64 0, .int .i64 0] 107)).alloc (.cells #[.int .i64 0, .int .i64 0] 107)).alloc (.cells #[.int .i64 0, .int .i64 0] 107)).drew)) ((first | rfl | assumption)) (fail)
  clear HTK HB4
  by_cases ht : t.size = 0
  · obtain rfl := str0 ht
    go_wp2
    all_goals go_ret
    all_goals refine ⟨?_, ?_⟩
    all_goals first | (repeat' first | exact Below.refl _ _ | refine Below.drew ?_ | refine Below.alloc ?_ (by first | omega | (simp; done) | (simp; omega)) _ | refine Below.setCell ?_ (by first | omega | (simp; done) | (simp; omega)) _) | skip
    all_goals (show Ending.returned (Value.bool _) = Ending.returned (Value.bool _); refine congrArg (fun z => Ending.returned (Value.bool z)) ?_)
    all_goals first | exact (opB_f (by simp [opP, empty0]; omega)).symm | exact (opB_t (by simp [opP, empty0]; omega)).symm | (refine decide_eq_decide.2 ?_; simp [opP, empty0]; omega)
  · have e0 : t.toList.isEmpty = false := str_ne0 ht
    go_wp2
    all_goals go_ret
    all_goals refine ⟨?_, ?_⟩
    all_goals first | (repeat' first | exact Below.refl _ _ | refine Below.drew ?_ | refine Below.alloc ?_ (by first | omega | (simp; done) | (simp; omega)) _ | refine Below.setCell ?_ (by first | omega | (simp; done) | (simp; omega)) _) | skip
    all_goals (show Ending.returned (Value.bool _) = Ending.returned (Value.bool _); refine congrArg (fun z => Ending.returned (Value.bool z)) ?_)
    all_goals exact (opB_f (by simp [opP, ht])).symm
end Go.Ck
namespace Go.Ck
open Go Go.RowKit Go.Proofs
theorem opsC_2 : OpsC 2 := by
  intro w kb m fc r rc n B ca ra cc g1 o1 f x k0 k1 hf hm hn hr c0 hT hB ha hx
  have l0 := cell_lt' k0; have l1 := cell_lt' c0
  have HS : Hid (∀ y, Below w.heap.size w y → y.cell? ⟨kb, 0, none⟩ = some (.slice (some ⟨g1, o1, none⟩) m fc) ∧ y.cell? ⟨kb, 1, none⟩ = some (.slice ra r rc) ∧ y.cell? ⟨g1, o1 + f, none⟩ = some (.slice ca n cc)) := Lib.hid fun y hy =>
    ⟨by rw [hy.cell (by exact l0)]; exact k0, by rw [hy.cell (by exact l0)]; exact k1, by rw [hy.cell (by exact l1)]; exact c0⟩
  obtain ⟨op, a, b, c, t⟩ := x
  simp only at hx ha
  subst hx
  have HTK : Hid (∀ y, Below w.heap.size w y → Calls Tryz.prog 46 #[.string t] y fun e w' => e = .returned (.tuple #[.int .i64 (takesN t), .bool (isPrim t)]) ∧ Hid (Below y.heap.size y w')) := Lib.hid fun y hy => (hT y t (hy.mono hB)).mono fun e w' ⟨h1, h2⟩ => ⟨h1, Lib.hid h2⟩
  have HA := Lib.hid ha
  clear k0 k1 c0 l0 l1 hT hB ha
  have i1 : (f : Int) < (m : Int) := by omega
  have i0 : (0 : Int) ≤ (f : Int) := by omega
  have im : (m : Int) ≤ 60000 := by omega
  unfold insA
  simp only
  go_enter Tryz.func25, Tryz.ntmps25
  go_wp2
  have HB4 : Hid (Below w.heap.size w (((((w.alloc (.cells #[.int .u8 2, .int .i64 a, .int .i64 b, .int .i64 c, .string t] 48)).alloc (.cells #[.int .i64 0, .int .i64 0] 107)).alloc (.cells #[.int .i64 0, .int .i64 0] 107)).alloc (.cells #[.int .i64 0, .int .i64 0] 107)).drew)) := Lib.hid (((((((Below.refl _ _).alloc (Nat.le_refl _) _).alloc (by simp) _).alloc (by simp; omega) _).alloc (by simp; omega) _)).drew)
  obtain ⟨s1, s2, s3⟩ := HS.out _ HB4.out
  clear HS
  go_region_held3 (fun z => z = (((((w.alloc (.cells #[.int .u8 2, .int .i64 a, .int .i64 b, .int .i64 c, .string t] 48)).alloc (.cells #[.int .i64 0, .int .i64 0] 107)).alloc (.cells #[.int .i64 0, .int .i64 0] 107)).alloc (.cells #[.int .i64 0, .int .i64 0] 107)).drew)) ((first | rfl | assumption)) (fail)
  clear HTK HB4
  go_wp2
  all_goals go_ret
  all_goals refine ⟨?_, ?_⟩
  all_goals first | (repeat' first | exact Below.refl _ _ | refine Below.drew ?_ | refine Below.alloc ?_ (by first | omega | (simp; done) | (simp; omega)) _ | refine Below.setCell ?_ (by first | omega | (simp; done) | (simp; omega)) _) | skip
  all_goals (show Ending.returned (Value.bool _) = Ending.returned (Value.bool _); refine congrArg (fun z => Ending.returned (Value.bool z)) ?_)
  all_goals first | exact (opB_f (by simp [opP, empty0] <;> omega)).symm | exact (opB_t (by simp [opP, empty0] <;> omega)).symm | (refine decide_eq_decide.2 ?_; simp [opP, empty0] <;> omega)
theorem opsC_11 : OpsC 11 := by
  intro w kb m fc r rc n B ca ra cc g1 o1 f x k0 k1 hf hm hn hr c0 hT hB ha hx
  have l0 := cell_lt' k0; have l1 := cell_lt' c0
  have HS : Hid (∀ y, Below w.heap.size w y → y.cell? ⟨kb, 0, none⟩ = some (.slice (some ⟨g1, o1, none⟩) m fc) ∧ y.cell? ⟨kb, 1, none⟩ = some (.slice ra r rc) ∧ y.cell? ⟨g1, o1 + f, none⟩ = some (.slice ca n cc)) := Lib.hid fun y hy =>
    ⟨by rw [hy.cell (by exact l0)]; exact k0, by rw [hy.cell (by exact l0)]; exact k1, by rw [hy.cell (by exact l1)]; exact c0⟩
  obtain ⟨op, a, b, c, t⟩ := x
  simp only at hx ha
  subst hx
  have HTK : Hid (∀ y, Below w.heap.size w y → Calls Tryz.prog 46 #[.string t] y fun e w' => e = .returned (.tuple #[.int .i64 (takesN t), .bool (isPrim t)]) ∧ Hid (Below y.heap.size y w')) := Lib.hid fun y hy => (hT y t (hy.mono hB)).mono fun e w' ⟨h1, h2⟩ => ⟨h1, Lib.hid h2⟩
  have HA := Lib.hid ha
  clear k0 k1 c0 l0 l1 hT hB ha
  have i1 : (f : Int) < (m : Int) := by omega
  have i0 : (0 : Int) ≤ (f : Int) := by omega
  have im : (m : Int) ≤ 60000 := by omega
  unfold insA
  simp only
  go_enter Tryz.func25, Tryz.ntmps25
  go_wp2
  have HB4 : Hid (Below w.heap.size w (((((w.alloc (.cells #[.int .u8 11, .int .i64 a, .int .i64 b, .int .i64 c, .string t] 48)).alloc (.cells #[.int .i64 0, .int .i64 0] 107)).alloc (.cells #[.int .i64 0, .int .i64 0] 107)).alloc (.cells #[.int .i64 0, .int .i64 0] 107)).drew)) := Lib.hid (((((((Below.refl _ _).alloc (Nat.le_refl _) _).alloc (by simp) _).alloc (by simp; omega) _).alloc (by simp; omega) _)).drew)
  obtain ⟨s1, s2, s3⟩ := HS.out _ HB4.out
  clear HS
  go_region_held3 (fun z => z = (((((w.alloc (.cells #[.int .u8 11, .int .i64 a, .int .i64 b, .int .i64 c, .string t] 48)).alloc (.cells #[.int .i64 0, .int .i64 0] 107)).alloc (.cells #[.int .i64 0, .int .i64 0] 107)).alloc (.cells #[.int .i64 0, .int .i64 0] 107)).drew)) ((first | rfl | assumption)) (fail)
  clear HTK HB4
  by_cases ht : t.size = 0
  · obtain rfl := str0 ht
    go_wp2
    all_goals go_ret
    all_goals refine ⟨?_, ?_⟩
    all_goals first | (repeat' first | exact Below.refl _ _ | refine Below.drew ?_ | refine Below.alloc ?_ (by first | omega | (simp; done) | (simp; omega)) _ | refine Below.setCell ?_ (by first | omega | (simp; done) | (simp; omega)) _) | skip
    all_goals (show Ending.returned (Value.bool _) = Ending.returned (Value.bool _); refine congrArg (fun z => Ending.returned (Value.bool z)) ?_)
    all_goals first | exact (opB_f (by simp [opP, empty0]; omega)).symm | exact (opB_t (by simp [opP, empty0]; omega)).symm | (refine decide_eq_decide.2 ?_; simp [opP, empty0]; omega)
  · have e0 : t.toList.isEmpty = false := str_ne0 ht
    go_wp2
    all_goals go_ret
    all_goals refine ⟨?_, ?_⟩
    all_goals first | (repeat' first | exact Below.refl _ _ | refine Below.drew ?_ | refine Below.alloc ?_ (by first | omega | (simp; done) | (simp; omega)) _ | refine Below.setCell ?_ (by first | omega | (simp; done) | (simp; omega)) _) | skip
    all_goals (show Ending.returned (Value.bool _) = Ending.returned (Value.bool _); refine congrArg (fun z => Ending.returned (Value.bool z)) ?_)
    all_goals exact (opB_f (by simp [opP, ht])).symm
theorem opsC_7 : OpsC 7 := by
  intro w kb m fc r rc n B ca ra cc g1 o1 f x k0 k1 hf hm hn hr c0 hT hB ha hx
  have l0 := cell_lt' k0; have l1 := cell_lt' c0
  have HS : Hid (∀ y, Below w.heap.size w y → y.cell? ⟨kb, 0, none⟩ = some (.slice (some ⟨g1, o1, none⟩) m fc) ∧ y.cell? ⟨kb, 1, none⟩ = some (.slice ra r rc) ∧ y.cell? ⟨g1, o1 + f, none⟩ = some (.slice ca n cc)) := Lib.hid fun y hy =>
    ⟨by rw [hy.cell (by exact l0)]; exact k0, by rw [hy.cell (by exact l0)]; exact k1, by rw [hy.cell (by exact l1)]; exact c0⟩
  obtain ⟨op, a, b, c, t⟩ := x
  simp only at hx ha
  subst hx
  have HTK : Hid (∀ y, Below w.heap.size w y → Calls Tryz.prog 46 #[.string t] y fun e w' => e = .returned (.tuple #[.int .i64 (takesN t), .bool (isPrim t)]) ∧ Hid (Below y.heap.size y w')) := Lib.hid fun y hy => (hT y t (hy.mono hB)).mono fun e w' ⟨h1, h2⟩ => ⟨h1, Lib.hid h2⟩
  have HA := Lib.hid ha
  clear k0 k1 c0 l0 l1 hT hB ha
  have i1 : (f : Int) < (m : Int) := by omega
  have i0 : (0 : Int) ≤ (f : Int) := by omega
  have im : (m : Int) ≤ 60000 := by omega
  unfold insA
  simp only
  go_enter Tryz.func25, Tryz.ntmps25
  go_wp2
  have HB4 : Hid (Below w.heap.size w (((((w.alloc (.cells #[.int .u8 7, .int .i64 a, .int .i64 b, .int .i64 c, .string t] 48)).alloc (.cells #[.int .i64 0, .int .i64 0] 107)).alloc (.cells #[.int .i64 0, .int .i64 0] 107)).alloc (.cells #[.int .i64 0, .int .i64 0] 107)).drew)) := Lib.hid (((((((Below.refl _ _).alloc (Nat.le_refl _) _).alloc (by simp) _).alloc (by simp; omega) _).alloc (by simp; omega) _)).drew)
  obtain ⟨s1, s2, s3⟩ := HS.out _ HB4.out
  clear HS
  go_region_held3 (fun z => z = (((((w.alloc (.cells #[.int .u8 7, .int .i64 a, .int .i64 b, .int .i64 c, .string t] 48)).alloc (.cells #[.int .i64 0, .int .i64 0] 107)).alloc (.cells #[.int .i64 0, .int .i64 0] 107)).alloc (.cells #[.int .i64 0, .int .i64 0] 107)).drew)) ((first | rfl | assumption)) (fail)
  clear HTK HB4
  by_cases ht : t.size = 0
  · obtain rfl := str0 ht
    go_wp2
    all_goals go_ret
    all_goals refine ⟨?_, ?_⟩
    all_goals first | (repeat' first | exact Below.refl _ _ | refine Below.drew ?_ | refine Below.alloc ?_ (by first | omega | (simp; done) | (simp; omega)) _ | refine Below.setCell ?_ (by first | omega | (simp; done) | (simp; omega)) _) | skip
    all_goals (show Ending.returned (Value.bool _) = Ending.returned (Value.bool _); refine congrArg (fun z => Ending.returned (Value.bool z)) ?_)
    all_goals first | exact (opB_f (by simp [opP, empty0]; omega)).symm | exact (opB_t (by simp [opP, empty0]; omega)).symm | (refine decide_eq_decide.2 ?_; simp [opP, empty0]; omega)
  · have e0 : t.toList.isEmpty = false := str_ne0 ht
    go_wp2
    all_goals go_ret
    all_goals refine ⟨?_, ?_⟩
    all_goals first | (repeat' first | exact Below.refl _ _ | refine Below.drew ?_ | refine Below.alloc ?_ (by first | omega | (simp; done) | (simp; omega)) _ | refine Below.setCell ?_ (by first | omega | (simp; done) | (simp; omega)) _) | skip
    all_goals (show Ending.returned (Value.bool _) = Ending.returned (Value.bool _); refine congrArg (fun z => Ending.returned (Value.bool z)) ?_)
    all_goals exact (opB_f (by simp [opP, ht])).symm
end Go.Ck
namespace Go.Ck
open Go Go.RowKit Go.Proofs
theorem opsC_23 : OpsC 23 := by
  intro w kb m fc r rc n B ca ra cc g1 o1 f x k0 k1 hf hm hn hr c0 hT hB ha hx
  have l0 := cell_lt' k0; have l1 := cell_lt' c0
  have HS : Hid (∀ y, Below w.heap.size w y → y.cell? ⟨kb, 0, none⟩ = some (.slice (some ⟨g1, o1, none⟩) m fc) ∧ y.cell? ⟨kb, 1, none⟩ = some (.slice ra r rc) ∧ y.cell? ⟨g1, o1 + f, none⟩ = some (.slice ca n cc)) := Lib.hid fun y hy =>
    ⟨by rw [hy.cell (by exact l0)]; exact k0, by rw [hy.cell (by exact l0)]; exact k1, by rw [hy.cell (by exact l1)]; exact c0⟩
  obtain ⟨op, a, b, c, t⟩ := x
  simp only at hx ha
  subst hx
  have HTK : Hid (∀ y, Below w.heap.size w y → Calls Tryz.prog 46 #[.string t] y fun e w' => e = .returned (.tuple #[.int .i64 (takesN t), .bool (isPrim t)]) ∧ Hid (Below y.heap.size y w')) := Lib.hid fun y hy => (hT y t (hy.mono hB)).mono fun e w' ⟨h1, h2⟩ => ⟨h1, Lib.hid h2⟩
  have HA := Lib.hid ha
  clear k0 k1 c0 l0 l1 hT hB ha
  have i1 : (f : Int) < (m : Int) := by omega
  have i0 : (0 : Int) ≤ (f : Int) := by omega
  have im : (m : Int) ≤ 60000 := by omega
  unfold insA
  simp only
  go_enter Tryz.func25, Tryz.ntmps25
  go_wp2
  have HB4 : Hid (Below w.heap.size w (((((w.alloc (.cells #[.int .u8 23, .int .i64 a, .int .i64 b, .int .i64 c, .string t] 48)).alloc (.cells #[.int .i64 0, .int .i64 0] 107)).alloc (.cells #[.int .i64 0, .int .i64 0] 107)).alloc (.cells #[.int .i64 0, .int .i64 0] 107)).drew)) := Lib.hid (((((((Below.refl _ _).alloc (Nat.le_refl _) _).alloc (by simp) _).alloc (by simp; omega) _).alloc (by simp; omega) _)).drew)
  obtain ⟨s1, s2, s3⟩ := HS.out _ HB4.out
  clear HS
  go_region_held3 (fun z => z = (((((w.alloc (.cells #[.int .u8 23, .int .i64 a, .int .i64 b, .int .i64 c, .string t] 48)).alloc (.cells #[.int .i64 0, .int .i64 0] 107)).alloc (.cells #[.int .i64 0, .int .i64 0] 107)).alloc (.cells #[.int .i64 0, .int .i64 0] 107)).drew)) ((first | rfl | assumption)) (fail)
  clear HTK HB4
  by_cases ht : t.size = 0
  · obtain rfl := str0 ht
    go_wp2
    all_goals go_ret
    all_goals refine ⟨?_, ?_⟩
    all_goals first | (repeat' first | exact Below.refl _ _ | refine Below.drew ?_ | refine Below.alloc ?_ (by first | omega | (simp; done) | (simp; omega)) _ | refine Below.setCell ?_ (by first | omega | (simp; done) | (simp; omega)) _) | skip
    all_goals (show Ending.returned (Value.bool _) = Ending.returned (Value.bool _); refine congrArg (fun z => Ending.returned (Value.bool z)) ?_)
    all_goals first | exact (opB_f (by simp [opP, empty0]; omega)).symm | exact (opB_t (by simp [opP, empty0]; omega)).symm | (refine decide_eq_decide.2 ?_; simp [opP, empty0]; omega)
  · have e0 : t.toList.isEmpty = false := str_ne0 ht
    go_wp2
    all_goals go_ret
    all_goals refine ⟨?_, ?_⟩
    all_goals first | (repeat' first | exact Below.refl _ _ | refine Below.drew ?_ | refine Below.alloc ?_ (by first | omega | (simp; done) | (simp; omega)) _ | refine Below.setCell ?_ (by first | omega | (simp; done) | (simp; omega)) _) | skip
    all_goals (show Ending.returned (Value.bool _) = Ending.returned (Value.bool _); refine congrArg (fun z => Ending.returned (Value.bool z)) ?_)
    all_goals exact (opB_f (by simp [opP, ht])).symm
theorem opsC_3 : OpsC 3 := by
  intro w kb m fc r rc n B ca ra cc g1 o1 f x k0 k1 hf hm hn hr c0 hT hB ha hx
  have l0 := cell_lt' k0; have l1 := cell_lt' c0
  have HS : Hid (∀ y, Below w.heap.size w y → y.cell? ⟨kb, 0, none⟩ = some (.slice (some ⟨g1, o1, none⟩) m fc) ∧ y.cell? ⟨kb, 1, none⟩ = some (.slice ra r rc) ∧ y.cell? ⟨g1, o1 + f, none⟩ = some (.slice ca n cc)) := Lib.hid fun y hy =>
    ⟨by rw [hy.cell (by exact l0)]; exact k0, by rw [hy.cell (by exact l0)]; exact k1, by rw [hy.cell (by exact l1)]; exact c0⟩
  obtain ⟨op, a, b, c, t⟩ := x
  simp only at hx ha
  subst hx
  have HTK : Hid (∀ y, Below w.heap.size w y → Calls Tryz.prog 46 #[.string t] y fun e w' => e = .returned (.tuple #[.int .i64 (takesN t), .bool (isPrim t)]) ∧ Hid (Below y.heap.size y w')) := Lib.hid fun y hy => (hT y t (hy.mono hB)).mono fun e w' ⟨h1, h2⟩ => ⟨h1, Lib.hid h2⟩
  have HA := Lib.hid ha
  clear k0 k1 c0 l0 l1 hT hB ha
  have i1 : (f : Int) < (m : Int) := by omega
  have i0 : (0 : Int) ≤ (f : Int) := by omega
  have im : (m : Int) ≤ 60000 := by omega
  unfold insA
  simp only
  go_enter Tryz.func25, Tryz.ntmps25
  go_wp2
  have HB4 : Hid (Below w.heap.size w (((((w.alloc (.cells #[.int .u8 3, .int .i64 a, .int .i64 b, .int .i64 c, .string t] 48)).alloc (.cells #[.int .i64 0, .int .i64 0] 107)).alloc (.cells #[.int .i64 0, .int .i64 0] 107)).alloc (.cells #[.int .i64 0, .int .i64 0] 107)).drew)) := Lib.hid (((((((Below.refl _ _).alloc (Nat.le_refl _) _).alloc (by simp) _).alloc (by simp; omega) _).alloc (by simp; omega) _)).drew)
  obtain ⟨s1, s2, s3⟩ := HS.out _ HB4.out
  clear HS
  go_region_held3 (fun z => z = (((((w.alloc (.cells #[.int .u8 3, .int .i64 a, .int .i64 b, .int .i64 c, .string t] 48)).alloc (.cells #[.int .i64 0, .int .i64 0] 107)).alloc (.cells #[.int .i64 0, .int .i64 0] 107)).alloc (.cells #[.int .i64 0, .int .i64 0] 107)).drew)) ((first | rfl | assumption)) (fail)
  clear HTK HB4
  by_cases ht : t.size = 0
  · obtain rfl := str0 ht
    go_wp2
    all_goals go_ret
    all_goals refine ⟨?_, ?_⟩
    all_goals first | (repeat' first | exact Below.refl _ _ | refine Below.drew ?_ | refine Below.alloc ?_ (by first | omega | (simp; done) | (simp; omega)) _ | refine Below.setCell ?_ (by first | omega | (simp; done) | (simp; omega)) _) | skip
    all_goals (show Ending.returned (Value.bool _) = Ending.returned (Value.bool _); refine congrArg (fun z => Ending.returned (Value.bool z)) ?_)
    all_goals first | exact (opB_f (by simp [opP, empty0]; omega)).symm | exact (opB_t (by simp [opP, empty0]; omega)).symm | (refine decide_eq_decide.2 ?_; simp [opP, empty0]; omega)
  · have e0 : t.toList.isEmpty = false := str_ne0 ht
    go_wp2
    all_goals go_ret
    all_goals refine ⟨?_, ?_⟩
    all_goals first | (repeat' first | exact Below.refl _ _ | refine Below.drew ?_ | refine Below.alloc ?_ (by first | omega | (simp; done) | (simp; omega)) _ | refine Below.setCell ?_ (by first | omega | (simp; done) | (simp; omega)) _) | skip
    all_goals (show Ending.returned (Value.bool _) = Ending.returned (Value.bool _); refine congrArg (fun z => Ending.returned (Value.bool z)) ?_)
    all_goals exact (opB_f (by simp [opP, ht])).symm
theorem opsC_8 : OpsC 8 := by
  intro w kb m fc r rc n B ca ra cc g1 o1 f x k0 k1 hf hm hn hr c0 hT hB ha hx
  have l0 := cell_lt' k0; have l1 := cell_lt' c0
  have HS : Hid (∀ y, Below w.heap.size w y → y.cell? ⟨kb, 0, none⟩ = some (.slice (some ⟨g1, o1, none⟩) m fc) ∧ y.cell? ⟨kb, 1, none⟩ = some (.slice ra r rc) ∧ y.cell? ⟨g1, o1 + f, none⟩ = some (.slice ca n cc)) := Lib.hid fun y hy =>
    ⟨by rw [hy.cell (by exact l0)]; exact k0, by rw [hy.cell (by exact l0)]; exact k1, by rw [hy.cell (by exact l1)]; exact c0⟩
  obtain ⟨op, a, b, c, t⟩ := x
  simp only at hx ha
  subst hx
  have HTK : Hid (∀ y, Below w.heap.size w y → Calls Tryz.prog 46 #[.string t] y fun e w' => e = .returned (.tuple #[.int .i64 (takesN t), .bool (isPrim t)]) ∧ Hid (Below y.heap.size y w')) := Lib.hid fun y hy => (hT y t (hy.mono hB)).mono fun e w' ⟨h1, h2⟩ => ⟨h1, Lib.hid h2⟩
  have HA := Lib.hid ha
  clear k0 k1 c0 l0 l1 hT hB ha
  have i1 : (f : Int) < (m : Int) := by omega
  have i0 : (0 : Int) ≤ (f : Int) := by omega
  have im : (m : Int) ≤ 60000 := by omega
  unfold insA
  simp only
  go_enter Tryz.func25, Tryz.ntmps25
  go_wp2
  have HB4 : Hid (Below w.heap.size w (((((w.alloc (.cells #[.int .u8 8, .int .i64 a, .int .i64 b, .int .i64 c, .string t] 48)).alloc (.cells #[.int .i64 0, .int .i64 0] 107)).alloc (.cells #[.int .i64 0, .int .i64 0] 107)).alloc (.cells #[.int .i64 0, .int .i64 0] 107)).drew)) := Lib.hid (((((((Below.refl _ _).alloc (Nat.le_refl _) _).alloc (by simp) _).alloc (by simp; omega) _).alloc (by simp; omega) _)).drew)
  obtain ⟨s1, s2, s3⟩ := HS.out _ HB4.out
  clear HS
  go_region_held3 (fun z => z = (((((w.alloc (.cells #[.int .u8 8, .int .i64 a, .int .i64 b, .int .i64 c, .string t] 48)).alloc (.cells #[.int .i64 0, .int .i64 0] 107)).alloc (.cells #[.int .i64 0, .int .i64 0] 107)).alloc (.cells #[.int .i64 0, .int .i64 0] 107)).drew)) ((first | rfl | assumption)) (fail)
  clear HTK HB4
  by_cases ht : t.size = 0
  · obtain rfl := str0 ht
    go_wp2
    all_goals go_ret
    all_goals refine ⟨?_, ?_⟩
    all_goals first | (repeat' first | exact Below.refl _ _ | refine Below.drew ?_ | refine Below.alloc ?_ (by first | omega | (simp; done) | (simp; omega)) _ | refine Below.setCell ?_ (by first | omega | (simp; done) | (simp; omega)) _) | skip
    all_goals (show Ending.returned (Value.bool _) = Ending.returned (Value.bool _); refine congrArg (fun z => Ending.returned (Value.bool z)) ?_)
    all_goals first | exact (opB_f (by simp [opP, empty0]; omega)).symm | exact (opB_t (by simp [opP, empty0]; omega)).symm | (refine decide_eq_decide.2 ?_; simp [opP, empty0]; omega)
  · have e0 : t.toList.isEmpty = false := str_ne0 ht
    go_wp2
    all_goals go_ret
    all_goals refine ⟨?_, ?_⟩
    all_goals first | (repeat' first | exact Below.refl _ _ | refine Below.drew ?_ | refine Below.alloc ?_ (by first | omega | (simp; done) | (simp; omega)) _ | refine Below.setCell ?_ (by first | omega | (simp; done) | (simp; omega)) _) | skip
    all_goals (show Ending.returned (Value.bool _) = Ending.returned (Value.bool _); refine congrArg (fun z => Ending.returned (Value.bool z)) ?_)
    all_goals exact (opB_f (by simp [opP, ht])).symm
end Go.Ck
