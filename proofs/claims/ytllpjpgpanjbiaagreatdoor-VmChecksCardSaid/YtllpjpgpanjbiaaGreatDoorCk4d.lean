/- A part of the proof of VmChecks: what a function of the program or of the reference answers, walked by hand. Each theorem says its own conditions. -/
import Derived.Test.YtllpjpgpanjbiaaGreatDoorCk3
set_option linter.unusedVariables false
set_option linter.unusedSimpArgs false
set_option maxRecDepth 100000
set_option maxHeartbeats 8000000
namespace Go.Ck
open Go Go.RowKit Go.Proofs
theorem opsR_6 : OpsR 6 := by
  intro w m fc r rc n ca ra cc g1 o1 f x hf hm hn hr c0 ha hb hx
  have l1 := cell_lt' c0
  have HS : Hid (∀ y, Below w.heap.size w y → y.cell? ⟨g1, o1 + f, none⟩ = some (.slice ca n cc)) := Lib.hid fun y hy => by rw [hy.cell (by exact l1)]; exact c0
  obtain ⟨op, a, b, c, t⟩ := x
  simp only at hx ha hb
  subst hx
  have HA := Lib.hid ha
  have HA2 := Lib.hid hb
  clear c0 l1 ha hb
  have i1 : (f : Int) < (m : Int) := by omega
  have i0 : (0 : Int) ≤ (f : Int) := by omega
  have im : (m : Int) ≤ 60000 := by omega
  unfold insA
  simp only
  have s1 := HS.out ((w.alloc (.cells #[.slice (some ⟨g1, o1, none⟩) m fc, .slice ra r rc] 25)).alloc (.cells #[.int .u8 6, .int .i64 a, .int .i64 b, .int .i64 c, .string t] 48)) (by (repeat' first | exact Below.refl _ _ | refine Below.drew ?_ | refine Below.alloc ?_ (by first | omega | (simp; done) | (simp; omega)) _ | refine Below.setCell ?_ (by first | omega | (simp; done) | (simp; omega)) _))
  clear HS
  have ha := HA.out
  have hb := HA2.out
  by_cases ht : t.size = 0
  · obtain rfl := str0 ht
    go_enter Tryz.func16, Tryz.ntmps16
    go_wp2
    all_goals go_ret
    all_goals refine ⟨?_, ?_⟩
    all_goals first | (repeat' first | exact Below.refl _ _ | refine Below.drew ?_ | refine Below.alloc ?_ (by first | omega | (simp; done) | (simp; omega)) _ | refine Below.setCell ?_ (by first | omega | (simp; done) | (simp; omega)) _) | skip
    all_goals (show Ending.returned (Value.bool _) = Ending.returned (Value.bool _); refine congrArg (fun z => Ending.returned (Value.bool z)) ?_)
    all_goals first | exact (opB_f (by simp [opP, empty0]; omega)).symm | exact (opB_t (by simp [opP, empty0]; omega)).symm | (refine decide_eq_decide.2 ?_; simp [opP, empty0]; omega)
  · have e0 : t.toList.isEmpty = false := str_ne0 ht
    go_enter Tryz.func16, Tryz.ntmps16
    go_wp2
    all_goals go_ret
    all_goals refine ⟨?_, ?_⟩
    all_goals first | (repeat' first | exact Below.refl _ _ | refine Below.drew ?_ | refine Below.alloc ?_ (by first | omega | (simp; done) | (simp; omega)) _ | refine Below.setCell ?_ (by first | omega | (simp; done) | (simp; omega)) _) | skip
    all_goals (show Ending.returned (Value.bool _) = Ending.returned (Value.bool _); refine congrArg (fun z => Ending.returned (Value.bool z)) ?_)
    all_goals exact (opB_f (by simp [opP, ht])).symm
theorem opsR_9 : OpsR 9 := by
  intro w m fc r rc n ca ra cc g1 o1 f x hf hm hn hr c0 ha hb hx
  have l1 := cell_lt' c0
  have HS : Hid (∀ y, Below w.heap.size w y → y.cell? ⟨g1, o1 + f, none⟩ = some (.slice ca n cc)) := Lib.hid fun y hy => by rw [hy.cell (by exact l1)]; exact c0
  obtain ⟨op, a, b, c, t⟩ := x
  simp only at hx ha hb
  subst hx
  have HA := Lib.hid ha
  have HA2 := Lib.hid hb
  clear c0 l1 ha hb
  have i1 : (f : Int) < (m : Int) := by omega
  have i0 : (0 : Int) ≤ (f : Int) := by omega
  have im : (m : Int) ≤ 60000 := by omega
  unfold insA
  simp only
  have s1 := HS.out ((w.alloc (.cells #[.slice (some ⟨g1, o1, none⟩) m fc, .slice ra r rc] 25)).alloc (.cells #[.int .u8 9, .int .i64 a, .int .i64 b, .int .i64 c, .string t] 48)) (by (repeat' first | exact Below.refl _ _ | refine Below.drew ?_ | refine Below.alloc ?_ (by first | omega | (simp; done) | (simp; omega)) _ | refine Below.setCell ?_ (by first | omega | (simp; done) | (simp; omega)) _))
  clear HS
  by_cases ht : t.size = 0
  · obtain rfl := str0 ht
    go_enter Tryz.func16, Tryz.ntmps16
    go_wp2
    all_goals go_ret
    all_goals refine ⟨?_, ?_⟩
    all_goals first | (repeat' first | exact Below.refl _ _ | refine Below.drew ?_ | refine Below.alloc ?_ (by first | omega | (simp; done) | (simp; omega)) _ | refine Below.setCell ?_ (by first | omega | (simp; done) | (simp; omega)) _) | skip
    all_goals (show Ending.returned (Value.bool _) = Ending.returned (Value.bool _); refine congrArg (fun z => Ending.returned (Value.bool z)) ?_)
    all_goals first | exact (opB_f (by simp [opP, empty0]; omega)).symm | exact (opB_t (by simp [opP, empty0]; omega)).symm | (refine decide_eq_decide.2 ?_; simp [opP, empty0]; omega)
  · have e0 : t.toList.isEmpty = false := str_ne0 ht
    go_enter Tryz.func16, Tryz.ntmps16
    go_wp2
    all_goals go_ret
    all_goals refine ⟨?_, ?_⟩
    all_goals first | (repeat' first | exact Below.refl _ _ | refine Below.drew ?_ | refine Below.alloc ?_ (by first | omega | (simp; done) | (simp; omega)) _ | refine Below.setCell ?_ (by first | omega | (simp; done) | (simp; omega)) _) | skip
    all_goals (show Ending.returned (Value.bool _) = Ending.returned (Value.bool _); refine congrArg (fun z => Ending.returned (Value.bool z)) ?_)
    all_goals exact (opB_f (by simp [opP, ht])).symm
theorem opsR_14 : OpsR 14 := by
  intro w m fc r rc n ca ra cc g1 o1 f x hf hm hn hr c0 ha hb hx
  have l1 := cell_lt' c0
  have HS : Hid (∀ y, Below w.heap.size w y → y.cell? ⟨g1, o1 + f, none⟩ = some (.slice ca n cc)) := Lib.hid fun y hy => by rw [hy.cell (by exact l1)]; exact c0
  obtain ⟨op, a, b, c, t⟩ := x
  simp only at hx ha hb
  subst hx
  have HA := Lib.hid ha
  have HA2 := Lib.hid hb
  clear c0 l1 ha hb
  have i1 : (f : Int) < (m : Int) := by omega
  have i0 : (0 : Int) ≤ (f : Int) := by omega
  have im : (m : Int) ≤ 60000 := by omega
  unfold insA
  simp only
  have s1 := HS.out ((w.alloc (.cells #[.slice (some ⟨g1, o1, none⟩) m fc, .slice ra r rc] 25)).alloc (.cells #[.int .u8 14, .int .i64 a, .int .i64 b, .int .i64 c, .string t] 48)) (by (repeat' first | exact Below.refl _ _ | refine Below.drew ?_ | refine Below.alloc ?_ (by first | omega | (simp; done) | (simp; omega)) _ | refine Below.setCell ?_ (by first | omega | (simp; done) | (simp; omega)) _))
  clear HS
  by_cases ht : t.size = 0
  · obtain rfl := str0 ht
    go_enter Tryz.func16, Tryz.ntmps16
    go_wp2
    all_goals go_ret
    all_goals refine ⟨?_, ?_⟩
    all_goals first | (repeat' first | exact Below.refl _ _ | refine Below.drew ?_ | refine Below.alloc ?_ (by first | omega | (simp; done) | (simp; omega)) _ | refine Below.setCell ?_ (by first | omega | (simp; done) | (simp; omega)) _) | skip
    all_goals (show Ending.returned (Value.bool _) = Ending.returned (Value.bool _); refine congrArg (fun z => Ending.returned (Value.bool z)) ?_)
    all_goals first | exact (opB_f (by simp [opP, empty0]; omega)).symm | exact (opB_t (by simp [opP, empty0]; omega)).symm | (refine decide_eq_decide.2 ?_; simp [opP, empty0]; omega)
  · have e0 : t.toList.isEmpty = false := str_ne0 ht
    go_enter Tryz.func16, Tryz.ntmps16
    go_wp2
    all_goals go_ret
    all_goals refine ⟨?_, ?_⟩
    all_goals first | (repeat' first | exact Below.refl _ _ | refine Below.drew ?_ | refine Below.alloc ?_ (by first | omega | (simp; done) | (simp; omega)) _ | refine Below.setCell ?_ (by first | omega | (simp; done) | (simp; omega)) _) | skip
    all_goals (show Ending.returned (Value.bool _) = Ending.returned (Value.bool _); refine congrArg (fun z => Ending.returned (Value.bool z)) ?_)
    all_goals exact (opB_f (by simp [opP, ht])).symm
theorem opsR_21 : OpsR 21 := by
  intro w m fc r rc n ca ra cc g1 o1 f x hf hm hn hr c0 ha hb hx
  have l1 := cell_lt' c0
  have HS : Hid (∀ y, Below w.heap.size w y → y.cell? ⟨g1, o1 + f, none⟩ = some (.slice ca n cc)) := Lib.hid fun y hy => by rw [hy.cell (by exact l1)]; exact c0
  obtain ⟨op, a, b, c, t⟩ := x
  simp only at hx ha hb
  subst hx
  have HA := Lib.hid ha
  have HA2 := Lib.hid hb
  clear c0 l1 ha hb
  have i1 : (f : Int) < (m : Int) := by omega
  have i0 : (0 : Int) ≤ (f : Int) := by omega
  have im : (m : Int) ≤ 60000 := by omega
  unfold insA
  simp only
  have s1 := HS.out ((w.alloc (.cells #[.slice (some ⟨g1, o1, none⟩) m fc, .slice ra r rc] 25)).alloc (.cells #[.int .u8 21, .int .i64 a, .int .i64 b, .int .i64 c, .string t] 48)) (by (repeat' first | exact Below.refl _ _ | refine Below.drew ?_ | refine Below.alloc ?_ (by first | omega | (simp; done) | (simp; omega)) _ | refine Below.setCell ?_ (by first | omega | (simp; done) | (simp; omega)) _))
  clear HS
  by_cases ht : t.size = 0
  · obtain rfl := str0 ht
    go_enter Tryz.func16, Tryz.ntmps16
    go_wp2
    all_goals go_ret
    all_goals refine ⟨?_, ?_⟩
    all_goals first | (repeat' first | exact Below.refl _ _ | refine Below.drew ?_ | refine Below.alloc ?_ (by first | omega | (simp; done) | (simp; omega)) _ | refine Below.setCell ?_ (by first | omega | (simp; done) | (simp; omega)) _) | skip
    all_goals (show Ending.returned (Value.bool _) = Ending.returned (Value.bool _); refine congrArg (fun z => Ending.returned (Value.bool z)) ?_)
    all_goals first | exact (opB_f (by simp [opP, empty0]; omega)).symm | exact (opB_t (by simp [opP, empty0]; omega)).symm | (refine decide_eq_decide.2 ?_; simp [opP, empty0]; omega)
  · have e0 : t.toList.isEmpty = false := str_ne0 ht
    go_enter Tryz.func16, Tryz.ntmps16
    go_wp2
    all_goals go_ret
    all_goals refine ⟨?_, ?_⟩
    all_goals first | (repeat' first | exact Below.refl _ _ | refine Below.drew ?_ | refine Below.alloc ?_ (by first | omega | (simp; done) | (simp; omega)) _ | refine Below.setCell ?_ (by first | omega | (simp; done) | (simp; omega)) _) | skip
    all_goals (show Ending.returned (Value.bool _) = Ending.returned (Value.bool _); refine congrArg (fun z => Ending.returned (Value.bool z)) ?_)
    all_goals exact (opB_f (by simp [opP, ht])).symm
end Go.Ck
namespace Go.Ck
open Go Go.RowKit Go.Proofs
theorem opsR_0 {w : World} {m fc r rc n : Nat} {ca ra : Option Addr} {cc g1 o1 f : Nat} {x : Ins}
    (hf : f < m) (hm : m ≤ 60000) (hn : n ≤ 60000) (hr : r ≤ 60000)
    (c0 : w.cell? ⟨g1, o1 + f, none⟩ = some (.slice ca n cc)) (ha : -9223372036854775808 ≤ x.a ∧ x.a ≤ 9223372036854775807) (hb : -9223372036854775808 ≤ x.b ∧ x.b ≤ 9223372036854775807) (hx : x.op ≠ 1 ∧ x.op ≠ 2 ∧ x.op ≠ 3 ∧ x.op ≠ 4 ∧ x.op ≠ 5 ∧ x.op ≠ 6 ∧ x.op ≠ 7 ∧ x.op ≠ 8 ∧ x.op ≠ 9 ∧ x.op ≠ 10 ∧ x.op ≠ 11 ∧ x.op ≠ 12 ∧ x.op ≠ 13 ∧ x.op ≠ 14 ∧ x.op ≠ 15 ∧ x.op ≠ 16 ∧ x.op ≠ 17 ∧ x.op ≠ 18 ∧ x.op ≠ 19 ∧ x.op ≠ 20 ∧ x.op ≠ 21 ∧ x.op ≠ 22 ∧ x.op ≠ 23 ∧ x.op ≠ 24 ∧ x.op ≠ 25) :
    Calls Tryz.prog 16 #[.agg #[.slice (some ⟨g1, o1, none⟩) m fc, .slice ra r rc], .int .i64 f, insA x] w fun e w' => e = .returned (.bool (opB m n r x)) ∧ Below w.heap.size w w' := by
  have l1 := cell_lt' c0
  have HS : Hid (∀ y, Below w.heap.size w y → y.cell? ⟨g1, o1 + f, none⟩ = some (.slice ca n cc)) := Lib.hid fun y hy => by rw [hy.cell (by exact l1)]; exact c0
  obtain ⟨op, a, b, c, t⟩ := x
  simp only at hx ha hb
  obtain ⟨n1, n2, n3, n4, n5, n6, n7, n8, n9, n10, n11, n12, n13, n14, n15, n16, n17, n18, n19, n20, n21, n22, n23, n24, n25⟩ := hx
  have hop : opB m n r ⟨op, a, b, c, t⟩ = false := opB_f (by simp [opP, n1, n2, n3, n4, n5, n6, n7, n8, n9, n10, n11, n12, n13, n14, n15, n16, n17, n18, n19, n20, n21, n22, n23, n24, n25])
  rw [hop]
  have e1 : (op == 1) = false := by simpa using n1
  have e2 : (op == 2) = false := by simpa using n2
  have e3 : (op == 3) = false := by simpa using n3
  have e4 : (op == 4) = false := by simpa using n4
  have e5 : (op == 5) = false := by simpa using n5
  have e6 : (op == 6) = false := by simpa using n6
  have e7 : (op == 7) = false := by simpa using n7
  have e8 : (op == 8) = false := by simpa using n8
  have e9 : (op == 9) = false := by simpa using n9
  have e10 : (op == 10) = false := by simpa using n10
  have e11 : (op == 11) = false := by simpa using n11
  have e12 : (op == 12) = false := by simpa using n12
  have e13 : (op == 13) = false := by simpa using n13
  have e14 : (op == 14) = false := by simpa using n14
  have e15 : (op == 15) = false := by simpa using n15
  have e16 : (op == 16) = false := by simpa using n16
  have e17 : (op == 17) = false := by simpa using n17
  have e18 : (op == 18) = false := by simpa using n18
  have e19 : (op == 19) = false := by simpa using n19
  have e20 : (op == 20) = false := by simpa using n20
  have e21 : (op == 21) = false := by simpa using n21
  have e22 : (op == 22) = false := by simpa using n22
  have e23 : (op == 23) = false := by simpa using n23
  have e24 : (op == 24) = false := by simpa using n24
  have e25 : (op == 25) = false := by simpa using n25
  clear hop n1 n2 n3 n4 n5 n6 n7 n8 n9 n10 n11 n12 n13 n14 n15 n16 n17 n18 n19 n20 n21 n22 n23 n24 n25
  have HA := Lib.hid ha
  have HA2 := Lib.hid hb
  clear c0 l1 ha hb
  have i1 : (f : Int) < (m : Int) := by omega
  have i0 : (0 : Int) ≤ (f : Int) := by omega
  have im : (m : Int) ≤ 60000 := by omega
  unfold insA
  simp only
  have s1 := HS.out ((w.alloc (.cells #[.slice (some ⟨g1, o1, none⟩) m fc, .slice ra r rc] 25)).alloc (.cells #[.int .u8 op, .int .i64 a, .int .i64 b, .int .i64 c, .string t] 48)) (by (repeat' first | exact Below.refl _ _ | refine Below.drew ?_ | refine Below.alloc ?_ (by first | omega | (simp; done) | (simp; omega)) _ | refine Below.setCell ?_ (by first | omega | (simp; done) | (simp; omega)) _))
  clear HS
  go_enter Tryz.func16, Tryz.ntmps16
  go_wp2
  all_goals go_ret
  all_goals refine ⟨?_, ?_⟩
  all_goals first | (repeat' first | exact Below.refl _ _ | refine Below.drew ?_ | refine Below.alloc ?_ (by first | omega | (simp; done) | (simp; omega)) _ | refine Below.setCell ?_ (by first | omega | (simp; done) | (simp; omega)) _) | skip
  all_goals rfl
theorem opsR_10 : OpsR 10 := by
  intro w m fc r rc n ca ra cc g1 o1 f x hf hm hn hr c0 ha hb hx
  have l1 := cell_lt' c0
  have HS : Hid (∀ y, Below w.heap.size w y → y.cell? ⟨g1, o1 + f, none⟩ = some (.slice ca n cc)) := Lib.hid fun y hy => by rw [hy.cell (by exact l1)]; exact c0
  obtain ⟨op, a, b, c, t⟩ := x
  simp only at hx ha hb
  subst hx
  have HA := Lib.hid ha
  have HA2 := Lib.hid hb
  clear c0 l1 ha hb
  have i1 : (f : Int) < (m : Int) := by omega
  have i0 : (0 : Int) ≤ (f : Int) := by omega
  have im : (m : Int) ≤ 60000 := by omega
  unfold insA
  simp only
  have s1 := HS.out ((w.alloc (.cells #[.slice (some ⟨g1, o1, none⟩) m fc, .slice ra r rc] 25)).alloc (.cells #[.int .u8 10, .int .i64 a, .int .i64 b, .int .i64 c, .string t] 48)) (by (repeat' first | exact Below.refl _ _ | refine Below.drew ?_ | refine Below.alloc ?_ (by first | omega | (simp; done) | (simp; omega)) _ | refine Below.setCell ?_ (by first | omega | (simp; done) | (simp; omega)) _))
  clear HS
  by_cases ht : t.size = 0
  · obtain rfl := str0 ht
    go_enter Tryz.func16, Tryz.ntmps16
    go_wp2
    all_goals go_ret
    all_goals refine ⟨?_, ?_⟩
    all_goals first | (repeat' first | exact Below.refl _ _ | refine Below.drew ?_ | refine Below.alloc ?_ (by first | omega | (simp; done) | (simp; omega)) _ | refine Below.setCell ?_ (by first | omega | (simp; done) | (simp; omega)) _) | skip
    all_goals (show Ending.returned (Value.bool _) = Ending.returned (Value.bool _); refine congrArg (fun z => Ending.returned (Value.bool z)) ?_)
    all_goals first | exact (opB_f (by simp [opP, empty0]; omega)).symm | exact (opB_t (by simp [opP, empty0]; omega)).symm | (refine decide_eq_decide.2 ?_; simp [opP, empty0]; omega)
  · have e0 : t.toList.isEmpty = false := str_ne0 ht
    go_enter Tryz.func16, Tryz.ntmps16
    go_wp2
    all_goals go_ret
    all_goals refine ⟨?_, ?_⟩
    all_goals first | (repeat' first | exact Below.refl _ _ | refine Below.drew ?_ | refine Below.alloc ?_ (by first | omega | (simp; done) | (simp; omega)) _ | refine Below.setCell ?_ (by first | omega | (simp; done) | (simp; omega)) _) | skip
    all_goals (show Ending.returned (Value.bool _) = Ending.returned (Value.bool _); refine congrArg (fun z => Ending.returned (Value.bool z)) ?_)
    all_goals exact (opB_f (by simp [opP, ht])).symm
theorem opsR_20 : OpsR 20 := by
  intro w m fc r rc n ca ra cc g1 o1 f x hf hm hn hr c0 ha hb hx
  have l1 := cell_lt' c0
  have HS : Hid (∀ y, Below w.heap.size w y → y.cell? ⟨g1, o1 + f, none⟩ = some (.slice ca n cc)) := Lib.hid fun y hy => by rw [hy.cell (by exact l1)]; exact c0
  obtain ⟨op, a, b, c, t⟩ := x
  simp only at hx ha hb
  subst hx
  have HA := Lib.hid ha
  have HA2 := Lib.hid hb
  clear c0 l1 ha hb
  have i1 : (f : Int) < (m : Int) := by omega
  have i0 : (0 : Int) ≤ (f : Int) := by omega
  have im : (m : Int) ≤ 60000 := by omega
  unfold insA
  simp only
  have s1 := HS.out ((w.alloc (.cells #[.slice (some ⟨g1, o1, none⟩) m fc, .slice ra r rc] 25)).alloc (.cells #[.int .u8 20, .int .i64 a, .int .i64 b, .int .i64 c, .string t] 48)) (by (repeat' first | exact Below.refl _ _ | refine Below.drew ?_ | refine Below.alloc ?_ (by first | omega | (simp; done) | (simp; omega)) _ | refine Below.setCell ?_ (by first | omega | (simp; done) | (simp; omega)) _))
  clear HS
  by_cases ht : t.size = 0
  · obtain rfl := str0 ht
    go_enter Tryz.func16, Tryz.ntmps16
    go_wp2
    all_goals go_ret
    all_goals refine ⟨?_, ?_⟩
    all_goals first | (repeat' first | exact Below.refl _ _ | refine Below.drew ?_ | refine Below.alloc ?_ (by first | omega | (simp; done) | (simp; omega)) _ | refine Below.setCell ?_ (by first | omega | (simp; done) | (simp; omega)) _) | skip
    all_goals (show Ending.returned (Value.bool _) = Ending.returned (Value.bool _); refine congrArg (fun z => Ending.returned (Value.bool z)) ?_)
    all_goals first | exact (opB_f (by simp [opP, empty0]; omega)).symm | exact (opB_t (by simp [opP, empty0]; omega)).symm | (refine decide_eq_decide.2 ?_; simp [opP, empty0]; omega)
  · have e0 : t.toList.isEmpty = false := str_ne0 ht
    go_enter Tryz.func16, Tryz.ntmps16
    go_wp2
    all_goals go_ret
    all_goals refine ⟨?_, ?_⟩
    all_goals first | (repeat' first | exact Below.refl _ _ | refine Below.drew ?_ | refine Below.alloc ?_ (by first | omega | (simp; done) | (simp; omega)) _ | refine Below.setCell ?_ (by first | omega | (simp; done) | (simp; omega)) _) | skip
    all_goals (show Ending.returned (Value.bool _) = Ending.returned (Value.bool _); refine congrArg (fun z => Ending.returned (Value.bool z)) ?_)
    all_goals exact (opB_f (by simp [opP, ht])).symm
theorem opsR_25 : OpsR 25 := by
  intro w m fc r rc n ca ra cc g1 o1 f x hf hm hn hr c0 ha hb hx
  have l1 := cell_lt' c0
  have HS : Hid (∀ y, Below w.heap.size w y → y.cell? ⟨g1, o1 + f, none⟩ = some (.slice ca n cc)) := Lib.hid fun y hy => by rw [hy.cell (by exact l1)]; exact c0
  obtain ⟨op, a, b, c, t⟩ := x
  simp only at hx ha hb
  subst hx
  have HA := Lib.hid ha
  have HA2 := Lib.hid hb
  clear c0 l1 ha hb
  have i1 : (f : Int) < (m : Int) := by omega
  have i0 : (0 : Int) ≤ (f : Int) := by omega
  have im : (m : Int) ≤ 60000 := by omega
  unfold insA
  simp only
  have s1 := HS.out ((w.alloc (.cells #[.slice (some ⟨g1, o1, none⟩) m fc, .slice ra r rc] 25)).alloc (.cells #[.int .u8 25, .int .i64 a, .int .i64 b, .int .i64 c, .string t] 48)) (by (repeat' first | exact Below.refl _ _ | refine Below.drew ?_ | refine Below.alloc ?_ (by first | omega | (simp; done) | (simp; omega)) _ | refine Below.setCell ?_ (by first | omega | (simp; done) | (simp; omega)) _))
  clear HS
  by_cases ht : t.size = 0
  · obtain rfl := str0 ht
    go_enter Tryz.func16, Tryz.ntmps16
    go_wp2
    all_goals go_ret
    all_goals refine ⟨?_, ?_⟩
    all_goals first | (repeat' first | exact Below.refl _ _ | refine Below.drew ?_ | refine Below.alloc ?_ (by first | omega | (simp; done) | (simp; omega)) _ | refine Below.setCell ?_ (by first | omega | (simp; done) | (simp; omega)) _) | skip
    all_goals (show Ending.returned (Value.bool _) = Ending.returned (Value.bool _); refine congrArg (fun z => Ending.returned (Value.bool z)) ?_)
    all_goals first | exact (opB_f (by simp [opP, empty0]; omega)).symm | exact (opB_t (by simp [opP, empty0]; omega)).symm | (refine decide_eq_decide.2 ?_; simp [opP, empty0]; omega)
  · have e0 : t.toList.isEmpty = false := str_ne0 ht
    go_enter Tryz.func16, Tryz.ntmps16
    go_wp2
    all_goals go_ret
    all_goals refine ⟨?_, ?_⟩
    all_goals first | (repeat' first | exact Below.refl _ _ | refine Below.drew ?_ | refine Below.alloc ?_ (by first | omega | (simp; done) | (simp; omega)) _ | refine Below.setCell ?_ (by first | omega | (simp; done) | (simp; omega)) _) | skip
    all_goals (show Ending.returned (Value.bool _) = Ending.returned (Value.bool _); refine congrArg (fun z => Ending.returned (Value.bool z)) ?_)
    all_goals exact (opB_f (by simp [opP, ht])).symm
end Go.Ck
namespace Go.Ck
open Go Go.RowKit Go.Proofs
theorem opsR_16 : OpsR 16 := by
  intro w m fc r rc n ca ra cc g1 o1 f x hf hm hn hr c0 ha hb hx
  have l1 := cell_lt' c0
  have HS : Hid (∀ y, Below w.heap.size w y → y.cell? ⟨g1, o1 + f, none⟩ = some (.slice ca n cc)) := Lib.hid fun y hy => by rw [hy.cell (by exact l1)]; exact c0
  obtain ⟨op, a, b, c, t⟩ := x
  simp only at hx ha hb
  subst hx
  have HA := Lib.hid ha
  have HA2 := Lib.hid hb
  clear c0 l1 ha hb
  have i1 : (f : Int) < (m : Int) := by omega
  have i0 : (0 : Int) ≤ (f : Int) := by omega
  have im : (m : Int) ≤ 60000 := by omega
  unfold insA
  simp only
  have s1 := HS.out ((w.alloc (.cells #[.slice (some ⟨g1, o1, none⟩) m fc, .slice ra r rc] 25)).alloc (.cells #[.int .u8 16, .int .i64 a, .int .i64 b, .int .i64 c, .string t] 48)) (by (repeat' first | exact Below.refl _ _ | refine Below.drew ?_ | refine Below.alloc ?_ (by first | omega | (simp; done) | (simp; omega)) _ | refine Below.setCell ?_ (by first | omega | (simp; done) | (simp; omega)) _))
  clear HS
  go_enter Tryz.func16, Tryz.ntmps16
  go_wp2_with fail
  refine (takesR_ok _ _).mono ?_
  rintro e w5 ⟨rfl, hw5⟩
  rw [hw5]
  clear hw5
  cases hp : isPrim t with
  | false =>
    go_wp2
    all_goals go_ret
    all_goals refine ⟨?_, ?_⟩
    all_goals first | (repeat' first | exact Below.refl _ _ | refine Below.drew ?_ | refine Below.alloc ?_ (by first | omega | (simp; done) | (simp; omega)) _ | refine Below.setCell ?_ (by first | omega | (simp; done) | (simp; omega)) _) | skip
    all_goals (show Ending.returned (Value.bool _) = Ending.returned (Value.bool _); refine congrArg (fun z => Ending.returned (Value.bool z)) ?_)
    all_goals first | exact (opB_f (by simp [opP, hp] <;> omega)).symm | exact (opB_t (by simp [opP, hp]; omega)).symm | (refine decide_eq_decide.2 ?_; simp [opP, hp]; omega)
  | true =>
    go_wp2
    all_goals go_ret
    all_goals refine ⟨?_, ?_⟩
    all_goals first | (repeat' first | exact Below.refl _ _ | refine Below.drew ?_ | refine Below.alloc ?_ (by first | omega | (simp; done) | (simp; omega)) _ | refine Below.setCell ?_ (by first | omega | (simp; done) | (simp; omega)) _) | skip
    all_goals (show Ending.returned (Value.bool _) = Ending.returned (Value.bool _); refine congrArg (fun z => Ending.returned (Value.bool z)) ?_)
    all_goals first | exact (opB_f (by simp [opP, hp] <;> omega)).symm | exact (opB_t (by simp [opP, hp]; omega)).symm | (refine decide_eq_decide.2 ?_; simp [opP, hp]; omega)
theorem opsR_18 : OpsR 18 := by
  intro w m fc r rc n ca ra cc g1 o1 f x hf hm hn hr c0 ha hb hx
  have l1 := cell_lt' c0
  have HS : Hid (∀ y, Below w.heap.size w y → y.cell? ⟨g1, o1 + f, none⟩ = some (.slice ca n cc)) := Lib.hid fun y hy => by rw [hy.cell (by exact l1)]; exact c0
  obtain ⟨op, a, b, c, t⟩ := x
  simp only at hx ha hb
  subst hx
  have HA := Lib.hid ha
  have HA2 := Lib.hid hb
  clear c0 l1 ha hb
  have i1 : (f : Int) < (m : Int) := by omega
  have i0 : (0 : Int) ≤ (f : Int) := by omega
  have im : (m : Int) ≤ 60000 := by omega
  unfold insA
  simp only
  have s1 := HS.out ((w.alloc (.cells #[.slice (some ⟨g1, o1, none⟩) m fc, .slice ra r rc] 25)).alloc (.cells #[.int .u8 18, .int .i64 a, .int .i64 b, .int .i64 c, .string t] 48)) (by (repeat' first | exact Below.refl _ _ | refine Below.drew ?_ | refine Below.alloc ?_ (by first | omega | (simp; done) | (simp; omega)) _ | refine Below.setCell ?_ (by first | omega | (simp; done) | (simp; omega)) _))
  clear HS
  by_cases ht : t.size = 0
  · obtain rfl := str0 ht
    go_enter Tryz.func16, Tryz.ntmps16
    go_wp2
    all_goals go_ret
    all_goals refine ⟨?_, ?_⟩
    all_goals first | (repeat' first | exact Below.refl _ _ | refine Below.drew ?_ | refine Below.alloc ?_ (by first | omega | (simp; done) | (simp; omega)) _ | refine Below.setCell ?_ (by first | omega | (simp; done) | (simp; omega)) _) | skip
    all_goals (show Ending.returned (Value.bool _) = Ending.returned (Value.bool _); refine congrArg (fun z => Ending.returned (Value.bool z)) ?_)
    all_goals first | exact (opB_f (by simp [opP, empty0]; omega)).symm | exact (opB_t (by simp [opP, empty0]; omega)).symm | (refine decide_eq_decide.2 ?_; simp [opP, empty0]; omega)
  · have e0 : t.toList.isEmpty = false := str_ne0 ht
    go_enter Tryz.func16, Tryz.ntmps16
    go_wp2
    all_goals go_ret
    all_goals refine ⟨?_, ?_⟩
    all_goals first | (repeat' first | exact Below.refl _ _ | refine Below.drew ?_ | refine Below.alloc ?_ (by first | omega | (simp; done) | (simp; omega)) _ | refine Below.setCell ?_ (by first | omega | (simp; done) | (simp; omega)) _) | skip
    all_goals (show Ending.returned (Value.bool _) = Ending.returned (Value.bool _); refine congrArg (fun z => Ending.returned (Value.bool z)) ?_)
    all_goals exact (opB_f (by simp [opP, ht])).symm
theorem opsR_1 : OpsR 1 := by
  intro w m fc r rc n ca ra cc g1 o1 f x hf hm hn hr c0 ha hb hx
  have l1 := cell_lt' c0
  have HS : Hid (∀ y, Below w.heap.size w y → y.cell? ⟨g1, o1 + f, none⟩ = some (.slice ca n cc)) := Lib.hid fun y hy => by rw [hy.cell (by exact l1)]; exact c0
  obtain ⟨op, a, b, c, t⟩ := x
  simp only at hx ha hb
  subst hx
  have HA := Lib.hid ha
  have HA2 := Lib.hid hb
  clear c0 l1 ha hb
  have i1 : (f : Int) < (m : Int) := by omega
  have i0 : (0 : Int) ≤ (f : Int) := by omega
  have im : (m : Int) ≤ 60000 := by omega
  unfold insA
  simp only
  have s1 := HS.out ((w.alloc (.cells #[.slice (some ⟨g1, o1, none⟩) m fc, .slice ra r rc] 25)).alloc (.cells #[.int .u8 1, .int .i64 a, .int .i64 b, .int .i64 c, .string t] 48)) (by (repeat' first | exact Below.refl _ _ | refine Below.drew ?_ | refine Below.alloc ?_ (by first | omega | (simp; done) | (simp; omega)) _ | refine Below.setCell ?_ (by first | omega | (simp; done) | (simp; omega)) _))
  clear HS
  by_cases ht : t.size = 0
  · obtain rfl := str0 ht
    go_enter Tryz.func16, Tryz.ntmps16
    go_wp2
    all_goals go_ret
    all_goals refine ⟨?_, ?_⟩
    all_goals first | (repeat' first | exact Below.refl _ _ | refine Below.drew ?_ | refine Below.alloc ?_ (by first | omega | (simp; done) | (simp; omega)) _ | refine Below.setCell ?_ (by first | omega | (simp; done) | (simp; omega)) _) | skip
    all_goals (show Ending.returned (Value.bool _) = Ending.returned (Value.bool _); refine congrArg (fun z => Ending.returned (Value.bool z)) ?_)
    all_goals first | exact (opB_f (by simp [opP, empty0]; omega)).symm | exact (opB_t (by simp [opP, empty0]; omega)).symm | (refine decide_eq_decide.2 ?_; simp [opP, empty0]; omega)
  · have e0 : t.toList.isEmpty = false := str_ne0 ht
    go_enter Tryz.func16, Tryz.ntmps16
    go_wp2
    all_goals go_ret
    all_goals refine ⟨?_, ?_⟩
    all_goals first | (repeat' first | exact Below.refl _ _ | refine Below.drew ?_ | refine Below.alloc ?_ (by first | omega | (simp; done) | (simp; omega)) _ | refine Below.setCell ?_ (by first | omega | (simp; done) | (simp; omega)) _) | skip
    all_goals (show Ending.returned (Value.bool _) = Ending.returned (Value.bool _); refine congrArg (fun z => Ending.returned (Value.bool z)) ?_)
    all_goals exact (opB_f (by simp [opP, ht])).symm
end Go.Ck
namespace Go.Ck
open Go Go.RowKit Go.Proofs
theorem opsR_2 : OpsR 2 := by
  intro w m fc r rc n ca ra cc g1 o1 f x hf hm hn hr c0 ha hb hx
  have l1 := cell_lt' c0
  have HS : Hid (∀ y, Below w.heap.size w y → y.cell? ⟨g1, o1 + f, none⟩ = some (.slice ca n cc)) := Lib.hid fun y hy => by rw [hy.cell (by exact l1)]; exact c0
  obtain ⟨op, a, b, c, t⟩ := x
  simp only at hx ha hb
  subst hx
  have HA := Lib.hid ha
  have HA2 := Lib.hid hb
  clear c0 l1 ha hb
  have i1 : (f : Int) < (m : Int) := by omega
  have i0 : (0 : Int) ≤ (f : Int) := by omega
  have im : (m : Int) ≤ 60000 := by omega
  unfold insA
  simp only
  have s1 := HS.out ((w.alloc (.cells #[.slice (some ⟨g1, o1, none⟩) m fc, .slice ra r rc] 25)).alloc (.cells #[.int .u8 2, .int .i64 a, .int .i64 b, .int .i64 c, .string t] 48)) (by (repeat' first | exact Below.refl _ _ | refine Below.drew ?_ | refine Below.alloc ?_ (by first | omega | (simp; done) | (simp; omega)) _ | refine Below.setCell ?_ (by first | omega | (simp; done) | (simp; omega)) _))
  clear HS
  by_cases ht : t.size ≤ 16384
  · have ht' : (t.size : Int) ≤ 16384 := by omega
    go_enter Tryz.func16, Tryz.ntmps16
    go_wp2
    all_goals go_ret
    all_goals refine ⟨?_, ?_⟩
    all_goals first | (repeat' first | exact Below.refl _ _ | refine Below.drew ?_ | refine Below.alloc ?_ (by first | omega | (simp; done) | (simp; omega)) _ | refine Below.setCell ?_ (by first | omega | (simp; done) | (simp; omega)) _) | skip
    all_goals (show Ending.returned (Value.bool _) = Ending.returned (Value.bool _); refine congrArg (fun z => Ending.returned (Value.bool z)) ?_)
    all_goals first | exact (opB_f (by simp [opP, empty0] <;> omega)).symm | exact (opB_t (by simp [opP, empty0] <;> omega)).symm | (refine decide_eq_decide.2 ?_; simp [opP, empty0] <;> omega)
  · have e0 : t.toList.isEmpty = false := str_ne0 (by omega)
    have ht' : ¬ (t.size : Int) ≤ 16384 := by omega
    go_enter Tryz.func16, Tryz.ntmps16
    go_wp2
    all_goals go_ret
    all_goals refine ⟨?_, ?_⟩
    all_goals first | (repeat' first | exact Below.refl _ _ | refine Below.drew ?_ | refine Below.alloc ?_ (by first | omega | (simp; done) | (simp; omega)) _ | refine Below.setCell ?_ (by first | omega | (simp; done) | (simp; omega)) _) | skip
    all_goals (show Ending.returned (Value.bool _) = Ending.returned (Value.bool _); refine congrArg (fun z => Ending.returned (Value.bool z)) ?_)
    all_goals exact (opB_f (by simp [opP] <;> omega)).symm
theorem opsR_11 : OpsR 11 := by
  intro w m fc r rc n ca ra cc g1 o1 f x hf hm hn hr c0 ha hb hx
  have l1 := cell_lt' c0
  have HS : Hid (∀ y, Below w.heap.size w y → y.cell? ⟨g1, o1 + f, none⟩ = some (.slice ca n cc)) := Lib.hid fun y hy => by rw [hy.cell (by exact l1)]; exact c0
  obtain ⟨op, a, b, c, t⟩ := x
  simp only at hx ha hb
  subst hx
  have HA := Lib.hid ha
  have HA2 := Lib.hid hb
  clear c0 l1 ha hb
  have i1 : (f : Int) < (m : Int) := by omega
  have i0 : (0 : Int) ≤ (f : Int) := by omega
  have im : (m : Int) ≤ 60000 := by omega
  unfold insA
  simp only
  have s1 := HS.out ((w.alloc (.cells #[.slice (some ⟨g1, o1, none⟩) m fc, .slice ra r rc] 25)).alloc (.cells #[.int .u8 11, .int .i64 a, .int .i64 b, .int .i64 c, .string t] 48)) (by (repeat' first | exact Below.refl _ _ | refine Below.drew ?_ | refine Below.alloc ?_ (by first | omega | (simp; done) | (simp; omega)) _ | refine Below.setCell ?_ (by first | omega | (simp; done) | (simp; omega)) _))
  clear HS
  by_cases ht : t.size = 0
  · obtain rfl := str0 ht
    go_enter Tryz.func16, Tryz.ntmps16
    go_wp2
    all_goals go_ret
    all_goals refine ⟨?_, ?_⟩
    all_goals first | (repeat' first | exact Below.refl _ _ | refine Below.drew ?_ | refine Below.alloc ?_ (by first | omega | (simp; done) | (simp; omega)) _ | refine Below.setCell ?_ (by first | omega | (simp; done) | (simp; omega)) _) | skip
    all_goals (show Ending.returned (Value.bool _) = Ending.returned (Value.bool _); refine congrArg (fun z => Ending.returned (Value.bool z)) ?_)
    all_goals first | exact (opB_f (by simp [opP, empty0]; omega)).symm | exact (opB_t (by simp [opP, empty0]; omega)).symm | (refine decide_eq_decide.2 ?_; simp [opP, empty0]; omega)
  · have e0 : t.toList.isEmpty = false := str_ne0 ht
    go_enter Tryz.func16, Tryz.ntmps16
    go_wp2
    all_goals go_ret
    all_goals refine ⟨?_, ?_⟩
    all_goals first | (repeat' first | exact Below.refl _ _ | refine Below.drew ?_ | refine Below.alloc ?_ (by first | omega | (simp; done) | (simp; omega)) _ | refine Below.setCell ?_ (by first | omega | (simp; done) | (simp; omega)) _) | skip
    all_goals (show Ending.returned (Value.bool _) = Ending.returned (Value.bool _); refine congrArg (fun z => Ending.returned (Value.bool z)) ?_)
    all_goals exact (opB_f (by simp [opP, ht])).symm
theorem opsR_7 : OpsR 7 := by
  intro w m fc r rc n ca ra cc g1 o1 f x hf hm hn hr c0 ha hb hx
  have l1 := cell_lt' c0
  have HS : Hid (∀ y, Below w.heap.size w y → y.cell? ⟨g1, o1 + f, none⟩ = some (.slice ca n cc)) := Lib.hid fun y hy => by rw [hy.cell (by exact l1)]; exact c0
  obtain ⟨op, a, b, c, t⟩ := x
  simp only at hx ha hb
  subst hx
  have HA := Lib.hid ha
  have HA2 := Lib.hid hb
  clear c0 l1 ha hb
  have i1 : (f : Int) < (m : Int) := by omega
  have i0 : (0 : Int) ≤ (f : Int) := by omega
  have im : (m : Int) ≤ 60000 := by omega
  unfold insA
  simp only
  have s1 := HS.out ((w.alloc (.cells #[.slice (some ⟨g1, o1, none⟩) m fc, .slice ra r rc] 25)).alloc (.cells #[.int .u8 7, .int .i64 a, .int .i64 b, .int .i64 c, .string t] 48)) (by (repeat' first | exact Below.refl _ _ | refine Below.drew ?_ | refine Below.alloc ?_ (by first | omega | (simp; done) | (simp; omega)) _ | refine Below.setCell ?_ (by first | omega | (simp; done) | (simp; omega)) _))
  clear HS
  by_cases ht : t.size = 0
  · obtain rfl := str0 ht
    go_enter Tryz.func16, Tryz.ntmps16
    go_wp2
    all_goals go_ret
    all_goals refine ⟨?_, ?_⟩
    all_goals first | (repeat' first | exact Below.refl _ _ | refine Below.drew ?_ | refine Below.alloc ?_ (by first | omega | (simp; done) | (simp; omega)) _ | refine Below.setCell ?_ (by first | omega | (simp; done) | (simp; omega)) _) | skip
    all_goals (show Ending.returned (Value.bool _) = Ending.returned (Value.bool _); refine congrArg (fun z => Ending.returned (Value.bool z)) ?_)
    all_goals first | exact (opB_f (by simp [opP, empty0]; omega)).symm | exact (opB_t (by simp [opP, empty0]; omega)).symm | (refine decide_eq_decide.2 ?_; simp [opP, empty0]; omega)
  · have e0 : t.toList.isEmpty = false := str_ne0 ht
    go_enter Tryz.func16, Tryz.ntmps16
    go_wp2
    all_goals go_ret
    all_goals refine ⟨?_, ?_⟩
    all_goals first | (repeat' first | exact Below.refl _ _ | refine Below.drew ?_ | refine Below.alloc ?_ (by first | omega | (simp; done) | (simp; omega)) _ | refine Below.setCell ?_ (by first | omega | (simp; done) | (simp; omega)) _) | skip
    all_goals (show Ending.returned (Value.bool _) = Ending.returned (Value.bool _); refine congrArg (fun z => Ending.returned (Value.bool z)) ?_)
    all_goals exact (opB_f (by simp [opP, ht])).symm
end Go.Ck
namespace Go.Ck
open Go Go.RowKit Go.Proofs
theorem opsR_23 : OpsR 23 := by
  intro w m fc r rc n ca ra cc g1 o1 f x hf hm hn hr c0 ha hb hx
  have l1 := cell_lt' c0
  have HS : Hid (∀ y, Below w.heap.size w y → y.cell? ⟨g1, o1 + f, none⟩ = some (.slice ca n cc)) := Lib.hid fun y hy => by rw [hy.cell (by exact l1)]; exact c0
  obtain ⟨op, a, b, c, t⟩ := x
  simp only at hx ha hb
  subst hx
  have HA := Lib.hid ha
  have HA2 := Lib.hid hb
  clear c0 l1 ha hb
  have i1 : (f : Int) < (m : Int) := by omega
  have i0 : (0 : Int) ≤ (f : Int) := by omega
  have im : (m : Int) ≤ 60000 := by omega
  unfold insA
  simp only
  have s1 := HS.out ((w.alloc (.cells #[.slice (some ⟨g1, o1, none⟩) m fc, .slice ra r rc] 25)).alloc (.cells #[.int .u8 23, .int .i64 a, .int .i64 b, .int .i64 c, .string t] 48)) (by (repeat' first | exact Below.refl _ _ | refine Below.drew ?_ | refine Below.alloc ?_ (by first | omega | (simp; done) | (simp; omega)) _ | refine Below.setCell ?_ (by first | omega | (simp; done) | (simp; omega)) _))
  clear HS
  by_cases ht : t.size = 0
  · obtain rfl := str0 ht
    go_enter Tryz.func16, Tryz.ntmps16
    go_wp2
    all_goals go_ret
    all_goals refine ⟨?_, ?_⟩
    all_goals first | (repeat' first | exact Below.refl _ _ | refine Below.drew ?_ | refine Below.alloc ?_ (by first | omega | (simp; done) | (simp; omega)) _ | refine Below.setCell ?_ (by first | omega | (simp; done) | (simp; omega)) _) | skip
    all_goals (show Ending.returned (Value.bool _) = Ending.returned (Value.bool _); refine congrArg (fun z => Ending.returned (Value.bool z)) ?_)
    all_goals first | exact (opB_f (by simp [opP, empty0]; omega)).symm | exact (opB_t (by simp [opP, empty0]; omega)).symm | (refine decide_eq_decide.2 ?_; simp [opP, empty0]; omega)
  · have e0 : t.toList.isEmpty = false := str_ne0 ht
    go_enter Tryz.func16, Tryz.ntmps16
    go_wp2
    all_goals go_ret
    all_goals refine ⟨?_, ?_⟩
    all_goals first | (repeat' first | exact Below.refl _ _ | refine Below.drew ?_ | refine Below.alloc ?_ (by first | omega | (simp; done) | (simp; omega)) _ | refine Below.setCell ?_ (by first | omega | (simp; done) | (simp; omega)) _) | skip
    all_goals (show Ending.returned (Value.bool _) = Ending.returned (Value.bool _); refine congrArg (fun z => Ending.returned (Value.bool z)) ?_)
    all_goals exact (opB_f (by simp [opP, ht])).symm
theorem opsR_3 : OpsR 3 := by
  intro w m fc r rc n ca ra cc g1 o1 f x hf hm hn hr c0 ha hb hx
  have l1 := cell_lt' c0
  have HS : Hid (∀ y, Below w.heap.size w y → y.cell? ⟨g1, o1 + f, none⟩ = some (.slice ca n cc)) := Lib.hid fun y hy => by rw [hy.cell (by exact l1)]; exact c0
  obtain ⟨op, a, b, c, t⟩ := x
  simp only at hx ha hb
  subst hx
  have HA := Lib.hid ha
  have HA2 := Lib.hid hb
  clear c0 l1 ha hb
  have i1 : (f : Int) < (m : Int) := by omega
  have i0 : (0 : Int) ≤ (f : Int) := by omega
  have im : (m : Int) ≤ 60000 := by omega
  unfold insA
  simp only
  have s1 := HS.out ((w.alloc (.cells #[.slice (some ⟨g1, o1, none⟩) m fc, .slice ra r rc] 25)).alloc (.cells #[.int .u8 3, .int .i64 a, .int .i64 b, .int .i64 c, .string t] 48)) (by (repeat' first | exact Below.refl _ _ | refine Below.drew ?_ | refine Below.alloc ?_ (by first | omega | (simp; done) | (simp; omega)) _ | refine Below.setCell ?_ (by first | omega | (simp; done) | (simp; omega)) _))
  clear HS
  by_cases ht : t.size = 0
  · obtain rfl := str0 ht
    go_enter Tryz.func16, Tryz.ntmps16
    go_wp2
    all_goals go_ret
    all_goals refine ⟨?_, ?_⟩
    all_goals first | (repeat' first | exact Below.refl _ _ | refine Below.drew ?_ | refine Below.alloc ?_ (by first | omega | (simp; done) | (simp; omega)) _ | refine Below.setCell ?_ (by first | omega | (simp; done) | (simp; omega)) _) | skip
    all_goals (show Ending.returned (Value.bool _) = Ending.returned (Value.bool _); refine congrArg (fun z => Ending.returned (Value.bool z)) ?_)
    all_goals first | exact (opB_f (by simp [opP, empty0]; omega)).symm | exact (opB_t (by simp [opP, empty0]; omega)).symm | (refine decide_eq_decide.2 ?_; simp [opP, empty0]; omega)
  · have e0 : t.toList.isEmpty = false := str_ne0 ht
    go_enter Tryz.func16, Tryz.ntmps16
    go_wp2
    all_goals go_ret
    all_goals refine ⟨?_, ?_⟩
    all_goals first | (repeat' first | exact Below.refl _ _ | refine Below.drew ?_ | refine Below.alloc ?_ (by first | omega | (simp; done) | (simp; omega)) _ | refine Below.setCell ?_ (by first | omega | (simp; done) | (simp; omega)) _) | skip
    all_goals (show Ending.returned (Value.bool _) = Ending.returned (Value.bool _); refine congrArg (fun z => Ending.returned (Value.bool z)) ?_)
    all_goals exact (opB_f (by simp [opP, ht])).symm
theorem opsR_8 : OpsR 8 := by
  intro w m fc r rc n ca ra cc g1 o1 f x hf hm hn hr c0 ha hb hx
  have l1 := cell_lt' c0
  have HS : Hid (∀ y, Below w.heap.size w y → y.cell? ⟨g1, o1 + f, none⟩ = some (.slice ca n cc)) := Lib.hid fun y hy => by rw [hy.cell (by exact l1)]; exact c0
  obtain ⟨op, a, b, c, t⟩ := x
  simp only at hx ha hb
  subst hx
  have HA := Lib.hid ha
  have HA2 := Lib.hid hb
  clear c0 l1 ha hb
  have i1 : (f : Int) < (m : Int) := by omega
  have i0 : (0 : Int) ≤ (f : Int) := by omega
  have im : (m : Int) ≤ 60000 := by omega
  unfold insA
  simp only
  have s1 := HS.out ((w.alloc (.cells #[.slice (some ⟨g1, o1, none⟩) m fc, .slice ra r rc] 25)).alloc (.cells #[.int .u8 8, .int .i64 a, .int .i64 b, .int .i64 c, .string t] 48)) (by (repeat' first | exact Below.refl _ _ | refine Below.drew ?_ | refine Below.alloc ?_ (by first | omega | (simp; done) | (simp; omega)) _ | refine Below.setCell ?_ (by first | omega | (simp; done) | (simp; omega)) _))
  clear HS
  by_cases ht : t.size = 0
  · obtain rfl := str0 ht
    go_enter Tryz.func16, Tryz.ntmps16
    go_wp2
    all_goals go_ret
    all_goals refine ⟨?_, ?_⟩
    all_goals first | (repeat' first | exact Below.refl _ _ | refine Below.drew ?_ | refine Below.alloc ?_ (by first | omega | (simp; done) | (simp; omega)) _ | refine Below.setCell ?_ (by first | omega | (simp; done) | (simp; omega)) _) | skip
    all_goals (show Ending.returned (Value.bool _) = Ending.returned (Value.bool _); refine congrArg (fun z => Ending.returned (Value.bool z)) ?_)
    all_goals first | exact (opB_f (by simp [opP, empty0]; omega)).symm | exact (opB_t (by simp [opP, empty0]; omega)).symm | (refine decide_eq_decide.2 ?_; simp [opP, empty0]; omega)
  · have e0 : t.toList.isEmpty = false := str_ne0 ht
    go_enter Tryz.func16, Tryz.ntmps16
    go_wp2
    all_goals go_ret
    all_goals refine ⟨?_, ?_⟩
    all_goals first | (repeat' first | exact Below.refl _ _ | refine Below.drew ?_ | refine Below.alloc ?_ (by first | omega | (simp; done) | (simp; omega)) _ | refine Below.setCell ?_ (by first | omega | (simp; done) | (simp; omega)) _) | skip
    all_goals (show Ending.returned (Value.bool _) = Ending.returned (Value.bool _); refine congrArg (fun z => Ending.returned (Value.bool z)) ?_)
    all_goals exact (opB_f (by simp [opP, ht])).symm
end Go.Ck
namespace Go.Ck
open Go Go.RowKit Go.Proofs
theorem opsR_24 : OpsR 24 := by
  intro w m fc r rc n ca ra cc g1 o1 f x hf hm hn hr c0 ha hb hx
  have l1 := cell_lt' c0
  have HS : Hid (∀ y, Below w.heap.size w y → y.cell? ⟨g1, o1 + f, none⟩ = some (.slice ca n cc)) := Lib.hid fun y hy => by rw [hy.cell (by exact l1)]; exact c0
  obtain ⟨op, a, b, c, t⟩ := x
  simp only at hx ha hb
  subst hx
  have HA := Lib.hid ha
  have HA2 := Lib.hid hb
  clear c0 l1 ha hb
  have i1 : (f : Int) < (m : Int) := by omega
  have i0 : (0 : Int) ≤ (f : Int) := by omega
  have im : (m : Int) ≤ 60000 := by omega
  unfold insA
  simp only
  have s1 := HS.out ((w.alloc (.cells #[.slice (some ⟨g1, o1, none⟩) m fc, .slice ra r rc] 25)).alloc (.cells #[.int .u8 24, .int .i64 a, .int .i64 b, .int .i64 c, .string t] 48)) (by (repeat' first | exact Below.refl _ _ | refine Below.drew ?_ | refine Below.alloc ?_ (by first | omega | (simp; done) | (simp; omega)) _ | refine Below.setCell ?_ (by first | omega | (simp; done) | (simp; omega)) _))
  clear HS
  by_cases ht : t.size = 0
  · obtain rfl := str0 ht
    go_enter Tryz.func16, Tryz.ntmps16
    go_wp2
    all_goals go_ret
    all_goals refine ⟨?_, ?_⟩
    all_goals first | (repeat' first | exact Below.refl _ _ | refine Below.drew ?_ | refine Below.alloc ?_ (by first | omega | (simp; done) | (simp; omega)) _ | refine Below.setCell ?_ (by first | omega | (simp; done) | (simp; omega)) _) | skip
    all_goals (show Ending.returned (Value.bool _) = Ending.returned (Value.bool _); refine congrArg (fun z => Ending.returned (Value.bool z)) ?_)
    all_goals first | exact (opB_f (by simp [opP, empty0]; omega)).symm | exact (opB_t (by simp [opP, empty0]; omega)).symm | (refine decide_eq_decide.2 ?_; simp [opP, empty0]; omega)
  · have e0 : t.toList.isEmpty = false := str_ne0 ht
    go_enter Tryz.func16, Tryz.ntmps16
    go_wp2
    all_goals go_ret
    all_goals refine ⟨?_, ?_⟩
    all_goals first | (repeat' first | exact Below.refl _ _ | refine Below.drew ?_ | refine Below.alloc ?_ (by first | omega | (simp; done) | (simp; omega)) _ | refine Below.setCell ?_ (by first | omega | (simp; done) | (simp; omega)) _) | skip
    all_goals (show Ending.returned (Value.bool _) = Ending.returned (Value.bool _); refine congrArg (fun z => Ending.returned (Value.bool z)) ?_)
    all_goals exact (opB_f (by simp [opP, ht])).symm
theorem opsR_4 : OpsR 4 := by
  intro w m fc r rc n ca ra cc g1 o1 f x hf hm hn hr c0 ha hb hx
  have l1 := cell_lt' c0
  have HS : Hid (∀ y, Below w.heap.size w y → y.cell? ⟨g1, o1 + f, none⟩ = some (.slice ca n cc)) := Lib.hid fun y hy => by rw [hy.cell (by exact l1)]; exact c0
  obtain ⟨op, a, b, c, t⟩ := x
  simp only at hx ha hb
  subst hx
  have HA := Lib.hid ha
  have HA2 := Lib.hid hb
  clear c0 l1 ha hb
  have i1 : (f : Int) < (m : Int) := by omega
  have i0 : (0 : Int) ≤ (f : Int) := by omega
  have im : (m : Int) ≤ 60000 := by omega
  unfold insA
  simp only
  have s1 := HS.out ((w.alloc (.cells #[.slice (some ⟨g1, o1, none⟩) m fc, .slice ra r rc] 25)).alloc (.cells #[.int .u8 4, .int .i64 a, .int .i64 b, .int .i64 c, .string t] 48)) (by (repeat' first | exact Below.refl _ _ | refine Below.drew ?_ | refine Below.alloc ?_ (by first | omega | (simp; done) | (simp; omega)) _ | refine Below.setCell ?_ (by first | omega | (simp; done) | (simp; omega)) _))
  clear HS
  by_cases ht : t.size = 0
  · obtain rfl := str0 ht
    go_enter Tryz.func16, Tryz.ntmps16
    go_wp2
    all_goals go_ret
    all_goals refine ⟨?_, ?_⟩
    all_goals first | (repeat' first | exact Below.refl _ _ | refine Below.drew ?_ | refine Below.alloc ?_ (by first | omega | (simp; done) | (simp; omega)) _ | refine Below.setCell ?_ (by first | omega | (simp; done) | (simp; omega)) _) | skip
    all_goals (show Ending.returned (Value.bool _) = Ending.returned (Value.bool _); refine congrArg (fun z => Ending.returned (Value.bool z)) ?_)
    all_goals first | exact (opB_f (by simp [opP, empty0]; omega)).symm | exact (opB_t (by simp [opP, empty0]; omega)).symm | (refine decide_eq_decide.2 ?_; simp [opP, empty0]; omega)
  · have e0 : t.toList.isEmpty = false := str_ne0 ht
    go_enter Tryz.func16, Tryz.ntmps16
    go_wp2
    all_goals go_ret
    all_goals refine ⟨?_, ?_⟩
    all_goals first | (repeat' first | exact Below.refl _ _ | refine Below.drew ?_ | refine Below.alloc ?_ (by first | omega | (simp; done) | (simp; omega)) _ | refine Below.setCell ?_ (by first | omega | (simp; done) | (simp; omega)) _) | skip
    all_goals (show Ending.returned (Value.bool _) = Ending.returned (Value.bool _); refine congrArg (fun z => Ending.returned (Value.bool z)) ?_)
    all_goals exact (opB_f (by simp [opP, ht])).symm
theorem opsR_15 : OpsR 15 := by
  intro w m fc r rc n ca ra cc g1 o1 f x hf hm hn hr c0 ha hb hx
  have l1 := cell_lt' c0
  have HS : Hid (∀ y, Below w.heap.size w y → y.cell? ⟨g1, o1 + f, none⟩ = some (.slice ca n cc)) := Lib.hid fun y hy => by rw [hy.cell (by exact l1)]; exact c0
  obtain ⟨op, a, b, c, t⟩ := x
  simp only at hx ha hb
  subst hx
  have HA := Lib.hid ha
  have HA2 := Lib.hid hb
  clear c0 l1 ha hb
  have i1 : (f : Int) < (m : Int) := by omega
  have i0 : (0 : Int) ≤ (f : Int) := by omega
  have im : (m : Int) ≤ 60000 := by omega
  unfold insA
  simp only
  have s1 := HS.out ((w.alloc (.cells #[.slice (some ⟨g1, o1, none⟩) m fc, .slice ra r rc] 25)).alloc (.cells #[.int .u8 15, .int .i64 a, .int .i64 b, .int .i64 c, .string t] 48)) (by (repeat' first | exact Below.refl _ _ | refine Below.drew ?_ | refine Below.alloc ?_ (by first | omega | (simp; done) | (simp; omega)) _ | refine Below.setCell ?_ (by first | omega | (simp; done) | (simp; omega)) _))
  clear HS
  by_cases ht : t.size = 0
  · obtain rfl := str0 ht
    go_enter Tryz.func16, Tryz.ntmps16
    go_wp2
    all_goals go_ret
    all_goals refine ⟨?_, ?_⟩
    all_goals first | (repeat' first | exact Below.refl _ _ | refine Below.drew ?_ | refine Below.alloc ?_ (by first | omega | (simp; done) | (simp; omega)) _ | refine Below.setCell ?_ (by first | omega | (simp; done) | (simp; omega)) _) | skip
    all_goals (show Ending.returned (Value.bool _) = Ending.returned (Value.bool _); refine congrArg (fun z => Ending.returned (Value.bool z)) ?_)
    all_goals first | exact (opB_f (by simp [opP, empty0]; omega)).symm | exact (opB_t (by simp [opP, empty0]; omega)).symm | (refine decide_eq_decide.2 ?_; simp [opP, empty0]; omega)
  · have e0 : t.toList.isEmpty = false := str_ne0 ht
    go_enter Tryz.func16, Tryz.ntmps16
    go_wp2
    all_goals go_ret
    all_goals refine ⟨?_, ?_⟩
    all_goals first | (repeat' first | exact Below.refl _ _ | refine Below.drew ?_ | refine Below.alloc ?_ (by first | omega | (simp; done) | (simp; omega)) _ | refine Below.setCell ?_ (by first | omega | (simp; done) | (simp; omega)) _) | skip
    all_goals (show Ending.returned (Value.bool _) = Ending.returned (Value.bool _); refine congrArg (fun z => Ending.returned (Value.bool z)) ?_)
    all_goals exact (opB_f (by simp [opP, ht])).symm
end Go.Ck
namespace Go.Ck
open Go Go.RowKit Go.Proofs
theorem opsR_13 : OpsR 13 := by
  intro w m fc r rc n ca ra cc g1 o1 f x hf hm hn hr c0 ha hb hx
  have l1 := cell_lt' c0
  have HS : Hid (∀ y, Below w.heap.size w y → y.cell? ⟨g1, o1 + f, none⟩ = some (.slice ca n cc)) := Lib.hid fun y hy => by rw [hy.cell (by exact l1)]; exact c0
  obtain ⟨op, a, b, c, t⟩ := x
  simp only at hx ha hb
  subst hx
  have HA := Lib.hid ha
  have HA2 := Lib.hid hb
  clear c0 l1 ha hb
  have i1 : (f : Int) < (m : Int) := by omega
  have i0 : (0 : Int) ≤ (f : Int) := by omega
  have im : (m : Int) ≤ 60000 := by omega
  unfold insA
  simp only
  have s1 := HS.out ((w.alloc (.cells #[.slice (some ⟨g1, o1, none⟩) m fc, .slice ra r rc] 25)).alloc (.cells #[.int .u8 13, .int .i64 a, .int .i64 b, .int .i64 c, .string t] 48)) (by (repeat' first | exact Below.refl _ _ | refine Below.drew ?_ | refine Below.alloc ?_ (by first | omega | (simp; done) | (simp; omega)) _ | refine Below.setCell ?_ (by first | omega | (simp; done) | (simp; omega)) _))
  clear HS
  by_cases ht : t.size = 0
  · obtain rfl := str0 ht
    go_enter Tryz.func16, Tryz.ntmps16
    go_wp2
    all_goals go_ret
    all_goals refine ⟨?_, ?_⟩
    all_goals first | (repeat' first | exact Below.refl _ _ | refine Below.drew ?_ | refine Below.alloc ?_ (by first | omega | (simp; done) | (simp; omega)) _ | refine Below.setCell ?_ (by first | omega | (simp; done) | (simp; omega)) _) | skip
    all_goals (show Ending.returned (Value.bool _) = Ending.returned (Value.bool _); refine congrArg (fun z => Ending.returned (Value.bool z)) ?_)
    all_goals first | exact (opB_f (by simp [opP, empty0]; omega)).symm | exact (opB_t (by simp [opP, empty0]; omega)).symm | (refine decide_eq_decide.2 ?_; simp [opP, empty0]; omega)
  · have e0 : t.toList.isEmpty = false := str_ne0 ht
    go_enter Tryz.func16, Tryz.ntmps16
    go_wp2
    all_goals go_ret
    all_goals refine ⟨?_, ?_⟩
    all_goals first | (repeat' first | exact Below.refl _ _ | refine Below.drew ?_ | refine Below.alloc ?_ (by first | omega | (simp; done) | (simp; omega)) _ | refine Below.setCell ?_ (by first | omega | (simp; done) | (simp; omega)) _) | skip
    all_goals (show Ending.returned (Value.bool _) = Ending.returned (Value.bool _); refine congrArg (fun z => Ending.returned (Value.bool z)) ?_)
    all_goals exact (opB_f (by simp [opP, ht])).symm
theorem opsR_5 : OpsR 5 := by
  intro w m fc r rc n ca ra cc g1 o1 f x hf hm hn hr c0 ha hb hx
  have l1 := cell_lt' c0
  have HS : Hid (∀ y, Below w.heap.size w y → y.cell? ⟨g1, o1 + f, none⟩ = some (.slice ca n cc)) := Lib.hid fun y hy => by rw [hy.cell (by exact l1)]; exact c0
  obtain ⟨op, a, b, c, t⟩ := x
  simp only at hx ha hb
  subst hx
  have HA := Lib.hid ha
  have HA2 := Lib.hid hb
  clear c0 l1 ha hb
  have i1 : (f : Int) < (m : Int) := by omega
  have i0 : (0 : Int) ≤ (f : Int) := by omega
  have im : (m : Int) ≤ 60000 := by omega
  unfold insA
  simp only
  have s1 := HS.out ((w.alloc (.cells #[.slice (some ⟨g1, o1, none⟩) m fc, .slice ra r rc] 25)).alloc (.cells #[.int .u8 5, .int .i64 a, .int .i64 b, .int .i64 c, .string t] 48)) (by (repeat' first | exact Below.refl _ _ | refine Below.drew ?_ | refine Below.alloc ?_ (by first | omega | (simp; done) | (simp; omega)) _ | refine Below.setCell ?_ (by first | omega | (simp; done) | (simp; omega)) _))
  clear HS
  by_cases ht : t.size = 0
  · obtain rfl := str0 ht
    go_enter Tryz.func16, Tryz.ntmps16
    go_wp2
    all_goals go_ret
    all_goals refine ⟨?_, ?_⟩
    all_goals first | (repeat' first | exact Below.refl _ _ | refine Below.drew ?_ | refine Below.alloc ?_ (by first | omega | (simp; done) | (simp; omega)) _ | refine Below.setCell ?_ (by first | omega | (simp; done) | (simp; omega)) _) | skip
    all_goals (show Ending.returned (Value.bool _) = Ending.returned (Value.bool _); refine congrArg (fun z => Ending.returned (Value.bool z)) ?_)
    all_goals first | exact (opB_f (by simp [opP, empty0]; omega)).symm | exact (opB_t (by simp [opP, empty0]; omega)).symm | (refine decide_eq_decide.2 ?_; simp [opP, empty0]; omega)
  · have e0 : t.toList.isEmpty = false := str_ne0 ht
    go_enter Tryz.func16, Tryz.ntmps16
    go_wp2
    all_goals go_ret
    all_goals refine ⟨?_, ?_⟩
    all_goals first | (repeat' first | exact Below.refl _ _ | refine Below.drew ?_ | refine Below.alloc ?_ (by first | omega | (simp; done) | (simp; omega)) _ | refine Below.setCell ?_ (by first | omega | (simp; done) | (simp; omega)) _) | skip
    all_goals (show Ending.returned (Value.bool _) = Ending.returned (Value.bool _); refine congrArg (fun z => Ending.returned (Value.bool z)) ?_)
    all_goals exact (opB_f (by simp [opP, ht])).symm
theorem opsR_17 : OpsR 17 := by
  intro w m fc r rc n ca ra cc g1 o1 f x hf hm hn hr c0 ha hb hx
  have l1 := cell_lt' c0
  have HS : Hid (∀ y, Below w.heap.size w y → y.cell? ⟨g1, o1 + f, none⟩ = some (.slice ca n cc)) := Lib.hid fun y hy => by rw [hy.cell (by exact l1)]; exact c0
  obtain ⟨op, a, b, c, t⟩ := x
  simp only at hx ha hb
  subst hx
  have HA := Lib.hid ha
  have HA2 := Lib.hid hb
  clear c0 l1 ha hb
  have i1 : (f : Int) < (m : Int) := by omega
  have i0 : (0 : Int) ≤ (f : Int) := by omega
  have im : (m : Int) ≤ 60000 := by omega
  unfold insA
  simp only
  have s1 := HS.out ((w.alloc (.cells #[.slice (some ⟨g1, o1, none⟩) m fc, .slice ra r rc] 25)).alloc (.cells #[.int .u8 17, .int .i64 a, .int .i64 b, .int .i64 c, .string t] 48)) (by (repeat' first | exact Below.refl _ _ | refine Below.drew ?_ | refine Below.alloc ?_ (by first | omega | (simp; done) | (simp; omega)) _ | refine Below.setCell ?_ (by first | omega | (simp; done) | (simp; omega)) _))
  clear HS
  by_cases ht : t.size = 0
  · obtain rfl := str0 ht
    go_enter Tryz.func16, Tryz.ntmps16
    go_wp2
    all_goals go_ret
    all_goals refine ⟨?_, ?_⟩
    all_goals first | (repeat' first | exact Below.refl _ _ | refine Below.drew ?_ | refine Below.alloc ?_ (by first | omega | (simp; done) | (simp; omega)) _ | refine Below.setCell ?_ (by first | omega | (simp; done) | (simp; omega)) _) | skip
    all_goals (show Ending.returned (Value.bool _) = Ending.returned (Value.bool _); refine congrArg (fun z => Ending.returned (Value.bool z)) ?_)
    all_goals first | exact (opB_f (by simp [opP, empty0]; omega)).symm | exact (opB_t (by simp [opP, empty0]; omega)).symm | (refine decide_eq_decide.2 ?_; simp [opP, empty0]; omega)
  · have e0 : t.toList.isEmpty = false := str_ne0 ht
    go_enter Tryz.func16, Tryz.ntmps16
    go_wp2
    all_goals go_ret
    all_goals refine ⟨?_, ?_⟩
    all_goals first | (repeat' first | exact Below.refl _ _ | refine Below.drew ?_ | refine Below.alloc ?_ (by first | omega | (simp; done) | (simp; omega)) _ | refine Below.setCell ?_ (by first | omega | (simp; done) | (simp; omega)) _) | skip
    all_goals (show Ending.returned (Value.bool _) = Ending.returned (Value.bool _); refine congrArg (fun z => Ending.returned (Value.bool z)) ?_)
    all_goals exact (opB_f (by simp [opP, ht])).symm
end Go.Ck
namespace Go.Ck
open Go Go.RowKit Go.Proofs
theorem opsR_22 : OpsR 22 := by
  intro w m fc r rc n ca ra cc g1 o1 f x hf hm hn hr c0 ha hb hx
  have l1 := cell_lt' c0
  have HS : Hid (∀ y, Below w.heap.size w y → y.cell? ⟨g1, o1 + f, none⟩ = some (.slice ca n cc)) := Lib.hid fun y hy => by rw [hy.cell (by exact l1)]; exact c0
  obtain ⟨op, a, b, c, t⟩ := x
  simp only at hx ha hb
  subst hx
  have HA := Lib.hid ha
  have HA2 := Lib.hid hb
  clear c0 l1 ha hb
  have i1 : (f : Int) < (m : Int) := by omega
  have i0 : (0 : Int) ≤ (f : Int) := by omega
  have im : (m : Int) ≤ 60000 := by omega
  unfold insA
  simp only
  have s1 := HS.out ((w.alloc (.cells #[.slice (some ⟨g1, o1, none⟩) m fc, .slice ra r rc] 25)).alloc (.cells #[.int .u8 22, .int .i64 a, .int .i64 b, .int .i64 c, .string t] 48)) (by (repeat' first | exact Below.refl _ _ | refine Below.drew ?_ | refine Below.alloc ?_ (by first | omega | (simp; done) | (simp; omega)) _ | refine Below.setCell ?_ (by first | omega | (simp; done) | (simp; omega)) _))
  clear HS
  by_cases ht : t.size = 0
  · obtain rfl := str0 ht
    go_enter Tryz.func16, Tryz.ntmps16
    go_wp2
    all_goals go_ret
    all_goals refine ⟨?_, ?_⟩
    all_goals first | (repeat' first | exact Below.refl _ _ | refine Below.drew ?_ | refine Below.alloc ?_ (by first | omega | (simp; done) | (simp; omega)) _ | refine Below.setCell ?_ (by first | omega | (simp; done) | (simp; omega)) _) | skip
    all_goals (show Ending.returned (Value.bool _) = Ending.returned (Value.bool _); refine congrArg (fun z => Ending.returned (Value.bool z)) ?_)
    all_goals first | exact (opB_f (by simp [opP, empty0]; omega)).symm | exact (opB_t (by simp [opP, empty0]; omega)).symm | (refine decide_eq_decide.2 ?_; simp [opP, empty0]; omega)
  · have e0 : t.toList.isEmpty = false := str_ne0 ht
    go_enter Tryz.func16, Tryz.ntmps16
    go_wp2
    all_goals go_ret
    all_goals refine ⟨?_, ?_⟩
    all_goals first | (repeat' first | exact Below.refl _ _ | refine Below.drew ?_ | refine Below.alloc ?_ (by first | omega | (simp; done) | (simp; omega)) _ | refine Below.setCell ?_ (by first | omega | (simp; done) | (simp; omega)) _) | skip
    all_goals (show Ending.returned (Value.bool _) = Ending.returned (Value.bool _); refine congrArg (fun z => Ending.returned (Value.bool z)) ?_)
    all_goals exact (opB_f (by simp [opP, ht])).symm
theorem opsR_12 : OpsR 12 := by
  intro w m fc r rc n ca ra cc g1 o1 f x hf hm hn hr c0 ha hb hx
  have l1 := cell_lt' c0
  have HS : Hid (∀ y, Below w.heap.size w y → y.cell? ⟨g1, o1 + f, none⟩ = some (.slice ca n cc)) := Lib.hid fun y hy => by rw [hy.cell (by exact l1)]; exact c0
  obtain ⟨op, a, b, c, t⟩ := x
  simp only at hx ha hb
  subst hx
  have HA := Lib.hid ha
  have HA2 := Lib.hid hb
  clear c0 l1 ha hb
  have i1 : (f : Int) < (m : Int) := by omega
  have i0 : (0 : Int) ≤ (f : Int) := by omega
  have im : (m : Int) ≤ 60000 := by omega
  unfold insA
  simp only
  have s1 := HS.out ((w.alloc (.cells #[.slice (some ⟨g1, o1, none⟩) m fc, .slice ra r rc] 25)).alloc (.cells #[.int .u8 12, .int .i64 a, .int .i64 b, .int .i64 c, .string t] 48)) (by (repeat' first | exact Below.refl _ _ | refine Below.drew ?_ | refine Below.alloc ?_ (by first | omega | (simp; done) | (simp; omega)) _ | refine Below.setCell ?_ (by first | omega | (simp; done) | (simp; omega)) _))
  clear HS
  by_cases ht : t.size = 0
  · obtain rfl := str0 ht
    go_enter Tryz.func16, Tryz.ntmps16
    go_wp2
    all_goals go_ret
    all_goals refine ⟨?_, ?_⟩
    all_goals first | (repeat' first | exact Below.refl _ _ | refine Below.drew ?_ | refine Below.alloc ?_ (by first | omega | (simp; done) | (simp; omega)) _ | refine Below.setCell ?_ (by first | omega | (simp; done) | (simp; omega)) _) | skip
    all_goals (show Ending.returned (Value.bool _) = Ending.returned (Value.bool _); refine congrArg (fun z => Ending.returned (Value.bool z)) ?_)
    all_goals first | exact (opB_f (by simp [opP, empty0]; omega)).symm | exact (opB_t (by simp [opP, empty0]; omega)).symm | (refine decide_eq_decide.2 ?_; simp [opP, empty0]; omega)
  · have e0 : t.toList.isEmpty = false := str_ne0 ht
    go_enter Tryz.func16, Tryz.ntmps16
    go_wp2
    all_goals go_ret
    all_goals refine ⟨?_, ?_⟩
    all_goals first | (repeat' first | exact Below.refl _ _ | refine Below.drew ?_ | refine Below.alloc ?_ (by first | omega | (simp; done) | (simp; omega)) _ | refine Below.setCell ?_ (by first | omega | (simp; done) | (simp; omega)) _) | skip
    all_goals (show Ending.returned (Value.bool _) = Ending.returned (Value.bool _); refine congrArg (fun z => Ending.returned (Value.bool z)) ?_)
    all_goals exact (opB_f (by simp [opP, ht])).symm
theorem opsR_19 : OpsR 19 := by
  intro w m fc r rc n ca ra cc g1 o1 f x hf hm hn hr c0 ha hb hx
  have l1 := cell_lt' c0
  have HS : Hid (∀ y, Below w.heap.size w y → y.cell? ⟨g1, o1 + f, none⟩ = some (.slice ca n cc)) := Lib.hid fun y hy => by rw [hy.cell (by exact l1)]; exact c0
  obtain ⟨op, a, b, c, t⟩ := x
  simp only at hx ha hb
  subst hx
  have HA := Lib.hid ha
  have HA2 := Lib.hid hb
  clear c0 l1 ha hb
  have i1 : (f : Int) < (m : Int) := by omega
  have i0 : (0 : Int) ≤ (f : Int) := by omega
  have im : (m : Int) ≤ 60000 := by omega
  unfold insA
  simp only
  have s1 := HS.out ((w.alloc (.cells #[.slice (some ⟨g1, o1, none⟩) m fc, .slice ra r rc] 25)).alloc (.cells #[.int .u8 19, .int .i64 a, .int .i64 b, .int .i64 c, .string t] 48)) (by (repeat' first | exact Below.refl _ _ | refine Below.drew ?_ | refine Below.alloc ?_ (by first | omega | (simp; done) | (simp; omega)) _ | refine Below.setCell ?_ (by first | omega | (simp; done) | (simp; omega)) _))
  clear HS
  by_cases ht : t.size = 0
  · obtain rfl := str0 ht
    go_enter Tryz.func16, Tryz.ntmps16
    go_wp2
    all_goals go_ret
    all_goals refine ⟨?_, ?_⟩
    all_goals first | (repeat' first | exact Below.refl _ _ | refine Below.drew ?_ | refine Below.alloc ?_ (by first | omega | (simp; done) | (simp; omega)) _ | refine Below.setCell ?_ (by first | omega | (simp; done) | (simp; omega)) _) | skip
    all_goals (show Ending.returned (Value.bool _) = Ending.returned (Value.bool _); refine congrArg (fun z => Ending.returned (Value.bool z)) ?_)
    all_goals first | exact (opB_f (by simp [opP, empty0]; omega)).symm | exact (opB_t (by simp [opP, empty0]; omega)).symm | (refine decide_eq_decide.2 ?_; simp [opP, empty0]; omega)
  · have e0 : t.toList.isEmpty = false := str_ne0 ht
    go_enter Tryz.func16, Tryz.ntmps16
    go_wp2
    all_goals go_ret
    all_goals refine ⟨?_, ?_⟩
    all_goals first | (repeat' first | exact Below.refl _ _ | refine Below.drew ?_ | refine Below.alloc ?_ (by first | omega | (simp; done) | (simp; omega)) _ | refine Below.setCell ?_ (by first | omega | (simp; done) | (simp; omega)) _) | skip
    all_goals (show Ending.returned (Value.bool _) = Ending.returned (Value.bool _); refine congrArg (fun z => Ending.returned (Value.bool z)) ?_)
    all_goals exact (opB_f (by simp [opP, ht])).symm
end Go.Ck
