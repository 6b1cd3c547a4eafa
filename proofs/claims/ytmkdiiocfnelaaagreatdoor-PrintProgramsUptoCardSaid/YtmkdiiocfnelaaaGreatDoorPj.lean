/- The anchor works, run by the kernel; what the row's list gives. Each says its own conditions. -/
import Derived.Test.YtmkdiiocfnelaaaGreatDoorPi
import Derived.Laws.RangeString
import Derived.Lib.OthersKept
import Derived.Test.YtmkdiiocfnelaaaGreatDoorEngC
import Derived.Laws.Externs
import Derived.DefersIn
import Derived.RecoverIn
import Derived.Test.YtmkdiiocfnelaaaGreatDoorCards
import Derived.Test.YtmkdiiocfnelaaaGreatDoorTie
import Derived.ProofKit
import Derived.OpenShut
import Derived.LaidMore
import Derived.Lay
import Derived.SevenTiedAt
import Derived.Stop.Joined
import Derived.ChangeArms
set_option linter.unusedVariables false
set_option linter.unusedSimpArgs false
set_option maxRecDepth 1000000
set_option maxHeartbeats 4000000
namespace Go.Eng
open Go.RowKit Go.Proofs Go.Pr
def wbRen : Go.Shelf.Ren := ⟨fun | 167 => 100 | n => Tryz.laysJoin_ren.f n, Tryz.laysJoin_ren.t, Tryz.laysJoin_ren.g⟩
theorem wbExtra : Builder.Extra Tryz.prog wbRen := {
  sizeBuilder := by kernel_rfl
  liesBuilder := by kernel_rfl
  t5 := by kernel_rfl
  a5 := fun w => by kernel_rfl
  z5 := fun w => by kernel_rfl
  v5 := fun w => by kernel_rfl
  infoByte := by kernel_rfl
  cellsByte := by kernel_rfl
  sizeByte := by kernel_rfl
  neB5 := by decide }
theorem laysWB : Go.Proofs.Lays.n167 Tryz.prog wbRen := {
  mixed := Tryz.laysJoin.mixed
  f167 := Tryz.func100.trans (congrArg some (by kernel_rfl))
  f240 := Tryz.laysJoin.f240
  f276 := Tryz.laysJoin.f276
  t0 := Tryz.laysJoin.t0
  a0 := Tryz.laysJoin.a0
  z0 := Tryz.laysJoin.z0
  v0 := Tryz.laysJoin.v0
  t4 := Tryz.laysJoin.t4
  a4 := Tryz.laysJoin.a4
  z4 := Tryz.laysJoin.z4
  v4 := Tryz.laysJoin.v4
  t5 := joinExtra.t5
  a5 := joinExtra.a5
  z5 := joinExtra.z5
  v5 := joinExtra.v5
  t9 := Tryz.laysJoin.t9
  a9 := Tryz.laysJoin.a9
  z9 := Tryz.laysJoin.z9
  v9 := Tryz.laysJoin.v9
  t20 := Tryz.laysJoin.t20
  a20 := Tryz.laysJoin.a20
  z20 := Tryz.laysJoin.z20
  v20 := Tryz.laysJoin.v20
  t37 := Tryz.laysJoin.t37
  a37 := Tryz.laysJoin.a37
  z37 := Tryz.laysJoin.z37
  v37 := Tryz.laysJoin.v37
  t70 := Tryz.laysJoin.t70
  a70 := Tryz.laysJoin.a70
  z70 := Tryz.laysJoin.z70
  v70 := Tryz.laysJoin.v70
  t72 := Tryz.laysJoin.t72
  a72 := Tryz.laysJoin.a72
  z72 := Tryz.laysJoin.z72
  v72 := Tryz.laysJoin.v72
  t75 := Tryz.laysJoin.t75
  a75 := Tryz.laysJoin.a75
  z75 := Tryz.laysJoin.z75
  v75 := Tryz.laysJoin.v75
  t164 := Tryz.laysJoin.t164
  a164 := Tryz.laysJoin.a164
  z164 := Tryz.laysJoin.z164
  v164 := Tryz.laysJoin.v164 }
noncomputable def s70 : ByteArray := bytesOf 52 39303007293397879025097076522140339215828471261844586609868093378847550923907491228261721582464839667361309930286765217556785
noncomputable def s72 : ByteArray := bytesOf 49 2342641788327567519253318102487345887173919156899725592724567257097217495674341394201619719413807372293550367968485666
theorem enters97 : Enters Tryz.prog 97 := enters_of Tryz.func97 (by kernel_rfl) (by kernel_rfl)
noncomputable def isSt (n d : Nat) (r : Out (AV × AHeap)) : Bool := Out.rec (fun vh => Prod.rec (fun v _ => avB v (.str n d)) vh) (fun _ _ => false) false r
theorem isSt_eq {n d : Nat} {r : Out (AV × AHeap)} (h : isSt n d r = true) : ∃ h', r = .ok (.str n d, h') := by
  cases r with
  | ok vh => obtain ⟨v, h'⟩ := vh; exact ⟨h', by rw [avB_eq (show avB v (.str n d) = true from h)]⟩
  | panic v h' => cases h
  | fail => cases h
theorem run97 : isSt 1 49 (cQ 97 [.str 52 39303007293397879025097076522140339215828471261844586609868093378847550923907491228261721582464839667361309930286765217556785, .func (.func 69) [] []] hQ) = true := by kernel_rfl
theorem hQ_ok {w : World} : HR (ctxAt Tryz.prog w) (envOf fun _ => none) (fun _ => none) hQ w := HR.of_rows (next := 1) (rows := []) rfl rfl (fun i hi => rfl) (fun p hp => by cases hp)
theorem digits_ok (w : World) : Calls Tryz.prog 97 #[.string s70, .func (.func 69) #[] #[]] w fun e w' => e = .returned (.string { data := #[49] }) ∧ Below w.heap.size w w' := by
  obtain ⟨h', hr⟩ := isSt_eq run97
  have h := calls_of enters97 ((callQ (K := ctxAt Tryz.prog w) rfl).fn _ _ w hQ 97 [.str 52 39303007293397879025097076522140339215828471261844586609868093378847550923907491228261721582464839667361309930286765217556785, .func (.func 69) [] []] #[.string s70, .func (.func 69) #[] #[]] (by decide) (globs_of fun g hg => absurd hg (Nat.not_lt_zero _)) hQ_ok
    (VRs.cons ⟨rfl, of_decide_eq_true (by kernel_rfl)⟩ (VRs.cons ⟨_, _, rfl, VRs.nil, VRs.nil⟩ VRs.nil)) (by rw [hr]; intro e; cases e))
  rw [hr] at h
  refine h.mono ?_
  rintro e w' ⟨vc, rfl, σ', own', hv, hg, hH'⟩
  exact ⟨congrArg Ending.returned hv.1, hH'.below⟩
theorem number_text (w : World) : Calls Tryz.prog 70 #[.string s70] w fun e w' => e = .returned (.tuple #[.agg #[.int .u8 4, .string { data := #[] }, .int .i64 1, .int .i64 0], .int .i64 1]) ∧ Below w.heap.size w w' := by
  have H := Lib.hid digits_ok
  have h49 : ∀ h, (({ data := #[49] } : ByteArray)[0]'h).toNat = 49 := fun _ => rfl
  have hmf : ∀ (fn : Fn) (first cap : Array Value) (w : World), (Instr.makeFunc fn first cap).run Tryz.prog w = .ok (.func fn first cap) w := fun _ _ _ _ => rfl
  generalize s70 = s at *
  go_enter Tryz.func70, Tryz.ntmps70
  go_wp2_with fail
  refine (H.out _).mono ?_
  rintro e w1 ⟨rfl, hb⟩
  have hA : w1.heap[w.heap.size]? = some (.cells #[.int .u8 0, .string { data := #[] }, .int .i64 0, .int .i64 0] 81 (0, 0)) := by
    rw [hb.block _ (by simp)]
    exact heap_alloc_new w _
  have HB : Hid (Below w.heap.size w w1) := Lib.hid (((Below.refl _ _).alloc (Nat.le_refl _) _).trans (hb.mono (by simp)))
  have c0 : w1.cell? ⟨w.heap.size, 0, none⟩ = some (.int .u8 0) := by rw [cell_of_row _ _ _ _ _ _ hA]; rfl
  have f0 : w1.frozen? ⟨w.heap.size, 0, none⟩ = false := by simp [World.frozen?, hA]
  have hlt : w.heap.size < w1.heap.size := (Array.getElem?_eq_some_iff.1 hA).1
  clear hb
  go_wp2
  obtain ⟨I, hI⟩ : ∃ I, I = w1.heap.size := ⟨_, rfl⟩
  have hne : w.heap.size ≠ I := by omega
  have hAI : w.heap.size ≤ I := by omega
  have hI0 : ((w1.setCell ⟨w.heap.size, 0, none⟩ (.int .u8 4)).iter { data := #[49] } 0).heap[I]? = some (.stringIter { data := #[49] } 0) := by
    have e : (w1.setCell ⟨w.heap.size, 0, none⟩ (.int .u8 4)).heap.size = I := by rw [hI]; simp [World.setCell]
    rw [← e]
    exact heap_alloc_new _ _
  have hA0 : ((w1.setCell ⟨w.heap.size, 0, none⟩ (.int .u8 4)).iter { data := #[49] } 0).heap[w.heap.size]? = some (.cells #[.int .u8 4, .string { data := #[] }, .int .i64 0, .int .i64 0] 81 (0, 0)) := by
    have e : (w1.setCell ⟨w.heap.size, 0, none⟩ (.int .u8 4)).heap.size = w1.heap.size := by simp [World.setCell]
    have h1 := heap_setCell_same w1 w.heap.size 0 _ 81 (.int .u8 4) hA
    have h2 : ((w1.setCell ⟨w.heap.size, 0, none⟩ (.int .u8 4)).iter { data := #[49] } 0).heap[w.heap.size]? = (w1.setCell ⟨w.heap.size, 0, none⟩ (.int .u8 4)).heap[w.heap.size]? := by
      simp only [World.iter, World.alloc]
      rw [Array.getElem?_push_lt (by omega), ← Array.getElem?_eq_getElem (by omega)]
    rw [h2, h1]
    rfl
  have HB2 : Hid (Below w.heap.size w ((w1.setCell ⟨w.heap.size, 0, none⟩ (.int .u8 4)).iter { data := #[49] } 0)) := Lib.hid ((HB.out.setCell (p := ⟨w.heap.size, 0, none⟩) (Nat.le_refl _) _).alloc (by simp [World.setCell]; omega) _)
  rw [← hI]
  generalize (w1.setCell ⟨w.heap.size, 0, none⟩ (.int .u8 4)).iter { data := #[49] } 0 = W2 at *
  clear hI hlt c0 f0 hA HB
  have HI0 := Lib.hid hI0
  have HA0 := Lib.hid hA0
  clear hI0 hA0
  go_loopw [14] (fun _ wr => ∃ (p : Nat) (n : Int), ((p = 0 ∧ n = 0) ∨ (p = 1 ∧ n = 1)) ∧ Hid (wr.heap[I]? = some (.stringIter { data := #[49] } p)) ∧ Hid (wr.heap[w.heap.size]? = some (.cells #[.int .u8 4, .string { data := #[] }, .int .i64 n, .int .i64 0] 81 (0, 0))) ∧ Hid (Below w.heap.size w wr)) (fun _ wr => 1 - wr.iterPos I)
  case atStart => exact ⟨0, 0, .inl ⟨rfl, rfl⟩, HI0, HA0, HB2⟩
  case round =>
    obtain ⟨p, n, hpn, HI, HA, HBW⟩ := hrel
    have cl : ∀ j v, (#[Value.int .u8 4, .string { data := #[] }, .int .i64 n, .int .i64 0] : Array Value)[j]? = some v → wr.cell? ⟨w.heap.size, j, none⟩ = some v := fun j v hv => by rw [cell_of_row _ _ _ _ _ _ HA.out]; exact hv
    have c0 := cl 0 _ rfl
    have c1 := cl 1 _ rfl
    have c2 := cl 2 _ rfl
    have c3 := cl 3 _ rfl
    clear cl
    rcases hpn with ⟨rfl, rfl⟩ | ⟨rfl, rfl⟩
    · have hnx : ∀ ty, (Instr.next (.pointer (some ⟨I, 0, none⟩)) true ty).run Tryz.prog wr = _ := fun ty => Lib.run_next_ascii_at wr I { data := #[49] } 0 ty HI.out (by decide) (by decide)
      have hb' : ∀ j, (wr.iterAt I { data := #[49] } 1).cell? ⟨w.heap.size, j, none⟩ = wr.cell? ⟨w.heap.size, j, none⟩ := fun j => by
        simp only [World.cell?, Lib.iterAt_other wr I w.heap.size _ 1 hne]
      have d2 := (hb' 2).trans c2
      have f2 : (wr.iterAt I { data := #[49] } 1).frozen? ⟨w.heap.size, 2, none⟩ = false := by
        simp [World.frozen?, Lib.iterAt_other wr I w.heap.size _ 1 hne, HA.out]
      have HI1 := Lib.hid (Lib.iterAt_heap wr I _ 0 1 HI.out)
      have HA1 : Hid ((wr.iterAt I { data := #[49] } 1).heap[w.heap.size]? = _) := Lib.hid ((Lib.iterAt_other wr I w.heap.size _ 1 hne).trans HA.out)
      have HB1 := Lib.hid (Lib.below_iterAt HBW.out hAI { data := #[49] } 1)
      have hmu : wr.iterPos I = 0 := by simp [World.iterPos, HI.out]
      clear hb' c0 c1 c2 c3
      go_wp2
      go_roundw
      case rel =>
        refine ⟨1, 1, .inr ⟨rfl, rfl⟩, Lib.hid ?_, Lib.hid ?_, Lib.hid (HB1.out.setCell (p := ⟨w.heap.size, 2, none⟩) (Nat.le_refl _) _)⟩
        · rw [Below.heap_setCell _ _ _ _ (fun e => hne e.symm)]; exact HI1.out
        · rw [heap_setCell_same _ w.heap.size 2 _ 81 _ HA1.out]; rfl
      case measure =>
        have e : ((wr.iterAt I { data := #[49] } 1).setCell ⟨w.heap.size, 2, none⟩ (.int .i64 1)).iterPos I = 1 := by
          have h1 : ((wr.iterAt I { data := #[49] } 1).setCell ⟨w.heap.size, 2, none⟩ (.int .i64 1)).heap[I]? = some (.stringIter { data := #[49] } 1) := by
            rw [Below.heap_setCell _ _ _ _ (fun e => hne e.symm)]; exact HI1.out
          simp [World.iterPos, h1]
        rw [hmu]
        first | (rw [e]; decide) | simp [e]
    · have hnx : ∀ ty, (Instr.next (.pointer (some ⟨I, 0, none⟩)) true ty).run Tryz.prog wr = _ := fun ty => Lib.run_next_end_at wr I { data := #[49] } 1 ty HI.out (by decide)
      have f0 : ∀ j, wr.frozen? ⟨w.heap.size, j, none⟩ = false := fun j => by simp [World.frozen?, HA.out]
      go_wp2
      refine bodyPost_ret (v := .tuple #[.agg #[.int .u8 4, .string { data := #[] }, .int .i64 1, .int .i64 0], .int .i64 1]) ?_ rfl ⟨rfl, ?_⟩
      · rw [results_cell_tmp rfl]
        go_simp
      · repeat (first | exact HBW.out | refine Below.setCell ?_ (by exact Nat.le_refl _) _)
end Go.Eng
namespace Go.Eng
open Go.RowKit Go.Proofs Go.Pr
theorem wb100 : wbRen.f 167 = 100 := by kernel_rfl
theorem str53 : Tryz.laysJoin_ren.f 169 = 53 := by kernel_rfl
theorem write_ok (B b : Nat) (bs : List Value) (c : Int) (w : World) (h : Lib.IsBuilder 97 5 B b bs w) (hlen : bs.length + 1 ≤ 140737488355328) (hBw : B ≤ w.heap.size) :
    Calls Tryz.prog 100 #[.pointer (some ⟨b, 0, none⟩), .int .u8 c] w fun e w' => e = .returned .nilIface ∧ Lib.IsBuilder 97 5 B b (bs ++ [.int .u8 c]) w' ∧ Below B w w' := by
  have := Any.Builder_WriteByte laysWB wbExtra B b bs c w h hlen hBw
  rw [wb100] at this
  refine this.mono ?_
  rintro e w' ⟨rfl, h1, h2⟩
  exact ⟨rfl, .inr h1, h2⟩
theorem string_ok (B b : Nat) (l : List UInt8) (w : World) (h : Lib.IsBuilder 97 5 B b (Lib.byteCells l) w) (h0 : l ≠ []) :
    Calls Tryz.prog 53 #[.pointer (some ⟨b, 0, none⟩)] w fun e w' => e = .returned (.string ⟨l.toArray⟩) ∧ Below B w w' := by
  have := Any.Builder_String { Tryz.laysJoin with } joinExtra B b l w h h0
  rw [str53] at this
  exact this
theorem text_text (s : ByteArray) (w : World) (h3 : 3 ≤ s.size) (hs : s.size ≤ 1048576) (e1 : ∀ h, (s[1]'h).toNat = 97) (e2 : ∀ h, (s[2]'h).toNat = 34) :
    Calls Tryz.prog 72 #[.string s] w fun e w' => e = .returned (.tuple #[.agg #[.int .u8 5, .string { data := #[97] }, .int .i64 0, .int .i64 0], .int .i64 3]) ∧ Below w.heap.size w w' := by
  have i3 : (3 : Int) ≤ (s.size : Int) := by omega
  have i1 : (1 : Int) < (s.size : Int) := by omega
  have i2 : (2 : Int) < (s.size : Int) := by omega
  go_enter Tryz.func72, Tryz.ntmps72
  go_wp2
  obtain ⟨b, hb⟩ : ∃ b, b = w.heap.size + 1 := ⟨_, rfl⟩
  have hIB := Lib.fresh_isBuilder 97 5 (w.alloc (.cells #[.int .u8 0, .string { data := #[] }, .int .i64 0, .int .i64 0] 81))
  rw [show (w.alloc (.cells #[.int .u8 0, .string { data := #[] }, .int .i64 0, .int .i64 0] 81)).heap.size = b by rw [hb]; simp] at hIB
  have hA0 : ((w.alloc (.cells #[.int .u8 0, .string { data := #[] }, .int .i64 0, .int .i64 0] 81)).alloc (.cells #[.pointer none, .slice none 0 0] 97)).heap[w.heap.size]? = some (.cells #[.int .u8 0, .string { data := #[] }, .int .i64 0, .int .i64 0] 81 (0, 0)) :=
    (((Below.refl (w.heap.size + 1) (w.alloc (.cells #[.int .u8 0, .string { data := #[] }, .int .i64 0, .int .i64 0] 81))).alloc (by simp) _).block _ (Nat.lt_succ_self _)).trans (heap_alloc_new w _)
  have hBW : Below w.heap.size w ((w.alloc (.cells #[.int .u8 0, .string { data := #[] }, .int .i64 0, .int .i64 0] 81)).alloc (.cells #[.pointer none, .slice none 0 0] 97)) := ((Below.refl _ _).alloc (Nat.le_refl _) _).alloc (by simp) _
  have hsz : b ≤ ((w.alloc (.cells #[.int .u8 0, .string { data := #[] }, .int .i64 0, .int .i64 0] 81)).alloc (.cells #[.pointer none, .slice none 0 0] 97)).heap.size := by simp [hb]
  have hAb : w.heap.size < b := by omega
  rw [← hb]
  generalize (w.alloc (.cells #[.int .u8 0, .string { data := #[] }, .int .i64 0, .int .i64 0] 81)).alloc (.cells #[.pointer none, .slice none 0 0] 97) = W2 at *
  clear hb
  have HI0 := Lib.hid hIB
  have HA0 := Lib.hid hA0
  have HB0 := Lib.hid hBW
  have HZ0 := Lib.hid hsz
  clear hIB hA0 hBW hsz
  go_loopw [5] (fun i wr => ∃ (k : Nat) (l : List UInt8), i = .int .i64 k ∧ ((k = 1 ∧ l = []) ∨ (k = 2 ∧ l = [97])) ∧ Hid (Lib.IsBuilder 97 5 b b (Lib.byteCells l) wr) ∧ Hid (wr.heap[w.heap.size]? = some (.cells #[.int .u8 0, .string { data := #[] }, .int .i64 0, .int .i64 0] 81 (0, 0))) ∧ Hid (Below w.heap.size w wr) ∧ Hid (b ≤ wr.heap.size)) (fun i _ => 3 - (intOf i).toNat)
  case atStart => exact ⟨1, [], rfl, .inl ⟨rfl, rfl⟩, HI0, HA0, HB0, HZ0⟩
  case round =>
    obtain ⟨k, l, rfl, hkl, HI, HA, HBW, HZ⟩ := hrel
    rcases hkl with ⟨rfl, rfl⟩ | ⟨rfl, rfl⟩
    · have HX := Lib.hid (write_ok b b (Lib.byteCells []) 97 wr HI.out (by simp [Lib.byteCells]) HZ.out)
      go_wp2_with fail
      refine HX.out.mono ?_
      rintro e w' ⟨rfl, h1, h2⟩
      have HI1 : Hid (Lib.IsBuilder 97 5 b b (Lib.byteCells [97]) w') := Lib.hid h1
      have HA1 := Lib.hid ((h2.block _ hAb).trans HA.out)
      have HB1 := Lib.hid (HBW.out.trans (h2.mono (by omega)))
      have HZ1 : Hid (b ≤ w'.heap.size) := Lib.hid (Nat.le_trans HZ.out h2.size)
      clear h1 h2
      go_wp2
      go_roundw
      case rel => exact ⟨2, [97], rfl, .inr ⟨rfl, rfl⟩, HI1, HA1, HB1, HZ1⟩
      case measure => simp [intOf]
    · have HX := Lib.hid (string_ok b b [97] wr HI.out (by simp))
      go_wp2_with fail
      refine HX.out.mono ?_
      rintro e w' ⟨rfl, h2⟩
      have HA1 := Lib.hid ((h2.block _ hAb).trans HA.out)
      have HB1 := Lib.hid (HBW.out.trans (h2.mono (by omega)))
      have cl : ∀ j v, (#[Value.int .u8 0, .string { data := #[] }, .int .i64 0, .int .i64 0] : Array Value)[j]? = some v → w'.cell? ⟨w.heap.size, j, none⟩ = some v := fun j v hv => by rw [cell_of_row _ _ _ _ _ _ HA1.out]; exact hv
      have c0 := cl 0 _ rfl
      have c1 := cl 1 _ rfl
      have c2 := cl 2 _ rfl
      have c3 := cl 3 _ rfl
      have f0 : ∀ j, w'.frozen? ⟨w.heap.size, j, none⟩ = false := fun j => by simp [World.frozen?, HA1.out]
      clear cl h2
      go_wp2
      refine bodyPost_ret (v := .tuple #[.agg #[.int .u8 5, .string { data := #[97] }, .int .i64 0, .int .i64 0], .int .i64 3]) ?_ rfl ⟨rfl, ?_⟩
      · rw [results_cell_tmp rfl]
        go_simp
      · repeat (first | exact HB1.out | refine Below.setCell ?_ (by exact Nat.le_refl _) _)
end Go.Eng
namespace Go.Eng
open Go.RowKit Go.Proofs Go.Pr
theorem enters26 : Enters Tryz.prog 26 := enters_of Tryz.func26 (by kernel_rfl) (by kernel_rfl)
theorem enters30 : Enters Tryz.prog 30 := enters_of Tryz.func30 (by kernel_rfl) (by kernel_rfl)
theorem enters70 : Enters Tryz.prog 70 := enters_of Tryz.func70 (by kernel_rfl) (by kernel_rfl)
theorem enters72 : Enters Tryz.prog 72 := enters_of Tryz.func72 (by kernel_rfl) (by kernel_rfl)
theorem enters4 : Enters Tryz.prog 4 := enters_of Tryz.func4 (by kernel_rfl) (by kernel_rfl)
theorem joinI_ok {K : Ctx} {ng : Nat} : KnownOK Tryz.prog K ng 26 joinI := by
  intro σ own w h args cargs hg hH ha hf
  obtain ⟨cl⟩ := cargs
  simp only at ha
  unfold joinI at hf ⊢
  split at hf
  · rename_i x y
    obtain ⟨cx, xs, rfl, h1, cy, ys, rfl, h2, h3⟩ := ha
    simp only [VRs] at h3
    subst h3
    have key : ∀ r, (y.onStr (fun m sep => x.onSlice .fail (fun b off len sz => ifb (Nat.beq sz 1) (onSome (h.loadN b off len) (fun l => onSome (joinL m sep l) (fun r => ifb (Nat.ble (Nat.add r.1 len) 1048576) (.ok (.str r.1 r.2, h)) .fail) .fail) .fail) .fail) .fail) .fail : Out (AV × AHeap)) = r → r ≠ .fail →
        ComesTo Tryz.prog 26 #[cx, cy] w (Back K σ h r) := by
      intro r hr hnf
      cases y with
      | str m sep =>
        obtain ⟨rfl, hs⟩ := h2
        cases x with
        | slice b off len sz =>
          obtain ⟨loc, hl, rfl⟩ := h1
          have hr : ifb (Nat.beq sz 1) (onSome (h.loadN b off len) (fun l => onSome (joinL m sep l) (fun r => ifb (Nat.ble (Nat.add r.1 len) 1048576) (Out.ok (AV.str r.1 r.2, h)) .fail) .fail) .fail) .fail = r := hr
          cases hsz : Nat.beq sz 1 with
          | false => rw [hsz] at hr; exact absurd hr.symm hnf
          | true =>
            have := Nat.eq_of_beq_eq_true hsz
            subst this
            rw [hsz] at hr
            cases hld : h.loadN b off len with
            | none => rw [hld] at hr; exact absurd hr.symm hnf
            | some l =>
              rw [hld] at hr
              have hr : onSome (joinL m sep l) (fun r => ifb (Nat.ble (Nat.add r.1 len) 1048576) (Out.ok (AV.str r.1 r.2, h)) .fail) .fail = r := hr
              cases hj : joinL m sep l with
              | none => rw [hj] at hr; exact absurd hr.symm hnf
              | some nd =>
                obtain ⟨n, d⟩ := nd
                rw [hj] at hr
                have hr : ifb (Nat.ble (Nat.add n len) 1048576) (Out.ok (AV.str n d, h)) .fail = r := hr
                cases hle : Nat.ble (Nat.add n len) 1048576 with
                | false => rw [hle] at hr; exact absurd hr.symm hnf
                | true =>
                  rw [hle] at hr
                  subst hr
                  have hle' : n + len ≤ 1048576 := Nat.le_of_ble_eq_true hle
                  obtain ⟨vs, v1, v2, v3⟩ := hH.loadN hl hld
                  obtain ⟨bs, rfl, e2, e3⟩ := joinL_ok hs l vs n d v2 hj
                  have hbl : bs.length = len := by simpa using v1
                  have hlenj : (Lib.join (bs.map (·.data.toList)) (bytesOf m sep).data.toList).length = n := by
                    show (Lib.join (bs.map (·.data.toList)) (unp m sep)).length = n
                    rw [← e3, unp_length]
                  have hcells : ∀ (j : Nat) x, bs[j]? = some x → w.cell? ⟨loc.B, loc.o + off + j, none⟩ = some (.string x) := fun j x hx => by
                    have := v3 j (.string x) (by rw [List.getElem?_map, hx]; rfl)
                    rw [add_none] at this; exact this
                  obtain ⟨g, ro, r, hg', hcut⟩ := onRow_some hld
                  have R := hH.row hl hg'
                  have hO := hH.obj b loc hl
                  rw [hg'] at hO
                  obtain ⟨p1, p2, p3⟩ := Row.cut_spec R.wf hcut
                  have hcap : bs.length ≤ (loc.C - off) / 1 := by
                    have := R.cap
                    rw [hbl, Nat.div_one]
                    rcases p2 with p2 | p2 <;> omega
                  have hbig : bs.length ≤ 140737488355328 := by omega
                  have hJ := Any.strings_Join Tryz.laysJoin joinExtra loc.B (loc.o + off) ((loc.C - off) / 1) bs (bytesOf m sep) w hcells hO.2.1 hbig hcap (by rw [hlenj]; omega)
                  rw [join26, hbl] at hJ
                  refine .inl ⟨enters26, Calls.mono hJ fun e w' ⟨he, hw⟩ => ?_⟩
                  subst he
                  refine ⟨_, rfl, σ, own, ⟨?_, e2⟩, Grow.refl _ _, hH.grownWorld hw⟩
                  have : Lib.join (bs.map (·.data.toList)) (bytesOf m sep).data.toList = unp n d := e3.symm
                  rw [this]
                  rfl
        | _ => exact absurd hr.symm hnf
      | _ => exact absurd hr.symm hnf
    exact key _ rfl hf
  · exact absurd rfl hf
noncomputable def joinP : Known := fun args h => match args with
  | [x, y] => ifb (avB x .nilSlice) (y.onStr (fun _ _ => .ok (.str 0 0, h)) .fail) (joinI [x, y] h)
  | _ => .fail
theorem joinP_ok {K : Ctx} {ng : Nat} : KnownOK Tryz.prog K ng 26 joinP := by
  intro σ own w h args cargs hg hH ha hf
  obtain ⟨cl⟩ := cargs
  simp only at ha
  match args, cl, ha, hf with
  | [], _, _, hf => exact absurd rfl hf
  | [_], _, _, hf => exact absurd rfl hf
  | _ :: _ :: _ :: _, _, _, hf => exact absurd rfl hf
  | [x, y], _, ⟨vx, _, rfl, h1, vy, _, rfl, h2, h3⟩, hf =>
    have h3 : _ = [] := h3
    subst h3
    have hdef : joinP [x, y] h = ifb (avB x .nilSlice) (y.onStr (fun _ _ => .ok (.str 0 0, h)) .fail) (joinI [x, y] h) := rfl
    cases e : avB x .nilSlice with
    | false =>
      rw [e] at hdef
      have hdef : joinP [x, y] h = joinI [x, y] h := hdef
      rw [hdef] at hf ⊢
      exact joinI_ok σ own w h [x, y] _ hg hH ⟨vx, _, rfl, h1, vy, _, rfl, h2, rfl⟩ hf
    | true =>
      rw [e] at hdef
      have hdef : joinP [x, y] h = y.onStr (fun _ _ => .ok (.str 0 0, h)) .fail := hdef
      rw [hdef] at hf ⊢
      obtain rfl := avB_eq e
      cases y with
      | str n d =>
        have h1 : vx = .slice none 0 0 := h1
        have h2 : vy = .string (bytesOf n d) := h2.1
        subst h1; subst h2
        have hj := Any.strings_Join_none Tryz.laysJoin joinExtra none 0 (bytesOf n d) w
        rw [join26] at hj
        refine .inl ⟨enters26, hj.mono ?_⟩
        rintro e w' ⟨rfl, rfl⟩
        exact ⟨_, rfl, σ, own, ⟨rfl, by decide⟩, Grow.refl _ _, hH⟩
      | _ => exact absurd rfl hf
noncomputable def atI (A : List AV) (v : AV) : Known := fun args h => ifb (avsB args A) (.ok (v, h)) .fail
theorem atI_ok {P : Program} {K : Ctx} {ng f : Nat} {A : List AV} {v : AV} (hE : Enters P f)
    (hc : ∀ (σ : Env) (w : World) (cargs : Array Value), VRs K σ A cargs.toList → Below K.base K.w0 w → ∃ vc, VR K σ v vc ∧ Calls P f cargs w fun e w' => e = .returned vc ∧ Below w.heap.size w w') : KnownOK P K ng f (atI A v) := by
  intro σ own w h args cargs hg hH ha hf
  obtain ⟨e1, hf⟩ := ifb_nf (show (ifb (avsB args A) (.ok (v, h)) .fail : Out (AV × AHeap)) ≠ .fail from hf)
  have hr : atI A v args h = .ok (v, h) := by show ifb (avsB args A) _ _ = _; rw [e1]; rfl
  rw [hr]
  rw [avsB_eq e1] at ha
  obtain ⟨vc, k1, k2⟩ := hc σ w cargs ha hH.below
  refine .inl ⟨hE, k2.mono ?_⟩
  rintro e w' ⟨rfl, hb⟩
  exact ⟨vc, rfl, σ, own, k1, Grow.refl _ _, hH.grownWorld hb⟩
noncomputable def idxI : Known := fun args h =>
  match args with
  | [x, y] => x.onStr (fun n d => y.onInt (fun k c => ifb (keq k .u8) (.ok (.int .i64 (firstIdx (bytesOf n d) c.toNat.toUInt8), h)) .fail) .fail) .fail
  | _ => .fail
theorem ext129 : Ext Tryz.prog 129 Tryz.f129 Extern.BytealgIndexByte.indexByte := ⟨Tryz.func129, by kernel_rfl, by kernel_rfl, by kernel_rfl, by kernel_rfl⟩
theorem idxI_ok {K : Ctx} {ng : Nat} : KnownOK Tryz.prog K ng 129 idxI := by
  intro σ own w h args cargs hg hH ha hf
  obtain ⟨cl⟩ := cargs
  simp only at ha
  match args, cl, ha, hf with
  | [], _, _, hf => exact absurd rfl hf
  | [_], _, _, hf => exact absurd rfl hf
  | _ :: _ :: _ :: _, _, _, hf => exact absurd rfl hf
  | [x, y], _, ⟨vx, _, rfl, h1, vy, _, rfl, h2, h3⟩, hf =>
    have h3 : _ = [] := h3
    subst h3
    cases x with
    | str n d =>
      obtain ⟨k, c, rfl, hf⟩ := onInt_nf (show (y.onInt (fun k c => ifb (keq k .u8) (.ok (AV.int .i64 (firstIdx (bytesOf n d) c.toNat.toUInt8), h)) .fail) .fail : Out (AV × AHeap)) ≠ .fail from hf)
      obtain ⟨e1, hf⟩ := ifb_nf hf
      cases keq_eq e1
      have h1 : vx = .string (bytesOf n d) := h1.1
      have h2 : vy = .int .u8 c := h2
      subst h1; subst h2
      have hr : idxI [.str n d, .int .u8 c] h = .ok (.int .i64 (firstIdx (bytesOf n d) c.toNat.toUInt8), h) := by
        have hd : idxI [.str n d, .int .u8 c] h = ifb (keq .u8 .u8) (.ok (.int .i64 (firstIdx (bytesOf n d) c.toNat.toUInt8), h)) .fail := rfl
        rw [hd, e1]; rfl
      rw [hr]
      refine .inr ⟨.int .i64 (firstIdx (bytesOf n d) c.toNat.toUInt8), w, ?_, _, rfl, σ, own, rfl, Grow.refl _ _, hH⟩
      have := run_callFunc_extern (e := Extern.BytealgIndexByte.indexByte) ext129.f ext129.n ext129.b ext129.x ext129.e #[.string (bytesOf n d), .int .u8 c] w
      rw [this, run_indexByte_string]
      rfl
    | _ => exact absurd rfl hf
noncomputable def idle : Known := fun args h => match args with | [_, _, _, _] => .ok (.tup [], h) | _ => .fail
theorem idle_ok {K : Ctx} {ng : Nat} : KnownDOK Tryz.prog K ng 47 idle := by
  intro σ own w h args cargs hg hH ha hf
  refine ⟨enters_of Tryz.func47 (by kernel_rfl) (by kernel_rfl), ?_⟩
  obtain ⟨cl⟩ := cargs
  simp only at ha
  match args, cl, ha, hf with
  | [], _, _, hf => exact absurd rfl hf
  | [_], _, _, hf => exact absurd rfl hf
  | [_, _], _, _, hf => exact absurd rfl hf
  | [_, _, _], _, _, hf => exact absurd rfl hf
  | _ :: _ :: _ :: _ :: _ :: _, _, _, hf => exact absurd rfl hf
  | [x0, x1, x2, x3], _, ⟨v0, _, rfl, h0, v1, _, rfl, h1, v2, _, rfl, h2, v3, _, rfl, h3, h4⟩, hf =>
    have h4 : _ = [] := h4
    subst h4
    have key : CallsDIn (FR none) 0 Tryz.prog 47 #[v0, v1, v2, v3] .returning w fun e u' w' => e = .returned (.tuple #[]) ∧ u' = .returning ∧ w' = w := by
      refine callsDIn_of_wpSIn Tryz.func47 rfl (by trivial) fun c₀ cs hu => ?_
      apply wpSIn_seq
      apply wpSIn_region
      simp [wpOpsSIn, go_sem, recoverD, hu, Tryz.ntmps47, Exit.thenS]
      apply wpSIn_seq
      apply wpSIn_region
      simp [wpOpsSIn, go_sem, Exit.thenS, Tryz.underlying20]
      refine wpSIn_cond (t := false) (by simp [Act.eval, Array.replicate]) ?_
      simp only [Bool.false_eq_true, if_false]
      refine wpSIn_of_wpIn rfl (wpIn_skip ?_)
      cases c₀
      simp_all [bodyPostS, results, Tryz.results47]
    refine key.mono fun e u w' ⟨e1, e2, e3⟩ => ?_
    subst e1; subst e3
    exact ⟨e2, .tuple #[], rfl, σ, own, ⟨#[], rfl, VRs.nil⟩, Grow.refl _ _, hH⟩
noncomputable def knW : List (Nat × KnownY) := [(26, upK joinP), (30, upK (atI [.int .i64 (.ofNat 1)] (.str 1 49))), (31, upK (atI [.str 1 97] (.str 3 2253090))),
  (70, upK (atI [.str 52 39303007293397879025097076522140339215828471261844586609868093378847550923907491228261721582464839667361309930286765217556785] (.tup [.agg [.int .u8 (.ofNat 4), .str 0 0, .int .i64 (.ofNat 1), .int .i64 (.ofNat 0)], .int .i64 (.ofNat 1)]))),
  (72, upK (atI [.str 49 2342641788327567519253318102487345887173919156899725592724567257097217495674341394201619719413807372293550367968485666] (.tup [.agg [.int .u8 (.ofNat 5), .str 1 97, .int .i64 (.ofNat 0), .int .i64 (.ofNat 0)], .int .i64 (.ofNat 3)]))), (129, upK idxI)]
theorem one {K : Ctx} {σ : Env} {x : AV} {cargs : Array Value} (h : VRs K σ [x] cargs.toList) : ∃ v, cargs = #[v] ∧ VR K σ x v := by
  obtain ⟨cl⟩ := cargs
  obtain ⟨v, ys, e, h1, h2⟩ := h
  have h2 : ys = [] := h2
  subst h2
  have e : cl = [v] := e
  subst e
  exact ⟨v, rfl, h1⟩
theorem knW_ok {K : Ctx} (hb : K.base = K.w0.heap.size) (ht : TabV K.w0) : ∀ p ∈ knW, KnownYOK Tryz.prog K 3 p.1 p.2 := by
  intro p hp
  simp only [knW, List.mem_cons, List.mem_nil_iff, or_false] at hp
  rcases hp with rfl | rfl | rfl | rfl | rfl | rfl
  · exact joinP_ok.up
  · refine (atI_ok enters30 fun σ w cargs hv hB => ?_).up
    obtain ⟨v, rfl, hv1⟩ := one hv
    clear hv
    have hv : v = .int .i64 1 := hv1
    subst hv
    rw [hb] at hB
    refine ⟨.string (numS 1), ⟨by kernel_rfl, by decide⟩, number_ok 1 (by decide) (by decide) w (ht.below hB)⟩
  · refine (atI_ok enters31 fun σ w cargs hv hB => ?_).up
    obtain ⟨v, rfl, hv1⟩ := one hv
    clear hv
    have hv : v = .string (bytesOf 1 97) := hv1.1
    subst hv
    exact ⟨.string (quoteS (bytesOf 1 97)), ⟨by kernel_rfl, by decide⟩, quote_ok (W0 := w) w (bytesOf 1 97) (by decide) (Below.refl _ _)⟩
  · refine (atI_ok enters70 fun σ w cargs hv hB => ?_).up
    obtain ⟨v, rfl, hv1⟩ := one hv
    clear hv
    have hv : v = .string s70 := hv1.1
    subst hv
    exact ⟨_, ⟨_, rfl, VRs.cons ⟨_, rfl, VRs.cons rfl (VRs.cons ⟨rfl, by decide⟩ (VRs.cons rfl (VRs.cons rfl VRs.nil)))⟩ (VRs.cons rfl VRs.nil)⟩, number_text w⟩
  · refine (atI_ok enters72 fun σ w cargs hv hB => ?_).up
    obtain ⟨v, rfl, hv1⟩ := one hv
    clear hv
    have hv : v = .string s72 := hv1.1
    subst hv
    have hsz : s72.size = 49 := bytesOf_size _ _
    exact ⟨_, ⟨_, rfl, VRs.cons ⟨_, rfl, VRs.cons rfl (VRs.cons ⟨rfl, by decide⟩ (VRs.cons rfl (VRs.cons rfl VRs.nil)))⟩ (VRs.cons rfl VRs.nil)⟩, text_text s72 w (by omega) (by omega) (fun _ => by kernel_rfl) (fun _ => by kernel_rfl)⟩
  · exact idxI_ok.up
noncomputable def IDW : Nat → Option Known := fun f => ifb (Nat.beq f 47) (some idle) none
noncomputable def cW : Caller := detC (callG (lookK knW) IDW (FnP 3) (fun _ => false) 1000 400 noY)
theorem callW {K : Ctx} (hK : K.codes = codesOf Tryz.prog) (hb : K.base = K.w0.heap.size) (ht : TabV K.w0) : CallOK Tryz.prog K 3 cW := callG1_ok (lookK_ok (knW_ok hb ht)) (fun f g h => by
  unfold IDW at h
  cases h1 : Nat.beq f 47 with
  | true => rw [h1] at h; cases h; rw [Nat.eq_of_beq_eq_true h1]; exact idle_ok
  | false => rw [h1] at h; cases h) (funsP hK) 1000 400
def txS : List (List UInt8) := [[61, 62], [45, 62], [58, 61], [60, 61], [62, 61], [60, 62], [40], [41], [44], [59], [61], [42], [124], [58], [33], [43], [45], [126], [60], [62], [94], [95]]
def txW : List (List UInt8) := [[100, 97, 116, 97, 116, 121, 112, 101], [111, 102], [101, 120, 99, 101, 112, 116, 105, 111, 110], [118, 97, 108], [102, 117, 110], [97, 110, 100], [102, 110], [108, 101, 116], [105, 110], [101, 110, 100], [105, 102], [116, 104, 101, 110], [101, 108, 115, 101], [99, 97, 115, 101], [104, 97, 110, 100, 108, 101], [114, 97, 105, 115, 101], [114, 111, 111, 116], [100, 111], [116, 114, 117, 101], [102, 97, 108, 115, 101], [100, 105, 118], [109, 111, 100]]
def tx0 : List (List UInt8) := [[58, 61]]
def tx1 : List (List UInt8) := [[60], [60, 61], [62], [62, 61], [61], [60, 62]]
def tx2 : List (List UInt8) := [[94]]
def tx3 : List (List UInt8) := [[43], [45]]
def tx4 : List (List UInt8) := [[42], [100, 105, 118], [109, 111, 100]]
noncomputable def rS : Row := .lst 22 [.str 2 15933, .str 2 15917, .str 2 15674, .str 2 15676, .str 2 15678, .str 2 15932, .str 1 40, .str 1 41, .str 1 44, .str 1 59, .str 1 61, .str 1 42, .str 1 124, .str 1 58, .str 1 33, .str 1 43, .str 1 45, .str 1 126, .str 1 60, .str 1 62, .str 1 94, .str 1 95]
noncomputable def rW : Row := .lst 22 [.str 8 7309475735980499300, .str 2 26223, .str 9 2037169923944901474405, .str 3 7102838, .str 3 7239014, .str 3 6581857, .str 2 28262, .str 3 7628140, .str 2 28265, .str 3 6581861, .str 2 26217, .str 4 1852139636, .str 4 1702063205, .str 4 1702060387, .str 6 111516215828840, .str 5 435727982962, .str 4 1953460082, .str 2 28516, .str 4 1702195828, .str 5 435728179558, .str 3 7760228, .str 3 6582125]
noncomputable def rL0 : Row := .lst 1 [.str 2 15674]
noncomputable def rL1 : Row := .lst 6 [.str 1 60, .str 2 15676, .str 1 62, .str 2 15678, .str 1 61, .str 2 15932]
noncomputable def rL2 : Row := .lst 1 [.str 1 94]
noncomputable def rL3 : Row := .lst 2 [.str 1 43, .str 1 45]
noncomputable def rL4 : Row := .lst 3 [.str 1 42, .str 3 7760228, .str 3 6582125]
noncomputable def rL : Row := .lst 10 [.int .i64 (.ofNat 0), .slice (posOf 13) 0 1 1, .int .i64 (.ofNat 0), .slice (posOf 14) 0 6 1, .int .i64 (.ofNat 1), .slice (posOf 15) 0 1 1, .int .i64 (.ofNat 2), .slice (posOf 16) 0 2 1, .int .i64 (.ofNat 2), .slice (posOf 17) 0 3 1]
noncomputable def hW : AHeap := heapOfO 20 [(0, .cells none true (.lst 1 [.slice (posOf 10) 0 22 1])), (1, .cells none true (.lst 1 [.slice (posOf 11) 0 22 1])), (2, .cells none true (.lst 1 [.slice (posOf 12) 0 5 2])),
  (10, .cells none true rS), (11, .cells none true rW), (12, .cells none true rL), (13, .cells none true rL0), (14, .cells none true rL1), (15, .cells none true rL2), (16, .cells none true rL3), (17, .cells none true rL4)]
theorem runW : isTrueO (cW 4 [] hW) = true := by kernel_rfl
end Go.Eng
set_option maxHeartbeats 1600000
namespace Go.Eng
open Go.RowKit Go.Proofs Go.Pr Go.Proofs.YtmkdiiocfnelaaaGreatDoor
theorem cells9 : Tryz.prog.cellsOf 9 = 1 := by kernel_rfl
theorem cells3 : Tryz.prog.cellsOf 3 = 1 := by kernel_rfl
theorem cells25 : Tryz.prog.cellsOf 25 = 1 := by kernel_rfl
theorem cells179 : Tryz.prog.cellsOf 179 = 2 := by kernel_rfl
def ent (v : Value) : MapEntry := { key := .int .i64 0, val := v, born := 0 }
theorem txt_of {w : World} {H : Type} {enc : TypeId × Value → H} {n : Nat} {held : Bool} {cs : List Value} {texts : List (List UInt8)} {q : List MemPlace}
    (h : DataW.trod enc Tryz.prog w 0 (fun _ => true) held n 25 cs = some (.slice (texts.map fun t => .lit (.string t)) [], q)) (hx : texts ≠ []) : ∃ v l, cs = [v] ∧ SlotOK w 0 texts (ent v) l := by
  rcases Deep.open_slice1 Tryz.underlying25 cells9 h with ⟨e1, e2⟩ | ⟨a, len, cap, m, n', V, D, Pl, e1, hb, hl, hm, hmm, e2, hx2⟩
  · cases e2
  · have hmm : m = cap := hmm
    subst hmm
    have e3 := congrArg Prod.fst e2
    have e3 : DataW.slice (texts.map fun t => DataW.lit (.string t)) [] = .slice ((List.range len).map D) ((List.range (m - len)).map fun j => D (len + j)) := e3
    obtain ⟨e4, e5⟩ := DataW.slice.inj e3
    have hlen : texts.length = len := by have := congrArg List.length e4; simpa using this
    have hcap : len = m := by
      have := congrArg List.length e5
      simp at this
      omega
    have hpos : 0 < len := by rw [← hlen]; exact List.length_pos_iff.2 hx
    obtain ⟨B, o, sp⟩ := a
    have hsp : sp = none := by
      have := (hx2 0 (by omega)).1
      cases sp with
      | none => rfl
      | some q => unfold World.cell? at this; split at this <;> simp [Addr.add] at this
    subst hsp
    have hadd : ∀ i, (⟨B, o, none⟩ : Addr).add i = ⟨B, o + i, none⟩ := fun i => by
      unfold Addr.add
      split
      · rename_i h0; subst h0; rfl
      · rfl
    refine ⟨_, ⟨B, o, m⟩, e1, rfl, by rw [hlen]; rfl, Nat.le_of_eq (hlen.trans hcap), fun i hi => ⟨_, by have := (hx2 i hi).1; rw [hadd] at this; exact this⟩, fun i t ht => ?_⟩
    have hi : i < len := by rw [← hlen]; exact (List.getElem?_eq_some_iff.1 ht).1
    obtain ⟨k1, k2⟩ := hx2 i (by omega)
    obtain ⟨s, k3, k4, _⟩ := DataW.trod_string Tryz.underlying9 k2
    have hDi : D i = .lit (.string t) := by
      have := congrArg (fun l => l[i]?) e4
      simp only [List.getElem?_map, ht, List.getElem?_range hi, Option.map_some] at this
      exact (Option.some.inj this).symm
    refine ⟨s, ?_, ?_⟩
    · rw [← List.head_eq_of_cons_eq k3]; rw [hadd] at k1; exact k1
    · have := congrArg Prod.fst k4
      have this : D i = .lit (.string s.data.toList) := this
      rw [hDi] at this
      cases this; rfl
theorem str_of {K : Ctx} {σ : Env} {s : ByteArray} {n d : Nat} {t : List UInt8} (h : s.data.toList = t) (hn : t.length = n) (hd : packB t = d) : VR K σ (.str n d) (.string s) := by
  subst hn; subst hd; subst h
  obtain ⟨h1, h2⟩ := unp_packB s.data.toList
  refine ⟨?_, h2⟩
  unfold bytesOf
  rw [h1]
noncomputable def strOf (t : List UInt8) : AV := .str t.length (packB t)
theorem slot_row {K : Ctx} {σ : Env} {w : World} {key : Int} {texts : List (List UInt8)} {c : MapEntry} {l : Loc} (h : SlotOK w key texts c l) : RowR K σ w l (.lst texts.length (texts.map strOf)) := by
  refine ⟨by show _ = _; simp, h.room, h.cell, fun i x hx => ?_⟩
  have hx : getL (texts.map strOf) i = some x := hx
  rw [getL_eq, List.getElem?_map] at hx
  obtain ⟨t, h1, rfl⟩ := Option.map_eq_some_iff.1 hx
  obtain ⟨s, h2, h3⟩ := h.text i t h1
  exact ⟨_, h2, str_of h3 rfl rfl⟩
theorem slot_loc {w : World} {key : Int} {texts : List (List UInt8)} {c : MapEntry} {l : Loc} (h : SlotOK w key texts c l) (hne : 0 < texts.length) : l.B < w.heap.size := by
  obtain ⟨v, hv⟩ := h.cell 0 (Nat.lt_of_lt_of_le hne h.room)
  exact cell_lt hv
theorem rS_eq : rS = .lst txS.length (txS.map strOf) := by kernel_rfl
theorem rW_eq : rW = .lst txW.length (txW.map strOf) := by kernel_rfl
theorem rL0_eq : rL0 = .lst tx0.length (tx0.map strOf) := by kernel_rfl
theorem rL1_eq : rL1 = .lst tx1.length (tx1.map strOf) := by kernel_rfl
theorem rL2_eq : rL2 = .lst tx2.length (tx2.map strOf) := by kernel_rfl
theorem rL3_eq : rL3 = .lst tx3.length (tx3.map strOf) := by kernel_rfl
theorem rL4_eq : rL4 = .lst tx4.length (tx4.map strOf) := by kernel_rfl
structure LvlOK (w : World) (v : Value) (l l0 l1 l2 l3 l4 : Loc) (u0 u1 u2 u3 u4 : Value) : Prop where
  val : v = .slice (some ⟨l.B, l.o, none⟩) 5 5
  c : l.C = 10
  n0 : w.cell? ⟨l.B, l.o + 0, none⟩ = some (.int .i64 0)
  n1 : w.cell? ⟨l.B, l.o + 2, none⟩ = some (.int .i64 0)
  n2 : w.cell? ⟨l.B, l.o + 4, none⟩ = some (.int .i64 1)
  n3 : w.cell? ⟨l.B, l.o + 6, none⟩ = some (.int .i64 2)
  n4 : w.cell? ⟨l.B, l.o + 8, none⟩ = some (.int .i64 2)
  s0 : w.cell? ⟨l.B, l.o + 1, none⟩ = some u0 ∧ SlotOK w 0 tx0 (ent u0) l0
  s1 : w.cell? ⟨l.B, l.o + 3, none⟩ = some u1 ∧ SlotOK w 0 tx1 (ent u1) l1
  s2 : w.cell? ⟨l.B, l.o + 5, none⟩ = some u2 ∧ SlotOK w 0 tx2 (ent u2) l2
  s3 : w.cell? ⟨l.B, l.o + 7, none⟩ = some u3 ∧ SlotOK w 0 tx3 (ent u3) l3
  s4 : w.cell? ⟨l.B, l.o + 9, none⟩ = some u4 ∧ SlotOK w 0 tx4 (ent u4) l4
def lvlD {H : Type} (n : Int) (t : List (List UInt8)) : DataW H := .agg [.lit (.int .i64 n), .slice (t.map fun t => .lit (.string t)) []]
theorem lvl_one {w : World} {H : Type} {enc : TypeId × Value → H} {n : Nat} {held : Bool} {cs : List Value} {texts : List (List UInt8)} {k : Int} {q : List MemPlace}
    (h : DataW.trod enc Tryz.prog w 0 (fun _ => true) held n 179 cs = some (lvlD k texts, q)) (hx : texts ≠ []) : ∃ v l, cs = [.int .i64 k, v] ∧ SlotOK w 0 texts (ent v) l := by
  obtain ⟨xs, m, rfl, e, hl, hxs, hf⟩ := DataW.trod_struct Tryz.underlying179 h
  rw [cells179] at hl
  have hxs : xs.length = 2 := hxs
  obtain ⟨c0, c1, rfl⟩ : ∃ c0 c1, cs = [c0, c1] := by
    match cs, hl with
    | [c0, c1], _ => exact ⟨c0, c1, rfl⟩
  obtain ⟨y0, y1, rfl⟩ : ∃ y0 y1, xs = [y0, y1] := by
    match xs, hxs with
    | [y0, y1], _ => exact ⟨y0, y1, rfl⟩
  have f0 : DataW.trod enc Tryz.prog w 0 (fun _ => true) held m 3 [c0] = some y0 := by
    have h : DataW.trod enc Tryz.prog w 0 (fun _ => true) held m 3 (([c0, c1].drop 0).take (Tryz.prog.cellsOf 3)) = some y0 := hf 0 _ rfl
    rw [cells3] at h
    exact h
  have f1 : DataW.trod enc Tryz.prog w 0 (fun _ => true) held m 25 [c1] = some y1 := by
    have h : DataW.trod enc Tryz.prog w 0 (fun _ => true) held m 25 (([c0, c1].drop 1).take (Tryz.prog.cellsOf 25)) = some y1 := hf 1 _ rfl
    rw [cells25] at h
    exact h
  have e1 : lvlD k texts = DataW.agg [y0.1, y1.1] := congrArg Prod.fst e
  have e2 := DataW.agg.inj e1
  obtain ⟨e3, e4⟩ := List.cons.inj e2
  obtain ⟨e4, _⟩ := List.cons.inj e4
  obtain ⟨z, k1, rfl, _⟩ := DataW.trod_int Tryz.underlying3 f0
  obtain ⟨k1, _⟩ := List.cons.inj k1
  have e3 : DataW.lit (.int .i64 k) = DataW.lit (H := H) (.int .i64 z) := e3
  injection e3 with e3
  injection e3 with _ e3
  subst k1; subst e3
  obtain ⟨y1a, y1b⟩ := y1
  have e4 : DataW.slice (texts.map fun t => .lit (.string t)) [] = y1a := e4
  subst e4
  obtain ⟨v, l, k2, k3⟩ := txt_of f1 hx
  obtain ⟨k2, _⟩ := List.cons.inj k2
  subst k2
  exact ⟨_, l, rfl, k3⟩
theorem cells_two {W : World} {a : Addr} {x y : Value} (h : W.cells? 0 a 2 = some [x, y]) : a.spot = none ∧ W.cell? ⟨a.block, a.off, none⟩ = some x ∧ W.cell? ⟨a.block, a.off + 1, none⟩ = some y := by
  unfold World.cells? at h
  rw [if_pos (Nat.zero_le _)] at h
  have g0 : W.cell? (a.add 0) = some x := mapM_some_get h 0 0 rfl
  have g1 : W.cell? (a.add 1) = some y := mapM_some_get h 1 1 rfl
  obtain ⟨b, o, s⟩ := a
  have hs : s = none := by
    cases s with
    | none => rfl
    | some k =>
      unfold World.cell? at g0
      simp only [Addr.add] at g0
      split at g0 <;> simp at g0
  subst hs
  exact ⟨rfl, by simpa [Addr.add] using g0, by simpa [Addr.add] using g1⟩
def lvlsD {H : Type} : List (DataW H) := [lvlD 0 tx0, lvlD 0 tx1, lvlD 1 tx2, lvlD 2 tx3, lvlD 2 tx4]
theorem lvl_of {w : World} {H : Type} {enc : TypeId × Value → H} {n : Nat} {held : Bool} {cs : List Value} {q : List MemPlace}
    (h : DataW.trod enc Tryz.prog w 0 (fun _ => true) held n 177 cs = some (.slice lvlsD [], q)) : ∃ v l l0 l1 l2 l3 l4 u0 u1 u2 u3 u4, cs = [v] ∧ LvlOK w v l l0 l1 l2 l3 l4 u0 u1 u2 u3 u4 := by
  rcases Deep.open_slice Tryz.underlying177 h with ⟨e1, e2⟩ | ⟨a, len, cap, m, n', D, Pl, e1, hb, hl, hm, hmm, e2, hx2⟩
  · cases e2
  · have hmm : m = cap := hmm
    subst hmm
    have e3 := congrArg Prod.fst e2
    have e3 : DataW.slice (lvlsD (H := H)) [] = .slice ((List.range len).map D) ((List.range (m - len)).map fun j => D (len + j)) := e3
    obtain ⟨e4, e5⟩ := DataW.slice.inj e3
    have hlen : len = 5 := by have := congrArg List.length e4; simpa [lvlsD] using this.symm
    have hcap : len = m := by
      have := congrArg List.length e5
      simp at this
      omega
    subst hlen
    subst hcap
    rw [cells179] at hx2
    have e6 : lvlsD (H := H) = [D 0, D 1, D 2, D 3, D 4] := e4
    simp only [lvlsD, List.cons.injEq, and_true] at e6
    obtain ⟨d0, d1, d2, d3, d4⟩ := e6
    obtain ⟨c0, k0, h0⟩ := hx2 0 (by omega)
    obtain ⟨c1, k1, h1⟩ := hx2 1 (by omega)
    obtain ⟨c2, k2, h2⟩ := hx2 2 (by omega)
    obtain ⟨c3, k3, h3⟩ := hx2 3 (by omega)
    obtain ⟨c4, k4, h4⟩ := hx2 4 (by omega)
    rw [← d0] at h0
    rw [← d1] at h1
    rw [← d2] at h2
    rw [← d3] at h3
    rw [← d4] at h4
    obtain ⟨u0, l0, rfl, r0⟩ := lvl_one h0 (by decide)
    obtain ⟨u1, l1, rfl, r1⟩ := lvl_one h1 (by decide)
    obtain ⟨u2, l2, rfl, r2⟩ := lvl_one h2 (by decide)
    obtain ⟨u3, l3, rfl, r3⟩ := lvl_one h3 (by decide)
    obtain ⟨u4, l4, rfl, r4⟩ := lvl_one h4 (by decide)
    obtain ⟨q0, a0, b0⟩ := cells_two k0
    obtain ⟨q1, a1, b1⟩ := cells_two k1
    obtain ⟨q2, a2, b2⟩ := cells_two k2
    obtain ⟨q3, a3, b3⟩ := cells_two k3
    obtain ⟨q4, a4, b4⟩ := cells_two k4
    obtain ⟨B, o, sp⟩ := a
    have hsp : sp = none := by
      cases sp with
      | none => rfl
      | some q => simp [Addr.add] at q0
    subst hsp
    have hadd : ∀ i, (⟨B, o, none⟩ : Addr).add i = ⟨B, o + i, none⟩ := fun i => by
      unfold Addr.add
      split
      · rename_i h0; subst h0; rfl
      · rfl
    rw [hadd] at a0 b0 a1 b1 a2 b2 a3 b3 a4 b4
    exact ⟨_, ⟨B, o, 10⟩, l0, l1, l2, l3, l4, u0, u1, u2, u3, u4, e1, rfl, rfl, a0, a1, a2, a3, a4, ⟨b0, r0⟩, ⟨b1, r1⟩, ⟨b2, r2⟩, ⟨b3, r3⟩, ⟨b4, r4⟩⟩
structure AncV (W : World) : Prop where
  signs : ∃ v l, W.cell? ⟨0, 0, none⟩ = some v ∧ SlotOK W 0 txS (ent v) l
  words : ∃ v l, W.cell? ⟨1, 0, none⟩ = some v ∧ SlotOK W 0 txW (ent v) l
  levels : ∃ v l l0 l1 l2 l3 l4 u0 u1 u2 u3 u4, W.cell? ⟨2, 0, none⟩ = some v ∧ LvlOK W v l l0 l1 l2 l3 l4 u0 u1 u2 u3 u4
theorem slot_below {W W' : World} {key : Int} {texts : List (List UInt8)} {c : MapEntry} {l : Loc} (h : SlotOK W key texts c l) (hb : Below W.heap.size W W') : SlotOK W' key texts c l := by
  have cl : ∀ {b k : Nat} {v : Value}, W.cell? ⟨b, k, none⟩ = some v → W'.cell? ⟨b, k, none⟩ = some v := fun {b k v} hc => by
    rw [hb.cell (by exact Go.Pr.cell_lt hc)]; exact hc
  exact ⟨h.key, h.val, h.room, fun i hi => by obtain ⟨v, hv⟩ := h.cell i hi; exact ⟨v, cl hv⟩, fun i t ht => by obtain ⟨s, h1, h2⟩ := h.text i t ht; exact ⟨s, cl h1, h2⟩⟩
theorem AncV.below {W W' : World} (h : AncV W) (hb : Below W.heap.size W W') : AncV W' := by
  have cl : ∀ {b k : Nat} {v : Value}, W.cell? ⟨b, k, none⟩ = some v → W'.cell? ⟨b, k, none⟩ = some v := fun {b k v} hc => by
    rw [hb.cell (by exact Go.Pr.cell_lt hc)]; exact hc
  obtain ⟨⟨v0, ls, a1, a2⟩, ⟨v1, lw, b1, b2⟩, ⟨v, l, l0, l1, l2, l3, l4, u0, u1, u2, u3, u4, c1, c2⟩⟩ := h
  refine ⟨⟨v0, ls, cl a1, slot_below a2 hb⟩, ⟨v1, lw, cl b1, slot_below b2 hb⟩, v, l, l0, l1, l2, l3, l4, u0, u1, u2, u3, u4, cl c1, ?_⟩
  exact ⟨c2.val, c2.c, cl c2.n0, cl c2.n1, cl c2.n2, cl c2.n3, cl c2.n4, ⟨cl c2.s0.1, slot_below c2.s0.2 hb⟩, ⟨cl c2.s1.1, slot_below c2.s1.2 hb⟩, ⟨cl c2.s2.1, slot_below c2.s2.2 hb⟩, ⟨cl c2.s3.1, slot_below c2.s3.2 hb⟩, ⟨cl c2.s4.1, slot_below c2.s4.2 hb⟩⟩
noncomputable def locW (ls lw l l0 l1 l2 l3 l4 : Loc) : Nat → Option Loc := fun i =>
  if i < 3 then some ⟨i, 0, 1⟩ else if i = 10 then some ls else if i = 11 then some lw else if i = 12 then some l else if i = 13 then some l0 else if i = 14 then some l1 else if i = 15 then some l2 else if i = 16 then some l3 else if i = 17 then some l4 else none
theorem hW_ok {w : World} {v0 v1 v : Value} {ls lw l l0 l1 l2 l3 l4 : Loc} {u0 u1 u2 u3 u4 : Value} (a1 : w.cell? ⟨0, 0, none⟩ = some v0) (a2 : SlotOK w 0 txS (ent v0) ls) (b1 : w.cell? ⟨1, 0, none⟩ = some v1) (b2 : SlotOK w 0 txW (ent v1) lw)
    (c1 : w.cell? ⟨2, 0, none⟩ = some v) (c2 : LvlOK w v l l0 l1 l2 l3 l4 u0 u1 u2 u3 u4) : HR (ctxAt Tryz.prog w) (envOf (locW ls lw l l0 l1 l2 l3 l4)) (fun _ => none) hW w := by
  have e10 : envOf (locW ls lw l l0 l1 l2 l3 l4) (posOf 10) = some ls := by rw [envOf_posOf]; rfl
  have e11 : envOf (locW ls lw l l0 l1 l2 l3 l4) (posOf 11) = some lw := by rw [envOf_posOf]; rfl
  have e12 : envOf (locW ls lw l l0 l1 l2 l3 l4) (posOf 12) = some l := by rw [envOf_posOf]; rfl
  have e13 : envOf (locW ls lw l l0 l1 l2 l3 l4) (posOf 13) = some l0 := by rw [envOf_posOf]; rfl
  have e14 : envOf (locW ls lw l l0 l1 l2 l3 l4) (posOf 14) = some l1 := by rw [envOf_posOf]; rfl
  have e15 : envOf (locW ls lw l l0 l1 l2 l3 l4) (posOf 15) = some l2 := by rw [envOf_posOf]; rfl
  have e16 : envOf (locW ls lw l l0 l1 l2 l3 l4) (posOf 16) = some l3 := by rw [envOf_posOf]; rfl
  have e17 : envOf (locW ls lw l l0 l1 l2 l3 l4) (posOf 17) = some l4 := by rw [envOf_posOf]; rfl
  have sl : ∀ {texts : List (List UInt8)} {u : Value} {x : Loc} {p : Pos} {n : Nat}, SlotOK w 0 texts (ent u) x → envOf (locW ls lw l l0 l1 l2 l3 l4) p = some x → texts.length = n → VR (ctxAt Tryz.prog w) (envOf (locW ls lw l l0 l1 l2 l3 l4)) (.slice p 0 n 1) u := fun h he hn => by
    subst hn
    exact ⟨_, he, (show _ = _ from h.val).trans (by simp)⟩
  have one : ∀ {g : Nat} {u : Value} {x : AV}, w.cell? ⟨g, 0, none⟩ = some u → VR (ctxAt Tryz.prog w) (envOf (locW ls lw l l0 l1 l2 l3 l4)) x u → x.isCell → ∀ k, some (⟨g, 0, 1⟩ : Loc) = some k → ObjR (ctxAt Tryz.prog w) (envOf (locW ls lw l l0 l1 l2 l3 l4)) (fun _ => none) w (posOf g) k (some (.cells none true (.lst 1 [x]))) := fun {g u x} h1 h2 hcx k hk => by
    cases hk
    refine ObjR.ro ⟨rfl, Nat.le_refl _, fun i hi => ⟨_, by obtain rfl : i = 0 := Nat.lt_one_iff.1 hi
                                                           exact h1⟩, fun i y hy => ?_⟩ (Go.Pr.cell_lt h1) (fun e => by cases e)
    have : i < 1 := Row.get_lt (r := .lst 1 [x]) rfl hy
    obtain rfl : i = 0 := by omega
    cases hy
    exact ⟨_, h1, h2⟩
  have txr : ∀ {texts : List (List UInt8)} {u : Value} {x : Loc} {p : Pos} {r : Row}, SlotOK w 0 texts (ent u) x → envOf (locW ls lw l l0 l1 l2 l3 l4) p = some x → r = .lst texts.length (texts.map strOf) → 0 < texts.length → ∀ k, envOf (locW ls lw l l0 l1 l2 l3 l4) p = some k → ObjR (ctxAt Tryz.prog w) (envOf (locW ls lw l l0 l1 l2 l3 l4)) (fun _ => none) w p k (some (.cells none true r)) := fun {texts u x p r} h he hr hp k hk => by
    rw [he] at hk
    cases hk
    rw [hr]
    exact ObjR.ro (slot_row h) (slot_loc h hp) (fun e => by have e : texts.length = 0 := e; omega)
  refine HR.of_objs rfl rfl (fun i hi => ?_) fun p hp' => ?_
  · have h1 : ¬ i < 3 := by omega
    simp [locW, h1, show ¬ i = 10 by omega, show ¬ i = 11 by omega, show ¬ i = 12 by omega, show ¬ i = 13 by omega, show ¬ i = 14 by omega, show ¬ i = 15 by omega, show ¬ i = 16 by omega, show ¬ i = 17 by omega]
  · simp only [List.mem_cons, List.mem_nil_iff, or_false] at hp'
    rcases hp' with rfl | rfl | rfl | rfl | rfl | rfl | rfl | rfl | rfl | rfl | rfl
    · exact ⟨fun q ro r e => (by cases e), fun k hk => one a1 (sl a2 e10 rfl) (by decide) k hk⟩
    · exact ⟨fun q ro r e => (by cases e), fun k hk => one b1 (sl b2 e11 rfl) (by decide) k hk⟩
    · exact ⟨fun q ro r e => (by cases e), fun k hk => one (x := .slice (posOf 12) 0 5 2) c1 ⟨l, e12, by rw [c2.val, c2.c]; rfl⟩ (by decide) k hk⟩
    · exact ⟨fun q ro r e => (by cases e), fun k hk => txr a2 e10 rS_eq (by decide) k (by rw [envOf_posOf]; exact hk)⟩
    · exact ⟨fun q ro r e => (by cases e), fun k hk => txr b2 e11 rW_eq (by decide) k (by rw [envOf_posOf]; exact hk)⟩
    · refine ⟨fun q ro r e => (by cases e), fun k hk => ?_⟩
      have hk : some l = some k := hk
      cases hk
      have hall : ∀ i, i < 10 → ∀ x, rL.get i = some x → ∃ y, w.cell? ⟨l.B, l.o + i, none⟩ = some y ∧ VR (ctxAt Tryz.prog w) (envOf (locW ls lw l l0 l1 l2 l3 l4)) x y := by
        intro i hi x hx
        match i, hi with
        | 0, _ => cases hx; exact ⟨_, c2.n0, rfl⟩
        | 1, _ => cases hx; exact ⟨_, c2.s0.1, sl c2.s0.2 e13 rfl⟩
        | 2, _ => cases hx; exact ⟨_, c2.n1, rfl⟩
        | 3, _ => cases hx; exact ⟨_, c2.s1.1, sl c2.s1.2 e14 rfl⟩
        | 4, _ => cases hx; exact ⟨_, c2.n2, rfl⟩
        | 5, _ => cases hx; exact ⟨_, c2.s2.1, sl c2.s2.2 e15 rfl⟩
        | 6, _ => cases hx; exact ⟨_, c2.n3, rfl⟩
        | 7, _ => cases hx; exact ⟨_, c2.s3.1, sl c2.s3.2 e16 rfl⟩
        | 8, _ => cases hx; exact ⟨_, c2.n4, rfl⟩
        | 9, _ => cases hx; exact ⟨_, c2.s4.1, sl c2.s4.2 e17 rfl⟩
        | k + 10, hi => omega
      have hcell : ∀ i, i < 10 → ∃ y, w.cell? ⟨l.B, l.o + i, none⟩ = some y := by
        intro i hi
        match i, hi with
        | 0, _ => exact ⟨_, c2.n0⟩
        | 1, _ => exact ⟨_, c2.s0.1⟩
        | 2, _ => exact ⟨_, c2.n1⟩
        | 3, _ => exact ⟨_, c2.s1.1⟩
        | 4, _ => exact ⟨_, c2.n2⟩
        | 5, _ => exact ⟨_, c2.s2.1⟩
        | 6, _ => exact ⟨_, c2.n3⟩
        | 7, _ => exact ⟨_, c2.s3.1⟩
        | 8, _ => exact ⟨_, c2.n4⟩
        | 9, _ => exact ⟨_, c2.s4.1⟩
        | k + 10, hi => omega
      refine ObjR.ro ⟨rfl, by rw [c2.c]; exact Nat.le_refl _, fun i hi => hcell i (by rw [← c2.c]; exact hi), fun i x hx => hall i (Row.get_lt (r := rL) rfl hx) x hx⟩ (Go.Pr.cell_lt c2.n0) (fun e => by cases e)
    · exact ⟨fun q ro r e => (by cases e), fun k hk => txr c2.s0.2 e13 rL0_eq (by decide) k (by rw [envOf_posOf]; exact hk)⟩
    · exact ⟨fun q ro r e => (by cases e), fun k hk => txr c2.s1.2 e14 rL1_eq (by decide) k (by rw [envOf_posOf]; exact hk)⟩
    · exact ⟨fun q ro r e => (by cases e), fun k hk => txr c2.s2.2 e15 rL2_eq (by decide) k (by rw [envOf_posOf]; exact hk)⟩
    · exact ⟨fun q ro r e => (by cases e), fun k hk => txr c2.s3.2 e16 rL3_eq (by decide) k (by rw [envOf_posOf]; exact hk)⟩
    · exact ⟨fun q ro r e => (by cases e), fun k hk => txr c2.s4.2 e17 rL4_eq (by decide) k (by rw [envOf_posOf]; exact hk)⟩
theorem works_ok {W0 : World} (hT : TabV W0) (hA : AncV W0) (w : World) (hB : Below W0.heap.size W0 w) : Calls Tryz.prog 4 #[] w fun e w' => e = .returned (.bool true) ∧ Below w.heap.size w w' := by
  obtain ⟨⟨v0, ls, a1, a2⟩, ⟨v1, lw, b1, b2⟩, ⟨v, l, l0, l1, l2, l3, l4, u0, u1, u2, u3, u4, c1, c2⟩⟩ := hA.below hB
  exact run_true (K := ctxAt Tryz.prog w) (callW rfl rfl (hT.below hB)) enters4 (by decide) rfl rfl (globs_of fun g hg => ⟨1, by simp [locW, hg]⟩) (hW_ok a1 a2 b1 b2 c1 c2) VRs.nil runW
theorem gS : Tryz.prog.globalNamed "aumbry/token.signs" = some 0 := by kernel_rfl
theorem gW : Tryz.prog.globalNamed "aumbry/token.words" = some 1 := by kernel_rfl
theorem gL : Tryz.prog.globalNamed "aumbry/syntax.levels" = some 2 := by kernel_rfl
theorem tS : (Tryz.prog.globals[0]?).map (·.type) = some 25 := by kernel_rfl
theorem tW : (Tryz.prog.globals[1]?).map (·.type) = some 25 := by kernel_rfl
theorem tL : (Tryz.prog.globals[2]?).map (·.type) = some 177 := by kernel_rfl
theorem gTab : Tryz.prog.globalNamed "internal/strconv.uint64pow10" = some 4 := by kernel_rfl
theorem one_cell {W : World} {g : Nat} {nm : String} {cs : Array Value} {v : Value} (hg : Tryz.prog.globalNamed nm = some g) (hv : W.var? Tryz.prog nm = some cs) (e : cs.toList = [v]) : W.cell? ⟨g, 0, none⟩ = some v := by
  have := World.var?_cell hg hv 0
  obtain ⟨l⟩ := cs
  simp only at e
  subst e
  simpa using this
theorem anc_of {W : World} (h : laidMetH Tryz.prog Rows.printProgramsRow.laid W) : AncV W := by
  rw [MakeChecks.laidMetH_plain _ _ _ (by kernel_rfl)] at h
  refine ⟨?_, ?_, ?_⟩
  · obtain ⟨ps, ⟨g0, t0, cs0, f0, p0, q0, hg0, ht0, hv0, hd0, _, e0⟩, _, hrows⟩ := h.tail.tail.tail.tail.tail.tail
    obtain rfl := Option.some.inj (gS.symm.trans hg0)
    obtain rfl := Option.some.inj (tS.symm.trans ht0)
    obtain ⟨v, l, e, k⟩ := txt_of (texts := txS) hd0 (by decide)
    exact ⟨v, l, one_cell gS hv0 e, k⟩
  · obtain ⟨ps, ⟨g0, t0, cs0, f0, p0, q0, hg0, ht0, hv0, hd0, _, e0⟩, _, hrows⟩ := h.tail.tail.tail.tail.tail
    obtain rfl := Option.some.inj (gW.symm.trans hg0)
    obtain rfl := Option.some.inj (tW.symm.trans ht0)
    obtain ⟨v, l, e, k⟩ := txt_of (texts := txW) hd0 (by decide)
    exact ⟨v, l, one_cell gW hv0 e, k⟩
  · obtain ⟨ps, ⟨g0, t0, cs0, f0, p0, q0, hg0, ht0, hv0, hd0, _, e0⟩, _, hrows⟩ := h.tail.tail.tail.tail
    obtain rfl := Option.some.inj (gL.symm.trans hg0)
    obtain rfl := Option.some.inj (tL.symm.trans ht0)
    obtain ⟨v, l, l0, l1, l2, l3, l4, u0, u1, u2, u3, u4, e, k⟩ := lvl_of hd0
    exact ⟨v, l, l0, l1, l2, l3, l4, u0, u1, u2, u3, u4, one_cell gL hv0 e, k⟩
end Go.Eng
