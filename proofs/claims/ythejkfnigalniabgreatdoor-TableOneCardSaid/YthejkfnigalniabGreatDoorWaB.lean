/- A part of a proof about the table over the shadow space: what a function of the program answers, walked by hand. Each theorem says its own conditions. -/
import Derived.Test.YthejkfnigalniabGreatDoorWaA
import Derived.RangeFuncWrites
import Derived.ArgAppend
import Derived.ChangeKeysEq
import Derived.Test.YthejkfnigalniabGreatDoorPla
import Derived.RegionCalls
import Derived.Lib.SlKeysI
import Derived.BigQuiet
import Derived.Handy
import Derived.Maps.RangeWalk
import Derived.RangeFuncGives
import Derived.Sort.MapsRangeIn
import Derived.WalkKit
import Derived.OwnWalkIn
import Derived.TacticsInMore
import Derived.RegionIn
import Derived.LoopNIn
import Derived.LoopIn
import Derived.Shelf.SlIterI.Sorted
import Derived.Shelf.SortM.Plain
import Derived.Shelf.SortM.SortNone
import Derived.Ground.GgzProg
import Derived.Ground.SlgmProg
import Derived.Shelf.SlGeneric
import Derived.Test.YthejkfnigalniabGreatDoorProg
import Derived.Deep.MidRow
set_option linter.unusedVariables false
set_option linter.unusedSimpArgs false
set_option maxRecDepth 100000
set_option maxHeartbeats 1600000
namespace Go.Tb
open Go Go.RowKit Go.Proofs Go.Maps Go.Sp
attribute [local go_sem] Oper.semAt_some
def fb (x : Nat) : Fin 256 := ⟨x % 256, Nat.mod_lt _ (by decide)⟩
def revF (bs : Bs) (k : Nat) : List (Nat × Fin 256) := (List.range k).map fun j => (bs.length - 1 - j, fb (bs.getD (bs.length - 1 - j) 0))
def valF (xs : List (Nat × Fin 256)) : Nat := xs.foldl (fun a p => a * 256 + p.2.val) 0
theorem valF_app (xs : List (Nat × Fin 256)) (p : Nat × Fin 256) : valF (xs ++ [p]) = valF xs * 256 + p.2.val := by simp [valF]
theorem foldF_lt : ∀ (xs : List (Nat × Fin 256)) (a : Nat), xs.foldl (fun a p => a * 256 + p.2.val) a < (a + 1) * 256 ^ xs.length
  | [], a => by simp
  | p :: xs, a => by
    have h := foldF_lt xs (a * 256 + p.2.val)
    refine Nat.lt_of_lt_of_le h ?_
    rw [List.length_cons, Nat.pow_succ, Nat.mul_comm (256 ^ xs.length) 256, ← Nat.mul_assoc]
    exact Nat.mul_le_mul_right _ (by have := p.2.isLt; omega)
theorem valF_lt (xs : List (Nat × Fin 256)) : valF xs < 256 ^ xs.length := by have := foldF_lt xs 0; simpa [valF] using this
theorem revF_succ (bs : Bs) (k : Nat) : revF bs (k + 1) = revF bs k ++ [(bs.length - 1 - k, fb (bs.getD (bs.length - 1 - k) 0))] := by
  unfold revF; rw [List.range_succ, List.map_append]; rfl
theorem revF_len (bs : Bs) (k : Nat) : (revF bs k).length = k := by simp [revF]
theorem num_cons (x : Nat) (l : Bs) : num (x :: l) = x + 256 * num l := rfl
theorem valF_rev {bs : Bs} (hb : ∀ x ∈ bs, x < 256) : ∀ k, k ≤ bs.length → valF (revF bs k) = num (bs.drop (bs.length - k))
  | 0, _ => by simp [revF, valF, num]
  | k + 1, h => by
    rw [revF_succ, valF_app, valF_rev hb k (by omega)]
    have hlt : bs.length - 1 - k < bs.length := by omega
    have e1 : bs.length - (k + 1) = bs.length - 1 - k := by omega
    have e2 : bs.length - 1 - k + 1 = bs.length - k := by omega
    rw [e1, List.drop_eq_getElem_cons hlt, e2, num_cons]
    have hx := hb _ (List.getElem_mem hlt)
    have e3 : (fb (bs.getD (bs.length - 1 - k) 0)).val = bs[bs.length - 1 - k] := by
      show bs.getD (bs.length - 1 - k) 0 % 256 = _
      rw [List.getD_eq_getElem?_getD, List.getElem?_eq_getElem hlt]
      exact Nat.mod_eq_of_lt hx
    show num _ * 256 + (fb (bs.getD (bs.length - 1 - k) 0)).val = _
    rw [e3]; omega
theorem valF_all {bs : Bs} (hb : ∀ x ∈ bs, x < 256) : valF (revF bs bs.length) = num bs := by rw [valF_rev hb _ (Nat.le_refl _), Nat.sub_self, List.drop_zero]
def encF (x : Nat × Fin 256) : Array Value := #[.int .i64 (x.1 : Int), .int .u8 (x.2.val : Int)]
def Keep2 (mb pb : Nat) (A B : World) : Prop := B.heap[mb]? = A.heap[mb]? ∧ B.heap[pb]? = A.heap[pb]?
theorem Keep2.trans {mb pb : Nat} {A B C : World} (h : Keep2 mb pb A B) (k : Keep2 mb pb B C) : Keep2 mb pb A C := ⟨k.1.trans h.1, k.2.trans h.2⟩
theorem enters123 : ∀ args w, (callFunc 123 args).run Tryz.prog w = .ok (.enter 123 args) w := enters_of' Tryz.func123 (by kernel_rfl) (by kernel_rfl)
theorem back1_stops {w0 : World} {g o c pb n : Nat} {bs : Bs} (hn : 1 ≤ n) (h8 : bs.length ≤ 8) (hg : g < w0.heap.size) (hx : ∀ x ∈ bs, x < 256) (hc : ∀ (j x : Nat), bs[j]? = some x → w0.cell? ⟨g, o + j, none⟩ = some (.int .u8 (x : Int))) (hp : Boxed w0 pb 33 (.slice (some ⟨g, o, none⟩) bs.length c)) :
    SeqStopsK Fence.wide n Tryz.prog 123 #[.pointer (some ⟨pb, 0, none⟩)] encF (Keep2 g pb) (fun xs => xs = revF bs bs.length) (fun _ => True) 8 w0 := by
  intro l J Jx W hW hJ hJx hY h0
  have hpl := hp.lt
  have hp1 : Boxed W pb 33 (.slice (some ⟨g, o, none⟩) bs.length c) := (hW.block pb hpl).trans hp
  have hc1 : ∀ (j x : Nat), bs[j]? = some x → W.cell? ⟨g, o + j, none⟩ = some (.int .u8 (x : Int)) := fun j x hj => (cell_of_heap (a := ⟨g, o + j, none⟩) (hW.block g hg)).1.trans (hc j x hj)
  clear hp hc hW
  obtain ⟨len, hlen⟩ : ∃ len, len = bs.length := ⟨_, rfl⟩
  rw [← hlen] at hp1 h8
  have HLEN := Lib.hid hlen
  have HC := Lib.hid hc1
  have HX := Lib.hid hx
  have pc0 := hp1.cell
  have pl0 := hp1.lt
  clear hc1 hx hlen
  refine callsIn_of_wp Tryz.func123 rfl trivial ?_ rfl
  simp only [Tryz.ntmps123, List.size_toArray, List.length_cons, List.length_nil, Nat.reduceAdd, Nat.reduceSub, Array.replicate_succ, Array.replicate_zero, List.push_toArray, List.append_toArray, List.nil_append, List.cons_append]
  gi_wp2
  gi_loopw [3] (fun i wr => ∃ k : Nat, k ≤ len ∧ i = .int .i64 ((len : Int) - 1 - k) ∧ J (revF bs k) wr ∧ Keep2 g pb W wr) (fun i _ => (Go.RowKit.intOf i + 1).toNat)
  case atStart => exact ⟨0, Nat.zero_le _, by simp, h0, rfl, rfl⟩
  case round =>
    obtain ⟨k, hk, rfl, hJk, hK1, hK2⟩ := hrel
    by_cases e : k = len
    · subst e
      have i1 : ¬ (0 : Int) ≤ (k : Int) - 1 - (k : Int) := by omega
      have i2 : decide ((0 : Int) ≤ (k : Int) - 1 - (k : Int)) = false := by simpa using i1
      have HJ : Hid (J (revF bs bs.length) wr) := Lib.hid (by rw [← HLEN.out]; exact hJk)
      clear hJk
      gi_wp2_with fail
      go_end0
      exact ⟨⟨_, rfl⟩, .inl HJ.out⟩
    · have hk1 : k < len := by omega
      obtain ⟨j, hj⟩ : ∃ j, j = len - 1 - k := ⟨_, rfl⟩
      have hjl : j < len := by omega
      have hji : (len : Int) - 1 - (k : Int) = (j : Int) := by omega
      obtain ⟨x, hjb⟩ : ∃ x, bs[j]? = some x := ⟨_, List.getElem?_eq_getElem (by rw [← HLEN.out]; exact hjl)⟩
      have hxb : x < 256 := HX.out _ (List.mem_of_getElem? hjb)
      have hst : revF bs (k + 1) = revF bs k ++ [(j, fb x)] := by
        rw [revF_succ, ← HLEN.out, ← hj, List.getD_eq_getElem?_getD, hjb]; rfl
      obtain ⟨fn, tmps, assign, body, hy, hR⟩ := hY (revF bs k) (j, fb x) wr hJk (by rw [revF_len]; omega)
      have hf : ((fb x).val : Int) = (x : Int) := by show ((x % 256 : Nat) : Int) = _; rw [Nat.mod_eq_of_lt hxb]
      have hy : (Instr.yield l #[.int .i64 (j : Int), .int .u8 (x : Int)]).run Tryz.prog wr = .ok (.round l fn tmps assign body) wr := by
        have e : encF (j, fb x) = #[.int .i64 (j : Int), .int .u8 (x : Int)] := by unfold encF; rw [hf]
        rw [e] at hy; exact hy
      have hp2 : Boxed wr pb 33 (.slice (some ⟨g, o, none⟩) len c) := hK2.trans hp1
      have cx : wr.cell? ⟨g, o + j, none⟩ = some (.int .u8 (x : Int)) := (cell_of_heap (a := ⟨g, o + j, none⟩) hK1).1.trans (HC.out j _ hjb)
      have pc := hp2.cell
      have pl := hp2.lt
      have gl := cell_lt' cx
      have i1 : (0 : Int) ≤ (j : Int) := by omega
      have i2 : (j : Int) < (len : Int) := by omega
      have hstep : (j : Int) - 1 = (len : Int) - 1 - ((k + 1 : Nat) : Int) := by omega
      have hmeas : ((j : Int) - 1 + 1).toNat < ((j : Int) + 1).toNat := by omega
      rw [hji]
      have HST := Lib.hid hst
      have HR := Lib.hid hR
      have HSTEP := Lib.hid hstep
      have HM := Lib.hid hmeas
      have HK := Lib.hid (And.intro hK1 hK2)
      clear hst hR hji hj hp2 hjb hf hY hJk hJ hstep hmeas hK1 hK2 hp1 pc0
      gi_wp2
      refine HR.out.mono ?_
      rintro e W3 (⟨rfl, hJ3, hk3⟩ | ⟨rfl, hJx3⟩)
      · have hst' : Hid (J (revF bs (k + 1)) W3) := Lib.hid (by rw [HST.out]; exact hJ3)
        have hKK := Lib.hid (Keep2.trans HK.out hk3)
        clear hJ3 hk3
        gi_wp2
        go_roundw
        case rel => exact ⟨k + 1, by omega, by rw [HSTEP.out], hst'.out, hKK.out⟩
        case measure => exact HM.out
      · gi_wp2
        refine bodyPost_ret (results_none rfl _ _ _) rfl ?_
        exact ⟨⟨_, rfl⟩, .inr ⟨_, trivial, hJx3⟩⟩
end Go.Tb
namespace Go.Tb
open Go Go.RowKit Go.Proofs Go.Maps Go.Sp
attribute [local go_sem] Oper.semAt_some
theorem backward_ok (v : Value) (h1 : v.cells = #[v]) (w : World) : Calls Tryz.prog 104 #[v] w fun e w' => e = .returned (.func (.func 123) #[] #[.pointer (some ⟨w.heap.size, 0, none⟩)]) ∧ w' = w.alloc (.cells #[v] 33) := by
  unfold Value.cells at h1
  go_enter Tryz.func104, Tryz.ntmps104
  go_wp2
  go_ret
  exact ⟨rfl, rfl⟩
theorem get_x {w : World} {v : Value} {bs : Bs} (h : RV w v bs) {at' m : Nat} (ha : at' < bs.length) (hn : at' + m ≤ bs.length) (hL : bs.length ≤ 1048576) (hm : m = 2 ∨ m = 4) :
    Calls Tryz.prog 76 #[v, .int .i64 (at' : Int), .int .i64 (m : Int)] w fun e w' => e = .returned (.tuple #[.int .u64 (num ((bs.drop at').take m) : Nat), .int .i64 0]) ∧ Below w.heap.size w w' := by
  have hb1 : Below w.heap.size w (w.alloc (.cells #[.int .u64 0] 101)) := Below.alloc (Below.refl _ _) (Nat.le_refl _) _
  have hbx : Boxed (w.alloc (.cells #[.int .u64 0] 101)) w.heap.size 101 (.int .u64 0) := Boxed.new w 101 _
  have C := cut_x (h.keep hb1) ha hn hL
  have hl : ((bs.drop at').take m).length = m := by simp; omega
  generalize (bs.drop at').take m = fs at C hl ⊢
  have HL := Lib.hid hl
  have HC := Lib.hid C
  have HM := Lib.hid hm
  have HB1 := Lib.hid hb1
  have HBX := Lib.hid hbx
  clear h ha hn hL hm C hl hb1 hbx
  refine (callsIn_wide (n := 5)).1 ?_
  refine callsIn_of_wp_marks Tryz.func76 rfl trivial ?_ rfl
  simp only [Tryz.ntmps76, List.size_toArray, List.length_cons, List.length_nil, Nat.reduceAdd, Nat.reduceSub, Array.replicate_succ, Array.replicate_zero, List.push_toArray, List.append_toArray, List.nil_append, List.cons_append]
  gi_wp2_with fail
  refine ⟨trivial, (callsIn_wide.2 HC.out).mono ?_⟩
  rintro e w1 ⟨⟨v1, rfl, hR1⟩, hb2⟩
  obtain ⟨a1, c1, rfl, hx1, hr1⟩ := hR1
  rw [HL.out] at hr1
  have HBX1 : Hid (Boxed w1 w.heap.size 101 (.int .u64 0)) := Lib.hid ((hb2.block _ (by simp)).trans HBX.out)
  have HR1 := Lib.hid hr1
  have HB2 := Lib.hid hb2
  have HX1 := Lib.hid hx1.1
  have hml : fs.length = m := HL.out
  rw [hml]
  clear hr1 hb2 hx1 hml
  gi_wp2_with fail
  refine ⟨trivial, (callsIn_wide.2 (says_ok HM.out _)).mono ?_⟩
  rintro e w2 ⟨rfl, rfl⟩
  gi_wp2_with fail
  refine ⟨trivial, (callsIn_wide.2 (backward_ok (.slice a1 m c1) rfl _)).mono ?_⟩
  rintro e w3 ⟨rfl, rfl⟩
  gi_wp2_with fail
  have hms : 0 < m ∧ m ≤ 8 := by rcases HM.out with h | h <;> omega
  obtain ⟨g, o, r, cs, rfl, hgb, hgh, hgc⟩ := HR1.out (by have := HL.out; omega)
  obtain ⟨W0, hW0⟩ : ∃ W0, w2.alloc (.cells #[.slice (some ⟨g, o, none⟩) m c1] 33) = W0 := ⟨_, rfl⟩
  have hsz : W0.heap.size = w2.heap.size + 1 := by rw [← hW0]; simp
  have hbp : Boxed W0 w2.heap.size 33 (.slice (some ⟨g, o, none⟩) m c1) := by rw [← hW0]; exact Boxed.new w2 33 _
  have hb6 : Boxed W0 w.heap.size 101 (.int .u64 0) := by rw [← hW0]; exact HBX1.out.alloc _
  have hw1 : w.heap.size < w2.heap.size := HBX1.out.lt
  have hbel1 : Below w2.heap.size w2 W0 := by rw [← hW0]; exact Below.alloc (Below.refl _ _) (Nat.le_refl _) _
  have hbel : Below w.heap.size w W0 := (HB1.out.trans (HB2.out.mono (by simp))).trans (hbel1.mono (by omega))
  have hg0 : g < W0.heap.size := by have := (Array.getElem?_eq_some_iff.1 hgh).1; omega
  have hgc0 : ∀ (j x : Nat), fs[j]? = some x → W0.cell? ⟨g, o + j, none⟩ = some (.int .u8 (x : Int)) := fun j x hj => cells_below hbel1 _ _ (hgc j x hj)
  have hgne : g ≠ w2.heap.size := by have := (Array.getElem?_eq_some_iff.1 hgh).1; omega
  have hgb6 : g ≠ w.heap.size := by simp at hgb; omega
  have hb6ne : w.heap.size ≠ w2.heap.size := by omega
  rw [hW0]
  clear hW0 HR1 HBX1 HB2 hgh hgc hgb hbel1
  obtain ⟨b6, hb6e⟩ : ∃ b6, b6 = w.heap.size := ⟨_, rfl⟩
  obtain ⟨pb, hpe⟩ : ∃ pb, pb = w2.heap.size := ⟨_, rfl⟩
  rw [← hpe] at hsz hbp hgne hb6ne ⊢
  rw [← hb6e] at hb6 hgb6 hb6ne hw1 ⊢
  have HSZ := Lib.hid (And.intro hsz (And.intro hpe hw1))
  have HBP := Lib.hid hbp
  have HB6 := Lib.hid hb6
  have HBEL := Lib.hid hbel
  have HGC := Lib.hid (And.intro hg0 hgc0)
  have HNE := Lib.hid (And.intro hgne (And.intro hgb6 hb6ne))
  have HE6 := Lib.hid hb6e
  have hval := valF_all HX1.out
  have HVAL := Lib.hid hval
  have hb0 : b6 ≤ W0.heap.size := by omega
  clear hsz hbp hb6 hbel hg0 hgc0 hgne hgb6 hb6ne hb6e hval hpe hw1
  refine wpIn_rangeFunc_ownG rfl (by decide) (gf := 123) (lb := #[.pointer (some ⟨pb, 0, none⟩)]) rfl trivial enters123 (encs := encF) (Kp := Keep2 g pb)
    (back1_stops (bs := fs) (by decide) (by rw [HL.out]; exact hms.2) HGC.out.1 HX1.out HGC.out.2 (by rw [HL.out]; exact HBP.out)) Keep2.trans (fun W l o o' hl ho hc hw => by
      have := HSZ.out
      have := HGC.out.1
      exact ⟨World.putObj_heap_other (by omega), World.putObj_heap_other (by omega)⟩) (Below.refl _ _) (fun _ => rfl)
    (fun (xs : List (Nat × Fin 256)) W => Boxed W b6 101 (.int .u64 (valF xs : Nat)) ∧ Below b6 w W)
    (fun _ _ _ => False)
    (fun s A B row hs hg hr => ⟨hs.1.kept hg (fun e => by obtain ⟨h1, o, h2, h3⟩ := hr _ e.symm; rw [show A.heap[b6]? = _ from hs.1] at h2; cases h2; cases h3), hs.2.grown hg (by have := hs.2.size; have := HE6.out; omega) (fun k e => by have := (hr k e).1; omega)⟩)
    (fun _ _ _ _ _ hs _ _ => hs)
    ⟨HB6.out, by have := HE6.out; rw [this]; exact HBEL.out⟩
    (fun x => { tmps := #[v, .int .i64 (at' : Int), .int .i64 (m : Int), undef, undef, undef, .pointer (some ⟨b6, 0, none⟩), .int .i64 0, .slice (some ⟨g, o, none⟩) m c1, .bool true, undef, .int .u8 (x.2.val : Int), .tuple #[.slice (some ⟨g, o, none⟩) m c1, .bool true], v, .int .i64 (at' : Int), .int .i64 (m : Int), .tuple #[.slice (some ⟨g, o, none⟩) m c1, .bool true], .slice (some ⟨g, o, none⟩) m c1, .bool true, .bool true, .bool false, .bool false, .int .i64 (m : Int), .bool true, .bool false, .bool false, .slice (some ⟨g, o, none⟩) m c1, .func (.func 123) #[] #[.pointer (some ⟨pb, 0, none⟩)], .int .i64 (x.1 : Int), .int .u8 (x.2.val : Int), undef, undef, undef, undef, undef, undef], defers := [] }) ?assign ?body ?done ?stop
  case assign =>
    intro l x W K hK
    simp only [encF]
    gi_wp2_with (rw [Oper.semAt_eq _ _ _ (fun c h => by cases h)]; go_simp; try go_bits)
    exact hK
  case body =>
    rintro l pre x W ⟨hB6, hBe⟩ hlt
    have hvl := valF_lt pre
    have hvl2 : valF pre < 72057594037927936 := Nat.lt_of_lt_of_le hvl (Nat.le_trans (Nat.pow_le_pow_right (by decide) (show pre.length ≤ 7 by omega)) (by decide))
    have hy := x.2.isLt
    have hva := valF_app pre x
    obtain ⟨y, hye⟩ : ∃ y, y = x.2.val := ⟨_, rfl⟩
    rw [← hye] at hy hva ⊢
    have w1 : IntKind.u64.wrap ((valF pre : Int) * 256) = (valF pre : Int) * 256 := by simp [IntKind.wrap, IntKind.signed, IntKind.bits]; omega
    have w2' : IntKind.u64.wrap (y : Int) = (y : Int) := by simp [IntKind.wrap, IntKind.signed, IntKind.bits]; omega
    have w3 : IntKind.u64.wrap ((valF pre : Int) * 256 + (y : Int)) = (valF pre : Int) * 256 + (y : Int) := by simp [IntKind.wrap, IntKind.signed, IntKind.bits]; omega
    have w4 : ((valF (pre ++ [x]) : Nat) : Int) = (valF pre : Int) * 256 + (y : Int) := by rw [hva]; simp
    have HB6' := Lib.hid hB6
    have HBe := Lib.hid hBe
    have HV := Lib.hid w4
    have c6 := hB6.cell
    have z6 := hB6.frozen
    have l6 := hB6.lt
    generalize valF pre = n at *
    clear hvl hvl2 hy hva hye hB6 hBe w4
    gi_wp2
    have hset : (W.setCell ⟨b6, 0, none⟩ (.int .u64 ((n : Int) * 256 + (y : Int)))).heap[b6]? = _ := HB6'.out.set _
    have ho := fun k (hk : k ≠ b6) => heap_setCell_other W (⟨b6, 0, none⟩ : Addr) k (.int .u64 ((n : Int) * 256 + (y : Int))) hk
    refine ⟨(KeepsOthers.setCell _ _ _).from _, ⟨ho _ HNE.out.2.1, ho _ (Ne.symm HNE.out.2.2)⟩, ?_, HBe.out.setCell (by show b6 ≤ b6; exact Nat.le_refl _) _⟩
    rw [HV.out]
    exact hset
  case done =>
    rintro D ys W hD rfl ⟨hB6, hBe⟩ hK
    obtain ⟨n, hnn⟩ : ∃ n, n = num fs := ⟨_, rfl⟩
    rw [HVAL.out, ← hnn] at hB6
    have HN := Lib.hid hnn
    have HBe := Lib.hid hBe
    have HB6' := Lib.hid hB6
    have c6 := hB6.cell
    have z6 := hB6.frozen
    have l6 := hB6.lt
    have HK := Lib.hid hK
    clear hBe hB6 hK hnn
    gi_wp2_with fail
    have hne : b6 ≠ D := by have := HSZ.out; omega
    have hb6 := HB6'.out.set (.int .u64 (n : Int))
    have hK' : (W.setCell ⟨b6, 0, none⟩ (.int .u64 (n : Int))).heap[D]? = some (.deferred (some [])) := (heap_setCell_other W (⟨b6, 0, none⟩ : Addr) D _ (Ne.symm hne)).trans HK.out
    have HB7 := HBe.out.setCell (p := (⟨b6, 0, none⟩ : Addr)) (show b6 ≤ b6 from Nat.le_refl _) (.int .u64 (n : Int))
    generalize W.setCell ⟨b6, 0, none⟩ (.int .u64 (n : Int)) = W9 at *
    refine ⟨by simp, .inl ⟨_, _, rfl, run_takeDeferred hK', ?_⟩⟩
    have hb7 : Boxed (W9.putObj D (.deferred none)) b6 101 (.int .u64 (n : Int)) := (World.putObj_heap_other hne).trans hb6
    have HBF : Below w.heap.size w (W9.putObj D (.deferred none)) := by
      have hs := HB7.size
      refine Below.grown (row := some D) ?_ (grownBy_putObj' W9 D _) (by omega) (fun k e => by cases e; have := HSZ.out; have := HE6.out; omega)
      rw [← HE6.out]; exact HB7
    generalize W9.putObj D (.deferred none) = W8 at hb7 HBF ⊢
    have c8 := hb7.cell
    refine ⟨.tuple #[.int .u64 (n : Int), .int .i64 0], by simp [results, Tryz.results76, go_sem, c8], ⟨?_, HBF⟩⟩
    rw [← HN.out]
  case stop =>
    rintro D c pre W _ _ h _
    exact h.elim
end Go.Tb
namespace Go.Tb
open Go Go.RowKit Go.Proofs Go.Maps Go.Sp
theorem run_append_zero {P : Program} (w : World) (t ty e : TypeId) (i : TypeInfo) (ht : P.underlying t = some (.slice e)) (hi : P.info? e = some i) (b : Addr) (n cap c : Nat) (y : Option Addr) (hnc : n ≤ cap) :
    (Builtin.append_ #[t, t] ty #[.slice (some b) n cap, .slice y 0 c]).run P w = .ok (.slice (some b) n cap) w := by
  cases y <;> simp [Builtin.append_, run_underlying ht, sizeOf, typeInfo, hi, Builtin.lenOf, Builtin.firstCells, hnc, storeCells, loadCells, loadCellsFrom]
theorem wpList_append_zero {P : Program} (w : World) {ops : Array Oper} {rest : List Oper} {o : Oper} {a : Act} {Q : Exit → Act → World → Prop}
    (hg : o.guard = none) (s x : Operand) (t : TypeId) (hop : o.op = Op.call { callee := Callee.builtin Builtin.append, args := #[s, x], argTypes := #[t, t] })
    (e : TypeId) (i : TypeInfo) (h1 : P.underlying t = some (.slice e)) (h2 : P.info? e = some i)
    (b : Addr) (n cap : Nat) (hs : a.eval s = .slice (some b) n cap) (hnc : n ≤ cap) (y : Option Addr) (c : Nat) (hx : a.eval x = .slice y 0 c)
    (hK : wpList P ops Q rest (a.put o.dst (.slice (some b) n cap)) w) :
    wpList P ops Q (o :: rest) a w := by
  refine wpList_plain hg fun K hK' => ?_
  have hrun := run_append_zero (P := P) w t o.type e i h1 h2 b n cap c y hnc
  unfold Oper.wp
  simp [execOp, hop, resolve, invoke, builtin, hs, hx, hrun, Result.andThen]
  exact hK' _ _ hK
theorem sz175 : (Tryz.prog.info? 120).map (·.size) = some 4 := by kernel_rfl
theorem front_eq {k m : Nat} (hm : m ≤ 248) : front k m = [k, 0, m, 0] := by
  unfold front
  rw [Nat.mod_eq_of_lt (by omega), Nat.div_eq_of_lt (by omega)]
theorem front_x (w : World) (k m : Nat) (hm : m ≤ 248) : Calls Tryz.prog 68 #[.int .u8 (k : Int), .int .i64 (m : Int)] w fun e w' => e = .returned (.agg #[.int .u8 (k : Int), .int .u8 0, .int .u8 (m : Int), .int .u8 0]) ∧ Below w.heap.size w w' := by
  have e1 : IntKind.u8.wrap (m : Int) = (m : Int) := by simp [IntKind.wrap, IntKind.signed, IntKind.bits]; omega
  have e2 : (m : Int) / 256 = 0 := by omega
  go_enter Tryz.func68, Tryz.ntmps68
  go_wp2
  refine bodyPost_ret_by (results_cell_row rfl _ _ w.heap.size 120 _ (0, 0) _ rfl (Go.MapKept.heap_alloc w _).1 Tryz.underlying120 rfl sz175) rfl ?_
  exact ⟨rfl, Below.alloc (Below.refl _ _) (Nat.le_refl _) _⟩
theorem RV.row {w : World} {g c : Nat} {cs : Array Value} {T : TypeId} {r : Nat × Nat} {bs : Bs} (hg : w.heap[g]? = some (.cells cs T r)) (hc : cs.toList = u8s bs) (hb : ∀ x ∈ bs, x < 256) (hcap : bs.length ≤ c) : RV w (.slice (some ⟨g, 0, none⟩) bs.length c) bs := by
  refine ⟨_, _, rfl, ⟨hb, hcap⟩, fun _ => ⟨g, 0, rfl, (Array.getElem?_eq_some_iff.1 hg).1, fun j x hj => ?_⟩⟩
  have : cs[j]? = some (.int .u8 (x : Int)) := by rw [← Array.getElem?_toList, hc, u8s, List.getElem?_map, hj]; rfl
  simpa [World.cell?, hg] using this
theorem seal_x {w : World} {v : Value} {bs : Bs} {k : Nat} (h : RV w v bs) (hk : 0 < k ∧ k < 256) (hn : bs.length ≤ 248) :
    Calls Tryz.prog 33 #[.int .u8 (k : Int), v] w fun e w' => (∃ v', e = .returned (.tuple #[v', .int .i64 0]) ∧ RN w.heap.size w' v' (sealed k bs)) ∧ Below w.heap.size w w' := by
  obtain ⟨i, hi, i1, i2, i3⟩ := i5'
  obtain ⟨a, c, rfl, hx⟩ := id h
  have hxb := hx.1.1
  obtain ⟨n, hnn⟩ : ∃ n, n = bs.length := ⟨_, rfl⟩
  rw [← hnn] at h hn ⊢
  have hgt : ¬ (248 : Int) < (n : Int) := by omega
  have hgt2 : decide ((248 : Int) < (n : Int)) = false := by simpa using hgt
  have hk0 : ((k : Int) == 0) = false := by simp; omega
  have HI := Lib.hid hi
  have HN := Lib.hid hn
  have HNN := Lib.hid hnn
  have HH := Lib.hid h
  have HX := Lib.hid hxb
  have HK := Lib.hid hk
  clear h hi hx hnn hxb hk hn
  go_enter Tryz.func33, Tryz.ntmps33
  go_upto_region 4 with (go_at_call 68; refine (front_x _ k n HN.out).mono ?_; rintro e w1 ⟨rfl, hb1⟩)
  have hb2 : Below w.heap.size w (w1.alloc (.cells #[.int .u8 (k : Int), .int .u8 0, .int .u8 (n : Int), .int .u8 0] 120)) := Below.alloc hb1 hb1.size _
  have hold0 : (w1.alloc (.cells #[.int .u8 (k : Int), .int .u8 0, .int .u8 (n : Int), .int .u8 0] 120)).heap[w1.heap.size]? = some (.cells #[.int .u8 (k : Int), .int .u8 0, .int .u8 (n : Int), .int .u8 0] 120 (0, 0)) := (Go.MapKept.heap_alloc w1 _).1
  have hsz1 : w.heap.size ≤ w1.heap.size := hb1.size
  generalize hW : w1.alloc (.cells #[.int .u8 (k : Int), .int .u8 0, .int .u8 (n : Int), .int .u8 0] 120) = W at hb2 hold0 ⊢
  have hold : ∀ j u, ([.int .u8 (k : Int), .int .u8 0, .int .u8 (n : Int), .int .u8 0] : List Value)[j]? = some u → W.cell? ((⟨w1.heap.size, 0, none⟩ : Addr).add j) = some u := fun j u hu => by
    rw [add_cell, Nat.zero_add]
    unfold World.cell?
    simp only [hold0]
    simpa using hu
  have hf : u8s (front k n) = [.int .u8 (k : Int), .int .u8 0, .int .u8 (n : Int), .int .u8 0] := by rw [front_eq HN.out]; rfl
  have HOL := Lib.hid hold
  have HB2 := Lib.hid hb2
  have HO0 := Lib.hid hold0
  have HF := Lib.hid hf
  have HS1 := Lib.hid hsz1
  clear hold hb2 hW hold0 hf hsz1
  generalize w1.heap.size = nb at HOL HO0 HS1 ⊢
  have hbl : ∀ x ∈ front k n, x < 256 := fun x hx => by
    rw [front_eq HN.out] at hx
    simp only [List.mem_cons, List.not_mem_nil, or_false] at hx
    have := HK.out.2
    have := HN.out
    omega
  have HBL := Lib.hid hbl
  have hfl : (front k n ++ bs).length = 4 + n := by rw [front_eq HN.out, List.length_append, ← HNN.out]; rfl
  have HFL := Lib.hid hfl
  clear hbl hfl
  have hfs := HF.out
  have hcat : u8s (front k n ++ bs) = [.int .u8 (k : Int), .int .u8 0, .int .u8 (n : Int), .int .u8 0] ++ u8s bs := by rw [← hfs]; simp [u8s]
  have HCAT := Lib.hid hcat
  clear hfs hcat
  have hall : ∀ x ∈ front k n ++ bs, x < 256 := fun x hx => (List.mem_append.1 hx).elim (HBL.out x) (HX.out x)
  have HALL := Lib.hid hall
  clear hall
  have hp : (pad 252 (front k n ++ bs)).length = 252 := pad_len (by rw [HFL.out]; have := HN.out; omega)
  have hsd : sealed k bs = pad 252 (front k n ++ bs) ++ le (crc (pad 252 (front k n ++ bs))) 4 := by unfold sealed; rw [← HNN.out]
  have HP := Lib.hid hp
  have HSD := Lib.hid hsd
  clear hp hsd
  have tail : ∀ (w3 : World) (v3 : Value), RV w3 v3 (front k n ++ bs) → Below w.heap.size w w3 → Calls Tryz.prog 55 #[v3, .int .i64 252] w3 fun e w' => ∃ a' c', e = .returned (.tuple #[.slice a' 252 c', .bool true]) ∧ Hid (RV w' (.slice a' 252 c') (pad 252 (front k n ++ bs)) ∧ Below w.heap.size w w') := fun w3 v3 hr hb => by
    refine (fill_x hr (m := 252) (by rw [HFL.out]; have := HN.out; omega) (by decide)).mono ?_
    rintro e w' ⟨⟨v', rfl, _, hv⟩, hbe⟩
    obtain ⟨a', c', rfl, _⟩ := id hv
    have hv2 := hv.rv
    rw [HP.out] at hv2 ⊢
    exact ⟨a', c', rfl, Lib.hid ⟨hv2, Below.up hb hbe⟩⟩
  have TAIL := Lib.hid tail
  clear tail
  have fin : ∀ (w4 : World) (a' : Option Addr) (c' : Nat), RV w4 (.slice a' 252 c') (pad 252 (front k n ++ bs)) ∧ Below w.heap.size w w4 → Calls Tryz.prog 69 #[.slice a' 252 c'] w4 fun e w5 => e = .returned (.int .u32 (crc (pad 252 (front k n ++ bs)) : Nat)) ∧ Hid (RV w5 (.slice a' 252 c') (pad 252 (front k n ++ bs)) ∧ Below w.heap.size w w5) := fun w4 a' c' ⟨hr, hb⟩ => (sum_x hr (by rw [HP.out]; decide) (by rw [HP.out]; decide)).mono (by
    rintro e w5 ⟨rfl, hb5⟩
    exact ⟨rfl, Lib.hid ⟨hr.keep hb5, Below.up hb hb5⟩⟩)
  have FIN := Lib.hid fin
  clear fin
  have fpt : ∀ (w5 : World) (a' : Option Addr) (c' : Nat), RV w5 (.slice a' 252 c') (pad 252 (front k n ++ bs)) ∧ Below w.heap.size w w5 → Calls Tryz.prog 56 #[.slice a' 252 c', .int .u64 (crc (pad 252 (front k n ++ bs)) : Nat), .int .i64 4] w5 fun e w6 => ∃ v6, e = .returned v6 ∧ Hid (RN w.heap.size w6 v6 (sealed k bs) ∧ Below w.heap.size w w6) := fun w5 a' c' ⟨hr, hb⟩ => (put_x hr (by rw [HP.out]; decide) (.inr rfl) (Nat.lt_trans (crc_lt hr.byte) (by decide))).mono (by
    rintro e w6 ⟨⟨v6, rfl, hv6⟩, hb6⟩
    exact ⟨v6, rfl, Lib.hid ⟨HSD.out ▸ hv6.mono hb.size, Below.up hb hb6⟩⟩)
  have FPT := Lib.hid fpt
  clear fpt
  have hcl : crc (pad 252 (front k n ++ bs)) < 4294967296 := crc_lt fun x hx => (List.mem_append.1 hx).elim (HALL.out x) (fun h => by rw [List.eq_of_mem_replicate h]; decide)
  have hcw : IntKind.u64.wrap ((crc (pad 252 (front k n ++ bs)) : Nat) : Int) = ((crc (pad 252 (front k n ++ bs)) : Nat) : Int) := by simp [IntKind.wrap, IntKind.signed, IntKind.bits]; omega
  clear hcl
  generalize hcr : crc (pad 252 (front k n ++ bs)) = cr at hcw FIN FPT
  clear hcr
  have HCW := Lib.hid hcw
  clear hcw
  by_cases hz : n = 0
  · have hb0 : bs = [] := List.length_eq_zero_iff.1 (by rw [← HNN.out]; exact hz)
    have hrv : RV W (.slice (some ⟨nb, 0, none⟩) 4 4) (front k n ++ bs) := by
      have := RV.row (c := 4) HO0.out (bs := front k n ++ bs) (by rw [HCAT.out, hb0]; simp [u8s]) HALL.out (by rw [HFL.out]; omega)
      rw [HFL.out] at this
      subst hz
      exact this
    have HRV := Lib.hid hrv
    clear hrv hb0
    have hz2 : Hid (n = 0) := Lib.hid hz
    obtain ⟨n', rfl⟩ : ∃ n', n' = n := ⟨_, rfl⟩
    clear hz
    go_upto_region 5 with (first
      | (at_builtin; go_loud (refine wpList_append_zero _ rfl _ _ 33 rfl 5 i Tryz.underlying33 HI.out ⟨nb, 0, none⟩ 4 4 rfl (by decide) a c (by have := hz2.out; subst this; rfl) ?_))
      | (go_at_call 55; refine (TAIL.out _ _ HRV.out HB2.out).mono ?_; rintro e w4 ⟨a4, c4, rfl, h4⟩))
    have hcw := HCW.out
    have S := FIN.out _ _ _ h4.out
    clear h4
    go_wp2_with (first
      | (go_at_call 69; refine S.mono ?_; rintro e w5 ⟨rfl, h5⟩)
      | (go_at_call 56; refine (FPT.out _ _ _ h5.out).mono ?_; rintro e w6 ⟨v6, rfl, h6⟩))
    go_ret2
    exact ⟨⟨_, rfl, h6.out.1⟩, h6.out.2⟩
  · obtain ⟨a', c', e1, hx2, h⟩ := HH.out
    injection e1 with e1 e2 e3
    subst e1 e3
    obtain ⟨g, o, rfl, hg, hc⟩ := h (by rw [← HNN.out]; omega)
    have hb3 := HB2.out
    have hnews : ∀ j u, (u8s bs)[j]? = some u → W.cell? ((⟨g, o, none⟩ : Addr).add j) = some u := fun j u hu => by
      rw [u8s, List.getElem?_map] at hu
      obtain ⟨x, hx', rfl⟩ := Option.map_eq_some_iff.1 hu
      rw [add_cell]
      exact (cell_of_heap (a := ⟨g, o + j, none⟩) (hb3.block g hg)).1.trans (hc j x hx')
    have HNW := Lib.hid hnews
    have HLN : Hid ((u8s bs).length = n * 1) := Lib.hid (by rw [u8s_len, ← HNN.out, Nat.mul_one])
    have HZ : Hid (4 < 4 + n) := Lib.hid (by omega)
    clear hnews hc h e2 hx2 hb3 hg hz
    go_upto_region 5 with (first
      | (at_builtin; go_loud (refine wpList_append_grows _ rfl _ _ 33 rfl 5 i (.int .u8 0) 1 1 Tryz.underlying33 HI.out i3 i1 i2 rfl (by decide) (some ⟨nb, 0, none⟩) 4 4 [.int .u8 (k : Int), .int .u8 0, .int .u8 (n : Int), .int .u8 0] rfl (fun h => by cases h) rfl (fun b hb => by cases hb; exact HOL.out) ⟨g, o, none⟩ n c (u8s bs) rfl HLN.out HNW.out u8s_one HZ.out (by have := HN.out; exact Nat.le_trans (show 4 + n ≤ 252 by omega) (by decide)) (by have := HN.out; omega) ?_; intro v3 w3 q1 q2; rw [← HCAT.out] at q1; have HR3 := Lib.hid (RN.of q1 HALL.out).rv; have HB3 := Lib.hid (HB2.out.grown q2 HB2.out.size (fun k hk => by cases hk)); obtain ⟨a3, c3, rfl⟩ := ownsRow_shape q1; clear q1 q2))
      | (go_at_call 55; refine (TAIL.out _ _ HR3.out HB3.out).mono ?_; rintro e w4 ⟨a4, c4, rfl, h4⟩))
    have hcw := HCW.out
    have S := FIN.out _ _ _ h4.out
    clear h4
    go_wp2_with (first
      | (go_at_call 69; refine S.mono ?_; rintro e w5 ⟨rfl, h5⟩)
      | (go_at_call 56; refine (FPT.out _ _ _ h5.out).mono ?_; rintro e w6 ⟨v6, rfl, h6⟩))
    go_ret2
    exact ⟨⟨_, rfl, h6.out.1⟩, h6.out.2⟩
end Go.Tb
namespace Go.Tb
open Go Go.RowKit Go.Proofs Go.Maps Go.Sp
def lenV (v : Value) : Nat := match v with | .slice _ n _ => n | _ => 0
theorem trim_walk {w : World} {B o n c x k : Nat} {bs : Nat → Nat} (hnc : n ≤ c) (hn : n ≤ 1048576) (hb : ∀ j, j < n → w.cell? ⟨B, o + j, none⟩ = some (.int .u8 (bs j))) (hk : k ≤ n) (hlead : ∀ j, j < k → bs j = x) (hstop : k < n → bs k ≠ x) :
    Calls Tryz.prog 110 #[.slice (some ⟨B, o, none⟩) n c, .int .u8 x] w fun e w' => (k = n → e = .returned (.slice none 0 0)) ∧ (k < n → e = .returned (.slice (some ⟨B, o + k, none⟩) (n - k) (c - k))) ∧ w' = w := by
  go_enter Tryz.func110, Tryz.ntmps110
  go_wp2_with fail
  go_loop [0] (fun s => ∃ j, j ≤ k ∧ (j < n → s = .slice (some ⟨B, o + j, none⟩) (n - j) (c - j)) ∧ (j = n → ∃ a c', s = .slice a 0 c')) (fun s => lenV s)
  case atStart => exact ⟨0, Nat.zero_le _, fun _ => rfl, fun h => ⟨_, _, by subst h; rfl⟩⟩
  case round =>
    obtain ⟨j, hj, h1, h2⟩ := hrel
    rcases Nat.lt_or_ge j n with hjn | hjn
    · obtain rfl := h1 hjn
      have hc := hb j hjn
      by_cases hjk : j < k
      · have hx := hlead j hjk
        rw [hx] at hc
        go_hidden (go_wp2)
        refine ⟨⟨j + 1, by omega, fun h => ?_, fun h => ?_⟩, ?_⟩
        · rw [if_neg (by omega), show o + j + 1 = o + (j + 1) by omega, show n - j - 1 = n - (j + 1) by omega, show c - j - 1 = c - (j + 1) by omega]
        · exact ⟨_, _, by rw [show n - j - 1 = 0 by omega]⟩
        · simp only [lenV]; omega
      · obtain rfl : j = k := by omega
        have hne : ¬ ((bs j : Nat) : Int) = (x : Int) := fun e => hstop hjn (by omega)
        go_hidden (go_wp2)
        go_ret
        exact ⟨fun h => by omega, rfl, rfl⟩
    · obtain rfl : j = n := by omega
      obtain ⟨a, c', rfl⟩ := h2 rfl
      go_hidden (go_wp2)
      go_ret
      exact ⟨fun _ => rfl, fun h => by omega, rfl⟩
theorem lead0 : ∀ (l : Bs), ∃ k, k ≤ l.length ∧ (∀ j, j < k → l.getD j 0 = 0) ∧ (k < l.length → l.getD k 0 ≠ 0) ∧ (k < l.length ↔ (l.any (· ≠ 0)) = true)
  | [] => ⟨0, Nat.le_refl _, fun j hj => by omega, fun h => absurd h (by simp), by simp⟩
  | x :: l => by
    by_cases h : x = 0
    · obtain ⟨k, h1, h2, h3, h4⟩ := lead0 l
      subst h
      refine ⟨k + 1, by simp; omega, fun j hj => ?_, fun hk => ?_, ?_⟩
      · cases j with
        | zero => rfl
        | succ j => simpa using h2 j (by omega)
      · simpa using h3 (by simpa using hk)
      · rw [List.length_cons, Nat.add_lt_add_iff_right, h4]; simp
    · exact ⟨0, Nat.zero_le _, fun j hj => by omega, fun _ => by simpa using h, by simp [h]⟩
theorem trim_x {w : World} {v : Value} {bs : Bs} (h : RV w v bs) (hL : bs.length ≤ 1048576) :
    Calls Tryz.prog 86 #[v, .string ⟨#[0]⟩] w fun e w' => (∃ a n c, e = .returned (.slice a n c) ∧ decide ((0 : Int) < (n : Int)) = bs.any (· ≠ 0)) ∧ w' = w := by
  obtain ⟨a, c, rfl, hx, h⟩ := h
  by_cases hz : bs = []
  · subst hz
    clear h hx
    go_enter Tryz.func86, Tryz.ntmps86
    go_wp2
    go_ret
    exact ⟨⟨none, 0, 0, rfl, rfl⟩, rfl⟩
  · have hp : 0 < bs.length := List.length_pos_iff.2 hz
    obtain ⟨g, o, rfl, hg, hc⟩ := h hp
    obtain ⟨k, h1, h2, h3, h4⟩ := lead0 bs
    have T := trim_walk (w := w) (B := g) (o := o) (n := bs.length) (c := c) (x := 0) (k := k) (bs := fun j => bs.getD j 0) hx.2 hL (fun j hj => by
      have := hc j _ (List.getElem?_eq_getElem hj)
      show _ = some (Value.int .u8 ((bs.getD j 0 : Nat) : Int))
      rw [List.getD_eq_getElem?_getD, List.getElem?_eq_getElem hj]; exact this) h1 h2 h3
    have T2 : Calls Tryz.prog 110 #[.slice (some ⟨g, o, none⟩) bs.length c, .int .u8 0] w fun e w' => (∃ a n c, e = .returned (.slice a n c) ∧ Hid (decide ((0 : Int) < (n : Int)) = bs.any (· ≠ 0))) ∧ w' = w := T.mono (by
      rintro e w' ⟨q1, q2, rfl⟩
      refine ⟨?_, rfl⟩
      by_cases hk : k < bs.length
      · refine ⟨_, _, _, q2 hk, Lib.hid ?_⟩
        rw [h4.1 hk]; simp; omega
      · refine ⟨_, _, _, q1 (by omega), Lib.hid ?_⟩
        cases e : bs.any (· ≠ 0) with
        | true => exact absurd (h4.2 e) hk
        | false => rfl)
    have HT := Lib.hid T2
    have hpp : ¬ bs.length = 0 := by omega
    have hpi : ((bs.length : Int) == 0) = false := by simp; omega
    generalize bs.length = len at *
    clear T T2 hc h hx h1 h2 h3 h4 hz
    go_enter Tryz.func86, Tryz.ntmps86
    go_wp2_with (go_at_call 110; refine HT.out.mono ?_; rintro e w5 ⟨⟨a, n, c, rfl, hq⟩, rfl⟩)
    go_ret
    exact ⟨⟨a, n, c, rfl, hq.out⟩, rfl⟩
end Go.Tb
namespace Go.Tb
open Go Go.RowKit Go.Proofs Go.Maps Go.Sp
structure OpenQ (w : World) (v : Value) (a : Option Addr) (c sm n cr : Nat) : Prop where
  g1 : ∀ W, Below w.heap.size w W → Calls Tryz.prog 76 #[v, .int .i64 252, .int .i64 4] W fun e w' => e = .returned (.tuple #[.int .u64 (sm : Int), .int .i64 0]) ∧ Hid (Below w.heap.size w w')
  g2 : ∀ W, Below w.heap.size w W → Calls Tryz.prog 76 #[v, .int .i64 2, .int .i64 2] W fun e w' => e = .returned (.tuple #[.int .u64 (n : Int), .int .i64 0]) ∧ Hid (Below w.heap.size w w')
  s : ∀ W, Below w.heap.size w W → Calls Tryz.prog 69 #[.slice a 252 c] W fun e w' => e = .returned (.int .u32 (cr : Int)) ∧ Hid (Below w.heap.size w w')
theorem RV.sub {w : World} {a : Option Addr} {n c : Nat} {bs : Bs} (h : RV w (.slice a n c) bs) (m : Nat) (hm : m ≤ n) : RV w (.slice a m c) (bs.take m) := by
  obtain ⟨a', c', e, hx, h⟩ := h
  injection e with e1 e2 e3
  subst e1 e3
  have hl : (bs.take m).length = m := by simp; omega
  exact ⟨a, c, by rw [hl], ⟨fun x hm => hx.1 x (List.mem_of_mem_take hm), by rw [hl]; omega⟩, fun hp => by
    obtain ⟨g, o, e1, hg, hc⟩ := h (by omega)
    exact ⟨g, o, e1, hg, fun j x hj => hc j x (by rw [List.getElem?_take] at hj; split at hj; exact hj; cases hj)⟩⟩
theorem openQ {w : World} {a : Option Addr} {c : Nat} {bs : Bs} (h : RV w (.slice a 256 c) bs) (hL : bs.length = 256) : OpenQ w (.slice a 256 c) a c (num (bs.drop 252)) (num ((bs.drop 2).take 2)) (crc (bs.take 252)) := by
  have hl : (bs.take 252).length = 252 := by simp; omega
  refine ⟨fun W hb => ?_, fun W hb => ?_, fun W hb => ?_⟩
  · refine (get_x (h.keep hb) (at' := 252) (m := 4) (by omega) (by omega) (by omega) (.inr rfl)).mono ?_
    rintro e w' ⟨rfl, hb2⟩
    rw [List.take_of_length_le (by simp; omega)]
    exact ⟨rfl, Lib.hid (Below.up hb hb2)⟩
  · refine (get_x (h.keep hb) (at' := 2) (m := 2) (by omega) (by omega) (by omega) (.inl rfl)).mono ?_
    rintro e w' ⟨rfl, hb2⟩
    exact ⟨rfl, Lib.hid (Below.up hb hb2)⟩
  · refine (sum_x ((h.sub 252 (by decide)).keep hb) (by rw [hl]; decide) (by rw [hl]; decide)).mono ?_
    rintro e w' ⟨rfl, hb2⟩
    exact ⟨rfl, Lib.hid (Below.up hb hb2)⟩
theorem num_lt : ∀ (l : Bs), (∀ x ∈ l, x < 256) → num l < 256 ^ l.length
  | [], _ => by simp [num]
  | x :: l, h => by
    have h1 := num_lt l (fun y hy => h y (List.mem_cons_of_mem _ hy))
    have h2 := h x List.mem_cons_self
    rw [num_cons, List.length_cons, Nat.pow_succ]
    omega
def OpenP (w : World) (bs : Bs) (e : Ending) (w' : World) : Prop := ∃ v', e = .returned (.tuple #[.int .u8 ((openB bs).1 : Nat), v', .int .i64 ((openB bs).2.2 : Nat)]) ∧ RN w.heap.size w' v' (openB bs).2.1 ∧ Below w.heap.size w w'
theorem open_bad1 {w : World} {g o c sm n cr b0 : Nat} {bs : Bs} (HQ : Hid (OpenQ w (.slice (some ⟨g, o, none⟩) 256 c) (some ⟨g, o, none⟩) c sm n cr)) (hcap : 256 ≤ c) (hb : openB bs = (0, [], 8)) (hcr : cr < 4294967296)
    (c0 : w.cell? ⟨g, o, none⟩ = some (.int .u8 (b0 : Int))) (h : cr ≠ sm ∨ b0 = 0 ∨ 248 < n) : Calls Tryz.prog 45 #[.slice (some ⟨g, o, none⟩) 256 c] w (OpenP w bs) := by
  have hwr : IntKind.u64.wrap (cr : Int) = (cr : Int) := by simp [IntKind.wrap, IntKind.signed, IntKind.bits]; omega
  have HBB : Hid (∀ (W : World), Below w.heap.size w W → OpenP w bs (.returned (.tuple #[.int .u8 0, .slice none 0 0, .int .i64 8])) W) := Lib.hid fun W hbe => ⟨.slice none 0 0, by rw [hb]; rfl, by rw [hb]; exact RN.nil _ _ _ _, hbe⟩
  have HC : Hid (∀ W, Below w.heap.size w W → W.cell? ⟨g, o, none⟩ = some (.int .u8 (b0 : Int)) ∧ g < W.heap.size) := Lib.hid fun W hbe => ⟨cells_below hbe _ _ c0, Nat.lt_of_lt_of_le (cell_lt' c0) hbe.size⟩
  clear hb hcr c0
  by_cases e1 : cr = sm
  · have t1 : ((cr : Int) != (sm : Int)) = false := by simp; omega
    have h2 := h.resolve_left (fun q => q e1)
    clear h e1
    by_cases e2 : b0 = 0
    · have t2 : ((b0 : Int) == 0) = true := by simp; omega
      clear e2 h2
      go_enter Tryz.func45, Tryz.ntmps45
      go_wp2_with (first
        | (go_at_call_of 76 (Value.int .i64 252); refine (HQ.out.g1 _ (Below.refl _ _)).mono ?_; rintro e w1 ⟨rfl, hb1⟩)
        | (go_at_call_of 76 (Value.int .i64 2); refine (HQ.out.g2 _ hb1.out).mono ?_; rintro e w2 ⟨rfl, hb2⟩)
        | (go_at_call 69; refine (HQ.out.s _ hb2.out).mono ?_; rintro e w3 ⟨rfl, hb3⟩; obtain ⟨c3, l3⟩ := HC.out _ hb3.out))
      go_ret3
      exact HBB.out _ hb3.out
    · have h3 : (248 : Int) < (n : Int) := by have := h2.resolve_left e2; omega
      have t2 : ((b0 : Int) == 0) = false := by simp; omega
      have t3 : decide ((248 : Int) < (n : Int)) = true := by simpa using h3
      clear e2 h2 h3
      go_enter Tryz.func45, Tryz.ntmps45
      go_wp2_with (first
        | (go_at_call_of 76 (Value.int .i64 252); refine (HQ.out.g1 _ (Below.refl _ _)).mono ?_; rintro e w1 ⟨rfl, hb1⟩)
        | (go_at_call_of 76 (Value.int .i64 2); refine (HQ.out.g2 _ hb1.out).mono ?_; rintro e w2 ⟨rfl, hb2⟩)
        | (go_at_call 69; refine (HQ.out.s _ hb2.out).mono ?_; rintro e w3 ⟨rfl, hb3⟩; obtain ⟨c3, l3⟩ := HC.out _ hb3.out))
      go_ret3
      exact HBB.out _ hb3.out
  · have t1 : ((cr : Int) != (sm : Int)) = true := by simp; omega
    clear h e1
    go_enter Tryz.func45, Tryz.ntmps45
    go_wp2_with (first
      | (go_at_call_of 76 (Value.int .i64 252); refine (HQ.out.g1 _ (Below.refl _ _)).mono ?_; rintro e w1 ⟨rfl, hb1⟩)
      | (go_at_call_of 76 (Value.int .i64 2); refine (HQ.out.g2 _ hb1.out).mono ?_; rintro e w2 ⟨rfl, hb2⟩)
      | (go_at_call 69; refine (HQ.out.s _ hb2.out).mono ?_; rintro e w3 ⟨rfl, hb3⟩; obtain ⟨c3, l3⟩ := HC.out _ hb3.out))
    go_ret3
    exact HBB.out _ hb3.out
end Go.Tb
namespace Go.Tb
open Go Go.RowKit Go.Proofs Go.Maps Go.Sp
theorem i5s : (Tryz.prog.info? 5).isSome = true := by kernel_rfl
theorem cells5 : Tryz.prog.cellsOf 5 = 1 := by kernel_rfl
theorem eqI5 (w : World) (k : IntKind) (a b : Int) : (Op.equalIn 9999 5 (.int k a) (.int k b)).run Tryz.prog w = .ok (a == b) w := run_equalIn_int w 9998 5 k .u8 a b Tryz.underlying5
theorem eq175 (w : World) (a b c : Int) : (Op.equalIn 10000 120 (.agg #[.int .u8 a, .int .u8 b, .int .u8 c, .int .u8 0]) (.agg #[.int .u8 a, .int .u8 0, .int .u8 c, .int .u8 0])).run Tryz.prog w = .ok (b == 0) w := by
  obtain ⟨i, hi⟩ := Option.isSome_iff_exists.1 i5s
  rw [run_equalIn_array w 9999 _ _ Tryz.underlying120 hi, cells5]
  simp [Op.eqItems, go_sem, List.range_succ, eqI5]
  by_cases h : b = 0 <;> simp [h]
def Four (w : World) (g o : Nat) (b0 b1 n : Nat) (x : World) : Prop := Hid (Below w.heap.size w x) ∧ g < x.heap.size ∧ x.cell? ⟨g, o, none⟩ = some (.int .u8 (b0 : Int)) ∧ x.cell? ⟨g, o + 1, none⟩ = some (.int .u8 (b1 : Int)) ∧ x.cell? ⟨g, o + 2, none⟩ = some (.int .u8 (n : Int)) ∧ x.cell? ⟨g, o + 3, none⟩ = some (.int .u8 0)
theorem open_rest {w : World} {g o c n cr b0 b1 : Nat} {bs : Bs} (HQ : Hid (OpenQ w (.slice (some ⟨g, o, none⟩) 256 c) (some ⟨g, o, none⟩) c cr n cr)) (hcap : 256 ≤ c) (hcr : cr < 4294967296)
    (h4 : Four w g o b0 b1 n w) (hn : n ≤ 248) (h0 : 0 < b0) (hbad : b1 ≠ 0 → openB bs = (0, [], 8)) (hrv : RV w (.slice (some ⟨g, o, none⟩) 256 c) bs) (hL : bs.length = 256)
    (hgood : b1 = 0 → openB bs = if ((bs.take 252).drop (4 + n)).any (· ≠ 0) then (0, [], 8) else (b0, (bs.drop 4).take n, 0)) : Calls Tryz.prog 45 #[.slice (some ⟨g, o, none⟩) 256 c] w (OpenP w bs) := by
  have hwr : IntKind.u64.wrap (cr : Int) = (cr : Int) := by simp [IntKind.wrap, IntKind.signed, IntKind.bits]; omega
  have hwn : IntKind.i64.wrap (n : Int) = (n : Int) := by rw [IntKind.wrap_i64]; omega
  have t1 : ((cr : Int) != (cr : Int)) = false := by simp
  have t2 : ((b0 : Int) == 0) = false := by simp; omega
  have t3 : decide ((248 : Int) < (n : Int)) = false := by simp; omega
  obtain ⟨_, l0, c0, c1, c2, c3⟩ := h4
  have HF : Hid (∀ x, Below w.heap.size w x → Four w g o b0 b1 n x) := Lib.hid fun x hx => ⟨Lib.hid hx, Nat.lt_of_lt_of_le l0 hx.size, cells_below hx _ _ c0, cells_below hx _ _ c1, cells_below hx _ _ c2, cells_below hx _ _ c3⟩
  have FR : Hid (∀ x, Below w.heap.size w x → Calls Tryz.prog 68 #[.int .u8 (b0 : Int), .int .i64 (n : Int)] x fun e w' => e = .returned (.agg #[.int .u8 (b0 : Int), .int .u8 0, .int .u8 (n : Int), .int .u8 0]) ∧ Four w g o b0 b1 n w') := Lib.hid fun x hx => (front_x x b0 n hn).mono (by rintro e w' ⟨rfl, hb⟩; exact ⟨rfl, HF.out _ (Below.up hx hb)⟩)
  have HBAD := Lib.hid hbad
  have HGOOD := Lib.hid hgood
  have HBB : Hid (openB bs = (0, [], 8) → ∀ (W : World), Below w.heap.size w W → OpenP w bs (.returned (.tuple #[.int .u8 0, .slice none 0 0, .int .i64 8])) W) := Lib.hid fun hb W hbe => ⟨.slice none 0 0, by rw [hb]; rfl, by rw [hb]; exact RN.nil _ _ _ _, hbe⟩
  have CUT : Hid (∀ x, Below w.heap.size w x → Calls Tryz.prog 87 #[.slice (some ⟨g, o, none⟩) 256 c, .int .i64 4, .int .i64 (n : Int)] x fun e w' => (∃ a' c', e = .returned (.tuple #[.slice a' n c', .bool true]) ∧ Hid (RN w.heap.size w' (.slice a' n c') ((bs.drop 4).take n))) ∧ Four w g o b0 b1 n w') := Lib.hid fun x hx => (cut_x (at' := 4) (n := n) (hrv.keep hx) (by omega) (by omega) (by omega)).mono (by
    rintro e w' ⟨⟨v', rfl, hv⟩, hb⟩
    have hl : ((bs.drop 4).take n).length = n := by simp; omega
    obtain ⟨a', c', rfl, _⟩ := id hv
    rw [hl] at hv ⊢
    exact ⟨⟨a', c', rfl, Lib.hid (hv.mono hx.size)⟩, HF.out _ (Below.up hx hb)⟩)
  have TR : Hid (∀ x, Below w.heap.size w x → Calls Tryz.prog 86 #[.slice (some ⟨g, o + (4 + n), none⟩) (252 - (4 + n)) (c - (4 + n)), .string ⟨#[0]⟩] x fun e w' => (∃ a' n' c', e = .returned (.slice a' n' c') ∧ Hid (decide ((0 : Int) < (n' : Int)) = ((bs.take 252).drop (4 + n)).any (· ≠ 0))) ∧ w' = x) := Lib.hid fun x hx => by
    have h1 := (hrv.keep hx).sub 252 (by decide)
    obtain ⟨a', c', e, hx2, h⟩ := h1
    injection e with e1 e2 e3
    subst e1 e3
    have hl : ((bs.take 252).drop (4 + n)).length = 252 - (4 + n) := by simp; omega
    have hr : RV x (.slice (some ⟨g, o + (4 + n), none⟩) (252 - (4 + n)) (c - (4 + n))) ((bs.take 252).drop (4 + n)) := ⟨_, _, by rw [hl], ⟨fun y hm => hx2.1 y (List.mem_of_mem_drop hm), by rw [hl]; omega⟩, fun hp => by
      obtain ⟨g', o', e4, hg', hc'⟩ := h (by simp; omega)
      injection e4 with e4
      injection e4 with e5 e6
      subst e5 e6
      exact ⟨_, _, rfl, hg', fun j y hj => by rw [Nat.add_assoc]; rw [List.getElem?_drop] at hj; exact hc' (4 + n + j) y hj⟩⟩
    exact (trim_x hr (by rw [hl]; omega)).mono (by rintro e w' ⟨⟨a', n', c', h1, h2⟩, h3⟩; exact ⟨⟨a', n', c', h1, Lib.hid h2⟩, h3⟩)
  clear c0 c1 c2 c3 l0 hbad hcr h0 hgood hrv hL
  have HN := Lib.hid hn
  clear hn
  have hsa : ∀ (a : Addr) (k : Nat) (W : World), (Instr.arrayAt 120 (.slice (some a) 4 k)).run Tryz.prog W = .ok (.pointer (some a)) W := fun a k W => by
    simp [Instr.arrayAt, run_underlying Tryz.underlying120]
  have heq := fun W => eq175 W (b0 : Int) (b1 : Int) (n : Int)
  obtain ⟨b, hb⟩ : ∃ b : Bool, ((b1 : Int) == 0) = b := ⟨_, rfl⟩
  rw [hb] at heq
  have i4' : (4 : Int) ≤ (c : Int) := by omega
  have i4n : ¬ c < 4 := by omega
  have i4 : 4 ≤ c := by omega
  go_enter Tryz.func45, Tryz.ntmps45
  go_upto_region 9 with (first
    | (go_at_call_of 76 (Value.int .i64 252); refine (HQ.out.g1 _ (Below.refl _ _)).mono ?_; rintro e w1 ⟨rfl, hb1⟩)
    | (go_at_call_of 76 (Value.int .i64 2); refine (HQ.out.g2 _ hb1.out).mono ?_; rintro e w2 ⟨rfl, hb2⟩)
    | (go_at_call 69; refine (HQ.out.s _ hb2.out).mono ?_; rintro e w3 ⟨rfl, hb3⟩; obtain ⟨_, l3, k0, k1, k2, k3⟩ := HF.out _ hb3.out))
  go_region_held3 (fun x => Hid (Below w.heap.size w x) ∧ g < x.heap.size ∧ x.cell? ⟨g, o, none⟩ = some (.int .u8 (b0 : Int)) ∧ x.cell? ⟨g, o + 1, none⟩ = some (.int .u8 (b1 : Int)) ∧ x.cell? ⟨g, o + 2, none⟩ = some (.int .u8 (n : Int)) ∧ x.cell? ⟨g, o + 3, none⟩ = some (.int .u8 0))
    ((first | exact h4 | (refine HF.out _ ?_; (repeat (first | exact Below.refl _ _ | assumption | refine Below.drew ?_ | refine Below.allocs ?_ _)))))
    ((first
      | (go_at_call 68; refine (FR.out _ ?_).mono ?_; (repeat (first | exact Below.refl _ _ | assumption | refine Below.drew ?_ | refine Below.allocs ?_ _)); rintro e w4 ⟨rfl, h4⟩)))
  all_goals
    cases b with
    | false =>
      have hb' := HBB.out (HBAD.out (fun e => by rw [e] at hb; simp at hb)) w4 h4.1.out
      have HBF := Lib.hid hb'
      clear hb'
      go_wp2
      go_ret3
      exact HBF.out
    | true =>
      have hg := HGOOD.out (by have := hb; simp at this; omega)
      have HG := Lib.hid hg
      have hn := HN.out
      have hbe4 := Lib.hid h4.1.out
      clear hg
      go_wp2_with (fail)
      refine (TR.out w4 hbe4.out).mono ?_
      rintro e w5 ⟨⟨a5, n5, c5, rfl, hq⟩, rfl⟩
      cases hany : ((bs.take 252).drop (4 + n)).any (· ≠ 0) with
      | true =>
        have hq' := hq.out
        rw [hany] at hq'
        have hb' := HBB.out (by rw [HG.out, hany, if_pos rfl]) w5 hbe4.out
        have HBF := Lib.hid hb'
        have hq2 : 0 < n5 := by simp at hq'; omega
        have hq3 : (0 : Int) < (n5 : Int) := by omega
        clear hb' hany hq'
        go_wp2
        go_ret3
        exact HBF.out
      | false =>
        have hq' := hq.out
        rw [hany] at hq'
        obtain rfl : n5 = 0 := by simp at hq'; omega
        have HE : Hid (openB bs = (b0, (bs.drop 4).take n, 0)) := Lib.hid (by rw [HG.out, hany]; rfl)
        clear hany
        clear hq'
        go_wp2_with fail
        refine (CUT.out _ hbe4.out).mono ?_
        rintro e w6 ⟨⟨a6, c6, rfl, hv6⟩, h6⟩
        obtain ⟨hb6, l6, k6, _⟩ := h6
        go_wp2
        go_ret3
        exact ⟨.slice a6 n c6, by rw [HE.out]; rfl, by rw [HE.out]; exact hv6.out, hb6.out⟩
theorem num2 (x y : Nat) : num [x, y] = x + 256 * y := by simp [num]
theorem open_x {w : World} {v : Value} {bs : Bs} (h : RV w v bs) (hL : bs.length = 256) : Calls Tryz.prog 45 #[v] w (OpenP w bs) := by
  obtain ⟨a, c, rfl, hx, hcell⟩ := id h
  rw [hL] at h hcell ⊢
  obtain ⟨g, o, rfl, hg, hc⟩ := hcell (by decide)
  have Q := Lib.hid (openQ h hL)
  have hcap := hx.2
  rw [hL] at hcap
  have hs : crc (bs.take 252) < 4294967296 := crc_lt fun x hm => hx.1 x (List.mem_of_mem_take hm)
  have cs : ∀ j, j < 256 → w.cell? ⟨g, o + j, none⟩ = some (.int .u8 ((bs.getD j 0 : Nat) : Int)) ∧ bs.getD j 0 < 256 := fun j hj => by
    have e : bs[j]? = some (bs.getD j 0) := by rw [List.getD_eq_getElem?_getD, List.getElem?_eq_getElem (by omega)]; rfl
    exact ⟨hc j _ e, hx.1 _ (List.mem_of_getElem? e)⟩
  have gd : ∀ j, j < 256 → bs[j]? = some (bs.getD j 0) := fun j hj => by rw [List.getD_eq_getElem?_getD, List.getElem?_eq_getElem (by omega)]; rfl
  have ht4 : bs.take 4 = [bs.getD 0 0, bs.getD 1 0, bs.getD 2 0, bs.getD 3 0] := by
    apply List.ext_getElem?
    intro i
    rw [List.getElem?_take]
    by_cases hi : i < 4
    · rw [if_pos hi]
      have hi' : i = 0 ∨ i = 1 ∨ i = 2 ∨ i = 3 := by omega
      rcases hi' with rfl | rfl | rfl | rfl <;> (rw [gd _ (by decide)]; rfl)
    · rw [if_neg hi]; simp; omega
  have hd2 : (bs.drop 2).take 2 = [bs.getD 2 0, bs.getD 3 0] := by
    have : (bs.drop 2).take 2 = (bs.take 4).drop 2 := by rw [List.drop_take]
    rw [this, ht4]; rfl
  have hop : openB bs = if crc (bs.take 252) ≠ num (bs.drop 252) ∨ bs.getD 0 0 = 0 ∨ 248 < num ((bs.drop 2).take 2) then (0, [], 8)
    else if bs.take 4 ≠ front (bs.getD 0 0) (num ((bs.drop 2).take 2)) then (0, [], 8)
    else if ((bs.take 252).drop (4 + num ((bs.drop 2).take 2))).any (· ≠ 0) then (0, [], 8)
    else (bs.getD 0 0, (bs.drop 4).take (num ((bs.drop 2).take 2)), 0) := by unfold openB; rw [if_neg (by simp [hL])]
  have c0 := (cs 0 (by decide)).1
  by_cases hb : crc (bs.take 252) ≠ num (bs.drop 252) ∨ bs.getD 0 0 = 0 ∨ 248 < num ((bs.drop 2).take 2)
  · exact open_bad1 Q hcap (by rw [hop, if_pos hb]) hs c0 hb
  · rw [if_neg hb] at hop
    have h1 : crc (bs.take 252) = num (bs.drop 252) := Decidable.byContradiction fun q => hb (.inl q)
    have h2 : bs.getD 0 0 ≠ 0 := fun q => hb (.inr (.inl q))
    have h3 : ¬ 248 < num ((bs.drop 2).take 2) := fun q => hb (.inr (.inr q))
    rw [h1] at Q hs
    rw [hd2, num2] at hop h3 Q
    have e3 : bs.getD 3 0 = 0 := by omega
    rw [e3, Nat.mul_zero, Nat.add_zero] at hop h3 Q
    rw [front_eq (by omega), ht4, e3] at hop
    refine open_rest (b0 := bs.getD 0 0) (b1 := bs.getD 1 0) Q hcap hs ⟨Lib.hid (Below.refl _ _), hg, c0, (cs 1 (by decide)).1, (cs 2 (by decide)).1, ?_⟩ (by omega) (by omega) (fun q => ?_) h hL (fun q => ?_)
    · have := (cs 3 (by decide)).1
      rw [e3] at this; exact this
    · rw [hop, if_pos (by simp; exact q)]
    · rw [hop, if_neg (by simp; exact q)]
end Go.Tb
namespace Go.Tb
open Go Go.RowKit Go.Proofs Go.Maps Go.Sp
structure FrV (γ : Gh) (w : World) (b : Nat) (f : Fr) : Prop where
  tg : Tag γ w b 115
  Bb : γ.B ≤ b
  f0 : ∃ v, w.cell? ⟨b, 0, none⟩ = some v ∧ RB γ w v f.b
  f1 : w.cell? ⟨b, 1, none⟩ = some (.int .i64 (f.used : Int))
  f2 : w.cell? ⟨b, 2, none⟩ = some (.bool f.dirty)
  f3 : w.cell? ⟨b, 3, none⟩ = some (.int .i64 0)
  fz : ∀ o, o < 4 → w.frozen? ⟨b, o, none⟩ = false
theorem FrV.lt {γ : Gh} {w : World} {b : Nat} {f : Fr} (h : FrV γ w b f) : b < w.heap.size := cell_lt' h.f2
theorem FrV.same {γ : Gh} {S : TypeId → Bool} {w w' : World} {b : Nat} {f : Fr} (h : FrV γ w b f) (hb : w'.heap[b]? = w.heap[b]?) (hs : Step γ S w w') (h5 : S 5 = false) : FrV γ w' b f := by
  obtain ⟨v, e0, e1⟩ := h.f0
  have hc := fun o => (cell_of_heap (a := ⟨b, o, none⟩) hb).1
  have hz := fun o => (cell_of_heap (a := ⟨b, o, none⟩) hb).2
  exact ⟨h.tg.same hb, h.Bb, ⟨v, (hc _).trans e0, e1.keep hs h5⟩, (hc _).trans h.f1, (hc _).trans h.f2, (hc _).trans h.f3, fun o ho => (hz o).trans (h.fz o ho)⟩
theorem FrV.keep {γ : Gh} {S : TypeId → Bool} {w w' : World} {b : Nat} {f : Fr} (h : FrV γ w b f) (hs : Step γ S w w') (hS : S 115 = false) (h5 : S 5 = false) : FrV γ w' b f :=
  h.same (hs.heap h.tg hS h.lt) hs h5
theorem FrV.more {γ γ' : Gh} {w : World} {b : Nat} {f : Fr} (h : FrV γ w b f) (hl : Gh.Le w γ γ') : FrV γ' w b f := by
  obtain ⟨v, e0, e1⟩ := h.f0
  exact ⟨h.tg.more hl h.lt, hl.B ▸ h.Bb, ⟨v, e0, e1.more hl⟩, h.f1, h.f2, h.f3, h.fz⟩
structure CaW (γ : Gh) (w : World) (cb db : Nat) (c : Ca) (fb : Nat) (D : DataW Value) (β : Nat → Nat) : Prop where
  dk : DkV γ w db c.d
  tg : Tag γ w cb 119
  Bc : γ.B ≤ cb
  c0 : w.cell? ⟨cb, 0, none⟩ = some (.pointer (some ⟨db, 0, none⟩))
  c1 : w.cell? ⟨cb, 1, none⟩ = some (.int .i64 (c.M : Int))
  c2 : w.cell? ⟨cb, 2, none⟩ = some (.int .i64 (c.clk : Int))
  c3 : w.cell? ⟨cb, 3, none⟩ = some (.map (some fb))
  cz : ∀ o, o < 4 → w.frozen? ⟨cb, o, none⟩ = false
  tf : Tag γ w fb 117
  Bf : γ.B ≤ fb
  own : w.ownsMap Tryz.prog 3 heldR fb (Maps.size D) D
  sz : Maps.size D = c.keys.length
  has : ∀ x : Int, Maps.has D (.int .i64 x) = true → ∃ s : Nat, x = (s : Int) ∧ (c.F s).isSome = true
  fr : ∀ s f, c.F s = some f → s < c.d.N ∧ (∀ z, D.atKey (.int .i64 (s : Int)) z = .held (.pointer (some ⟨β s, 0, none⟩))) ∧ FrV γ w (β s) f
  inj : ∀ s t, (c.F s).isSome = true → (c.F t).isSome = true → β s = β t → s = t
def CaV (γ : Gh) (w : World) (cb db : Nat) (c : Ca) : Prop := ∃ fb D β, CaW γ w cb db c fb D β
theorem CaW.in {γ : Gh} {w : World} {cb db : Nat} {c : Ca} {fb : Nat} {D : DataW Value} {β : Nat → Nat} (H : CaW γ w cb db c fb D β) : CaV γ w cb db c := ⟨fb, D, β, H⟩
theorem CaW.lt {γ : Gh} {w : World} {cb db : Nat} {c : Ca} {fb : Nat} {D : DataW Value} {β : Nat → Nat} (H : CaW γ w cb db c fb D β) : cb < w.heap.size := cell_lt' H.c0
theorem CaW.has' {γ : Gh} {w : World} {cb db : Nat} {c : Ca} {fb : Nat} {D : DataW Value} {β : Nat → Nat} (H : CaW γ w cb db c fb D β) {s : Nat} (h : (c.F s).isSome = true) : Maps.has D (.int .i64 (s : Int)) = true := by
  obtain ⟨f, hf⟩ := Option.isSome_iff_exists.1 h
  exact Maps.has_true_of_atKey (H.fr s f hf).2.1
theorem CaW.hasn {γ : Gh} {w : World} {cb db : Nat} {c : Ca} {fb : Nat} {D : DataW Value} {β : Nat → Nat} (H : CaW γ w cb db c fb D β) {s : Nat} (h : c.F s = none) : Maps.has D (.int .i64 (s : Int)) = false := by
  cases e : Maps.has D (.int .i64 (s : Int)) with
  | false => rfl
  | true =>
    obtain ⟨t, h1, h2⟩ := H.has _ e
    have : s = t := by omega
    subst this
    rw [h] at h2; cases h2
theorem ownsMap_block {w w' : World} {b n : Nat} {D : DataW Value} (h : w.ownsMap Tryz.prog 3 heldR b n D) (hb : w'.heap[b]? = w.heap[b]?) : w'.ownsMap Tryz.prog 3 heldR b n D := by
  obtain ⟨es, clock, h1, h2⟩ := h
  exact ⟨es, clock, hb.trans h1, h2⟩
theorem CaW.keep {γ : Gh} {T : TypeId → Bool} {w w' : World} {cb db : Nat} {c : Ca} {fb : Nat} {D : DataW Value} {β : Nat → Nat} (H : CaW γ w cb db c fb D β) (hs : Step γ T w w') (hd : T 5 = false ∧ T 124 = false ∧ T 93 = false ∧ T 33 = false) (hc : T 119 = false ∧ T 117 = false ∧ T 115 = false) : CaW γ w' cb db c fb D β :=
  { dk := H.dk.keep hs hd, tg := hs.tg _ _ (by decide) H.lt H.tg, Bc := H.Bc, c0 := cell_keep hs H.tg hc.1 H.c0, c1 := cell_keep hs H.tg hc.1 H.c1, c2 := cell_keep hs H.tg hc.1 H.c2, c3 := cell_keep hs H.tg hc.1 H.c3, cz := fun o ho => fz_keep hs H.tg hc.1 H.lt (H.cz o ho), tf := hs.tg _ _ (by decide) H.own.lt H.tf, Bf := H.Bf, own := ownsMap_block H.own (hs.heap H.tf hc.2.1 H.own.lt), sz := H.sz, has := H.has, fr := fun s f hf => ⟨(H.fr s f hf).1, (H.fr s f hf).2.1, (H.fr s f hf).2.2.keep hs hc.2.2 hd.1⟩, inj := H.inj }
theorem CaV.keep {γ : Gh} {T : TypeId → Bool} {w w' : World} {cb db : Nat} {c : Ca} (H : CaV γ w cb db c) (hs : Step γ T w w') (hd : T 5 = false ∧ T 124 = false ∧ T 93 = false ∧ T 33 = false) (hc : T 119 = false ∧ T 117 = false ∧ T 115 = false) : CaV γ w' cb db c := by
  obtain ⟨fb, D, β, H⟩ := H; exact ⟨fb, D, β, H.keep hs hd hc⟩
theorem CaV.below {γ : Gh} {w w' : World} {cb db : Nat} {c : Ca} (H : CaV γ w cb db c) (hb : Below w.heap.size w w') (h0 : γ.lim ≤ w.heap.size) : CaV γ w' cb db c :=
  H.keep (Step.below (S := fun _ => false) hb h0) ⟨rfl, rfl, rfl, rfl⟩ ⟨rfl, rfl, rfl⟩
theorem CaV.more {γ γ' : Gh} {w : World} {cb db : Nat} {c : Ca} (H : CaV γ w cb db c) (hl : Gh.Le w γ γ') : CaV γ' w cb db c := by
  obtain ⟨fb, D, β, H⟩ := H
  exact ⟨fb, D, β, { dk := H.dk.more hl, tg := H.tg.more hl H.lt, Bc := hl.B ▸ H.Bc, c0 := H.c0, c1 := H.c1, c2 := H.c2, c3 := H.c3, cz := H.cz, tf := H.tf.more hl H.own.lt, Bf := hl.B ▸ H.Bf, own := H.own, sz := H.sz, has := H.has, fr := fun s f hf => ⟨(H.fr s f hf).1, (H.fr s f hf).2.1, (H.fr s f hf).2.2.more hl⟩, inj := H.inj }⟩
def caS : TypeId → Bool := fun T => T == 93 || T == 33 || T == 124 || T == 119 || T == 117 || T == 115
theorem dkca : ∀ T, caS T = false → dkS T = false := fun T h => by simp [caS, dkS] at h ⊢; exact h.1.1.1
theorem CaW.disk {γ : Gh} {w w' : World} {cb db : Nat} {c : Ca} {d' : Dk} {fb : Nat} {D : DataW Value} {β : Nat → Nat} (H : CaW γ w cb db c fb D β) (hs : Step γ dkS w w') (hd : DkV γ w' db d') (hN : d'.N = c.d.N) : CaW γ w' cb db { c with d := d' } fb D β :=
  { dk := hd, tg := hs.tg _ _ (by decide) H.lt H.tg, Bc := H.Bc, c0 := cell_keep hs H.tg rfl H.c0, c1 := cell_keep hs H.tg rfl H.c1, c2 := cell_keep hs H.tg rfl H.c2, c3 := cell_keep hs H.tg rfl H.c3, cz := fun o ho => fz_keep hs H.tg rfl H.lt (H.cz o ho), tf := hs.tg _ _ (by decide) H.own.lt H.tf, Bf := H.Bf, own := ownsMap_block H.own (hs.heap H.tf rfl H.own.lt), sz := by rw [H.sz, Ca.keys_same (c := c) (c' := { c with d := d' }) hN fun _ => rfl], has := H.has, fr := fun s f hf => ⟨hN ▸ (H.fr s f hf).1, (H.fr s f hf).2.1, (H.fr s f hf).2.2.keep hs rfl rfl⟩, inj := H.inj }
theorem CaW.look {γ : Gh} {w : World} {cb db : Nat} {c : Ca} {fb : Nat} {D : DataW Value} {β : Nat → Nat} (H : CaW γ w cb db c fb D β) {s : Nat} {f : Fr} (h : c.F s = some f) : (Instr.lookup 117 (.map (some fb)) (.int .i64 (s : Int)) false).run Tryz.prog w = .ok (.pointer (some ⟨β s, 0, none⟩)) w := by
  obtain ⟨hN, hv, _⟩ := H.fr s f h
  have hs : s < 2 ^ 62 := Nat.lt_trans (Nat.lt_of_lt_of_le hN H.dk.hN) (by decide)
  obtain ⟨v, h1, h2⟩ := held_look H.own (int_keyed Tryz.underlying3) Tryz.underlying117 (Tryz.zeroValue116 w) (key_nat hs)
  rw [hv] at h2
  injection h2 with h2
  rw [h2]; exact h1
theorem CaW.lookn {γ : Gh} {w : World} {cb db : Nat} {c : Ca} {fb : Nat} {D : DataW Value} {β : Nat → Nat} (H : CaW γ w cb db c fb D β) {s : Nat} (h : c.F s = none) (hN : s < c.d.N) : (Instr.lookup 117 (.map (some fb)) (.int .i64 (s : Int)) false).run Tryz.prog w = .ok (.pointer none) w := by
  have hs : s < 2 ^ 62 := Nat.lt_trans (Nat.lt_of_lt_of_le hN H.dk.hN) (by decide)
  obtain ⟨v, h1, h2⟩ := held_look H.own (int_keyed Tryz.underlying3) Tryz.underlying117 (Tryz.zeroValue116 w) (key_nat hs)
  rw [atKey_of_not_has (H.hasn h)] at h2
  injection h2 with h2
  rw [← h2] at h1
  exact h1
theorem CaW.ne {γ : Gh} {w : World} {cb db : Nat} {c : Ca} {fb : Nat} {D : DataW Value} {β : Nat → Nat} (H : CaW γ w cb db c fb D β) {s : Nat} {f : Fr} (h : c.F s = some f) : β s ≠ cb ∧ β s ≠ fb ∧ cb ≠ fb := by
  have hf := (H.fr s f h).2.2.tg
  refine ⟨fun e => ?_, fun e => ?_, fun e => ?_⟩
  · rw [e] at hf; have := hf.uniq H.tg; cases this
  · rw [e] at hf; have := hf.uniq H.tf; cases this
  · have h1 := H.tg; rw [e] at h1; have := h1.uniq H.tf; cases this
end Go.Tb
namespace Go.Tb
open Go Go.RowKit Go.Proofs Go.Maps Go.Sp Go.ChangeMaps
theorem key3 : Keyed Tryz.prog 3 := int_keyed Tryz.underlying3
theorem cw_ok {γ : Gh} {w : World} {cb db : Nat} {c : Ca} {fb : Nat} {D : DataW Value} {β : Nat → Nat} (H : CaW γ w cb db c fb D β) (hok : c.Ok) (hd : c.d.dead = false) (h0 : γ.lim ≤ w.heap.size) {s : Nat} {f : Fr} (hs : c.F s = some f) (hP : c.d.P.length < 1000000) :
    Calls Tryz.prog 67 #[.pointer (some ⟨cb, 0, none⟩), .int .i64 s] w fun e w' => e = .returned (.int .i64 ((c.cw s).1 : Nat)) ∧ CaW γ w' cb db (c.cw s).2 fb D β ∧ Step γ dkS w w' := by
  obtain ⟨hsN, hv, F⟩ := H.fr s f hs
  have hL := H.look hs
  have c3 := H.c3
  have c0 := H.c0
  have hl := H.lt
  have hfl := F.lt
  obtain ⟨v, f0, frb⟩ := F.f0
  have f2 := F.f2
  have hlen := (hok.dom s f hs).2.2
  cases hdr : f.dirty with
  | false =>
    rw [hdr] at f2
    have e1 : c.cw s = (0, c) := by simp [Ca.cw, hs, hdr]
    rw [e1]
    have HH := Lib.hid H
    clear H F hv e1
    go_enter Tryz.func67, Tryz.ntmps67
    go_wp2
    go_ret
    exact ⟨rfl, HH.out, Step.refl _ _ _⟩
  | true =>
    rw [hdr] at f2
    have e1 : c.cw s = ((c.d.push s f.b).tick.pw, { c with d := (c.d.push s f.b).tick }) := by
      have e : c.d.write s f.b = ((c.d.push s f.b).tick.pw, (c.d.push s f.b).tick) := by
        unfold Dk.write
        rw [if_neg (by simp [hd]), if_neg (by omega)]
      simp only [Ca.cw, hs, hdr, if_true, e]
    rw [e1]
    have DW : Calls Tryz.prog 35 #[.pointer (some ⟨db, 0, none⟩), .int .i64 s, v] w.drew fun e w' => e = .returned (.int .i64 ((c.d.push s f.b).tick.pw : Nat)) ∧ Hid (CaW γ w' cb db { c with d := (c.d.push s f.b).tick } fb D β ∧ Step γ dkS w w') := (dwrite_ok (w := w.drew) (H.dk.keep (Step.refl γ (fun _ => false) w).drew ⟨rfl, rfl, rfl, rfl⟩) hd h0 hsN (frb.keep (Step.refl γ (fun _ => false) w).drew rfl).ra (by omega) hP).mono (by
      rintro e w' ⟨rfl, D1, S1⟩
      have S2 := (Step.refl γ dkS w).drew.trans S1
      exact ⟨rfl, Lib.hid ⟨H.disk S2 D1 rfl, S2⟩⟩)
    clear H F hv e1 frb hlen hP hsN
    go_enter Tryz.func67, Tryz.ntmps67
    go_upto_region 4 with (fail)
    go_region_with (go_at_call 35; refine DW.mono ?_; rintro e w5 ⟨rfl, hF⟩)
    all_goals
      go_wp2
      go_ret
      exact ⟨rfl, hF.out⟩
end Go.Tb
namespace Go.Tb
open Go Go.RowKit Go.Proofs Go.Maps Go.Sp Go.ChangeMaps
theorem Step.turned {γ : Gh} {w w' : World} {fb : Nat} (h : w.mapTurned w' fb) (hf : Tag γ w fb 117) (hB : γ.B ≤ fb) : Step γ (fun T => T == 117) w w' := by
  obtain ⟨es, ck, es', ck', hes, rfl⟩ := h
  have hbk : ∀ k, k ≠ fb → (setBlock w fb (.map es' ck')).heap[k]? = w.heap[k]? := fun k hne => heap_setBlock_other hes _ hne
  have hfb : (setBlock w fb (.map es' ck')).heap[fb]? = some (.map es' ck') := heap_setBlock_same hes _
  have hsz : (setBlock w fb (.map es' ck')).heap.size = w.heap.size := by simp [setBlock]
  refine ⟨⟨rfl, rfl, rfl, Nat.le_of_eq hsz.symm, fun k hk => hbk k (by omega)⟩, fun k hk ht => hbk k fun e => ?_, fun k T _ hk ht => ?_⟩
  · subst e
    have := ht 117 hf
    cases this
  · by_cases e : k = fb
    · subst e
      exact (Gh.kind_of (show kindOf _ k = kindOf w k by unfold kindOf; rw [hfb, hes])).trans ht
    · exact ht.same (hbk k e)
theorem CaW.drop {γ : Gh} {w w' : World} {cb db : Nat} {c : Ca} {fb n : Nat} {D : DataW Value} {β : Nat → Nat} (H : CaW γ w cb db c fb D β) {s : Nat} {f : Fr} (hs : c.F s = some f) (ht : w.mapTurned w' fb) (ho : w'.ownsMap Tryz.prog 3 heldR fb n (D.del (.int .i64 (s : Int)))) :
    CaW γ w' cb db (c.drop s) fb (D.del (.int .i64 (s : Int))) β ∧ Step γ (fun T => T == 117) w w' := by
  have S := Step.turned ht H.tf H.Bf
  have hss : (c.F s).isSome = true := by rw [hs]; rfl
  have hF : ∀ t, (c.drop s).F t = if t = s then none else c.F t := fun t => rfl
  have hkey : ∀ t : Nat, t ≠ s → Lit.int .i64 (t : Int) ≠ .int .i64 (s : Int) := fun t ht e => ht (by injection e with _ e; omega)
  refine ⟨{ dk := H.dk.keep S ⟨rfl, rfl, rfl, rfl⟩, tg := S.tg _ _ (by decide) H.lt H.tg, Bc := H.Bc, c0 := cell_keep S H.tg rfl H.c0, c1 := cell_keep S H.tg rfl H.c1, c2 := cell_keep S H.tg rfl H.c2, c3 := cell_keep S H.tg rfl H.c3, cz := fun o ho => fz_keep S H.tg rfl H.lt (H.cz o ho), tf := S.tg _ _ (by decide) H.own.lt H.tf, Bf := H.Bf, own := ?_, sz := ?_, has := fun x hx => ?_, fr := fun t g hg => ?_, inj := fun t u h1 h2 e => ?_ }, S⟩
  · obtain ⟨es, ck, hb, F, hle, e⟩ := ho
    exact ⟨es, ck, hb, F, by rw [e]; simp [Maps.size, length_sorted], e⟩
  · have h1 := Maps.size_del (k := .int .i64 (s : Int)) (H.own.tidy key3)
    rw [if_pos (H.has' hss)] at h1
    have h2 := Ca.keys_drop (c := c) (H.fr s f hs).1 hss
    have := H.sz
    omega
  · by_cases e : x = (s : Int)
    · subst e; rw [Maps.has_del_same] at hx; cases hx
    · rw [Maps.has_del_other (fun q => e (by injection q))] at hx
      obtain ⟨t, e1, e2⟩ := H.has x hx
      exact ⟨t, e1, by rw [hF, if_neg (by omega)]; exact e2⟩
  · rw [hF] at hg
    by_cases e : t = s
    · rw [if_pos e] at hg; cases hg
    · rw [if_neg e] at hg
      obtain ⟨h1, h2, h3⟩ := H.fr t g hg
      exact ⟨h1, fun z => by rw [Maps.atKey_del_other (hkey t e)]; exact h2 z, h3.keep S rfl rfl⟩
  · rw [hF] at h1 h2
    by_cases e1 : t = s
    · rw [if_pos e1] at h1; cases h1
    · by_cases e2 : u = s
      · rw [if_pos e2] at h2; cases h2
      · rw [if_neg e1] at h1; rw [if_neg e2] at h2; exact H.inj t u h1 h2 e
theorem ca172 : ∀ T, caS T = false → (T == 117) = false := fun T h => by simp [caS] at h ⊢; exact h.1.2
theorem out_ok {γ : Gh} {w : World} {cb db : Nat} {c : Ca} {fb : Nat} {D : DataW Value} {β : Nat → Nat} (H : CaW γ w cb db c fb D β) (hok : c.Ok) (hd : c.d.dead = false) (h0 : γ.lim ≤ w.heap.size) {s : Nat} {f : Fr} (hs : c.F s = some f) (hP : c.d.P.length < 1000000) :
    Calls Tryz.prog 125 #[.pointer (some ⟨cb, 0, none⟩), .int .i64 s] w fun e w' => e = .returned (.int .i64 ((c.out s).1 : Nat)) ∧ Hid (CaV γ w' cb db (c.out s).2 ∧ Step γ caS w w') := by
  have CW := cw_ok H hok hd h0 hs hP
  have hF := Ca.cw_F c s
  have hsN := (H.fr s f hs).1
  have hN := H.dk.hN
  by_cases he : (c.cw s).1 = 0
  · have eo : c.out s = (0, (c.cw s).2.drop s) := by simp [Ca.out, he]
    rw [eo]
    rw [he] at CW
    obtain ⟨c', hc'⟩ : ∃ c', c' = (c.cw s).2 := ⟨_, rfl⟩
    rw [← hc'] at CW hF ⊢
    have hs' : c'.F s = some f := by rw [hF.1]; exact hs
    have HCW := Lib.hid CW
    have HS := Lib.hid hs'
    have HK : Hid (keyOf Tryz.prog 3 (.int .i64 (s : Int)) = some (.int .i64 (s : Int))) := Lib.hid (key_nat (Nat.lt_trans (Nat.lt_of_lt_of_le hsN hN) (by decide)))
    clear H CW hF hs hs' hc' eo he hok hd hP hsN hN
    go_enter Tryz.func125, Tryz.ntmps125
    go_wp2_with (first
      | (go_at_call 67; refine HCW.out.mono ?_; rintro e w5 ⟨rfl, H5, S5⟩; have c3 := H5.c3; have hl := H5.lt; have HH5 := Lib.hid (And.intro H5 S5); clear H5 S5)
      | (at_delete; go_loud (refine wpList_delete_own _ rfl _ _ 117 3 rfl 116 key3 Tryz.underlying117 heldR fb _ _ rfl HH5.out.1.own (.int .i64 (s : Int)) _ rfl HK.out ?_; intro w6 hm6 ht6; have HD := Lib.hid (HH5.out.1.drop HS.out ht6 hm6); clear hm6 ht6)))
    go_ret
    exact ⟨rfl, Lib.hid ⟨HD.out.1.in, (HH5.out.2.mono dkca).trans (HD.out.2.mono ca172)⟩⟩
  · have eo : c.out s = c.cw s := by simp [Ca.out, he]
    rw [eo]
    have hb : (((c.cw s).1 : Nat) : Int) ≠ 0 := by omega
    have HB := Lib.hid hb
    generalize (c.cw s).1 = e1 at CW HB ⊢
    generalize (c.cw s).2 = c' at CW ⊢
    have ht : ((e1 : Int) == 0) = false := by simpa using HB.out
    have HCW := Lib.hid CW
    clear H CW hF hs eo he hok hd hP hsN hN hb
    go_enter Tryz.func125, Tryz.ntmps125
    go_wp2_with (go_at_call 67; refine HCW.out.mono ?_; rintro e w5 ⟨rfl, H5, S5⟩; have HH5 := Lib.hid (And.intro H5 S5); clear H5 S5)
    go_ret
    exact ⟨rfl, Lib.hid ⟨HH5.out.1.in, HH5.out.2.mono dkca⟩⟩
end Go.Tb
namespace Go.Tb
open Go Go.Proofs Go.RowKit Go.Maps Go.Sort
theorem quiet_val {P : Program} {ops : Array Oper} {C : World → Prop} {Q : Act → Prop} {a : Act} {o : Oper} {rest : List Oper} (v : Value) (hw : Region.wanted o (yielded ops a.tmps) = true)
    (h : ∀ w, C w → (execOp a.eval o).run P w = .ok (.value v) w) (hk : wpQuiet P ops C Q rest (a.put o.dst v)) : wpQuiet P ops C Q (o :: rest) a :=
  BigFrame.wpQuiet_want hw fun K hK => ⟨v, fun w hw => by unfold Oper.quietAt; rw [h w hw]; exact ⟨rfl, rfl⟩, hK _ hk⟩
def RoomInv (D0 : DataW Value) (Pn Us : Int → Int) (left : Lit → Bool) (od : Int) : Prop :=
  (od = -1 ∧ ∀ x, Maps.has D0 (.int .i64 x) = true → left (.int .i64 x) = false → Pn x ≠ 0) ∨
  (0 ≤ od ∧ Maps.has D0 (.int .i64 od) = true ∧ left (.int .i64 od) = false ∧ Pn od = 0 ∧ (Lit.int .i64 od).wf = true ∧ ∀ x, Maps.has D0 (.int .i64 x) = true → left (.int .i64 x) = false → Pn x = 0 → Us od ≤ Us x)
def Frames (W : World) (D0 : DataW Value) (Pn Us : Int → Int) : Prop :=
  ∀ (x : Int) (c : Value), (∀ zd, D0.atKey (.int .i64 x) zd = .held c) → ∃ Ab Ao, c = .pointer (some ⟨Ab, Ao, none⟩) ∧ Ab < W.heap.size ∧ W.cell? ⟨Ab, Ao + 3, none⟩ = some (.int .i64 (Pn x)) ∧ W.cell? ⟨Ab, Ao + 1, none⟩ = some (.int .i64 (Us x)) ∧ 0 ≤ x
theorem inv_start (D0 : DataW Value) (Pn Us : Int → Int) : RoomInv D0 Pn Us (Maps.has D0) (-1) := .inl ⟨rfl, fun x h1 h2 => by rw [h1] at h2; cases h2⟩
theorem same_int {x y : Int} (h : (Lit.int .i64 x).sameKey (.int .i64 y) = true) : x = y := by
  by_cases e : x = y
  · exact e
  · have := Maps.sameKey_ne (a := .int .i64 x) (b := .int .i64 y) (fun h => e (by injection h))
    rw [this] at h; cases h
theorem left_old {left : Lit → Bool} {x y : Int} (h : (left (.int .i64 y) && !(Lit.int .i64 y).sameKey (.int .i64 x)) = false) : left (.int .i64 y) = false ∨ y = x := by
  rcases Bool.and_eq_false_iff.1 h with h | h
  · exact .inl h
  · exact .inr (same_int (by simpa using h))
theorem left_new {left : Lit → Bool} {x : Int} : (left (.int .i64 x) && !(Lit.int .i64 x).sameKey (.int .i64 x)) = false := by
  simp [Lit.sameKey]
theorem left_keep {left : Lit → Bool} {x y : Int} (h : left (.int .i64 y) = false) : (left (.int .i64 y) && !(Lit.int .i64 y).sameKey (.int .i64 x)) = false := by simp [h]
theorem inv_pinned {D0 : DataW Value} {Pn Us : Int → Int} {left : Lit → Bool} {od x : Int} (h : RoomInv D0 Pn Us left od) (hp : Pn x ≠ 0) : RoomInv D0 Pn Us (fun z => left z && !z.sameKey (.int .i64 x)) od := by
  rcases h with ⟨h1, h2⟩ | ⟨h1, h2, h3, h4, hw, h5⟩
  · exact .inl ⟨h1, fun y hy hl => (left_old hl).elim (h2 y hy) fun e => e ▸ hp⟩
  · exact .inr ⟨h1, h2, left_keep h3, h4, hw, fun y hy hl h0 => (left_old hl).elim (fun h => h5 y hy h h0) fun e => absurd (e ▸ h0) hp⟩
theorem inv_first {D0 : DataW Value} {Pn Us : Int → Int} {left : Lit → Bool} {od x : Int} (h : RoomInv D0 Pn Us left od) (hp : Pn x = 0) (hn : od < 0) (h0 : 0 ≤ x) (hx : Maps.has D0 (.int .i64 x) = true) (hw : (Lit.int .i64 x).wf = true) : RoomInv D0 Pn Us (fun z => left z && !z.sameKey (.int .i64 x)) x := by
  rcases h with ⟨h1, h2⟩ | ⟨h1, _⟩
  · exact .inr ⟨h0, hx, left_new, hp, hw, fun y hy hl hz => (left_old hl).elim (fun h => absurd hz (h2 y hy h)) fun e => e ▸ Int.le_refl _⟩
  · omega
theorem inv_less {D0 : DataW Value} {Pn Us : Int → Int} {left : Lit → Bool} {od x : Int} (h : RoomInv D0 Pn Us left od) (hp : Pn x = 0) (hn : ¬ od < 0) (hlt : Us x < Us od) (h0 : 0 ≤ x) (hx : Maps.has D0 (.int .i64 x) = true) (hw : (Lit.int .i64 x).wf = true) : RoomInv D0 Pn Us (fun z => left z && !z.sameKey (.int .i64 x)) x := by
  rcases h with ⟨h1, h2⟩ | ⟨h1, h2, h3, h4, _, h5⟩
  · omega
  · exact .inr ⟨h0, hx, left_new, hp, hw, fun y hy hl hz => (left_old hl).elim (fun h => by have := h5 y hy h hz; omega) fun e => e ▸ Int.le_refl _⟩
theorem inv_stays {D0 : DataW Value} {Pn Us : Int → Int} {left : Lit → Bool} {od x : Int} (h : RoomInv D0 Pn Us left od) (hn : ¬ od < 0) (hlt : ¬ Us x < Us od) : RoomInv D0 Pn Us (fun z => left z && !z.sameKey (.int .i64 x)) od := by
  rcases h with ⟨h1, h2⟩ | ⟨h1, h2, h3, h4, hw, h5⟩
  · omega
  · exact .inr ⟨h1, h2, left_keep h3, h4, hw, fun y hy hl hz => (left_old hl).elim (fun h => h5 y hy h hz) fun e => by subst e; omega⟩
theorem inv_end {D0 : DataW Value} {Pn Us : Int → Int} {left : Lit → Bool} {od k : Int} (h : RoomInv D0 Pn Us left od) (hl : ∀ kl, left kl = false) (hk : Maps.has D0 (.int .i64 k) = true) (hp : Pn k = 0)
    (hu : ∀ x, x ≠ k → Maps.has D0 (.int .i64 x) = true → Pn x = 0 → Us k < Us x) : od = k := by
  rcases h with ⟨h1, h2⟩ | ⟨h1, h2, h3, h4, _, h5⟩
  · exact absurd hp (h2 k hk (hl _))
  · by_cases e : od = k
    · exact e
    · have a := hu od e h2 h4
      have b := h5 k hk (hl _) hp
      omega
theorem ranges_dr {P : Program} {K : TypeId} {R : Value → Option (DataW Value × List MemPlace)} {w : World} {b r m : Nat} {D : DataW Value} {left : Lit → Bool} {cnt : Nat} (n : Nat) (h : w.ranges P K R b r m D left cnt) : (w.drewN n).ranges P K R b r m D left cnt := by
  unfold World.ranges at *; exact h
theorem below_dr {B : Nat} {a w : World} (n : Nat) (h : Below B a w) : Below B a (w.drewN n) := ⟨h.os, h.tape, h.output, h.size, h.block⟩
theorem left_dr {w w' : World} {b r : Nat} (n : Nat) (h : w.rangeLeft b r < w'.rangeLeft b r) : (w.drewN n).rangeLeft b r < w'.rangeLeft b r := h
theorem neg_decide {a b : Int} (h : ¬ a < b) : decide (a < b) = false := by simpa using h
set_option maxHeartbeats 1000000 in
theorem room_walk (B o b nn : Nat) (D0 : DataW Value) (most : Int) (W : World) (Pn Us : Int → Int) (k : Int) (R : Ending → World → Prop)
    (hm : W.cell? ⟨B, o + 1, none⟩ = some (.int .i64 most)) (hf : W.cell? ⟨B, o + 3, none⟩ = some (.map (some b))) (hown : W.ownsMap Tryz.prog 3 heldR b nn D0) (hsz : ¬ (Maps.size D0 : Int) < most)
    (hB : B < W.heap.size)
    (hfr : Hid (Frames W D0 Pn Us)) (hk : Hid (Maps.has D0 (.int .i64 k) = true)) (hp : Hid (Pn k = 0)) (hu : Hid (∀ x, x ≠ k → Maps.has D0 (.int .i64 x) = true → Pn x = 0 → Us k < Us x)) (hk0 : 0 ≤ k)
    (hout : Hid (∀ W', Below W.heap.size W W' → Calls Tryz.prog 125 #[.pointer (some ⟨B, o, none⟩), .int .i64 k] W' fun e w' => ∃ v, e = .returned v ∧ R e w')) :
    Calls Tryz.prog 108 #[.pointer (some ⟨B, o, none⟩)] W R := by
  have hl : ∀ n ty, (Builtin.len_ #[117] ty #[.map (some b)]).run Tryz.prog (W.drewN n) = .ok (.int .i64 (Maps.size D0)) (W.drewN n) := fun n ty => World.ownsMap.len (show (W.drewN n).ownsMap Tryz.prog 3 heldR b nn D0 from hown) Tryz.underlying117 ty
  have hd : decide ((Maps.size D0 : Int) < most) = false := by simpa using hsz
  generalize hq : Maps.size D0 = q at hl hd hsz
  have Hq := Lib.hid hq
  clear hq
  go_enter Tryz.func108, Tryz.ntmps108
  go_wp2
  go_quiet (fail)
  clear hl
  have hown' : (W.drewN nq).ownsMap Tryz.prog 3 heldR b nn D0 := hown
  go_wp2_with (first
    | (at_range; refine wpList_range_own _ rfl _ 117 rfl 3 _ key3 Tryz.underlying117 _ b nn _ rfl hown' ?_; intro w0 hrg0 hg0 hs0))
  go_frame
  go_loopw [3] (fun v wr => ∃ (left : Lit → Bool) (cnt : Nat) (od : Int), v = .int .i64 od ∧ wr.ranges Tryz.prog 3 heldR b W.heap.size nn D0 left cnt ∧ Hid (RoomInv D0 Pn Us left od) ∧ Below W.heap.size W wr)
    (fun _ wr => wr.rangeLeft b W.heap.size)
  case atStart =>
    exact ⟨_, _, -1, rfl, hrg0, inv_start D0 Pn Us, Below.grown (w := W.drewN nq) ⟨rfl, rfl, rfl, Nat.le_refl _, fun _ _ => rfl⟩ hg0 (Nat.le_refl _) (fun k hk => by cases hk)⟩
  case round =>
    obtain ⟨left, cnt, od, rfl, hrg, hinv, hbl⟩ := hrel
    go_wp2_with (first
      | (at_next; refine wpList_next_ranges _ rfl _ rfl 3 key3 heldR encZ id (fun key kl hk => by obtain ⟨x, hx, _⟩ := Maps.keyOf_i64 Tryz.underlying3 hk; exact ⟨x, hx⟩) (fun v _ _ => ⟨v, rfl⟩) b W.heap.size nn _ _ _ rfl hrg ?_ ?_))
    · intro hc0 hl0
      obtain rfl := inv_end hinv.out hl0 hk.out hp.out hu.out
      have hkd : decide (od < 0) = false := by simpa using hk0
      clear hl0 hc0
      go_wp2_with fail
      refine (hout.out _ hbl).mono ?_
      rintro e w2 ⟨v, rfl, hR⟩
      go_wp2
      first | exact hR | (go_ret; exact hR)
    · intro x c kl yd yp w2 cnt2 hkey hlk hv hat hrg2 hlt hg2 hs2 hen
      obtain ⟨x', ex, rfl, hwf⟩ := Maps.keyOf_i64 Tryz.underlying3 hkey
      obtain rfl : x = x' := encZ_inj ex
      have hv2 : yd = .held c := by simp [heldR] at hv; exact hv.1.symm
      subst hv2
      have hhas := Maps.has_true_of_atKey hat
      obtain ⟨Ab, Ao, rfl, hAlt, hpin, hus, hx0⟩ := hfr.out x c hat
      have hb2 : Below W.heap.size W w2 := hbl.grown hg2 hbl.size (fun k hk => by cases hk; exact Nat.le_refl _)
      have hc3 := (hb2.cell (p := ⟨Ab, Ao + 3, none⟩) hAlt).trans hpin
      have hc1 := (hb2.cell (p := ⟨Ab, Ao + 1, none⟩) hAlt).trans hus
      have hcf := (hb2.cell (p := ⟨B, o + 3, none⟩) hB).trans hf
      have hms : w2.rangeLeft b W.heap.size < wr.rangeLeft b W.heap.size := by rw [hrg2.left_eq, hrg.left_eq]; exact hlt
      have HM := Lib.hid hms
      have HE := Lib.hid hen
      have HR2 := Lib.hid hrg2
      have HH := Lib.hid hhas
      have HW := Lib.hid hwf
      clear hpin hus hms hrg2 hrg hlt hhas hwf hkey hlk hv hat hs2 hg2 hbl hm hf hown hown' hrg0 hg0 hs0 ex
      by_cases h1 : Pn x = 0
      case neg =>
        have hd1 : (Pn x == 0) = false := by simpa using h1
        have HI := Lib.hid (inv_pinned hinv.out h1)
        clear h1
        generalize Pn x = px at hc3 hd1
        go_wp2_with (rw [HE.out])
        go_quiet (fail)
        go_wp2
        go_roundw
        case rel => (repeat apply Exists.intro); exact ⟨⟨_, cnt2, _, rfl, ranges_dr _ HR2.out, HI, below_dr _ hb2⟩, rfl⟩
        case measure => exact left_dr _ HM.out
      case pos =>
        rw [h1] at hc3
        by_cases h2 : od < 0
        case pos =>
          have hd2 : decide (od < 0) = true := by simpa using h2
          have HI := Lib.hid (inv_first hinv.out h1 h2 hx0 HH.out HW.out)
          clear h1 hinv
          go_wp2_with (rw [HE.out])
          go_quiet (fail)
          go_wp2
          go_roundw
          case rel => (repeat apply Exists.intro); exact ⟨⟨_, cnt2, _, rfl, ranges_dr _ HR2.out, HI, below_dr _ hb2⟩, rfl⟩
          case measure => exact left_dr _ HM.out
        case neg =>
          have hd2 : decide (od < 0) = false := by simpa using h2
          obtain ⟨g1, g2, g3, g4, g5, g6⟩ : 0 ≤ od ∧ Maps.has D0 (.int .i64 od) = true ∧ left (.int .i64 od) = false ∧ Pn od = 0 ∧ (Lit.int .i64 od).wf = true ∧ ∀ x, Maps.has D0 (.int .i64 x) = true → left (.int .i64 x) = false → Pn x = 0 → Us od ≤ Us x := by
            rcases hinv.out with ⟨e, _⟩ | h
            · omega
            · exact h
          have hk2 := Maps.keyOf_int_mk Tryz.underlying3 g5
          obtain ⟨v2, ps2, hrun2, hRv2⟩ := (HR2.out.owns).lookup (z := .pointer none) key3 Tryz.underlying117 (by kernel_rfl) (zd := .held (.pointer none)) (zp := []) rfl hk2
          have hx2 : DataW.held v2 = D0.atKey (.int .i64 od) (.held (.pointer none)) := by simp [heldR] at hRv2; exact hRv2.1
          obtain ⟨Ab2, Ao2, rfl, hAlt2, hpin2, hus2, _⟩ := hfr.out od v2 fun zd => (atKey_has g2 _ _).trans hx2.symm
          have hlk : ∀ n, (Instr.lookup 117 (.map (some b)) (.int .i64 od) false).run Tryz.prog (w2.drewN n) = .ok (.pointer (some ⟨Ab2, Ao2, none⟩)) (w2.drewN n) := fun n => by
            obtain ⟨v3, ps3, hrun3, hRv3⟩ := (ranges_dr n HR2.out).owns.lookup (z := .pointer none) key3 Tryz.underlying117 (by kernel_rfl) (zd := .held (.pointer none)) (zp := []) rfl hk2
            have hx3 : DataW.held v3 = D0.atKey (.int .i64 od) (.held (.pointer none)) := by simp [heldR] at hRv3; exact hRv3.1
            have : v3 = .pointer (some ⟨Ab2, Ao2, none⟩) := by
              have e := hx3.trans hx2.symm
              injection e
            rw [hrun3, this]
          have hc4 := (hb2.cell (p := ⟨Ab2, Ao2 + 1, none⟩) hAlt2).trans hus2
          clear hrun2 hRv2 hx2 hpin2 hus2 hk2 g3 g4 g6 g1
          by_cases h3 : Us x < Us od
          case pos =>
            have hd3 : decide (Us x < Us od) = true := by simpa using h3
            have HI := Lib.hid (inv_less hinv.out h1 h2 h3 hx0 HH.out HW.out)
            clear h1 hinv g2 g5
            generalize Us x = ux at hc1 hd3 h3
            generalize Us od = uo at hc4 hd3 h3
            go_wp2_with (rw [HE.out])
            go_quiet (fail)
            go_wp2
            go_roundw
            case rel => (repeat apply Exists.intro); exact ⟨⟨_, cnt2, _, rfl, ranges_dr _ HR2.out, HI, below_dr _ hb2⟩, rfl⟩
            case measure => exact left_dr _ HM.out
          case neg =>
            have hd3 : decide (Us x < Us od) = false := by simpa using h3
            have HI := Lib.hid (inv_stays (x := x) hinv.out h2 h3)
            clear h1 hinv g2 g5
            generalize Us x = ux at hc1 hd3 h3
            generalize Us od = uo at hc4 hd3 h3
            go_wp2_with (rw [HE.out])
            go_quiet (fail)
            go_wp2
            go_roundw
            case rel => (repeat apply Exists.intro); exact ⟨⟨_, cnt2, _, rfl, ranges_dr _ HR2.out, HI, below_dr _ hb2⟩, rfl⟩
            case measure => exact left_dr _ HM.out
end Go.Tb
namespace Go.Tb
open Go Go.RowKit Go.Proofs Go.Maps Go.Sp Go.ChangeMaps
theorem CaW.frames {γ : Gh} {w : World} {cb db : Nat} {c : Ca} {fb : Nat} {D : DataW Value} {β : Nat → Nat} (H : CaW γ w cb db c fb D β) : Frames w D (fun _ => 0) (fun x => (c.when x.toNat : Int)) := fun x v hv => by
  obtain ⟨s, rfl, hs⟩ := H.has x (Maps.has_true_of_atKey hv)
  obtain ⟨f, hf⟩ := Option.isSome_iff_exists.1 hs
  obtain ⟨h1, h2, F⟩ := H.fr s f hf
  have e := (hv (.held (.pointer none))).symm.trans (h2 (.held (.pointer none)))
  injection e with e
  subst e
  refine ⟨β s, 0, rfl, F.lt, F.f3, ?_, by omega⟩
  have : c.when s = f.used := by simp [Ca.when, hf]
  show _ = some (Value.int .i64 ((c.when (Int.toNat (s : Int)) : Nat) : Int))
  rw [Int.toNat_natCast, this]
  exact F.f1
theorem room_ok {γ : Gh} {w : World} {cb db : Nat} {c : Ca} (H : CaV γ w cb db c) (hok : c.Ok) (hM : 1 ≤ c.M) (hd : c.d.dead = false) (h0 : γ.lim ≤ w.heap.size) (hP : c.d.P.length < 1000000) :
    Calls Tryz.prog 108 #[.pointer (some ⟨cb, 0, none⟩)] w fun e w' => e = .returned (.int .i64 ((c.room).1 : Nat)) ∧ Hid (CaV γ w' cb db (c.room).2 ∧ Step γ caS w w') := by
  obtain ⟨fb, D, β, H⟩ := H
  have hsz := H.sz
  by_cases hr : c.keys.length < c.M
  · have e1 : c.room = (0, c) := by simp [Ca.room, hr]
    rw [e1]
    have hl : ∀ n ty, (Builtin.len_ #[117] ty #[.map (some fb)]).run Tryz.prog (w.drewN n) = .ok (.int .i64 (Maps.size D)) (w.drewN n) := fun n ty => World.ownsMap.len (show (w.drewN n).ownsMap Tryz.prog 3 heldR fb _ D from H.own) Tryz.underlying117 ty
    rw [hsz] at hl
    have c1 := H.c1
    have c3 := H.c3
    have hlt := H.lt
    have HH : Hid (∀ n, CaV γ (w.drewN n) cb db c ∧ Step γ caS w (w.drewN n)) := Lib.hid fun n => by
      have hb : Below w.heap.size w (w.drewN n) := below_drewN' (Below.refl _ _) n
      exact ⟨CaV.below H.in hb h0, Step.below hb h0⟩
    have hi : (c.keys.length : Int) < (c.M : Int) := by omega
    have hdc : decide ((c.keys.length : Int) < (c.M : Int)) = true := by simpa using hi
    generalize c.keys.length = q at hl hi hdc
    generalize c.M = m at c1 hi hdc
    clear H hsz hr e1
    go_enter Tryz.func108, Tryz.ntmps108
    go_wp2
    go_quiet (fail)
    go_wp2
    go_ret
    exact ⟨rfl, Lib.hid (HH.out _)⟩
  · have hne : c.keys ≠ [] := fun e => hr (by rw [e]; show 0 < c.M; omega)
    obtain ⟨k, h1, h2, h3⟩ := Ca.oldest_spec hok hne
    have e1 : c.room = c.out k := by unfold Ca.room; rw [if_neg hr, h1]
    rw [e1]
    obtain ⟨hkN, hks⟩ := Ca.mem_keys.1 h2
    obtain ⟨f, hf⟩ := Option.isSome_iff_exists.1 hks
    refine room_walk cb 0 fb _ D (c.M : Int) w (fun _ => 0) (fun x => (c.when x.toNat : Int)) (k : Int) _ (by exact H.c1) (by exact H.c3) H.own (by rw [hsz]; omega) H.lt (Lib.hid H.frames) (Lib.hid (H.has' hks)) (Lib.hid rfl) (Lib.hid ?_) (by omega) (Lib.hid ?_)
    · intro x hx hh _
      obtain ⟨s, rfl, hs⟩ := H.has x hh
      obtain ⟨g, hg⟩ := Option.isSome_iff_exists.1 hs
      have := h3 s (Ca.mem_keys.2 ⟨(H.fr s g hg).1, hs⟩) (fun e => hx (by rw [e]))
      simp only [Int.toNat_natCast]
      omega
    · intro W' hb
      refine (out_ok (H.keep (Step.below (S := fun _ => false) hb h0) ⟨rfl, rfl, rfl, rfl⟩ ⟨rfl, rfl, rfl⟩) hok hd (Nat.le_trans h0 hb.size) hf hP).mono ?_
      rintro e w' ⟨rfl, h⟩
      exact ⟨_, rfl, rfl, Lib.hid ⟨h.out.1, (Step.below hb h0).trans h.out.2⟩⟩
end Go.Tb
namespace Go.Tb
open Go Go.RowKit Go.Proofs Go.Maps Go.Sp Go.ChangeMaps
theorem FrV.set {γ : Gh} {w : World} {b o : Nat} {f f' : Fr} {v : Value} (H : FrV γ w b f) (ho : 1 ≤ o ∧ o < 3) (hb : f'.b = f.b)
    (h1 : (if o = 1 then v else .int .i64 (f.used : Int)) = .int .i64 (f'.used : Int)) (h2 : (if o = 2 then v else .bool f.dirty) = .bool f'.dirty) : FrV γ (w.setCell ⟨b, o, none⟩ v) b f' ∧ Step γ (fun T => T == 115) w (w.setCell ⟨b, o, none⟩ v) := by
  obtain ⟨v0, e0, e1⟩ := H.f0
  obtain ⟨u, hu⟩ : ∃ u, w.cell? ⟨b, o, none⟩ = some u := by
    have : o = 1 ∨ o = 2 := by omega
    rcases this with rfl | rfl
    · exact ⟨_, H.f1⟩
    · exact ⟨_, H.f2⟩
  have S : Step γ (fun T => T == 115) w (w.setCell ⟨b, o, none⟩ v) := Step.set H.tg rfl H.Bb hu
  have any : ∀ {o' : Nat} {u : Value}, w.cell? ⟨b, o', none⟩ = some u → (w.setCell ⟨b, o, none⟩ v).cell? ⟨b, o', none⟩ = some (if o = o' then v else u) := fun {o' u} hu => by
    by_cases h : o = o'
    · subst h; rw [if_pos rfl]; exact World.cell?_setCell_same w _ _ hu
    · rw [if_neg h, World.cell?_setCell_other _ _ _ _ (by intro q; injection q with _ q; exact h q)]; exact hu
  refine ⟨⟨H.tg.set hu, H.Bb, ⟨v0, ?_, hb ▸ e1.keep S rfl⟩, by rw [← h1]; exact any H.f1, by rw [← h2]; exact any H.f2, ?_, fun o ho => by rw [World.frozen?_setCell]; exact H.fz o ho⟩, S⟩
  · have := any e0; rwa [if_neg (by omega)] at this
  · have := any H.f3; rwa [if_neg (by omega)] at this
theorem CaW.frame {γ : Gh} {w w' : World} {cb db : Nat} {c : Ca} {fb : Nat} {D : DataW Value} {β : Nat → Nat} (H : CaW γ w cb db c fb D β) {s : Nat} {f f' : Fr} (hs : c.F s = some f) (S : Step γ (fun T => T == 115) w w') (ho : ∀ t, t ≠ s → (c.F t).isSome = true → w'.heap[β t]? = w.heap[β t]?) (F' : FrV γ w' (β s) f') :
    CaW γ w' cb db (c.lay s f') fb D β := by
  have hF : ∀ t, (c.lay s f').F t = if t = s then some f' else c.F t := fun t => rfl
  have hss : (c.F s).isSome = true := by rw [hs]; rfl
  have hsome : ∀ t, ((c.lay s f').F t).isSome = (c.F t).isSome := fun t => by
    rw [hF]; split
    · rename_i e; rw [e, hss]; rfl
    · rfl
  refine { dk := H.dk.keep S ⟨rfl, rfl, rfl, rfl⟩, tg := S.tg _ _ (by decide) H.lt H.tg, Bc := H.Bc, c0 := cell_keep S H.tg rfl H.c0, c1 := cell_keep S H.tg rfl H.c1, c2 := cell_keep S H.tg rfl H.c2, c3 := cell_keep S H.tg rfl H.c3, cz := fun o ho => fz_keep S H.tg rfl H.lt (H.cz o ho), tf := S.tg _ _ (by decide) H.own.lt H.tf, Bf := H.Bf, own := ownsMap_block H.own (S.heap H.tf rfl H.own.lt), sz := by rw [H.sz, Ca.keys_same (c := c) (c' := c.lay s f') rfl hsome], has := fun x hx => (let ⟨t, e1, e2⟩ := H.has x hx; ⟨t, e1, (hsome t).trans e2⟩), fr := fun t g hg => ?_, inj := fun t u h1 h2 e => H.inj t u ((hsome t).symm.trans h1) ((hsome u).symm.trans h2) e }
  rw [hF] at hg
  by_cases e : t = s
  · subst e
    rw [if_pos rfl] at hg
    injection hg with hg
    subst hg
    exact ⟨(H.fr t f hs).1, (H.fr t f hs).2.1, F'⟩
  · rw [if_neg e] at hg
    obtain ⟨h1, h2, h3⟩ := H.fr t g hg
    exact ⟨h1, h2, h3.same (ho t e (by rw [hg]; rfl)) S rfl⟩
theorem CaW.clock {γ : Gh} {w : World} {cb db : Nat} {c : Ca} {fb : Nat} {D : DataW Value} {β : Nat → Nat} (H : CaW γ w cb db c fb D β) (k : Nat) : CaW γ (w.setCell ⟨cb, 2, none⟩ (.int .i64 (k : Int))) cb db { c with clk := k } fb D β ∧ Step γ (fun T => T == 119) w (w.setCell ⟨cb, 2, none⟩ (.int .i64 (k : Int))) := by
  have S : Step γ (fun T => T == 119) w (w.setCell ⟨cb, 2, none⟩ (.int .i64 (k : Int))) := Step.set H.tg rfl H.Bc H.c2
  have oth : ∀ {o : Nat} {u : Value}, o ≠ 2 → w.cell? ⟨cb, o, none⟩ = some u → (w.setCell ⟨cb, 2, none⟩ (.int .i64 (k : Int))).cell? ⟨cb, o, none⟩ = some u := fun {o u} ho hu => by
    rw [World.cell?_setCell_other _ _ _ _ (by intro h; injection h with _ h; exact ho h.symm)]; exact hu
  exact ⟨{ dk := H.dk.keep S ⟨rfl, rfl, rfl, rfl⟩, tg := H.tg.set H.c2, Bc := H.Bc, c0 := oth (by decide) H.c0, c1 := oth (by decide) H.c1, c2 := World.cell?_setCell_same w _ _ H.c2, c3 := oth (by decide) H.c3, cz := fun o ho => by rw [World.frozen?_setCell]; exact H.cz o ho, tf := S.tg _ _ (by decide) H.own.lt H.tf, Bf := H.Bf, own := ownsMap_block H.own (S.heap H.tf rfl H.own.lt), sz := H.sz, has := H.has, fr := fun t g hg => ⟨(H.fr t g hg).1, (H.fr t g hg).2.1, (H.fr t g hg).2.2.keep S rfl rfl⟩, inj := H.inj }, S⟩
theorem ca170 : ∀ T, caS T = false → (T == 115) = false := fun T h => by simp [caS] at h ⊢; exact h.2
theorem ca174 : ∀ T, caS T = false → (T == 119) = false := fun T h => by simp [caS] at h ⊢; exact h.1.1.2
def usedW (w : World) (cb b : Nat) (k : Nat) : World := ((w.setCell ⟨cb, 2, none⟩ (.int .i64 (k : Int))).setCell ⟨b, 1, none⟩ (.int .i64 (k : Int))).drew
theorem CaW.used {γ : Gh} {w : World} {cb db : Nat} {c : Ca} {fb : Nat} {D : DataW Value} {β : Nat → Nat} (H : CaW γ w cb db c fb D β) {s : Nat} {f : Fr} (hs : c.F s = some f) :
    CaW γ (usedW w cb (β s) (c.clk + 1)) cb db (c.use s) fb D β ∧ Step γ caS w (usedW w cb (β s) (c.clk + 1)) := by
  obtain ⟨H1, S1⟩ := H.clock (c.clk + 1)
  have F1 := (H1.fr s f hs).2.2
  obtain ⟨F2, S2⟩ := F1.set (v := .int .i64 ((c.clk + 1 : Nat) : Int)) (o := 1) (f' := { f with used := c.clk + 1 }) (by decide) rfl (if_pos rfl) (if_neg (by decide))
  have hne := (H.ne hs).1
  have H2 := H1.frame hs S2 (fun t ht h1 => heap_setCell_other _ (⟨β s, 1, none⟩ : Addr) _ _ (fun e => ht (H.inj t s h1 (by rw [hs]; rfl) e))) F2
  have e1 : Ca.lay { c with clk := c.clk + 1 } s { f with used := c.clk + 1 } = c.use s := by simp [Ca.use, hs, Ca.lay]
  rw [e1] at H2
  have S3 := ((S1.mono ca174).trans (S2.mono ca170)).drew
  exact ⟨H2.keep (Step.refl γ (fun _ => false) _).drew ⟨rfl, rfl, rfl, rfl⟩ ⟨rfl, rfl, rfl⟩, S3⟩
theorem use_ok {γ : Gh} {w : World} {cb db : Nat} {c : Ca} {fb : Nat} {D : DataW Value} {β : Nat → Nat} (H : CaW γ w cb db c fb D β) {s : Nat} {f : Fr} (hs : c.F s = some f) (hclk : c.clk < 1000000000) :
    Calls Tryz.prog 109 #[.pointer (some ⟨cb, 0, none⟩), .int .i64 s] w fun e w' => e = .returned (.pointer (some ⟨β s, 0, none⟩)) ∧ w' = usedW w cb (β s) (c.clk + 1) := by
  obtain ⟨_, _, F⟩ := H.fr s f hs
  obtain ⟨hn1, hn2, hn3⟩ := H.ne hs
  have c2 := H.c2
  have c3 := H.c3
  have cz := H.cz 2 (by decide)
  have hl := H.lt
  have hfl := F.lt
  have f1 := F.f1
  have fz1 := F.fz 1 (by decide)
  have hL0 : ∀ (W : World) (hb : W.heap[fb]? = w.heap[fb]?), (Instr.lookup 117 (.map (some fb)) (.int .i64 (s : Int)) false).run Tryz.prog W = .ok (.pointer (some ⟨β s, 0, none⟩)) W := fun W hb => by
    obtain ⟨hN, hv, _⟩ := H.fr s f hs
    have hs' : s < 2 ^ 62 := Nat.lt_trans (Nat.lt_of_lt_of_le hN H.dk.hN) (by decide)
    obtain ⟨v, h1, h2⟩ := held_look (ownsMap_block H.own hb) (int_keyed Tryz.underlying3) Tryz.underlying117 (Tryz.zeroValue116 W) (key_nat hs')
    rw [hv] at h2
    injection h2 with h2
    rw [← h2] at h1
    exact h1
  have hL : ∀ x, (Instr.lookup 117 (.map (some fb)) (.int .i64 (s : Int)) false).run Tryz.prog ((w.setCell ⟨cb, 2, none⟩ x).drew) = .ok (.pointer (some ⟨β s, 0, none⟩)) ((w.setCell ⟨cb, 2, none⟩ x).drew) := fun x => hL0 _ (heap_setCell_other w (⟨cb, 2, none⟩ : Addr) fb x (Ne.symm hn3))
  have hL' : ∀ y x, (Instr.lookup 117 (.map (some fb)) (.int .i64 (s : Int)) false).run Tryz.prog (((w.setCell ⟨cb, 2, none⟩ x).setCell ⟨β s, 1, none⟩ y).drew) = .ok (.pointer (some ⟨β s, 0, none⟩)) (((w.setCell ⟨cb, 2, none⟩ x).setCell ⟨β s, 1, none⟩ y).drew) := fun y x => hL0 _ ((heap_setCell_other _ (⟨β s, 1, none⟩ : Addr) fb y (Ne.symm hn2)).trans (heap_setCell_other w (⟨cb, 2, none⟩ : Addr) fb x (Ne.symm hn3)))
  have hcb : cb ≠ β s := Ne.symm hn1
  have hk0 : (0 : Int) ≤ (c.clk : Int) := by omega
  have hk1 : (c.clk : Int) ≤ 1000000000 := by omega
  have hcast : (((c.clk + 1 : Nat)) : Int) = (c.clk : Int) + 1 := by omega
  unfold usedW
  rw [hcast]
  generalize c.clk = k at *
  generalize β s = b at *
  clear H F hL0 hclk hcast
  go_enter Tryz.func109, Tryz.ntmps109
  go_wp2
  go_region
  go_wp2
  go_ret
  exact ⟨rfl, rfl⟩
end Go.Tb
namespace Go.Tb
open Go Go.RowKit Go.Proofs Go.Maps Go.Sp Go.ChangeMaps
theorem FrV.made {γ : Gh} {w : World} {v : Value} {bs : Bs} (h0 : γ.lim ≤ w.heap.size) (hb : RB γ w v bs) : FrV γ (w.alloc (.cells #[v, .int .i64 0, .bool false, .int .i64 0] 115)) w.heap.size ⟨bs, 0, false⟩ := by
  have hbel : Below w.heap.size w (w.alloc (.cells #[v, .int .i64 0, .bool false, .int .i64 0] 115)) := Below.alloc (Below.refl _ _) (Nat.le_refl _) _
  have hh : (w.alloc (.cells #[v, .int .i64 0, .bool false, .int .i64 0] 115)).heap[w.heap.size]? = some (.cells #[v, .int .i64 0, .bool false, .int .i64 0] 115 (0, 0)) := (Go.MapKept.heap_alloc w _).1
  have hk := hb.keep (Step.below (S := fun _ => false) hbel h0) rfl
  generalize w.alloc (.cells #[v, .int .i64 0, .bool false, .int .i64 0] 115) = W at hh hk ⊢
  refine ⟨Tag.new h0 hh, Nat.le_trans γ.hB h0, ⟨v, by simp [World.cell?, hh], hk⟩, by simp [World.cell?, hh], by simp [World.cell?, hh], by simp [World.cell?, hh], fun o ho => by simp [World.frozen?, hh]⟩
theorem CaW.put {γ : Gh} {w w' : World} {cb db : Nat} {c : Ca} {fb n b : Nat} {D : DataW Value} {β : Nat → Nat} (H : CaW γ w cb db c fb D β) {s : Nat} {f : Fr} (hs : c.F s = none) (hN : s < c.d.N) (F : FrV γ w b f) (hb : ∀ t, (c.F t).isSome = true → β t ≠ b)
    (ht : w.mapTurned w' fb) (ho : w'.ownsMap Tryz.prog 3 heldR fb n (D.put (.int .i64 (s : Int)) (.held (.pointer (some ⟨b, 0, none⟩))))) :
    CaW γ w' cb db (c.lay s f) fb (D.put (.int .i64 (s : Int)) (.held (.pointer (some ⟨b, 0, none⟩)))) (upd β s b) ∧ Step γ (fun T => T == 117) w w' := by
  have S := Step.turned ht H.tf H.Bf
  have hF : ∀ t, (c.lay s f).F t = if t = s then some f else c.F t := fun t => rfl
  have hkey : ∀ t : Nat, t ≠ s → Lit.int .i64 (t : Int) ≠ .int .i64 (s : Int) := fun t ht e => ht (by injection e with _ e; omega)
  have hk : WideAt.IsKeyLit (.int .i64 (s : Int)) := trivial
  have hu : ∀ t, t ≠ s → upd β s b t = β t := fun t ht => upd_other β ht b
  refine ⟨{ dk := H.dk.keep S ⟨rfl, rfl, rfl, rfl⟩, tg := S.tg _ _ (by decide) H.lt H.tg, Bc := H.Bc, c0 := cell_keep S H.tg rfl H.c0, c1 := cell_keep S H.tg rfl H.c1, c2 := cell_keep S H.tg rfl H.c2, c3 := cell_keep S H.tg rfl H.c3, cz := fun o ho => fz_keep S H.tg rfl H.lt (H.cz o ho), tf := S.tg _ _ (by decide) H.own.lt H.tf, Bf := H.Bf, own := ?_, sz := ?_, has := fun x hx => ?_, fr := fun t g hg => ?_, inj := fun t u h1 h2 e => ?_ }, S⟩
  · obtain ⟨es, ck, hb, F, hle, e⟩ := ho
    exact ⟨es, ck, hb, F, by rw [e]; simp [Maps.size, length_sorted], e⟩
  · rw [Maps.size_put (H.own.tidy key3), H.hasn hs, if_neg (by decide), H.sz, Ca.keys_lay hN hs]
  · by_cases e : x = (s : Int)
    · subst e; exact ⟨s, rfl, by rw [hF, if_pos rfl]; rfl⟩
    · rw [Maps.has_put_other (fun q => e (by injection q))] at hx
      obtain ⟨t, e1, e2⟩ := H.has x hx
      exact ⟨t, e1, by rw [hF, if_neg (by omega)]; exact e2⟩
  · rw [hF] at hg
    by_cases e : t = s
    · rw [if_pos e] at hg
      injection hg with hg
      subst hg e
      exact ⟨hN, fun z => by rw [atKey_put_same H.own.isMap hk, upd_same], by rw [upd_same]; exact F.keep S rfl rfl⟩
    · rw [if_neg e] at hg
      obtain ⟨h1, h2, h3⟩ := H.fr t g hg
      exact ⟨h1, fun z => by rw [atKey_put_other (hkey t e), hu t e]; exact h2 z, by rw [hu t e]; exact h3.keep S rfl rfl⟩
  · rw [hF] at h1 h2
    by_cases e1 : t = s
    · by_cases e2 : u = s
      · rw [e1, e2]
      · rw [if_neg e2] at h2
        rw [e1, upd_same, hu u e2] at e
        exact absurd e.symm (hb u h2)
    · rw [if_neg e1] at h1
      by_cases e2 : u = s
      · rw [e2, upd_same, hu t e1] at e
        exact absurd e (hb t h1)
      · rw [if_neg e2] at h2
        rw [hu t e1, hu u e2] at e
        exact H.inj t u h1 h2 e
def BringP (γ : Gh) (w : World) (cb db : Nat) (r : Nat × Ca) (s : Nat) (e : Ending) (w' : World) : Prop :=
  Step γ caS w w' ∧ if r.1 = 0 then ∃ fb D β, e = .returned (.tuple #[.pointer (some ⟨β s, 0, none⟩), .int .i64 0]) ∧ CaW γ w' cb db r.2 fb D β else e = .returned (.tuple #[.pointer none, .int .i64 (r.1 : Int)]) ∧ CaV γ w' cb db r.2
theorem CaW.calls {γ : Gh} {w : World} {cb db : Nat} {c : Ca} {fb : Nat} {D : DataW Value} {β : Nat → Nat} (H : CaW γ w cb db c fb D β) (s : Nat) :
    Calls Tryz.prog 107 #[.pointer (some ⟨cb, 0, none⟩), .int .i64 s] w fun e w' => e = .returned (.int .i64 (c.may s : Nat)) ∧ w' = w := by
  obtain ⟨sa, so, cc, e0, _⟩ := H.dk.d0
  refine (cmay_ok H.c0 e0 H.dk.d2).mono ?_
  rintro e w' ⟨rfl, rfl⟩
  refine ⟨?_, rfl⟩
  congr 2
  unfold mayN Ca.may
  cases c.d.dead with
  | true => rfl
  | false =>
    by_cases h : c.d.N ≤ s
    · rw [if_neg (by decide), if_pos (by omega), if_neg (by decide), if_pos h]
    · rw [if_neg (by decide), if_neg (by omega), if_neg (by decide), if_neg h]
theorem bring_ok {γ : Gh} {w : World} {cb db : Nat} {c : Ca} (H : CaV γ w cb db c) (hok : c.Ok) (hM : 1 ≤ c.M) (h0 : γ.lim ≤ w.heap.size) (hP : c.d.P.length < 1000000) (hclk : c.clk < 1000000000) (s : Nat) :
    Calls Tryz.prog 85 #[.pointer (some ⟨cb, 0, none⟩), .int .i64 s] w (BringP γ w cb db (c.bring s) s) := by
  obtain ⟨fb, D, β, H⟩ := H
  have MA := H.calls s
  by_cases hm : c.may s = 0
  · have hd : c.d.dead = false := by
      unfold Ca.may at hm
      cases h : c.d.dead with
      | false => rfl
      | true => simp [h] at hm
    have hsN : s < c.d.N := by
      unfold Ca.may at hm
      by_cases h2 : c.d.N ≤ s
      · simp [hd, h2] at hm
      · omega
    rw [hm] at MA
    cases hf : c.F s with
    | some f =>
      have e1 : c.bring s = (0, c.use s) := by simp [Ca.bring, hm, hf]
      rw [e1]
      have US := use_ok H hf hclk
      have hL := H.look hf
      obtain ⟨H2, S2⟩ := H.used hf
      have c3 := H.c3
      have hl := H.lt
      have HF : Hid (BringP γ w cb db (0, c.use s) s (.returned (.tuple #[.pointer (some ⟨β s, 0, none⟩), .int .i64 0])) (usedW w cb (β s) (c.clk + 1))) := Lib.hid ⟨S2, by rw [if_pos rfl]; exact ⟨fb, D, β, rfl, H2⟩⟩
      generalize usedW w cb (β s) (c.clk + 1) = W2 at US HF
      clear H H2 S2 hok hM h0 hP hclk hm hd hsN hf e1
      go_enter Tryz.func85, Tryz.ntmps85
      go_wp2_with (first
        | (go_at_call 107; refine MA.mono ?_; rintro e w5 ⟨rfl, rfl⟩)
        | (go_at_call 109; refine US.mono ?_; rintro e w6 ⟨rfl, rfl⟩))
      go_ret2
      exact HF.out
    | none =>
      have RO := room_ok H.in hok hM hd h0 hP
      have hL := H.lookn hf hsN
      have c3 := H.c3
      have hl := H.lt
      have e1 : c.bring s = if c.room.1 ≠ 0 then c.room else if (c.room.2.d.read s).1 ≠ 0 then ((c.room.2.d.read s).1, c.room.2) else (0, (c.room.2.lay s ⟨(c.room.2.d.read s).2, 0, false⟩).use s) := by
        unfold Ca.bring
        rw [if_neg (by simp [hm]), if_neg (by simp [hf])]
      have hf' : c.room.2.F s = none := by rcases (Ca.room_F c).1 s with h | h <;> rw [h]; exact hf
      have hN' := (Ca.room_F c).2.2.2
      have hk' := (Ca.room_F c).2.1
      have hP' := Ca.room_P c
      have hok' := hok.room
      by_cases hr : c.room.1 = 0
      · have hd' := Ca.room_alive hd hr
        rw [if_neg (by simp [hr])] at e1
        rw [hr] at RO
        rw [e1]
        generalize c.room.2 = c' at *
        have HO : Hid (c'.d.Ok ∧ c'.d.P.length < 2000000 ∧ c'.F s = none ∧ s < c'.d.N ∧ c'.clk < 1000000000 ∧ c'.d.N ≤ 4096) := Lib.hid ⟨hok'.d, by omega, hf', by omega, by omega, by rw [hN']; exact H.dk.hN⟩
        have H0 := Lib.hid h0
        clear H hok hM h0 hP hclk hm hd hsN hf e1 hf' hN' hk' hP' hok' hd' hr
        by_cases hq : (c'.d.read s).1 = 0
        · rw [if_neg (by simp [hq])]
          have HQ := Lib.hid hq
          have hlen : Hid ((c'.d.read s).2.length = 256) := Lib.hid (Dk.read_len HO.out.1 hq)
          obtain ⟨bs, hbs⟩ : ∃ bs, bs = (c'.d.read s).2 := ⟨_, rfl⟩
          rw [← hbs] at hlen ⊢
          have HBS := Lib.hid hbs
          clear hq hbs
          go_enter Tryz.func85, Tryz.ntmps85
          go_upto_region 8 with (first
            | (go_at_call 107; refine MA.mono ?_; rintro e w5 ⟨rfl, rfl⟩)
            | (go_at_call 108; refine RO.mono ?_; rintro e w6 ⟨rfl, hw6⟩))
          obtain ⟨⟨fb6, D6, β6, H6⟩, S6⟩ := hw6.out
          have h06 : γ.lim ≤ w6.heap.size := Nat.le_trans H0.out S6.size
          have DR := dread_ok H6.dk h06 HO.out.1 HO.out.2.1 s
          have c06 := H6.c0
          have l6 := H6.lt
          have HH6 := Lib.hid (And.intro H6 (And.intro S6 h06))
          clear H6 S6 hw6 h06 hL c3 hl MA RO
          rw [HQ.out, ← HBS.out] at DR
          go_upto_region 11 with (go_at_call 103; refine DR.mono ?_; rintro e w7 ⟨⟨v7, rfl, hv7⟩, hb7⟩; obtain ⟨a7, c7, rfl, _⟩ := id hv7; have hv7' := hv7.rb HH6.out.2.2; have H7 := HH6.out.1.keep (Step.below (S := fun _ => false) hb7 HH6.out.2.2) ⟨rfl, rfl, rfl, rfl⟩ ⟨rfl, rfl, rfl⟩; have c37 := H7.c3; have l7 := H7.lt; have HH7 := Lib.hid (And.intro H7 (And.intro hv7' (And.intro (HH6.out.2.1.trans (Step.below hb7 HH6.out.2.2)) (Nat.le_trans HH6.out.2.2 hb7.size)))); clear H7 hv7 hv7' hb7 c06 l6)
          rw [hlen.out]
          have hbel : Below w7.heap.size w7 (w7.alloc (.cells #[.slice a7 256 c7, .int .i64 0, .bool false, .int .i64 0] 115)) := Below.alloc (Below.refl _ _) (Nat.le_refl _) _
          have hF : FrV γ (w7.alloc (.cells #[.slice a7 256 c7, .int .i64 0, .bool false, .int .i64 0] 115)) w7.heap.size ⟨bs, 0, false⟩ := FrV.made HH7.out.2.2.2 (by have := HH7.out.2.1; rwa [hlen.out] at this)
          obtain ⟨W, hW⟩ : ∃ W, w7.alloc (.cells #[.slice a7 256 c7, .int .i64 0, .bool false, .int .i64 0] 115) = W := ⟨_, rfl⟩
          rw [hW] at hbel hF
          have HW := HH7.out.1.keep (Step.below (S := fun _ => false) hbel HH7.out.2.2.2) ⟨rfl, rfl, rfl, rfl⟩ ⟨rfl, rfl, rfl⟩
          have hnb : ∀ t, (c'.F t).isSome = true → β6 t ≠ w7.heap.size := fun t ht e => by
            obtain ⟨g, hg⟩ := Option.isSome_iff_exists.1 ht
            have := (HH7.out.1.fr t g hg).2.2.lt
            omega
          have HWW := Lib.hid (And.intro HW (And.intro hF (And.intro hnb (HH7.out.2.2.1.trans (Step.below hbel HH7.out.2.2.2)))))
          have HK : Hid (keyOf Tryz.prog 3 (.int .i64 (s : Int)) = some (.int .i64 (s : Int))) := Lib.hid (key_nat (Nat.lt_trans (Nat.lt_of_lt_of_le HO.out.2.2.2.1 HO.out.2.2.2.2.2) (by decide)))
          have HM : Hid (Maps.size D6 < maxLen) := Lib.hid (by rw [HW.sz]; have := Ca.keys_le c'; have := HO.out.2.2.2.2.2; exact Nat.lt_of_le_of_lt (show _ ≤ 4096 by omega) (by decide))
          clear HW hF hnb hbel
          go_upto_region 12 with (at_mapUpdate; (try rw [hW]); go_loud (refine wpList_mapUpdate_in _ rfl _ _ _ 117 rfl 3 116 key3 Tryz.underlying117 heldR fb6 _ _ rfl HWW.out.1.own HM.out (.int .i64 (s : Int)) (.pointer (some ⟨w7.heap.size, 0, none⟩)) _ rfl rfl HK.out (.held (.pointer (some ⟨w7.heap.size, 0, none⟩))) [] rfl ?_; intro w8 hm8 ht8))
          obtain ⟨H8, S8⟩ := HWW.out.1.put HO.out.2.2.1 HO.out.2.2.2.1 HWW.out.2.1 HWW.out.2.2.1 ht8 hm8
          have hfl : (c'.lay s ⟨bs, 0, false⟩).F s = some ⟨bs, 0, false⟩ := upd_same _ _ _
          have US := use_ok H8 hfl HO.out.2.2.2.2.1
          obtain ⟨H9, S9⟩ := H8.used hfl
          have HF : Hid (BringP γ w5 cb db (0, (c'.lay s ⟨bs, 0, false⟩).use s) s (.returned (.tuple #[.pointer (some ⟨upd β6 s w7.heap.size s, 0, none⟩), .int .i64 0])) (usedW w8 cb (upd β6 s w7.heap.size s) ((c'.lay s ⟨bs, 0, false⟩).clk + 1))) := Lib.hid ⟨HWW.out.2.2.2.trans ((S8.mono ca172).trans S9), by rw [if_pos rfl]; exact ⟨_, _, _, rfl, H9⟩⟩
          generalize usedW w8 cb (upd β6 s w7.heap.size s) ((c'.lay s ⟨bs, 0, false⟩).clk + 1) = W9 at US HF
          rw [upd_same] at US HF
          clear H8 S8 H9 S9 hm8 ht8 hfl hW c37 l7
          go_wp2_with (go_at_call 109; refine US.mono ?_; rintro e w9 ⟨rfl, rfl⟩)
          go_ret2
          exact HF.out
        · rw [if_pos hq]
          have HQ := Lib.hid hq
          have hb : (((c'.d.read s).1 : Int) != 0) = true := by simp; omega
          clear hq
          go_enter Tryz.func85, Tryz.ntmps85
          go_upto_region 8 with (first
            | (go_at_call 107; refine MA.mono ?_; rintro e w5 ⟨rfl, rfl⟩)
            | (go_at_call 108; refine RO.mono ?_; rintro e w6 ⟨rfl, hw6⟩))
          obtain ⟨⟨fb6, D6, β6, H6⟩, S6⟩ := hw6.out
          have h06 : γ.lim ≤ w6.heap.size := Nat.le_trans H0.out S6.size
          have DR := dread_ok H6.dk h06 HO.out.1 HO.out.2.1 s
          have c06 := H6.c0
          have l6 := H6.lt
          have HH6 := Lib.hid (And.intro H6 (And.intro S6 h06))
          clear H6 S6 hw6 h06 hL c3 hl MA RO
          generalize (c'.d.read s).1 = r at *
          go_wp2_with (go_at_call 103; refine DR.mono ?_; rintro e w7 ⟨⟨v7, rfl, hv7⟩, hb7⟩; obtain ⟨a7, c7, rfl, _⟩ := hv7; have HF := Lib.hid (And.intro ((HH6.out.2.1.trans (Step.below hb7 HH6.out.2.2))) (CaV.below HH6.out.1.in hb7 HH6.out.2.2)); clear hb7)
          go_ret2
          exact ⟨HF.out.1, by rw [if_neg HQ.out]; exact ⟨rfl, HF.out.2⟩⟩
      · rw [if_pos hr] at e1
        rw [e1]
        generalize c.room = rr at *
        obtain ⟨r, c'⟩ := rr
        dsimp only at *
        have HR := Lib.hid hr
        have hb : ((r : Int) != 0) = true := by simp; omega
        clear H hok hM h0 hP hclk hm hd hsN hf e1 hf' hN' hk' hP' hok' hr
        go_enter Tryz.func85, Tryz.ntmps85
        go_wp2_with (first
          | (go_at_call 107; refine MA.mono ?_; rintro e w5 ⟨rfl, rfl⟩)
          | (go_at_call 108; refine RO.mono ?_; rintro e w6 ⟨rfl, hw6⟩))
        go_ret2
        exact ⟨hw6.out.2, by rw [if_neg HR.out]; exact ⟨rfl, hw6.out.1⟩⟩
  · have e1 : c.bring s = (c.may s, c) := by simp [Ca.bring, hm]
    rw [e1]
    have hb : (((c.may s : Nat) : Int) != 0) = true := by simp; omega
    have HF : Hid (BringP γ w cb db (c.may s, c) s (.returned (.tuple #[.pointer none, .int .i64 (c.may s : Nat)])) w) := Lib.hid ⟨Step.refl _ _ _, by rw [if_neg hm]; exact ⟨rfl, H.in⟩⟩
    generalize c.may s = m at *
    clear H hok hM h0 hP hclk hm e1
    go_enter Tryz.func85, Tryz.ntmps85
    go_wp2_with (go_at_call 107; refine MA.mono ?_; rintro e w5 ⟨rfl, rfl⟩)
    go_ret2
    exact HF.out
end Go.Tb
namespace Go.Tb
open Go Go.RowKit Go.Proofs Go.Maps Go.Sp Go.ChangeMaps
def Aft (γ : Gh) (S : TypeId → Bool) (P : World → Prop) (w w' : World) (v : Value) (bs : Bs) : Prop := ∃ w1, P w1 ∧ Step γ S w w1 ∧ Below w1.heap.size w1 w' ∧ RN w1.heap.size w' v bs
theorem cread_ok {γ : Gh} {w : World} {cb db : Nat} {c : Ca} (H : CaV γ w cb db c) (hok : c.Ok) (hM : 1 ≤ c.M) (h0 : γ.lim ≤ w.heap.size) (hP : c.d.P.length < 1000000) (hclk : c.clk < 1000000000) (s : Nat) :
    Calls Tryz.prog 44 #[.pointer (some ⟨cb, 0, none⟩), .int .i64 s] w fun e w' => ∃ a n k, e = .returned (.tuple #[.slice a n k, .int .i64 ((c.read s).1 : Nat)]) ∧ Hid (Aft γ caS (fun w1 => CaV γ w1 cb db (c.read s).2.2) w w' (.slice a n k) (c.read s).2.1) := by
  have BR := bring_ok H hok hM h0 hP hclk s
  have hok' := hok.bring s
  have hsome := fun h => Ca.bring_some (c := c) (s := s) h
  have er : c.read s = if (c.bring s).1 ≠ 0 then ((c.bring s).1, [], (c.bring s).2) else (0, (c.bring s).2.bytes s, (c.bring s).2) := rfl
  rw [er]
  generalize c.bring s = rr at *
  obtain ⟨r, c'⟩ := rr
  dsimp only at *
  clear H hok hM hP hclk er
  by_cases hr : r = 0
  · subst hr
    rw [if_neg (by simp)]
    have BR2 : Calls Tryz.prog 85 #[.pointer (some ⟨cb, 0, none⟩), .int .i64 s] w fun e w' => ∃ b v, e = .returned (.tuple #[.pointer (some ⟨b, 0, none⟩), .int .i64 0]) ∧ w'.cell? ⟨b, 0, none⟩ = some v ∧ RB γ w' v (c'.bytes s) ∧ Step γ caS w w' ∧ CaV γ w' cb db c' ∧ (c'.bytes s).length ≤ 256 := BR.mono (by
      rintro e w' ⟨hS, hB⟩
      rw [if_pos rfl] at hB
      obtain ⟨fb, D, β, rfl, H⟩ := hB
      obtain ⟨f, hf⟩ := Option.isSome_iff_exists.1 (hsome rfl)
      obtain ⟨_, _, F⟩ := H.fr s f hf
      obtain ⟨v, f0, frb⟩ := F.f0
      have e1 : c'.bytes s = f.b := by simp [Ca.bytes, hf]
      rw [e1]
      exact ⟨_, v, rfl, f0, frb, hS, H.in, by have := (hok'.dom s f hf).2.2; omega⟩)
    have HBR := Lib.hid BR2
    clear BR BR2 hsome hok'
    go_enter Tryz.func44, Tryz.ntmps44
    go_upto_region 4 with (go_at_call 85; refine HBR.out.mono ?_; rintro e w5 ⟨b, v, rfl, cv, hrb, S5, H5, hl⟩; have hbl := cell_lt' cv; have CL := clone_x hrb.rv (by omega); have HF := Lib.hid (And.intro S5 H5); obtain ⟨va, vc, rfl, _⟩ := id hrb; clear S5 H5)
    have CLH := Lib.hid CL
    clear CL hl hrb
    go_wp2_with (go_at_call 29; refine CLH.out.mono ?_; rintro e w6 ⟨⟨v6, rfl, hv6⟩, hb6⟩; have HV := Lib.hid (And.intro hv6 hb6); obtain ⟨a6, c6, rfl, _⟩ := id hv6; clear hv6 hb6)
    go_ret2
    exact ⟨_, _, _, rfl, Lib.hid ⟨w5, HF.out.2, HF.out.1, HV.out.2, HV.out.1⟩⟩
  · rw [if_pos hr]
    have hb : ((r : Int) != 0) = true := by simp; omega
    have HR := Lib.hid hr
    clear hr hok'
    go_enter Tryz.func44, Tryz.ntmps44
    go_wp2_with (go_at_call 85; refine BR.mono ?_; rintro e w5 ⟨S5, hB⟩; rw [if_neg HR.out] at hB; obtain ⟨rfl, H5⟩ := hB; have HF := Lib.hid (And.intro S5 H5); clear S5 H5)
    go_ret2
    exact ⟨_, _, _, rfl, Lib.hid ⟨w5, HF.out.2, HF.out.1, Below.refl _ _, RN.nil _ _ _ _⟩⟩
end Go.Tb
namespace Go.Tb
open Go Go.RowKit Go.Proofs Go.Maps Go.Sp Go.ChangeMaps
def layW (W : World) (b : Nat) : World := ((W.setCell ⟨b, 0, none⟩ (.slice (some ⟨W.heap.size, 0, none⟩) 256 256)).setCell ⟨b, 2, none⟩ (.bool true)).alloc (.cells (zrs 256).toArray 5)
theorem pad_spliceN {bs : Bs} (m : Nat) : splice (zrs m) 0 (u8s bs) = u8s (pad m bs) := by
  unfold splice pad
  rw [List.take_zero, List.nil_append, Nat.zero_add, u8s_len]
  simp [u8s, zrs]
theorem pad_splice {bs : Bs} (h : bs.length ≤ 256) : splice (zrs 256) 0 (u8s bs) = u8s (pad 256 bs) := pad_spliceN 256
theorem layW_heap {W : World} {b : Nat} (hb : b < W.heap.size) : (∀ k, k < W.heap.size → k ≠ b → (layW W b).heap[k]? = W.heap[k]?) ∧ (layW W b).heap[W.heap.size]? = some (.cells (zrs 256).toArray 5 (0, 0)) ∧ (layW W b).heap.size = W.heap.size + 1 := by
  have hsz : ((W.setCell ⟨b, 0, none⟩ (.slice (some ⟨W.heap.size, 0, none⟩) 256 256)).setCell ⟨b, 2, none⟩ (.bool true)).heap.size = W.heap.size := by simp [World.setCell]
  refine ⟨fun k hk hne => ?_, ?_, by simp [layW, World.setCell]⟩
  · unfold layW
    rw [Below.heap_alloc _ _ k (by rw [hsz]; exact hk), heap_setCell_other _ (⟨b, 2, none⟩ : Addr) k _ hne, heap_setCell_other _ (⟨b, 0, none⟩ : Addr) k _ hne]
  · have := (Go.MapKept.heap_alloc ((W.setCell ⟨b, 0, none⟩ (.slice (some ⟨W.heap.size, 0, none⟩) 256 256)).setCell ⟨b, 2, none⟩ (.bool true)) (.cells (zrs 256).toArray 5)).1
    rw [hsz] at this
    exact this
theorem FrV.layW {γ : Gh} {W : World} {b : Nat} {f : Fr} (F : FrV γ W b f) : (layW W b).cell? ⟨b, 0, none⟩ = some (.slice (some ⟨W.heap.size, 0, none⟩) 256 256) ∧ (layW W b).cell? ⟨b, 1, none⟩ = some (.int .i64 (f.used : Int)) ∧ (layW W b).cell? ⟨b, 2, none⟩ = some (.bool true) ∧ (layW W b).cell? ⟨b, 3, none⟩ = some (.int .i64 0) ∧ (∀ o, o < 4 → (layW W b).frozen? ⟨b, o, none⟩ = false) ∧ kindOf (layW W b) b = kindOf W b := by
  obtain ⟨v, e0, _⟩ := F.f0
  have hb := F.lt
  have hne : ∀ {o o' : Nat}, o ≠ o' → (⟨b, o, none⟩ : Addr) ≠ ⟨b, o', none⟩ := fun ho h => by injection h with _ h; exact ho h
  have b2 : (W.setCell ⟨b, 0, none⟩ (.slice (some ⟨W.heap.size, 0, none⟩) 256 256)).cell? ⟨b, 2, none⟩ = some (.bool f.dirty) := by rw [World.cell?_setCell_other _ _ _ _ (hne (by decide))]; exact F.f2
  unfold Tb.layW
  obtain ⟨X, hX⟩ : ∃ X, (W.setCell ⟨b, 0, none⟩ (.slice (some ⟨W.heap.size, 0, none⟩) 256 256)).setCell ⟨b, 2, none⟩ (.bool true) = X := ⟨_, rfl⟩
  have hbX : b < X.heap.size := by rw [← hX]; simpa [World.setCell] using hb
  have ha : ∀ {o : Nat} {u : Value}, X.cell? ⟨b, o, none⟩ = some u → (X.alloc (.cells (zrs 256).toArray 5)).cell? ⟨b, o, none⟩ = some u := fun {o u} hu => (cell_of_heap (a := ⟨b, o, none⟩) (Below.heap_alloc _ _ b hbX)).1.trans hu
  rw [hX]
  refine ⟨ha ?_, ha ?_, ha ?_, ha ?_, fun o ho => ?_, ?_⟩
  · rw [← hX, World.cell?_setCell_other _ _ _ _ (hne (by decide))]; exact World.cell?_setCell_same _ _ _ e0
  · rw [← hX, World.cell?_setCell_other _ _ _ _ (hne (by decide)), World.cell?_setCell_other _ _ _ _ (hne (by decide))]; exact F.f1
  · rw [← hX]; exact World.cell?_setCell_same _ _ _ b2
  · rw [← hX, World.cell?_setCell_other _ _ _ _ (hne (by decide)), World.cell?_setCell_other _ _ _ _ (hne (by decide))]; exact F.f3
  · rw [(cell_of_heap (a := ⟨b, o, none⟩) (Below.heap_alloc _ _ b hbX)).2, ← hX, World.frozen?_setCell, World.frozen?_setCell]
    exact F.fz o ho
  · rw [kindOf_same (Below.heap_alloc _ _ b hbX), ← hX, kindOf_set b2, kindOf_set e0]
theorem CaW.laid {γ : Gh} {W w6 : World} {cb db : Nat} {c : Ca} {fb : Nat} {D : DataW Value} {β : Nat → Nat} (H : CaW γ W cb db c fb D β) (h0 : γ.lim ≤ W.heap.size) {s : Nat} {f : Fr} (hs : c.F s = some f) {bs : Bs} (hl : bs.length ≤ 256) (hx : ∀ x ∈ bs, x < 256)
    (hg : w6.heap[W.heap.size]? = some (.cells (splice (zrs 256) 0 (u8s bs)).toArray 5 (0, 0))) (hb : Below W.heap.size (layW W (β s)) w6) :
    CaW γ w6 cb db (c.lay s ⟨pad 256 bs, f.used, true⟩) fb D β ∧ Step γ (fun T => T == 115) W w6 := by
  obtain ⟨hN, hv, F⟩ := H.fr s f hs
  obtain ⟨k1, k2, k3⟩ := layW_heap F.lt
  obtain ⟨c0, c1, c2, c3, cz, ck⟩ := F.layW
  have hold : ∀ k, k < W.heap.size → k ≠ β s → w6.heap[k]? = W.heap[k]? := fun k hk hne => (hb.block k hk).trans (k1 k hk hne)
  have hbs : w6.heap[β s]? = (layW W (β s)).heap[β s]? := hb.block _ F.lt
  have hkind : kindOf w6 (β s) = kindOf W (β s) := (kindOf_same hbs).trans ck
  have S : Step γ (fun T => T == 115) W w6 := by
    refine ⟨⟨?_, ?_, ?_, ?_, fun k hk => hold k (by have := γ.hB; omega) (fun e => by have := F.Bb; omega)⟩, fun k hk ht => hold k hk (fun e => ?_), fun k T _ hk ht => ?_⟩
    · exact hb.os
    · exact hb.tape
    · exact hb.output
    · have := hb.size; omega
    · subst e; have := ht 115 F.tg; cases this
    · by_cases e : k = β s
      · subst e; exact (Gh.kind_of hkind).trans ht
      · exact ht.same (hold k hk e)
  have hcc := fun o => cell_of_heap (w := layW W (β s)) (w' := w6) (a := (⟨β s, o, none⟩ : Addr)) hbs
  have hpl : (pad 256 bs).length = 256 := pad_len hl
  rw [pad_splice hl] at hg
  have hrb : RB γ w6 (.slice (some ⟨W.heap.size, 0, none⟩) 256 256) (pad 256 bs) := by
    refine ⟨some ⟨W.heap.size, 0, none⟩, 256, by rw [hpl], ⟨fun x hm => ?_, by omega⟩, fun _ => ⟨W.heap.size, 0, rfl, (Array.getElem?_eq_some_iff.1 hg).1, Tag.new h0 hg, fun j x hj => ?_⟩⟩
    · rcases List.mem_append.1 hm with h | h
      · exact hx x h
      · rw [List.eq_of_mem_replicate h]; decide
    · rw [Nat.zero_add]
      have : (u8s (pad 256 bs))[j]? = some (.int .u8 (x : Int)) := by rw [u8s, List.getElem?_map, hj]; rfl
      simp [World.cell?, hg, this]
  have F' : FrV γ w6 (β s) ⟨pad 256 bs, f.used, true⟩ := ⟨(Gh.kind_of hkind).trans F.tg, F.Bb, ⟨_, (hcc 0).1.trans c0, hrb⟩, (hcc 1).1.trans c1, (hcc 2).1.trans c2, (hcc 3).1.trans c3, fun o ho => (hcc o).2.trans (cz o ho)⟩
  exact ⟨H.frame hs S (fun t ht h1 => hold _ (by obtain ⟨g, hg⟩ := Option.isSome_iff_exists.1 h1; exact (H.fr t g hg).2.2.lt) (fun e => ht (H.inj t s h1 (by rw [hs]; rfl) e))) F', S⟩
end Go.Tb
namespace Go.Tb
open Go Go.RowKit Go.Proofs Go.Maps Go.Sp Go.ChangeMaps
theorem cwrite_ok {γ : Gh} {w : World} {cb db : Nat} {c : Ca} (H : CaV γ w cb db c) (hok : c.Ok) (hM : 1 ≤ c.M) (h0 : γ.lim ≤ w.heap.size) (hP : c.d.P.length < 1000000) (hclk : c.clk < 1000000000) (s : Nat) {v : Value} {bs : Bs} (hv : RA γ w v bs) (hl : bs.length ≤ 256) :
    Calls Tryz.prog 89 #[.pointer (some ⟨cb, 0, none⟩), .int .i64 s, v] w fun e w' => e = .returned (.int .i64 ((c.write s bs).1 : Nat)) ∧ Hid (CaV γ w' cb db (c.write s bs).2 ∧ Step γ caS w w') := by
  obtain ⟨fb, D, β, H⟩ := H
  have MA := H.calls s
  obtain ⟨len, hlen⟩ : ∃ len, len = bs.length := ⟨_, rfl⟩
  obtain ⟨va, vc, rfl, hxx, _⟩ := id hv
  have HL : Hid (bs.length ≤ 256 ∧ (∀ x ∈ bs, x < 256) ∧ len = bs.length) := Lib.hid ⟨hl, hxx.1, hlen⟩
  have hl' := hl
  rw [← hlen] at hv hl ⊢
  have hl2 : decide ((256 : Int) < (len : Int)) = false := by simp; omega
  have hl3 : ¬ (256 : Int) < (len : Int) := by omega
  clear hlen hxx
  by_cases hm : c.may s = 0
  · have hd : c.d.dead = false := by
      unfold Ca.may at hm
      cases h : c.d.dead with
      | false => rfl
      | true => simp [h] at hm
    have hsN : s < c.d.N := by
      unfold Ca.may at hm
      by_cases h2 : c.d.N ≤ s
      · simp [hd, h2] at hm
      · omega
    rw [hm] at MA
    cases hf : c.F s with
    | some f =>
      have e1 : c.write s bs = (0, c.fill s bs) := by
        unfold Ca.write
        rw [if_neg (by simp [hm]), if_neg (by omega), if_pos (by simp [hf])]
      rw [e1]
      have US := use_ok H hf hclk
      have hL := H.look hf
      obtain ⟨H2, S2⟩ := H.used hf
      have hRA := hv.keep S2 rfl rfl
      have h02 : γ.lim ≤ (usedW w cb (β s) (c.clk + 1)).heap.size := Nat.le_trans h0 S2.size
      have hs2 : (c.use s).F s = some ⟨f.b, c.clk + 1, f.dirty⟩ := by rw [Ca.use_eq hf]; exact upd_same _ _ _
      have hlay : (c.use s).lay s ⟨pad 256 bs, c.clk + 1, true⟩ = c.fill s bs := by rw [Ca.use_eq hf]; simp [Ca.fresh, Ca.lay, Ca.fill, upd_upd]
      have HLAY := Lib.hid hlay
      have c3 := H.c3
      have hlt := H.lt
      have HS2 := Lib.hid S2
      generalize usedW w cb (β s) (c.clk + 1) = W at *
      clear H S2 hok hM h0 hP hclk hm hd hsN hf e1 hv hlay hl'
      go_enter Tryz.func89, Tryz.ntmps89
      go_upto_region 12 with (first
        | (go_at_call 107; refine MA.mono ?_; rintro e w5 ⟨rfl, rfl⟩)
        | (go_at_call 109; refine US.mono ?_; rintro e w6 ⟨rfl, rfl⟩))
      clear hL MA US c3 hlt
      have F2 := (H2.fr s _ hs2).2.2
      have F2l := F2.lt
      obtain ⟨v0, f20, _⟩ := F2.f0
      have f22 := F2.f2
      have f2z0 := F2.fz 0 (by decide)
      have f2z2 := F2.fz 2 (by decide)
      obtain ⟨k1, k2, k3⟩ := layW_heap F2l
      obtain ⟨m0, _⟩ := F2.layW
      have hsrc : 0 < (u8s bs).length → (∃ ad, va = some ad ∧ ∀ j u, (u8s bs)[j]? = some u → (layW w6 (β s)).cell? (ad.add j) = some u) := fun hp => by
        obtain ⟨a', c', e, hx, h⟩ := hRA
        injection e with e1 e2 e3
        subst e1
        obtain ⟨g, o, rfl, hg, htg, hc⟩ := h (by rwa [u8s_len] at hp)
        refine ⟨_, rfl, fun j u hu => ?_⟩
        rw [u8s, List.getElem?_map] at hu
        obtain ⟨x, hx', rfl⟩ := Option.map_eq_some_iff.1 hu
        rw [add_cell]
        have hne : g ≠ (β s) := fun e => by
          have t := F2.tg
          rw [← e] at t
          rcases htg with q | q <;> (have := q.uniq t; cases this)
        exact (cell_of_heap (a := ⟨g, o + j, none⟩) (k1 g hg hne)).1.trans (hc j x hx')
      have hfin : ∀ x6, x6.heap[w6.heap.size]? = some (.cells (splice (zrs 256) 0 (u8s bs)).toArray 5 (0, 0)) → Below w6.heap.size (layW w6 (β s)) x6 → (CaV γ x6 cb db (c.fill s bs) ∧ Step γ caS w5 x6) := fun x6 q1 q2 => by
        obtain ⟨q3, q4⟩ := H2.laid h02 hs2 HL.out.1 HL.out.2.1 q1 q2
        exact ⟨HLAY.out ▸ q3.in, HS2.out.trans (q4.mono ca170)⟩
      have hself : Below w6.heap.size (layW w6 (β s)) (layW w6 (β s)) := Below.refl _ _
      have hn256 : (u8s bs).length = Nat.min len 256 := by rw [u8s_len, ← HL.out.2.2]; exact (Nat.min_eq_left (by have := HL.out.1; have := HL.out.2.2; omega)).symm
      have hfit : 0 + (u8s bs).length ≤ (zrs 256).length := by rw [u8s_len, zrs_len]; have := HL.out.1; omega
      unfold layW at m0 k2 hsrc hfin hself
      have MK : (Instr.makeSlice 33 (.int .i64 256) (.int .i64 256)).run Tryz.prog w6 = .ok (.slice (some ⟨w6.heap.size, 0, none⟩) 256 256) (w6.alloc (.cells (zrs 256).toArray 5)) := mk22n (m := 256) (by decide) _
      have K2 := Lib.hid k2
      have HSRC := Lib.hid hsrc
      have HFIN := Lib.hid hfin
      have HSELF := Lib.hid hself
      have HN2 := Lib.hid hn256
      have HFT := Lib.hid hfit
      clear k1 k2 k3 hsrc hfin hself hn256 hfit H2 F2 hs2 hRA h02
      go_wp2_with (refine wpList_copy_splice rfl _ _ 33 33 rfl 5 Tryz.underlying33 sz5 _ _ _ _ _ _ rfl rfl w6.heap.size 0 (zrs 256) 5 K2.out (u8s bs) HN2.out (fun hp => ⟨rfl, HSRC.out hp⟩) HFT.out u8s_one w6.heap.size _ HSELF.out (Nat.le_refl _) ?_; intro w9 hg9 hb9)
      go_ret
      exact ⟨rfl, Lib.hid (HFIN.out _ hg9.out hb9)⟩
    | none =>
      have RO := room_ok H.in hok hM hd h0 hP
      have hL := H.lookn hf hsN
      have c3 := H.c3
      have hlt := H.lt
      have e1 : c.write s bs = if c.room.1 ≠ 0 then c.room else (0, c.room.2.fill s bs) := by
        unfold Ca.write
        rw [if_neg (by simp [hm]), if_neg (by omega), if_neg (by simp [hf])]
      have hf' : c.room.2.F s = none := by rcases (Ca.room_F c).1 s with h | h <;> rw [h]; exact hf
      have hN' := (Ca.room_F c).2.2.2
      have hk' := (Ca.room_F c).2.1
      rw [e1]
      generalize c.room = rr at *
      obtain ⟨r, c'⟩ := rr
      dsimp only at *
      have HO : Hid (c'.F s = none ∧ s < c'.d.N ∧ c'.clk < 1000000000 ∧ c'.d.N ≤ 4096) := Lib.hid ⟨hf', by omega, by omega, by rw [hN']; exact H.dk.hN⟩
      have HV := Lib.hid (And.intro hv h0)
      clear H hok hM h0 hP hclk hm hd hsN hf e1 hf' hN' hk' hv hl'
      by_cases hr : r = 0
      · subst hr
        rw [if_neg (by simp)]
        go_enter Tryz.func89, Tryz.ntmps89
        go_upto_region 10 with (first
          | (go_at_call 107; refine MA.mono ?_; rintro e w5 ⟨rfl, rfl⟩)
          | (go_at_call 108; refine RO.mono ?_; rintro e w7 ⟨rfl, hw7⟩))
        obtain ⟨⟨fb6, D6, β6, H7⟩, S7⟩ := hw7.out
        have h07 : γ.lim ≤ w7.heap.size := Nat.le_trans HV.out.2 S7.size
        have c37 := H7.c3
        have l7 := H7.lt
        have hbel : Below w7.heap.size w7 (w7.alloc (.cells #[.slice none 0 0, .int .i64 0, .bool false, .int .i64 0] 115)) := Below.alloc (Below.refl _ _) (Nat.le_refl _) _
        have hF : FrV γ (w7.alloc (.cells #[.slice none 0 0, .int .i64 0, .bool false, .int .i64 0] 115)) w7.heap.size ⟨[], 0, false⟩ := FrV.made h07 (RB.nil γ w7 none 0)
        obtain ⟨X, hX⟩ : ∃ X, w7.alloc (.cells #[.slice none 0 0, .int .i64 0, .bool false, .int .i64 0] 115) = X := ⟨_, rfl⟩
        rw [hX] at hbel hF
        have SX : Step γ caS w5 X := S7.trans (Step.below hbel h07)
        have HXW := H7.keep (Step.below (S := fun _ => false) hbel h07) ⟨rfl, rfl, rfl, rfl⟩ ⟨rfl, rfl, rfl⟩
        have hnb : ∀ t, (c'.F t).isSome = true → β6 t ≠ w7.heap.size := fun t ht e => by
          obtain ⟨g, hg⟩ := Option.isSome_iff_exists.1 ht
          have := (H7.fr t g hg).2.2.lt
          omega
        have HWW := Lib.hid (And.intro HXW (And.intro hF (And.intro hnb SX)))
        have HK : Hid (keyOf Tryz.prog 3 (.int .i64 (s : Int)) = some (.int .i64 (s : Int))) := Lib.hid (key_nat (Nat.lt_trans (Nat.lt_of_lt_of_le HO.out.2.1 HO.out.2.2.2) (by decide)))
        have HM : Hid (Maps.size D6 < maxLen) := Lib.hid (by rw [HXW.sz]; have := Ca.keys_le c'; have := HO.out.2.2.2; exact Nat.lt_of_le_of_lt (show _ ≤ 4096 by omega) (by decide))
        clear HXW hF hnb hbel H7 S7 h07 SX hw7 RO MA hL c3 hlt
        go_upto_region 11 with (at_mapUpdate; (try rw [hX]); go_loud (refine wpList_mapUpdate_in _ rfl _ _ _ 117 rfl 3 116 key3 Tryz.underlying117 heldR fb6 _ _ rfl HWW.out.1.own HM.out (.int .i64 (s : Int)) (.pointer (some ⟨w7.heap.size, 0, none⟩)) _ rfl rfl HK.out (.held (.pointer (some ⟨w7.heap.size, 0, none⟩))) [] rfl ?_; intro w8 hm8 ht8))
        obtain ⟨H8, S8⟩ := HWW.out.1.put HO.out.1 HO.out.2.1 HWW.out.2.1 HWW.out.2.2.1 ht8 hm8
        have hfl : (c'.lay s ⟨[], 0, false⟩).F s = some ⟨[], 0, false⟩ := upd_same _ _ _
        have US := use_ok H8 hfl HO.out.2.2.1
        obtain ⟨H2, S2⟩ := H8.used hfl
        have S28 := HWW.out.2.2.2.trans ((S8.mono ca172).trans S2)
        have hRA := HV.out.1.keep S28 rfl rfl
        have h02 : γ.lim ≤ (usedW w8 cb (upd β6 s w7.heap.size s) ((c'.lay s ⟨[], 0, false⟩).clk + 1)).heap.size := Nat.le_trans HV.out.2 S28.size
        have hs2 : ((c'.lay s ⟨[], 0, false⟩).use s).F s = some ⟨[], c'.clk + 1, false⟩ := by rw [Ca.lay_use]; exact upd_same _ _ _
        have hlay : ((c'.lay s ⟨[], 0, false⟩).use s).lay s ⟨pad 256 bs, c'.clk + 1, true⟩ = c'.fill s bs := by rw [Ca.lay_use]; simp [Ca.fresh, Ca.lay, Ca.fill, upd_upd]
        have HLAY := Lib.hid hlay
        have HS2 := Lib.hid S28
        generalize usedW w8 cb (upd β6 s w7.heap.size s) ((c'.lay s ⟨[], 0, false⟩).clk + 1) = W at *
        generalize upd β6 s w7.heap.size = β' at *
        clear H8 S8 S2 S28 hm8 ht8 hfl hX c37 l7 hlay
        go_upto_region 12 with (go_at_call 109; refine US.mono ?_; rintro e w9 ⟨rfl, rfl⟩)
        clear US
        have F2 := (H2.fr s _ hs2).2.2
        have F2l := F2.lt
        obtain ⟨v0, f20, _⟩ := F2.f0
        have f22 := F2.f2
        have f2z0 := F2.fz 0 (by decide)
        have f2z2 := F2.fz 2 (by decide)
        obtain ⟨k1, k2, k3⟩ := layW_heap F2l
        obtain ⟨m0, _⟩ := F2.layW
        have hsrc : 0 < (u8s bs).length → (∃ ad, va = some ad ∧ ∀ j u, (u8s bs)[j]? = some u → (layW w9 (β' s)).cell? (ad.add j) = some u) := fun hp => by
          obtain ⟨a', c', e, hx, h⟩ := hRA
          injection e with e1 e2 e3
          subst e1
          obtain ⟨g, o, rfl, hg, htg, hc⟩ := h (by rwa [u8s_len] at hp)
          refine ⟨_, rfl, fun j u hu => ?_⟩
          rw [u8s, List.getElem?_map] at hu
          obtain ⟨x, hx', rfl⟩ := Option.map_eq_some_iff.1 hu
          rw [add_cell]
          have hne : g ≠ (β' s) := fun e => by
            have t := F2.tg
            rw [← e] at t
            rcases htg with q | q <;> (have := q.uniq t; cases this)
          exact (cell_of_heap (a := ⟨g, o + j, none⟩) (k1 g hg hne)).1.trans (hc j x hx')
        have hfin : ∀ x6, x6.heap[w9.heap.size]? = some (.cells (splice (zrs 256) 0 (u8s bs)).toArray 5 (0, 0)) → Below w9.heap.size (layW w9 (β' s)) x6 → (CaV γ x6 cb db (c'.fill s bs) ∧ Step γ caS w5 x6) := fun x6 q1 q2 => by
          obtain ⟨q3, q4⟩ := H2.laid h02 hs2 HL.out.1 HL.out.2.1 q1 q2
          exact ⟨HLAY.out ▸ q3.in, HS2.out.trans (q4.mono ca170)⟩
        have hself : Below w9.heap.size (layW w9 (β' s)) (layW w9 (β' s)) := Below.refl _ _
        have hn256 : (u8s bs).length = Nat.min len 256 := by rw [u8s_len, ← HL.out.2.2]; exact (Nat.min_eq_left (by have := HL.out.1; have := HL.out.2.2; omega)).symm
        have hfit : 0 + (u8s bs).length ≤ (zrs 256).length := by rw [u8s_len, zrs_len]; have := HL.out.1; omega
        unfold layW at m0 k2 hsrc hfin hself
        have MK : (Instr.makeSlice 33 (.int .i64 256) (.int .i64 256)).run Tryz.prog w9 = .ok (.slice (some ⟨w9.heap.size, 0, none⟩) 256 256) (w9.alloc (.cells (zrs 256).toArray 5)) := mk22n (m := 256) (by decide) _
        have K2 := Lib.hid k2
        have HSRC := Lib.hid hsrc
        have HFIN := Lib.hid hfin
        have HSELF := Lib.hid hself
        have HN2 := Lib.hid hn256
        have HFT := Lib.hid hfit
        clear k1 k2 k3 hsrc hfin hself hn256 hfit H2 F2 hs2 hRA h02
        go_wp2_with (refine wpList_copy_splice rfl _ _ 33 33 rfl 5 Tryz.underlying33 sz5 _ _ _ _ _ _ rfl rfl w9.heap.size 0 (zrs 256) 5 K2.out (u8s bs) HN2.out (fun hp => ⟨rfl, HSRC.out hp⟩) HFT.out u8s_one w9.heap.size _ HSELF.out (Nat.le_refl _) ?_; intro w10 hg9 hb9)
        go_ret
        exact ⟨rfl, Lib.hid (HFIN.out _ hg9.out hb9)⟩
      · rw [if_pos hr]
        have HR := Lib.hid hr
        have hb : ((r : Int) != 0) = true := by simp; omega
        clear hr
        go_enter Tryz.func89, Tryz.ntmps89
        go_wp2_with (first
          | (go_at_call 107; refine MA.mono ?_; rintro e w5 ⟨rfl, rfl⟩)
          | (go_at_call 108; refine RO.mono ?_; rintro e w7 ⟨rfl, hw7⟩))
        go_ret
        exact ⟨rfl, hw7⟩
  · have e1 : c.write s bs = (c.may s, c) := by simp [Ca.write, hm]
    rw [e1]
    have hb : (((c.may s : Nat) : Int) != 0) = true := by simp; omega
    have HF : Hid (CaV γ w cb db c ∧ Step γ caS w w) := Lib.hid ⟨H.in, Step.refl _ _ _⟩
    generalize c.may s = m at *
    clear H hok hM h0 hP hclk hm e1 hv
    go_enter Tryz.func89, Tryz.ntmps89
    go_wp2_with (go_at_call 107; refine MA.mono ?_; rintro e w5 ⟨rfl, rfl⟩)
    go_ret
    exact ⟨rfl, HF⟩
end Go.Tb
namespace Go.Tb
open Go Go.RowKit Go.Proofs Go.Maps Go.Sp Go.ChangeMaps
def NR (γ : Gh) (w : World) (v : Value) (l : List Nat) : Prop :=
  ∃ a c, v = .slice a l.length c ∧ l.length ≤ c ∧ (0 < l.length → ∃ g o, a = some ⟨g, o, none⟩ ∧ g < w.heap.size ∧ Tag γ w g 3 ∧ ∀ (j x : Nat), l[j]? = some x → w.cell? ⟨g, o + j, none⟩ = some (.int .i64 (x : Int)))
theorem NR.keep {γ : Gh} {S : TypeId → Bool} {w w' : World} {v : Value} {l : List Nat} (h : NR γ w v l) (hs : Step γ S w w') (h3 : S 3 = false) : NR γ w' v l := by
  obtain ⟨a, c, e, hc, h⟩ := h
  refine ⟨a, c, e, hc, fun hp => ?_⟩
  obtain ⟨g, o, ea, hg, ht, hx⟩ := h hp
  have hh := hs.heap ht h3 hg
  exact ⟨g, o, ea, Nat.lt_of_lt_of_le hg hs.size, ht.same hh, fun j x hj => (cell_of_heap (a := ⟨g, o + j, none⟩) hh).1.trans (hx j x hj)⟩
theorem NR.shape {γ : Gh} {w : World} {v : Value} {l : List Nat} (h : NR γ w v l) : ∃ a c, v = .slice a l.length c := by obtain ⟨a, c, e, _⟩ := h; exact ⟨a, c, e⟩
theorem NR.nil (γ : Gh) (w : World) (a : Option Addr) (c : Nat) : NR γ w (.slice a 0 c) [] := ⟨a, c, rfl, Nat.zero_le _, fun h => by simp at h⟩
theorem NR.row {γ : Gh} {w : World} {base : Nat} {v : Value} {n : Nat} {l : List Nat} (h : w.ownsRow base 3 1 v n (l.map fun (x : Nat) => Value.int .i64 (x : Int))) (hb : γ.lim ≤ base) : NR γ w v l := by
  have h1 := h.1
  rw [List.length_map] at h1
  have h1 : n = l.length := by omega
  subst h1
  rcases h.2 with ⟨rfl, h0⟩ | ⟨g, cap, cur, rfl, hg, hh, hcap, _⟩
  · have : l = [] := List.length_eq_zero_iff.1 h0
    subst this
    exact NR.nil _ _ _ _
  · refine ⟨_, _, rfl, hcap, fun _ => ⟨g, 0, rfl, (Array.getElem?_eq_some_iff.1 hh).1, Tag.new (Nat.le_trans hb hg) hh, fun j x hj => ?_⟩⟩
    have := h.cells rfl j (.int .i64 (x : Int)) (by simp [hj])
    rwa [add_cell] at this
theorem empty_keys (d : Dk) (M k : Nat) : Ca.keys ⟨d, M, k, fun _ => none⟩ = [] := by simp [Ca.keys]
theorem cnew_ok {γ : Gh} {w : World} {db : Nat} {d : Dk} (H : DkV γ w db d) (h0 : γ.lim ≤ w.heap.size) (m : Nat) (hm : 1 ≤ m ∧ m ≤ 1024) :
    Calls Tryz.prog 39 #[.pointer (some ⟨db, 0, none⟩), .int .i64 (m : Int)] w fun e w' => ∃ cb, e = .returned (.tuple #[.pointer (some ⟨cb, 0, none⟩), .int .i64 0]) ∧ Hid (CaV γ w' cb db ⟨d, m, 0, fun _ => none⟩ ∧ Below w.heap.size w w') := by
  have i1 : ¬ (m : Int) < 1 := by omega
  have i2 : ¬ (1024 : Int) < (m : Int) := by omega
  have j1 : decide ((m : Int) < 1) = false := by simpa using i1
  have j2 : decide ((1024 : Int) < (m : Int)) = false := by simpa using i2
  have hm0 := World.ownsMap_made w Tryz.prog 3 heldR
  have hb : Below w.heap.size w ((w.alloc (.map #[] 0)).alloc (.cells #[.pointer (some ⟨db, 0, none⟩), .int .i64 (m : Int), .int .i64 0, .map (some w.heap.size)] 119)) := Below.alloc (Below.alloc (Below.refl _ _) (Nat.le_refl _) _) (by simp) _
  have hk : ((w.alloc (.map #[] 0)).alloc (.cells #[.pointer (some ⟨db, 0, none⟩), .int .i64 (m : Int), .int .i64 0, .map (some w.heap.size)] 119)).heap[w.heap.size + 1]? = some (.cells #[.pointer (some ⟨db, 0, none⟩), .int .i64 (m : Int), .int .i64 0, .map (some w.heap.size)] 119 (0, 0)) := by
    have := (Go.MapKept.heap_alloc (w.alloc (.map #[] 0)) (.cells #[.pointer (some ⟨db, 0, none⟩), .int .i64 (m : Int), .int .i64 0, .map (some w.heap.size)] 119)).1
    rwa [show (w.alloc (.map #[] 0)).heap.size = w.heap.size + 1 by simp] at this
  have hf : ((w.alloc (.map #[] 0)).alloc (.cells #[.pointer (some ⟨db, 0, none⟩), .int .i64 (m : Int), .int .i64 0, .map (some w.heap.size)] 119)).heap[w.heap.size]? = some (.map #[] 0) := (Below.heap_alloc _ _ _ (by simp)).trans (by
    have := (Go.MapKept.heap_alloc w (.map #[] 0)).1; exact this)
  have hown := World.ownsMap.alloc hm0 (.cells #[.pointer (some ⟨db, 0, none⟩), .int .i64 (m : Int), .int .i64 0, .map (some w.heap.size)] 119)
  have hD := H.keep (Step.below (S := fun _ => false) hb h0) ⟨rfl, rfl, rfl, rfl⟩
  have HF : Hid (CaV γ ((w.alloc (.map #[] 0)).alloc (.cells #[.pointer (some ⟨db, 0, none⟩), .int .i64 (m : Int), .int .i64 0, .map (some w.heap.size)] 119)) (w.heap.size + 1) db ⟨d, m, 0, fun _ => none⟩ ∧ Below w.heap.size w ((w.alloc (.map #[] 0)).alloc (.cells #[.pointer (some ⟨db, 0, none⟩), .int .i64 (m : Int), .int .i64 0, .map (some w.heap.size)] 119))) := by
    generalize (w.alloc (.map #[] 0)).alloc (.cells #[.pointer (some ⟨db, 0, none⟩), .int .i64 (m : Int), .int .i64 0, .map (some w.heap.size)] 119) = W at *
    refine Lib.hid ⟨⟨w.heap.size, .map [], fun _ => 0, { dk := hD, tg := Tag.new (by omega) hk, Bc := ?_, c0 := ?_, c1 := ?_, c2 := ?_, c3 := ?_, cz := fun o _ => ?_, tf := Tag.newM h0 hf, Bf := Nat.le_trans γ.hB h0, own := hown, sz := ?_, has := fun x hx => ?_, fr := fun s f hs => ?_, inj := fun s t hs => ?_ }⟩, hb⟩
    · have := γ.hB; omega
    · simp [World.cell?, hk]
    · simp [World.cell?, hk]
    · simp [World.cell?, hk]
    · simp [World.cell?, hk]
    · simp [World.frozen?, hk]
    · rw [empty_keys]; rfl
    · simp [Maps.has] at hx
    · cases hs
    · cases hs
  have hmm := @run_makeMap Tryz.prog
  clear hm0 hb hk hf hown hD H i1 i2
  go_enter Tryz.func39, Tryz.ntmps39
  go_wp2
  go_ret2
  exact ⟨_, rfl, HF⟩
theorem cdrop_ok {γ : Gh} {w : World} {cb db : Nat} {c : Ca} (H : CaV γ w cb db c) (h0 : γ.lim ≤ w.heap.size) {s : Nat} (hs : s < c.d.N) :
    Calls Tryz.prog 51 #[.pointer (some ⟨cb, 0, none⟩), .int .i64 s] w fun e w' => (∃ v, e = .returned v) ∧ Hid (CaV γ w' cb db (c.forget s) ∧ Step γ caS w w') := by
  obtain ⟨fb, D, β, H⟩ := H
  have CO := con_ok H.c0 H.dk.d2
  have c3 := H.c3
  have hl := H.lt
  cases hd : c.d.dead with
  | true =>
    rw [hd] at CO
    have e1 : c.forget s = c := by simp [Ca.forget, hd]
    rw [e1]
    have HF : Hid (CaV γ w cb db c ∧ Step γ caS w w) := Lib.hid ⟨H.in, Step.refl _ _ _⟩
    clear H
    go_enter Tryz.func51, Tryz.ntmps51
    go_wp2_with (go_at_call 65; refine CO.mono ?_; rintro e w5 ⟨rfl, rfl⟩)
    go_ret
    exact ⟨⟨_, rfl⟩, HF⟩
  | false =>
    rw [hd] at CO
    have e1 : c.forget s = c.drop s := by simp [Ca.forget, hd]
    rw [e1]
    cases hf : c.F s with
    | none =>
      have e2 : c.drop s = c := by
        unfold Ca.drop
        have : upd c.F s none = c.F := by funext t; unfold upd; split; rename_i h; rw [h, hf]; rfl
        rw [this]
      rw [e2]
      have hL := H.lookn hf hs
      have HF : Hid (CaV γ w cb db c ∧ Step γ caS w w) := Lib.hid ⟨H.in, Step.refl _ _ _⟩
      clear H
      go_enter Tryz.func51, Tryz.ntmps51
      go_wp2_with (go_at_call 65; refine CO.mono ?_; rintro e w5 ⟨rfl, rfl⟩)
      go_ret
      exact ⟨⟨_, rfl⟩, HF⟩
    | some f =>
      have hL := H.look hf
      have F := (H.fr s f hf).2.2
      have f3 := F.f3
      have fl := F.lt
      have HH := Lib.hid H
      have HF := Lib.hid hf
      have HK : Hid (keyOf Tryz.prog 3 (.int .i64 (s : Int)) = some (.int .i64 (s : Int))) := Lib.hid (key_nat (Nat.lt_trans (Nat.lt_of_lt_of_le hs H.dk.hN) (by decide)))
      clear H F hf hs
      go_enter Tryz.func51, Tryz.ntmps51
      go_wp2_with (first
        | (go_at_call 65; refine CO.mono ?_; rintro e w5 ⟨rfl, rfl⟩)
        | (at_delete; go_loud (refine wpList_delete_own _ rfl _ _ 117 3 rfl 116 key3 Tryz.underlying117 heldR fb _ _ rfl HH.out.own (.int .i64 (s : Int)) _ rfl HK.out ?_; intro w6 hm6 ht6; have HD := Lib.hid (HH.out.drop HF.out ht6 hm6); clear hm6 ht6)))
      go_ret
      exact ⟨⟨_, rfl⟩, Lib.hid ⟨HD.out.1.in, HD.out.2.mono ca172⟩⟩
end Go.Tb
namespace Go.Tb
open Go Go.RowKit Go.Proofs Go.Maps Go.Sp Go.ChangeMaps
def Rising : Prop := ∀ (γ : Gh) (w : World) (cb db : Nat) (c : Ca), CaV γ w cb db c → γ.lim ≤ w.heap.size → Calls Tryz.prog 66 #[.pointer (some ⟨cb, 0, none⟩)] w fun e w' => ∃ v, e = .returned v ∧ NR γ w' v c.keys ∧ Below w.heap.size w w'
structure FlI (γ : Gh) (w wr : World) (cb db : Nat) (c ck : Ca) (l : List Nat) (k : Nat) : Prop where
  H : CaV γ wr cb db ck
  fl : ck.flushL (l.drop k) = c.flushL l
  ok : ck.Ok
  hd : ck.d.dead = false
  P : ck.d.P.length ≤ c.d.P.length + k
  N : ck.d.N = c.d.N
  F : ∀ s, (ck.F s).isSome = (c.F s).isSome
  S : Step γ caS w wr
theorem nz {r : Nat} (h : ¬ r = 0) : ((r : Int) != 0) = true := by simp; omega
theorem measT {n k : Nat} (e : k < n) : n - (Go.RowKit.intOf (.int .i64 ((k : Int) + 1))).toNat < n - (Go.RowKit.intOf (.int .i64 (k : Int))).toNat := by
  show n - (k + 1) < n - k
  omega
theorem clean_eq {c : Ca} {s : Nat} {f : Fr} (h : c.F s = some f) : c.lay s { f with dirty := false } = c.clean s := by simp [Ca.lay, Ca.clean, h]
theorem flush_round {γ : Gh} {w wr : World} {cb db : Nat} {c ck : Ca} {l : List Nat} {k s : Nat} (I : FlI γ w wr cb db c ck l k) (hl : l = c.keys) (hs : l[k]? = some s) : l.drop k = s :: l.drop (k + 1) ∧ (ck.F s).isSome = true ∧ s < ck.d.N := by
  have hk := (List.getElem?_eq_some_iff.1 hs).1
  have hm := Ca.mem_keys.1 (hl ▸ List.mem_of_getElem? hs : s ∈ c.keys)
  refine ⟨?_, (I.F s).trans hm.2, by rw [I.N]; exact hm.1⟩
  rw [List.drop_eq_getElem_cons hk, (List.getElem?_eq_some_iff.1 hs).2]
theorem flush_ok (RS : Rising) {γ : Gh} {w : World} {cb db : Nat} {c : Ca} (H : CaV γ w cb db c) (hok : c.Ok) (h0 : γ.lim ≤ w.heap.size) (hP : c.d.P.length < 900000) :
    Calls Tryz.prog 32 #[.pointer (some ⟨cb, 0, none⟩)] w fun e w' => e = .returned (.int .i64 ((c.flush).1 : Nat)) ∧ Hid (CaV γ w' cb db (c.flush).2 ∧ Step γ caS w w') := by
  obtain ⟨fb, D, β, H'⟩ := id H
  have CO := con_ok H'.c0 H'.dk.d2
  have hN := H'.dk.hN
  clear H'
  cases hd : c.d.dead with
  | true =>
    rw [hd] at CO
    have e1 : c.flush = (4, c) := by simp [Ca.flush, hd]
    rw [e1]
    have HF : Hid (CaV γ w cb db c ∧ Step γ caS w w) := Lib.hid ⟨H, Step.refl _ _ _⟩
    clear H
    go_enter Tryz.func32, Tryz.ntmps32
    go_wp2_with (go_at_call 65; refine CO.mono ?_; rintro e w5 ⟨rfl, rfl⟩)
    go_ret
    exact ⟨rfl, HF⟩
  | false =>
    rw [hd] at CO
    have RI := RS γ w cb db c H h0
    obtain ⟨l, hl⟩ : ∃ l, l = c.keys := ⟨_, rfl⟩
    have e1 : c.flush = if (c.flushL l).1 ≠ 0 then c.flushL l else ((c.flushL l).2.d.barrier.1, { (c.flushL l).2 with d := (c.flushL l).2.d.barrier.2 }) := by
      unfold Ca.flush; rw [if_neg (by simp [hd]), hl]
    obtain ⟨q, hq⟩ : ∃ q, q = c.flush := ⟨_, rfl⟩
    rw [← hq]
    have HQ := Lib.hid (hq.trans e1)
    clear hq
    rw [← hl] at RI
    have hll : l.length ≤ 4096 := by rw [hl]; have := Ca.keys_le c; omega
    obtain ⟨n, hn⟩ : ∃ n, n = l.length := ⟨_, rfl⟩
    rw [← hn] at hll
    have HH := Lib.hid (And.intro H (And.intro hok (And.intro h0 (And.intro hP (And.intro hd hl)))))
    have HN := Lib.hid hn
    clear H hok h0 hP hd hl hn e1 hN
    go_enter Tryz.func32, Tryz.ntmps32
    go_upto_region 5 with (first
      | (go_at_call 65; refine CO.mono ?_; rintro e w5 ⟨rfl, rfl⟩)
      | (go_at_call 66; refine RI.mono ?_; rintro e w6 ⟨v, rfl, hnr, hb6⟩; obtain ⟨va, vc, rfl⟩ := hnr.shape; rw [← HN.out]; rw [← HN.out] at hnr))
    have h06 : γ.lim ≤ w6.heap.size := Nat.le_trans HH.out.2.2.1 hb6.size
    have HI0 : Hid (FlI γ w5 w6 cb db c c l 0) := Lib.hid ⟨CaV.below HH.out.1 hb6 HH.out.2.2.1, by rw [List.drop_zero], HH.out.2.1, HH.out.2.2.2.2.1, Nat.le_refl _, rfl, fun _ => rfl, Step.below hb6 HH.out.2.2.1⟩
    have HNR := Lib.hid hnr
    have H06 := Lib.hid h06
    clear hnr hb6 h06 RI CO
    go_loopw [15] (fun u wr => ∃ k : Nat, u = .int .i64 k ∧ k ≤ n ∧ Hid (Step γ caS w6 wr ∧ ∃ ck, FlI γ w5 wr cb db c ck l k)) (fun u _ => n - (Go.RowKit.intOf u).toNat)
    case atStart => exact ⟨0, rfl, Nat.zero_le _, Lib.hid ⟨Step.refl _ _ _, _, HI0.out⟩⟩
    case round =>
      obtain ⟨k, rfl, hk, hI⟩ := hrel
      obtain ⟨S6, ck, I⟩ := hI.out
      have h0r : γ.lim ≤ wr.heap.size := Nat.le_trans H06.out S6.size
      by_cases e : k < n
      · have i4 : (k : Int) < (n : Int) := by omega
        have i5 : (0 : Int) ≤ (k : Int) := by omega
        have hwr : Hid (wrap64 ((k : Int) + 1) = (k : Int) + 1) := Lib.hid (wrapS (Nat.lt_of_lt_of_le (Nat.lt_of_lt_of_le e hll) (by decide)))
        obtain ⟨s, hs⟩ : ∃ s, l[k]? = some s := ⟨_, List.getElem?_eq_getElem (by rw [← HN.out]; exact e)⟩
        obtain ⟨hdr, hsome, hsN⟩ := flush_round I HH.out.2.2.2.2.2 hs
        obtain ⟨a', c', e1, _, hrow⟩ := HNR.out.keep S6 rfl
        injection e1 with e1 e3 e2
        subst e1 e2
        clear e3
        obtain ⟨g, o, rfl, hg, _, hcell⟩ := hrow (by rw [← HN.out]; omega)
        have cs := hcell k s hs
        obtain ⟨f, hf⟩ := Option.isSome_iff_exists.1 hsome
        obtain ⟨fb, D, β, H⟩ := I.H
        have CW := cw_ok H I.ok I.hd h0r hf (by have := I.P; have := HH.out.2.2.2.1; omega)
        have hcwF := Ca.cw_F ck s
        have hfl : ck.flushL (l.drop k) = if (ck.cw s).1 ≠ 0 then ck.cw s else ((ck.cw s).2.clean s).flushL (l.drop (k + 1)) := by rw [hdr]; rfl
        rw [I.fl] at hfl
        have hcwP := Ca.cw_P ck s
        have hcwA := Ca.cw_alive (s := s) I.hd
        have hcwO := I.ok.cw s
        generalize ck.cw s = rr at CW hcwF hfl hcwP hcwA hcwO
        obtain ⟨r, c2⟩ := rr
        dsimp only at CW hcwF hfl hcwP hcwA hcwO
        have HIk := Lib.hid I
        have HSS := Lib.hid S6
        clear I S6 H hI hdr hsome hrow hcell hs hg
        by_cases hr : r = 0
        · subst hr
          rw [if_neg (by simp)] at hfl
          have HG := Lib.hid (And.intro hfl (And.intro (hcwA rfl) (And.intro hcwO (And.intro hcwF hcwP))))
          have hf2 : c2.F s = some f := by rw [hcwF.1]; exact hf
          have HF2 := Lib.hid hf2
          have HSN := Lib.hid hsN
          clear hfl hcwF hcwP hcwA hcwO hf hf2 hsN
          go_upto_region 10 with (go_at_call 67; refine CW.mono ?_; rintro e w7 ⟨rfl, H7, S7⟩; have c37 := H7.c3; have l7 := H7.lt; have hL7 := H7.look HF2.out; obtain ⟨_, _, F7⟩ := H7.fr s f HF2.out; have f72 := F7.f2; have f7z := F7.fz 2 (by decide); have f7l := F7.lt; have HH7 := Lib.hid (And.intro H7 (And.intro S7 F7)); clear H7 S7 F7)
          obtain ⟨F8, S8⟩ := HH7.out.2.2.set (v := .bool false) (o := 2) (f' := { f with dirty := false }) (by decide) rfl (if_neg (by decide)) (if_pos rfl)
          have H8 := HH7.out.1.frame HF2.out S8 (fun t ht h1 => heap_setCell_other _ (⟨β s, 2, none⟩ : Addr) _ _ (fun e => ht (HH7.out.1.inj t s h1 (by rw [HF2.out]; rfl) e))) F8
          rw [clean_eq HF2.out] at H8
          have S78 : Step γ caS wr (w7.setCell ⟨β s, 2, none⟩ (.bool false)) := (HH7.out.2.1.mono dkca).trans (S8.mono ca170)
          have hfin : Hid (Step γ caS w6 (w7.setCell ⟨β s, 2, none⟩ (.bool false)) ∧ ∃ ck, FlI γ w5 (w7.setCell ⟨β s, 2, none⟩ (.bool false)) cb db c ck l (k + 1)) := Lib.hid ⟨HSS.out.trans S78, _, ⟨H8.in, HG.out.1.symm, HG.out.2.2.1.clean s, HG.out.2.1, by have := HG.out.2.2.2.2; have := HIk.out.P; show c2.d.P.length ≤ _; omega, by show c2.d.N = _; rw [HG.out.2.2.2.1.2.2.2]; exact HIk.out.N, fun t => by
            rw [← HIk.out.F t, ← HG.out.2.2.2.1.1]
            show (upd c2.F s _ t).isSome = _
            unfold upd
            split
            · rename_i e; rw [e, HF2.out]; rfl
            · rfl, HIk.out.S.trans S78⟩⟩
          clear F8 S8 H8 S78 cs
          go_wp2_with fail
          go_roundw
          all_goals have hwr := hwr.out
          · exact ⟨k + 1, by simp [hwr], e, hfin⟩
          · exact measT e
        · rw [if_pos hr] at hfl
          have hb : ((r : Int) != 0) = true := nz hr
          have HG := Lib.hid (And.intro hfl hr)
          clear hfl hcwF hcwP hcwA hcwO hf hsN hr
          go_wp2_with (go_at_call 67; refine CW.mono ?_; rintro e w7 ⟨rfl, H7, S7⟩; have HF := Lib.hid (And.intro H7.in (HIk.out.S.trans (S7.mono dkca))); clear H7 S7)
          go_ret
          have hq : q = (r, c2) := by rw [HQ.out, HG.out.1, if_pos HG.out.2]
          rw [hq]
          exact ⟨rfl, HF⟩
      · obtain rfl : k = n := by omega
        obtain ⟨fb, D, β, H⟩ := I.H
        have BA := barrier_ok H.dk h0r (by have := I.P; have := HH.out.2.2.2.1; omega)
        have c0 := H.c0
        have lr := H.lt
        have hfl := I.fl
        rw [List.drop_of_length_le (by rw [HN.out]; exact Nat.le_refl _)] at hfl
        have hfl' : c.flushL l = (0, ck) := hfl.symm
        have HG := Lib.hid hfl'
        have HHI := Lib.hid (And.intro H I.S)
        clear hfl hfl' H I S6 hI
        have BA2 : Calls Tryz.prog 36 #[.pointer (some ⟨db, 0, none⟩)] wr fun e w' => e = .returned (.int .i64 (ck.d.barrier.1 : Nat)) ∧ Hid (CaV γ w' cb db { ck with d := ck.d.barrier.2 } ∧ Step γ caS w5 w') := BA.mono (by
          rintro e w' ⟨rfl, D1, S1⟩
          exact ⟨rfl, Lib.hid ⟨(HHI.out.1.disk S1 D1 (Dk.barrier_N _)).in, HHI.out.2.trans (S1.mono dkca)⟩⟩)
        clear BA
        go_wp2_with (go_at_call 36; refine BA2.mono ?_; rintro e w9 ⟨rfl, h9⟩)
        go_ret
        have hq : q = (ck.d.barrier.1, { ck with d := ck.d.barrier.2 }) := by rw [HQ.out, HG.out, if_neg (by simp)]
        rw [hq]
        exact ⟨rfl, h9⟩
end Go.Tb
namespace Go.Tb
open Go Go.Proofs
open Go.RowKit Go.Maps Go.Sort
set_option maxHeartbeats 1000000 in
theorem keys212 {H : Type} (F : Fence) (n : Nat) (h212 : F.fn 121) (hro : F.round = none) (hn : 1 ≤ n) (l : Nat) (a : Addr) (b nn : Nat) (D0 : DataW H) {R : Value → Option (DataW H × List MemPlace)} (J : List Int → World → Prop)
    (hY : ∀ pre x W, J pre W → pre.length < Maps.size D0 → YieldAt F (n - 1) Tryz.prog l #[encZ x] W fun e W' => e = .returned (.bool true) ∧ J (pre ++ [x]) W' ∧ KeepsWalks W W')
    (W : World) (hJ : AbidesFrom W.heap.size J) (hm : W.cell? a = some (.map (some b))) (hown : W.ownsMap Tryz.prog 3 R b nn D0) (h0 : J [] W) :
    CallsIn F n Tryz.prog 121 #[.func (.yield l) #[] #[], .pointer (some a)] W fun e W' => (∃ v, e = .returned v) ∧ ∃ ss : List Int, ss.Perm (intKeys D0) ∧ J ss W' := by
  refine callsIn_of_wp Tryz.func121 rfl h212 ?_ hro
  simp only [Tryz.ntmps121, List.size_toArray, List.length_cons, List.length_nil, Nat.reduceAdd, Nat.reduceSub, Array.replicate_succ, Array.replicate_zero, List.push_toArray, List.append_toArray, List.nil_append, List.cons_append]
  gi_wp2_with (first
    | (gi_at_range; refine wpListIn_range_own _ rfl _ 117 rfl 3 _ key3 Tryz.underlying117 _ b nn _ rfl hown ?_; intro w0 hrg0 hg0 hs0)
    | gi_in)
  go_frame
  gi_loopw [3] (fun _ wr => ∃ (left : Lit → Bool) (cnt : Nat) (ss : List Int), wr.ranges Tryz.prog 3 R b W.heap.size nn D0 left cnt ∧ ss.length + cnt ≤ Maps.size D0 ∧ CollectedI D0 left ss ∧ J ss wr)
    (fun _ wr => wr.rangeLeft b W.heap.size)
  case atStart =>
    exact ⟨_, _, [], hrg0, by simp, CollectedI.start D0, hJ [] W w0 none h0 hg0 (fun r e => by cases e)⟩
  case round =>
    obtain ⟨left, cnt, ss, hrg, hcs, hC, hJs⟩ := hrel
    gi_wp2_with (first
      | (gi_at_next; refine wpListIn_next_ranges _ rfl _ rfl 3 key3 R encZ id (fun key kl hk => by obtain ⟨x, hx, _⟩ := Maps.keyOf_i64 Tryz.underlying3 hk; exact ⟨x, hx⟩) (fun v _ _ => ⟨v, rfl⟩) b W.heap.size nn _ _ _ rfl hrg ?_ ?_)
      | gi_in)
    · intro hc0 hl0
      gi_wp2
      go_end0
      exact ⟨⟨_, rfl⟩, ss, hC.perm hown key3 Tryz.underlying3 hl0, hJs⟩
    · intro x c kl yd yp w2 cnt2 hkey hlk hv hat hrg2 hlt hg2 hs2 hen
      obtain ⟨x', ex, rfl, _⟩ := Maps.keyOf_i64 Tryz.underlying3 hkey
      obtain rfl : x = x' := encZ_inj ex
      have hJ2 : J ss w2 := hJ ss wr w2 (some W.heap.size) hJs hg2 (fun r e => by cases e; exact ⟨Nat.le_refl _, hrg.iter_walk⟩)
      obtain ⟨fn, tmps, assign, body, hy, hR⟩ := hY ss x w2 hJ2 (by omega)
      clear hs2
      gi_wp2
      refine hR.mono ?_
      rintro e W3 ⟨rfl, hJ3, hk3⟩
      gi_wp2
      have hrg3 := hrg2.of_walks hk3
      go_roundw
      case rel => exact ⟨_, cnt2, ss ++ [x], hrg3, by simp; omega, hC.step hlk hat, hJ3⟩
      case measure => rw [hrg3.left_eq, hrg.left_eq]; exact hlt
theorem keys212_gives {H : Type} (F : Fence) (n : Nat) (h212 : F.fn 121) (hro : F.round = none) (hn : 1 ≤ n) (a : Addr) (b nn : Nat) (D0 : DataW H) {R : Value → Option (DataW H × List MemPlace)} (w : World) (ha : a.block < w.heap.size)
    (hm : w.cell? a = some (.map (some b))) (hown : w.ownsMap Tryz.prog 3 R b nn D0) :
    SeqGives F n Tryz.prog 121 #[.pointer (some a)] encZ (fun ss => ss.Perm (intKeys D0)) (Maps.size D0) w := fun l J W hW hJ hY h0 => by
  have hown' : W.ownsMap Tryz.prog 3 R b nn D0 := by
    have hbl := hown.lt
    obtain ⟨es, clock, hb, Ft, hs, hD⟩ := hown
    exact ⟨es, clock, (hW.block b hbl).trans hb, Ft, hs, hD⟩
  exact keys212 F n h212 hro hn l a b nn D0 J hY W hJ ((hW.cell (p := a) ha).trans hm) hown' h0
end Go.Tb
namespace Go.Proofs
open Go.Shelf
def Tryz.sortedS_ren : Go.Shelf.Ren := ⟨fun | 6 => 58 | 8 => 95 | 9 => 96 | 11 => 118 | 13 => 120 | 12 => 119 | 23 => 142 | 24 => 143 | 14 => 133 | 15 => 134 | 16 => 135 | 17 => 136 | 18 => 137 | 19 => 138 | 20 => 139 | 21 => 140 | 22 => 141 | 25 => 149 | 26 => 150 | 27 => 151 | 28 => 152 | 29 => 153 | 30 => 154 | 31 => 163 | n => n, fun | 26 => 3 | 28 => 104 | 24 => 51 | 0 => 0 | 3 => 3 | 37 => 163 | 48 => 66 | 50 => 101 | 4 => 4 | 40 => 198 | 39 => 197 | 45 => 49 | 5 => 5 | 9 => 9 | 51 => 208 | 55 => 212 | 57 => 225 | 58 => 226 | 33 => 89 | n => n, fun | n => n⟩
theorem Tryz.sortedS : Go.Proofs.SlLaysZI.n6 Tryz.prog Tryz.sortedS_ren := {
  mixed := by kernel_rfl
  f6 := ⟨Tryz.f58.name, by decide, Tryz.func58.trans (congrArg some (by kernel_rfl))⟩
  f8 := ⟨Tryz.f95.name, by decide, Tryz.func95.trans (congrArg some (by kernel_rfl))⟩
  f11 := ⟨Tryz.f118.name, by decide, Tryz.func118.trans (congrArg some (by kernel_rfl))⟩
  t0 := Tryz.underlying0
  a0 := Tryz.isAgg0
  z0 := Tryz.sizeOf0
  v0 := Tryz.zeroValue0
  t24 := Tryz.underlying51
  a24 := Tryz.isAgg51
  z24 := Tryz.sizeOf51
  v24 := Tryz.zeroValue51
  t26 := Tryz.underlying3
  a26 := Tryz.isAgg3
  z26 := Tryz.sizeOf3
  v26 := Tryz.zeroValue3
  t28 := Tryz.underlying104
  a28 := Tryz.isAgg104
  z28 := Tryz.sizeOf104
  v28 := Tryz.zeroValue104
  i26 := by kernel_rfl }
def Tryz.sortS_ren : Go.Shelf.Ren := ⟨fun | 5 => 96 | 8 => 120 | 7 => 119 | 19 => 142 | 20 => 143 | 10 => 133 | 11 => 134 | 12 => 135 | 13 => 136 | 14 => 137 | 15 => 138 | 16 => 139 | 17 => 140 | 18 => 141 | 30 => 149 | 31 => 150 | 32 => 151 | 33 => 152 | 34 => 153 | 35 => 154 | 40 => 163 | n => n, fun | 23 => 51 | 25 => 3 | 3 => 3 | 32 => 163 | 22 => 51 | 0 => 0 | 44 => 66 | 46 => 101 | 4 => 4 | 36 => 198 | 35 => 197 | 41 => 49 | 5 => 5 | 9 => 9 | 53 => 208 | 57 => 212 | 63 => 225 | 64 => 226 | n => n, fun | n => n⟩
theorem Tryz.sortS : Go.Proofs.SlLaysM.n5 Tryz.prog Tryz.sortS_ren := {
  mixed := by kernel_rfl
  f5 := ⟨Tryz.f96.name, by decide, Tryz.func96.trans (congrArg some (by kernel_rfl))⟩
  f7 := ⟨Tryz.f119.name, by decide, Tryz.func119.trans (congrArg some (by kernel_rfl))⟩
  f8 := Tryz.func120.trans (congrArg some (by kernel_rfl))
  f10 := ⟨Tryz.f133.name, by decide, Tryz.func133.trans (congrArg some (by kernel_rfl))⟩
  f11 := ⟨Tryz.f134.name, by decide, Tryz.func134.trans (congrArg some (by kernel_rfl))⟩
  f12 := ⟨Tryz.f135.name, by decide, Tryz.func135.trans (congrArg some (by kernel_rfl))⟩
  f13 := ⟨Tryz.f136.name, by decide, Tryz.func136.trans (congrArg some (by kernel_rfl))⟩
  f14 := ⟨Tryz.f137.name, by decide, Tryz.func137.trans (congrArg some (by kernel_rfl))⟩
  f15 := ⟨Tryz.f138.name, by decide, Tryz.func138.trans (congrArg some (by kernel_rfl))⟩
  f16 := ⟨Tryz.f139.name, by decide, Tryz.func139.trans (congrArg some (by kernel_rfl))⟩
  f17 := ⟨Tryz.f140.name, by decide, Tryz.func140.trans (congrArg some (by kernel_rfl))⟩
  f18 := ⟨Tryz.f141.name, by decide, Tryz.func141.trans (congrArg some (by kernel_rfl))⟩
  f19 := Tryz.func142.trans (congrArg some (by kernel_rfl))
  f20 := Tryz.func143.trans (congrArg some (by kernel_rfl))
  f30 := ⟨Tryz.f149.name, by decide, Tryz.func149.trans (congrArg some (by kernel_rfl))⟩
  f31 := Tryz.func150.trans (congrArg some (by kernel_rfl))
  f32 := Tryz.func151.trans (congrArg some (by kernel_rfl))
  f33 := ⟨Tryz.f152.name, by decide, Tryz.func152.trans (congrArg some (by kernel_rfl))⟩
  f34 := ⟨Tryz.f153.name, by decide, Tryz.func153.trans (congrArg some (by kernel_rfl))⟩
  f35 := ⟨Tryz.f154.name, by decide, Tryz.func154.trans (congrArg some (by kernel_rfl))⟩
  f40 := ⟨Tryz.f163.name, by decide, Tryz.func163.trans (congrArg some (by kernel_rfl))⟩
  t0 := Tryz.underlying0
  a0 := Tryz.isAgg0
  z0 := Tryz.sizeOf0
  v0 := Tryz.zeroValue0
  t3 := Tryz.underlying3
  a3 := Tryz.isAgg3
  z3 := Tryz.sizeOf3
  v3 := Tryz.zeroValue3
  t4 := Tryz.underlying4
  a4 := Tryz.isAgg4
  z4 := Tryz.sizeOf4
  v4 := Tryz.zeroValue4
  t5 := Tryz.underlying5
  a5 := Tryz.isAgg5
  z5 := Tryz.sizeOf5
  v5 := Tryz.zeroValue5
  t9 := Tryz.underlying9
  a9 := Tryz.isAgg9
  z9 := Tryz.sizeOf9
  v9 := Tryz.zeroValue9
  t22 := Tryz.underlying51
  a22 := Tryz.isAgg51
  z22 := Tryz.sizeOf51
  v22 := Tryz.zeroValue51
  t23 := Tryz.underlying51
  a23 := Tryz.isAgg51
  z23 := Tryz.sizeOf51
  v23 := Tryz.zeroValue51
  t25 := Tryz.underlying3
  a25 := Tryz.isAgg3
  z25 := Tryz.sizeOf3
  v25 := Tryz.zeroValue3
  t32 := Tryz.underlying163
  a32 := Tryz.isAgg163
  z32 := Tryz.sizeOf163
  v32 := Tryz.zeroValue163
  t35 := Tryz.underlying197
  a35 := Tryz.isAgg197
  z35 := Tryz.sizeOf197
  v35 := Tryz.zeroValue197
  t36 := Tryz.underlying198
  a36 := Tryz.isAgg198
  z36 := Tryz.sizeOf198
  v36 := Tryz.zeroValue198
  t41 := Tryz.underlying49
  a41 := Tryz.isAgg49
  z41 := Tryz.sizeOf49
  v41 := Tryz.zeroValue49
  t44 := Tryz.underlying66
  a44 := Tryz.isAgg66
  z44 := Tryz.sizeOf66
  v44 := Tryz.zeroValue66
  t46 := Tryz.underlying101
  a46 := Tryz.isAgg101
  z46 := Tryz.sizeOf101
  v46 := Tryz.zeroValue101
  t53 := Tryz.underlying208
  a53 := Tryz.isAgg208
  z53 := Tryz.sizeOf208
  v53 := Tryz.zeroValue208
  t57 := Tryz.underlying212
  a57 := Tryz.isAgg212
  z57 := Tryz.sizeOf212
  v57 := Tryz.zeroValue212
  t63 := Tryz.underlying225
  a63 := Tryz.isAgg225
  z63 := Tryz.sizeOf225
  v63 := Tryz.zeroValue225
  t64 := Tryz.underlying226
  a64 := Tryz.isAgg226
  z64 := Tryz.sizeOf226
  v64 := Tryz.zeroValue226 }
end Go.Proofs
namespace Go.Tb
open Go Go.RowKit Go.Proofs Go.Maps Go.Sort Go.Shelf
def Enters (P : Program) (f : Nat) : Prop := ∀ args w, (callFunc f args).run P w = .ok (.enter f args) w
theorem enters_of {P : Program} {f : Nat} {fn : Func} (h : P.funcs[f]? = some fn) (hb : fn.body.isSome = true) (hn : (fn.name == "runtime.NumGoroutine") = false) : Enters P f := by
  obtain ⟨c, hc⟩ := Option.isSome_iff_exists.1 hb
  have hn' : ¬ fn.name = "runtime.NumGoroutine" := by intro e; rw [e] at hn; simp at hn
  intro args w
  simp [callFunc, h, hn', hc]
theorem enters121 : Enters Tryz.prog 121 := enters_of Tryz.func121 (by kernel_rfl) (by kernel_rfl)
theorem enters96 : Enters Tryz.prog 96 := enters_of Tryz.func96 (by kernel_rfl) (by kernel_rfl)
theorem sortsT (m : Nat) : AnyZI.SortsIn Tryz.prog Tryz.sortedS_ren Fence.wide m :=
  ⟨fun blk off cap ss W hH hblk hsz => callsIn_wide.2 (AnyM.slices_Sort_int Tryz.sortS blk off cap ss W hH hblk hsz),
   fun p cap W => callsIn_wide.2 (AnyM.slices_Sort_int_none Tryz.sortS p cap W)⟩
theorem sorted_ok {H : Type} {a : Addr} {b nn : Nat} {D0 : DataW H} {R : Value → Option (DataW H × List MemPlace)} {w : World} (ha : a.block < w.heap.size) (hm : w.cell? a = some (.map (some b))) (hown : w.ownsMap Tryz.prog 3 R b nn D0) (hmax : Maps.size D0 ≤ maxLen) (hbytes : Maps.size D0 * 8 ≤ 140737488355328) :
    Calls Tryz.prog 58 #[.func (.func 121) #[] #[.pointer (some a)]] w fun e w' => ∃ (v : Value) (ss : List Int), e = .returned v ∧ ss.Perm (intKeys D0) ∧
      w'.ownsRow w.heap.size 3 1 v ss.length ((ss.mergeSort (fun x y => decide (x ≤ y))).map encZ) ∧ (v = .slice none 0 0 ↔ ss = []) ∧ Below w.heap.size w w' := by
  refine (callsIn_wide (n := 5)).1 ?_
  have hseq : SeqGives Fence.wide 2 Tryz.prog 121 #[.pointer (some a)] encZ (fun ss => ss.Perm (intKeys D0)) (Maps.size D0) w :=
    keys212_gives Fence.wide 2 trivial rfl (by omega) a b nn D0 w ha hm hown
  exact AnyZI.sorted_in Tryz.sortedS Fence.wide 5 trivial trivial trivial trivial rfl (by omega) (sortsT _) enters96  121 #[.pointer (some a)] trivial enters121 _ _ hmax hbytes _ hseq
theorem keys_ok {w : World} {eb : Nat} : Calls Tryz.prog 101 #[.map (some eb)] w fun e w' => e = .returned (.func (.func 121) #[] #[.pointer (some ⟨w.heap.size, 0, none⟩)]) ∧ w' = w.alloc (.cells #[.map (some eb)] 117) := by
  go_enter Tryz.func101, Tryz.ntmps101
  go_wp2
  go_ret
  exact ⟨rfl, rfl⟩
theorem sorted_eq {l m : List Nat} (h1 : l.Pairwise (· ≤ ·)) (h2 : m.Pairwise (· ≤ ·)) (h : l.Perm m) : l = m := h.eq_of_pairwise (fun a b _ _ q1 q2 => Nat.le_antisymm q1 q2) h1 h2
theorem range_sorted : ∀ n, (List.range n).Pairwise (· ≤ ·) := fun n => (List.pairwise_lt_range).imp (fun h => Nat.le_of_lt h)
end Go.Tb
namespace Go.Tb
open Go Go.RowKit Go.Proofs Go.Maps Go.Sp Go.ChangeMaps Go.Sort
theorem CaW.keysI {γ : Gh} {w : World} {cb db : Nat} {c : Ca} {fb : Nat} {D : DataW Value} {β : Nat → Nat} (H : CaW γ w cb db c fb D β) : (c.keys.map fun (x : Nat) => (x : Int)).Perm (intKeys D) := by
  have h : CollectedI D (fun _ => false) (c.keys.map fun (x : Nat) => (x : Int)) := by
    refine ⟨?_, fun x => ?_⟩
    · exact List.Pairwise.map _ (fun a b h e => h (by omega)) c.keys_nodup
    · rw [List.mem_map]
      constructor
      · rintro ⟨s, hs, rfl⟩
        have := H.has' (Ca.mem_keys.1 hs).2
        simp [this]
      · intro hx
        obtain ⟨s, rfl, hs⟩ := H.has x (by simpa using hx)
        obtain ⟨f, hf⟩ := Option.isSome_iff_exists.1 hs
        exact ⟨s, Ca.mem_keys.2 ⟨(H.fr s f hf).1, hs⟩, rfl⟩
  exact h.perm H.own key3 Tryz.underlying3 (fun _ => rfl)
theorem keysort {c : Ca} {ss : List Int} {D : DataW Value} (h1 : ss.Perm (intKeys D)) (h2 : (c.keys.map fun (x : Nat) => (x : Int)).Perm (intKeys D)) : ss.mergeSort (fun x y => decide (x ≤ y)) = c.keys.map fun (x : Nat) => (x : Int) := by
  have h3 : ss.mergeSort leI = (c.keys.map fun (x : Nat) => (x : Int)).mergeSort leI := mergeSort_of_perm_i (h1.trans h2.symm)
  show ss.mergeSort leI = _
  rw [h3]
  refine List.mergeSort_of_pairwise ?_
  refine List.Pairwise.map _ (fun a b (h : a ≤ b) => ?_) ((range_sorted c.d.N).filter _)
  simp; exact h
theorem rising : Rising := by
  intro γ w cb db c H h0
  obtain ⟨fb, D, β, H⟩ := H
  have c3 := H.c3
  have hl := H.lt
  have hN := H.dk.hN
  have hkk := Ca.keys_le c
  have K1 := keys_ok (w := w) (eb := fb)
  have hown : (w.alloc (.cells #[.map (some fb)] 117)).ownsMap Tryz.prog 3 heldR fb _ D := World.ownsMap.alloc H.own _
  have hc : (w.alloc (.cells #[.map (some fb)] 117)).cell? ⟨w.heap.size, 0, none⟩ = some (.map (some fb)) := by
    have := (Go.MapKept.heap_alloc w (.cells #[.map (some fb)] 117)).1
    generalize w.alloc (.cells #[.map (some fb)] 117) = W at this ⊢
    simp [World.cell?, this]
  have hbel : Below w.heap.size w (w.alloc (.cells #[.map (some fb)] 117)) := Below.alloc (Below.refl _ _) (Nat.le_refl _) _
  have hsz := H.sz
  have S := sorted_ok (cell_lt' hc) hc hown (Nat.le_trans (show _ ≤ 4096 by omega) (by decide)) (by omega)
  have hki := H.keysI
  generalize w.alloc (.cells #[.map (some fb)] 117) = W at K1 S hbel
  have S2 : Calls Tryz.prog 58 #[.func (.func 121) #[] #[.pointer (some ⟨w.heap.size, 0, none⟩)]] W fun e w' => ∃ v, e = .returned v ∧ Hid (NR γ w' v c.keys ∧ Below w.heap.size w w') := S.mono (by
    rintro e w' ⟨v, ss, rfl, q1, q2, q3, q4⟩
    refine ⟨v, rfl, Lib.hid ⟨NR.row (n := ss.length) ?_ (Nat.le_trans h0 hbel.size), Below.up hbel q4⟩⟩
    rw [keysort q1 hki, List.map_map] at q2
    exact q2)
  clear hown hc hsz hbel S hki H hN hkk
  go_enter Tryz.func66, Tryz.ntmps66
  go_wp2_with (first | (go_at_call 101; refine K1.mono ?_; rintro e w5 ⟨rfl, rfl⟩) | (go_at_call 58; refine S2.mono ?_; rintro e w6 ⟨v, rfl, q⟩))
  go_ret
  exact ⟨_, rfl, q.out⟩
end Go.Tb
namespace Go.Tb
open Go Go.RowKit Go.Proofs Go.Maps Go.Sp
structure MapK (γ : Gh) (w : World) (mb : Nat) (f : Nat → Nat) : Prop where
  v : MapV w mb f
  tg : Tag γ w mb 109
  B : γ.B ≤ mb
theorem MapK.lt {γ : Gh} {w : World} {mb : Nat} {f : Nat → Nat} (h : MapK γ w mb f) : mb < w.heap.size := cell_lt' (h.v.at (i := 0) (by decide)).1
theorem MapK.keep {γ : Gh} {S : TypeId → Bool} {w w' : World} {mb : Nat} {f : Nat → Nat} (h : MapK γ w mb f) (hs : Step γ S w w') (hS : S 109 = false) : MapK γ w' mb f :=
  ⟨h.v.keep (hs.heap h.tg hS h.lt), hs.tg _ _ (by decide) h.lt h.tg, h.B⟩
theorem MapK.more {γ γ' : Gh} {w : World} {mb : Nat} {f : Nat → Nat} (h : MapK γ w mb f) (hl : Gh.Le w γ γ') : MapK γ' w mb f := ⟨h.v, h.tg.more hl h.lt, hl.B ▸ h.B⟩
theorem MapK.set {γ : Gh} {w : World} {mb : Nat} {f : Nat → Nat} (h : MapK γ w mb f) {i x : Nat} (hi : i < 1024) (hx : x < 65536) : MapK γ (w.setCell ⟨mb, i, none⟩ (.int .u16 x)) mb (upd f i x) ∧ Step γ (fun T => T == 109) w (w.setCell ⟨mb, i, none⟩ (.int .u16 x)) :=
  ⟨⟨h.v.set hi hx, h.tg.set (h.v.at hi).1, h.B⟩, Step.set h.tg rfl h.B (h.v.at hi).1⟩
theorem clear_no {w : World} {mb : Nat} {f : Nat → Nat} (h : MapV w mb f) {p : Nat} (hp : p < 1024) (hf : f p = 0) :
    Calls Tryz.prog 94 #[.pointer (some ⟨mb, 0, none⟩), .int .i64 p] w fun e w' => e = .returned (.bool false) ∧ w' = w := by
  have H := has_ok h hp
  rw [show decide (0 < f p) = false by simp [hf]] at H
  clear h
  go_enter Tryz.func94, Tryz.ntmps94
  go_wp2_with (go_at_call 84; refine H.mono ?_; rintro e w5 ⟨rfl, rfl⟩)
  go_ret
  exact ⟨rfl, rfl⟩
def pgC (f : Nat → Nat) : List Value := (List.range 1024).map fun i => .int .u16 (f i : Int)
theorem pgC_len (f : Nat → Nat) : (pgC f).length = 1024 := by simp [pgC]
theorem pgC_get {f : Nat → Nat} {j : Nat} {v : Value} (h : (pgC f)[j]? = some v) : j < 1024 ∧ v = .int .u16 (f j : Int) := by
  have hj : j < 1024 := by have := (List.getElem?_eq_some_iff.1 h).1; rwa [pgC_len] at this
  refine ⟨hj, ?_⟩
  unfold pgC at h
  rw [List.getElem?_map, List.getElem?_range hj] at h
  injection h with h
  exact h.symm
theorem pgC_at {f : Nat → Nat} {j : Nat} (h : j < 1024) : (pgC f)[j]? = some (.int .u16 (f j : Int)) := by
  unfold pgC
  rw [List.getElem?_map, List.getElem?_range h]; rfl
theorem pgC_one {f : Nat → Nat} : ∀ v ∈ pgC f, v.oneCell' = true := fun v hv => by obtain ⟨i, _, rfl⟩ := List.mem_map.1 hv; rfl
theorem zero153 : (Tryz.prog.info? 109).map (fun i => (i.size, i.zero)) = some (1024, some (.agg (Array.replicate 1024 (.int .u16 0)))) := by kernel_rfl
theorem size153 : (Tryz.prog.info? 109).map (·.size) = some 1024 := by
  obtain ⟨i, hi, hi2⟩ := Option.map_eq_some_iff.1 zero153
  injection hi2 with h1 _
  rw [hi]; simp [h1]
theorem zv153 (w : World) : (zeroValue 109).run Tryz.prog w = .ok (.agg (Array.replicate 1024 (.int .u16 0))) w := by
  obtain ⟨i, hi, hi2⟩ := Option.map_eq_some_iff.1 zero153
  injection hi2 with _ h2
  simp [zeroValue, typeInfo, hi, h2]
theorem wpList_alloc_of {P : Program} (w : World) {ops : Array Oper} {rest : List Oper} {o : Oper} {a : Act} {Q : Exit → Act → World → Prop}
    (hg : o.guard = none) (t : TypeId) (hop : o.op = Op.alloc t) (z : Value) (hz : (zeroValue t).run P w = .ok z w)
    (hK : wpList P ops Q rest (a.put o.dst (.pointer (some ⟨w.heap.size, 0, none⟩))) (w.alloc (.cells z.cells t))) : wpList P ops Q (o :: rest) a w := by
  refine wpList_plain hg fun K' hK' => ?_
  unfold Oper.wp
  simp [execOp, hop, Instr.alloc, hz, newVar, newRow, Result.andThen, Sem.run_bind]
  exact hK' _ _ hK
end Go.Tb
namespace Go.Tb
open Go Go.RowKit Go.Proofs Go.Maps Go.Sp
theorem setCells_other {b : Nat} : ∀ (vs : List Value) (o : Nat) (w : World) (k : Nat), k ≠ b → (w.setCells b o vs).heap[k]? = w.heap[k]?
  | [], _, _, _, _ => rfl
  | v :: r, o, w, k, hk => by
    rw [World.setCells, setCells_other r (o + 1) _ k hk]
    exact heap_setCell_other w (⟨b, o, none⟩ : Addr) k v hk
theorem setCells_size {b : Nat} : ∀ (vs : List Value) (o : Nat) (w : World), (w.setCells b o vs).heap.size = w.heap.size
  | [], _, _ => rfl
  | v :: r, o, w => by rw [World.setCells, setCells_size r]; simp [World.setCell]
theorem setCells_os {b : Nat} : ∀ (vs : List Value) (o : Nat) (w : World), (w.setCells b o vs).os = w.os ∧ (w.setCells b o vs).tape = w.tape ∧ (w.setCells b o vs).output = w.output
  | [], _, _ => ⟨rfl, rfl, rfl⟩
  | v :: r, o, w => by rw [World.setCells]; exact setCells_os r _ _
theorem setCells_kind {b : Nat} : ∀ (vs : List Value) (o : Nat) (w : World), (∀ j, j < vs.length → (w.cell? ⟨b, o + j, none⟩).isSome = true) → ∀ k, kindOf (w.setCells b o vs) k = kindOf w k
  | [], _, _, _, _ => rfl
  | v :: r, o, w, h, k => by
    obtain ⟨u, hu⟩ := Option.isSome_iff_exists.1 (h 0 (by simp))
    rw [Nat.add_zero] at hu
    rw [World.setCells, setCells_kind r (o + 1) _ (fun j hj => ?_) k]
    · exact kindOf_set hu
    · have h1 := h (j + 1) (by simp; omega)
      rw [World.cell?_setCell_other _ _ _ _ (by intro q; injection q with _ q; omega), show o + 1 + j = o + (j + 1) by omega]
      exact h1
theorem z1024_get {j : Nat} (h : j < 1024) : (Array.replicate 1024 (Value.int .u16 0))[j]? = some (.int .u16 0) := by simp [Array.getElem?_replicate, h]
theorem copy_ok {γ : Gh} {w : World} {mb : Nat} {f : Nat → Nat} (h : MapK γ w mb f) (h0 : γ.lim ≤ w.heap.size) :
    Calls Tryz.prog 30 #[.pointer (some ⟨mb, 0, none⟩)] w fun e w' => e = .returned (.pointer (some ⟨w.heap.size, 0, none⟩)) ∧ Hid (MapK γ w' w.heap.size f ∧ Below w.heap.size w w') := by
  obtain ⟨W, hW⟩ : ∃ W, w.alloc (.cells (Array.replicate 1024 (.int .u16 0)) 109) = W := ⟨_, rfl⟩
  have hb : Below w.heap.size w W := hW ▸ Below.alloc (Below.refl _ _) (Nat.le_refl _) _
  have hk : W.heap[w.heap.size]? = some (.cells (Array.replicate 1024 (.int .u16 0)) 109 (0, 0)) := hW ▸ (Go.MapKept.heap_alloc w _).1
  have hc : ∀ j, j < 1024 → W.cell? ⟨w.heap.size, 0 + j, none⟩ = some (.int .u16 0) ∧ W.frozen? ⟨w.heap.size, 0 + j, none⟩ = false := fun j hj => by
    rw [Nat.zero_add]
    constructor
    · unfold World.cell?; simp only [hk]; exact z1024_get hj
    · unfold World.frozen?; simp only [hk]; simp
  have hsome : ∀ j, j < (pgC f).length → (W.cell? ⟨w.heap.size, 0 + j, none⟩).isSome = true := fun j hj => by rw [pgC_len] at hj; rw [(hc j hj).1]; rfl
  have hthere : W.there w.heap.size 0 (pgC f).toArray.size := fun j hj => by
    have hj : j < 1024 := by simpa [pgC_len] using hj
    exact ⟨by rw [(hc j hj).1]; rfl, (hc j hj).2⟩
  have hran : w.rangeAt mb 0 (pgC f) := fun j v hv => by
    obtain ⟨h1, rfl⟩ := pgC_get hv
    rw [Nat.zero_add]; exact (h.v.at h1).1
  have hfin : MapK γ (W.setCells w.heap.size 0 (pgC f)) w.heap.size f ∧ Below w.heap.size w (W.setCells w.heap.size 0 (pgC f)) := by
    have hB := γ.hB
    refine ⟨⟨⟨fun i hi => ⟨?_, (h.v.at hi).2.2⟩, fun i hi => ?_⟩, (Gh.kind_of (setCells_kind _ _ _ hsome _)).trans (Tag.new h0 hk), by omega⟩, ⟨?_, ?_, ?_, ?_, fun k hk => ?_⟩⟩
    · have := World.cell?_setCells_in w.heap.size (pgC f) 0 W hsome i (by rw [pgC_len]; exact hi)
      rw [Nat.zero_add] at this
      rw [this]
      exact (List.getElem?_eq_getElem (by rw [pgC_len]; exact hi)).symm.trans (pgC_at hi)
    · rw [World.frozen?_setCells]; have := (hc i hi).2; rwa [Nat.zero_add] at this
    · exact (setCells_os _ _ _).1.trans hb.os
    · exact (setCells_os _ _ _).2.1.trans hb.tape
    · exact (setCells_os _ _ _).2.2.trans hb.output
    · rw [setCells_size]; exact hb.size
    · rw [setCells_other _ _ _ _ (by omega)]; exact hb.block k hk
  have s153 : (Tryz.prog.info? 109).map (·.size) = some (pgC f).length := by rw [pgC_len]; exact size153
  have s153' : (Tryz.prog.info? 109).map (·.size) = some (pgC f).toArray.size := by simp [pgC_len, size153]
  have hone : (pgC f).toArray.all (·.oneCell') = true := all_oneCell_toArray pgC_one
  have hl := h.lt
  have HR := Lib.hid hran
  have HT := Lib.hid hthere
  have HS := Lib.hid (And.intro s153 s153')
  have HO := Lib.hid hone
  have HF := Lib.hid hfin
  have HW := Lib.hid hW
  clear hran hthere s153 s153' hone hfin hsome hc hk hb h h0 hW
  go_enter Tryz.func30, Tryz.ntmps30
  go_wp2_with (first
    | (refine wpList_load_mid rfl 109 _ rfl mb 0 rfl (pgC f) _ HR.out Tryz.underlying109 rfl HS.out.1 ?_)
    | (refine wpList_alloc_of _ rfl 109 rfl _ (zv153 _) ?_; (try unfold Value.cells); rw [HW.out])
    | (refine wpList_store_mid rfl 109 _ _ rfl w.heap.size 0 (pgC f).toArray rfl rfl HT.out HS.out.2 HO.out ?_))
  go_ret
  exact ⟨rfl, Lib.hid HF.out⟩
end Go.Tb
namespace Go.Tb
open Go Go.RowKit Go.Proofs Go.Maps Go.Sp
def partN (i : Nat) : Nat := if i = 8 then 32 else 124
theorem partN_le {i : Nat} (h : i < 9) : 0 < partN i ∧ partN i ≤ 124 ∧ i * 124 + partN i ≤ 1024 := by unfold partN; split <;> omega
theorem len151 : Tryz.prog.arrayLen 107 = 1024 := by kernel_rfl
theorem elem151 : Tryz.prog.elem 107 = 106 := by kernel_rfl
theorem under151 : Tryz.prog.underlying 107 = some (.array (Tryz.prog.arrayLen 107) (Tryz.prog.elem 107)) := by rw [len151, elem151]; kernel_rfl
theorem sliceAt151 (w : World) (mb : Nat) (l h : Int) (h0 : 0 ≤ l) (h1 : l ≤ h) (h2 : h ≤ 1024) (h3 : l < 1024) :
    (Instr.sliceAt 107 (.pointer (some ⟨mb, 0, none⟩)) (some (.int .i64 l)) (some (.int .i64 h)) none).run Tryz.prog w = .ok (.slice (some ⟨mb, l.toNat, none⟩) (h.toNat - l.toNat) (1024 - l.toNat)) w := by
  have hl : l.toNat ≠ 1024 := by omega
  have := run_sliceAt_array_lh (P := Tryz.prog) w 107 ⟨mb, 0, none⟩ under151 .i64 .i64 l h h0 h1 (by rw [len151]; exact h2)
  rw [this, len151, elem151]
  have e : (sizeOf 106).run Tryz.prog w = .ok 1 w := by kernel_rfl
  rw [e]
  simp [Result.andThen, slicedAt, Addr.add, hl.symm]
  omega
theorem sliceAt151m (w : World) (mb : Nat) (l h m : Int) (a b c : Nat) (h0 : 0 ≤ l) (h1 : l ≤ h) (h2 : h ≤ 1024) (h3 : l < 1024) (e : min m 1024 = h) (e1 : l.toNat = a) (e2 : h.toNat - l.toNat = b) (e3 : 1024 - l.toNat = c) :
    (Instr.sliceAt 107 (.pointer (some ⟨mb, 0, none⟩)) (some (.int .i64 l)) (some (.int .i64 (min m 1024))) none).run Tryz.prog w = .ok (.slice (some ⟨mb, a, none⟩) b c) w := by
  rw [e, sliceAt151 w mb l h h0 h1 h2 h3]
  subst e1 e2 e3
  rfl
theorem part_ok {w : World} {mb i : Nat} (hl : mb < w.heap.size) (hi : i < 9) :
    Calls Tryz.prog 99 #[.pointer (some ⟨mb, 0, none⟩), .int .i64 (i : Int)] w fun e w' => e = .returned (.slice (some ⟨mb, i * 124, none⟩) (partN i) (1024 - i * 124)) ∧ w' = w := by
  have h : i = 0 ∨ i = 1 ∨ i = 2 ∨ i = 3 ∨ i = 4 ∨ i = 5 ∨ i = 6 ∨ i = 7 ∨ i = 8 := by omega
  rcases h with rfl | rfl | rfl | rfl | rfl | rfl | rfl | rfl | rfl
  all_goals
    have q0 := sliceAt151m w mb 0 124 124 0 124 1024 (by decide) (by decide) (by decide) (by decide) (by decide) (by decide) (by decide) (by decide)
    have q1 := sliceAt151m w mb 124 248 248 124 124 900 (by decide) (by decide) (by decide) (by decide) (by decide) (by decide) (by decide) (by decide)
    have q2 := sliceAt151m w mb 248 372 372 248 124 776 (by decide) (by decide) (by decide) (by decide) (by decide) (by decide) (by decide) (by decide)
    have q3 := sliceAt151m w mb 372 496 496 372 124 652 (by decide) (by decide) (by decide) (by decide) (by decide) (by decide) (by decide) (by decide)
    have q4 := sliceAt151m w mb 496 620 620 496 124 528 (by decide) (by decide) (by decide) (by decide) (by decide) (by decide) (by decide) (by decide)
    have q5 := sliceAt151m w mb 620 744 744 620 124 404 (by decide) (by decide) (by decide) (by decide) (by decide) (by decide) (by decide) (by decide)
    have q6 := sliceAt151m w mb 744 868 868 744 124 280 (by decide) (by decide) (by decide) (by decide) (by decide) (by decide) (by decide) (by decide)
    have q7 := sliceAt151m w mb 868 992 992 868 124 156 (by decide) (by decide) (by decide) (by decide) (by decide) (by decide) (by decide) (by decide)
    have q8 := sliceAt151m w mb 992 1024 1116 992 32 32 (by decide) (by decide) (by decide) (by decide) (by decide) (by decide) (by decide) (by decide)
    simp only [Nat.reduceMul, Nat.reduceSub, partN, if_pos, if_neg, Nat.reduceEqDiff, reduceIte]
    go_enter Tryz.func99, Tryz.ntmps99
    go_wp2_with fail
    go_ret
    exact ⟨rfl, rfl⟩
theorem pgPart_len (f : Nat → Nat) {i : Nat} (hi : i < 9) : (pgPart f i).length = partN i := by
  unfold pgPart partN
  simp
  split <;> omega
theorem pgPart_get (f : Nat → Nat) {i j : Nat} (hi : i < 9) (hj : j < partN i) : (pgPart f i)[j]? = some (f (i * 124 + j)) := by
  have := partN_le hi
  unfold pgPart
  rw [List.getElem?_take_of_lt (by omega), List.getElem?_drop, List.getElem?_map, List.getElem?_range (by omega)]
  rfl
theorem equal_ok {w : World} {mb nb i : Nat} {f g : Nat → Nat} {c d : Nat} (hi : i < 9) (h1 : MapV w mb f) (h2 : MapV w nb g) :
    Calls Tryz.prog 98 #[.slice (some ⟨mb, i * 124, none⟩) (partN i) c, .slice (some ⟨nb, i * 124, none⟩) (partN i) d] w fun e w' => e = .returned (.bool (decide (pgPart f i = pgPart g i))) ∧ ∃ n, w' = w.drewN n := by
  have hp := partN_le hi
  have hlm := cell_lt' (h1.at (i := 0) (by decide)).1
  have hln := cell_lt' (h2.at (i := 0) (by decide)).1
  have hc1 : ∀ j, j < partN i → w.cell? ⟨mb, i * 124 + j, none⟩ = some (.int .u16 (f (i * 124 + j) : Int)) := fun j hj => (h1.at (by omega)).1
  have hc2 : ∀ j, j < partN i → w.cell? ⟨nb, i * 124 + j, none⟩ = some (.int .u16 (g (i * 124 + j) : Int)) := fun j hj => (h2.at (by omega)).1
  have e1 := pgPart_len f hi
  have e2 := pgPart_len g hi
  have g1 := fun j hj => pgPart_get f hi (j := j) hj
  have g2 := fun j hj => pgPart_get g hi (j := j) hj
  generalize pgPart f i = p at *
  generalize pgPart g i = q at *
  generalize partN i = n at *
  generalize hB : i * 124 = b at *
  have H1 := Lib.hid hc1
  have H2 := Lib.hid hc2
  have G1 := Lib.hid g1
  have G2 := Lib.hid g2
  have E := Lib.hid (And.intro e1 e2)
  have hn : n ≤ 124 := hp.2.1
  generalize hr : decide (p = q) = rr
  have HR := Lib.hid hr
  clear hc1 hc2 g1 g2 e1 e2 hp hB h1 h2 hi hr
  go_enter Tryz.func98, Tryz.ntmps98
  go_wp2_with fail
  go_loopw [13] (fun v wr => ∃ k : Nat, v = .int .i64 k ∧ k ≤ n ∧ Hid ((∃ m, wr = w.drewN m) ∧ ∀ j, j < k → f (b + j) = g (b + j))) (fun v _ => n - (Go.RowKit.intOf v).toNat)
  case atStart => exact ⟨0, rfl, Nat.zero_le _, Lib.hid ⟨⟨0, rfl⟩, fun j hj => by omega⟩⟩
  case round =>
    obtain ⟨k, rfl, hk, hI⟩ := hrel
    obtain ⟨⟨m, rfl⟩, hx⟩ := hI.out
    by_cases e : k < n
    · have i1 : (k : Int) < (n : Int) := by omega
      have i0 : (0 : Int) ≤ (k : Int) := by omega
      have c1 : (w.drewN m).cell? ⟨mb, b + k, none⟩ = some (.int .u16 (f (b + k) : Int)) := H1.out k e
      have c2 : (w.drewN m).cell? ⟨nb, b + k, none⟩ = some (.int .u16 (g (b + k) : Int)) := H2.out k e
      have l1 : mb < (w.drewN m).heap.size := hlm
      have l2 : nb < (w.drewN m).heap.size := hln
      have hxx := Lib.hid hx
      clear hx hI
      by_cases ex : f (b + k) = g (b + k)
      · have hb : (((f (b + k) : Nat) : Int) != (g (b + k) : Int)) = false := by simp [ex]
        have hfin : Hid (∀ j, j < k + 1 → f (b + j) = g (b + j)) := Lib.hid fun j hj => by
          by_cases ej : j = k
          · rw [ej]; exact ex
          · exact hxx.out j (by omega)
        clear ex
        generalize f (b + k) = x at *
        generalize g (b + k) = y at *
        generalize hW : w.drewN m = W at *
        go_wp2_with fail
        go_quiet (fail)
        go_wp2
        refine ⟨⟨k + 1, rfl, by omega, Lib.hid ⟨⟨m + nq, by rw [← hW, World.drewN_drewN]⟩, hfin.out⟩⟩, ?_⟩
        exact measT e
      · have hb : (((f (b + k) : Nat) : Int) != (g (b + k) : Int)) = true := by simp only [bne_iff_ne, ne_eq]; omega
        have hfin : Hid (rr = false) := Lib.hid (HR.out.symm.trans <| decide_eq_false fun he => ex (by
          have a1 := G1.out k e
          have a2 := G2.out k e
          rw [he, a2] at a1
          injection a1 with a1; exact a1.symm))
        clear ex
        generalize f (b + k) = x at *
        generalize g (b + k) = y at *
        generalize hW : w.drewN m = W at *
        go_wp2_with fail
        go_quiet (fail)
        go_wp2
        go_ret
        exact ⟨by rw [hfin.out]; rfl, m + nq, by rw [← hW, World.drewN_drewN]⟩
    · have ek : k = n := by omega
      have hfin : Hid (rr = true) := Lib.hid (HR.out.symm.trans <| decide_eq_true (by
        refine List.ext_getElem? fun j => ?_
        by_cases ej : j < n
        · rw [G1.out j ej, G2.out j ej, hx j (by omega)]
        · rw [List.getElem?_eq_none (by have := E.out.1; omega), List.getElem?_eq_none (by have := E.out.2; omega)]))
      have i1 : ¬ (k : Int) < (n : Int) := by omega
      have hxx := Lib.hid hx
      clear hx hI
      go_wp2
      go_ret
      exact ⟨by rw [hfin.out]; rfl, m, rfl⟩
end Go.Tb
