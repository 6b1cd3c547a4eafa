/- How a type is told: numbers, types, rows of types, walked. Each says its own conditions. -/
import Derived.Shelf.Strconv.Itoa4
import Derived.Shelf.Strings.Replace
import Derived.Ground.NamesProg
import Derived.Test.YtadbbfmmhimgcaaGreatDoorProg
import Derived.Test.YtadbbfmmhimgcaaGreatDoorStA
import Derived.Test.YtadbbfmmhimgcaaGreatDoorBase
import Derived.Lib.ItoaLen
import Derived.Lib.AppendIntMem
import Derived.WalkKit
import Derived.Handy
import Derived.Lib.Hide
import Derived.Lib.Strings
import Derived.Deep.RegionWith
import Derived.Test.YtadbbfmmhimgcaaGreatDoorStB
import Derived.Laws.AppendOwn
import Derived.Maps.AppendAt
namespace Go.Proofs
open Go.Shelf
def Tryz.laysNum_ren : Go.Shelf.Ren := ⟨fun | 173 => 47 | 246 => 62 | 283 => 74 | 284 => 75 | 285 => 76 | 286 => 77 | 129 => 87 | 317 => 86 | 318 => 88 | 319 => 89 | 320 => 90 | 337 => 98 | 338 => 99 | n => n, fun | 2 => 2 | 3 => 3 | 9 => 9 | 4 => 4 | 171 => 140 | 0 => 0 | 53 => 92 | 37 => 84 | 5 => 5 | 173 => 143 | 212 => 166 | 51 => 149 | 20 => 20 | 213 => 167 | 46 => 169 | 232 => 194 | 233 => 195 | n => n, fun | 17 => 2 | 18 => 5 | 19 => 6 | n => n⟩
theorem Tryz.laysNum : Go.Proofs.LaysM.n173 Tryz.prog Tryz.laysNum_ren := {
  mixed := by kernel_rfl
  f129 := Tryz.func87.trans (congrArg some (by kernel_rfl))
  f173 := Tryz.func47.trans (congrArg some (by kernel_rfl))
  f246 := Tryz.func62.trans (congrArg some (by kernel_rfl))
  f283 := Tryz.func74.trans (congrArg some (by kernel_rfl))
  f284 := Tryz.func75.trans (congrArg some (by kernel_rfl))
  f285 := Tryz.func76.trans (congrArg some (by kernel_rfl))
  f286 := Tryz.func77.trans (congrArg some (by kernel_rfl))
  f317 := Tryz.func86.trans (congrArg some (by kernel_rfl))
  f318 := Tryz.func88.trans (congrArg some (by kernel_rfl))
  f319 := Tryz.func89.trans (congrArg some (by kernel_rfl))
  f320 := Tryz.func90.trans (congrArg some (by kernel_rfl))
  f337 := Tryz.func98.trans (congrArg some (by kernel_rfl))
  f338 := Tryz.func99.trans (congrArg some (by kernel_rfl))
  t0 := Tryz.underlying0
  a0 := Tryz.isAgg0
  z0 := Tryz.sizeOf0
  v0 := Tryz.zeroValue0
  t2 := Tryz.underlying2
  a2 := Tryz.isAgg2
  z2 := Tryz.sizeOf2
  v2 := Tryz.zeroValue2
  t3 := Tryz.underlying3
  a3 := Tryz.isAgg3
  z3 := Tryz.sizeOf3
  v3 := Tryz.zeroValue3
  t4 := Tryz.underlying4
  a4 := Tryz.isAgg4
  z4 := Tryz.sizeOf4
  v4 := Tryz.zeroValue4
  t5 := Tryz.underlying5
  a5 := Tryz.isAgg5
  z5 := Tryz.sizeOf5
  v5 := Tryz.zeroValue5
  t9 := Tryz.underlying9
  a9 := Tryz.isAgg9
  z9 := Tryz.sizeOf9
  v9 := Tryz.zeroValue9
  t20 := Tryz.underlying20
  a20 := Tryz.isAgg20
  z20 := Tryz.sizeOf20
  v20 := Tryz.zeroValue20
  t37 := Tryz.underlying84
  a37 := Tryz.isAgg84
  z37 := Tryz.sizeOf84
  v37 := Tryz.zeroValue84
  t46 := Tryz.underlying169
  a46 := Tryz.isAgg169
  z46 := Tryz.sizeOf169
  v46 := Tryz.zeroValue169
  t51 := Tryz.underlying149
  a51 := Tryz.isAgg149
  z51 := Tryz.sizeOf149
  v51 := Tryz.zeroValue149
  t53 := Tryz.underlying92
  a53 := Tryz.isAgg92
  z53 := Tryz.sizeOf92
  v53 := Tryz.zeroValue92
  t171 := Tryz.underlying140
  a171 := Tryz.isAgg140
  z171 := Tryz.sizeOf140
  v171 := Tryz.zeroValue140
  t173 := Tryz.underlying143
  a173 := Tryz.isAgg143
  z173 := Tryz.sizeOf143
  v173 := Tryz.zeroValue143
  t212 := Tryz.underlying166
  a212 := Tryz.isAgg166
  z212 := Tryz.sizeOf166
  v212 := Tryz.zeroValue166
  t213 := Tryz.underlying167
  a213 := Tryz.isAgg167
  z213 := Tryz.sizeOf167
  t232 := Tryz.underlying194
  a232 := Tryz.isAgg194
  z232 := Tryz.sizeOf194
  v232 := Tryz.zeroValue194
  t233 := Tryz.underlying195
  a233 := Tryz.isAgg195
  z233 := Tryz.sizeOf195
  v233 := Tryz.zeroValue195
  g17 := by kernel_rfl
  g18 := by kernel_rfl
  g19 := by kernel_rfl
  i0 := by kernel_rfl
  i2 := by kernel_rfl
  i3 := by kernel_rfl
  i4 := by kernel_rfl
  i5 := by kernel_rfl
  i9 := by kernel_rfl
  i20 := by kernel_rfl
  i37 := by kernel_rfl
  i46 := by kernel_rfl
  i51 := by kernel_rfl
  i53 := by kernel_rfl
  i171 := by kernel_rfl
  i173 := by kernel_rfl
  i212 := by kernel_rfl
  i232 := by kernel_rfl
  i233 := by kernel_rfl
  m17 := by kernel_rfl
  m18 := by kernel_rfl
  m19 := by kernel_rfl }
def Tryz.laysRep_ren : Go.Shelf.Ren := ⟨fun | 154 => 48 | 138 => 63 | 165 => 41 | 143 => 64 | 166 => 42 | 197 => 65 | 169 => 43 | 195 => 78 | 218 => 79 | 240 => 56 | 241 => 57 | 219 => 80 | 260 => 81 | 276 => 72 | 277 => 73 | 217 => 91 | 225 => 92 | 224 => 93 | 267 => 94 | 266 => 100 | 314 => 101 | n => n, fun | 9 => 9 | 3 => 3 | 4 => 4 | 72 => 86 | 0 => 0 | 76 => 88 | 105 => 124 | 21 => 21 | 5 => 5 | 70 => 83 | 20 => 20 | 37 => 84 | 75 => 58 | 127 => 115 | 164 => 136 | 46 => 169 | 119 => 171 | 139 => 174 | 138 => 173 | 146 => 178 | 51 => 149 | 80 => 90 | n => n, fun | 1 => 1 | 3 => 3 | 4 => 4 | n => n⟩
theorem Tryz.laysRep : Go.Proofs.Lays.n154 Tryz.prog Tryz.laysRep_ren := {
  mixed := by kernel_rfl
  f138 := Tryz.func63.trans (congrArg some (by kernel_rfl))
  f143 := Tryz.func64.trans (congrArg some (by kernel_rfl))
  f154 := Tryz.func48.trans (congrArg some (by kernel_rfl))
  f165 := Tryz.func41.trans (congrArg some (by kernel_rfl))
  f166 := Tryz.func42.trans (congrArg some (by kernel_rfl))
  f169 := Tryz.func43.trans (congrArg some (by kernel_rfl))
  f195 := Tryz.func78.trans (congrArg some (by kernel_rfl))
  f197 := Tryz.func65.trans (congrArg some (by kernel_rfl))
  f217 := Tryz.func91.trans (congrArg some (by kernel_rfl))
  f218 := Tryz.func79.trans (congrArg some (by kernel_rfl))
  f219 := Tryz.func80.trans (congrArg some (by kernel_rfl))
  f224 := Tryz.func93.trans (congrArg some (by kernel_rfl))
  f225 := Tryz.func92.trans (congrArg some (by kernel_rfl))
  f240 := Tryz.func56.trans (congrArg some (by kernel_rfl))
  f241 := Tryz.func57.trans (congrArg some (by kernel_rfl))
  f260 := Tryz.func81.trans (congrArg some (by kernel_rfl))
  f266 := Tryz.func100.trans (congrArg some (by kernel_rfl))
  f267 := Tryz.func94.trans (congrArg some (by kernel_rfl))
  f276 := Tryz.func72.trans (congrArg some (by kernel_rfl))
  f277 := Tryz.func73.trans (congrArg some (by kernel_rfl))
  f314 := Tryz.func101.trans (congrArg some (by kernel_rfl))
  t0 := Tryz.underlying0
  a0 := Tryz.isAgg0
  z0 := Tryz.sizeOf0
  v0 := Tryz.zeroValue0
  t3 := Tryz.underlying3
  a3 := Tryz.isAgg3
  z3 := Tryz.sizeOf3
  v3 := Tryz.zeroValue3
  t4 := Tryz.underlying4
  a4 := Tryz.isAgg4
  z4 := Tryz.sizeOf4
  v4 := Tryz.zeroValue4
  t5 := Tryz.underlying5
  a5 := Tryz.isAgg5
  z5 := Tryz.sizeOf5
  v5 := Tryz.zeroValue5
  t9 := Tryz.underlying9
  a9 := Tryz.isAgg9
  z9 := Tryz.sizeOf9
  v9 := Tryz.zeroValue9
  t20 := Tryz.underlying20
  a20 := Tryz.isAgg20
  z20 := Tryz.sizeOf20
  v20 := Tryz.zeroValue20
  t21 := Tryz.underlying21
  a21 := Tryz.isAgg21
  z21 := Tryz.sizeOf21
  v21 := Tryz.zeroValue21
  t37 := Tryz.underlying84
  a37 := Tryz.isAgg84
  z37 := Tryz.sizeOf84
  v37 := Tryz.zeroValue84
  t46 := Tryz.underlying169
  a46 := Tryz.isAgg169
  z46 := Tryz.sizeOf169
  v46 := Tryz.zeroValue169
  t51 := Tryz.underlying149
  a51 := Tryz.isAgg149
  z51 := Tryz.sizeOf149
  v51 := Tryz.zeroValue149
  t70 := Tryz.underlying83
  a70 := Tryz.isAgg83
  z70 := Tryz.sizeOf83
  v70 := Tryz.zeroValue83
  t72 := Tryz.underlying86
  a72 := Tryz.isAgg86
  z72 := Tryz.sizeOf86
  v72 := Tryz.zeroValue86
  t75 := Tryz.underlying58
  a75 := Tryz.isAgg58
  z75 := Tryz.sizeOf58
  v75 := Tryz.zeroValue58
  t76 := Tryz.underlying88
  a76 := Tryz.isAgg88
  z76 := Tryz.sizeOf88
  v76 := Tryz.zeroValue88
  t105 := Tryz.underlying124
  a105 := Tryz.isAgg124
  z105 := Tryz.sizeOf124
  v105 := Tryz.zeroValue124
  t119 := Tryz.underlying171
  a119 := Tryz.isAgg171
  z119 := Tryz.sizeOf171
  t127 := Tryz.underlying115
  a127 := Tryz.isAgg115
  z127 := Tryz.sizeOf115
  v127 := Tryz.zeroValue115
  t138 := Tryz.underlying173
  a138 := Tryz.isAgg173
  z138 := Tryz.sizeOf173
  v138 := Tryz.zeroValue173
  t139 := Tryz.underlying174
  a139 := Tryz.isAgg174
  z139 := Tryz.sizeOf174
  v139 := Tryz.zeroValue174
  t146 := Tryz.underlying178
  a146 := Tryz.isAgg178
  z146 := Tryz.sizeOf178
  v146 := Tryz.zeroValue178
  t164 := Tryz.underlying136
  a164 := Tryz.isAgg136
  z164 := Tryz.sizeOf136
  v164 := Tryz.zeroValue136
  g1 := by kernel_rfl
  g3 := by kernel_rfl
  g4 := by kernel_rfl }
theorem Tryz.repExtra : Builder.Extra Tryz.prog Tryz.laysRep_ren := {
  sizeBuilder := by kernel_rfl
  liesBuilder := by kernel_rfl
  t5 := by kernel_rfl
  a5 := fun w => by kernel_rfl
  z5 := fun w => by kernel_rfl
  v5 := fun w => by kernel_rfl
  infoByte := by kernel_rfl
  cellsByte := by kernel_rfl
  sizeByte := by kernel_rfl
  neB5 := by decide }
end Go.Proofs
set_option linter.unusedVariables false
set_option linter.unusedSimpArgs false
set_option maxRecDepth 100000
set_option maxHeartbeats 1600000
namespace Go.Stamp
open Go Go.RowKit Go.Proofs
/-! ## Numbers' texts -/
def numS (n : Int) : ByteArray := if -9223372036854775808 ≤ n ∧ n ≤ 9223372036854775807 then ⟨(Lib.replace (Lib.itoa n) [45] [126] 1).toArray⟩ else { data := #[] }
theorem replaceK_le (k : Nat) (hk : k ≤ 1) (s : List UInt8) : (Lib.replaceK [45] [126] k s).length ≤ s.length + 1 := by
  match k, hk with
  | 0, _ => rw [Lib.replaceK]; omega
  | 1, _ =>
    rw [Lib.replaceK]
    split
    · omega
    · rw [Lib.replaceK]
      simp
      omega
theorem replace_le (s : List UInt8) : (Lib.replace s [45] [126] 1).length ≤ s.length + 1 := by
  unfold Lib.replace
  split
  · omega
  · refine replaceK_le _ ?_ s
    unfold Lib.replaceNum
    split
    · omega
    · decide
theorem numS_size (n : Int) : (numS n).size ≤ 32 := by
  unfold numS
  split
  · rename_i h
    show (Lib.replace (Lib.itoa n) [45] [126] 1).toArray.size ≤ 32
    rw [List.size_toArray]
    have h1 := replace_le (Lib.itoa n)
    have h2 := Lib.itoa_length_le n h.1 h.2
    omega
  · exact Nat.zero_le _
/-- what the tables of numbers are to hold -/
structure TabV (W : World) : Prop where
  tab : Lib.TabIs Tryz.prog W "internal/strconv.uint64pow10" .u64 Lib.pow10Tab
  max : ∃ m : Int, W.cell? ⟨Tryz.laysRep_ren.g 1, 0, none⟩ = some (.int .i64 m)
theorem num47 : Tryz.laysNum_ren.f 173 = 47 := by kernel_rfl
theorem rep48 : Tryz.laysRep_ren.f 154 = 48 := by kernel_rfl
theorem TabV.below {W W' : World} (h : TabV W) (hb : Below W.heap.size W W') : TabV W' := by
  obtain ⟨h1, m, h2⟩ := h
  refine ⟨?_, m, (hb.cell (p := ⟨Tryz.laysRep_ren.g 1, 0, none⟩) ?_).trans h2⟩
  · unfold Lib.TabIs World.var? at h1 ⊢
    obtain ⟨g, hg, h3⟩ := Option.bind_eq_some_iff.1 h1
    rw [hg]
    show (match W'.heap[g]? with | some (.cells cs _ _) => some cs | _ => none) = _
    have hl : g < W.heap.size := by
      rcases Nat.lt_or_ge g W.heap.size with h | h
      · exact h
      · rw [Array.getElem?_eq_none h] at h3; cases h3
    rw [hb.block g hl]
    exact h3
  · rcases Nat.lt_or_ge (Tryz.laysRep_ren.g 1) W.heap.size with h' | h'
    · exact h'
    · have : W.heap[Tryz.laysRep_ren.g 1]? = none := Array.getElem?_eq_none h'
      simp [World.cell?, this] at h2
theorem countB_dash (s : ByteArray) : Lib.countB s { data := #[45] } ≤ s.size := by
  have := Lib.countB_mul_le { data := #[45] } (by decide) s.size s (Nat.le_refl _)
  rw [show ({ data := #[45] } : ByteArray).size = 1 from rfl] at this
  omega
theorem number_ok (n : Int) (h0 : -9223372036854775808 ≤ n) (h1 : n ≤ 9223372036854775807) (w : World) (ht : TabV w) :
    Calls Tryz.prog 29 #[.int .i64 n] w fun e w' => e = .returned (.string (numS n)) ∧ Below w.heap.size w w' := by
  have hF := Any.strconv_FormatInt_10 Tryz.laysNum n h0 h1 w ht.tab
  rw [num47] at hF
  have HF := Lib.hid hF
  have HN : Hid (∀ w', Below w.heap.size w w' → Calls Tryz.prog 48 #[.string ⟨(Lib.itoa n).toArray⟩, .string { data := #[45] }, .string { data := #[126] }, .int .i64 1] w' fun e w2 => e = .returned (.string (numS n)) ∧ Below w'.heap.size w' w2) := by
    refine Lib.hid fun w' hb => ?_
    obtain ⟨m, hm⟩ := (ht.below hb).max
    have hl := Lib.itoa_length_le n h0 h1
    have hsz : (⟨(Lib.itoa n).toArray⟩ : ByteArray).size ≤ 21 := by
      show (Lib.itoa n).toArray.size ≤ 21
      rw [List.size_toArray]; exact hl
    have hc := countB_dash ⟨(Lib.itoa n).toArray⟩
    have hR := Any.strings_Replace Tryz.laysRep Tryz.repExtra ⟨(Lib.itoa n).toArray⟩ { data := #[45] } { data := #[126] } 1 m w' (by omega) hm (by decide) (by
      rw [show ({ data := #[126] } : ByteArray).size = 1 from rfl]; omega)
    rw [rep48] at hR
    refine hR.mono ?_
    rintro e w2 ⟨rfl, hb2⟩
    refine ⟨?_, hb2⟩
    rw [numS, if_pos ⟨h0, h1⟩]
  clear hF ht
  go_enter Tryz.func29, Tryz.ntmps29
  go_wp2_with fail
  refine HF.out.mono ?_
  rintro e w1 ⟨rfl, k, os, rfl⟩
  have HB := Lib.hid (Lib.below_grow w.heap.size w (Nat.le_refl _) k os)
  have HN2 := Lib.hid (HN.out _ HB.out)
  generalize Sort.grow (w.drewN k) os = w1 at *
  clear HN
  go_wp2_with fail
  refine HN2.out.mono ?_
  rintro e w2 ⟨rfl, hb⟩
  have HB2 := Lib.hid (HB.out.trans (hb.mono HB.out.size))
  clear hb
  go_wp2
  go_ret
  exact ⟨rfl, HB2.out⟩
end Go.Stamp
set_option linter.unusedVariables false
set_option linter.unusedSimpArgs false
set_option maxRecDepth 100000
set_option maxHeartbeats 1600000
namespace Go.Stamp
open Go Go.RowKit Go.Proofs
/-! ## Texts -/
theorem round_ok (s : ByteArray) (so : Bool) (w : World) (hs : s.size ≤ 1099511627776) : Calls Tryz.prog 32 #[.string s, .bool so] w fun e w' => e = .returned (.string (roundT s so)) ∧ w' = w := by
  cases so with
  | true =>
    go_enter Tryz.func32, Tryz.ntmps32
    go_wp2
    go_ret
    exact ⟨rfl, rfl⟩
  | false =>
    go_enter Tryz.func32, Tryz.ntmps32
    go_wp2
    go_ret
    exact ⟨rfl, rfl⟩
/-- in of two kinds -/
theorem in2_ok (k x y : Int) (b c : Nat) (w : World) (h0 : w.cell? ⟨b, 0, none⟩ = some (.int .u8 x)) (h1 : w.cell? ⟨b, 1, none⟩ = some (.int .u8 y)) :
    Calls Tryz.prog 33 #[.int .u8 k, .slice (some ⟨b, 0, none⟩) 2 c] w fun e w' => e = .returned (.bool (decide (x = k) || decide (y = k))) ∧ w' = w := by
  by_cases hx : x = k
  · have e1 : (x == k) = true := by simpa using hx
    go_enter Tryz.func33, Tryz.ntmps33
    go_wp2
    refine wp_loop_rounds 3 ?_
    rw [rounds_succ]
    go_wp2
    go_ret
    exact ⟨by simp [hx], rfl⟩
  · have e1 : (x == k) = false := by simpa using hx
    by_cases hy : y = k
    · have e2 : (y == k) = true := by simpa using hy
      go_enter Tryz.func33, Tryz.ntmps33
      go_wp2
      refine wp_loop_rounds 3 ?_
      rw [rounds_succ]
      go_wp2
      rw [rounds_succ]
      go_wp2
      go_ret
      exact ⟨by simp [hy], rfl⟩
    · have e2 : (y == k) = false := by simpa using hy
      go_enter Tryz.func33, Tryz.ntmps33
      go_wp2
      refine wp_loop_rounds 3 ?_
      rw [rounds_succ]
      go_wp2
      rw [rounds_succ]
      go_wp2
      rw [rounds_succ]
      go_wp2
      go_ret
      exact ⟨by simp [hx, hy], rfl⟩
end Go.Stamp
set_option linter.unusedVariables false
set_option linter.unusedSimpArgs false
set_option maxRecDepth 100000
set_option maxHeartbeats 1600000
namespace Go.Stamp
open Go Go.RowKit Go.Proofs
theorem bcell {W w1 : World} (hb : Below W.heap.size W w1) : (∀ b o, b < W.heap.size → w1.cell? ⟨b, o, none⟩ = W.cell? ⟨b, o, none⟩) ∧ (∀ b o, b < W.heap.size → w1.frozen? ⟨b, o, none⟩ = W.frozen? ⟨b, o, none⟩) :=
  ⟨fun b o h => hb.cell (p := ⟨b, o, none⟩) h, fun b o h => hb.frozen (p := ⟨b, o, none⟩) h⟩
/-- what print.Ty tells -/
def TyOK (t : Ty) : Prop := ∀ (W0 W : World) (vs : List Value), TabV W0 → TyV W0 t vs → Below W0.heap.size W0 W → Calls Tryz.prog 18 #[.agg ⟨vs⟩] W fun e w' => e = .returned (.string (tyT numS t)) ∧ Below W.heap.size W w'
theorem lone_ok {t : Ty} (hT : TyOK t) (hs : (tyT numS t).size ≤ 1099511627776) {W0 W : World} {vs : List Value} (hTab : TabV W0) (hv : TyV W0 t vs) (hB : Below W0.heap.size W0 W) :
    Calls Tryz.prog 34 #[.agg ⟨vs⟩] W fun e w' => e = .returned (.string (loneT numS t)) ∧ Below W.heap.size W w' := by
  have hcall := fun W vs => hT W0 W vs hTab
  have HV := Lib.hid hv
  obtain ⟨s, rfl, hsl⟩ := hv.vals
  obtain ⟨a, c, rfl, _⟩ := hsl.slice
  have HT := Lib.hid hcall
  have HB := Lib.hid hB
  have hdef : loneT numS t = roundT (tyT numS t) (decide (3 = t.kind) || decide (4 = t.kind)) := rfl
  have HD := Lib.hid hdef
  clear hcall hsl hdef hB hT hv
  generalize tyT numS t = ft at *
  generalize t.kind = kd at *
  go_enter Tryz.func34, Tryz.ntmps34
  go_wp2
  go_region_with (first
    | (go_at_call 18; refine (HT.out _ _ HV.out ?_).mono ?_; (repeat (first | exact HB.out | refine Below.drew ?_ | refine Below.alloc ?_ (by have := HB.out.size; simp; omega) _)); rintro e w' ⟨rfl, hb⟩; obtain ⟨hcc, hff⟩ := bcell hb; (have hz := hb.size); simp at hz; (have q0 := hcc W.heap.size 0 (by simp <;> omega)); (have q1 := hcc (W.heap.size + 1) 0); (have q2 := hcc (W.heap.size + 1) 1); simp [go_sem] at q0; (try (simp [go_sem] at q1)); (try (simp [go_sem] at q2)); (have hz2 : W.heap.size < w'.heap.size := by omega); (have hz3 : ¬ W.heap.size = w'.heap.size := by omega); (have HBB := Lib.hid hb); clear hb hcc hff)
    | (go_at_call 33; refine (in2_ok _ 3 4 _ _ _ (by first | (simp [go_sem]; done) | (simp [go_sem, *]; done)) (by first | (simp [go_sem]; done) | (simp [go_sem, *]; done))).mono ?_; rintro e w' ⟨rfl, rfl⟩)
    | (go_at_call 32; refine (round_ok _ _ _ hs).mono ?_; rintro e w' ⟨rfl, rfl⟩))
  all_goals
    have HBF : Hid (Below W.heap.size W w') := by
      refine Lib.hid (Below.trans ?_ (HBB.out.mono ?_))
      · repeat (first | exact Below.refl _ _ | refine Below.drew ?_ | refine Below.alloc ?_ (by first | omega | (simp; omega) | (simp <;> done)) _)
      · first | omega | (simp; omega) | (simp; done)
    go_wp2
    go_ret
    refine ⟨congrArg (fun x => Ending.returned (Value.string x)) HD.out.symm, ?_⟩
    repeat (first | exact HBF.out | refine Below.drew ?_ | refine Below.alloc ?_ (by first | omega | (simp; omega) | (simp <;> done)) _)
end Go.Stamp
set_option linter.unusedVariables false
set_option linter.unusedSimpArgs false
set_option maxRecDepth 100000
set_option maxHeartbeats 4000000
namespace Go.Stamp
open Go Go.RowKit Go.Proofs Go.Maps
/-- a function tells a type -/
def FnOK (fn : Nat) (F : Ty → ByteArray) (W0 : World) (t : Ty) : Prop := ∀ (W : World) (vs : List Value), TyV W0 t vs → Below W0.heap.size W0 W → Calls Tryz.prog fn #[.agg ⟨vs⟩] W fun e w' => e = .returned (.string (F t)) ∧ Below W.heap.size W w'
theorem i9 : (Tryz.prog.info? 9).map (fun i => (i.size, i.bytes, i.zero)) = some (1, 16, some (.string { data := #[] })) := by kernel_rfl
theorem str_one (x : ByteArray) : ∀ u ∈ [Value.string x], u.oneCell' = true := by simp [Value.oneCell']
/-- what is held of the texts -/
def OutV (W wr : World) (out : Value) (xs : List ByteArray) : Prop := wr.ownsRow W.heap.size 9 1 out xs.length (xs.map Value.string) ∧ Below W.heap.size W wr
theorem OutV.below {W wr w' : World} {out : Value} {xs : List ByteArray} (h : OutV W wr out xs) (hb : Below wr.heap.size wr w') : OutV W w' out xs :=
  ⟨ownsRow_below h.1 hb, h.2.trans (hb.mono h.2.size)⟩
theorem OutV.grown {W wr w' : World} {out v' : Value} {xs : List ByteArray} {x : ByteArray} (h : OutV W wr out xs) (ho : w'.ownsRow W.heap.size 9 1 v' (xs.length + 1) (xs.map Value.string ++ [.string x])) (hg : wr.grownBy w' out.ownBlock) : OutV W w' v' (xs ++ [x]) :=
  ⟨by simpa using ho, h.2.grown hg h.2.size fun k hk => by
    rcases h.1.2 with ⟨h', _⟩ | ⟨g, cap, cur, h1, h2, _⟩
    · subst h'; cases hk
    · subst h1; simp [Value.ownBlock] at hk; subst hk; exact h2⟩
/-- the texts joined -/
theorem OutV.join {W wr : World} {out : Value} {xs : List ByteArray} {sep : ByteArray} (h : OutV W wr out xs) (hn : xs.length ≤ 1099511627776) (hsz : (joinB xs sep).size ≤ 140737488355328) :
    Calls Tryz.prog 20 #[out, .string sep] wr fun e w' => e = .returned (.string (joinB xs sep)) ∧ Below wr.heap.size wr w' := by
  rcases h.1.2 with ⟨rfl, h0⟩ | ⟨g, cap, cur, rfl, h2, h3, h4, h5, h6, h7⟩
  · obtain rfl : xs = [] := List.eq_nil_of_length_eq_zero h0
    have := Any.strings_Join_none Tryz.laysJoin Tryz.joinExtra none 0 sep wr
    rw [Tryz.join20] at this
    refine this.mono ?_
    rintro e w' ⟨rfl, rfl⟩
    exact ⟨rfl, Below.refl _ _⟩
  · have hlt : g < wr.heap.size := (Array.getElem?_eq_some_iff.1 h3).1
    have := Any.strings_Join Tryz.laysJoin Tryz.joinExtra g 0 cap xs sep wr (fun j x hj => by
      have := h.1.cells (g := g) rfl j (.string x) (by rw [List.getElem?_map, hj]; rfl)
      rw [show (⟨g, 0, none⟩ : Addr).add j = ⟨g, 0 + j, none⟩ by unfold Addr.add; split <;> simp_all] at this
      exact this) hlt (by omega) h4 (by
        have : (joinB xs sep).size = (Lib.join (xs.map (·.data.toList)) sep.data.toList).length := by
          unfold joinB
          show (Lib.join (xs.map (·.data.toList)) sep.data.toList).toArray.size = _
          rw [List.size_toArray]
        omega)
    rw [Tryz.join20] at this
    exact this
theorem texts_ty_34 {F : Ty → ByteArray} {l : List Ty} {W0 W : World} {s : Value} {sep : ByteArray} (hs : SlV W0 l s) (hB : Below W0.heap.size W0 W) (hl : l.length ≤ 1048576) (hF : ∀ t ∈ l, FnOK 34 F W0 t) (hsz : (joinB (l.map F) sep).size ≤ 140737488355328) :
    Calls Tryz.prog 30 #[s, .string sep, .func (.func 34) #[] #[]] W fun e w' => e = .returned (.string (joinB (l.map F) sep)) ∧ Below W.heap.size W w' := by
  obtain ⟨a, c, rfl, hrow⟩ := hs.slice
  obtain ⟨i, hi, hi2⟩ := Option.map_eq_some_iff.1 i9
  injection hi2 with hz0 hz1
  injection hz1 with hz1 hz2
  have HR := Lib.hid hrow
  have HF := Lib.hid hF
  have HB := Lib.hid hB
  have HSZ := Lib.hid hsz
  have hst : OutV W W (.slice none 0 0) ([] : List ByteArray) := ⟨World.ownsRow_nil _ _ _ _, Below.refl _ _⟩
  have HST := Lib.hid hst
  clear hst hs hrow hF hB hsz
  go_enter Tryz.func30, Tryz.ntmps30
  go_wp2
  go_loopw [7, 12] (fun out j wr => ∃ k : Nat, k ≤ l.length ∧ j = .int .i64 k ∧ Hid (OutV W wr out ((l.take k).map F))) (fun _ j _ => l.length - (intOf j).toNat)
  case atStart => exact ⟨0, Nat.zero_le _, rfl, by rw [List.take_zero]; exact HST⟩
  case round =>
    obtain ⟨k, hk, rfl, hO⟩ := hrel
    by_cases hlt : k < l.length
    · obtain ⟨b, o, rfl, hr⟩ := HR.out (by intro e; simp [e] at hlt)
      have hget : l[k]? = some l[k] := List.getElem?_eq_getElem hlt
      obtain ⟨vs, hc, hv⟩ := hr.get hget
      have HV := Lib.hid hv
      obtain ⟨s1, rfl, hs1⟩ := hv.vals
      obtain ⟨sa, sc, rfl, _⟩ := hs1.slice
      have hBW := HB.out.trans (hO.out.2.mono HB.out.size)
      have hcW := hc.below hBW
      have k0 : wr.cell? ⟨b, o + k * 4, none⟩ = some (.int .u8 l[k].kind) := hcW 0 _ rfl
      have k1 := hcW 1 _ rfl
      have k2 := hcW 2 _ rfl
      have k3 := hcW 3 _ rfl
      have HCALL := Lib.hid (fun obj => HF.out l[k] (List.getElem_mem hlt) (wr.alloc obj) _ HV.out (hBW.alloc hBW.size obj))
      have htk : (l.take (k + 1)).map F = (l.take k).map F ++ [F l[k]] := by rw [List.take_succ_eq_append_getElem hlt, List.map_append]; rfl
      have HTK := Lib.hid htk
      have HO := hO
      clear hc hv hs1 hBW hcW htk hr hget
      generalize hfk : F l[k] = fk at *
      go_wp2_with fail
      refine (HCALL.out _).mono ?_
      rintro e w2 ⟨rfl, hb⟩
      have ho2 : OutV W w2 u7 ((l.take k).map F) := (HO.out.below ((Below.refl _ _).alloc (Nat.le_refl _) _)).below hb
      have hlen : ((l.take k).map F).length = k := by simp; omega
      have hsw := ho2.2.size
      have hown := ho2.1.alloc (.cells #[.string fk] 9)
      rw [hlen] at hown
      have HO2 := Lib.hid ho2
      clear ho2 hb HCALL
      go_wp2_with (at_builtin; refine wpList_append_own _ rfl _ _ 31 rfl W.heap.size 9 i (.string { data := #[] }) 1 16 Tryz.underlying31 hi hz2 hz0 hz1 rfl (by decide) _ _ _ rfl hown ⟨w2.heap.size, 0, none⟩ 1 1 [.string fk] rfl rfl (cell_one_new _ _ _) (str_one fk) (by simp only [maxLen]; omega) (by omega) (by simp; omega) ?_; intro v' w3 hown' hgrow hnil)
      have HN : Hid (OutV W w3 v' ((l.take (k + 1)).map F)) := Lib.hid (by
        rw [HTK.out]
        refine OutV.grown (HO2.out.below ((Below.refl _ _).alloc (Nat.le_refl _) _)) ?_ hgrow
        rw [hlen]; exact hown')
      clear hown' hgrow hnil hown HO2 HO
      go_wp2
      go_round
      case rel => exact ⟨k + 1, by omega, by simp, HN⟩
      case measure => simp [intOf]; omega
    · obtain rfl : k = l.length := by omega
      rw [List.take_length] at hO
      have HJ := Lib.hid (hO.out.join (sep := sep) (by simp; omega) HSZ.out)
      have HO := hO
      clear hO
      go_wp2_with fail
      refine HJ.out.mono ?_
      rintro e w2 ⟨rfl, hb⟩
      have HB2 := Lib.hid (HO.out.2.trans (hb.mono HO.out.2.size))
      clear hb
      go_wp2
      go_ret
      exact ⟨rfl, HB2.out⟩
theorem texts_ty_18 {F : Ty → ByteArray} {l : List Ty} {W0 W : World} {s : Value} {sep : ByteArray} (hs : SlV W0 l s) (hB : Below W0.heap.size W0 W) (hl : l.length ≤ 1048576) (hF : ∀ t ∈ l, FnOK 18 F W0 t) (hsz : (joinB (l.map F) sep).size ≤ 140737488355328) :
    Calls Tryz.prog 30 #[s, .string sep, .func (.func 18) #[] #[]] W fun e w' => e = .returned (.string (joinB (l.map F) sep)) ∧ Below W.heap.size W w' := by
  obtain ⟨a, c, rfl, hrow⟩ := hs.slice
  obtain ⟨i, hi, hi2⟩ := Option.map_eq_some_iff.1 i9
  injection hi2 with hz0 hz1
  injection hz1 with hz1 hz2
  have HR := Lib.hid hrow
  have HF := Lib.hid hF
  have HB := Lib.hid hB
  have HSZ := Lib.hid hsz
  have hst : OutV W W (.slice none 0 0) ([] : List ByteArray) := ⟨World.ownsRow_nil _ _ _ _, Below.refl _ _⟩
  have HST := Lib.hid hst
  clear hst hs hrow hF hB hsz
  go_enter Tryz.func30, Tryz.ntmps30
  go_wp2
  go_loopw [7, 12] (fun out j wr => ∃ k : Nat, k ≤ l.length ∧ j = .int .i64 k ∧ Hid (OutV W wr out ((l.take k).map F))) (fun _ j _ => l.length - (intOf j).toNat)
  case atStart => exact ⟨0, Nat.zero_le _, rfl, by rw [List.take_zero]; exact HST⟩
  case round =>
    obtain ⟨k, hk, rfl, hO⟩ := hrel
    by_cases hlt : k < l.length
    · obtain ⟨b, o, rfl, hr⟩ := HR.out (by intro e; simp [e] at hlt)
      have hget : l[k]? = some l[k] := List.getElem?_eq_getElem hlt
      obtain ⟨vs, hc, hv⟩ := hr.get hget
      have HV := Lib.hid hv
      obtain ⟨s1, rfl, hs1⟩ := hv.vals
      obtain ⟨sa, sc, rfl, _⟩ := hs1.slice
      have hBW := HB.out.trans (hO.out.2.mono HB.out.size)
      have hcW := hc.below hBW
      have k0 : wr.cell? ⟨b, o + k * 4, none⟩ = some (.int .u8 l[k].kind) := hcW 0 _ rfl
      have k1 := hcW 1 _ rfl
      have k2 := hcW 2 _ rfl
      have k3 := hcW 3 _ rfl
      have HCALL := Lib.hid (fun obj => HF.out l[k] (List.getElem_mem hlt) (wr.alloc obj) _ HV.out (hBW.alloc hBW.size obj))
      have htk : (l.take (k + 1)).map F = (l.take k).map F ++ [F l[k]] := by rw [List.take_succ_eq_append_getElem hlt, List.map_append]; rfl
      have HTK := Lib.hid htk
      have HO := hO
      clear hc hv hs1 hBW hcW htk hr hget
      generalize hfk : F l[k] = fk at *
      go_wp2_with fail
      refine (HCALL.out _).mono ?_
      rintro e w2 ⟨rfl, hb⟩
      have ho2 : OutV W w2 u7 ((l.take k).map F) := (HO.out.below ((Below.refl _ _).alloc (Nat.le_refl _) _)).below hb
      have hlen : ((l.take k).map F).length = k := by simp; omega
      have hsw := ho2.2.size
      have hown := ho2.1.alloc (.cells #[.string fk] 9)
      rw [hlen] at hown
      have HO2 := Lib.hid ho2
      clear ho2 hb HCALL
      go_wp2_with (at_builtin; refine wpList_append_own _ rfl _ _ 31 rfl W.heap.size 9 i (.string { data := #[] }) 1 16 Tryz.underlying31 hi hz2 hz0 hz1 rfl (by decide) _ _ _ rfl hown ⟨w2.heap.size, 0, none⟩ 1 1 [.string fk] rfl rfl (cell_one_new _ _ _) (str_one fk) (by simp only [maxLen]; omega) (by omega) (by simp; omega) ?_; intro v' w3 hown' hgrow hnil)
      have HN : Hid (OutV W w3 v' ((l.take (k + 1)).map F)) := Lib.hid (by
        rw [HTK.out]
        refine OutV.grown (HO2.out.below ((Below.refl _ _).alloc (Nat.le_refl _) _)) ?_ hgrow
        rw [hlen]; exact hown')
      clear hown' hgrow hnil hown HO2 HO
      go_wp2
      go_round
      case rel => exact ⟨k + 1, by omega, by simp, HN⟩
      case measure => simp [intOf]; omega
    · obtain rfl : k = l.length := by omega
      rw [List.take_length] at hO
      have HJ := Lib.hid (hO.out.join (sep := sep) (by simp; omega) HSZ.out)
      have HO := hO
      clear hO
      go_wp2_with fail
      refine HJ.out.mono ?_
      rintro e w2 ⟨rfl, hb⟩
      have HB2 := Lib.hid (HO.out.2.trans (hb.mono HO.out.2.size))
      clear hb
      go_wp2
      go_ret
      exact ⟨rfl, HB2.out⟩
end Go.Stamp
set_option linter.unusedVariables false
set_option linter.unusedSimpArgs false
set_option maxRecDepth 100000
set_option maxHeartbeats 4000000
namespace Go.Stamp
open Go Go.RowKit Go.Proofs Go.Maps
variable {numT : Int → ByteArray}
theorem tyT_var {t : Ty} (hk : t.kind = 1) (hn : t.name.size ≠ 0) : tyT numT t = t.name := by
  cases t; simp only [Ty.kind, Ty.name] at *; rw [tyT, if_pos hk, if_neg hn]
theorem tyT_num {t : Ty} (hk : t.kind = 1) (hn : t.name.size = 0) : tyT numT t = sTick ++ numT t.num := by
  cases t; simp only [Ty.kind, Ty.name, Ty.num] at *; rw [tyT, if_pos hk, if_pos hn]
theorem tyT_tup {t : Ty} (hk : t.kind = 4) : tyT numT t = joinB (t.kids.map (loneT numT)) sStar := by
  cases t; simp only [Ty.kind, Ty.kids] at *; rw [tyT, if_neg (by omega), if_pos hk, loneL_eq]
theorem tyT_con0 {t : Ty} (hk : t.kind = 2) (hl : t.kids.length = 0) : tyT numT t = t.name := by
  cases t; simp only [Ty.kind, Ty.name, Ty.kids] at *; rw [tyT, if_neg (by omega), if_neg (by omega), if_pos hk, if_pos hl]
theorem tyT_con1 {t k0 : Ty} (hk : t.kind = 2) (hl : t.kids = [k0]) : tyT numT t = loneT numT k0 ++ sBlank ++ t.name := by
  cases t
  simp only [Ty.kind, Ty.name, Ty.kids] at *
  subst hl
  rw [tyT, if_neg (by omega), if_neg (by omega), if_pos hk, if_neg (by simp), if_pos (by simp), loneL_eq]
  rfl
theorem tyT_conN {t : Ty} (hk : t.kind = 2) (h0 : t.kids.length ≠ 0) (h1 : t.kids.length ≠ 1) : tyT numT t = sOpen ++ joinB (t.kids.map (tyT numT)) sComma ++ sShut ++ t.name := by
  cases t; simp only [Ty.kind, Ty.name, Ty.kids] at *; rw [tyT, if_neg (by omega), if_neg (by omega), if_pos hk, if_neg h0, if_neg h1, tyL_eq]
theorem size_le {M : Nat} {t : Ty} (h : fitT 1048576 t) (hp : partsT t ≤ 4096) : (tyT numS t).size ≤ 4296278080 := by
  have h1 := tyT_size (numT := numS) numS_size t h
  have h2 : (1048576 + 64) * (partsT t + 1) ≤ (1048576 + 64) * 4097 := Nat.mul_le_mul_left _ (by omega)
  omega
theorem sizeJ_le {t : Ty} (h : fitT 1048576 t) (hp : partsT t ≤ 4096) : (joinB (t.kids.map (tyT numS)) sComma).size ≤ 4296278080 ∧ (joinB (t.kids.map (loneT numS)) sStar).size ≤ 4296278080 := by
  have h1 := tyL_size (numT := numS) numS_size t.kids (fitT_kids h)
  have h2 := loneL_size (numT := numS) numS_size t.kids (fitT_kids h)
  rw [tyL_eq] at h1
  rw [loneL_eq] at h2
  rw [partsT_eq] at hp
  have h3 : (1048576 + 64) * partsN t.kids ≤ (1048576 + 64) * 4096 := Nat.mul_le_mul_left _ hp
  have j1 := joinB_le (l := t.kids.map (tyT numS)) (sep := sComma) (k := 3) (by decide)
  have j2 := joinB_le (l := t.kids.map (loneT numS)) (sep := sStar) (k := 3) (by decide)
  constructor <;> omega
theorem empty_of {b : ByteArray} (h : b.size = 0) : b = { data := #[] } := by
  cases b with
  | mk d =>
    have : d = #[] := Array.eq_empty_of_size_eq_zero h
    rw [this]
theorem isEmpty_of {b : ByteArray} (h : b.size ≠ 0) : b.toList.isEmpty = false := by
  rw [List.isEmpty_eq_false_iff, Lib.toList_data]
  intro e
  exact h (by show b.data.size = 0; rw [← Array.length_toList, e]; rfl)
theorem ty_ok : ∀ (f : Nat) (t : Ty), partsT t < f → f ≤ 4096 → goodT t → fitT 1048576 t → TyOK t
  | 0, t, h, _, _, _ => by omega
  | f + 1, t, hf, hfm, hg, hfit => by
    intro W0 W vs hTab hT hB
    have HP : Hid (∀ k (hk : k < t.kids.length), partsT t.kids[k] < f) := Lib.hid fun k hk => by
      have := partsT_le (List.getElem?_eq_getElem hk)
      rw [← partsT_eq] at this
      omega
    have HK : Hid (∀ x ∈ t.kids, TyOK x ∧ (tyT numS x).size ≤ 1099511627776) := Lib.hid fun x hx => by
      obtain ⟨k, hk, rfl⟩ := List.getElem_of_mem hx
      exact ⟨ty_ok f _ (HP.out k hk) (by omega) (goodL_get (goodT_kids hg) hk) (fitL_get (fitT_kids hfit) hk),
        Nat.le_trans (size_le (M := 0) (fitL_get (fitT_kids hfit) hk) (by have := HP.out k hk; omega)) (by omega)⟩
    have hF18 : ∀ x ∈ t.kids, FnOK 18 (tyT numS) W0 x := fun x hx W vs hv hb => (HK.out x hx).1 W0 W vs hTab hv hb
    have hF34 : ∀ x ∈ t.kids, FnOK 34 (loneT numS) W0 x := fun x hx W vs hv hb => lone_ok (HK.out x hx).1 (HK.out x hx).2 hTab hv hb
    have HF18 := Lib.hid hF18
    have HF34 := Lib.hid hF34
    obtain ⟨s, rfl, hs⟩ := hT.vals
    obtain ⟨ka, kc, rfl, hrow⟩ := hs.slice
    have hname := fitT_name hfit
    have hlen : t.kids.length ≤ 4096 := by rw [partsT_eq, partsN_eq] at hf; omega
    obtain ⟨hj1, hj2⟩ := sizeJ_le hfit (by omega)
    have HSL := Lib.hid hs
    have HR := Lib.hid hrow
    have HB := Lib.hid hB
    have HTAB := Lib.hid hTab
    have hnum := fitT_num hfit
    have hkind := goodT_kind hg
    clear hF18 hF34 hs hrow hB hTab hT hg hfit hf
    by_cases h1 : t.kind = 1
    · by_cases hn : t.name.size = 0
      · have HE := Lib.hid (tyT_num (numT := numS) h1 hn)
        have he := empty_of hn
        rw [h1, he]
        have HN := Lib.hid (fun w (hb : Below W.heap.size W w) => number_ok t.num hnum.1 hnum.2 w (TabV.below HTAB.out (HB.out.trans (hb.mono HB.out.size))))
        have hsz := numS_size t.num
        generalize numS t.num = nt at *
        clear h1 hn he
        go_enter Tryz.func18, Tryz.ntmps18
        go_wp2_with fail
        refine (HN.out _ ((Below.refl _ _).alloc (Nat.le_refl _) _)).mono ?_
        rintro e w2 ⟨rfl, hb⟩
        have HBB := Lib.hid (((Below.refl _ _).alloc (Nat.le_refl W.heap.size) (.cells ⟨[.int .u8 1, .string { data := #[] }, .int .i64 t.num, .slice ka t.kids.length kc]⟩ 24)).trans (hb.mono (by simp)))
        clear hb
        go_wp2
        go_ret
        exact ⟨congrArg (fun x => Ending.returned (Value.string x)) HE.out.symm, HBB.out⟩
      · have HE := Lib.hid (tyT_var (numT := numS) h1 hn)
        have hb := isEmpty_of hn
        rw [h1]
        generalize t.name = nm at *
        clear h1 hn
        go_enter Tryz.func18, Tryz.ntmps18
        go_wp2
        go_ret
        exact ⟨congrArg (fun x => Ending.returned (Value.string x)) HE.out.symm, (Below.refl _ _).alloc (Nat.le_refl _) _⟩
    · have hk1 : (t.kind == 1) = false := by simpa using h1
      by_cases h4 : t.kind = 4
      · have HE := Lib.hid (tyT_tup (numT := numS) h4)
        have HC := Lib.hid (fun w (hb : Below W0.heap.size W0 w) => texts_ty_34 (W := w) HSL.out hb (by omega) HF34.out (sep := sStar) (by omega))
        have hb0 := HB.out.alloc HB.out.size (.cells ⟨[.int .u8 4, .string t.name, .int .i64 t.num, .slice ka t.kids.length kc]⟩ 24)
        have HC2 := Lib.hid (HC.out _ hb0)
        rw [h4]
        generalize joinB (t.kids.map (loneT numS)) sStar = J at *
        clear h1 hk1 h4 hb0
        go_enter Tryz.func18, Tryz.ntmps18
        go_wp2_with fail
        refine HC2.out.mono ?_
        rintro e w2 ⟨rfl, hb⟩
        have HBB := Lib.hid (((Below.refl _ _).alloc (Nat.le_refl W.heap.size) (.cells ⟨[.int .u8 4, .string t.name, .int .i64 t.num, .slice ka t.kids.length kc]⟩ 24)).trans (hb.mono (by simp)))
        clear hb
        go_wp2
        go_ret
        exact ⟨congrArg (fun x => Ending.returned (Value.string x)) HE.out.symm, HBB.out⟩
      · have h2 : t.kind = 2 := by omega
        by_cases hl0 : t.kids.length = 0
        · have HE := Lib.hid (tyT_con0 (numT := numS) h2 hl0)
          rw [h2, hl0]
          clear h1 hk1 h4 h2
          go_enter Tryz.func18, Tryz.ntmps18
          go_wp2
          go_ret
          exact ⟨congrArg (fun x => Ending.returned (Value.string x)) HE.out.symm, (Below.refl _ _).alloc (Nat.le_refl _) _⟩
        · by_cases hl1 : t.kids.length = 1
          · obtain ⟨x0, hx0⟩ : ∃ x0, t.kids = [x0] := by
              match hkk : t.kids, hl1 with
              | [x], _ => exact ⟨x, rfl⟩
            have HE := Lib.hid (tyT_con1 (numT := numS) h2 hx0)
            have hm : x0 ∈ t.kids := by rw [hx0]; simp
            obtain ⟨b, o, rfl, hr⟩ := HR.out (by rw [hx0]; simp)
            obtain ⟨us, hc, hv⟩ := hr.get (i := 0) (t := x0) (by rw [hx0]; rfl)
            have HV := Lib.hid hv
            obtain ⟨s1, rfl, hs1⟩ := hv.vals
            obtain ⟨sa, sc, rfl, _⟩ := hs1.slice
            have hcW := hc.below HB.out
            have k0 : W.cell? ⟨b, o, none⟩ = some (.int .u8 x0.kind) := by have := hcW 0 _ rfl; simpa using this
            have k1 : W.cell? ⟨b, o + 1, none⟩ = some (.string x0.name) := by have := hcW 1 _ rfl; simpa using this
            have k2 : W.cell? ⟨b, o + 2, none⟩ = some (.int .i64 x0.num) := by have := hcW 2 _ rfl; simpa using this
            have k3 : W.cell? ⟨b, o + 3, none⟩ = some (.slice sa x0.kids.length sc) := by have := hcW 3 _ rfl; simpa using this
            have hbl := cell_lt k0
            have HC := Lib.hid (fun w (hb : Below W0.heap.size W0 w) => HF34.out x0 hm w _ HV.out hb)
            have hlsz : (loneT numS x0).size ≤ 8796093022208 := by
              have := round_size (tyT numS x0) (decide (3 = x0.kind) || decide (4 = x0.kind))
              have h3 := (HK.out x0 hm).2
              unfold loneT
              omega
            rw [h2, hl1]
            generalize loneT numS x0 = L at *
            clear h1 hk1 h4 h2 hl0 hc hv hs1 hcW hm
            go_enter Tryz.func18, Tryz.ntmps18
            go_wp2
            go_region_with (go_at_call 34; refine (HC.out _ ?_).mono ?_; (repeat (first | exact HB.out | refine Below.drew ?_ | refine Below.alloc ?_ (by have := HB.out.size; simp; omega) _)); rintro e w' ⟨rfl, hb⟩; (have hz := hb.size); (have q0 := hb.cell (p := ⟨W.heap.size, 0, none⟩) (by simp)); (have q1 := hb.cell (p := ⟨W.heap.size, 1, none⟩) (by simp)); (have q2 := hb.cell (p := ⟨W.heap.size, 2, none⟩) (by simp)); (have q3 := hb.cell (p := ⟨W.heap.size, 3, none⟩) (by simp)); simp [go_sem] at q0 q1 q2 q3 hz; (have HBB := Lib.hid hb); clear hb)
            all_goals
              have HBF : Hid (Below W.heap.size W w') := by
                refine Lib.hid (Below.trans ?_ (HBB.out.mono ?_))
                · repeat (first | exact Below.refl _ _ | refine Below.drew ?_ | refine Below.alloc ?_ (by first | omega | (simp; omega) | (simp <;> done)) _)
                · first | omega | (simp; omega) | (simp; done)
              go_wp2
              go_ret
              refine ⟨congrArg (fun x => Ending.returned (Value.string x)) HE.out.symm, ?_⟩
              repeat (first | exact HBF.out | refine Below.drew ?_)
          · have HE := Lib.hid (tyT_conN (numT := numS) h2 hl0 hl1)
            have HC := Lib.hid (fun w (hb : Below W0.heap.size W0 w) => texts_ty_18 (W := w) HSL.out hb (by omega) HF18.out (sep := sComma) (by omega))
            have e0 : ((t.kids.length : Int) == 0) = false := by simpa using hl0
            have e1 : ((t.kids.length : Int) == 1) = false := by
              rw [beq_eq_false_iff_ne]; omega
            rw [h2]
            generalize joinB (t.kids.map (tyT numS)) sComma = J at *
            clear h1 hk1 h4 h2
            go_enter Tryz.func18, Tryz.ntmps18
            go_wp2
            go_region_with (go_at_call 30; refine (HC.out _ ?_).mono ?_; (repeat (first | exact HB.out | refine Below.drew ?_ | refine Below.alloc ?_ (by have := HB.out.size; simp; omega) _)); rintro e w' ⟨rfl, hb⟩; (have hz := hb.size); (have q0 := hb.cell (p := ⟨W.heap.size, 0, none⟩) (by simp)); (have q1 := hb.cell (p := ⟨W.heap.size, 1, none⟩) (by simp)); (have q2 := hb.cell (p := ⟨W.heap.size, 2, none⟩) (by simp)); (have q3 := hb.cell (p := ⟨W.heap.size, 3, none⟩) (by simp)); simp [go_sem] at q0 q1 q2 q3 hz; (have HBB := Lib.hid hb); clear hb)
            all_goals
              have HBF : Hid (Below W.heap.size W w') := by
                refine Lib.hid (Below.trans ?_ (HBB.out.mono ?_))
                · repeat (first | exact Below.refl _ _ | refine Below.drew ?_ | refine Below.alloc ?_ (by first | omega | (simp; omega) | (simp <;> done)) _)
                · first | omega | (simp; omega) | (simp; done)
              go_wp2
              go_ret
              refine ⟨congrArg (fun x => Ending.returned (Value.string x)) HE.out.symm, ?_⟩
              repeat (first | exact HBF.out | refine Below.drew ?_)
end Go.Stamp
