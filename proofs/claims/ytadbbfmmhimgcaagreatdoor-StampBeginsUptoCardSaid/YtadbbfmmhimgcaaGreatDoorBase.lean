/- This seat's table of types, the contracts of errors.Is and strings.Join, and the anchor 'works': it answers true in any world in which the listed error lies. -/
import Derived.Test.YtadbbfmmhimgcaaGreatDoorEngB
import Derived.KernelRfl
import Derived.Test.YtadbbfmmhimgcaaGreatDoorProg
import Derived.Test.YtadbbfmmhimgcaaGreatDoorChecked
import Derived.WalkKit
import Derived.LaidEql
import Derived.Stop.Asserts
import Derived.RowKitTokens
import Derived.Ground.NamesProg
import Derived.Shelf.Strings.OnBuilder
set_option linter.unusedVariables false
set_option maxRecDepth 100000
namespace Go.Eng
open Go.Proofs
noncomputable def tl1 : List (Nat × TI) := [(2, ⟨(.int .i64), 1, (.int .i64 (.ofNat 0))⟩),
  (3, ⟨(.int .i64), 1, (.int .i64 (.ofNat 0))⟩),
  (4, ⟨.bool, 1, (.bool false)⟩),
  (5, ⟨(.int .u8), 1, (.int .u8 (.ofNat 0))⟩),
  (9, ⟨.str, 1, (.str 0 0)⟩),
  (20, ⟨(.iface true), 1, .nilIface⟩),
  (22, ⟨(.slice 24), 1, .nilSlice⟩),
  (24, ⟨(.struct [(0, 5), (1, 9), (2, 3), (3, 22)]), 4, (.agg [(.int .u8 (.ofNat 0)), (.str 0 0), (.int .i64 (.ofNat 0)), .nilSlice])⟩),
  (25, ⟨(.slice 39), 1, .nilSlice⟩),
  (28, ⟨(.int .i64), 1, (.int .i64 (.ofNat 0))⟩),
  (31, ⟨(.slice 9), 1, .nilSlice⟩),
  (32, ⟨(.slice 48), 1, .nilSlice⟩),
  (33, ⟨(.slice 81), 1, .nilSlice⟩),
  (34, ⟨(.slice 37), 1, .nilSlice⟩),
  (35, ⟨(.slice 133), 1, .nilSlice⟩),
  (37, ⟨(.struct [(0, 5), (1, 9), (2, 2), (3, 9), (4, 34), (5, 35), (6, 25)]), 7, (.agg [(.int .u8 (.ofNat 0)), (.str 0 0), (.int .i64 (.ofNat 0)), (.str 0 0), .nilSlice, .nilSlice, .nilSlice])⟩),
  (39, ⟨(.struct [(0, 5), (1, 9), (2, 31), (3, 32), (4, 33), (5, 24), (9, 37)]), 16, (.agg [(.int .u8 (.ofNat 0)), (.str 0 0), .nilSlice, .nilSlice, .nilSlice, (.int .u8 (.ofNat 0)), (.str 0 0), (.int .i64 (.ofNat 0)), .nilSlice, (.int .u8 (.ofNat 0)), (.str 0 0), (.int .i64 (.ofNat 0)), (.str 0 0), .nilSlice, .nilSlice, .nilSlice])⟩),
  (43, ⟨.func, 1, .nilFunc⟩),
  (48, ⟨(.struct [(0, 9), (1, 4), (2, 24)]), 6, (.agg [(.str 0 0), (.bool false), (.int .u8 (.ofNat 0)), (.str 0 0), (.int .i64 (.ofNat 0)), .nilSlice])⟩),
  (52, ⟨(.ptr 55), 1, .nilPtr⟩),
  (53, ⟨(.map 9 121), 1, .nilMap⟩),
  (55, ⟨(.struct [(0, 25), (1, 53), (2, 25)]), 3, (.agg [.nilSlice, .nilMap, .nilSlice])⟩),
  (58, ⟨(.iface false), 1, .nilIface⟩),
  (60, ⟨.func, 1, .nilFunc⟩),
  (76, ⟨.func, 1, .nilFunc⟩),
  (81, ⟨(.struct [(0, 9), (1, 31), (2, 37)]), 9, (.agg [(.str 0 0), .nilSlice, (.int .u8 (.ofNat 0)), (.str 0 0), (.int .i64 (.ofNat 0)), (.str 0 0), .nilSlice, .nilSlice, .nilSlice])⟩),
  (82, ⟨.func, 1, .nilFunc⟩),
  (83, ⟨(.ptr 86), 1, .nilPtr⟩),
  (84, ⟨(.slice 5), 1, .nilSlice⟩),
  (86, ⟨(.struct [(0, 83), (1, 84)]), 2, (.agg [.nilPtr, .nilSlice])⟩),
  (102, ⟨(.slice 58), 1, .nilSlice⟩),
  (105, ⟨(.ptr 107), 1, .nilPtr⟩),
  (107, ⟨(.struct [(0, 102)]), 1, (.agg [.nilSlice])⟩),
  (112, ⟨(.arr 3 9), 3, (.agg [(.str 0 0), (.str 0 0), (.str 0 0)])⟩),
  (117, ⟨(.map 9 3), 1, .nilMap⟩),
  (120, ⟨.func, 1, .nilFunc⟩),
  (121, ⟨(.struct []), 0, (.agg [])⟩),
  (129, ⟨(.slice 131), 1, .nilSlice⟩),
  (131, ⟨(.struct [(0, 5), (1, 9), (2, 2), (3, 129)]), 4, (.agg [(.int .u8 (.ofNat 0)), (.str 0 0), (.int .i64 (.ofNat 0)), .nilSlice])⟩),
  (133, ⟨(.struct [(0, 131), (4, 37)]), 11, (.agg [(.int .u8 (.ofNat 0)), (.str 0 0), (.int .i64 (.ofNat 0)), .nilSlice, (.int .u8 (.ofNat 0)), (.str 0 0), (.int .i64 (.ofNat 0)), (.str 0 0), .nilSlice, .nilSlice, .nilSlice])⟩)]
noncomputable def T1 : Nat → Option TI := lookT tl1
theorem tl1_all : (tl1.all fun p => tiB Tryz.prog p.1 p.2) = true := by kernel_rfl
theorem T1_ok : TOK Tryz.prog T1 := lookT_ok fun p hp => List.all_eq_true.1 tl1_all p hp
end Go.Eng
namespace Go.Proofs.YtadbbfmmhimgcaaGreatDoor
open Go.RowKit Go.Extern.Stop Go.Stop Go.Extern Go.Extern.Rtype

theorem isTypeOf (v : Value) (w : World) : (Extern.ReflectliteType.typeOf #[.iface 224 v]).run Tryz.prog w = .ok (.iface 94 (.agg #[.pointer (some ⟨7, 224, none⟩)])) w := by kernel_rfl
theorem isComparable (w : World) : ((Extern.ReflectliteType.method fun t => do noPackHeld "Comparable" t; Functor.map (fun a => Value.bool a.comparable) (typeInfo t)) #[.agg #[.pointer (some ⟨7, 224, none⟩)]]).run Tryz.prog w = .ok (.bool true) w := by kernel_rfl
theorem isMethodComparable (v : Value) (w : World) : (Go.method 372 94 v "Comparable").run Tryz.prog w = .ok (152, v) w := by kernel_rfl
theorem isComp : (Tryz.prog.info? 224).map (·.comparable) = some true := by kernel_rfl
theorem isSize : (Tryz.prog.info? 261).map (·.size) = some 1 := by kernel_rfl
set_option maxRecDepth 100000 in
theorem is_same (a : Addr) (w : World) :
    Calls Tryz.prog 16 #[.iface 224 (.pointer (some a)), .iface 224 (.pointer (some a))] w fun e w' => e = .returned (.bool true) ∧ w' = w := by
  obtain ⟨i, hi, hcmp⟩ := Option.map_eq_some_iff.1 isComp
  obtain ⟨j, hj, hjs⟩ := Option.map_eq_some_iff.1 isSize
  have h8 := @run_callFunc_extern Tryz.prog 25 _ Extern.ReflectliteType.typeOf Tryz.func25 (by kernel_rfl) (by kernel_rfl) (by kernel_rfl) (by kernel_rfl)
  have h32 := @run_callFunc_extern Tryz.prog 152 _ (Extern.ReflectliteType.method fun t => do noPackHeld "Comparable" t; pure (.bool (← typeInfo t).comparable)) Tryz.func152 (by kernel_rfl) (by kernel_rfl) (by kernel_rfl) (by kernel_rfl)
  have tT := isTypeOf
  have cT := isComparable
  have mR := isMethodComparable
  have heq := run_eql_iface_ptr_same (P := Tryz.prog) w a Tryz.underlying58 Tryz.underlying224 hi hcmp hj
  go_enter Tryz.func16, Tryz.ntmps16
  go_wp2
  refine wp_loop_rounds 1 ?_
  rw [rounds_succ]
  go_wp2
  go_ret
  exact ⟨rfl, rfl⟩
theorem is_nil (b : Addr) (w : World) :
    Calls Tryz.prog 16 #[.nilIface, .iface 224 (.pointer (some b))] w fun e w' => e = .returned (.bool false) ∧ w' = w := by
  have hn := run_eql_iface_nil_left (P := Tryz.prog) w 224 (.pointer (some b)) Tryz.underlying58
  go_enter Tryz.func16, Tryz.ntmps16
  go_wp2
  go_ret
  exact ⟨rfl, rfl⟩
end Go.Proofs.YtadbbfmmhimgcaaGreatDoor
set_option linter.unusedVariables false
namespace Go.Proofs.YtadbbfmmhimgcaaGreatDoor
open Go.RowKit Go.Extern.Stop Go.Stop Go.Extern Go.Extern.Rtype
theorem isNoIs (v : Value) (w : World) : (Instr.typeAssert (.iface 105 v) 58 96 true).run Tryz.prog w = .ok (.tuple #[.nilIface, .bool false]) w :=
  run_typeAssert_lacksB (t := 105) (z := .nilIface) Tryz.underlying96 (by kernel_rfl) (by kernel_rfl) v 58 w
theorem isNoUn (v : Value) (w : World) : (Instr.typeAssert (.iface 105 v) 58 99 true).run Tryz.prog w = .ok (.tuple #[.nilIface, .bool false]) w :=
  run_typeAssert_lacksB (t := 105) (z := .nilIface) Tryz.underlying99 (by kernel_rfl) (by kernel_rfl) v 58 w
theorem isUns (v : Value) (w : World) : (Instr.typeAssert (.iface 105 v) 58 101 true).run Tryz.prog w = .ok (.tuple #[.iface 105 v, .bool true]) w :=
  run_typeAssert_hasB (t := 105) Tryz.underlying101 (by kernel_rfl) v 58 w
theorem isMethodUnwrap (v : Value) (w : World) : (Go.method 372 105 v "Unwrap").run Tryz.prog w = .ok (162, v) w := by kernel_rfl
theorem eqOther (v u : Value) (w : World) : (binOp .eql 58 (.iface 105 v) (.iface 224 u)).run Tryz.prog w = .ok (.bool false) w := by
  have h : ∀ d : Nat, (Op.equalIn (d + 1) 58 (.iface 105 v) (.iface 224 u)).run Tryz.prog w = .ok false w := fun d => by simp [Op.equalIn, run_underlying Tryz.underlying58]
  simp only [binOp]
  simp [Op.equal, Op.maxDepth, h 9999]
set_option maxRecDepth 100000 in
theorem is_join (a b s : Addr) (cap : Nat) (w : World) (hc : w.cell? a = some (.slice (some s) 1 cap)) (hs : w.cell? s = some (.iface 224 (.pointer (some b)))) :
    Calls Tryz.prog 16 #[.iface 105 (.pointer (some a)), .iface 224 (.pointer (some b))] w fun e w' => e = .returned (.bool true) ∧ w' = w := by
  have h8 := @run_callFunc_extern Tryz.prog 25 _ Extern.ReflectliteType.typeOf Tryz.func25 (by kernel_rfl) (by kernel_rfl) (by kernel_rfl) (by kernel_rfl)
  have h32 := @run_callFunc_extern Tryz.prog 152 _ (Extern.ReflectliteType.method fun t => do noPackHeld "Comparable" t; pure (.bool (← typeInfo t).comparable)) Tryz.func152 (by kernel_rfl) (by kernel_rfl) (by kernel_rfl) (by kernel_rfl)
  have tT := isTypeOf
  have cT := isComparable
  have mR' := isMethodComparable
  have heq := eqOther (.pointer (some a)) (.pointer (some b)) w
  have n1 := isNoIs
  have n2 := isNoUn
  have n3 := isUns
  have mR := isMethodUnwrap
  obtain ⟨i, hi, hcmp⟩ := Option.map_eq_some_iff.1 isComp
  obtain ⟨j, hj, hjs⟩ := Option.map_eq_some_iff.1 isSize
  have heq2 := run_eql_iface_ptr_same (P := Tryz.prog) w b Tryz.underlying58 Tryz.underlying224 hi hcmp hj
  go_enter Tryz.func16, Tryz.ntmps16
  go_wp2
  refine wp_loop_rounds 1 ?_
  rw [rounds_succ]
  go_wp2
  refine wp_loop_rounds 1 ?_
  rw [rounds_succ]
  go_wp2
  refine wp_loop_rounds 1 ?_
  rw [rounds_succ]
  go_wp2
  go_ret
  exact ⟨rfl, rfl⟩
end Go.Proofs.YtadbbfmmhimgcaaGreatDoor
set_option linter.unusedVariables false
namespace Go.Eng
open Go.RowKit Go.Proofs
/-- errors.Is of nil, or of the very pointer -/
noncomputable def isI : Known := fun args h =>
  match args with
  | [.nilIface, .iface 224 (.ptr b' 0)] => .ok (.bool false, h)
  | [.iface 224 (.ptr b 0), .iface 224 (.ptr b' 0)] => ifb (b.eqb b') (.ok (.bool true, h)) .fail
  | [.iface 105 (.ptr b 0), .iface 224 (.ptr b' 0)] => onSome (h.load1 b 0) (fun v => match v with
      | .slice s off n _ => ifb (Nat.beq n 1) (onSome (h.load1 s off) (fun v => match v with | .iface 224 (.ptr c 0) => ifb (c.eqb b') (.ok (.bool true, h)) .fail | _ => .fail) .fail) .fail
      | _ => .fail) .fail
  | _ => .fail
theorem enters16 : Enters Tryz.prog 16 := by
  have hb : ∃ c, Tryz.f16.body = some c := Option.isSome_iff_exists.1 (by kernel_rfl : Tryz.f16.body.isSome = true)
  obtain ⟨c, hc⟩ := hb
  have hn : ¬ Tryz.f16.name = "runtime.NumGoroutine" := by
    have : (Tryz.f16.name == "runtime.NumGoroutine") = false := by kernel_rfl
    intro e; rw [e] at this; simp at this
  intro args w
  simp [callFunc, Tryz.func16, hn, hc]
theorem isI_ok {K : Ctx} {ng : Nat} : KnownOK Tryz.prog K ng 16 isI := by
  intro σ own w h args cargs hg hH ha hf
  obtain ⟨cl⟩ := cargs
  simp only at ha
  unfold isI at hf ⊢
  split at hf
  · obtain ⟨x, xs, rfl, h1, y, ys, rfl, h2, h3⟩ := ha
    simp only [VRs] at h3
    subst h3
    have hx : x = .nilIface := h1
    obtain ⟨z, rfl, l, hl, hz⟩ := h2
    subst hx; subst hz
    refine .inl ⟨enters16, Calls.mono (YtadbbfmmhimgcaaGreatDoor.is_nil ⟨l.B, l.o + 0, none⟩ w) fun e w' ⟨he, hw⟩ => ?_⟩
    subst he; subst hw
    exact ⟨_, rfl, σ, own, rfl, Grow.refl _ _, hH⟩
  · rename_i b b'
    cases hb : b.eqb b' with
    | false => simp only [hb] at hf; exact absurd rfl hf
    | true =>
      have := Pos.eqb_iff.1 hb
      subst this
      obtain ⟨x, xs, rfl, h1, y, ys, rfl, h2, h3⟩ := ha
      simp only [VRs] at h3
      subst h3
      have hxy : y = x := h2.fn h1
      subst hxy
      obtain ⟨z, rfl, l, hl, hz⟩ := h1
      subst hz
      refine .inl ⟨enters16, Calls.mono (YtadbbfmmhimgcaaGreatDoor.is_same ⟨l.B, l.o + 0, none⟩ w) fun e w' ⟨he, hw⟩ => ?_⟩
      subst he; subst hw
      exact ⟨_, rfl, σ, own, rfl, Grow.refl _ _, hH⟩
  · rename_i b b'
    obtain ⟨x, xs, rfl, h1, y, ys, rfl, h2, h3⟩ := ha
    simp only [VRs] at h3
    subst h3
    obtain ⟨z1, rfl, l1, hl1, rfl⟩ := h1
    obtain ⟨z2, rfl, l2, hl2, rfl⟩ := h2
    cases hv : h.load1 b 0 with
    | none => rw [hv] at hf; exact absurd rfl hf
    | some v =>
      rw [hv] at hf
      simp only [onSome] at hf ⊢
      obtain ⟨vc, hc, hvr⟩ := hH.load1 hl1 hv
      split at hf
      · rename_i s off n sz
        cases hn : Nat.beq n 1 with
        | false => rw [hn] at hf; exact absurd rfl hf
        | true =>
          obtain rfl := Nat.eq_of_beq_eq_true hn
          rw [hn] at hf
          simp only [ifb] at hf ⊢
          obtain ⟨l3, hl3, rfl⟩ := hvr
          cases hu : h.load1 s off with
          | none => rw [hu] at hf; exact absurd rfl hf
          | some u =>
            rw [hu] at hf
            simp only at hf ⊢
            obtain ⟨uc, hd, hur⟩ := hH.load1 hl3 hu
            split at hf
            · rename_i c
              cases hb : c.eqb b' with
              | false => rw [hb] at hf; exact absurd rfl hf
              | true =>
                have := Pos.eqb_iff.1 hb
                subst this
                obtain ⟨z3, rfl, l4, hl4, rfl⟩ := hur
                have : l2 = l4 := by rw [hl2] at hl4; exact Option.some.inj hl4
                subst this
                refine .inl ⟨enters16, Calls.mono (YtadbbfmmhimgcaaGreatDoor.is_join ⟨l1.B, l1.o + 0, none⟩ ⟨l2.B, l2.o + 0, none⟩ _ _ w hc hd) fun e w' ⟨he, hw⟩ => ?_⟩
                subst he; subst hw
                exact ⟨_, rfl, σ, own, rfl, Grow.refl _ _, hH⟩
            · exact absurd rfl hf
      · exact absurd rfl hf
  · exact absurd rfl hf
end Go.Eng
namespace Go.Proofs
open Go.Shelf
def Tryz.laysJoin_ren : Go.Shelf.Ren := ⟨fun | 156 => 20 | 165 => 41 | 166 => 42 | 169 => 43 | 240 => 56 | 241 => 57 | 276 => 72 | 277 => 73 | n => n, fun | 31 => 31 | 9 => 9 | 3 => 3 | 4 => 4 | 0 => 0 | 20 => 20 | 72 => 86 | 76 => 88 | 70 => 83 | 37 => 84 | 75 => 58 | 127 => 115 | 164 => 136 | 5 => 5 | 80 => 90 | n => n, fun | n => n⟩
theorem Tryz.laysJoin : Go.Proofs.Lays.n156 Tryz.prog Tryz.laysJoin_ren := {
  mixed := by kernel_rfl
  f156 := Tryz.func20.trans (congrArg some (by kernel_rfl))
  f165 := Tryz.func41.trans (congrArg some (by kernel_rfl))
  f166 := Tryz.func42.trans (congrArg some (by kernel_rfl))
  f169 := Tryz.func43.trans (congrArg some (by kernel_rfl))
  f240 := Tryz.func56.trans (congrArg some (by kernel_rfl))
  f241 := Tryz.func57.trans (congrArg some (by kernel_rfl))
  f276 := Tryz.func72.trans (congrArg some (by kernel_rfl))
  f277 := Tryz.func73.trans (congrArg some (by kernel_rfl))
  t0 := Tryz.underlying0
  a0 := Tryz.isAgg0
  z0 := Tryz.sizeOf0
  v0 := Tryz.zeroValue0
  t3 := Tryz.underlying3
  a3 := Tryz.isAgg3
  z3 := Tryz.sizeOf3
  v3 := Tryz.zeroValue3
  t4 := Tryz.underlying4
  a4 := Tryz.isAgg4
  z4 := Tryz.sizeOf4
  v4 := Tryz.zeroValue4
  t9 := Tryz.underlying9
  a9 := Tryz.isAgg9
  z9 := Tryz.sizeOf9
  v9 := Tryz.zeroValue9
  t20 := Tryz.underlying20
  a20 := Tryz.isAgg20
  z20 := Tryz.sizeOf20
  v20 := Tryz.zeroValue20
  t31 := Tryz.underlying31
  a31 := Tryz.isAgg31
  z31 := Tryz.sizeOf31
  v31 := Tryz.zeroValue31
  t37 := Tryz.underlying84
  a37 := Tryz.isAgg84
  z37 := Tryz.sizeOf84
  v37 := Tryz.zeroValue84
  t70 := Tryz.underlying83
  a70 := Tryz.isAgg83
  z70 := Tryz.sizeOf83
  v70 := Tryz.zeroValue83
  t72 := Tryz.underlying86
  a72 := Tryz.isAgg86
  z72 := Tryz.sizeOf86
  v72 := Tryz.zeroValue86
  t75 := Tryz.underlying58
  a75 := Tryz.isAgg58
  z75 := Tryz.sizeOf58
  v75 := Tryz.zeroValue58
  t76 := Tryz.underlying88
  a76 := Tryz.isAgg88
  z76 := Tryz.sizeOf88
  v76 := Tryz.zeroValue88
  t127 := Tryz.underlying115
  a127 := Tryz.isAgg115
  z127 := Tryz.sizeOf115
  v127 := Tryz.zeroValue115
  t164 := Tryz.underlying136
  a164 := Tryz.isAgg136
  z164 := Tryz.sizeOf136
  v164 := Tryz.zeroValue136 }
open Go.RowKit
theorem Tryz.joinExtra : Builder.Extra Tryz.prog Tryz.laysJoin_ren := {
  sizeBuilder := by kernel_rfl
  liesBuilder := by kernel_rfl
  t5 := by kernel_rfl
  a5 := fun w => by kernel_rfl
  z5 := fun w => by kernel_rfl
  v5 := fun w => by kernel_rfl
  infoByte := by kernel_rfl
  cellsByte := by kernel_rfl
  sizeByte := by kernel_rfl
  neB5 := by decide }
theorem Tryz.join20 : Tryz.laysJoin_ren.f 156 = 20 := by kernel_rfl
end Go.Proofs
set_option linter.unusedVariables false
namespace Go.Eng
open Go.RowKit Go.Proofs
theorem enters20 : Enters Tryz.prog 20 := by
  have hb : ∃ c, Tryz.f20.body = some c := Option.isSome_iff_exists.1 (by kernel_rfl : Tryz.f20.body.isSome = true)
  obtain ⟨c, hc⟩ := hb
  have hn : ¬ Tryz.f20.name = "runtime.NumGoroutine" := by
    have : (Tryz.f20.name == "runtime.NumGoroutine") = false := by kernel_rfl
    intro e; rw [e] at this; simp at this
  intro args w
  simp [callFunc, Tryz.func20, hn, hc]
theorem joinI_ok {K : Ctx} {ng : Nat} : KnownOK Tryz.prog K ng 20 joinI := by
  intro σ own w h args cargs hg hH ha hf
  obtain ⟨cl⟩ := cargs
  simp only at ha
  unfold joinI at hf ⊢
  split at hf
  · rename_i x y
    obtain ⟨cx, xs, rfl, h1, cy, ys, rfl, h2, h3⟩ := ha
    simp only [VRs] at h3
    subst h3
    have key : ∀ r, (y.onStr (fun m sep => x.onSlice .fail (fun b off len sz => ifb (Nat.beq sz 1) (onSome (h.loadN b off len) (fun l => onSome (joinL m sep l) (fun r => ifb (Nat.ble (Nat.add r.1 len) 1048576) (.ok (.str r.1 r.2, h)) .fail) .fail) .fail) .fail) .fail) .fail : Out (AV × AHeap)) = r → r ≠ .fail →
        ComesTo Tryz.prog 20 #[cx, cy] w (Back K σ h r) := by
      intro r hr hnf
      cases y with
      | str m sep =>
        obtain ⟨rfl, hs⟩ := h2
        cases x with
        | slice b off len sz =>
          obtain ⟨loc, hl, rfl⟩ := h1
          have hr : ifb (Nat.beq sz 1) (onSome (h.loadN b off len) (fun l => onSome (joinL m sep l) (fun r => ifb (Nat.ble (Nat.add r.1 len) 1048576) (Out.ok (AV.str r.1 r.2, h)) .fail) .fail) .fail) .fail = r := hr
          cases hsz : Nat.beq sz 1 with
          | false => rw [hsz] at hr; exact absurd hr.symm hnf
          | true =>
            have := Nat.eq_of_beq_eq_true hsz
            subst this
            rw [hsz] at hr
            cases hld : h.loadN b off len with
            | none => rw [hld] at hr; exact absurd hr.symm hnf
            | some l =>
              rw [hld] at hr
              have hr : onSome (joinL m sep l) (fun r => ifb (Nat.ble (Nat.add r.1 len) 1048576) (Out.ok (AV.str r.1 r.2, h)) .fail) .fail = r := hr
              cases hj : joinL m sep l with
              | none => rw [hj] at hr; exact absurd hr.symm hnf
              | some nd =>
                obtain ⟨n, d⟩ := nd
                rw [hj] at hr
                have hr : ifb (Nat.ble (Nat.add n len) 1048576) (Out.ok (AV.str n d, h)) .fail = r := hr
                cases hle : Nat.ble (Nat.add n len) 1048576 with
                | false => rw [hle] at hr; exact absurd hr.symm hnf
                | true =>
                  rw [hle] at hr
                  subst hr
                  have hle' : n + len ≤ 1048576 := Nat.le_of_ble_eq_true hle
                  obtain ⟨vs, v1, v2, v3⟩ := hH.loadN hl hld
                  obtain ⟨bs, rfl, e2, e3⟩ := joinL_ok hs l vs n d v2 hj
                  have hbl : bs.length = len := by simpa using v1
                  have hlenj : (Lib.join (bs.map (·.data.toList)) (bytesOf m sep).data.toList).length = n := by
                    show (Lib.join (bs.map (·.data.toList)) (unp m sep)).length = n
                    rw [← e3, unp_length]
                  have hcells : ∀ (j : Nat) x, bs[j]? = some x → w.cell? ⟨loc.B, loc.o + off + j, none⟩ = some (.string x) := fun j x hx => by
                    have := v3 j (.string x) (by rw [List.getElem?_map, hx]; rfl)
                    rw [add_none] at this; exact this
                  obtain ⟨g, ro, r, hg', hcut⟩ := onRow_some hld
                  have R := hH.row hl hg'
                  have hO := hH.obj b loc hl
                  rw [hg'] at hO
                  obtain ⟨p1, p2, p3⟩ := Row.cut_spec R.wf hcut
                  have hcap : bs.length ≤ (loc.C - off) / 1 := by
                    have := R.cap
                    rw [hbl, Nat.div_one]
                    rcases p2 with p2 | p2 <;> omega
                  have hbig : bs.length ≤ 140737488355328 := by omega
                  have hJ := Any.strings_Join Tryz.laysJoin Tryz.joinExtra loc.B (loc.o + off) ((loc.C - off) / 1) bs (bytesOf m sep) w hcells hO.2.1 hbig hcap (by rw [hlenj]; omega)
                  rw [Tryz.join20, hbl] at hJ
                  refine .inl ⟨enters20, Calls.mono hJ fun e w' ⟨he, hw⟩ => ?_⟩
                  subst he
                  refine ⟨_, rfl, σ, own, ⟨?_, e2⟩, Grow.refl _ _, hH.grownWorld hw⟩
                  have : Lib.join (bs.map (·.data.toList)) (bytesOf m sep).data.toList = unp n d := e3.symm
                  rw [this]
                  rfl
        | _ => exact absurd hr.symm hnf
      | _ => exact absurd hr.symm hnf
    exact key _ rfl hf
  · exact absurd rfl hf
end Go.Eng
set_option linter.unusedVariables false
set_option maxRecDepth 100000
namespace Go.Eng
open Go.Proofs
noncomputable def I1 : Nat → Option Known := fun f => ifb (Nat.beq f 20) (some joinI) (ifb (Nat.beq f 16) (some isI) none)
noncomputable def fl1 : List (Nat × Func) := [(13, Tryz.f13), (9, Tryz.f9), (17, Tryz.f17), (18, Tryz.f18), (19, Tryz.f19), (27, Tryz.f27), (28, Tryz.f28), (14, Tryz.f14), (8, Tryz.f8), (59, Tryz.f59), (60, Tryz.f60), (6, Tryz.f6), (5, Tryz.f5), (26, Tryz.f26), (29, Tryz.f29), (30, Tryz.f30), (31, Tryz.f31), (32, Tryz.f32), (33, Tryz.f33), (34, Tryz.f34), (35, Tryz.f35), (36, Tryz.f36), (37, Tryz.f37), (38, Tryz.f38), (39, Tryz.f39), (40, Tryz.f40), (41, Tryz.f41), (42, Tryz.f42), (43, Tryz.f43), (45, Tryz.f45), (46, Tryz.f46), (47, Tryz.f47), (48, Tryz.f48), (49, Tryz.f49), (50, Tryz.f50), (51, Tryz.f51), (52, Tryz.f52), (53, Tryz.f53), (54, Tryz.f54), (55, Tryz.f55), (56, Tryz.f56), (57, Tryz.f57), (58, Tryz.f58), (61, Tryz.f61), (62, Tryz.f62), (63, Tryz.f63), (64, Tryz.f64), (65, Tryz.f65), (66, Tryz.f66), (67, Tryz.f67), (68, Tryz.f68), (69, Tryz.f69), (70, Tryz.f70), (71, Tryz.f71), (74, Tryz.f74), (75, Tryz.f75), (76, Tryz.f76), (77, Tryz.f77), (78, Tryz.f78), (80, Tryz.f80), (81, Tryz.f81), (82, Tryz.f82), (83, Tryz.f83), (84, Tryz.f84), (85, Tryz.f85), (86, Tryz.f86), (87, Tryz.f87), (88, Tryz.f88), (89, Tryz.f89), (90, Tryz.f90), (91, Tryz.f91), (93, Tryz.f93), (94, Tryz.f94), (95, Tryz.f95)]
theorem fl1_ok : ∀ p ∈ fl1, Tryz.prog.funcs[p.1]? = some p.2 := by
  simp only [fl1, List.forall_mem_cons]
  exact ⟨Tryz.func13, Tryz.func9, Tryz.func17, Tryz.func18, Tryz.func19, Tryz.func27, Tryz.func28, Tryz.func14, Tryz.func8, Tryz.func59, Tryz.func60, Tryz.func6, Tryz.func5, Tryz.func26, Tryz.func29, Tryz.func30, Tryz.func31, Tryz.func32, Tryz.func33, Tryz.func34, Tryz.func35, Tryz.func36, Tryz.func37, Tryz.func38, Tryz.func39, Tryz.func40, Tryz.func41, Tryz.func42, Tryz.func43, Tryz.func45, Tryz.func46, Tryz.func47, Tryz.func48, Tryz.func49, Tryz.func50, Tryz.func51, Tryz.func52, Tryz.func53, Tryz.func54, Tryz.func55, Tryz.func56, Tryz.func57, Tryz.func58, Tryz.func61, Tryz.func62, Tryz.func63, Tryz.func64, Tryz.func65, Tryz.func66, Tryz.func67, Tryz.func68, Tryz.func69, Tryz.func70, Tryz.func71, Tryz.func74, Tryz.func75, Tryz.func76, Tryz.func77, Tryz.func78, Tryz.func80, Tryz.func81, Tryz.func82, Tryz.func83, Tryz.func84, Tryz.func85, Tryz.func86, Tryz.func87, Tryz.func88, Tryz.func89, Tryz.func90, Tryz.func91, Tryz.func93, Tryz.func94, Tryz.func95, fun p hp => by cases hp⟩
noncomputable def F1 (l : List (Nat × Nat × Nat)) : Nat → Option AFun := funs 7 cstA T1 ⟨[], modO 5 3 l⟩ fl1
theorem mix1 : Tryz.prog.follows .mixedOrders = true := by kernel_rfl
theorem pok1 {w : World} {ns : Nat → Nat} {l : List (Nat × Nat × Nat)} (hns : ∀ j, ns j < 256) (hl : ∀ p ∈ l, p.1 % 2 = 1 ∧ p.2.1 ≠ 0 ∧ ns (p.1 / 2) % p.2.1 = p.2.2) : POK Tryz.prog (ctxM w ns) ⟨[], modO 5 3 l⟩ :=
  ⟨fun t ht => (by cases ht), modO_ok Tryz.underlying5 Tryz.underlying3 hns hl⟩
theorem call1 {w : World} {ns : Nat → Nat} {l : List (Nat × Nat × Nat)} (hns : ∀ j, ns j < 256) (hl : ∀ p ∈ l, p.1 % 2 = 1 ∧ p.2.1 ≠ 0 ∧ ns (p.1 / 2) % p.2.1 = p.2.2) (m : Nat) : CallOK Tryz.prog (ctxM w ns) 7 (callG I1 (F1 l) 1000 m) :=
  callG_ok (fun f g h => by
    unfold I1 at h
    cases h1 : Nat.beq f 20 with
    | true => rw [h1] at h; cases h; rw [Nat.eq_of_beq_eq_true h1]; exact joinI_ok
    | false =>
      rw [h1] at h
      cases h2 : Nat.beq f 16 with
      | true => rw [h2] at h; cases h; rw [Nat.eq_of_beq_eq_true h2]; exact isI_ok
      | false => rw [h2] at h; cases h) (funs_ok cst_ok T1_ok (pok1 hns hl) mix1 fl1_ok) 1000 m
end Go.Eng
set_option linter.unusedVariables false
set_option maxRecDepth 100000
namespace Go.Eng
open Go.RowKit Go.Proofs
/-- where the globals lie, and the error's text -/
noncomputable def loc1 (B o : Nat) : Nat → Option Loc := fun i => if i < 7 then some ⟨i, 0, 1⟩ else if i = 11 then some ⟨B, o, 1⟩ else none
noncomputable def h1 : AHeap := heapOf 12 [(0, .lst 1 [.iface 224 (.ptr (posOf 11) 0)])]
theorem loc1_globs (B o : Nat) : Globs 7 (envOf (loc1 B o)) := globs_of fun g hg => ⟨1, by simp [loc1, hg]⟩
theorem h1_ok {K : Ctx} {w : World} {B o : Nat} (hb : K.base = w.heap.size) (hw : K.w0 = w) (h0 : w.cell? ⟨0, 0, none⟩ = some (.iface 224 (.pointer (some ⟨B, o, none⟩)))) :
    HR K (envOf (loc1 B o)) (fun _ => none) h1 w := by
  refine HR.of_rows hb hw (fun i hi => ?_) fun p hp l hl => ?_
  · have h1 : ¬ i < 7 := by omega
    have h2 : ¬ i = 11 := by omega
    simp [loc1, h1, h2]
  · rw [List.mem_singleton] at hp
    subst hp
    have hl : some (⟨0, 0, 1⟩ : Loc) = some l := hl
    cases hl
    refine ⟨⟨rfl, Nat.le_refl _, fun i hi => ⟨_, by obtain rfl : i = 0 := Nat.lt_one_iff.1 hi
                                                    exact h0⟩, fun i x hx => ?_⟩, ?_, fun e => by cases e⟩
    · have : i < 1 := Row.get_lt (r := .lst 1 [.iface 224 (.ptr (posOf 11) 0)]) rfl hx
      obtain rfl : i = 0 := by omega
      cases hx
      exact ⟨_, h0, _, rfl, ⟨B, o, 1⟩, by rw [envOf_posOf]; rfl, rfl⟩
    · rcases Nat.lt_or_ge 0 w.heap.size with h | h
      · exact h
      · have : w.heap[0]? = none := Array.getElem?_eq_none h
        simp [World.cell?, this] at h0
theorem enters8 : Enters Tryz.prog 8 := enters_of Tryz.func8 (by kernel_rfl) (by kernel_rfl)
theorem run8 : isTrueO (callG I1 (F1 []) 1000 20 8 [] h1) = true := by kernel_rfl
/-- THE ANCHOR: works answers true, in any world in which the error lies. -/
theorem works_calls {w : World} {B o : Nat} (h0 : w.cell? ⟨0, 0, none⟩ = some (.iface 224 (.pointer (some ⟨B, o, none⟩)))) :
    Calls Tryz.prog 8 #[] w fun e w' => e = .returned (.bool true) ∧ Below w.heap.size w w' :=
  run_true (call1 (w := w) (ns := fun _ => 0) (fun _ => by decide) (fun _ h => by cases h) 20) enters8 rfl rfl (loc1_globs B o) (h1_ok rfl rfl h0) VRs.nil run8
noncomputable def worksI : Known := fun args h =>
  match args with
  | [] => onSome (h.load1 (posOf 0) 0) (fun v => match v with | .iface t (.ptr b k) => ifb (Nat.beq t 224) (.ok (.bool true, h)) .fail | _ => .fail) .fail
  | _ => .fail
theorem worksI_ok {K : Ctx} : KnownOK Tryz.prog K 7 8 worksI := by
  intro σ own w h args cargs hg hH ha hf
  obtain ⟨cl⟩ := cargs
  simp only at ha
  unfold worksI at hf ⊢
  split at hf
  · simp only [VRs] at ha
    subst ha
    cases hl : h.load1 (posOf 0) 0 with
    | none => rw [hl] at hf; exact absurd rfl hf
    | some v =>
      rw [hl] at hf
      obtain ⟨C, hC⟩ := hg 0 (by decide)
      obtain ⟨vc, hc, hv⟩ := hH.load1 hC hl
      simp only [onSome] at hf ⊢
      split at hf
      · rename_i t b k
        cases ht : Nat.beq t 224 with
        | false => simp [ht, ifb] at hf
        | true =>
          have := Nat.eq_of_beq_eq_true ht
          subst this
          obtain ⟨y, rfl, l, hl', rfl⟩ := hv
          refine .inl ⟨fun args w => enters8 args w, (works_calls (B := l.B) (o := l.o + k) (by simpa using hc)).mono fun e w' ⟨he, hw⟩ => ?_⟩
          exact ⟨_, he, σ, own, rfl, Grow.refl _ _, hH.grownWorld hw⟩
      · exact absurd rfl hf
  · exact absurd rfl hf
noncomputable def I2 : Nat → Option Known := fun f => ifb (Nat.beq f 20) (some joinI) (ifb (Nat.beq f 16) (some isI) (ifb (Nat.beq f 8) (some worksI) none))
theorem call2 {w : World} {ns : Nat → Nat} {l : List (Nat × Nat × Nat)} (hns : ∀ j, ns j < 256) (hl : ∀ p ∈ l, p.1 % 2 = 1 ∧ p.2.1 ≠ 0 ∧ ns (p.1 / 2) % p.2.1 = p.2.2) (m : Nat) : CallOK Tryz.prog (ctxM w ns) 7 (callG I2 (F1 l) 1000 m) :=
  callG_ok (fun f g h => by
    unfold I2 at h
    cases h1 : Nat.beq f 20 with
    | true => rw [h1] at h; cases h; rw [Nat.eq_of_beq_eq_true h1]; exact joinI_ok
    | false =>
      rw [h1] at h
      cases h2 : Nat.beq f 16 with
      | true => rw [h2] at h; cases h; rw [Nat.eq_of_beq_eq_true h2]; exact isI_ok
      | false =>
        rw [h2] at h
        cases h3 : Nat.beq f 8 with
        | true => rw [h3] at h; cases h; rw [Nat.eq_of_beq_eq_true h3]; exact worksI_ok
        | false => rw [h3] at h; cases h) (funs_ok cst_ok T1_ok (pok1 hns hl) mix1 fl1_ok) 1000 m
end Go.Eng
namespace Go.Eng
noncomputable def longB (r : Nat) : Bool := isTrueO (callG I2 (F1 [(1, 100, r)]) 1000 200 6 [.opq 0] h1)
noncomputable def refB (a d : Nat) (b : Bool) : Bool := isTrueO (callG I2 (F1 [(1, 10, a), (3, 6, d)]) 1000 200 5 [.opq 0, .opq 2, .bool b] h1)
noncomputable def refR (a : Nat) : Bool := (List.range' 0 6).all fun d => refB a d true && refB a d false
end Go.Eng
