/- What the row's list gives, what is left of a call that makes blocks of its own alone, and a world that meets the list. -/
import Derived.Test.YtadbbfmmhimgcaaGreatDoorBase
import Derived.Test.YtadbbfmmhimgcaaGreatDoorCards
import Derived.Test.YtadbbfmmhimgcaaGreatDoorTie
import Derived.ProofKit
import Derived.OpenShut
import Derived.LaidMore
import Derived.Lay
import Derived.SevenTiedAt
import Derived.Stop.Joined
import Derived.Stop.LaidErr
set_option linter.unusedVariables false
namespace Go.Proofs.YtadbbfmmhimgcaaGreatDoor
open Go.ChangeShapes Go.WideShapes Go.ChangeAt Go.RowKit
theorem own : ownKnob Tryz.prog.godebug = none := by kernel_rfl
theorem gErr : Tryz.prog.globalNamed "aumbry/stamp.errType" = some 0 := by kernel_rfl
theorem gErrType : (Tryz.prog.globals[0]?).map (·.type) = some 58 := by kernel_rfl
theorem rowErr (u : TypeId) (h : Tryz.prog.typeName? 3 u = some "*errors.errorString") : u = 224 :=
  typeName_ptr_named (nm := "errors.errorString") (by kernel_rfl) (by kernel_rfl) (by decide) u h
theorem cells261 : Tryz.prog.cellsOf 261 = 1 := by kernel_rfl
theorem cells9 : Tryz.prog.cellsOf 9 = 1 := by kernel_rfl
/-- WHAT THE ROW's LIST GIVES: the error lies where it is to lie. -/
theorem err_cell {W : World} (h : laidMetH Tryz.prog Rows.stampLongRow.laid W) : ∃ B o, W.cell? ⟨0, 0, none⟩ = some (.iface 224 (.pointer (some ⟨B, o, none⟩))) := by
  rw [MakeChecks.laidMetH_plain _ _ _ (by kernel_rfl)] at h
  obtain ⟨a, s, hv, hc, _, _⟩ := laid_sentinel h.tail.tail.tail.tail gErr gErrType Tryz.underlying58 rowErr Tryz.underlying224 Tryz.underlying261 rfl rfl Tryz.underlying9 cells261 cells9
  obtain ⟨B, o, sp⟩ := a
  have hsp : sp = none := by
    cases sp with
    | none => rfl
    | some k => unfold World.cell? at hc; split at hc <;> simp at hc
  subst hsp
  exact ⟨B, o, by simpa using World.var?_cell gErr hv 0⟩
/-- what is left of a call that makes blocks of its own alone -/
theorem post_below {H : Type} {enc : TypeId × Value → H} {P : Program} {f : Func} {s : ChangeSpec} {apart fresh handsOn : Bool} {W W' : World} {args : Array Value} {v : Value} {ds gs : List (DataW H)} {before pa pv : List MemPlace}
    (hW : DataW.Whole enc P f.params.toList s.vars apart W args.toList ds gs before)
    (hres : ∀ (b : Nat) (sp : Nat → Bool) (hd : Bool), DataW.TrodAll enc P W' b sp hd f.resultTypes.toList (v.resultList f.resultTypes.size) (s.fn H (ds ++ gs)).results [])
    (hargs : ∀ sp : Nat → Bool, (∀ p ∈ before, sp p.block = true) → DataW.TrodAll enc P W' 0 sp true f.params.toList args.toList (s.fn H (ds ++ gs)).args pa)
    (hvars : ∀ sp : Nat → Bool, (∀ p ∈ before, sp p.block = true) → DataW.TrodVars enc P W' sp s.vars (s.fn H (ds ++ gs)).vars pv)
    (hb : Below W.heap.size W W') : s.post enc P f apart fresh handsOn false W args v W' := by
  have hold : ∀ p ∈ before, (fun b => decide (b < W.heap.size)) p.block = true := fun p hp => by simpa using hW.lt p hp
  exact ⟨ds, gs, before, [], pa, pv, hW, hres _ _ _, hargs _ hold, hvars _ hold, hb.frame _, fun h => by cases h⟩
theorem laid_met (os : Os) (args : Array Value) : laidMetH Tryz.prog Rows.stampLongRow.laid ((World.laidAll Tryz.prog os Rows.stampLongRow.laid).forCall (fun _ _ => 0) ⟨#[], args, []⟩).memory := by
  rw [MakeChecks.laidMetH_plain _ _ _ (by kernel_rfl)]
  exact laidMet_laidAll _ (by kernel_rfl) (by kernel_rfl)
end Go.Proofs.YtadbbfmmhimgcaaGreatDoor
