/- Functions that sort keys of maps: each order of a map is run. No conditions of its own. -/
import Derived.Test.YtaamiedjgfopiaaGreatDoorWalk
set_option linter.unusedVariables false
set_option maxRecDepth 1000000
namespace Go.Eng
open Go.RowKit Go.Proofs
/-- sorted maps' keys: every order is run, and what is sorted is brought together -/
noncomputable def nd4 : Nat → Bool := fun f => memN f [89, 253, 246, 50, 116, 195, 304, 118, 234, 170, 232]
noncomputable def J4 : Nat → Bool := fun f => memN f [89, 253, 246, 50, 170]
noncomputable def F4 : Nat → Option AFun := funs 2 cstA T3 po3 nd4 fl3
theorem funs4 {K : Ctx} (hK : K.codes = codesOf Tryz.prog) : ∀ f fn, F4 f = some fn → FunOK Tryz.prog K 2 f fn := funs_ok cst_ok T3_ok pok3 mix3 hK fl3_ok
noncomputable def c4 : Caller := detC (callG I3 (fun _ => none) F4 J4 2000 100 noY)
theorem call4 {K : Ctx} (hK : K.codes = codesOf Tryz.prog) : CallOK Tryz.prog K 2 c4 := callG1_ok (lookK_ok kn3_ok) (fun f g h => by cases h) (funs4 hK) 2000 100
end Go.Eng
