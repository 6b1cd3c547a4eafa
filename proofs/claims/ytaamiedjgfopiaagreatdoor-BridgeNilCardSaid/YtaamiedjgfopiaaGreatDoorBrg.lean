/- Proved: for every handle the law BridgeNil answers true, and handle reads afterwards as before; the package variables that the row lists hold at the start what the program lays in them (tied). -/
import Derived.Test.YtaamiedjgfopiaaGreatDoorBrB
import Derived.Test.YtaamiedjgfopiaaGreatDoorCards
import Derived.Test.YtaamiedjgfopiaaGreatDoorTie
import Derived.ProofKit
import Derived.OpenShut
import Derived.LaidMore
import Derived.Lay
import Derived.SevenTiedAt
import Derived.Stop.Joined
import Derived.Carry
set_option linter.unusedVariables false
set_option maxRecDepth 100000
namespace Go.Proofs.YtaamiedjgfopiaaGreatDoor
open Go.ChangeShapes Go.WideShapes Go.ChangeAt Go.RowKit Go.Eng
theorem own : ownKnob Tryz.prog.godebug = none := by kernel_rfl
theorem laidOut : laidOutB Tryz.prog = true := by kernel_rfl
/-- what is left of a call that makes blocks of its own alone -/
theorem post_below {H : Type} {enc : TypeId × Value → H} {P : Program} {f : Func} {s : ChangeSpec} {apart fresh handsOn : Bool} {W W' : World} {args : Array Value} {v : Value} {ds gs : List (DataW H)} {before pa pv : List MemPlace}
    (hW : DataW.Whole enc P f.params.toList s.vars apart W args.toList ds gs before)
    (hres : ∀ (b : Nat) (sp : Nat → Bool) (hd : Bool), DataW.TrodAll enc P W' b sp hd f.resultTypes.toList (v.resultList f.resultTypes.size) (s.fn H (ds ++ gs)).results [])
    (hargs : DataW.TrodAll enc P W' 0 (fun b => decide (b < W.heap.size)) true f.params.toList args.toList (s.fn H (ds ++ gs)).args pa)
    (hvars : DataW.TrodVars enc P W' (fun b => decide (b < W.heap.size)) s.vars (s.fn H (ds ++ gs)).vars pv)
    (hb : Below W.heap.size W W') : s.post enc P f apart fresh handsOn false W args v W' :=
  ⟨ds, gs, before, [], pa, pv, hW, hres _ _ _, hargs, hvars, hb.frame _, fun h => by cases h⟩
noncomputable def ctxN (w : World) (n : Int) : Ctx := ⟨w.heap.size, w, fun _ => .int .i64 n, fun _ => rfl, (fun _ _ h => by cases h), codesOf Tryz.prog, fun _ => ([], 0)⟩
theorem enters7 : Enters Tryz.prog 7 := enters_of Tryz.func7 (by kernel_rfl) (by kernel_rfl)
theorem bridgeNil_calls {W : World} (n : Int) : Calls Tryz.prog 7 #[.int .i64 n] W fun e w' => e = .returned (.bool true) ∧ Below W.heap.size W w' :=
  run_true (K := ctxN W n) (call7 rfl) enters7 (by decide) rfl rfl (globs_of fun g hg => ⟨1, by simp [hg]⟩) (h0_ok rfl rfl) (VRs.cons (x := .opq 0) rfl VRs.nil) run7
/-- a world in which the listed variables are as they are told -/
noncomputable def wit (os : Os) : World := World.laidAll Tryz.prog os Rows.bridgeNilRow.laid
theorem wit_os (os : Os) : (wit os).os = os := World.laidAll_os _ _ _
theorem laid_met (os : Os) (args : Array Value) : laidMetH Tryz.prog Rows.bridgeNilRow.laid ((wit os).forCall (fun _ _ => 0) ⟨#[], args, []⟩).memory := by
  rw [MakeChecks.laidMetH_plain _ _ _ (by kernel_rfl)]
  have h : laidMet Tryz.prog Rows.bridgeNilRow.laid (wit os) := laidMet_of_run' 8 (by kernel_rfl) (by kernel_rfl)
  exact h.of_heap (by simp [World.memory, World.forCall, Input.heap])
theorem bridgeNil_lifted (os : Os) (started : os.Started) (H : Type) (enc : TypeId × Value → H) :
    ReturnsInHanded {} Tryz.checked os 7 .any (fun w args => (Rows.bridgeNilSpec.pre enc Tryz.prog Tryz.f7 Rows.bridgeNilRow.domain false w args ∧ laidMetH Tryz.prog Rows.bridgeNilRow.laid w) ∧ sizedMet enc Tryz.prog Tryz.f7 (OpenSpec.ofChange Rows.bridgeNilSpec) false w args)
      (Rows.bridgeNilSpec.post enc Tryz.prog Tryz.f7 false true false false) := by
  refine returnsInHanded_of_change_and (C := Tryz.checked) (X := fun w _ => laidMetH Tryz.prog Rows.bridgeNilRow.laid w) (fun _ _ _ hh h => h.of_heap hh) own started (by kernel_rfl) Tryz.func7
    (ChangeSpec.witness_shaped (enc := enc) (C := Tryz.checked) (os := os) (X := fun w _ => laidMetH Tryz.prog Rows.bridgeNilRow.laid w) false (wit os) #[.int .i64 0] 8 (wit_os os)
      (World.shaped_of_ZipB (by kernel_rfl) (by kernel_rfl)) (by kernel_rfl) (by kernel_rfl) (by kernel_rfl) (laid_met os _)) ?_
  intro W base args ds gs before hval0 hW hc _ hL _
  have hval : ∀ (j : Nat) t v, Tryz.f7.params[j]? = some t → args[j]? = some v → Value.okWide Tryz.prog W .any base t v := hval0
  have hW' := hW
  obtain ⟨p, q, hA0, hV, rfl, _, _⟩ := hW
  have hA : DataW.TrodAll enc Tryz.prog W 0 (fun _ => true) true Tryz.f7.params.toList args.toList ds p := hA0
  rw [Tryz.params7] at hA hval
  obtain ⟨v0, vs0, d0, ds0, p0, q0, hargs, rfl, rfl, h0, r0⟩ := trodAll_cons hA
  obtain ⟨rfl, rfl, rfl⟩ := trodAll_nil r0
  obtain rfl : args = #[v0] := by cases args; simp_all
  obtain ⟨x, rfl, rfl, rfl, wx⟩ := open_int Tryz.underlying3 (hval 0 3 v0 rfl rfl) h0
  obtain ⟨rfl, rfl⟩ := trodVars_none hV
  simp only [List.append_nil] at hW'
  refine (bridgeNil_calls x).mono fun e W' ⟨he, hb⟩ => ?_
  subst he
  exact ⟨_, rfl, post_below (pa := []) (pv := []) hW' (fun _ _ _ => trodAll_mk1 (shut_bool Tryz.underlying4 _)) (trodAll_cons_mk (shut_int Tryz.underlying3 wx) trodAll_mk0) rfl hb⟩
/-- the row's closed facts, of parts -/
theorem joinedFacts_of {P : Program} {f : FuncId} {fn : Func} {s : ChangeSpec} {c : OpenClaim}
    (h1 : (c.wf (OpenSpec.ofChange s) && laidOutB P && mapsRowed P && fn.params.all (P.readableRec ·) && namedTie P c.named s.vars && (c.stops == []) && (P.stops == []) && (c.knobs == []) && (P.stopKnobs == [])) = true)
    (h2 : (c.inPlace == P.inPlace f) = true) (h3 : (c.unfollowed == P.unfollowed f) = true) (h4 : (c.recurses == P.recurses f) = true) (h5 : (c.named == P.varsNamed f) = true)
    (h6 : ((c.maps == (fn.params.toList ++ s.plain.varTypes P).any (P.mapsRec ·)) && (c.ifaces == (fn.params.toList ++ s.plain.varTypes P).any (P.ifacesRec ·)) && (c.mapsOut == P.mapsAmong fn.resultTypes.toList) &&
  (c.loops == (fn.params.toList ++ s.plain.varTypes P).any (P.loopsFrom ·)) && (c.wideKeys == (fn.params.toList ++ s.plain.varTypes P ++ fn.resultTypes.toList).any (P.wideKeysFrom ·)) &&
  s.vars.all (P.varReadable ·) && fn.resultTypes.all (fun t => P.readableRec t && decide (t < P.types.size)) && (c.ifacesOut == fn.resultTypes.toList.any (P.ifacesRec ·)) && (c.loopsOut == fn.resultTypes.toList.any (P.loopsFrom ·))) = true)
    (h7 : ((c.plainKeys == P.plainKeys) && c.shortTexts.isNone && P.stopsHeard && P.mayEnter) = true) (h8 : (c.lifted == P.liftsFinal) = true) (h9 : (P.make == some c.make) = true)
    (h10 : ((c.kinds == (if c.domain.isEmpty then [] else fn.params.toList.map fun t => match P.underlying t with | some (.int k) => some k | _ => none)) && (c.pinned == c.pinnedBy) &&
  (c.veiled == (fn.params.toList ++ s.plain.varTypes P ++ fn.resultTypes.toList).any (P.veiledRec ·)) && c.veiledFits P fn.params.toList (fn.params.toList ++ s.plain.varTypes P ++ fn.resultTypes.toList)) = true) : joinedFacts P f fn s c = true := by
  rw [Bool.and_eq_true] at h7 h10
  obtain ⟨h7, b4⟩ := h7
  rw [Bool.and_eq_true] at h7
  obtain ⟨h7, b3⟩ := h7
  rw [Bool.and_eq_true] at h7
  obtain ⟨b1, b2⟩ := h7
  obtain ⟨h10, c4⟩ := h10
  rw [Bool.and_eq_true] at h10
  obtain ⟨h10, c3⟩ := h10
  rw [Bool.and_eq_true] at h10
  obtain ⟨c1, c2⟩ := h10
  rw [Bool.and_eq_true] at h6
  obtain ⟨h6, a9⟩ := h6
  rw [Bool.and_eq_true] at h6
  obtain ⟨h6, a8⟩ := h6
  rw [Bool.and_eq_true] at h6
  obtain ⟨h6, a7⟩ := h6
  rw [Bool.and_eq_true] at h6
  obtain ⟨h6, a6⟩ := h6
  rw [Bool.and_eq_true] at h6
  obtain ⟨h6, a5⟩ := h6
  rw [Bool.and_eq_true] at h6
  obtain ⟨h6, a4⟩ := h6
  rw [Bool.and_eq_true] at h6
  obtain ⟨h6, a3⟩ := h6
  rw [Bool.and_eq_true] at h6
  obtain ⟨a1, a2⟩ := h6
  have A := fun {x y : Bool} (hx : x = true) (hy : y = true) => (Bool.and_eq_true x y ▸ ⟨hx, hy⟩ : (x && y) = true)
  exact A (A (A (A (A (A (A (A (A (A (A (A (A (A (A (A (A (A (A (A (A (A (A h1 h2) h3) h4) h5) a1) a2) a3) a4) a5) a6) a7) a8) a9) b1) b2) b3) b4) h8) h9) c1) c2) c3) c4
theorem bn1 : (Rows.bridgeNilRow.wf (OpenSpec.ofChange Rows.bridgeNilSpec) && laidOutB Tryz.prog && mapsRowed Tryz.prog && Tryz.f7.params.all (Tryz.prog.readableRec ·) && namedTie Tryz.prog Rows.bridgeNilRow.named Rows.bridgeNilSpec.vars && (Rows.bridgeNilRow.stops == []) && (Tryz.prog.stops == []) && (Rows.bridgeNilRow.knobs == []) && (Tryz.prog.stopKnobs == [])) = true := by kernel_rfl
theorem bn2 : (Rows.bridgeNilRow.inPlace == Tryz.prog.inPlace 7) = true := by kernel_rfl
theorem bn3 : (Rows.bridgeNilRow.unfollowed == Tryz.prog.unfollowed 7) = true := by kernel_rfl
theorem bn4 : (Rows.bridgeNilRow.recurses == Tryz.prog.recurses 7) = true := by kernel_rfl
theorem bn5 : (Rows.bridgeNilRow.named == Tryz.prog.varsNamed 7) = true := by kernel_rfl
theorem bn7 : ((Rows.bridgeNilRow.plainKeys == Tryz.prog.plainKeys) && Rows.bridgeNilRow.shortTexts.isNone && Tryz.prog.stopsHeard && Tryz.prog.mayEnter) = true := by kernel_rfl
theorem bn8 : (Rows.bridgeNilRow.lifted == Tryz.prog.liftsFinal) = true := by kernel_rfl
theorem bn9 : (Tryz.prog.make == some Rows.bridgeNilRow.make) = true := by kernel_rfl
theorem bn_facts : joinedFacts Tryz.checked.prog 7 Tryz.f7 Rows.bridgeNilSpec Rows.bridgeNilRow = true := joinedFacts_of bn1 bn2 bn3 bn4 bn5 (by kernel_rfl) bn7 bn8 bn9 (by kernel_rfl)
theorem bn_goes : false = Rows.bridgeNilRow.goesBy Tryz.prog := by kernel_rfl
theorem bridgeNil_row : Rows.BridgeNilSaid :=
  OpenClaim.holds_of_wide 7 Tryz.f7 rfl rfl rfl rfl rfl rfl rfl ⟨rfl, rfl, rfl, rfl, rfl⟩ rfl rfl rfl rfl rfl (by kernel_rfl) Tryz.func7 bn_facts
    (of_decide_eq_true (by kernel_rfl)) (by unfold Func.isWrapper; first | (rw [if_pos (by decide +kernel)]; kernel_rfl) | (rw [if_neg (by decide +kernel)]; exact ⟨rfl, rfl⟩))
    (fun os started H enc _ => bridgeNil_lifted os started H enc)
/-- THE CARD. -/
theorem bridgeNil_holds : Rows.BridgeNilCardSaid :=
  Claim7.holds_tied_plain_at .later [] _ _ _ _ bridgeNil_row (fun _ h => by cases h) (by kernel_rfl) (fun _ h => by cases h) bridgeNil_row_tie rfl ⟨rfl, rfl⟩ (by kernel_rfl) rfl
    (fun f fn hf hfn => by
      obtain rfl : f = 7 := Option.some.inj ((show Tryz.prog.funcNamed "aumbry/aumbrylaw26.BridgeNil" = some 7 by kernel_rfl).symm.trans hf) |>.symm
      obtain rfl : fn = Tryz.f7 := (Option.some.inj (Tryz.func7.symm.trans hfn)).symm
      exact ⟨by kernel_rfl, fun j t ht => by
        rw [Tryz.params7] at ht
        have hm : t ∈ [3] := by simpa using Array.mem_of_getElem? ht
        have hall : ([3].all fun u => !Tryz.prog.wantsStandIn u) = true := by kernel_rfl
        exact (show Tryz.prog.wantsStandIn t = false by simpa using List.all_eq_true.1 hall t hm)⟩)
    bn_goes
end Go.Proofs.YtaamiedjgfopiaaGreatDoor
