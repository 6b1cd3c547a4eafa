/- Proved: for any units and any pins the law CollectNil answers true, and both read afterwards as before; the package variables that the row lists hold at the start what the program lays in them (tied). -/
import Derived.Test.YtaamiedjgfopiaaGreatDoorCoB
import Derived.Test.YtaamiedjgfopiaaGreatDoorCards
import Derived.Test.YtaamiedjgfopiaaGreatDoorTie
import Derived.ProofKit
import Derived.OpenShut
import Derived.LaidMore
import Derived.Lay
import Derived.SevenTiedAt
import Derived.Stop.Joined
import Derived.Carry
set_option linter.unusedVariables false
set_option maxRecDepth 100000
namespace Go.Proofs.YtaamiedjgfopiaaGreatDoor
open Go.ChangeShapes Go.WideShapes Go.ChangeAt Go.RowKit Go.Eng
theorem own : ownKnob Tryz.prog.godebug = none := by kernel_rfl
theorem laidOut : laidOutB Tryz.prog = true := by kernel_rfl
/-- what is left of a call that makes blocks of its own alone -/
theorem post_below {H : Type} {enc : TypeId × Value → H} {P : Program} {f : Func} {s : ChangeSpec} {apart fresh handsOn : Bool} {W W' : World} {args : Array Value} {v : Value} {ds gs : List (DataW H)} {before pa pv : List MemPlace}
    (hW : DataW.Whole enc P f.params.toList s.vars apart W args.toList ds gs before)
    (hres : ∀ (b : Nat) (sp : Nat → Bool) (hd : Bool), DataW.TrodAll enc P W' b sp hd f.resultTypes.toList (v.resultList f.resultTypes.size) (s.fn H (ds ++ gs)).results [])
    (hargs : DataW.TrodAll enc P W' 0 (fun b => decide (b < W.heap.size)) true f.params.toList args.toList (s.fn H (ds ++ gs)).args pa)
    (hvars : DataW.TrodVars enc P W' (fun b => decide (b < W.heap.size)) s.vars (s.fn H (ds ++ gs)).vars pv)
    (hb : Below W.heap.size W W') : s.post enc P f apart fresh handsOn false W args v W' :=
  ⟨ds, gs, before, [], pa, pv, hW, hres _ _ _, hargs, hvars, hb.frame _, fun h => by cases h⟩
def opqC (u : Int) (a : Option Addr) (n c : Nat) : Nat → Value
  | 0 => .int .i64 u
  | 1 => .slice a n c
  | 2 => .int .i64 (.ofNat n)
  | _ => .nilIface
theorem opqC_scal (u : Int) (a : Option Addr) (n c : Nat) : ∀ i, (opqC u a n c i).cells = #[opqC u a n c i] ∧ ∀ x, opqC u a n c i ≠ .tuple x
  | 0 | 1 | 2 | _ + 3 => ⟨rfl, fun x h => by cases h⟩
noncomputable def ctxC (w : World) (u : Int) (a : Option Addr) (n c : Nat) : Ctx :=
  ⟨w.heap.size, w, opqC u a n c, fun i => (opqC_scal u a n c i).1, fun i => (opqC_scal u a n c i).2, codesOf Tryz.prog, fun _ => ([], 0)⟩
theorem enters6 : Enters Tryz.prog 6 := Go.Eng.enters_of Tryz.func6 (by kernel_rfl) (by kernel_rfl)
theorem collectNil_calls {W : World} (u : Int) (a : Option Addr) (n c : Nat) : Calls Tryz.prog 6 #[.int .i64 u, .slice a n c] W fun e w' => e = .returned (.bool true) ∧ Below W.heap.size W w' := by
  have hx : VRs (ctxC W u a n c) (envOf fun i => if i < 2 then some ⟨i, 0, 1⟩ else none) [.opq 0, .opq 1] [.int .i64 u, .slice a n c] := VRs.cons (x := .opq 0) rfl (VRs.cons (x := .opq 1) rfl VRs.nil)
  by_cases h : 1024 < n
  · exact run_true (K := ctxC W u a n c) (callL (v := true) ⟨a, n, c, rfl, rfl, by simp [h]⟩ rfl) enters6 (by decide) rfl rfl (globs_of fun g hg => ⟨1, by simp [hg]⟩) (h0_ok rfl rfl) hx run6a
  · exact run_true (K := ctxC W u a n c) (callL (v := false) ⟨a, n, c, rfl, rfl, by simp [h]⟩ rfl) enters6 (by decide) rfl rfl (globs_of fun g hg => ⟨1, by simp [hg]⟩) (h0_ok rfl rfl) hx run6b
/-- a world in which the listed variables are as they are told -/
noncomputable def wit (os : Os) : World := World.laidAll Tryz.prog os Rows.collectNilRow.laid
theorem wit_os (os : Os) : (wit os).os = os := World.laidAll_os _ _ _
theorem laid_met (os : Os) (args : Array Value) : laidMetH Tryz.prog Rows.collectNilRow.laid ((wit os).forCall (fun _ _ => 0) ⟨#[], args, []⟩).memory := by
  rw [MakeChecks.laidMetH_plain _ _ _ (by kernel_rfl)]
  have h : laidMet Tryz.prog Rows.collectNilRow.laid (wit os) := laidMet_of_run' 8 (by kernel_rfl) (by kernel_rfl)
  exact h.of_heap (by simp [World.memory, World.forCall, Input.heap])
theorem collectNil_lifted (os : Os) (started : os.Started) (H : Type) (enc : TypeId × Value → H) :
    ReturnsInHanded {} Tryz.checked os 6 .any (fun w args => (Rows.collectNilSpec.pre enc Tryz.prog Tryz.f6 Rows.collectNilRow.domain false w args ∧ laidMetH Tryz.prog Rows.collectNilRow.laid w) ∧ sizedMet enc Tryz.prog Tryz.f6 (OpenSpec.ofChange Rows.collectNilSpec) false w args)
      (Rows.collectNilSpec.post enc Tryz.prog Tryz.f6 false true false false) := by
  refine returnsInHanded_of_change_and (C := Tryz.checked) (X := fun w _ => laidMetH Tryz.prog Rows.collectNilRow.laid w) (fun _ _ _ hh h => h.of_heap hh) own started (by kernel_rfl) Tryz.func6
    (ChangeSpec.witness_shaped (enc := enc) (C := Tryz.checked) (os := os) (X := fun w _ => laidMetH Tryz.prog Rows.collectNilRow.laid w) false (wit os) #[.int .i64 0, .slice none 0 0] 8 (wit_os os)
      (World.shaped_of_ZipB (by kernel_rfl) (by kernel_rfl)) (by kernel_rfl) (by kernel_rfl) (by kernel_rfl) (laid_met os _)) ?_
  intro W base args ds gs before hval0 hW hc _ hL _
  have hval : ∀ (j : Nat) t v, Tryz.f6.params[j]? = some t → args[j]? = some v → Value.okWide Tryz.prog W .any base t v := hval0
  have hW' := hW
  obtain ⟨p, q, hA0, hV, rfl, _, _⟩ := hW
  have hA : DataW.TrodAll enc Tryz.prog W 0 (fun _ => true) true Tryz.f6.params.toList args.toList ds p := hA0
  rw [Tryz.params6] at hA hval
  obtain ⟨v0, vs0, d0, ds0, p0, q0, hargs, rfl, rfl, h0, r0⟩ := trodAll_cons hA
  obtain ⟨v1, vs1, d1, ds1, p1, q1, rfl, rfl, rfl, h1, r1⟩ := trodAll_cons r0
  obtain ⟨rfl, rfl, rfl⟩ := trodAll_nil r1
  obtain rfl : args = #[v0, v1] := by cases args; simp_all
  obtain ⟨x, rfl, rfl, rfl, wx⟩ := open_int Tryz.underlying3 (hval 0 3 v0 rfl rfl) h0
  obtain ⟨a, n, c, rfl⟩ := okWide_slice Tryz.underlying36 (hval 1 36 v1 rfl rfl)
  obtain ⟨rfl, rfl⟩ := trodVars_none hV
  simp only [List.append_nil] at hW'
  have hlt : ∀ y ∈ p1, y.block < W.heap.size := fun y hy => by simpa using hW'.lt y (by simpa using hy)
  refine (collectNil_calls x a n c).mono fun e W' ⟨he, hb⟩ => ?_
  subst he
  exact ⟨_, rfl, post_below (pv := []) hW' (fun _ _ _ => trodAll_mk1 (shut_bool Tryz.underlying4 _)) (trodAll_cons_mk (shut_int Tryz.underlying3 wx) (trodAll_mk1 (Below.trod laidOut (by kernel_rfl) (of_decide_eq_true (by kernel_rfl)) h1 hb hlt))) rfl hb⟩
/-- the row's closed facts, of parts -/
theorem joinedFacts_of {P : Program} {f : FuncId} {fn : Func} {s : ChangeSpec} {c : OpenClaim}
    (h1 : (c.wf (OpenSpec.ofChange s) && laidOutB P && mapsRowed P && fn.params.all (P.readableRec ·) && namedTie P c.named s.vars && (c.stops == []) && (P.stops == []) && (c.knobs == []) && (P.stopKnobs == [])) = true)
    (h2 : (c.inPlace == P.inPlace f) = true) (h3 : (c.unfollowed == P.unfollowed f) = true) (h4 : (c.recurses == P.recurses f) = true) (h5 : (c.named == P.varsNamed f) = true)
    (h6 : ((c.maps == (fn.params.toList ++ s.plain.varTypes P).any (P.mapsRec ·)) && (c.ifaces == (fn.params.toList ++ s.plain.varTypes P).any (P.ifacesRec ·)) && (c.mapsOut == P.mapsAmong fn.resultTypes.toList) &&
  (c.loops == (fn.params.toList ++ s.plain.varTypes P).any (P.loopsFrom ·)) && (c.wideKeys == (fn.params.toList ++ s.plain.varTypes P ++ fn.resultTypes.toList).any (P.wideKeysFrom ·)) &&
  s.vars.all (P.varReadable ·) && fn.resultTypes.all (fun t => P.readableRec t && decide (t < P.types.size)) && (c.ifacesOut == fn.resultTypes.toList.any (P.ifacesRec ·)) && (c.loopsOut == fn.resultTypes.toList.any (P.loopsFrom ·))) = true)
    (h7 : ((c.plainKeys == P.plainKeys) && c.shortTexts.isNone && P.stopsHeard && P.mayEnter) = true) (h8 : (c.lifted == P.liftsFinal) = true) (h9 : (P.make == some c.make) = true)
    (h10 : ((c.kinds == (if c.domain.isEmpty then [] else fn.params.toList.map fun t => match P.underlying t with | some (.int k) => some k | _ => none)) && (c.pinned == c.pinnedBy) &&
  (c.veiled == (fn.params.toList ++ s.plain.varTypes P ++ fn.resultTypes.toList).any (P.veiledRec ·)) && c.veiledFits P fn.params.toList (fn.params.toList ++ s.plain.varTypes P ++ fn.resultTypes.toList)) = true) : joinedFacts P f fn s c = true := by
  rw [Bool.and_eq_true] at h7 h10
  obtain ⟨h7, b4⟩ := h7
  rw [Bool.and_eq_true] at h7
  obtain ⟨h7, b3⟩ := h7
  rw [Bool.and_eq_true] at h7
  obtain ⟨b1, b2⟩ := h7
  obtain ⟨h10, c4⟩ := h10
  rw [Bool.and_eq_true] at h10
  obtain ⟨h10, c3⟩ := h10
  rw [Bool.and_eq_true] at h10
  obtain ⟨c1, c2⟩ := h10
  rw [Bool.and_eq_true] at h6
  obtain ⟨h6, a9⟩ := h6
  rw [Bool.and_eq_true] at h6
  obtain ⟨h6, a8⟩ := h6
  rw [Bool.and_eq_true] at h6
  obtain ⟨h6, a7⟩ := h6
  rw [Bool.and_eq_true] at h6
  obtain ⟨h6, a6⟩ := h6
  rw [Bool.and_eq_true] at h6
  obtain ⟨h6, a5⟩ := h6
  rw [Bool.and_eq_true] at h6
  obtain ⟨h6, a4⟩ := h6
  rw [Bool.and_eq_true] at h6
  obtain ⟨h6, a3⟩ := h6
  rw [Bool.and_eq_true] at h6
  obtain ⟨a1, a2⟩ := h6
  have A := fun {x y : Bool} (hx : x = true) (hy : y = true) => (Bool.and_eq_true x y ▸ ⟨hx, hy⟩ : (x && y) = true)
  exact A (A (A (A (A (A (A (A (A (A (A (A (A (A (A (A (A (A (A (A (A (A (A h1 h2) h3) h4) h5) a1) a2) a3) a4) a5) a6) a7) a8) a9) b1) b2) b3) b4) h8) h9) c1) c2) c3) c4
theorem cn1 : (Rows.collectNilRow.wf (OpenSpec.ofChange Rows.collectNilSpec) && laidOutB Tryz.prog && mapsRowed Tryz.prog && Tryz.f6.params.all (Tryz.prog.readableRec ·) && namedTie Tryz.prog Rows.collectNilRow.named Rows.collectNilSpec.vars && (Rows.collectNilRow.stops == []) && (Tryz.prog.stops == []) && (Rows.collectNilRow.knobs == []) && (Tryz.prog.stopKnobs == [])) = true := by kernel_rfl
theorem cn2 : (Rows.collectNilRow.inPlace == Tryz.prog.inPlace 6) = true := by kernel_rfl
theorem cn3 : (Rows.collectNilRow.unfollowed == Tryz.prog.unfollowed 6) = true := by kernel_rfl
theorem cn4 : (Rows.collectNilRow.recurses == Tryz.prog.recurses 6) = true := by kernel_rfl
theorem cn5 : (Rows.collectNilRow.named == Tryz.prog.varsNamed 6) = true := by kernel_rfl
theorem cn7 : ((Rows.collectNilRow.plainKeys == Tryz.prog.plainKeys) && Rows.collectNilRow.shortTexts.isNone && Tryz.prog.stopsHeard && Tryz.prog.mayEnter) = true := by kernel_rfl
theorem cn8 : (Rows.collectNilRow.lifted == Tryz.prog.liftsFinal) = true := by kernel_rfl
theorem cn9 : (Tryz.prog.make == some Rows.collectNilRow.make) = true := by kernel_rfl
theorem cn_facts : joinedFacts Tryz.checked.prog 6 Tryz.f6 Rows.collectNilSpec Rows.collectNilRow = true := joinedFacts_of cn1 cn2 cn3 cn4 cn5 (by kernel_rfl) cn7 cn8 cn9 (by kernel_rfl)
theorem cn_goes : false = Rows.collectNilRow.goesBy Tryz.prog := by kernel_rfl
theorem collectNil_row : Rows.CollectNilSaid :=
  OpenClaim.holds_of_wide 6 Tryz.f6 rfl rfl rfl rfl rfl rfl rfl ⟨rfl, rfl, rfl, rfl, rfl⟩ rfl rfl rfl rfl rfl (by kernel_rfl) Tryz.func6 cn_facts
    (of_decide_eq_true (by kernel_rfl)) (by unfold Func.isWrapper; first | (rw [if_pos (by decide +kernel)]; kernel_rfl) | (rw [if_neg (by decide +kernel)]; exact ⟨rfl, rfl⟩))
    (fun os started H enc _ => collectNil_lifted os started H enc)
/-- THE CARD. -/
theorem collectNil_holds : Rows.CollectNilCardSaid :=
  Claim7.holds_tied_plain_at .later [] _ _ _ _ collectNil_row (fun _ h => by cases h) (by kernel_rfl) (fun _ h => by cases h) collectNil_row_tie rfl ⟨rfl, rfl⟩ (by kernel_rfl) rfl
    (fun f fn hf hfn => by
      obtain rfl : f = 6 := Option.some.inj ((show Tryz.prog.funcNamed "aumbry/aumbrylaw13.CollectNil" = some 6 by kernel_rfl).symm.trans hf) |>.symm
      obtain rfl : fn = Tryz.f6 := (Option.some.inj (Tryz.func6.symm.trans hfn)).symm
      exact ⟨by kernel_rfl, fun j t ht => by
        rw [Tryz.params6] at ht
        have hm : t ∈ [3, 36] := by simpa using Array.mem_of_getElem? ht
        have hall : ([3, 36].all fun u => !Tryz.prog.wantsStandIn u) = true := by kernel_rfl
        exact (show Tryz.prog.wantsStandIn t = false by simpa using List.all_eq_true.1 hall t hm)⟩)
    cn_goes
end Go.Proofs.YtaamiedjgfopiaaGreatDoor
