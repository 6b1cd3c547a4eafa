/- Proved: for every o the law ShadowNil answers true, and o reads afterwards as before; the package variables that the row lists hold at the start what the program lays in them (tied). -/
import Derived.Test.YtaamiedjgfopiaaGreatDoorShB
import Derived.Test.YtaamiedjgfopiaaGreatDoorCards
import Derived.Test.YtaamiedjgfopiaaGreatDoorTie
import Derived.ProofKit
import Derived.OpenShut
import Derived.LaidMore
import Derived.Lay
import Derived.SevenTiedAt
import Derived.Stop.Joined
import Derived.Carry
import Derived.ChangeArms
import Derived.ChangeSlices
set_option linter.unusedVariables false
set_option maxRecDepth 100000
namespace Go.Proofs.YtaamiedjgfopiaaGreatDoor
open Go.ChangeShapes Go.WideShapes Go.ChangeAt Go.RowKit Go.Eng
theorem own : ownKnob Tryz.prog.godebug = none := by kernel_rfl
theorem laidOut : laidOutB Tryz.prog = true := by kernel_rfl
/-- what is left of a call that makes blocks of its own alone -/
theorem post_below {H : Type} {enc : TypeId × Value → H} {P : Program} {f : Func} {s : ChangeSpec} {apart fresh handsOn : Bool} {W W' : World} {args : Array Value} {v : Value} {ds gs : List (DataW H)} {before pa pv : List MemPlace}
    (hW : DataW.Whole enc P f.params.toList s.vars apart W args.toList ds gs before)
    (hres : ∀ (b : Nat) (sp : Nat → Bool) (hd : Bool), DataW.TrodAll enc P W' b sp hd f.resultTypes.toList (v.resultList f.resultTypes.size) (s.fn H (ds ++ gs)).results [])
    (hargs : DataW.TrodAll enc P W' 0 (fun b => decide (b < W.heap.size)) true f.params.toList args.toList (s.fn H (ds ++ gs)).args pa)
    (hvars : DataW.TrodVars enc P W' (fun b => decide (b < W.heap.size)) s.vars (s.fn H (ds ++ gs)).vars pv)
    (hb : Below W.heap.size W W') : s.post enc P f apart fresh handsOn false W args v W' :=
  ⟨ds, gs, before, [], pa, pv, hW, hres _ _ _, hargs, hvars, hb.frame _, fun h => by cases h⟩
theorem cells22 : Tryz.prog.cellsOf 22 = 1 := by kernel_rfl
theorem cells36 : Tryz.prog.cellsOf 36 = 1 := by kernel_rfl
theorem cells41 : Tryz.prog.cellsOf 41 = 5 := by kernel_rfl
/-- WHAT o IS MADE OF. -/
theorem open_op {H : Type} {enc : TypeId × Value → H} {W : World} {cs : Array Value} {d : DataW H} {p : List MemPlace} (h : DataW.Trod enc Tryz.prog W 0 (fun _ => true) true 41 (.agg cs) d p) :
    ∃ (k pg tn : Int) (a a' : Option Addr) (n c n' c' : Nat), cs = #[.int .i64 k, .int .i64 pg, .slice a n c, .slice a' n' c', .int .i64 tn] ∧ (a = none → n = 0) ∧ ∀ q, a = some q → ∀ j, j < n → ∃ x : Int, W.cell? (q.add j) = some (.int .u8 x) := by
  obtain ⟨fuel, h⟩ := h
  obtain ⟨xs, m, rfl, _, hl, hx, hf⟩ := DataW.trod_struct Tryz.underlying41 h
  have hx5 : xs.length = 5 := hx
  rw [cells41] at hl
  obtain ⟨l⟩ := cs
  have hl : l.length = 5 := hl
  match l, hl with
  | [v0, v1, v2, v3, v4], _ =>
    have g : ∀ i, i < 5 → ∃ y, xs[i]? = some y := fun i hi => ⟨xs[i], List.getElem?_eq_getElem (by omega)⟩
    have e0 := hf 0 _ rfl
    have e1 := hf 1 _ rfl
    have e2 := hf 2 _ rfl
    have e3 := hf 3 _ rfl
    have e4 := hf 4 _ rfl
    obtain ⟨y0, z0⟩ := g 0 (by omega)
    obtain ⟨y1, z1⟩ := g 1 (by omega)
    obtain ⟨y2, z2⟩ := g 2 (by omega)
    obtain ⟨y3, z3⟩ := g 3 (by omega)
    obtain ⟨y4, z4⟩ := g 4 (by omega)
    rw [z0] at e0
    rw [z1] at e1
    rw [z2] at e2
    rw [z3] at e3
    rw [z4] at e4
    have e0 : DataW.trod enc Tryz.prog W 0 (fun _ => true) true m 3 ((List.drop 0 [v0, v1, v2, v3, v4]).take (Tryz.prog.cellsOf 3)) = some y0 := e0
    rw [cells3] at e0
    have e1 : DataW.trod enc Tryz.prog W 0 (fun _ => true) true m 3 ((List.drop 1 [v0, v1, v2, v3, v4]).take (Tryz.prog.cellsOf 3)) = some y1 := e1
    rw [cells3] at e1
    have e2 : DataW.trod enc Tryz.prog W 0 (fun _ => true) true m 22 ((List.drop 2 [v0, v1, v2, v3, v4]).take (Tryz.prog.cellsOf 22)) = some y2 := e2
    rw [cells22] at e2
    have e3 : DataW.trod enc Tryz.prog W 0 (fun _ => true) true m 36 ((List.drop 3 [v0, v1, v2, v3, v4]).take (Tryz.prog.cellsOf 36)) = some y3 := e3
    rw [cells36] at e3
    have e4 : DataW.trod enc Tryz.prog W 0 (fun _ => true) true m 3 ((List.drop 4 [v0, v1, v2, v3, v4]).take (Tryz.prog.cellsOf 3)) = some y4 := e4
    rw [cells3] at e4
    obtain ⟨k, q0, _⟩ := DataW.trod_int Tryz.underlying3 e0
    obtain ⟨pg, q1, _⟩ := DataW.trod_int Tryz.underlying3 e1
    obtain ⟨tn, q4, _⟩ := DataW.trod_int Tryz.underlying3 e4
    have q0 : [v0] = [Value.int .i64 k] := q0
    have q1 : [v1] = [Value.int .i64 pg] := q1
    have q4 : [v4] = [Value.int .i64 tn] := q4
    cases q0; cases q1; cases q4
    have k3 : ∃ a' n' c', v3 = .slice a' n' c' := by
      rcases Go.ChangeShapes.open_ints Tryz.underlying36 Tryz.underlying3 cells3 e3 with ⟨q3, _⟩ | ⟨a', n', c', zs, q3, _⟩
      · have q3 : [v3] = [Value.slice none 0 0] := q3
        cases q3
        exact ⟨_, _, _, rfl⟩
      · have q3 : [v3] = [Value.slice (some a') n' c'] := q3
        cases q3
        exact ⟨_, _, _, rfl⟩
    obtain ⟨a', n', c', rfl⟩ := k3
    rcases Go.ChangeShapes.open_ints Tryz.underlying22 Tryz.underlying5 cells5 e2 with ⟨q2, _⟩ | ⟨a, n, c, zs, q2, _, hnc, _, hz, _, hcell, _⟩
    · have q2 : [v2] = [Value.slice none 0 0] := q2
      cases q2
      exact ⟨k, pg, tn, none, a', 0, 0, n', c', rfl, fun _ => rfl, fun q hq => by cases hq⟩
    · have q2 : [v2] = [Value.slice (some a) n c] := q2
      cases q2
      refine ⟨k, pg, tn, some a, a', n, c, n', c', rfl, (fun hq => by cases hq), fun q hq j hj => ?_⟩
      cases hq
      exact ⟨_, hcell j (by rw [hz]; simp; omega)⟩
def opqS (k pg tn : Int) (a a' : Option Addr) (n c n' c' : Nat) : Nat → Value
  | 0 => .int .i64 k
  | 1 => .int .i64 pg
  | 2 => .slice a n c
  | 3 => .slice a' n' c'
  | 4 => .int .i64 tn
  | 5 => .int .i64 (.ofNat n)
  | 6 => .int .i64 (.ofNat n')
  | _ => .nilIface
theorem opqS_scal (k pg tn : Int) (a a' : Option Addr) (n c n' c' : Nat) : ∀ i, (opqS k pg tn a a' n c n' c' i).cells = #[opqS k pg tn a a' n c n' c' i] ∧ ∀ x, opqS k pg tn a a' n c n' c' i ≠ .tuple x
  | 0 | 1 | 2 | 3 | 4 | 5 | 6 | _ + 7 => ⟨rfl, fun x h => by cases h⟩
noncomputable def ctxS (w : World) (k pg tn : Int) (a a' : Option Addr) (n c n' c' : Nat) : Ctx :=
  ⟨w.heap.size, w, opqS k pg tn a a' n c n' c', fun i => (opqS_scal k pg tn a a' n c n' c' i).1, fun i => (opqS_scal k pg tn a a' n c n' c' i).2, codesOf Tryz.prog, fun _ => ([], 0)⟩
theorem enters4 : Enters Tryz.prog 4 := enters_of Tryz.func4 (by kernel_rfl) (by kernel_rfl)
theorem shadowNil_calls {W : World} {k pg tn : Int} {a a' : Option Addr} {n c n' c' : Nat} (ha : a = none → n = 0) (hb : ∀ q, a = some q → ∀ j, j < n → ∃ x : Int, W.cell? (q.add j) = some (.int .u8 x)) :
    Calls Tryz.prog 4 #[.agg #[.int .i64 k, .int .i64 pg, .slice a n c, .slice a' n' c', .int .i64 tn]] W fun e w' => e = .returned (.bool true) ∧ Below W.heap.size W w' := by
  have kn : ∀ v1 v2 kk g l, v1 = decide (1024 < n) → v2 = decide (200 < n') → (kk = true → (k < 0 ∨ 5 < k) ∧ g = decide (0 ≤ k) ∧ l = decide (k ≤ 5)) → Known4 (ctxS W k pg tn a a' n c n' c') v1 v2 kk g l := fun v1 v2 kk g l h1 h2 h3 =>
    ⟨⟨a, n, c, rfl, rfl, h1⟩, ⟨a', n', c', rfl, rfl, h2⟩, fun h => ⟨k, rfl, (h3 h).1, (h3 h).2.1, (h3 h).2.2⟩⟩
  have hx : VRs (ctxS W k pg tn a a' n c n' c') (envOf fun i => if i < 2 then some ⟨i, 0, 1⟩ else none) (oA (.opq 0)) [.agg #[.int .i64 k, .int .i64 pg, .slice a n c, .slice a' n' c', .int .i64 tn]] :=
    VRs.cons ⟨_, rfl, _, _, rfl, rfl, _, _, rfl, rfl, _, _, rfl, rfl, _, _, rfl, rfl, _, _, rfl, rfl, rfl⟩ VRs.nil
  have hy : ∀ i : Nat, k = i → VRs (ctxS W k pg tn a a' n c n' c') (envOf fun i => if i < 2 then some ⟨i, 0, 1⟩ else none) (oA (.int .i64 (.ofNat i))) [.agg #[.int .i64 k, .int .i64 pg, .slice a n c, .slice a' n' c', .int .i64 tn]] := fun i hi =>
    VRs.cons ⟨_, rfl, _, _, rfl, by subst hi; rfl, _, _, rfl, rfl, _, _, rfl, rfl, _, _, rfl, rfl, _, _, rfl, rfl, rfl⟩ VRs.nil
  have fin : ∀ {call : Caller} {args : List AV}, CallOK Tryz.prog (ctxS W k pg tn a a' n c n' c') 2 call → VRs (ctxS W k pg tn a a' n c n' c') (envOf fun i => if i < 2 then some ⟨i, 0, 1⟩ else none) args [.agg #[.int .i64 k, .int .i64 pg, .slice a n c, .slice a' n' c', .int .i64 tn]] → isTrueO (call 4 args h0) = true →
      Calls Tryz.prog 4 #[.agg #[.int .i64 k, .int .i64 pg, .slice a n c, .slice a' n' c', .int .i64 tn]] W fun e w' => e = .returned (.bool true) ∧ Below W.heap.size W w' := fun hc hv hr =>
    run_true (K := ctxS W k pg tn a a' n c n' c') hc enters4 (by decide) rfl rfl (globs_of fun g hg => ⟨1, by simp [hg]⟩) (h0_ok rfl rfl) hv hr
  by_cases h1 : 1024 < n
  · by_cases h2 : 200 < n'
    · exact fin (call5 (kn true true false false false (by simp [h1]) (by simp [h2]) (fun h => by cases h)) rfl) hx r4a'
    · exact fin (call5 (kn true false false false false (by simp [h1]) (by simp [h2]) (fun h => by cases h)) rfl) hx r4a
  · by_cases h2 : 200 < n'
    · exact fin (call5 (kn false true false false false (by simp [h1]) (by simp [h2]) (fun h => by cases h)) rfl) hx r4b
    · have K0 := kn false false false false false (by simp [h1]) (by simp [h2]) (fun h => by cases h)
      have B0 : Bytes4 (ctxS W k pg tn a a' n c n' c') := ⟨rfl, a, n, c, rfl, by omega, ha, hb, fun q hq h0 => by
        obtain ⟨x, hx⟩ := hb q hq 0 h0
        rcases Nat.lt_or_ge q.block W.heap.size with h | h
        · exact h
        · have e : W.heap[q.block]? = none := Array.getElem?_eq_none h
          have hq : (q.add 0).block = q.block := by unfold Addr.add; split <;> rfl
          simp [World.cell?, hq, e] at hx⟩
      rcases Int.lt_trichotomy k 0 with h | h | h
      · exact fin (call5 (kn false false true false true (by simp [h1]) (by simp [h2]) (fun _ => ⟨.inl h, by simp; omega, by simp; omega⟩)) rfl) hx r4lo
      · exact fin (call5 K0 rfl) (hy 0 h) r4k0
      · by_cases h5 : 5 < k
        · exact fin (call5 (kn false false true true false (by simp [h1]) (by simp [h2]) (fun _ => ⟨.inr h5, by simp; omega, by simp; omega⟩)) rfl) hx r4hi
        · have : k = 1 ∨ k = 2 ∨ k = 3 ∨ k = 4 ∨ k = 5 := by omega
          rcases this with h | h | h | h | h
          · exact fin (call6 K0 B0 rfl) (hy 1 h) r4k1
          · exact fin (call5 K0 rfl) (hy 2 h) r4k2
          · exact fin (call6 K0 B0 rfl) (hy 3 h) r4k3
          · exact fin (call5 K0 rfl) (hy 4 h) r4k4
          · exact fin (call5 K0 rfl) (hy 5 h) r4k5
/-- a world in which the listed variables are as they are told -/
noncomputable def wit (os : Os) : World := World.laidAll Tryz.prog os Rows.shadowNilRow.laid
theorem wit_os (os : Os) : (wit os).os = os := World.laidAll_os _ _ _
theorem laid_met (os : Os) (args : Array Value) : laidMetH Tryz.prog Rows.shadowNilRow.laid ((wit os).forCall (fun _ _ => 0) ⟨#[], args, []⟩).memory := by
  rw [MakeChecks.laidMetH_plain _ _ _ (by kernel_rfl)]
  have h : laidMet Tryz.prog Rows.shadowNilRow.laid (wit os) := laidMet_of_run' 8 (by kernel_rfl) (by kernel_rfl)
  exact h.of_heap (by simp [World.memory, World.forCall, Input.heap])
theorem shadowNil_lifted (os : Os) (started : os.Started) (H : Type) (enc : TypeId × Value → H) :
    ReturnsInHanded {} Tryz.checked os 4 .any (fun w args => (Rows.shadowNilSpec.pre enc Tryz.prog Tryz.f4 Rows.shadowNilRow.domain false w args ∧ laidMetH Tryz.prog Rows.shadowNilRow.laid w) ∧ sizedMet enc Tryz.prog Tryz.f4 (OpenSpec.ofChange Rows.shadowNilSpec) false w args)
      (Rows.shadowNilSpec.post enc Tryz.prog Tryz.f4 false true false false) := by
  refine returnsInHanded_of_change_and (C := Tryz.checked) (X := fun w _ => laidMetH Tryz.prog Rows.shadowNilRow.laid w) (fun _ _ _ hh h => h.of_heap hh) own started (by kernel_rfl) Tryz.func4
    (ChangeSpec.witness_shaped (enc := enc) (C := Tryz.checked) (os := os) (X := fun w _ => laidMetH Tryz.prog Rows.shadowNilRow.laid w) false (wit os) #[.agg #[.int .i64 0, .int .i64 0, .slice none 0 0, .slice none 0 0, .int .i64 0]] 8 (wit_os os)
      (World.shaped_of_ZipB (by kernel_rfl) (by kernel_rfl)) (by kernel_rfl) (by kernel_rfl) (by kernel_rfl) (laid_met os _)) ?_
  intro W base args ds gs before hval0 hW hc _ hL _
  have hval : ∀ (j : Nat) t v, Tryz.f4.params[j]? = some t → args[j]? = some v → Value.okWide Tryz.prog W .any base t v := hval0
  have hW' := hW
  obtain ⟨p, q, hA0, hV, rfl, _, _⟩ := hW
  have hA : DataW.TrodAll enc Tryz.prog W 0 (fun _ => true) true Tryz.f4.params.toList args.toList ds p := hA0
  rw [Tryz.params4] at hA hval
  obtain ⟨v0, vs0, d0, ds0, p0, q0, hargs, rfl, rfl, h0, r0⟩ := trodAll_cons hA
  obtain ⟨rfl, rfl, rfl⟩ := trodAll_nil r0
  obtain rfl : args = #[v0] := by cases args; simp_all
  obtain ⟨cs, rfl, _⟩ := okWide_struct Tryz.underlying41 (hval 0 41 v0 rfl rfl)
  obtain ⟨k, pg, tn, a, a', n, c, n', c', rfl, ha, hb4⟩ := open_op h0
  obtain ⟨rfl, rfl⟩ := trodVars_none hV
  simp only [List.append_nil] at hW'
  have hlt : ∀ x ∈ p0, x.block < W.heap.size := fun x hx => by simpa using hW'.lt x (by simpa using hx)
  refine (shadowNil_calls ha hb4).mono fun e W' ⟨he, hb⟩ => ?_
  subst he
  exact ⟨_, rfl, post_below (pv := []) hW' (fun _ _ _ => trodAll_mk1 (shut_bool Tryz.underlying4 _)) (trodAll_mk1 (Below.trod laidOut (by kernel_rfl) (of_decide_eq_true (by kernel_rfl)) h0 hb hlt)) rfl hb⟩
theorem shadowNil_row : Rows.ShadowNilSaid :=
  OpenClaim.holds_of_wide 4 Tryz.f4 rfl rfl rfl rfl rfl rfl rfl ⟨rfl, rfl, rfl, rfl, rfl⟩ rfl rfl rfl rfl rfl (by kernel_rfl) Tryz.func4 (by kernel_rfl)
    (of_decide_eq_true (by kernel_rfl)) (by unfold Func.isWrapper; first | (rw [if_pos (by decide +kernel)]; kernel_rfl) | (rw [if_neg (by decide +kernel)]; exact ⟨rfl, rfl⟩))
    (fun os started H enc _ => shadowNil_lifted os started H enc)
/-- THE CARD. -/
theorem shadowNil_holds : Rows.ShadowNilCardSaid :=
  Claim7.holds_tied_plain_at .later [] _ _ _ _ shadowNil_row (fun _ h => by cases h) (by kernel_rfl) (fun _ h => by cases h) shadowNil_row_tie rfl ⟨rfl, rfl⟩ (by kernel_rfl) rfl
    (fun f fn hf hfn => by
      obtain rfl : f = 4 := Option.some.inj ((show Tryz.prog.funcNamed "aumbry/aumbrylaw08.ShadowNil" = some 4 by kernel_rfl).symm.trans hf) |>.symm
      obtain rfl : fn = Tryz.f4 := (Option.some.inj (Tryz.func4.symm.trans hfn)).symm
      exact ⟨by kernel_rfl, fun j t ht => by
        rw [Tryz.params4] at ht
        have hm : t ∈ [41] := by simpa using Array.mem_of_getElem? ht
        have hall : ([41].all fun u => !Tryz.prog.wantsStandIn u) = true := by kernel_rfl
        exact (show Tryz.prog.wantsStandIn t = false by simpa using List.all_eq_true.1 hall t hm)⟩)
    (by kernel_rfl)
end Go.Proofs.YtaamiedjgfopiaaGreatDoor
