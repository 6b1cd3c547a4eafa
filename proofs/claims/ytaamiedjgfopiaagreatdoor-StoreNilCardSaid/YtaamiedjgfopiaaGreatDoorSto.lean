/- Proved: for any Op the law StoreNil answers true, and it reads afterwards as before; the package variables that the row lists hold at the start what the program lays in them (tied). -/
import Derived.Test.YtaamiedjgfopiaaGreatDoorStB
import Derived.Test.YtaamiedjgfopiaaGreatDoorCards
import Derived.Test.YtaamiedjgfopiaaGreatDoorTie
import Derived.ProofKit
import Derived.OpenShut
import Derived.LaidMore
import Derived.Lay
import Derived.SevenTiedAt
import Derived.Stop.Joined
import Derived.Carry
import Derived.ChangeArms
import Derived.ChangeSlices
import Derived.Deep.Slices
import Derived.SizedLaws
set_option linter.unusedVariables false
set_option maxRecDepth 100000
namespace Go.Proofs.YtaamiedjgfopiaaGreatDoor
open Go.ChangeShapes Go.WideShapes Go.ChangeAt Go.RowKit Go.Eng
theorem own : ownKnob Tryz.prog.godebug = none := by kernel_rfl
theorem laidOut : laidOutB Tryz.prog = true := by kernel_rfl
/-- what is left of a call that makes blocks of its own alone -/
theorem post_below {H : Type} {enc : TypeId × Value → H} {P : Program} {f : Func} {s : ChangeSpec} {apart fresh handsOn : Bool} {W W' : World} {args : Array Value} {v : Value} {ds gs : List (DataW H)} {before pa pv : List MemPlace}
    (hW : DataW.Whole enc P f.params.toList s.vars apart W args.toList ds gs before)
    (hres : ∀ (b : Nat) (sp : Nat → Bool) (hd : Bool), DataW.TrodAll enc P W' b sp hd f.resultTypes.toList (v.resultList f.resultTypes.size) (s.fn H (ds ++ gs)).results [])
    (hargs : DataW.TrodAll enc P W' 0 (fun b => decide (b < W.heap.size)) true f.params.toList args.toList (s.fn H (ds ++ gs)).args pa)
    (hvars : DataW.TrodVars enc P W' (fun b => decide (b < W.heap.size)) s.vars (s.fn H (ds ++ gs)).vars pv)
    (hb : Below W.heap.size W W') : s.post enc P f apart fresh handsOn false W args v W' :=
  ⟨ds, gs, before, [], pa, pv, hW, hres _ _ _, hargs, hvars, hb.frame _, fun h => by cases h⟩
theorem cells9 : Tryz.prog.cellsOf 9 = 1 := by kernel_rfl
theorem cells2 : Tryz.prog.cellsOf 2 = 1 := by kernel_rfl
theorem cells36 : Tryz.prog.cellsOf 36 = 1 := by kernel_rfl
theorem cells56 : Tryz.prog.cellsOf 56 = 1 := by kernel_rfl
theorem cells58 : Tryz.prog.cellsOf 58 = 4 := by kernel_rfl
theorem cells60 : Tryz.prog.cellsOf 60 = 10 := by kernel_rfl
theorem cells86 : Tryz.prog.cellsOf 86 = 2 := by kernel_rfl
theorem bytes3 : Tryz.prog.bytesOf 3 = 8 := by kernel_rfl
theorem maxLen_eq : maxLen = 9223372036854775807 := by decide
/-- a row of words that came in -/
theorem open_words {H : Type} {enc : TypeId × Value → H} {W : World} {m : Nat} {v : Value} {y : DataW H × List MemPlace} (h : DataW.trod enc Tryz.prog W 0 (fun _ => true) true m 56 [v] = some y) :
    ∃ a n c, v = .slice a n c ∧ n ≤ 9223372036854775807 ∧ Given W a n := by
  rcases Go.Deep.open_slice Tryz.underlying56 h with ⟨q, _⟩ | ⟨a, len, cap, m', n, D, Pl, q, _, hlc, hcm, hmm, _, hi⟩
  · have q : [v] = [Value.slice none 0 0] := q
    cases q
    exact ⟨none, 0, 0, rfl, by omega, (fun _ => rfl), fun p hp => by cases hp⟩
  · have q : [v] = [Value.slice (some a) len cap] := q
    cases q
    rw [maxLen_eq] at hcm
    refine ⟨some a, len, cap, rfl, by omega, (fun hp => by cases hp), fun p hp j hj => ?_⟩
    cases hp
    obtain ⟨cs, hc, ht⟩ := hi (j / 2) (by rw [hmm]; split <;> omega)
    rw [cells86] at hc
    obtain ⟨xs, n', _, _, hcl, hxl, hf⟩ := DataW.trod_struct Tryz.underlying86 ht
    obtain ⟨_, hlen, hat⟩ := World.cells?_some hc
    match cs, hlen with
    | [u0, u1], _ =>
      have hx : xs.length = 2 := hxl
      have e0 := hf 0 _ rfl
      have e1 := hf 1 _ rfl
      have z0 : xs[0]? = some xs[0] := List.getElem?_eq_getElem (by omega)
      have z1 : xs[1]? = some xs[1] := List.getElem?_eq_getElem (by omega)
      rw [z0] at e0
      rw [z1] at e1
      have e0 : DataW.trod enc Tryz.prog W 0 (fun _ => true) true n' 5 ((List.drop 0 [u0, u1]).take (Tryz.prog.cellsOf 5)) = some xs[0] := e0.symm ▸ rfl
      have e1 : DataW.trod enc Tryz.prog W 0 (fun _ => true) true n' 2 ((List.drop 1 [u0, u1]).take (Tryz.prog.cellsOf 2)) = some xs[1] := e1.symm ▸ rfl
      rw [cells5] at e0
      rw [cells2] at e1
      obtain ⟨k0, q0, _⟩ := DataW.trod_int Tryz.underlying5 e0
      obtain ⟨k1, q1, _⟩ := DataW.trod_int Tryz.underlying2 e1
      have q0 : [u0] = [Value.int .u8 k0] := q0
      have q1 : [u1] = [Value.int .i64 k1] := q1
      cases q0; cases q1
      have hjj : j % 2 = 0 ∨ j % 2 = 1 := by omega
      have hadd : (a.add (j / 2 * 2)).add (j % 2) = a.add j := by
        rw [Go.Deep.add_add]
        congr 1; omega
      have hat' := hat (j % 2) (by omega)
      rw [hadd] at hat'
      rw [hat']
      rcases hjj with e | e <;> rw [e]
      · exact ⟨_, rfl, rfl⟩
      · exact ⟨_, rfl, rfl⟩
/-- WHAT o IS MADE OF. -/
theorem open_op {H : Type} {enc : TypeId × Value → H} {W : World} {cs : Array Value} {d : DataW H} {p : List MemPlace} (h : DataW.Trod enc Tryz.prog W 0 (fun _ => true) true 60 (.agg cs) d p) (hw : ∀ m ∈ DataW.weights Tryz.prog 60 d, m ≤ reachBytes) :
    ∃ D : OpD, cs = ⟨D.cells⟩ ∧ OpOk W D := by
  obtain ⟨fuel, h⟩ := h
  obtain ⟨xs, m, rfl, hx, hl, hxl, hf⟩ := DataW.trod_struct Tryz.underlying60 h
  have hx7 : xs.length = 7 := hxl
  rw [cells60] at hl
  obtain ⟨l⟩ := cs
  have hl : l.length = 10 := hl
  match l, hl with
  | [v0, v1, v2, v3, v4, v5, v6, v7, v8, v9], _ =>
    have z0 : xs[0]? = some xs[0] := List.getElem?_eq_getElem (by omega)
    have e0 := hf 0 _ rfl
    rw [z0] at e0
    have e0 : DataW.trod enc Tryz.prog W 0 (fun _ => true) true m 3 ((List.drop 0 [v0, v1, v2, v3, v4, v5, v6, v7, v8, v9]).take (Tryz.prog.cellsOf 3)) = some xs[0] := e0
    rw [cells3] at e0
    have z1 : xs[1]? = some xs[1] := List.getElem?_eq_getElem (by omega)
    have e1 := hf 1 _ rfl
    rw [z1] at e1
    have e1 : DataW.trod enc Tryz.prog W 0 (fun _ => true) true m 3 ((List.drop 1 [v0, v1, v2, v3, v4, v5, v6, v7, v8, v9]).take (Tryz.prog.cellsOf 3)) = some xs[1] := e1
    rw [cells3] at e1
    have z2 : xs[2]? = some xs[2] := List.getElem?_eq_getElem (by omega)
    have e2 := hf 2 _ rfl
    rw [z2] at e2
    have e2 : DataW.trod enc Tryz.prog W 0 (fun _ => true) true m 3 ((List.drop 2 [v0, v1, v2, v3, v4, v5, v6, v7, v8, v9]).take (Tryz.prog.cellsOf 3)) = some xs[2] := e2
    rw [cells3] at e2
    have z3 : xs[3]? = some xs[3] := List.getElem?_eq_getElem (by omega)
    have e3 := hf 3 _ rfl
    rw [z3] at e3
    have e3 : DataW.trod enc Tryz.prog W 0 (fun _ => true) true m 58 ((List.drop 3 [v0, v1, v2, v3, v4, v5, v6, v7, v8, v9]).take (Tryz.prog.cellsOf 58)) = some xs[3] := e3
    rw [cells58] at e3
    have z4 : xs[4]? = some xs[4] := List.getElem?_eq_getElem (by omega)
    have e4 := hf 4 _ rfl
    rw [z4] at e4
    have e4 : DataW.trod enc Tryz.prog W 0 (fun _ => true) true m 9 ((List.drop 7 [v0, v1, v2, v3, v4, v5, v6, v7, v8, v9]).take (Tryz.prog.cellsOf 9)) = some xs[4] := e4
    rw [cells9] at e4
    have z5 : xs[5]? = some xs[5] := List.getElem?_eq_getElem (by omega)
    have e5 := hf 5 _ rfl
    rw [z5] at e5
    have e5 : DataW.trod enc Tryz.prog W 0 (fun _ => true) true m 9 ((List.drop 8 [v0, v1, v2, v3, v4, v5, v6, v7, v8, v9]).take (Tryz.prog.cellsOf 9)) = some xs[5] := e5
    rw [cells9] at e5
    have z6 : xs[6]? = some xs[6] := List.getElem?_eq_getElem (by omega)
    have e6 := hf 6 _ rfl
    rw [z6] at e6
    have e6 : DataW.trod enc Tryz.prog W 0 (fun _ => true) true m 36 ((List.drop 9 [v0, v1, v2, v3, v4, v5, v6, v7, v8, v9]).take (Tryz.prog.cellsOf 36)) = some xs[6] := e6
    rw [cells36] at e6
    obtain ⟨k, q0, _⟩ := DataW.trod_int Tryz.underlying3 e0
    obtain ⟨oid, q1, _⟩ := DataW.trod_int Tryz.underlying3 e1
    obtain ⟨torn, q2, _⟩ := DataW.trod_int Tryz.underlying3 e2
    obtain ⟨nm, q4, _, w4⟩ := DataW.trod_string Tryz.underlying9 e4
    obtain ⟨st, q5, _, w5⟩ := DataW.trod_string Tryz.underlying9 e5
    have q0 : [v0] = [Value.int .i64 k] := q0
    have q1 : [v1] = [Value.int .i64 oid] := q1
    have q2 : [v2] = [Value.int .i64 torn] := q2
    have q4 : [v7] = [Value.string nm] := q4
    have q5 : [v8] = [Value.string st] := q5
    cases q0; cases q1; cases q2; cases q4; cases q5
    rw [maxLen_eq] at w4 w5
    have e3 : DataW.trod enc Tryz.prog W 0 (fun _ => true) true m 58 [v3, v4, v5, v6] = some xs[3] := e3
    obtain ⟨ys, m2, _, _, _, hyl, hg⟩ := DataW.trod_struct Tryz.underlying58 e3
    have hy4 : ys.length = 4 := hyl
    have y0 : ys[0]? = some ys[0] := List.getElem?_eq_getElem (by omega)
    have g0 := hg 0 _ rfl
    rw [y0] at g0
    have g0 : DataW.trod enc Tryz.prog W 0 (fun _ => true) true m2 5 ((List.drop 0 [v3, v4, v5, v6]).take (Tryz.prog.cellsOf 5)) = some ys[0] := g0
    rw [cells5] at g0
    have y1 : ys[1]? = some ys[1] := List.getElem?_eq_getElem (by omega)
    have g1 := hg 1 _ rfl
    rw [y1] at g1
    have g1 : DataW.trod enc Tryz.prog W 0 (fun _ => true) true m2 3 ((List.drop 1 [v3, v4, v5, v6]).take (Tryz.prog.cellsOf 3)) = some ys[1] := g1
    rw [cells3] at g1
    have y2 : ys[2]? = some ys[2] := List.getElem?_eq_getElem (by omega)
    have g2 := hg 2 _ rfl
    rw [y2] at g2
    have g2 : DataW.trod enc Tryz.prog W 0 (fun _ => true) true m2 56 ((List.drop 2 [v3, v4, v5, v6]).take (Tryz.prog.cellsOf 56)) = some ys[2] := g2
    rw [cells56] at g2
    have y3 : ys[3]? = some ys[3] := List.getElem?_eq_getElem (by omega)
    have g3 := hg 3 _ rfl
    rw [y3] at g3
    have g3 : DataW.trod enc Tryz.prog W 0 (fun _ => true) true m2 9 ((List.drop 3 [v3, v4, v5, v6]).take (Tryz.prog.cellsOf 9)) = some ys[3] := g3
    rw [cells9] at g3
    obtain ⟨kd, r0, _⟩ := DataW.trod_int Tryz.underlying5 g0
    obtain ⟨tg, r1, _⟩ := DataW.trod_int Tryz.underlying3 g1
    obtain ⟨tx, r3, _, w3⟩ := DataW.trod_string Tryz.underlying9 g3
    have r0 : [v3] = [Value.int .u8 kd] := r0
    have r1 : [v4] = [Value.int .i64 tg] := r1
    have r3 : [v6] = [Value.string tx] := r3
    cases r0; cases r1; cases r3
    rw [maxLen_eq] at w3
    obtain ⟨a, n, c, rfl, hn, hgv⟩ := open_words g2
    have keep : ∃ a' n' c', v9 = .slice a' n' c' ∧ n' ≤ 140737488355328 := by
      rcases Go.Deep.open_slice Tryz.underlying36 e6 with ⟨q, _⟩ | ⟨a', len, cap, m', n2, D, Pl, q, _, _, _, _, hx6, _⟩
      · have q : [v9] = [Value.slice none 0 0] := q
        cases q
        exact ⟨_, _, _, rfl, by omega⟩
      · have q : [v9] = [Value.slice (some a') len cap] := q
        cases q
        refine ⟨_, _, _, rfl, ?_⟩
        have hd : d = .agg (xs.map (·.1)) := congrArg Prod.fst hx
        have h6 : (xs.map (·.1))[6]? = some (DataW.slice ((List.range len).map D) ((List.range (m' - len)).map fun j => D (len + j))) := by
          rw [List.getElem?_map, z6, hx6]; rfl
        have := hw (((List.range len).map D).length + ((List.range (m' - len)).map fun j => D (len + j)).length |> (· * Tryz.prog.bytesOf 3)) (by
          rw [hd]
          show _ ∈ DataW.weights Tryz.prog 60 (.agg (xs.map (·.1)))
          simp only [DataW.weights, Tryz.underlying60]
          exact DataW.weights_mem_each (j := 6) (t := 36) rfl h6 _ (by simp [DataW.weights, Tryz.underlying36]))
        rw [bytes3] at this
        simp only [List.length_map, List.length_range, reachBytes] at this
        omega
    obtain ⟨a', n', c', rfl, hn'⟩ := keep
    exact ⟨⟨k, oid, torn, kd, tg, a, n, c, a', n', c', tx, nm, st⟩, rfl, ⟨hn, w3, hn', w4, w5, hgv⟩⟩
theorem enters5 : Enters Tryz.prog 5 := Go.Eng.enters_of Tryz.func5 (by kernel_rfl) (by kernel_rfl)
theorem storeNil_calls {W : World} {D : OpD} (H : OpOk W D) : Calls Tryz.prog 5 #[.agg ⟨D.cells⟩] W fun e w' => e = .returned (.bool true) ∧ Below W.heap.size W w' := by
  have hrest : VRs (ctxT W D) (envOf fun i => if i < 2 then some ⟨i, 0, 1⟩ else none) restQ D.cells.tail :=
    VRs.cons (x := .opq 1) rfl (VRs.cons (x := .opq 2) rfl (VRs.cons (x := .opq 3) rfl (VRs.cons (x := .opq 4) rfl (VRs.cons (x := .opq 5) rfl (VRs.cons (x := .opq 6) rfl (VRs.cons (x := .opq 7) rfl (VRs.cons (x := .opq 8) rfl (VRs.cons (x := .opq 9) rfl VRs.nil))))))))
  have hx : VRs (ctxT W D) (envOf fun i => if i < 2 then some ⟨i, 0, 1⟩ else none) (oT (.opq 0)) [.agg ⟨D.cells⟩] := VRs.cons ⟨_, rfl, VRs.cons (x := .opq 0) rfl hrest⟩ VRs.nil
  have hy : ∀ i : Nat, D.k = i → VRs (ctxT W D) (envOf fun i => if i < 2 then some ⟨i, 0, 1⟩ else none) (oT (.int .i64 (.ofNat i))) [.agg ⟨D.cells⟩] := fun i hi => VRs.cons ⟨_, rfl, VRs.cons (x := .int .i64 (.ofNat i)) (by show Value.int .i64 D.k = _; rw [hi]; rfl) hrest⟩ VRs.nil
  have fin : ∀ {call : Caller} {args : List AV}, CallOK Tryz.prog (ctxT W D) 2 call → VRs (ctxT W D) (envOf fun i => if i < 2 then some ⟨i, 0, 1⟩ else none) args [.agg ⟨D.cells⟩] → isTrueO (call 5 args h0) = true →
      Calls Tryz.prog 5 #[.agg ⟨D.cells⟩] W fun e w' => e = .returned (.bool true) ∧ Below W.heap.size W w' := fun hc hv hr =>
    run_true (K := ctxT W D) hc enters5 (by decide) rfl rfl (globs_of fun g hg => ⟨1, by simp [hg]⟩) (h0_ok rfl rfl) hv hr
  have ct : ∀ kn g l, (kn = true → (D.k < 0 ∨ 9 < D.k) ∧ g = decide (0 ≤ D.k) ∧ l = decide (D.k ≤ 8)) → CallOK Tryz.prog (ctxT W D) 2 (cT D.k D.vast kn g l) := fun kn g l h => callT (w0 := W) rfl H (fun hk => ⟨D.k, rfl, h hk⟩) rfl
  cases hv : D.vast with
  | true =>
    have h := ct false false false (fun h => by cases h)
    rw [hv] at h
    exact fin h hx (r5v D.k)
  | false =>
    have cu : CallOK Tryz.prog (ctxT W D) 2 (cU D.k D.vast) := callU rfl rfl H hv rfl
    rw [hv] at cu
    have ct' : ∀ kn g l, (kn = true → (D.k < 0 ∨ 9 < D.k) ∧ g = decide (0 ≤ D.k) ∧ l = decide (D.k ≤ 8)) → CallOK Tryz.prog (ctxT W D) 2 (cT D.k false kn g l) := fun kn g l h => by have := ct kn g l h; rw [hv] at this; exact this
    by_cases hlo : D.k < 0
    · exact fin (ct' true false true (fun _ => ⟨.inl hlo, by simp; omega, by simp; omega⟩)) hx (r5lo D.k)
    by_cases hhi : 9 < D.k
    · exact fin (ct' true true false (fun _ => ⟨.inr hhi, by simp; omega, by simp; omega⟩)) hx (r5hi D.k)
    have c0 := ct' false false false (fun h => by cases h)
    have hk : D.k = ((0 : Nat) : Int) ∨ D.k = ((1 : Nat) : Int) ∨ D.k = ((2 : Nat) : Int) ∨ D.k = ((3 : Nat) : Int) ∨ D.k = ((4 : Nat) : Int) ∨ D.k = ((5 : Nat) : Int) ∨ D.k = ((6 : Nat) : Int) ∨ D.k = ((7 : Nat) : Int) ∨ D.k = ((8 : Nat) : Int) ∨ D.k = ((9 : Nat) : Int) := by omega
    rcases hk with h | h | h | h | h | h | h | h | h | h
    · rw [h] at cu; exact fin cu (hy 0 h) r5k0
    · rw [h] at c0; exact fin c0 (hy 1 h) r5k1
    · rw [h] at cu; exact fin cu (hy 2 h) r5k2
    · rw [h] at c0; exact fin c0 (hy 3 h) r5k3
    · rw [h] at c0; exact fin c0 (hy 4 h) r5k4
    · rw [h] at c0; exact fin c0 (hy 5 h) r5k5
    · rw [h] at c0; exact fin c0 (hy 6 h) r5k6
    · rw [h] at c0; exact fin c0 (hy 7 h) r5k7
    · rw [h] at c0; exact fin c0 (hy 8 h) r5k8
    · rw [h] at c0; exact fin c0 (hy 9 h) r5k9
/-- a world in which the listed variables are as they are told -/
noncomputable def wit (os : Os) : World := World.laidAll Tryz.prog os Rows.storeNilRow.laid
theorem wit_os (os : Os) : (wit os).os = os := World.laidAll_os _ _ _
theorem laid_met (os : Os) (args : Array Value) : laidMetH Tryz.prog Rows.storeNilRow.laid ((wit os).forCall (fun _ _ => 0) ⟨#[], args, []⟩).memory := by
  rw [MakeChecks.laidMetH_plain _ _ _ (by kernel_rfl)]
  have h : laidMet Tryz.prog Rows.storeNilRow.laid (wit os) := laidMet_of_run' 8 (by kernel_rfl) (by kernel_rfl)
  exact h.of_heap (by simp [World.memory, World.forCall, Input.heap])
theorem storeNil_lifted (os : Os) (started : os.Started) (H : Type) (enc : TypeId × Value → H) :
    ReturnsInHanded {} Tryz.checked os 5 .any (fun w args => (Rows.storeNilSpec.pre enc Tryz.prog Tryz.f5 Rows.storeNilRow.domain false w args ∧ laidMetH Tryz.prog Rows.storeNilRow.laid w) ∧ sizedMet enc Tryz.prog Tryz.f5 (OpenSpec.ofChange Rows.storeNilSpec) false w args)
      (Rows.storeNilSpec.post enc Tryz.prog Tryz.f5 false true false false) := by
  refine returnsInHanded_of_change_and (C := Tryz.checked) (X := fun w _ => laidMetH Tryz.prog Rows.storeNilRow.laid w) (fun _ _ _ hh h => h.of_heap hh) own started (by kernel_rfl) Tryz.func5
    (ChangeSpec.witness_shaped (enc := enc) (C := Tryz.checked) (os := os) (X := fun w _ => laidMetH Tryz.prog Rows.storeNilRow.laid w) false (wit os) #[.agg #[.int .i64 0, .int .i64 0, .int .i64 0, .int .u8 0, .int .i64 0, .slice none 0 0, .string ⟨#[]⟩, .string ⟨#[]⟩, .string ⟨#[]⟩, .slice none 0 0]] 8 (wit_os os)
      (World.shaped_of_ZipB (by kernel_rfl) (by kernel_rfl)) (by kernel_rfl) (by kernel_rfl) (by kernel_rfl) (laid_met os _)) ?_
  intro W base args ds gs before hval0 hW hc hsz0 hL _
  have hval : ∀ (j : Nat) t v, Tryz.f5.params[j]? = some t → args[j]? = some v → Value.okWide Tryz.prog W .any base t v := hval0
  have hW' := hW
  obtain ⟨p, q, hA0, hV, rfl, _, _⟩ := hW
  have hA : DataW.TrodAll enc Tryz.prog W 0 (fun _ => true) true Tryz.f5.params.toList args.toList ds p := hA0
  have hsz : (DataW.weightsEach Tryz.prog (Tryz.f5.params.toList ++ Rows.storeNilSpec.plain.varTypes Tryz.prog) (ds ++ gs)).all (· ≤ reachBytes) = true := hsz0
  rw [Tryz.params5] at hA hval hsz
  obtain ⟨v0, vs0, d0, ds0, p0, q0, hargs, rfl, rfl, h0, r0⟩ := trodAll_cons hA
  obtain ⟨rfl, rfl, rfl⟩ := trodAll_nil r0
  obtain rfl : args = #[v0] := by cases args; simp_all
  obtain ⟨cs, rfl, _⟩ := okWide_struct Tryz.underlying60 (hval 0 60 v0 rfl rfl)
  have hw : ∀ m ∈ DataW.weights Tryz.prog 60 d0, m ≤ reachBytes := fun m hm => by
    have := List.all_eq_true.1 hsz m (DataW.weights_mem_each (j := 0) (t := 60) rfl rfl m hm)
    simpa using this
  obtain ⟨D, rfl, hD⟩ := open_op h0 hw
  obtain ⟨rfl, rfl⟩ := trodVars_none hV
  simp only [List.append_nil] at hW'
  have hlt : ∀ x ∈ p0, x.block < W.heap.size := fun x hx => by simpa using hW'.lt x (by simpa using hx)
  refine (storeNil_calls hD).mono fun e W' ⟨he, hb⟩ => ?_
  subst he
  exact ⟨_, rfl, post_below (pv := []) hW' (fun _ _ _ => trodAll_mk1 (shut_bool Tryz.underlying4 _)) (trodAll_mk1 (Below.trod laidOut (by kernel_rfl) (of_decide_eq_true (by kernel_rfl)) h0 hb hlt)) rfl hb⟩
/-- the row's closed facts, of parts -/
theorem joinedFacts_of {P : Program} {f : FuncId} {fn : Func} {s : ChangeSpec} {c : OpenClaim}
    (h1 : (c.wf (OpenSpec.ofChange s) && laidOutB P && mapsRowed P && fn.params.all (P.readableRec ·) && namedTie P c.named s.vars && (c.stops == []) && (P.stops == []) && (c.knobs == []) && (P.stopKnobs == [])) = true)
    (h2 : (c.inPlace == P.inPlace f) = true) (h3 : (c.unfollowed == P.unfollowed f) = true) (h4 : (c.recurses == P.recurses f) = true) (h5 : (c.named == P.varsNamed f) = true)
    (h6 : ((c.maps == (fn.params.toList ++ s.plain.varTypes P).any (P.mapsRec ·)) && (c.ifaces == (fn.params.toList ++ s.plain.varTypes P).any (P.ifacesRec ·)) && (c.mapsOut == P.mapsAmong fn.resultTypes.toList) &&
  (c.loops == (fn.params.toList ++ s.plain.varTypes P).any (P.loopsFrom ·)) && (c.wideKeys == (fn.params.toList ++ s.plain.varTypes P ++ fn.resultTypes.toList).any (P.wideKeysFrom ·)) &&
  s.vars.all (P.varReadable ·) && fn.resultTypes.all (fun t => P.readableRec t && decide (t < P.types.size)) && (c.ifacesOut == fn.resultTypes.toList.any (P.ifacesRec ·)) && (c.loopsOut == fn.resultTypes.toList.any (P.loopsFrom ·))) = true)
    (h7 : ((c.plainKeys == P.plainKeys) && c.shortTexts.isNone && P.stopsHeard && P.mayEnter) = true) (h8 : (c.lifted == P.liftsFinal) = true) (h9 : (P.make == some c.make) = true)
    (h10 : ((c.kinds == (if c.domain.isEmpty then [] else fn.params.toList.map fun t => match P.underlying t with | some (.int k) => some k | _ => none)) && (c.pinned == c.pinnedBy) &&
  (c.veiled == (fn.params.toList ++ s.plain.varTypes P ++ fn.resultTypes.toList).any (P.veiledRec ·)) && c.veiledFits P fn.params.toList (fn.params.toList ++ s.plain.varTypes P ++ fn.resultTypes.toList)) = true) : joinedFacts P f fn s c = true := by
  rw [Bool.and_eq_true] at h7 h10
  obtain ⟨h7, b4⟩ := h7
  rw [Bool.and_eq_true] at h7
  obtain ⟨h7, b3⟩ := h7
  rw [Bool.and_eq_true] at h7
  obtain ⟨b1, b2⟩ := h7
  obtain ⟨h10, c4⟩ := h10
  rw [Bool.and_eq_true] at h10
  obtain ⟨h10, c3⟩ := h10
  rw [Bool.and_eq_true] at h10
  obtain ⟨c1, c2⟩ := h10
  rw [Bool.and_eq_true] at h6
  obtain ⟨h6, a9⟩ := h6
  rw [Bool.and_eq_true] at h6
  obtain ⟨h6, a8⟩ := h6
  rw [Bool.and_eq_true] at h6
  obtain ⟨h6, a7⟩ := h6
  rw [Bool.and_eq_true] at h6
  obtain ⟨h6, a6⟩ := h6
  rw [Bool.and_eq_true] at h6
  obtain ⟨h6, a5⟩ := h6
  rw [Bool.and_eq_true] at h6
  obtain ⟨h6, a4⟩ := h6
  rw [Bool.and_eq_true] at h6
  obtain ⟨h6, a3⟩ := h6
  rw [Bool.and_eq_true] at h6
  obtain ⟨a1, a2⟩ := h6
  have A := fun {x y : Bool} (hx : x = true) (hy : y = true) => (Bool.and_eq_true x y ▸ ⟨hx, hy⟩ : (x && y) = true)
  exact A (A (A (A (A (A (A (A (A (A (A (A (A (A (A (A (A (A (A (A (A (A (A h1 h2) h3) h4) h5) a1) a2) a3) a4) a5) a6) a7) a8) a9) b1) b2) b3) b4) h8) h9) c1) c2) c3) c4
theorem cn1 : (Rows.storeNilRow.wf (OpenSpec.ofChange Rows.storeNilSpec) && laidOutB Tryz.prog && mapsRowed Tryz.prog && Tryz.f5.params.all (Tryz.prog.readableRec ·) && namedTie Tryz.prog Rows.storeNilRow.named Rows.storeNilSpec.vars && (Rows.storeNilRow.stops == []) && (Tryz.prog.stops == []) && (Rows.storeNilRow.knobs == []) && (Tryz.prog.stopKnobs == [])) = true := by kernel_rfl
theorem cn2 : (Rows.storeNilRow.inPlace == Tryz.prog.inPlace 5) = true := by kernel_rfl
theorem cn3 : (Rows.storeNilRow.unfollowed == Tryz.prog.unfollowed 5) = true := by kernel_rfl
theorem cn4 : (Rows.storeNilRow.recurses == Tryz.prog.recurses 5) = true := by kernel_rfl
theorem cn5 : (Rows.storeNilRow.named == Tryz.prog.varsNamed 5) = true := by kernel_rfl
theorem cn7 : ((Rows.storeNilRow.plainKeys == Tryz.prog.plainKeys) && Rows.storeNilRow.shortTexts.isNone && Tryz.prog.stopsHeard && Tryz.prog.mayEnter) = true := by kernel_rfl
theorem cn8 : (Rows.storeNilRow.lifted == Tryz.prog.liftsFinal) = true := by kernel_rfl
theorem cn9 : (Tryz.prog.make == some Rows.storeNilRow.make) = true := by kernel_rfl
theorem cn_facts : joinedFacts Tryz.checked.prog 5 Tryz.f5 Rows.storeNilSpec Rows.storeNilRow = true := joinedFacts_of cn1 cn2 cn3 cn4 cn5 (by kernel_rfl) cn7 cn8 cn9 (by kernel_rfl)
theorem cn_goes : false = Rows.storeNilRow.goesBy Tryz.prog := by kernel_rfl
theorem storeNil_row : Rows.StoreNilSaid :=
  OpenClaim.holds_of_wide 5 Tryz.f5 rfl rfl rfl rfl rfl rfl rfl ⟨rfl, rfl, rfl, rfl, rfl⟩ rfl rfl rfl rfl rfl (by kernel_rfl) Tryz.func5 cn_facts
    (of_decide_eq_true (by kernel_rfl)) (by unfold Func.isWrapper; first | (rw [if_pos (by decide +kernel)]; kernel_rfl) | (rw [if_neg (by decide +kernel)]; exact ⟨rfl, rfl⟩))
    (fun os started H enc _ => storeNil_lifted os started H enc)
/-- THE CARD. -/
theorem storeNil_holds : Rows.StoreNilCardSaid :=
  Claim7.holds_tied_plain_at .later [] _ _ _ _ storeNil_row (fun _ h => by cases h) (by kernel_rfl) (fun _ h => by cases h) storeNil_row_tie rfl ⟨rfl, rfl⟩ (by kernel_rfl) rfl
    (fun f fn hf hfn => by
      obtain rfl : f = 5 := Option.some.inj ((show Tryz.prog.funcNamed "aumbry/aumbrylaw12.StoreNil" = some 5 by kernel_rfl).symm.trans hf) |>.symm
      obtain rfl : fn = Tryz.f5 := (Option.some.inj (Tryz.func5.symm.trans hfn)).symm
      exact ⟨by kernel_rfl, fun j t ht => by
        rw [Tryz.params5] at ht
        have hm : t ∈ [60] := by simpa using Array.mem_of_getElem? ht
        have hall : ([60].all fun u => !Tryz.prog.wantsStandIn u) = true := by kernel_rfl
        exact (show Tryz.prog.wantsStandIn t = false by simpa using List.all_eq_true.1 hall t hm)⟩)
    cn_goes
end Go.Proofs.YtaamiedjgfopiaaGreatDoor
