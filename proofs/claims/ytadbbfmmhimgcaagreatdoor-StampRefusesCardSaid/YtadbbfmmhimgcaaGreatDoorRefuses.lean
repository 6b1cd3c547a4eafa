/- Proved: for every which, deep and inside the law StampRefuses answers true, and they read afterwards as before; the package variables that the row lists hold at the start what the program lays in them (tied). -/
import Derived.Test.YtadbbfmmhimgcaaGreatDoorPost
import Derived.Test.YtadbbfmmhimgcaaGreatDoorRuns
set_option linter.unusedVariables false
namespace Go.Proofs.YtadbbfmmhimgcaaGreatDoor
open Go.ChangeShapes Go.WideShapes Go.ChangeAt Go.RowKit Go.Eng
theorem ref_all {a d : Nat} (b : Bool) (ha : a < 10) (hd : d < 6) : refB a d b = true := by
  have h : refR a = true := by
    match a, ha with
    | 0, _ => exact ref0
    | 1, _ => exact ref1
    | 2, _ => exact ref2
    | 3, _ => exact ref3
    | 4, _ => exact ref4
    | 5, _ => exact ref5
    | 6, _ => exact ref6
    | 7, _ => exact ref7
    | 8, _ => exact ref8
    | 9, _ => exact ref9
  have := List.all_eq_true.1 h d (List.mem_range'_1.2 ⟨by omega, by omega⟩)
  rw [Bool.and_eq_true] at this
  cases b
  · exact this.2
  · exact this.1
theorem enters5 : Enters Tryz.prog 5 := Go.Eng.enters_of Tryz.func5 (by kernel_rfl) (by kernel_rfl)
theorem stampRefuses_calls (m n : Nat) (b : Bool) (hm : m < 256) (hn : n < 256) {W : World} {B o : Nat} (h0 : W.cell? ⟨0, 0, none⟩ = some (.iface 224 (.pointer (some ⟨B, o, none⟩)))) :
    Calls Tryz.prog 5 #[.int .u8 m, .int .u8 n, .bool b] W fun e w' => e = .returned (.bool true) ∧ Below W.heap.size W w' :=
  run_true (call2 (w := W) (ns := fun j => if j = 0 then m else n) (l := [(1, 10, m % 10), (3, 6, n % 6)]) (fun j => by show (if j = 0 then m else n) < 256; split <;> assumption)
      (fun p hp => by
        simp only [List.mem_cons, List.mem_nil_iff, or_false] at hp
        rcases hp with rfl | rfl
        · exact ⟨rfl, Nat.succ_ne_zero _, by show (if 1 / 2 = 0 then m else n) % 10 = m % 10; rw [if_pos (by decide)]⟩
        · exact ⟨(by show 3 % 2 = 1; decide), Nat.succ_ne_zero _, by show (if 3 / 2 = 0 then m else n) % 6 = n % 6; rw [if_neg (by decide)]⟩) 200) enters5 rfl rfl (loc1_globs B o) (h1_ok rfl rfl h0)
    (VRs.cons (x := .opq 0) (rfl : VR (ctxM W fun j => if j = 0 then m else n) (envOf (loc1 B o)) (.opq 0) (.int .u8 m)) (VRs.cons (x := .opq 2) (rfl : VR (ctxM W fun j => if j = 0 then m else n) (envOf (loc1 B o)) (.opq 2) (.int .u8 n)) (VRs.cons (x := .bool b) (rfl : VR (ctxM W fun j => if j = 0 then m else n) (envOf (loc1 B o)) (.bool b) (.bool b)) VRs.nil))) (ref_all b (Nat.mod_lt m (by decide)) (Nat.mod_lt n (by decide)))
set_option maxRecDepth 100000 in
theorem stampRefuses_lifted (os : Os) (started : os.Started) (H : Type) (enc : TypeId × Value → H) :
    ReturnsInHanded {} Tryz.checked os 5 .any (fun w args => (Rows.stampRefusesSpec.pre enc Tryz.prog Tryz.f5 Rows.stampRefusesRow.domain false w args ∧ laidMetH Tryz.prog Rows.stampRefusesRow.laid w) ∧ sizedMet enc Tryz.prog Tryz.f5 (OpenSpec.ofChange Rows.stampRefusesSpec) false w args)
      (Rows.stampRefusesSpec.post enc Tryz.prog Tryz.f5 false true false false) := by
  refine returnsInHanded_of_change_and (C := Tryz.checked) (X := fun w _ => laidMetH Tryz.prog Rows.stampRefusesRow.laid w) (fun _ _ _ hh h => h.of_heap hh) own started (by kernel_rfl) Tryz.func5
    (ChangeSpec.witness_shaped (enc := enc) (C := Tryz.checked) (os := os) (X := fun w _ => laidMetH Tryz.prog Rows.stampRefusesRow.laid w) false (World.laidAll Tryz.prog os Rows.stampRefusesRow.laid) #[.int .u8 0, .int .u8 0, .bool false] 8 (World.laidAll_os _ _ _)
      (World.shaped_of_ZipB (by kernel_rfl) (by kernel_rfl)) (by kernel_rfl) (by kernel_rfl) (by kernel_rfl) (laid_met os _)) ?_
  intro W base args ds gs before hval0 hW hc _ hL _
  have hval : ∀ (j : Nat) t v, Tryz.f5.params[j]? = some t → args[j]? = some v → Value.okWide Tryz.prog W .any base t v := hval0
  have hW' := hW
  obtain ⟨p, q, hA0, hV, rfl, _, _⟩ := hW
  have hA : DataW.TrodAll enc Tryz.prog W 0 (fun _ => true) true Tryz.f5.params.toList args.toList ds p := hA0
  rw [Tryz.params5] at hA hval
  obtain ⟨v0, vs0, d0, ds0, p0, q0, hargs, rfl, rfl, h0, r0⟩ := trodAll_cons hA
  obtain ⟨v1, vs1, d1, ds1, p1, q1, hargs1, rfl, rfl, h1, r1⟩ := trodAll_cons r0
  obtain ⟨v2, vs2, d2, ds2, p2, q2, hargs2, rfl, rfl, h2, r2⟩ := trodAll_cons r1
  obtain ⟨rfl, rfl, rfl⟩ := trodAll_nil r2
  obtain rfl : args = #[v0, v1, v2] := by cases args; simp_all
  have nat_of : ∀ {x : Int}, (Lit.int .u8 x).wf = true → ∃ n : Nat, x = n ∧ n < 256 := fun {x} wx => by
    have hx : 0 ≤ x ∧ x ≤ 255 := by simpa [Lit.wf, IntKind.min, IntKind.max, IntKind.signed, IntKind.bits] using wx
    exact ⟨x.toNat, by omega, by omega⟩
  obtain ⟨x, rfl, rfl, rfl, wx⟩ := open_int Tryz.underlying5 (hval 0 5 v0 rfl rfl) h0
  obtain ⟨y, rfl, rfl, rfl, wy⟩ := open_int Tryz.underlying5 (hval 1 5 v1 rfl rfl) h1
  obtain ⟨b, rfl, rfl, rfl⟩ := open_bool Tryz.underlying4 (hval 2 4 v2 rfl rfl) h2
  obtain ⟨m, rfl, hm⟩ := nat_of wx
  obtain ⟨n, rfl, hn⟩ := nat_of wy
  obtain ⟨rfl, rfl⟩ := trodVars_none hV
  obtain ⟨B, o, herr⟩ := err_cell hL
  simp only [List.append_nil] at hW'
  refine (stampRefuses_calls m n b hm hn herr).mono fun e W' ⟨he, hb⟩ => ?_
  subst he
  exact ⟨_, rfl, post_below (pa := []) (pv := []) hW' (fun _ _ _ => trodAll_mk1 (shut_bool Tryz.underlying4 _)) (fun sp _ => trodAll_cons_mk (shut_int Tryz.underlying5 wx) (trodAll_cons_mk (shut_int Tryz.underlying5 wy) (trodAll_cons_mk (shut_bool Tryz.underlying4 _) trodAll_mk0))) (fun _ _ => rfl) hb⟩
theorem stampRefuses_row : Rows.StampRefusesSaid :=
  OpenClaim.holds_of_wide 5 Tryz.f5 rfl rfl rfl rfl rfl rfl rfl ⟨rfl, rfl, rfl, rfl, rfl⟩ rfl rfl rfl rfl rfl (by kernel_rfl) Tryz.func5 (by kernel_rfl)
    (of_decide_eq_true (by kernel_rfl)) (by unfold Func.isWrapper; first | (rw [if_pos (by decide +kernel)]; kernel_rfl) | (rw [if_neg (by decide +kernel)]; exact ⟨rfl, rfl⟩))
    (fun os started H enc _ => stampRefuses_lifted os started H enc)
/-- THE CARD. -/
theorem stampRefuses_holds : Rows.StampRefusesCardSaid :=
  Claim7.holds_tied_plain_at .later [] _ _ _ _ stampRefuses_row (fun _ h => by cases h) (by kernel_rfl) (fun _ h => by cases h) stampRefuses_row_tie rfl ⟨rfl, rfl⟩ (by kernel_rfl) rfl
    (fun f fn hf hfn => by
      obtain rfl : f = 5 := Option.some.inj ((show Tryz.prog.funcNamed "aumbry/aumbrylaw19.StampRefuses" = some 5 by kernel_rfl).symm.trans hf) |>.symm
      obtain rfl : fn = Tryz.f5 := (Option.some.inj (Tryz.func5.symm.trans hfn)).symm
      exact ⟨by kernel_rfl, fun j t ht => by
        rw [Tryz.params5] at ht
        have hm : t ∈ [5, 5, 4] := by simpa using Array.mem_of_getElem? ht
        have hall : ([5, 5, 4].all fun u => !Tryz.prog.wantsStandIn u) = true := by kernel_rfl
        exact (show Tryz.prog.wantsStandIn t = false by simpa using List.all_eq_true.1 hall t hm)⟩)
    (by kernel_rfl)
end Go.Proofs.YtadbbfmmhimgcaaGreatDoor
