/- Proved: for every n the law StampLong answers true, and n reads afterwards as before; the package variables that the row lists hold at the start what the program lays in them (tied). -/
import Derived.Test.YtadbbfmmhimgcaaGreatDoorPost
import Derived.Test.YtadbbfmmhimgcaaGreatDoorLongA
import Derived.Test.YtadbbfmmhimgcaaGreatDoorLongB
import Derived.Test.YtadbbfmmhimgcaaGreatDoorLongC
import Derived.Test.YtadbbfmmhimgcaaGreatDoorLongD
set_option linter.unusedVariables false
namespace Go.Proofs.YtadbbfmmhimgcaaGreatDoor
open Go.ChangeShapes Go.WideShapes Go.ChangeAt Go.RowKit Go.Eng
theorem long_all {r : Nat} (h : r < 98) : longB r = true := by
  by_cases h0 : r < 6
  · exact List.all_eq_true.1 long0 r (List.mem_range'_1.2 ⟨by omega, by omega⟩)
  by_cases h6 : r < 12
  · exact List.all_eq_true.1 long6 r (List.mem_range'_1.2 ⟨by omega, by omega⟩)
  by_cases h12 : r < 18
  · exact List.all_eq_true.1 long12 r (List.mem_range'_1.2 ⟨by omega, by omega⟩)
  by_cases h18 : r < 24
  · exact List.all_eq_true.1 long18 r (List.mem_range'_1.2 ⟨by omega, by omega⟩)
  by_cases h24 : r < 30
  · exact List.all_eq_true.1 long24 r (List.mem_range'_1.2 ⟨by omega, by omega⟩)
  by_cases h30 : r < 34
  · exact List.all_eq_true.1 long30 r (List.mem_range'_1.2 ⟨by omega, by omega⟩)
  by_cases h34 : r < 38
  · exact List.all_eq_true.1 long34 r (List.mem_range'_1.2 ⟨by omega, by omega⟩)
  by_cases h38 : r < 42
  · exact List.all_eq_true.1 long38 r (List.mem_range'_1.2 ⟨by omega, by omega⟩)
  by_cases h42 : r < 46
  · exact List.all_eq_true.1 long42 r (List.mem_range'_1.2 ⟨by omega, by omega⟩)
  by_cases h46 : r < 50
  · exact List.all_eq_true.1 long46 r (List.mem_range'_1.2 ⟨by omega, by omega⟩)
  by_cases h50 : r < 52
  · exact List.all_eq_true.1 long50 r (List.mem_range'_1.2 ⟨by omega, by omega⟩)
  by_cases h52 : r < 55
  · exact List.all_eq_true.1 long52 r (List.mem_range'_1.2 ⟨by omega, by omega⟩)
  by_cases h55 : r < 58
  · exact List.all_eq_true.1 long55 r (List.mem_range'_1.2 ⟨by omega, by omega⟩)
  by_cases h58 : r < 61
  · exact List.all_eq_true.1 long58 r (List.mem_range'_1.2 ⟨by omega, by omega⟩)
  by_cases h61 : r < 64
  · exact List.all_eq_true.1 long61 r (List.mem_range'_1.2 ⟨by omega, by omega⟩)
  by_cases h64 : r < 67
  · exact List.all_eq_true.1 long64 r (List.mem_range'_1.2 ⟨by omega, by omega⟩)
  by_cases h67 : r < 70
  · exact List.all_eq_true.1 long67 r (List.mem_range'_1.2 ⟨by omega, by omega⟩)
  by_cases h70 : r < 73
  · exact List.all_eq_true.1 long70 r (List.mem_range'_1.2 ⟨by omega, by omega⟩)
  by_cases h73 : r < 76
  · exact List.all_eq_true.1 long73 r (List.mem_range'_1.2 ⟨by omega, by omega⟩)
  by_cases h76 : r < 78
  · exact List.all_eq_true.1 long76 r (List.mem_range'_1.2 ⟨by omega, by omega⟩)
  by_cases h78 : r < 80
  · exact List.all_eq_true.1 long78 r (List.mem_range'_1.2 ⟨by omega, by omega⟩)
  by_cases h80 : r < 82
  · exact List.all_eq_true.1 long80 r (List.mem_range'_1.2 ⟨by omega, by omega⟩)
  by_cases h82 : r < 84
  · exact List.all_eq_true.1 long82 r (List.mem_range'_1.2 ⟨by omega, by omega⟩)
  by_cases h84 : r < 86
  · exact List.all_eq_true.1 long84 r (List.mem_range'_1.2 ⟨by omega, by omega⟩)
  by_cases h86 : r < 88
  · exact List.all_eq_true.1 long86 r (List.mem_range'_1.2 ⟨by omega, by omega⟩)
  by_cases h88 : r < 90
  · exact List.all_eq_true.1 long88 r (List.mem_range'_1.2 ⟨by omega, by omega⟩)
  by_cases h90 : r < 92
  · exact List.all_eq_true.1 long90 r (List.mem_range'_1.2 ⟨by omega, by omega⟩)
  by_cases h92 : r < 94
  · exact List.all_eq_true.1 long92 r (List.mem_range'_1.2 ⟨by omega, by omega⟩)
  by_cases h94 : r < 96
  · exact List.all_eq_true.1 long94 r (List.mem_range'_1.2 ⟨by omega, by omega⟩)
  by_cases h96 : r < 98
  · exact List.all_eq_true.1 long96 r (List.mem_range'_1.2 ⟨by omega, by omega⟩)
  omega
theorem enters6 : Enters Tryz.prog 6 := Go.Eng.enters_of Tryz.func6 (by kernel_rfl) (by kernel_rfl)
theorem stampLong_run (n : Nat) (hn : n < 256) {W : World} {B o : Nat} (m : Nat) (hr : isTrueO (callG I2 (F1 [(1, 100, n % 100)]) 1000 m 6 [.opq 0] h1) = true) (h0 : W.cell? ⟨0, 0, none⟩ = some (.iface 224 (.pointer (some ⟨B, o, none⟩)))) :
    Calls Tryz.prog 6 #[.int .u8 n] W fun e w' => e = .returned (.bool true) ∧ Below W.heap.size W w' :=
  run_true (call2 (w := W) (ns := fun _ => n) (l := [(1, 100, n % 100)]) (fun _ => hn) (fun p hp => by rw [List.mem_singleton] at hp; subst hp; exact ⟨rfl, Nat.succ_ne_zero _, rfl⟩) m) enters6 rfl rfl (loc1_globs B o) (h1_ok rfl rfl h0)
    (VRs.cons (x := .opq 0) (rfl : VR (ctxM W fun _ => n) (envOf (loc1 B o)) (.opq 0) (.int .u8 n)) VRs.nil) hr
theorem stampLong_calls (n : Nat) (hn : n < 256) {W : World} {B o : Nat} (h0 : W.cell? ⟨0, 0, none⟩ = some (.iface 224 (.pointer (some ⟨B, o, none⟩)))) :
    Calls Tryz.prog 6 #[.int .u8 n] W fun e w' => e = .returned (.bool true) ∧ Below W.heap.size W w' := by
  by_cases h98 : n % 100 < 98
  · exact stampLong_run n hn 200 (long_all h98) h0
  · have hr : isTrueO (callG I2 (F1 [(1, 100, n % 100)]) 1000 300 6 [.opq 0] h1) = true := by
      rcases (by omega : n % 100 = 98 ∨ n % 100 = 99) with h | h
      · rw [h]; exact long98
      · rw [h]; exact long99
    exact stampLong_run n hn 300 hr h0
set_option maxRecDepth 100000 in
theorem stampLong_lifted (os : Os) (started : os.Started) (H : Type) (enc : TypeId × Value → H) :
    ReturnsInHanded {} Tryz.checked os 6 .any (fun w args => (Rows.stampLongSpec.pre enc Tryz.prog Tryz.f6 Rows.stampLongRow.domain false w args ∧ laidMetH Tryz.prog Rows.stampLongRow.laid w) ∧ sizedMet enc Tryz.prog Tryz.f6 (OpenSpec.ofChange Rows.stampLongSpec) false w args)
      (Rows.stampLongSpec.post enc Tryz.prog Tryz.f6 false true false false) := by
  refine returnsInHanded_of_change_and (C := Tryz.checked) (X := fun w _ => laidMetH Tryz.prog Rows.stampLongRow.laid w) (fun _ _ _ hh h => h.of_heap hh) own started (by kernel_rfl) Tryz.func6
    (ChangeSpec.witness_shaped (enc := enc) (C := Tryz.checked) (os := os) (X := fun w _ => laidMetH Tryz.prog Rows.stampLongRow.laid w) false (World.laidAll Tryz.prog os Rows.stampLongRow.laid) #[.int .u8 0] 8 (World.laidAll_os _ _ _)
      (World.shaped_of_ZipB (by kernel_rfl) (by kernel_rfl)) (by kernel_rfl) (by kernel_rfl) (by kernel_rfl) (laid_met os _)) ?_
  intro W base args ds gs before hval0 hW hc _ hL _
  have hval : ∀ (j : Nat) t v, Tryz.f6.params[j]? = some t → args[j]? = some v → Value.okWide Tryz.prog W .any base t v := hval0
  have hW' := hW
  obtain ⟨p, q, hA0, hV, rfl, _, _⟩ := hW
  have hA : DataW.TrodAll enc Tryz.prog W 0 (fun _ => true) true Tryz.f6.params.toList args.toList ds p := hA0
  rw [Tryz.params6] at hA hval
  obtain ⟨v0, d0, rfl, rfl, h0⟩ := trodAll_one hA
  obtain ⟨x, rfl, rfl, rfl, wx⟩ := open_int Tryz.underlying5 (hval 0 5 v0 rfl rfl) h0
  obtain ⟨n, rfl, hn⟩ : ∃ n : Nat, x = n ∧ n < 256 := by
    have hx : 0 ≤ x ∧ x ≤ 255 := by simpa [Lit.wf, IntKind.min, IntKind.max, IntKind.signed, IntKind.bits] using wx
    exact ⟨x.toNat, by omega, by omega⟩
  obtain ⟨rfl, rfl⟩ := trodVars_none hV
  obtain ⟨B, o, herr⟩ := err_cell hL
  simp only [List.append_nil] at hW'
  refine (stampLong_calls n hn herr).mono fun e W' ⟨he, hb⟩ => ?_
  subst he
  exact ⟨_, rfl, post_below (pa := []) (pv := []) hW' (fun _ _ _ => trodAll_mk1 (shut_bool Tryz.underlying4 _)) (fun sp _ => trodAll_mk1 (shut_int Tryz.underlying5 wx)) (fun _ _ => rfl) hb⟩
theorem stampLong_row : Rows.StampLongSaid :=
  OpenClaim.holds_of_wide 6 Tryz.f6 rfl rfl rfl rfl rfl rfl rfl ⟨rfl, rfl, rfl, rfl, rfl⟩ rfl rfl rfl rfl rfl (by kernel_rfl) Tryz.func6 (by kernel_rfl)
    (of_decide_eq_true (by kernel_rfl)) (by unfold Func.isWrapper; first | (rw [if_pos (by decide +kernel)]; kernel_rfl) | (rw [if_neg (by decide +kernel)]; exact ⟨rfl, rfl⟩))
    (fun os started H enc _ => stampLong_lifted os started H enc)
/-- THE CARD. -/
theorem stampLong_holds : Rows.StampLongCardSaid :=
  Claim7.holds_tied_plain_at .later [] _ _ _ _ stampLong_row (fun _ h => by cases h) (by kernel_rfl) (fun _ h => by cases h) stampLong_row_tie rfl ⟨rfl, rfl⟩ (by kernel_rfl) rfl
    (fun f fn hf hfn => by
      obtain rfl : f = 6 := Option.some.inj ((show Tryz.prog.funcNamed "aumbry/aumbrylaw19.StampLong" = some 6 by kernel_rfl).symm.trans hf) |>.symm
      obtain rfl : fn = Tryz.f6 := (Option.some.inj (Tryz.func6.symm.trans hfn)).symm
      exact ⟨by kernel_rfl, fun j t ht => by
        rw [Tryz.params6] at ht
        have hm : t ∈ [5] := by simpa using Array.mem_of_getElem? ht
        have hall : ([5].all fun u => !Tryz.prog.wantsStandIn u) = true := by kernel_rfl
        exact (show Tryz.prog.wantsStandIn t = false by simpa using List.all_eq_true.1 hall t hm)⟩)
    (by kernel_rfl)
end Go.Proofs.YtadbbfmmhimgcaaGreatDoor
