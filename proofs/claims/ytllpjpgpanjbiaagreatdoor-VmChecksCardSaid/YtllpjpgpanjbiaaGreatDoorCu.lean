/- A machine that is made of code, its roots and what is kept, walked by hand. Each says its own conditions. -/
import Derived.Test.YtllpjpgpanjbiaaGreatDoorCr3
set_option linter.unusedVariables false
set_option linter.unusedSimpArgs false
set_option maxRecDepth 100000
set_option maxHeartbeats 1600000
namespace Go.Ck
open Go Go.RowKit Go.Proofs
theorem makeM49 (w : World) : (Instr.makeMap 49 none).run Tryz.prog w = .ok (.map (some w.heap.size)) (w.alloc (.map #[] 0)) := by
  simp [Instr.makeMap, run_underlying Tryz.underlying49]
theorem makeM50 (w : World) : (Instr.makeMap 50 none).run Tryz.prog w = .ok (.map (some w.heap.size)) (w.alloc (.map #[] 0)) := by
  simp [Instr.makeMap, run_underlying Tryz.underlying50]
theorem heapNew_ok (w : World) : Calls Tryz.prog 6 #[.int .i64 1000] w fun e w' => (∃ hb, e = .returned (.tuple #[.pointer (some ⟨hb, 0, none⟩), .int .i64 0])) ∧ Below w.heap.size w w' := by
  have h1 := makeM49
  have h2 := makeM50
  go_enter Tryz.func6, Tryz.ntmps6
  go_wp2
  go_ret2
  refine ⟨⟨_, rfl⟩, ?_⟩
  repeat (first | exact Below.refl _ _ | refine Below.drew ?_ | refine Below.alloc ?_ (by first | (simp; done) | (simp; omega)) _)
theorem ins_nil (w : World) : Calls Tryz.prog 56 #[.slice none 0 0, .int .i64 0, .int .i64 0] w fun e w' => e = .returned (.tuple #[]) ∧ w' = w := by
  go_enter Tryz.func56, Tryz.ntmps56
  go_wp2
  refine wp_loop_rounds 1 ?_
  rw [rounds_succ]
  go_wp2
  go_end0
  exact ⟨rfl, rfl⟩
theorem pdq_nil (w : World) : Calls Tryz.prog 32 #[.slice none 0 0, .int .i64 0, .int .i64 0, .int .i64 0] w fun e w' => e = .returned (.tuple #[]) ∧ w' = w := by
  have H := ins_nil w
  go_enter Tryz.func32, Tryz.ntmps32
  go_wp2
  refine wp_loop_rounds 1 ?_
  rw [rounds_succ]
  go_wp2_with (go_at_call 56; refine H.mono ?_; rintro e w5 ⟨rfl, rfl⟩)
  ((try simp only [Exit.inBlock, Exit.then]); refine bodyPost_ret (results_none rfl _ _ _) rfl ?_)
  exact ⟨rfl, rfl⟩
theorem len64_0 (w : World) : Calls Tryz.prog 66 #[.int .u64 0] w fun e w' => e = .returned (.int .i64 0) ∧ w' = w := by
  go_enter Tryz.func66, Tryz.ntmps66
  go_wp2
  go_ret
  exact ⟨by kernel_rfl, rfl⟩
theorem len_0 (w : World) : Calls Tryz.prog 33 #[.int .u64 0] w fun e w' => e = .returned (.int .i64 0) ∧ w' = w := by
  have H := len64_0 w
  go_enter Tryz.func33, Tryz.ntmps33
  go_wp2_with (go_at_call 66; refine H.mono ?_; rintro e w5 ⟨rfl, rfl⟩)
  go_ret
  exact ⟨rfl, rfl⟩
theorem sort_nil (w : World) : Calls Tryz.prog 20 #[.slice none 0 0] w fun e w' => e = .returned (.tuple #[]) ∧ w' = w := by
  have H := len_0 w
  have H2 := pdq_nil w
  go_enter Tryz.func20, Tryz.ntmps20
  go_wp2_with (first | (go_at_call 33; refine H.mono ?_; rintro e w5 ⟨rfl, rfl⟩) | (go_at_call 32; refine H2.mono ?_; rintro e w5 ⟨rfl, rfl⟩))
  go_end0
  exact ⟨rfl, rfl⟩
theorem compact_nil (w : World) : Calls Tryz.prog 21 #[.slice none 0 0] w fun e w' => e = .returned (.slice none 0 0) ∧ w' = w := by
  go_enter Tryz.func21, Tryz.ntmps21
  go_wp2
  go_ret
  exact ⟨rfl, rfl⟩
theorem add_nil (w : World) (p : Value) : Calls Tryz.prog 19 #[.slice none 0 0, p] w fun e w' => e = .returned (.tuple #[]) ∧ w' = w := by
  go_enter Tryz.func19, Tryz.ntmps19
  go_wp2
  refine wp_loop_rounds 1 ?_
  rw [rounds_succ]
  go_wp2
  go_end0
  exact ⟨rfl, rfl⟩
structure NewV (w : World) (vb : Nat) : Prop where
  frames : ∃ fr fb, w.cell? ⟨vb, 4, none⟩ = some (.slice (some ⟨fr, 0, none⟩) 1 1) ∧ w.cell? ⟨fr, 0, none⟩ = some (.pointer (some ⟨fb, 0, none⟩)) ∧ w.cell? ⟨fb, 2, none⟩ = some (.slice none 0 0) ∧ w.cell? ⟨fb, 3, none⟩ = some (.slice none 0 0)
  made : w.cell? ⟨vb, 6, none⟩ = some (.slice none 0 0)
  raised : w.cell? ⟨vb, 7, none⟩ = some (.pointer none)
  waits : w.cell? ⟨vb, 13, none⟩ = some (.pointer none)
theorem kept_ok {w : World} {vb : Nat} (h : NewV w vb) (k n : Int) (b : Bool) (kk : IntKind) : Calls Tryz.prog 10 #[.pointer (some ⟨vb, 0, none⟩), .agg #[.int .u8 0, .int .i64 0], .bool true] w fun e w' => e = .returned (.int .i64 3) ∧ Below w.heap.size w w' := by
  have h13 := h.waits
  have hl := cell_lt' h13
  clear h
  go_enter Tryz.func10, Tryz.ntmps10
  go_wp2
  go_ret
  refine ⟨rfl, ?_⟩
  repeat (first | exact Below.refl _ _ | refine Below.drew ?_ | refine Below.alloc ?_ (by first | (simp; done) | (simp; omega)) _)
theorem roots_ok {w : World} {vb : Nat} (h : NewV w vb) : Calls Tryz.prog 9 #[.pointer (some ⟨vb, 0, none⟩)] w fun e w' => e = .returned (.slice none 0 0) ∧ Below w.heap.size w w' := by
  obtain ⟨fr, fb, c4, r0, f2, f3⟩ := h.frames
  have c6 := h.made
  have c7 := h.raised
  have l1 := cell_lt' c4
  have l2 := cell_lt' r0
  have l3 := cell_lt' f2
  have hmf := makeFn
  have HA := add_nil
  have HS := sort_nil
  have HC := compact_nil
  clear h
  go_enter Tryz.func9, Tryz.ntmps9
  go_wp2
  refine wp_loop_rounds 2 ?_
  rw [rounds_succ]
  go_wp2_with (go_at_call 19; refine (HA _ _).mono ?_; rintro e w5 ⟨rfl, rfl⟩)
  rw [rounds_succ]
  go_wp2_with (first | (go_at_call 19; refine (HA _ _).mono ?_; rintro e w5 ⟨rfl, rfl⟩) | (go_at_call 20; refine (HS _).mono ?_; rintro e w5 ⟨rfl, rfl⟩) | (go_at_call 21; refine (HC _).mono ?_; rintro e w5 ⟨rfl, rfl⟩))
  go_ret
  refine ⟨rfl, ?_⟩
  repeat (first | exact Below.refl _ _ | refine Below.drew ?_ | refine Below.alloc ?_ (by first | (simp; done) | (simp; omega)) _)
end Go.Ck
namespace Go.Ck
open Go Go.RowKit Go.Proofs
theorem eql26_nil (c : Nat) (w : World) : (binOp .eql 26 (.slice none 0 c) (.slice none 0 0)).run Tryz.prog w = .ok (.bool true) w := by
  have := run_equal_slice_nil (P := Tryz.prog) w 26 48 none 0 c Tryz.underlying26
  simp [binOp, this]
theorem eql26_some (a : Addr) (n c : Nat) (w : World) : (binOp .eql 26 (.slice (some a) n c) (.slice none 0 0)).run Tryz.prog w = .ok (.bool false) w := by
  have := run_equal_slice_nil (P := Tryz.prog) w 26 48 (some a) n c Tryz.underlying26
  simp [binOp, this]
theorem eql23_nil (c : Nat) (w : World) : (binOp .eql 23 (.slice none 0 c) (.slice none 0 0)).run Tryz.prog w = .ok (.bool true) w := by
  have := run_equal_slice_nil (P := Tryz.prog) w 23 66 none 0 c Tryz.underlying23
  simp [binOp, this]
theorem eql23_some (a : Addr) (n c : Nat) (w : World) : (binOp .eql 23 (.slice (some a) n c) (.slice none 0 0)).run Tryz.prog w = .ok (.bool false) w := by
  have := run_equal_slice_nil (P := Tryz.prog) w 23 66 (some a) n c Tryz.underlying23
  simp [binOp, this]
theorem i66 : (Tryz.prog.info? 66).map (fun i => (i.size, i.bytes, i.zero)) = some (2, 32, some (.agg #[.string ⟨#[]⟩, .string ⟨#[]⟩])) := by kernel_rfl
theorem flat_len : ∀ code : List Ins, (code.flatMap insC).length = code.length * 5
  | [] => rfl
  | c :: l => by rw [List.flatMap_cons, List.length_append, flat_len l]; show 5 + _ = _; simp; omega
theorem flat_get : ∀ {code : List Ins} {i : Nat} {x : Ins} {j : Nat} {u : Value}, code[i]? = some x → (insC x)[j]? = some u → (code.flatMap insC)[i * 5 + j]? = some u
  | [], i, x, j, u, h, _ => by cases h
  | c :: l, 0, x, j, u, h, hj => by
    cases h
    have hj5 : j < 5 := (List.getElem?_eq_some_iff.1 hj).1
    rw [List.flatMap_cons, List.getElem?_append_left (by show _ < 5; omega)]
    rw [show 0 * 5 + j = j by omega]; exact hj
  | c :: l, i + 1, x, j, u, h, hj => by
    rw [List.flatMap_cons, List.getElem?_append_right (by show 5 ≤ _; omega)]
    have e : (i + 1) * 5 + j - (insC c).length = i * 5 + j := by show _ - 5 = _; omega
    rw [e]
    exact flat_get (by simpa using h) hj
theorem flat_inv {code : List Ins} {k : Nat} {u : Value} (h : (code.flatMap insC)[k]? = some u) : ∃ x, code[k / 5]? = some x ∧ (insC x)[k % 5]? = some u := by
  have hk : k < code.length * 5 := by rw [← flat_len]; exact (List.getElem?_eq_some_iff.1 h).1
  have hx : code[k / 5]? = some (code[k / 5]'(by omega)) := List.getElem?_eq_getElem _
  generalize code[k / 5]'(by omega) = x at hx
  refine ⟨x, hx, ?_⟩
  have hm : k % 5 < (insC x).length := by show _ < 5; omega
  have := flat_get hx (List.getElem?_eq_getElem hm)
  rw [show k / 5 * 5 + k % 5 = k by omega, h] at this
  rw [List.getElem?_eq_getElem hm, Option.some.inj this]
theorem insC_one {code : List Ins} : ∀ u ∈ code.flatMap insC, u.oneCell' = true := fun u hu => by
  obtain ⟨x, _, hx⟩ := List.mem_flatMap.1 hu
  simp only [insC, List.mem_cons, List.not_mem_nil, or_false] at hx
  rcases hx with rfl | rfl | rfl | rfl | rfl <;> rfl
theorem clone13_ok {w : World} {v : Value} {code : List Ins} (hv : CodeV w v code) (hl : code.length ≤ 250) :
    Calls Tryz.prog 13 #[v] w fun e w' => ∃ v', e = .returned v' ∧ CodeV w' v' code ∧ Below w.heap.size w w' ∧ ∀ a n c, v' = .slice (some a) n c → w.heap.size ≤ a.block := by
  obtain ⟨i, hi, hi2⟩ := Option.map_eq_some_iff.1 i48
  injection hi2 with hz0 hz1
  injection hz1 with hz1 hz2
  obtain ⟨a, c, rfl, hlc, hrow⟩ := id hv
  cases a with
  | none =>
    have h0 : code.length = 0 := by
      rcases Nat.eq_zero_or_pos code.length with h | h
      · exact h
      · obtain ⟨g, o, e, _⟩ := hrow h; cases e
    obtain rfl := List.eq_nil_of_length_eq_zero h0
    clear hrow hlc h0 hl hv
    have hq := eql26_nil c w
    go_enter Tryz.func13, Tryz.ntmps13
    go_wp2
    go_ret
    exact ⟨_, rfl, ⟨none, 0, rfl, Nat.le_refl _, fun h => absurd h (Nat.lt_irrefl _)⟩, Below.refl _ _, fun a n c e => by cases e⟩
  | some ad =>
    have hnews : ∀ j u, (code.flatMap insC)[j]? = some u → w.cell? (ad.add j) = some u := fun j u hj => by
      obtain ⟨x, hx, hxj⟩ := flat_inv hj
      obtain ⟨g, o, e, hc⟩ := hrow (by have := (List.getElem?_eq_some_iff.1 hx).1; omega)
      cases e
      rw [add_one]
      have := hc _ x hx _ u hxj
      rw [show o + j = o + j / 5 * 5 + j % 5 by omega]; exact this
    have hnews1 : ∀ j u, (code.flatMap insC)[j]? = some u → (w.alloc (.cells #[] 48)).cell? (ad.add j) = some u := fun j u hj => by
      have h := hnews j u hj
      rw [World.cell?_alloc_some w _ _ (by rw [h]; rfl)]; exact h
    have hown : (w.alloc (.cells #[] 48)).ownsRow w.heap.size 48 5 (.slice (some ⟨w.heap.size, 0, none⟩) 0 0) 0 [] := ⟨rfl, .inr ⟨w.heap.size, 0, #[], rfl, Nat.le_refl _, heap_alloc_new w _, Nat.le_refl _, by simp [maxLen], rfl, rfl⟩⟩
    have hb1 : Below w.heap.size w (w.alloc (.cells #[] 48)) := (Below.refl _ _).alloc (Nat.le_refl _) _
    have HN := Lib.hid hnews1
    have HO := Lib.hid (insC_one (code := code))
    have HB := Lib.hid hb1
    have HL := Lib.hid (flat_len code)
    have hq := eql26_some ad code.length c w
    clear hrow hlc hnews hnews1 hb1 hv
    go_enter Tryz.func13, Tryz.ntmps13
    go_wp2_with (at_builtin; refine wpList_append_own _ rfl _ _ 26 rfl w.heap.size 48 i (.agg #[.int .u8 0, .int .i64 0, .int .i64 0, .int .i64 0, .string ⟨#[]⟩]) 5 48 Tryz.underlying26 hi hz2 hz0 hz1 rfl (by decide) (.slice (some ⟨w.heap.size, 0, none⟩) 0 0) 0 [] rfl hown ad code.length c (code.flatMap insC) rfl HL.out HN.out HO.out (by simp only [maxLen]; omega) (by omega) (by simp) ?_; intro v' w3 hown' hgrow hnil)
    have hE : Below w.heap.size w w3 := HB.out.grown hgrow (by simp) (fun k hk => by cases hk; exact Nat.le_refl _)
    clear hgrow hnil
    rw [Nat.zero_add, List.nil_append] at hown'
    have HLOC : Hid (∀ a n c, v' = .slice (some a) n c → w.heap.size ≤ a.block) := Lib.hid fun a n c e => by
      rcases hown'.2 with ⟨e2, _⟩ | ⟨g, cap, cur, e2, hge, _⟩
      · rw [e] at e2; cases e2
      · rw [e] at e2; cases e2; exact hge
    have HC : Hid (CodeV w3 v' code) := Lib.hid (by
      obtain ⟨a2, c2, rfl⟩ := own_slice hown'
      refine ⟨a2, c2, rfl, ?_, fun h0 => ?_⟩
      · rcases hown'.2 with ⟨e, h0⟩ | ⟨g, cap, cur, e, _, _, hnc, _⟩
        · omega
        · cases e; exact hnc
      · rcases hown'.2 with ⟨e, h00⟩ | ⟨g, cap, cur, e, _⟩
        · omega
        · cases e
          refine ⟨g, 0, rfl, fun i x hx j u hj => ?_⟩
          have := hown'.cells (g := g) rfl _ _ (flat_get hx hj)
          rw [add_one] at this
          rw [show 0 + i * 5 + j = 0 + (i * 5 + j) by omega]; exact this)
    have HE := Lib.hid hE
    clear hown' hE
    go_wp2
    go_ret
    exact ⟨_, rfl, HC.out, HE.out, HLOC.out⟩
end Go.Ck
namespace Go.Ck
open Go Go.RowKit Go.Proofs
def rtsC (x : ByteArray × ByteArray) : List Value := [.string x.1, .string x.2]
theorem rlat_len : ∀ rs : Rts, (rs.flatMap rtsC).length = rs.length * 2
  | [] => rfl
  | c :: l => by rw [List.flatMap_cons, List.length_append, rlat_len l]; show 2 + _ = _; simp; omega
theorem rlat_get : ∀ {rs : Rts} {i : Nat} {x : ByteArray × ByteArray} {j : Nat} {u : Value}, rs[i]? = some x → (rtsC x)[j]? = some u → (rs.flatMap rtsC)[i * 2 + j]? = some u
  | [], i, x, j, u, h, _ => by cases h
  | c :: l, 0, x, j, u, h, hj => by
    cases h
    have hj5 : j < 2 := (List.getElem?_eq_some_iff.1 hj).1
    rw [List.flatMap_cons, List.getElem?_append_left (by show _ < 2; omega)]
    rw [show 0 * 2 + j = j by omega]; exact hj
  | c :: l, i + 1, x, j, u, h, hj => by
    rw [List.flatMap_cons, List.getElem?_append_right (by show 2 ≤ _; omega)]
    have e : (i + 1) * 2 + j - (rtsC c).length = i * 2 + j := by show _ - 2 = _; omega
    rw [e]
    exact rlat_get (by simpa using h) hj
theorem rlat_inv {rs : Rts} {k : Nat} {u : Value} (h : (rs.flatMap rtsC)[k]? = some u) : ∃ x, rs[k / 2]? = some x ∧ (rtsC x)[k % 2]? = some u := by
  have hk : k < rs.length * 2 := by rw [← rlat_len]; exact (List.getElem?_eq_some_iff.1 h).1
  have hx : rs[k / 2]? = some (rs[k / 2]'(by omega)) := List.getElem?_eq_getElem _
  generalize rs[k / 2]'(by omega) = x at hx
  refine ⟨x, hx, ?_⟩
  have hm : k % 2 < (rtsC x).length := by show _ < 2; omega
  have := rlat_get hx (List.getElem?_eq_getElem hm)
  rw [show k / 2 * 2 + k % 2 = k by omega, h] at this
  rw [List.getElem?_eq_getElem hm, Option.some.inj this]
theorem rtsC_one {rs : Rts} : ∀ u ∈ rs.flatMap rtsC, u.oneCell' = true := fun u hu => by
  obtain ⟨x, _, hx⟩ := List.mem_flatMap.1 hu
  simp only [rtsC, List.mem_cons, List.not_mem_nil, or_false] at hx
  rcases hx with rfl | rfl <;> rfl
theorem clone14_ok {w : World} {v : Value} {rs : Rts} (hv : RootsV w v rs) (hl : rs.length ≤ 60000) :
    Calls Tryz.prog 14 #[v] w fun e w' => (∃ a n c, e = .returned (.slice a n c)) ∧ Below w.heap.size w w' := by
  obtain ⟨i, hi, hi2⟩ := Option.map_eq_some_iff.1 i66
  injection hi2 with hz0 hz1
  injection hz1 with hz1 hz2
  obtain ⟨a, c, rfl, hlc, hrow⟩ := id hv
  cases a with
  | none =>
    have h0 : rs.length = 0 := by
      rcases Nat.eq_zero_or_pos rs.length with h | h
      · exact h
      · obtain ⟨g, o, e, _⟩ := hrow 0 _ (List.getElem?_eq_getElem h); cases e
    obtain rfl := List.eq_nil_of_length_eq_zero h0
    clear hrow hlc h0 hl hv
    have hq := eql23_nil c w
    go_enter Tryz.func14, Tryz.ntmps14
    go_wp2
    go_ret
    exact ⟨⟨_, _, _, rfl⟩, Below.refl _ _⟩
  | some ad =>
    have hnews : ∀ j u, (rs.flatMap rtsC)[j]? = some u → w.cell? (ad.add j) = some u := fun j u hj => by
      obtain ⟨x, hx, hxj⟩ := rlat_inv hj
      obtain ⟨g, o, e, k1, k2⟩ := hrow _ x hx
      cases e
      rw [add_one]
      rcases Nat.mod_two_eq_zero_or_one j with h | h
      · rw [h] at hxj; cases hxj
        rw [show o + j = o + j / 2 * 2 by omega]; exact k1
      · rw [h] at hxj; cases hxj
        rw [show o + j = o + j / 2 * 2 + 1 by omega]; exact k2
    have hnews1 : ∀ j u, (rs.flatMap rtsC)[j]? = some u → (w.alloc (.cells #[] 66)).cell? (ad.add j) = some u := fun j u hj => by
      have h := hnews j u hj
      rw [World.cell?_alloc_some w _ _ (by rw [h]; rfl)]; exact h
    have hown : (w.alloc (.cells #[] 66)).ownsRow w.heap.size 66 2 (.slice (some ⟨w.heap.size, 0, none⟩) 0 0) 0 [] := ⟨rfl, .inr ⟨w.heap.size, 0, #[], rfl, Nat.le_refl _, heap_alloc_new w _, Nat.le_refl _, by simp [maxLen], rfl, rfl⟩⟩
    have hb1 : Below w.heap.size w (w.alloc (.cells #[] 66)) := (Below.refl _ _).alloc (Nat.le_refl _) _
    have HN := Lib.hid hnews1
    have HO := Lib.hid (rtsC_one (rs := rs))
    have HB := Lib.hid hb1
    have HL := Lib.hid (rlat_len rs)
    have hq := eql23_some ad rs.length c w
    clear hrow hlc hnews hnews1 hb1 hv
    go_enter Tryz.func14, Tryz.ntmps14
    go_wp2_with (at_builtin; refine wpList_append_own _ rfl _ _ 23 rfl w.heap.size 66 i (.agg #[.string ⟨#[]⟩, .string ⟨#[]⟩]) 2 32 Tryz.underlying23 hi hz2 hz0 hz1 rfl (by decide) (.slice (some ⟨w.heap.size, 0, none⟩) 0 0) 0 [] rfl hown ad rs.length c (rs.flatMap rtsC) rfl HL.out HN.out HO.out (by simp only [maxLen]; omega) (by omega) (by simp) ?_; intro v' w3 hown' hgrow hnil)
    have hE : Below w.heap.size w w3 := HB.out.grown hgrow (by simp) (fun k hk => by cases hk; exact Nat.le_refl _)
    clear hgrow hnil
    have HC : Hid (∃ a n c, v' = .slice a n c) := Lib.hid (by obtain ⟨a2, c2, rfl⟩ := own_slice hown'; exact ⟨_, _, _, rfl⟩)
    have HE := Lib.hid hE
    clear hown' hE
    obtain ⟨a2, n2, c2, rfl⟩ := HC.out
    go_wp2
    go_ret
    exact ⟨⟨_, _, _, rfl⟩, HE.out⟩
theorem i26 : (Tryz.prog.info? 26).map (fun i => (i.size, i.bytes, i.zero)) = some (1, 24, some (.slice none 0 0)) := by kernel_rfl
theorem mk36 {n : Nat} (hn : n ≤ 60000) (w : World) : (Instr.makeSlice 36 (.int .i64 (n : Int)) (.int .i64 (n : Int))).run Tryz.prog w = .ok (.slice (some ⟨w.heap.size, 0, none⟩) n n) (w.alloc (.cells (madeCells #[.int .i64 0] n) 3)) := by
  obtain ⟨i, hi, hi2⟩ := Option.map_eq_some_iff.1 i3
  injection hi2 with h1 h2
  injection h2 with h2 h3
  have := run_makeSlice (P := Tryz.prog) w 36 3 i _ Tryz.underlying36 hi h3 .i64 .i64 (n : Int) (n : Int) (by omega) (by omega) (by rw [h1]; omega) (by rw [h2]; omega) (by omega)
  rw [this, h1]
  simp only [Int.toNat_natCast, Nat.mul_one]
  rfl
end Go.Ck
namespace Go.Ck
open Go Go.RowKit Go.Proofs
theorem ownsRow_below {w w' : World} {base e size n : Nat} {v : Value} {xs : List Value} (h : w.ownsRow base e size v n xs) (hb : Below w.heap.size w w') : w'.ownsRow base e size v n xs := by
  refine ⟨h.1, ?_⟩
  rcases h.2 with h | ⟨g, cap, cur, h1, h2, h3, h4⟩
  · exact .inl h
  · exact .inr ⟨g, cap, cur, h1, h2, (hb.block g (Array.getElem?_eq_some_iff.1 h3).1).trans h3, h4⟩
theorem row_setCell {w : World} {base e size n : Nat} {v : Value} {xs : List Value} (h : w.ownsRow base e size v n xs) {p : Addr} {u : Value} (hp : v.ownBlock ≠ some p.block) : (w.setCell p u).ownsRow base e size v n xs := by
  refine ⟨h.1, ?_⟩
  rcases h.2 with h | ⟨g, cap, cur, rfl, h2, h3, h4⟩
  · exact .inl h
  · exact .inr ⟨g, cap, cur, rfl, h2, by rw [Below.heap_setCell _ _ _ _ (fun e => hp (by rw [← e]; rfl))]; exact h3, h4⟩
def vC (lv : Value) (hbk gb frb m : Nat) : Array Value := #[lv, .slice none 0 0, .pointer (some ⟨hbk, 0, none⟩), .slice (some ⟨gb, 0, none⟩) m m, .slice (some ⟨frb, 0, none⟩) 1 1, .slice none 0 0, .slice none 0 0, .pointer none, .int .u8 0, .int .i64 0, .int .u8 0, .int .i64 0, .string ⟨#[]⟩, .pointer none]
structure NVI (B hbk m : Nat) (wr : World) (lv : Value) (n : Nat) : Prop where
  vblk : wr.heap[B + 1 + 1 + 1]? = some (.cells (vC lv hbk B (B + 1 + 1) m) 62 (0, 0))
  fblk : wr.heap[B + 1]? = some (.cells #[.int .i64 0, .int .i64 0, .slice none 0 0, .slice none 0 0, .int .i64 0] 56 (0, 0))
  frblk : wr.heap[B + 1 + 1]? = some (.cells #[.pointer (some ⟨B + 1, 0, none⟩)] 53 (0, 0))
  gblk : ∃ cs, wr.heap[B]? = some (.cells cs 3 (0, 0)) ∧ cs.size = m
  row : ∃ xs, wr.ownsRow (B + 1 + 1 + 1 + 1) 26 1 lv n xs
theorem NVI.lt {B hbk m n : Nat} {wr : World} {lv : Value} (h : NVI B hbk m wr lv n) : B + 1 + 1 + 1 < wr.heap.size := (Array.getElem?_eq_some_iff.1 h.vblk).1
theorem NVI.grow {B hbk m n : Nat} {wr wr' : World} {lv : Value} (h : NVI B hbk m wr lv n) (hb : Below wr.heap.size wr wr') : NVI B hbk m wr' lv n := by
  have hl := h.lt
  obtain ⟨cs, g1, g2⟩ := h.gblk
  obtain ⟨xs, hr⟩ := h.row
  exact ⟨(hb.block _ hl).trans h.vblk, (hb.block _ (by omega)).trans h.fblk, (hb.block _ (by omega)).trans h.frblk, ⟨cs, (hb.block _ (by omega)).trans g1, g2⟩, xs, ownsRow_below hr hb⟩
theorem NVI.group {B hbk m n : Nat} {wr : World} {lv : Value} (h : NVI B hbk m wr lv n) (i : Nat) (u : Value) : NVI B hbk m (wr.setCell ⟨B, i, none⟩ u) lv n := by
  obtain ⟨cs, g1, g2⟩ := h.gblk
  obtain ⟨xs, hr⟩ := h.row
  have w6 : ∀ g, g ≠ B → (wr.setCell ⟨B, i, none⟩ u).heap[g]? = wr.heap[g]? := fun g hg => heap_setCell_other wr ⟨B, i, none⟩ g _ hg
  refine ⟨(w6 _ (by omega)).trans h.vblk, (w6 _ (by omega)).trans h.fblk, (w6 _ (by omega)).trans h.frblk, ⟨_, heap_setCell_same wr B i _ _ _ g1, by simp [g2]⟩, xs, row_setCell hr ?_⟩
  intro e
  rcases hr.2 with ⟨e2, _⟩ | ⟨g, cap, cur, e2, hge, _⟩
  · rw [e2] at e; cases e
  · rw [e2] at e; cases e; omega
theorem NVI.cells {B hbk m n : Nat} {wr : World} {lv : Value} (h : NVI B hbk m wr lv n) (i : Nat) : wr.cell? ⟨B + 1 + 1 + 1, i, none⟩ = (vC lv hbk B (B + 1 + 1) m)[i]? ∧ wr.frozen? ⟨B + 1 + 1 + 1, i, none⟩ = false :=
  ⟨by simp [World.cell?, h.vblk], by simp [World.frozen?, h.vblk]⟩
theorem NVI.gcell {B hbk m n : Nat} {wr : World} {lv : Value} (h : NVI B hbk m wr lv n) {i : Nat} (hi : i < m) : (∃ v, wr.cell? ⟨B, i, none⟩ = some v) ∧ wr.frozen? ⟨B, i, none⟩ = false := by
  obtain ⟨cs, g1, g2⟩ := h.gblk
  exact ⟨⟨cs[i]'(by omega), by simp [World.cell?, g1]⟩, by simp [World.frozen?, g1]⟩
theorem NVI.appended {B hbk m n n' : Nat} {wr X w3 : World} {lv : Value} {a : Option Addr} {c : Nat} {xs : List Value} (h : NVI B hbk m wr lv n) (hX : Below wr.heap.size wr X) (hg : X.grownBy w3 lv.ownBlock) (ho : w3.ownsRow (B + 1 + 1 + 1 + 1) 26 1 (.slice a n' c) n' xs) :
    w3.cell? ⟨B + 1 + 1 + 1, 0, none⟩ = some lv ∧ w3.frozen? ⟨B + 1 + 1 + 1, 0, none⟩ = false ∧ B + 1 + 1 + 1 < w3.heap.size ∧ NVI B hbk m (w3.setCell ⟨B + 1 + 1 + 1, 0, none⟩ (.slice a n' c)) (.slice a n' c) n' := by
  have hl := h.lt
  have hsX := hX.size
  have hown : ∀ b, b < B + 1 + 1 + 1 + 1 → some b ≠ lv.ownBlock := fun b hb e => by
    obtain ⟨xs, hr⟩ := h.row
    rcases hr.2 with ⟨e2, _⟩ | ⟨g, cap, cur, e2, hge, _⟩
    · rw [e2] at e; cases e
    · rw [e2] at e; simp only [Value.ownBlock, Option.some.injEq] at e; omega
  have k : ∀ b, b < B + 1 + 1 + 1 + 1 → w3.heap[b]? = wr.heap[b]? := fun b hb => (hg.block b (by omega) (hown b hb)).trans (hX.block b (by omega))
  have hv3 := (k (B + 1 + 1 + 1) (by omega)).trans h.vblk
  have w6 : ∀ g, g ≠ B + 1 + 1 + 1 → (w3.setCell ⟨B + 1 + 1 + 1, 0, none⟩ (.slice a n' c)).heap[g]? = w3.heap[g]? := fun g hg => heap_setCell_other w3 ⟨B + 1 + 1 + 1, 0, none⟩ g _ hg
  obtain ⟨cs, g1, g2⟩ := h.gblk
  refine ⟨by simp [World.cell?, hv3, vC], by simp [World.frozen?, hv3], (Array.getElem?_eq_some_iff.1 hv3).1, ⟨?_, (w6 _ (by omega)).trans ((k _ (by omega)).trans h.fblk), (w6 _ (by omega)).trans ((k _ (by omega)).trans h.frblk), ⟨cs, (w6 _ (by omega)).trans ((k _ (by omega)).trans g1), g2⟩, xs, row_setCell ho ?_⟩⟩
  · rw [heap_setCell_same w3 (B + 1 + 1 + 1) 0 _ _ _ hv3]; rfl
  · intro e
    rcases ho.2 with ⟨e2, _⟩ | ⟨g, cap, cur, e2, hge, _⟩
    · rw [e2] at e; cases e
    · rw [e2] at e; simp only [Value.ownBlock, Option.some.injEq] at e; omega
theorem NVI.roots {B hbk m n : Nat} {wr : World} {lv : Value} (h : NVI B hbk m wr lv n) (v : Value) : NewV (wr.setCell ⟨B + 1 + 1 + 1, 1, none⟩ v) (B + 1 + 1 + 1) := by
  have hv := heap_setCell_same wr (B + 1 + 1 + 1) 1 _ _ v h.vblk
  have w6 : ∀ g, g ≠ B + 1 + 1 + 1 → (wr.setCell ⟨B + 1 + 1 + 1, 1, none⟩ v).heap[g]? = wr.heap[g]? := fun g hg => heap_setCell_other wr ⟨B + 1 + 1 + 1, 1, none⟩ g _ hg
  have hf := (w6 (B + 1) (by omega)).trans h.fblk
  have hr := (w6 (B + 1 + 1) (by omega)).trans h.frblk
  exact ⟨⟨B + 1 + 1, B + 1, by simp [World.cell?, hv, vC], by simp [World.cell?, hr], by simp [World.cell?, hf], by simp [World.cell?, hf]⟩, by simp [World.cell?, hv, vC], by simp [World.cell?, hv, vC], by simp [World.cell?, hv, vC]⟩
theorem CodeV.keptG {gb : Nat} {w w' : World} {v : Value} {code : List Ins} (h : CodeV w v code) (hk : KeptG gb w w') (hb : ∀ a n c, v = .slice (some a) n c → a.block ≠ gb) : CodeV w' v code := by
  obtain ⟨a, c, h1, h2, h3⟩ := h
  refine ⟨a, c, h1, h2, fun h0 => ?_⟩
  obtain ⟨g, o, e, hc⟩ := h3 h0
  subst e
  have := hb _ _ _ h1
  exact ⟨g, o, rfl, fun i x hx j u hu => hk.cell this (hc i x hx j u hu)⟩
theorem opP_b {m n r : Int} {x : Ins} (h : opP m n r x) (hm : m ≤ 256) (hn : n ≤ 256) : 0 ≤ x.b ∧ x.b ≤ 255 := ⟨(opP_ins h hm hn).1.2.1, (opP_ins h hm hn).1.2.2.1⟩
end Go.Ck
namespace Go.Ck
open Go Go.RowKit Go.Proofs
theorem CodeV.blocks {w w' : World} {v : Value} {code : List Ins} (h : CodeV w v code) (hb : ∀ a n c, v = .slice (some a) n c → a.block < w.heap.size → w'.heap[a.block]? = w.heap[a.block]?) : CodeV w' v code := by
  obtain ⟨a, c, h1, h2, h3⟩ := h
  refine ⟨a, c, h1, h2, fun h0 => ?_⟩
  obtain ⟨g, o, e, hc⟩ := h3 h0
  subst e
  refine ⟨g, o, rfl, fun i x hx j u hu => ?_⟩
  have hl := hc i x hx j u hu
  have hb' := hb ⟨g, o, none⟩ _ _ h1 (cell_lt' hl)
  rw [World.cell?_of_block (w := w) (a := ⟨g, o + i * 5 + j, none⟩) hb']; exact hl
theorem new_ok {w : World} {funs : List (List Ins)} {rs : Rts} {fv rv : Value} {hbk : Nat} (hf : FunsV w fv funs) (hr : RootsV w rv rs) (hm : funs.length ≤ 250) (hn : ∀ c ∈ funs, c.length ≤ 250) (hrs : rs.length ≤ 60000) (hI : ∀ c ∈ funs, ∀ x ∈ c, rng x.a ∧ rng x.b) {B : Nat} (hT : TakesV B w) (hB : B ≤ w.heap.size) :
    Calls Tryz.prog 7 #[.agg #[fv, rv], .pointer (some ⟨hbk, 0, none⟩)] w fun e w' => Hid (Below w.heap.size w w') ∧ ((∃ vb, e = .returned (.tuple #[.pointer (some ⟨vb, 0, none⟩), .int .i64 0]) ∧ Hid (checkP funs rs ∧ NewV w' vb)) ∨ (e = .returned (.tuple #[.pointer none, .int .i64 17]) ∧ Hid (¬ checkP funs rs))) := by
  obtain ⟨fa, fc, rfl, hfc, _⟩ := id hf
  obtain ⟨ra, rc, rfl, hrc, _⟩ := id hr
  obtain ⟨W3, hW3⟩ : ∃ W3, W3 = w.alloc (.cells #[.slice fa funs.length fc, .slice ra rs.length rc] 25) := ⟨_, rfl⟩
  have hb3 : Below w.heap.size w W3 := by rw [hW3]; exact (Below.refl _ _).alloc (Nat.le_refl _) _
  have hs3 : W3.heap.size = w.heap.size + 1 := by rw [hW3]; simp
  have b0 : W3.cell? ⟨w.heap.size, 0, none⟩ = some (.slice fa funs.length fc) := by rw [hW3]; simp [go_sem]
  have b1 : W3.cell? ⟨w.heap.size, 1, none⟩ = some (.slice ra rs.length rc) := by rw [hW3]; simp [go_sem]
  have H12 := Lib.hid (checkC_ok (hf.below hb3) (hr.below hb3) hm hn hrs hI (hT.at (hb3.mono hB)) (by omega))
  have HB3 := Lib.hid hb3
  have HFV := Lib.hid hf
  have HRV := Lib.hid hr
  have im : (funs.length : Int) ≤ 250 := by omega
  by_cases hc : checkP funs rs
  · rw [checkI_t hc] at H12
    have HC := Lib.hid hc
    have HOP : Hid (∀ (f : Nat) c, funs[f]? = some c → ∀ x ∈ c, (0 ≤ x.b ∧ x.b ≤ 255) ∧ (x.op = 6 → 1 ≤ x.a ∧ 1 ≤ x.b ∧ x.a + x.b ≤ funs.length)) := Lib.hid fun f c hfc x hx =>
      ⟨opP_b (checkP_ops hc hfc hx) (by omega) (by have := hn c (List.mem_of_getElem? hfc); omega), opP_grp (checkP_ops hc hfc hx)⟩
    have MK := fun w => mk36 (n := funs.length) (by omega) w
    clear hf hr hb3 hT hI hc
    go_enter Tryz.func7, Tryz.ntmps7
    go_wp2_with fail
    rw [← hW3]
    clear hW3
    refine H12.out.mono ?_
    rintro e w5 ⟨rfl, hb5⟩
    have HB5 := Lib.hid (HB3.out.trans (hb5.mono HB3.out.size))
    have c0 : w5.cell? ⟨w.heap.size, 0, none⟩ = some (.slice fa funs.length fc) := by rw [hb5.cell (by exact cell_lt' b0)]; exact b0
    have c1 : w5.cell? ⟨w.heap.size, 1, none⟩ = some (.slice ra rs.length rc) := by rw [hb5.cell (by exact cell_lt' b1)]; exact b1
    have hwl : w.heap.size < w5.heap.size := by have := hb5.size; omega
    clear hb5 H12 b0 b1
    obtain ⟨W6, hW6⟩ : ∃ W6, W6 = (((w5.alloc (.cells (madeCells #[.int .i64 0] funs.length) 3)).alloc (.cells #[.int .i64 0, .int .i64 0, .slice none 0 0, .slice none 0 0, .int .i64 0] 56)).alloc (.cells #[.pointer (some ⟨w5.heap.size + 1, 0, none⟩)] 53)).alloc (.cells #[.slice none 0 0, .slice none 0 0, .pointer (some ⟨hbk, 0, none⟩), .slice (some ⟨w5.heap.size, 0, none⟩) funs.length funs.length, .slice (some ⟨w5.heap.size + 1 + 1, 0, none⟩) 1 1, .slice none 0 0, .slice none 0 0, .pointer none, .int .u8 0, .int .i64 0, .int .u8 0, .int .i64 0, .string ⟨#[]⟩, .pointer none] 62) := ⟨_, rfl⟩
    have hs6 : W6.heap.size = w5.heap.size + 1 + 1 + 1 + 1 := by rw [hW6]; simp
    have hb6 : Below w5.heap.size w5 W6 := by rw [hW6]; exact ((((Below.refl _ _).alloc (Nat.le_refl _) _).alloc (by simp) _).alloc (by simp; omega) _).alloc (by simp; omega) _
    have hnv6 : NVI w5.heap.size hbk funs.length W6 (.slice none 0 0) 0 := by
      have push : ∀ (w : World) (o : Obj) (k : Nat), k < w.heap.size → (w.alloc o).heap[k]? = w.heap[k]? := fun w o k hk => Below.heap_alloc w o k hk
      have new : ∀ (w : World) (o : Obj) (k : Nat), k = w.heap.size → (w.alloc o).heap[k]? = some o := fun w o k hk => by subst hk; exact heap_alloc_new w o
      rw [hW6]
      refine ⟨new _ _ _ (by simp), ?_, ?_, ⟨madeCells #[.int .i64 0] funs.length, ?_, size_madeCells _ _⟩, _, World.ownsRow_nil _ _ _ _⟩
      · rw [push _ _ _ (by simp), push _ _ _ (by simp)]; exact new _ _ _ (by simp)
      · rw [push _ _ _ (by simp)]; exact new _ _ _ (by simp)
      · rw [push _ _ _ (by simp; omega), push _ _ _ (by simp; omega), push _ _ _ (by simp)]; exact new _ _ _ rfl
    have HNV6 := Lib.hid hnv6
    have HB6 := Lib.hid hb6
    have c06 : W6.cell? ⟨w.heap.size, 0, none⟩ = some (.slice fa funs.length fc) := by rw [hb6.cell (by exact cell_lt' c0)]; exact c0
    have hwl6 : w.heap.size < W6.heap.size := by omega
    have HCE : Hid (∀ x, Below w5.heap.size w5 x → x.cell? ⟨w.heap.size, 0, none⟩ = some (.slice fa funs.length fc) ∧ x.cell? ⟨w.heap.size, 1, none⟩ = some (.slice ra rs.length rc) ∧ w.heap.size < x.heap.size ∧ Below w.heap.size w x) := Lib.hid fun x hx =>
      ⟨by rw [hx.cell (by exact cell_lt' c0)]; exact c0, by rw [hx.cell (by exact cell_lt' c1)]; exact c1, by have := hx.size; omega, HB5.out.trans (hx.mono HB5.out.size)⟩
    obtain ⟨i26', hi, hi2⟩ := Option.map_eq_some_iff.1 i26
    have HI := Lib.hid hi
    have HZ1 := Lib.hid (congrArg Prod.fst hi2 : i26'.size = 1)
    have HZ2 := Lib.hid (congrArg (fun x => x.2.1) hi2 : i26'.bytes = 24)
    have HZ0 := Lib.hid (congrArg (fun x => x.2.2) hi2 : i26'.zero = some (.slice none 0 0))
    clear hb6 hnv6 hi hi2
    go_upto_region 7 with (fail)
    rw [← hW6]
    clear hW6 MK
    go_wp2
    go_loopw [33] (fun j wr => ∃ k : Nat, k ≤ funs.length ∧ j = .int .i64 k ∧ ∃ a c, Hid (NVI w5.heap.size hbk funs.length wr (.slice a k c) k) ∧ Hid (Below w5.heap.size w5 wr)) (fun j _ => funs.length - (intOf j).toNat)
    case atStart => exact ⟨0, Nat.zero_le _, rfl, none, 0, HNV6, HB6⟩
    case round =>
      obtain ⟨k, hk, rfl, la, lc, hNV, hBL⟩ := hrel
      obtain ⟨q0, q1, q2, q3⟩ := HCE.out _ hBL.out
      have HQ3 := Lib.hid q3
      by_cases hlt : k < funs.length
      · obtain ⟨code, hcode⟩ : ∃ code, funs[k]? = some code := ⟨funs[k], List.getElem?_eq_getElem hlt⟩
        have hcm := List.mem_of_getElem? hcode
        have hn1 := hn code hcm
        obtain ⟨_, _, g1, o1, ca, cc, rfl, c0w, hcv⟩ := HFV.out.at hcode
        have HFC := Lib.hid hcode
        have c0r : wr.cell? ⟨g1, o1 + k, none⟩ = some (.slice ca code.length cc) := by rw [q3.cell (by exact cell_lt' c0w)]; exact c0w
        have H13 := Lib.hid (clone13_ok (hcv.below q3) hn1)
        have y1 : (k : Int) < (funs.length : Int) := by omega
        have y0 : (0 : Int) ≤ (k : Int) := by omega
        have yn : (code.length : Int) ≤ 250 := by omega
        clear hcode hcv q3 q1
        go_wp2_with fail
        refine H13.out.mono ?_
        rintro e w7 ⟨v', rfl, hcv7, hb7, hloc⟩
        obtain ⟨ca', cc', rfl, hcc', _⟩ := id hcv7
        have hnv7 := hNV.out.grow hb7
        have HNV7 := Lib.hid hnv7
        have e0 : w7.cell? ⟨w5.heap.size + 1 + 1 + 1, 0, none⟩ = some (.slice la k lc) := (hnv7.cells 0).1
        have vl7 := hnv7.lt
        have HCV7 := Lib.hid hcv7
        have HB7 := Lib.hid hb7
        have HLOC := Lib.hid hloc
        have hown7 : ∃ xs, w7.ownsRow (w5.heap.size + 1 + 1 + 1 + 1) 26 1 (.slice la k lc) k xs := hnv7.row
        obtain ⟨xs, hown7⟩ := hown7
        have HO7 := Lib.hid hown7
        clear hcv7 hb7 hloc hnv7 hown7 H13
        go_wp2_with (at_builtin; refine wpList_append_own _ rfl _ _ 22 rfl (w5.heap.size + 1 + 1 + 1 + 1) 26 i26' (.slice none 0 0) 1 24 Tryz.underlying22 HI.out HZ0.out HZ1.out HZ2.out rfl (by decide) (.slice la k lc) k xs rfl (HO7.out.alloc _) ⟨w7.heap.size, 0, none⟩ 1 1 [.slice ca' code.length cc'] rfl (by simp) (fun j u hj => by match j, hj with | 0, hj => cases hj; simp [go_sem]) (by intro u hu; obtain rfl := List.mem_singleton.1 hu; rfl) (by simp only [maxLen]; omega) (by omega) (by simp; omega) ?_; intro v8 w8 hown' hgrow hnil; obtain ⟨a8, c8, rfl⟩ := own_slice hown'; obtain ⟨f0, f1, f2, f3⟩ := NVI.appended HNV7.out ((Below.refl _ _).alloc (Nat.le_refl _) _) hgrow hown'; have HN8 := Lib.hid f3; have HG8 := Lib.hid hgrow; clear hown' hgrow hnil f3)
        generalize hw9 : w8.setCell ⟨w5.heap.size + 1 + 1 + 1, 0, none⟩ (.slice a8 (k + 1) c8) = w9 at *
        have hlv : ∀ b, (Value.slice la k lc).ownBlock = some b → w5.heap.size + 1 + 1 + 1 + 1 ≤ b ∧ b < wr.heap.size := by
          obtain ⟨xs, hr⟩ := hNV.out.row
          exact hr.lt
        have hvl := hNV.out.lt
        have h9b : ∀ b, b < w7.heap.size → b ≠ w5.heap.size + 1 + 1 + 1 → some b ≠ (Value.slice la k lc).ownBlock → w9.heap[b]? = w7.heap[b]? := fun b hb h1 h2 => by
          rw [← hw9, heap_setCell_other w8 ⟨w5.heap.size + 1 + 1 + 1, 0, none⟩ b _ h1, HG8.out.block b (by simp; omega) h2]
          exact heap_alloc_old w7 _ hb
        have HCV9 : Hid (CodeV w9 (.slice ca' code.length cc') code) := Lib.hid (HCV7.out.blocks fun a n c e hl => by
          have := HLOC.out a n c e
          refine h9b _ hl (by omega) (fun e2 => ?_)
          have := hlv _ e2.symm
          omega)
        have HB9 : Hid (Below w5.heap.size w5 w9) := Lib.hid (by
          have hs7 := HB7.out.size
          have h7 : Below w5.heap.size w5 w7 := hBL.out.trans (HB7.out.mono (by omega))
          have h8 : Below w5.heap.size w5 w8 := (h7.alloc h7.size _).grown HG8.out (by simp; have := h7.size; omega) (fun b hb => by have := hlv b hb; omega)
          rw [← hw9]
          exact h8.setCell (by show w5.heap.size ≤ w5.heap.size + 1 + 1 + 1; omega) _)
        have HLC : Hid (∀ a n c, Value.slice ca' code.length cc' = .slice (some a) n c → a.block ≠ w5.heap.size) := Lib.hid fun a n c e => by have := HLOC.out a n c e; omega
        clear hw9 f0 f1 f2 h9b HG8 HO7 HCV7 HLOC HNV7 hlv e0 vl7
        go_loopw [53] (fun j wr => ∃ i : Nat, i ≤ code.length ∧ j = .int .i64 i ∧ Hid (NVI w5.heap.size hbk funs.length wr (.slice a8 (k + 1) c8) (k + 1)) ∧ Hid (Below w5.heap.size w5 wr) ∧ Hid (CodeV wr (.slice ca' code.length cc') code)) (fun j _ => code.length - (intOf j).toNat)
        case atStart => exact ⟨0, Nat.zero_le _, rfl, HN8, HB9, HCV9⟩
        case round =>
          obtain ⟨i, hi, rfl, hNI, hBI, hCI⟩ := hrel
          by_cases hlti : i < code.length
          · obtain ⟨x, hx⟩ : ∃ x, code[i]? = some x := ⟨code[i], List.getElem?_eq_getElem hlti⟩
            obtain ⟨_, _, cg, co, rfl, x0, x1, x2, x3, x4⟩ := hCI.out.at hx
            have hxm : x ∈ code := List.mem_of_getElem? hx
            obtain ⟨⟨hb0, hb1⟩, hgrp⟩ := HOP.out k code HFC.out x hxm
            obtain ⟨bn, hbn⟩ : ∃ bn : Nat, x.b = bn := ⟨x.b.toNat, by omega⟩
            have gl2 := cell_lt' x0
            have ii1 : (i : Int) < (code.length : Int) := by omega
            have ii0 : (0 : Int) ≤ (i : Int) := by omega
            have hb1' : (bn : Int) ≤ 255 := by omega
            have hgl := hNI.out.lt
            obtain ⟨X2, hX2⟩ : ∃ X2, X2 = wr.alloc (.cells #[.int .u8 x.op, .int .i64 x.a, .int .i64 x.b, .int .i64 x.c, .string x.t] 48) := ⟨_, rfl⟩
            have hbX : Below wr.heap.size wr X2 := by rw [hX2]; exact (Below.refl _ _).alloc (Nat.le_refl _) _
            have hsX : X2.heap.size = wr.heap.size + 1 := by rw [hX2]; simp
            have v0 : X2.cell? ⟨wr.heap.size, 0, none⟩ = some (.int .u8 x.op) := by rw [hX2]; simp [go_sem]
            have v1 : X2.cell? ⟨wr.heap.size, 1, none⟩ = some (.int .i64 x.a) := by rw [hX2]; simp [go_sem]
            have v2 : X2.cell? ⟨wr.heap.size, 2, none⟩ = some (.int .i64 bn) := by rw [hX2, ← hbn]; simp [go_sem]
            have HCX : Hid (∀ y, KeptG w5.heap.size X2 y → y.cell? ⟨wr.heap.size, 0, none⟩ = some (.int .u8 x.op) ∧ y.cell? ⟨wr.heap.size, 1, none⟩ = some (.int .i64 x.a) ∧ y.cell? ⟨wr.heap.size, 2, none⟩ = some (.int .i64 bn) ∧ wr.heap.size < y.heap.size ∧ Below w5.heap.size w5 y ∧ CodeV y (.slice (some ⟨cg, co, none⟩) code.length cc') code) := Lib.hid fun y hy =>
              ⟨hy.cell (by omega) v0, hy.cell (by omega) v1, hy.cell (by omega) v2, by have := hy.size; omega, (hBI.out.trans (hbX.mono hBI.out.size)).trans (hy.below (Nat.le_refl _) (by omega)), (hCI.out.below hbX).keptG hy HLC.out⟩
            have HNX := Lib.hid (hNI.out.grow hbX)
            have HXX := Lib.hid hx
            have HGRP : Hid (x.op = 6 → ∃ A : Nat, x.a = A ∧ A + bn ≤ funs.length) := Lib.hid fun ho => by
              obtain ⟨h1, h2, h3⟩ := hgrp ho
              exact ⟨x.a.toNat, by omega, by omega⟩
            clear hbX hx hgrp hb0 hb1 hbn v0 v1 v2
            go_upto_region 15 with (fail)
            rw [← hX2]
            clear hX2
            obtain ⟨v0, v1, v2, v3, _⟩ := HCX.out X2 (KeptG.of_below (Below.refl _ _))
            go_wp2
            go_loopw [59] (fun j wq => ∃ r : Nat, r ≤ bn ∧ j = .int .i64 r ∧ Hid (KeptG w5.heap.size X2 wq) ∧ Hid (NVI w5.heap.size hbk funs.length wq (.slice a8 (k + 1) c8) (k + 1))) (fun j _ => bn - (intOf j).toNat)
            case atStart => exact ⟨0, Nat.zero_le _, rfl, Lib.hid (KeptG.of_below (Below.refl _ _)), HNX⟩
            case round =>
              obtain ⟨r, hr, rfl, hKQ, hNQ⟩ := hrel
              obtain ⟨t0, t1, t2, t3, t4, t5⟩ := HCX.out _ hKQ.out
              have HT45 := Lib.hid (And.intro t4 t5)
              clear t4 t5
              by_cases hltr : r < bn
              · have j0 : (r : Int) < (bn : Int) := by omega
                have j1 : (0 : Int) ≤ (r : Int) := by omega
                have j4 : IntKind.i64.wrap ((r : Int) + 1) = (r : Int) + 1 := by rw [IntKind.wrap_i64]; omega
                by_cases ho : x.op = 6
                · obtain ⟨A, hA, hAm⟩ := HGRP.out ho
                  rw [ho] at t0
                  rw [hA] at t1
                  have hArm : A + r < funs.length := by omega
                  obtain ⟨⟨gv, g0⟩, gz⟩ := hNQ.out.gcell hArm
                  have e3 : wr.cell? ⟨w5.heap.size + 1 + 1 + 1, 3, none⟩ = some (.slice (some ⟨w5.heap.size, 0, none⟩) funs.length funs.length) := (hNQ.out.cells 3).1
                  have hvl2 := hNQ.out.lt
                  have k1 : (A : Int) + (r : Int) < (funs.length : Int) := by omega
                  have k0 : (0 : Int) ≤ (A : Int) + (r : Int) := by omega
                  have k2 : IntKind.i64.wrap ((A : Int) + (r : Int)) = (A : Int) + (r : Int) := by rw [IntKind.wrap_i64]; omega
                  have k3 : ((A : Int) + (r : Int)).toNat = A + r := by omega
                  obtain ⟨W9, hW9⟩ : ∃ W9, W9 = wr.setCell ⟨w5.heap.size, A + r, none⟩ (.int .i64 A) := ⟨_, rfl⟩
                  have HF9 : Hid (KeptG w5.heap.size X2 W9 ∧ NVI w5.heap.size hbk funs.length W9 (.slice a8 (k + 1) c8) (k + 1)) := Lib.hid ⟨hKQ.out.trans ⟨by rw [hW9]; rfl, by rw [hW9]; rfl, by rw [hW9]; rfl, by rw [hW9]; simp, fun b hb h1 _ _ => by rw [hW9]; exact heap_setCell_other wr ⟨w5.heap.size, A + r, none⟩ b _ h1, fun k hk => by cases hk⟩, by rw [hW9]; exact hNQ.out.group _ _⟩
                  have HF9d : Hid (KeptG w5.heap.size X2 W9.drew ∧ NVI w5.heap.size hbk funs.length W9.drew (.slice a8 (k + 1) c8) (k + 1)) := Lib.hid ⟨HF9.out.1.trans (KeptG.of_below (Below.refl _ _).drew), HF9.out.2.grow (Below.refl _ _).drew⟩
                  clear hA ho
                  go_wp2
                  go_region
                  all_goals
                    rw [← hW9]
                    clear hW9
                    go_wp2
                    go_roundw
                    case rel => first | exact ⟨r + 1, by omega, by simp, Lib.hid HF9.out.1, Lib.hid HF9.out.2⟩ | exact ⟨r + 1, by omega, by simp, Lib.hid HF9d.out.1, Lib.hid HF9d.out.2⟩
                    case measure => simp [intOf]; omega
                · have hd : (x.op == 6) = false := by simpa using ho
                  go_wp2
                  go_roundw
                  case rel => exact ⟨r + 1, by omega, by simp, hKQ, hNQ⟩
                  case measure => simp [intOf]; omega
              · obtain rfl : r = bn := by omega
                go_wp2
                go_roundw
                case rel => exact ⟨i + 1, by omega, by simp, hNQ, Lib.hid HT45.out.1, Lib.hid HT45.out.2⟩
                case measure => simp [intOf]; omega
          · obtain rfl : i = code.length := by omega
            go_wp2
            go_roundw
            case rel => exact ⟨k + 1, by omega, by simp, a8, c8, hNI, hBI⟩
            case measure => simp [intOf]; omega
      · obtain rfl : k = funs.length := by omega
        have H14 := Lib.hid (clone14_ok (HRV.out.below q3) hrs)
        have e1 : wr.cell? ⟨w5.heap.size + 1 + 1 + 1, 1, none⟩ = some (.slice none 0 0) := (hNV.out.cells 1).1
        clear q3
        go_wp2_with fail
        refine H14.out.mono ?_
        rintro e w7 ⟨⟨a7, n7, c7, rfl⟩, hb7⟩
        have hnv7 := hNV.out.grow hb7
        have e17 : w7.cell? ⟨w5.heap.size + 1 + 1 + 1, 1, none⟩ = some (.slice none 0 0) := (hnv7.cells 1).1
        have e17f : w7.frozen? ⟨w5.heap.size + 1 + 1 + 1, 1, none⟩ = false := (hnv7.cells 1).2
        have vl7 := hnv7.lt
        have HNW := Lib.hid (hnv7.roots (.slice a7 n7 c7))
        have HBW : Hid (Below w.heap.size w (w7.setCell ⟨w5.heap.size + 1 + 1 + 1, 1, none⟩ (.slice a7 n7 c7))) := Lib.hid (((HQ3.out.trans (hb7.mono HQ3.out.size))).setCell (by show w.heap.size ≤ w5.heap.size + 1 + 1 + 1; omega) _)
        clear hb7 hnv7 H14 e1
        go_wp2
        go_ret2
        exact ⟨HBW, .inl ⟨w5.heap.size + 1 + 1 + 1, rfl, Lib.hid ⟨HC.out, HNW.out⟩⟩⟩
  · rw [checkI_f hc] at H12
    have HC := Lib.hid hc
    clear hf hr hb3 hT hI hc
    go_enter Tryz.func7, Tryz.ntmps7
    go_wp2_with fail
    rw [← hW3]
    clear hW3
    refine H12.out.mono ?_
    rintro e w5 ⟨rfl, hb5⟩
    have HB5 := Lib.hid (HB3.out.trans (hb5.mono HB3.out.size))
    clear hb5 H12
    go_wp2
    go_ret2
    exact ⟨HB5, .inr ⟨rfl, HC⟩⟩
end Go.Ck
