/- A part of a proof about the table over the shadow space: what a function of the program answers, walked by hand. Each theorem says its own conditions. -/
import Derived.Test.YthejkfnigalniabGreatDoorWaD
import Derived.Laws.ResultCell
import Derived.Lib.SlBytesConst
set_option linter.unusedVariables false
set_option linter.unusedSimpArgs false
set_option maxRecDepth 100000
set_option maxHeartbeats 1600000
namespace Go.Tb
open Go Go.RowKit Go.Proofs Go.Maps Go.Sp
structure Pa0 (γ : Gh) (w W : World) (sb db cb rb ob kb qb eb : Nat) (s : Sp) : Prop where
  sp : SpK γ W sb db cb rb ob kb s
  st : Step γ spR w W
  qt : Tag γ W qb 26
  qc : W.cell? ⟨qb, 0, none⟩ = some (.pointer (some ⟨sb, 0, none⟩))
  e9 : ∃ g, N9 γ w W eb g
theorem Pa0.step {γ : Gh} {S : TypeId → Bool} {w W W' : World} {sb db cb rb ob kb qb eb : Nat} {s s' : Sp} (h : Pa0 γ w W sb db cb rb ob kb qb eb s) (hs : Step γ S W W') (h27 : S 26 = false) (h89 : S 67 = false) (hS : ∀ T, spR T = false → S T = false) (hsp : SpK γ W' sb db cb rb ob kb s') : Pa0 γ w W' sb db cb rb ob kb qb eb s' :=
  ⟨hsp, h.st.trans (hs.mono hS), hs.tg _ _ (by decide) (cell_lt' h.qc) h.qt, cell_keep hs h.qt h27 h.qc, h.e9.imp fun g hg => hg.keep hs h89⟩
theorem Pa0.below {γ : Gh} {w W W' : World} {sb db cb rb ob kb qb eb : Nat} {s : Sp} (h : Pa0 γ w W sb db cb rb ob kb qb eb s) (hb : Below W.heap.size W W') (h0 : γ.lim ≤ w.heap.size) : Pa0 γ w W' sb db cb rb ob kb qb eb s :=
  h.step (S := fun _ => false) (Step.below hb (Nat.le_trans h0 h.st.size)) rfl rfl (fun _ _ => rfl) (h.sp.below hb (Nat.le_trans h0 h.st.size))
def z9 : Array Value := #[.int .i64 0, .int .i64 0, .int .i64 0, .int .i64 0, .int .i64 0, .int .i64 0, .int .i64 0, .int .i64 0, .int .i64 0]
theorem N9.fresh {γ : Gh} {w W : World} {b : Nat} (h : W.heap[b]? = some (.cells z9 67 (0, 0))) (h0 : γ.lim ≤ w.heap.size) (hb : w.heap.size ≤ b) : N9 γ w W b (fun _ => 0) := by
  refine ⟨Tag.new (Nat.le_trans h0 hb) h, hb, fun i hi => ?_, fun i hi => by simp [World.frozen?, h]⟩
  have h9 : i = 0 ∨ i = 1 ∨ i = 2 ∨ i = 3 ∨ i = 4 ∨ i = 5 ∨ i = 6 ∨ i = 7 ∨ i = 8 := by omega
  rcases h9 with rfl | rfl | rfl | rfl | rfl | rfl | rfl | rfl | rfl <;> simp [World.cell?, h, z9]
theorem N9.there9 {γ : Gh} {w W : World} {b : Nat} {f : Nat → Nat} (h : N9 γ w W b f) : W.there b 0 9 := fun j hj => by
  rw [Nat.zero_add]
  exact ⟨by rw [h.c j hj]; rfl, h.z j hj⟩
theorem N9.drew {γ : Gh} {w W : World} {b : Nat} {f : Nat → Nat} (h : N9 γ w W b f) : N9 γ w W.drew b f := ⟨(Gh.kind_of (kindOf_same (w := W) (w' := W.drew) rfl)).trans h.tg, h.past, h.c, h.z⟩
theorem N9.stepSets {γ : Gh} {w W : World} {b : Nat} {f : Nat → Nat} (h : N9 γ w W b f) (h0 : γ.lim ≤ w.heap.size) (g : Nat → Nat) : Step γ (fun T => T == 67) W (W.setCells b 0 (c9 g)) := by
  have ho := (h.sets g).2
  have hp := h.past
  have hB := γ.hB
  refine ⟨⟨(setCells_os _ _ _).1, (setCells_os _ _ _).2.1, (setCells_os _ _ _).2.2, by rw [setCells_size]; exact Nat.le_refl _, fun k hk => ho k (by omega)⟩, fun k hk hT => ho k fun e => ?_, fun k T hn hk ht => ?_⟩
  · subst e; have := hT 67 h.tg; cases this
  · by_cases e : k = b
    · subst e; rw [ht.uniq h.tg]; exact (h.sets g).1.tg
    · exact ht.same (ho k e)
theorem Pa0.in {γ : Gh} {w W : World} {sb db cb rb ob kb qb eb bb : Nat} {s : Sp} {f : Nat → Nat} (h : Pa0 γ w W sb db cb rb ob kb qb eb s) (h0 : γ.lim ≤ w.heap.size) (hN : N9 γ w W bb f) (hne : bb ≠ eb) (g : Nat → Nat) : PaI γ w (W.setCells bb 0 (c9 g)) sb db cb rb ob kb qb bb eb s g := by
  have hs := hN.stepSets h0 g
  refine ⟨⟨h.sp.1.keep hs (h.sp.1.ca.keep hs ⟨rfl, rfl, rfl, rfl⟩ ⟨rfl, rfl, rfl⟩) rfl rfl rfl, h.sp.2.keep h.sp.1.tg hs rfl rfl rfl⟩, h.st.sets h0 hN g, hs.tg _ _ (by decide) (cell_lt' h.qc) h.qt, cell_keep hs h.qt rfl h.qc, (hN.sets g).1, ?_, hne⟩
  obtain ⟨u, hu⟩ := h.e9
  have hb := (hN.sets g).2 eb hne.symm
  exact ⟨u, hu.tg.same hb, hu.past, fun i hi => (cell_of_heap (a := ⟨eb, i, none⟩) hb).1.trans (hu.c i hi), fun i hi => (cell_of_heap (a := ⟨eb, i, none⟩) hb).2.trans (hu.z i hi)⟩
theorem there_new (w3 : World) : (w3.alloc (.cells #[.int .i64 0, .int .i64 0, .int .i64 0, .int .i64 0, .int .i64 0, .int .i64 0, .int .i64 0, .int .i64 0, .int .i64 0] 67)).there w3.heap.size 0 9 := fun j hj => by
  have h := (Go.MapKept.heap_alloc w3 (.cells #[.int .i64 0, .int .i64 0, .int .i64 0, .int .i64 0, .int .i64 0, .int .i64 0, .int .i64 0, .int .i64 0, .int .i64 0] 67)).1
  generalize w3.alloc _ = W at h ⊢
  have h9 : j = 0 ∨ j = 1 ∨ j = 2 ∨ j = 3 ∨ j = 4 ∨ j = 5 ∨ j = 6 ∨ j = 7 ∨ j = 8 := by omega
  rcases h9 with rfl | rfl | rfl | rfl | rfl | rfl | rfl | rfl | rfl <;> simp [World.cell?, World.frozen?, h]
theorem at_range {γ : Gh} {W : World} {sb db cb rb ob : Nat} {s : Sp} (H : SpU γ W sb db cb rb ob s) : W.rangeAt sb 3 (c9 s.r.at') := fun j v hv => by
  obtain ⟨h1, rfl⟩ := c9_get hv
  exact (H.sp j h1).1
theorem s89 (f : Nat → Nat) : (Tryz.prog.info? 67).map (·.size) = some (c9 f).length := by rw [c9_len]; kernel_rfl
theorem s89' (f : Nat → Nat) : (Tryz.prog.info? 67).map (·.size) = some (c9 f).toArray.size := by
  rw [show (c9 f).toArray.size = 9 by simp [c9_len]]; kernel_rfl
theorem o89 (f : Nat → Nat) : (c9 f).toArray.all (·.oneCell') = true := all_oneCell_toArray c9_one
theorem u89 : Tryz.prog.underlying 67 = some (.array 9 3) := by kernel_rfl
theorem parts_ret {tmps : Array Value} {W : World} {eb : Nat} {f : Nat → Nat} {c : Int} (h2 : tmps.getD 2 undef = .pointer (some ⟨eb, 0, none⟩)) (h3 : tmps.getD 3 undef = .int .i64 c) (hr : W.rangeAt eb 0 (c9 f)) :
    (results Tryz.f31 tmps).run Tryz.prog W = .ok (.tuple #[.agg (c9 f).toArray, .int .i64 c]) W := by
  have hl := run_loadVar_mid (P := Tryz.prog) W eb 0 67 (c9 f) _ hr u89 rfl (s89 f)
  rw [results_cell_tmp (fn := Tryz.f31) (p := 2) (u := 3) (ty := 67) rfl, h2, h3]
  simp only [asAddr, Result.andThen, Sem.run_pure, hl]
def atK (s : Sp) (k : Nat) : Nat → Nat := fun i => if ((turnedP s.own s.r.pg).take k).contains i then 0 else s.r.at' i
theorem atK_zero (s : Sp) : atK s 0 = s.r.at' := by funext i; simp [atK]
theorem atK_all (s : Sp) : atK s (turnedP s.own s.r.pg).length = s.at0 := by funext i; unfold atK Sp.at0; rw [List.take_length]
theorem atK_succ {s : Sp} {k x : Nat} (h : (turnedP s.own s.r.pg)[k]? = some x) : atK s (k + 1) = upd (atK s k) x 0 := by
  funext i
  unfold atK upd
  rw [take_succ_get h]
  by_cases e : i = x
  · subst e; simp
  · simp [e]
theorem zip_drop {l m : List Nat} {k x i : Nat} (h1 : l[k]? = some x) (h2 : m[k]? = some i) : (l.zip m).drop k = (x, i) :: (l.zip m).drop (k + 1) := by
  have hz : (l.zip m)[k]? = some (x, i) := by
    rw [List.getElem?_zip_eq_some]; exact ⟨h1, h2⟩
  obtain ⟨hlt, hk⟩ := List.getElem?_eq_some_iff.1 hz
  rw [List.drop_eq_getElem_cons hlt, hk]
theorem trim0_len (l : List Nat) : (trim0 l).length ≤ l.length := by
  unfold trim0
  rw [List.length_reverse]
  have := (List.dropWhile_sublist (p := fun x : Nat => x == 0) (l := l.reverse)).length_le
  simpa using this
theorem part_len (f : Nat → Nat) (i : Nat) : (Go.Sp.part f i).length ≤ 248 := by
  show (le2 (trim0 (pgPart f i))).length ≤ 248
  rw [le2_len]
  have h1 := trim0_len (pgPart f i)
  have h2 : (pgPart f i).length ≤ 124 := by unfold pgPart; rw [List.length_take]; omega
  omega
theorem bd_of {s sk : Sp} {j k : Nat} (h : s.Bd j) (hi : Ca.In s.c sk.c k) (hk : k ≤ j) : sk.Bd 0 := by
  have h1 := h.clk
  have h2 := h.P
  have h3 := hi.clk
  have h4 := hi.P
  exact ⟨by omega, by omega⟩
theorem set9 (w : World) (eb : Nat) (f : Nat → Nat) : w.setCells eb 0 (c9 f) = (((((((((w.setCell ⟨eb, 0, none⟩ (.int .i64 (f 0 : Int))).setCell ⟨eb, 1, none⟩ (.int .i64 (f 1 : Int))).setCell ⟨eb, 2, none⟩ (.int .i64 (f 2 : Int))).setCell ⟨eb, 3, none⟩ (.int .i64 (f 3 : Int))).setCell ⟨eb, 4, none⟩ (.int .i64 (f 4 : Int))).setCell ⟨eb, 5, none⟩ (.int .i64 (f 5 : Int))).setCell ⟨eb, 6, none⟩ (.int .i64 (f 6 : Int))).setCell ⟨eb, 7, none⟩ (.int .i64 (f 7 : Int))).setCell ⟨eb, 8, none⟩ (.int .i64 (f 8 : Int))) := rfl
theorem c9_arr (f : Nat → Nat) : (c9 f).toArray = #[.int .i64 (f 0 : Int), .int .i64 (f 1 : Int), .int .i64 (f 2 : Int), .int .i64 (f 3 : Int), .int .i64 (f 4 : Int), .int .i64 (f 5 : Int), .int .i64 (f 6 : Int), .int .i64 (f 7 : Int), .int .i64 (f 8 : Int)] := rfl
set_option maxHeartbeats 3000000 in
theorem parts_ok {γ : Gh} {w : World} {sb db cb rb ob kb : Nat} {s : Sp} (H : SpK γ w sb db cb rb ob kb s) (hok : s.Ok) (hbd : s.Bd 20) (h0 : γ.lim ≤ w.heap.size) :
    Calls Tryz.prog 31 #[.pointer (some ⟨sb, 0, none⟩)] w fun e w' => e = .returned (.tuple #[.agg (c9 s.parts.2.1).toArray, .int .i64 (s.parts.1 : Nat)]) ∧ Hid (SpK γ w' sb db cb rb ob kb s.parts.2.2 ∧ Step γ spR w w') := by
  obtain ⟨W1, hW1⟩ : ∃ W1, (w.alloc (.cells #[.pointer (some ⟨sb, 0, none⟩)] 26)).alloc (.cells z9 67) = W1 := ⟨_, rfl⟩
  have hb1 : Below w.heap.size w W1 := hW1 ▸ Below.alloc (Below.alloc (Below.refl _ _) (Nat.le_refl _) _) (by simp) _
  have hsz1 : W1.heap.size = w.heap.size + 2 := by rw [← hW1]; simp
  have hq1 : Boxed W1 w.heap.size 26 (.pointer (some ⟨sb, 0, none⟩)) := by rw [← hW1]; exact (Boxed.new w 26 _).alloc _
  have he1 : W1.heap[w.heap.size + 1]? = some (.cells z9 67 (0, 0)) := by
    have := (Go.MapKept.heap_alloc (w.alloc (.cells #[.pointer (some ⟨sb, 0, none⟩)] 26)) (.cells z9 67)).1
    rwa [show (w.alloc (.cells #[.pointer (some ⟨sb, 0, none⟩)] 26)).heap.size = w.heap.size + 1 by simp, hW1] at this
  have P1 : Pa0 γ w W1 sb db cb rb ob kb w.heap.size (w.heap.size + 1) s := ⟨H.below hb1 h0, Step.below hb1 h0, Tag.new h0 hq1, hq1.cell, _, N9.fresh he1 h0 (by omega)⟩
  have HP := Lib.hid P1
  have HW := Lib.hid hW1
  have HS : Hid (∀ W, Below W1.heap.size W1 W → W.cell? ⟨w.heap.size, 0, none⟩ = some (.pointer (some ⟨sb, 0, none⟩)) ∧ W.rangeAt sb 3 (c9 s.r.at')) := Lib.hid fun W hW => by
    have h := HP.out.below hW h0
    exact ⟨h.qc, at_range h.sp.1⟩
  have HH := HS.out W1 (Below.refl _ _)
  have HR := Lib.hid (fun (W : World) (hW : Below W1.heap.size W1 W) => rooms_s (HP.out.below hW h0).sp.1 (HP.out.below hW h0).sp.2 (Nat.le_trans h0 (HP.out.below hW h0).st.size))
  have HSB := Lib.hid H.1.lt
  clear H hb1 hq1 he1 P1 hW1
  obtain ⟨hh1, hh2⟩ := HH
  have hlsb : sb < w.heap.size := by have := HSB.out; omega
  have hu89 := u89
  have hs89 := s89 s.r.at'
  have ho89 : ∀ v ∈ c9 s.r.at', v.oneCell' = true := c9_one
  have hl89 := c9_len s.r.at'
  go_enter Tryz.func31, Tryz.ntmps31
  go_upto_region 1 with fail
  rw [show (w.alloc (.cells #[.pointer (some ⟨sb, 0, none⟩)] 26)).alloc (.cells #[.int .i64 0, .int .i64 0, .int .i64 0, .int .i64 0, .int .i64 0, .int .i64 0, .int .i64 0, .int .i64 0, .int .i64 0] 67) = W1 from HW.out]
  go_region_held3 (fun W => W.cell? ⟨w.heap.size, 0, none⟩ = some (.pointer (some ⟨sb, 0, none⟩)) ∧ W.rangeAt sb 3 (c9 s.r.at'))
    ((first | (with_reducible refine HC3.out _ _ _ ?_ ?_; all_goals (first | ((repeat (first | with_reducible exact Below.refl _ _ | with_reducible assumption | with_reducible refine Below.drew ?_ | with_reducible refine Below.allocs ?_ _)); done) | exact Nat.le_refl _ | assumption)) | (with_reducible refine HS.out _ ?_; (repeat (first | with_reducible exact Below.refl _ _ | with_reducible assumption | with_reducible refine Below.drew ?_ | with_reducible refine Below.allocs ?_ _)); done) | (with_reducible refine HS3.out _ ?_; (repeat (first | with_reducible exact Below.refl _ _ | with_reducible assumption | with_reducible refine Below.drew ?_ | with_reducible refine Below.allocs ?_ _)); done)))
    ((go_at_call 53; refine (HR.out _ ?_).mono ?_; (repeat (first | with_reducible exact Below.refl _ _ | with_reducible assumption | with_reducible refine Below.drew ?_ | with_reducible refine Below.allocs ?_ _)); rintro e w3 ⟨a3, c3, rfl, hr3⟩;
      (try (have hNb : N9 γ w w3 (w.heap.size + 2) (fun _ => 0) := by (have h := N9.fresh (w := w) (Go.MapKept.heap_alloc W1 (.cells z9 67)).1 h0 (by omega); rw [hsz1] at h; first | exact h.keep hr3.out.2.2.2 rfl | exact h.drew.keep hr3.out.2.2.2 rfl)));
      (try have htb := hNb.there9);
      have HP3 : Hid (Pa0 γ w w3 sb db cb rb ob kb w.heap.size (w.heap.size + 1) s ∧ NR γ w3 (.slice a3 s.rooms.length c3) s.rooms) := Lib.hid ⟨(HP.out.below (by (repeat (first | with_reducible exact Below.refl _ _ | with_reducible assumption | with_reducible refine Below.drew ?_ | with_reducible refine Below.allocs ?_ _)); done) h0).step hr3.out.2.2.2 rfl rfl (fun _ h => h) ⟨hr3.out.2.1, hr3.out.2.2.1⟩, hr3.out.1⟩;
      have HS3 : Hid (∀ W, Below w3.heap.size w3 W → W.cell? ⟨w.heap.size, 0, none⟩ = some (.pointer (some ⟨sb, 0, none⟩)) ∧ W.rangeAt sb 3 (c9 s.r.at')) := Lib.hid (fun W hW => ⟨(HP3.out.1.below hW h0).qc, at_range (HP3.out.1.below hW h0).sp.1⟩);
      have HC3 : Hid (∀ (W : World) (b : Nat) (l : List Value), Below w3.heap.size w3 W → w.heap.size + 2 ≤ b → (W.setCells b 0 l).cell? ⟨w.heap.size, 0, none⟩ = some (.pointer (some ⟨sb, 0, none⟩)) ∧ (W.setCells b 0 l).rangeAt sb 3 (c9 s.r.at')) := Lib.hid (fun W b l hW hb => ⟨(cell_of_heap (a := ⟨w.heap.size, 0, none⟩) (setCells_other l 0 W w.heap.size (by omega))).1.trans (HS3.out W hW).1, fun j v hv => (cell_of_heap (a := ⟨sb, 3 + j, none⟩) (setCells_other l 0 W sb (by omega))).1.trans ((HS3.out W hW).2 j v hv)⟩);
      have ht3 := there_new w3; have hsz3 : w.heap.size + 2 ≤ w3.heap.size := (by have := hr3.out.2.2.2.size; first | (simp at this; omega) | omega); clear hr3))
  all_goals
    first
      | (have PI := Lib.hid (And.intro (HP3.out.1.in h0 hNb (by omega) s.r.at') (HP3.out.2.keep (hNb.stepSets h0 s.r.at') rfl))
         generalize w3.setCells (w.heap.size + 2) 0 (c9 s.r.at') = W2 at PI ⊢
         generalize w.heap.size + 2 = bb at PI ⊢
         clear hNb htb)
      | (have hNc : N9 γ w (w3.alloc (.cells z9 67)) w3.heap.size (fun _ => 0) := N9.fresh (Go.MapKept.heap_alloc w3 (.cells z9 67)).1 h0 (by omega)
         have hba : Below w3.heap.size w3 (w3.alloc (.cells z9 67)) := Below.allocs (Below.refl _ _) _
         have PI := Lib.hid (And.intro ((HP3.out.1.below hba h0).in h0 hNc (by omega) s.r.at') ((HP3.out.2.keep (Step.below (S := fun _ => false) hba (Nat.le_trans h0 HP3.out.1.st.size)) rfl).keep (hNc.stepSets h0 s.r.at') rfl))
         unfold z9 at PI
         generalize (w3.alloc (.cells #[.int .i64 0, .int .i64 0, .int .i64 0, .int .i64 0, .int .i64 0, .int .i64 0, .int .i64 0, .int .i64 0, .int .i64 0] 67)).setCells w3.heap.size 0 (c9 s.r.at') = W2 at PI ⊢
         generalize w3.heap.size = bb at PI ⊢
         clear hNc hba)
    clear hsz3 ht3 HC3 HS3 HP3 hsz1 HP HW HS HR hh1 hh2
    have HS4 : Hid (∀ W, Below W2.heap.size W2 W → W.cell? ⟨w.heap.size, 0, none⟩ = some (.pointer (some ⟨sb, 0, none⟩)) ∧ W.cell? ⟨sb, 14, none⟩ = some (.pointer (some ⟨ob, 0, none⟩)) ∧ W.cell? ⟨sb, 13, none⟩ = some (.pointer (some ⟨rb, 0, none⟩))) := Lib.hid fun W hW => by
      have h := PI.out.1.below hW h0
      exact ⟨h.qc, h.sp.1.s14, h.sp.1.s13⟩
    have HT4 := Lib.hid (fun (W : World) (hW : Below W2.heap.size W2 W) => tset_ok (PI.out.1.below hW h0).sp.1.mo.v (PI.out.1.below hW h0).sp.1.mr.v)
    obtain ⟨hh1, hh2, hh3⟩ := HS4.out W2 (Below.refl _ _)
    go_wp2_with fail
    go_region_held3 (fun W => W.cell? ⟨w.heap.size, 0, none⟩ = some (.pointer (some ⟨sb, 0, none⟩)) ∧ W.cell? ⟨sb, 14, none⟩ = some (.pointer (some ⟨ob, 0, none⟩)) ∧ W.cell? ⟨sb, 13, none⟩ = some (.pointer (some ⟨rb, 0, none⟩)))
      ((with_reducible refine HS4.out _ ?_; (repeat (first | with_reducible exact Below.refl _ _ | with_reducible assumption | with_reducible refine Below.drew ?_ | with_reducible refine Below.allocs ?_ _)); done))
      ((go_at_call 60; refine (HT4.out _ ?_).mono ?_; (repeat (first | with_reducible exact Below.refl _ _ | with_reducible assumption | with_reducible refine Below.drew ?_ | with_reducible refine Below.allocs ?_ _)); rintro e w4 ⟨v4, rfl, hr4, hb4⟩; have HR4 := Lib.hid hr4; have hb24 : Below W2.heap.size W2 w4 := Below.up (by (repeat (first | with_reducible exact Below.refl _ _ | with_reducible assumption | with_reducible refine Below.drew ?_ | with_reducible refine Below.allocs ?_ _)); done) hb4; clear hr4))
    have PI4 := Lib.hid (PI.out.1.below hb24 h0)
    have NR4 := Lib.hid (PI.out.2.keep (Step.below (S := fun _ => false) hb24 (Nat.le_trans h0 PI.out.1.st.size)) rfl)
    have CL := Lib.hid (cloneI_ok HR4.out encI_one (Nat.le_trans (turned_len s.own s.r.pg) (by decide)))
    have DL := Lib.hid (fun (w5 : World) (v5 : Value) (hb : Below w4.heap.size w4 w5) (ho : w5.ownsRow w4.heap.size 3 1 v5 (turnedP s.own s.r.pg).length ((turnedP s.own s.r.pg).map encI)) => del_row (w0 := w4) (empty_says PI4.out.qc PI4.out.sp.1.s14 PI4.out.sp.1.mo.v) enters61 hb ho (turned_len _ _) turned_lt)
    have TR4 := Lib.hid (show NR γ w4 v4 (turnedP s.own s.r.pg) from NR.row HR4.out (Nat.le_trans h0 PI.out.1.st.size))
    obtain ⟨a4, c4, rfl⟩ := TR4.out.shape
    clear PI HS4 HT4 hh1 hh2 hh3 hb4 HR4 hu89 hs89 ho89 hl89
    go_upto_region 5 with (first
      | (go_at_call 64; refine CL.out.mono ?_; rintro e w5 ⟨v5, rfl, ho5, hb5⟩; have HO5 := Lib.hid ho5; have HB5 := Lib.hid hb5; clear ho5 hb5)
      | (go_at_call 63; refine (DL.out _ _ HB5.out HO5.out).mono ?_; rintro e w6 ⟨v6, rfl, hr6, hb6⟩; have HR6 := Lib.hid hr6; have HB6 := Lib.hid hb6; clear hr6 hb6))
    have PI6 := Lib.hid (PI4.out.below HB6.out h0)
    have NR6 := Lib.hid (NR4.out.keep (Step.below (S := fun _ => false) HB6.out (Nat.le_trans h0 PI4.out.st.size)) rfl)
    have TR6 := Lib.hid (TR4.out.keep (Step.below (S := fun _ => false) HB6.out (Nat.le_trans h0 PI4.out.st.size)) rfl)
    have FR6 := Lib.hid (HR6.out.nr (γ := γ) (Nat.le_trans h0 PI4.out.st.size))
    rw [kept_full] at FR6
    obtain ⟨a6, c6, rfl⟩ := FR6.out.shape
    clear CL DL HO5 HB5 HR6 HB6 PI4 NR4 TR4 hb24
    by_cases hlen : s.rooms.length < s.full.length
    · have hPE : Hid (s.parts = (6, s.r.at', s)) := Lib.hid (if_pos hlen)
      have i1 : ((s.rooms.length : Nat) : Int) < ((s.full.length : Nat) : Int) := by omega
      obtain ⟨ge, hge⟩ := PI6.out.e9
      have hE := Lib.hid (hge.sets s.r.at')
      have hL := Lib.hid PI6.out.b9.range
      have hT := Lib.hid (hge.there s.r.at')
      have hF := Lib.hid (show SpK γ (w6.setCells (w.heap.size + 1) 0 (c9 s.r.at')) sb db cb rb ob kb s ∧ Step γ spR w (w6.setCells (w.heap.size + 1) 0 (c9 s.r.at')) from by
        have hs := hge.stepSets h0 s.r.at'
        exact ⟨⟨PI6.out.sp.1.keep hs (PI6.out.sp.1.ca.keep hs ⟨rfl, rfl, rfl, rfl⟩ ⟨rfl, rfl, rfl⟩) rfl rfl rfl, PI6.out.sp.2.keep PI6.out.sp.1.tg hs rfl rfl rfl⟩, PI6.out.st.sets h0 hge s.r.at'⟩)
      have e0 := PI6.out.b9.c 0 (by decide)
      have g0 := hge.c 0 (by decide)
      have z0 := hge.z 0 (by decide)
      have e1 := PI6.out.b9.c 1 (by decide)
      have g1 := hge.c 1 (by decide)
      have z1 := hge.z 1 (by decide)
      have e2 := PI6.out.b9.c 2 (by decide)
      have g2 := hge.c 2 (by decide)
      have z2 := hge.z 2 (by decide)
      have e3 := PI6.out.b9.c 3 (by decide)
      have g3 := hge.c 3 (by decide)
      have z3 := hge.z 3 (by decide)
      have e4 := PI6.out.b9.c 4 (by decide)
      have g4 := hge.c 4 (by decide)
      have z4 := hge.z 4 (by decide)
      have e5 := PI6.out.b9.c 5 (by decide)
      have g5 := hge.c 5 (by decide)
      have z5 := hge.z 5 (by decide)
      have e6 := PI6.out.b9.c 6 (by decide)
      have g6 := hge.c 6 (by decide)
      have z6 := hge.z 6 (by decide)
      have e7 := PI6.out.b9.c 7 (by decide)
      have g7 := hge.c 7 (by decide)
      have z7 := hge.z 7 (by decide)
      have e8 := PI6.out.b9.c 8 (by decide)
      have g8 := hge.c 8 (by decide)
      have z8 := hge.z 8 (by decide)
      have lbb := PI6.out.b9.lt
      have leb := hge.lt
      clear hge
      go_wp2_with fail
      rw [← set9 w6 (w.heap.size + 1) s.r.at']
      refine bodyPost_ret (parts_ret (eb := w.heap.size + 1) (f := s.r.at') (c := 6) rfl rfl hE.out.1.range) rfl ?_
      rw [hPE.out]
      exact ⟨rfl, hF⟩
    · have hPE : Hid (s.parts = s.putL s.at0 (s.rooms.zip s.full)) := Lib.hid (if_neg hlen)
      have i1 : ¬ ((s.rooms.length : Nat) : Int) < ((s.full.length : Nat) : Int) := by omega
      have hfr : s.full.length ≤ s.rooms.length := by omega
      obtain ⟨n, hn⟩ : ∃ n, n = (turnedP s.own s.r.pg).length := ⟨_, rfl⟩
      have hn9 : n ≤ 9 := by rw [hn]; exact turned_len _ _
      have HN := Lib.hid hn
      rw [← hn]
      have HST := Lib.hid (And.intro PI6.out (And.intro NR6.out (And.intro TR6.out FR6.out)))
      clear PI6 NR6 TR6 FR6 hn
      go_upto_region 8 with fail
      go_loopw [44] (fun v wr => ∃ k : Nat, v = .int .i64 k ∧ k ≤ n ∧ Hid (PaI γ w wr sb db cb rb ob kb w.heap.size bb (w.heap.size + 1) s (atK s k) ∧ NR γ wr (.slice a3 s.rooms.length c3) s.rooms ∧ NR γ wr (.slice a4 (turnedP s.own s.r.pg).length c4) (turnedP s.own s.r.pg) ∧ NR γ wr (.slice a6 s.full.length c6) s.full)) (fun v _ => n - (Go.RowKit.intOf v).toNat)
      case atStart => exact ⟨0, rfl, Nat.zero_le _, Lib.hid ⟨by rw [atK_zero]; exact HST.out.1, HST.out.2⟩⟩
      case round =>
        obtain ⟨k, rfl, hk, hI⟩ := hrel
        by_cases e : k < n
        · have i1' : (k : Int) < (n : Int) := by omega
          have i0' : (0 : Int) ≤ (k : Int) := by omega
          obtain ⟨x, hx⟩ : ∃ x, (turnedP s.own s.r.pg)[k]? = some x := ⟨_, List.getElem?_eq_getElem (by rw [← HN.out]; exact e)⟩
          have hx9 := turned_lt x (List.mem_of_getElem? hx)
          obtain ⟨_, _, h3⟩ := hI.out.2.2.1.get
          obtain ⟨g4, o4, rfl, hg4, hc4⟩ := h3 (by rw [← HN.out]; omega)
          have cx := hc4 k x hx
          have x0 : (0 : Int) ≤ (x : Int) := by omega
          have x9 : (x : Int) < 9 := by omega
          have cb0 := hI.out.1.b9.c x hx9
          have cbz := hI.out.1.b9.z x hx9
          have lbb := hI.out.1.b9.lt
          have hS := Lib.hid (hI.out.1.set h0 (x := 0) hx9)
          have hF := Lib.hid (show PaI γ w (wr.setCell ⟨bb, x, none⟩ (.int .i64 0)) sb db cb rb ob kb w.heap.size bb (w.heap.size + 1) s (atK s (k + 1)) ∧ NR γ (wr.setCell ⟨bb, x, none⟩ (.int .i64 0)) (.slice a3 s.rooms.length c3) s.rooms ∧ NR γ (wr.setCell ⟨bb, x, none⟩ (.int .i64 0)) (.slice (some ⟨g4, o4, none⟩) (turnedP s.own s.r.pg).length c4) (turnedP s.own s.r.pg) ∧ NR γ (wr.setCell ⟨bb, x, none⟩ (.int .i64 0)) (.slice a6 s.full.length c6) s.full from by
            have := hS.out
            rw [← atK_succ hx] at this
            exact ⟨this.1, hI.out.2.1.keep this.2 rfl, hI.out.2.2.1.keep this.2 rfl, hI.out.2.2.2.keep this.2 rfl⟩)
          clear hI hS hc4 hx h3 HST
          go_wp2_with fail
          exact ⟨⟨k + 1, rfl, by omega, hF⟩, measT e⟩
        · have ek : k = n := by omega
          subst ek
          have i1' : ¬ (k : Int) < (k : Int) := by omega
          have hT := Lib.hid (show PaI γ w wr sb db cb rb ob kb w.heap.size bb (w.heap.size + 1) s s.at0 ∧ NR γ wr (.slice a3 s.rooms.length c3) s.rooms ∧ NR γ wr (.slice a6 s.full.length c6) s.full from ⟨by have := hI.out.1; rwa [HN.out, atK_all] at this, hI.out.2.1, hI.out.2.2.2⟩)
          clear hI HST
          go_upto_region 13 with fail
          go_loopw [53] (fun v wr' => ∃ (k : Nat) (sk : Sp) (fk : Nat → Nat), v = .int .i64 k ∧ k ≤ s.full.length ∧ Hid (PaI γ w wr' sb db cb rb ob kb w.heap.size bb (w.heap.size + 1) sk fk ∧ NR γ wr' (.slice a3 s.rooms.length c3) s.rooms ∧ NR γ wr' (.slice a6 s.full.length c6) s.full ∧ sk.putL fk ((s.rooms.zip s.full).drop k) = s.putL s.at0 (s.rooms.zip s.full) ∧ sk.own = s.own ∧ sk.Ok ∧ Ca.In s.c sk.c (2 * k))) (fun v _ => s.full.length - (Go.RowKit.intOf v).toNat)
          case atStart => exact ⟨0, s, s.at0, rfl, Nat.zero_le _, Lib.hid ⟨hT.out.1, hT.out.2.1, hT.out.2.2, rfl, rfl, hok, Ca.In.refl _ _⟩⟩
          case round =>
            obtain ⟨q, sk, fk, rfl, hq, hJ⟩ := hrel
            by_cases e2 : q < s.full.length
            · have j1 : (q : Int) < ((s.full.length : Nat) : Int) := by omega
              have j0 : (0 : Int) ≤ (q : Int) := by omega
              have j2 : (q : Int) < ((s.rooms.length : Nat) : Int) := by omega
              obtain ⟨x, hx⟩ : ∃ x, s.rooms[q]? = some x := ⟨_, List.getElem?_eq_getElem (by omega)⟩
              obtain ⟨i, hi⟩ : ∃ i, s.full[q]? = some i := ⟨_, List.getElem?_eq_getElem e2⟩
              have hi9 := full_lt i (List.mem_of_getElem? hi)
              obtain ⟨_, _, h3⟩ := hJ.out.2.1.get
              obtain ⟨g3, o3, rfl, hg3, hc3⟩ := h3 (by omega)
              obtain ⟨_, _, h6⟩ := hJ.out.2.2.1.get
              obtain ⟨g6, o6, rfl, hg6, hc6⟩ := h6 (by omega)
              have cx := hc3 q x hx
              have ci := hc6 q i hi
              have x0 : (0 : Int) ≤ (i : Int) := by omega
              have x9 : (i : Int) < 9 := by omega
              have cb0 := hJ.out.1.b9.c i hi9
              have cbz := hJ.out.1.b9.z i hi9
              have lbb := hJ.out.1.b9.lt
              have hS := Lib.hid (hJ.out.1.set h0 (x := x) hi9)
              have hNR := Lib.hid (And.intro (hJ.out.2.1.keep hS.out.2 rfl) (hJ.out.2.2.1.keep hS.out.2 rfl))
              have hdrop := Lib.hid (zip_drop hx hi)
              have hMD := Lib.hid (And.intro (hdrop.out ▸ hJ.out.2.2.2.1) hJ.out.2.2.2.2)
              have hcx7 := Lib.hid hx
              clear hJ hc3 hc6 h3 h6 hx hi hT
              go_upto_region 16 with fail
              generalize wr.setCell ⟨bb, i, none⟩ (.int .i64 (x : Int)) = W7 at hS hNR ⊢
              clear cx ci cb0 cbz
              have HS7 : Hid (∀ W, Below W7.heap.size W7 W → W.cell? ⟨w.heap.size, 0, none⟩ = some (.pointer (some ⟨sb, 0, none⟩)) ∧ W.cell? ⟨sb, 14, none⟩ = some (.pointer (some ⟨ob, 0, none⟩)) ∧ W.cell? ⟨g3, o3 + q, none⟩ = some (.int .i64 (x : Int))) := Lib.hid fun W hW => by
                have h := hS.out.1.below hW h0
                obtain ⟨_, _, h3⟩ := (hNR.out.1.keep (Step.below (S := fun _ => false) hW (Nat.le_trans h0 hS.out.1.st.size)) rfl).get
                obtain ⟨g', o', e', _, hc⟩ := h3 (by omega)
                injection e' with e'
                injection e' with ea eb'
                subst ea eb'
                exact ⟨h.qc, h.sp.1.s14, hc q x hcx7.out⟩
              have PB := Lib.hid (fun (W : World) (hW : Below W7.heap.size W7 W) => part_bytes (hS.out.1.below hW h0).sp.1.mo.v hi9)
              have hfl9 := full_len s
              have hpl := Lib.hid (part_len sk.own i)
              have PU := Lib.hid (fun (W : World) (v : Value) (hW : Below W7.heap.size W7 W) (hr : RV W v (Go.Sp.part sk.own i)) => put_s (hS.out.1.below hW h0).sp hMD.out.2.2.1 (bd_of hbd hMD.out.2.2.2 (by omega)) (Nat.le_trans h0 (Nat.le_trans hS.out.1.st.size hW.size)) x (k := 2) (by decide) hr hpl.out)
              have hst := HS7.out W7 (Below.refl _ _)
              obtain ⟨st1, st2, st3⟩ := hst
              generalize hqq : sk.put x 2 (Go.Sp.part sk.own i) = qq at PU
              have HQ := Lib.hid hqq
              clear hqq
              have lsb7 := cell_lt' st2
              have lg37 := cell_lt' st3
              have lqb7 := cell_lt' st1
              go_region_held3 (fun W => W.cell? ⟨w.heap.size, 0, none⟩ = some (.pointer (some ⟨sb, 0, none⟩)) ∧ W.cell? ⟨sb, 14, none⟩ = some (.pointer (some ⟨ob, 0, none⟩)) ∧ W.cell? ⟨g3, o3 + q, none⟩ = some (.int .i64 (x : Int)))
                ((first | (with_reducible refine HS7.out _ ?_; (repeat (first | with_reducible exact Below.refl _ _ | with_reducible assumption | with_reducible refine Below.drew ?_ | with_reducible refine Below.allocs ?_ _)); done) | (with_reducible exact HS9.out)))
                ((first
                  | (go_at_call 62; refine (PB.out _ ?_).mono ?_; (repeat (first | with_reducible exact Below.refl _ _ | with_reducible assumption | with_reducible refine Below.drew ?_ | with_reducible refine Below.allocs ?_ _)); rintro e w8 ⟨v8, rfl, hr8, hb8⟩; have HR8 := Lib.hid hr8; have hb78 : Below W7.heap.size W7 w8 := Below.up (by (repeat (first | with_reducible exact Below.refl _ _ | with_reducible assumption | with_reducible refine Below.drew ?_ | with_reducible refine Below.allocs ?_ _)); done) hb8; clear hr8; obtain ⟨a8, c8, rfl⟩ := HR8.out.rv.len)
                  | (go_at_call 52; refine (PU.out _ _ ?_ HR8.out.rv).mono ?_; (repeat (first | with_reducible exact Below.refl _ _ | with_reducible assumption | with_reducible refine Below.drew ?_ | with_reducible refine Below.allocs ?_ _)); rintro e w9 ⟨rfl, hq9⟩; have HP9 : Hid (PaI γ w w9 sb db cb rb ob kb w.heap.size bb (w.heap.size + 1) qq.2 (upd fk i x) ∧ NR γ w9 (.slice (some ⟨g3, o3, none⟩) s.rooms.length c3) s.rooms ∧ NR γ w9 (.slice (some ⟨g6, o6, none⟩) s.full.length c6) s.full) := Lib.hid (by
                      have hP8 := hS.out.1.below (by (repeat (first | with_reducible exact Below.refl _ _ | with_reducible assumption | with_reducible refine Below.drew ?_ | with_reducible refine Below.allocs ?_ _)); done : Below W7.heap.size W7 w8) h0
                      have h8 := Step.below (γ := γ) (S := fun _ => false) (by (repeat (first | with_reducible exact Below.refl _ _ | with_reducible assumption | with_reducible refine Below.drew ?_ | with_reducible refine Below.allocs ?_ _)); done : Below W7.heap.size W7 w8) (Nat.le_trans h0 hS.out.1.st.size)
                      exact ⟨hP8.step hq9.out.2 rfl rfl (fun _ h => h) hq9.out.1, NR.keep (S := spR) (hNR.out.1.keep h8 rfl) hq9.out.2 rfl, NR.keep (S := spR) (hNR.out.2.keep h8 rfl) hq9.out.2 rfl⟩); have HS9 : Hid (w9.cell? ⟨w.heap.size, 0, none⟩ = some (.pointer (some ⟨sb, 0, none⟩)) ∧ w9.cell? ⟨sb, 14, none⟩ = some (.pointer (some ⟨ob, 0, none⟩)) ∧ w9.cell? ⟨g3, o3 + q, none⟩ = some (.int .i64 (x : Int))) := Lib.hid (by
                      obtain ⟨_, _, h3⟩ := HP9.out.2.1.get
                      obtain ⟨g', o', e', _, hc⟩ := h3 (by omega)
                      injection e' with e'
                      injection e' with ea eb'
                      subst ea eb'
                      exact ⟨HP9.out.1.qc, HP9.out.1.sp.1.s14, hc q x hcx7.out⟩))))
              all_goals
                clear HS7 HS9 PB PU st1 st2 st3 lsb7 lg37 lqb7
                have hown : Hid (qq.2.own = s.own ∧ qq.2.Ok ∧ Ca.In s.c qq.2.c (2 * (q + 1))) := Lib.hid (by
                  rw [← HQ.out]
                  exact ⟨Sp.put_same.1.trans hMD.out.2.1, hMD.out.2.2.1.put, (hMD.out.2.2.2.trans Sp.put_in).mono (by omega)⟩)
                by_cases hz : qq.1 ≠ 0
                · have hb := neq0 hz
                  have hPE2 : Hid (s.parts = (qq.1, upd fk i x, qq.2)) := Lib.hid (by
                    rw [hPE.out, ← hMD.out.1]
                    unfold Sp.putL
                    rw [HQ.out]
                    exact if_pos hz)
                  clear hMD hown HQ hS hNR hPE
                  obtain ⟨ge, hge⟩ := HP9.out.1.e9
                  have hE := Lib.hid (hge.sets (upd fk i x))
                  have hF := Lib.hid (show SpK γ (w9.setCells (w.heap.size + 1) 0 (c9 (upd fk i x))) sb db cb rb ob kb qq.2 ∧ Step γ spR w (w9.setCells (w.heap.size + 1) 0 (c9 (upd fk i x))) from by
                    have hs := hge.stepSets h0 (upd fk i x)
                    exact ⟨⟨HP9.out.1.sp.1.keep hs (HP9.out.1.sp.1.ca.keep hs ⟨rfl, rfl, rfl, rfl⟩ ⟨rfl, rfl, rfl⟩) rfl rfl rfl, HP9.out.1.sp.2.keep HP9.out.1.sp.1.tg hs rfl rfl rfl⟩, HP9.out.1.st.sets h0 hge (upd fk i x)⟩)
                  have e0 := HP9.out.1.b9.c 0 (by decide)
                  have g0 := hge.c 0 (by decide)
                  have z0 := hge.z 0 (by decide)
                  have e1 := HP9.out.1.b9.c 1 (by decide)
                  have g1 := hge.c 1 (by decide)
                  have z1 := hge.z 1 (by decide)
                  have e2 := HP9.out.1.b9.c 2 (by decide)
                  have g2 := hge.c 2 (by decide)
                  have z2 := hge.z 2 (by decide)
                  have e3 := HP9.out.1.b9.c 3 (by decide)
                  have g3 := hge.c 3 (by decide)
                  have z3 := hge.z 3 (by decide)
                  have e4 := HP9.out.1.b9.c 4 (by decide)
                  have g4 := hge.c 4 (by decide)
                  have z4 := hge.z 4 (by decide)
                  have e5 := HP9.out.1.b9.c 5 (by decide)
                  have g5 := hge.c 5 (by decide)
                  have z5 := hge.z 5 (by decide)
                  have e6 := HP9.out.1.b9.c 6 (by decide)
                  have g6 := hge.c 6 (by decide)
                  have z6 := hge.z 6 (by decide)
                  have e7 := HP9.out.1.b9.c 7 (by decide)
                  have g7 := hge.c 7 (by decide)
                  have z7 := hge.z 7 (by decide)
                  have e8 := HP9.out.1.b9.c 8 (by decide)
                  have g8 := hge.c 8 (by decide)
                  have z8 := hge.z 8 (by decide)
                  have lbb := HP9.out.1.b9.lt
                  have leb := hge.lt
                  clear hge
                  go_wp2_with fail
                  rw [← set9 w9 (w.heap.size + 1) (upd fk i x)]
                  refine bodyPost_ret (parts_ret (eb := w.heap.size + 1) (f := (upd fk i x)) (c := ((qq.1 : Nat) : Int)) rfl rfl hE.out.1.range) rfl ?_
                  rw [hPE2.out]
                  exact ⟨rfl, hF⟩
                · have hz0 : qq.1 = 0 := by omega
                  have hMM : Hid (qq.2.putL (upd fk i x) ((s.rooms.zip s.full).drop (q + 1)) = s.putL s.at0 (s.rooms.zip s.full)) := Lib.hid (by
                    rw [← hMD.out.1]
                    conv => rhs; unfold Sp.putL
                    rw [HQ.out]
                    exact (if_neg hz).symm)
                  rw [hz0]
                  clear hMD HQ hS hNR
                  go_wp2_with fail
                  exact ⟨⟨q + 1, qq.2, upd fk i x, rfl, by omega, Lib.hid ⟨HP9.out.1, HP9.out.2.1, HP9.out.2.2, hMM.out, hown.out⟩⟩, measT e2⟩
            · have j1 : ¬ (q : Int) < ((s.full.length : Nat) : Int) := by omega
              have hPE2 : Hid (s.parts = (0, fk, sk)) := Lib.hid (by
                rw [hPE.out, ← hJ.out.2.2.2.1]
                rw [List.drop_eq_nil_of_le (by rw [List.length_zip]; omega)]
                rfl)
              have hJ1 := Lib.hid hJ.out.1
              clear hJ hT hPE
              obtain ⟨ge, hge⟩ := hJ1.out.e9
              have hE := Lib.hid (hge.sets fk)
              have hF := Lib.hid (show SpK γ (wr.setCells (w.heap.size + 1) 0 (c9 fk)) sb db cb rb ob kb sk ∧ Step γ spR w (wr.setCells (w.heap.size + 1) 0 (c9 fk)) from by
                have hs := hge.stepSets h0 fk
                exact ⟨⟨hJ1.out.sp.1.keep hs (hJ1.out.sp.1.ca.keep hs ⟨rfl, rfl, rfl, rfl⟩ ⟨rfl, rfl, rfl⟩) rfl rfl rfl, hJ1.out.sp.2.keep hJ1.out.sp.1.tg hs rfl rfl rfl⟩, hJ1.out.st.sets h0 hge fk⟩)
              have e0 := hJ1.out.b9.c 0 (by decide)
              have g0 := hge.c 0 (by decide)
              have z0 := hge.z 0 (by decide)
              have e1 := hJ1.out.b9.c 1 (by decide)
              have g1 := hge.c 1 (by decide)
              have z1 := hge.z 1 (by decide)
              have e2 := hJ1.out.b9.c 2 (by decide)
              have g2 := hge.c 2 (by decide)
              have z2 := hge.z 2 (by decide)
              have e3 := hJ1.out.b9.c 3 (by decide)
              have g3 := hge.c 3 (by decide)
              have z3 := hge.z 3 (by decide)
              have e4 := hJ1.out.b9.c 4 (by decide)
              have g4 := hge.c 4 (by decide)
              have z4 := hge.z 4 (by decide)
              have e5 := hJ1.out.b9.c 5 (by decide)
              have g5 := hge.c 5 (by decide)
              have z5 := hge.z 5 (by decide)
              have e6 := hJ1.out.b9.c 6 (by decide)
              have g6 := hge.c 6 (by decide)
              have z6 := hge.z 6 (by decide)
              have e7 := hJ1.out.b9.c 7 (by decide)
              have g7 := hge.c 7 (by decide)
              have z7 := hge.z 7 (by decide)
              have e8 := hJ1.out.b9.c 8 (by decide)
              have g8 := hge.c 8 (by decide)
              have z8 := hge.z 8 (by decide)
              have lbb := hJ1.out.b9.lt
              have leb := hge.lt
              clear hge
              go_wp2_with fail
              rw [← set9 wr (w.heap.size + 1) fk]
              refine bodyPost_ret (parts_ret (eb := w.heap.size + 1) (f := fk) (c := 0) rfl rfl hE.out.1.range) rfl ?_
              rw [hPE2.out]
              exact ⟨rfl, hF⟩
end Go.Tb
namespace Go.Tb
open Go Go.RowKit Go.Proofs Go.Maps Go.Sp
theorem v89 : Tryz.prog.underlying 67 = some (.array 9 3) := by kernel_rfl
theorem e3int : Tryz.prog.underlying 3 = some (.int .i64) := Tryz.underlying3
theorem run_index89 (w : World) (f : Nat → Nat) {k : Nat} (h : k < 9) : (Instr.index 67 (.agg #[.int .i64 (f 0 : Int), .int .i64 (f 1 : Int), .int .i64 (f 2 : Int), .int .i64 (f 3 : Int), .int .i64 (f 4 : Int), .int .i64 (f 5 : Int), .int .i64 (f 6 : Int), .int .i64 (f 7 : Int), .int .i64 (f 8 : Int)]) (.int .i64 (k : Int))).run Tryz.prog w = .ok (.int .i64 (f k : Int)) w := by
  have h9 : k = 0 ∨ k = 1 ∨ k = 2 ∨ k = 3 ∨ k = 4 ∨ k = 5 ∨ k = 6 ∨ k = 7 ∨ k = 8 := by omega
  have hs : (sizeOf 3).run Tryz.prog w = .ok 1 w := by kernel_rfl
  rcases h9 with rfl | rfl | rfl | rfl | rfl | rfl | rfl | rfl | rfl
  all_goals
    simp [Instr.index, asIntOf, run_underlying v89, hs, Sem.run_bind, Result.andThen, part, isAgg, run_underlying e3int]
def preB (r : Rt) (k : Nat) : Bs := ([97, 117, 109, 49] ++ le r.ep 4) ++ (List.range k).flatMap (fun i => le (r.at' i) 2)
theorem preB_succ (r : Rt) (k : Nat) : preB r (k + 1) = preB r k ++ le (r.at' k) 2 := by
  unfold preB; rw [List.range_succ, List.flatMap_append, List.append_assoc]; simp
theorem preB_len (r : Rt) : ∀ k, (preB r k).length = 8 + 2 * k
  | 0 => by simp [preB, le_len]
  | k + 1 => by rw [preB_succ, List.length_append, preB_len r k, le_len]; omega
theorem RN.of_own {base : Nat} {w : World} {v : Value} {bs : Bs} (h : w.ownsRow base 5 1 v bs.length (u8s bs)) (hx : ∀ x ∈ bs, x < 256) : RN base w v bs := RN.of h hx
theorem own_base {w : World} {base base' e size n : Nat} {v : Value} {xs : List Value} (h : w.ownsRow base e size v n xs) (hb : base' ≤ base) : w.ownsRow base' e size v n xs :=
  ⟨h.1, h.2.elim Or.inl (fun ⟨g, cap, cur, hv, hg, r⟩ => Or.inr ⟨g, cap, cur, hv, Nat.le_trans hb hg, r⟩)⟩
theorem preB_byte (r : Rt) (k : Nat) : ∀ x ∈ preB r k, x < 256 := by
  intro x hx
  unfold preB at hx
  rcases List.mem_append.1 hx with h | h
  · rcases List.mem_append.1 h with h | h
    · simp at h; omega
    · exact le_byte 4 _ x h
  · obtain ⟨i, _, h⟩ := List.mem_flatMap.1 h
    exact le_byte 2 _ x h
theorem body_ok {w : World} {b : Nat} {r : Rt} {v : Value} (hep : w.cell? ⟨b, 0, none⟩ = some (.int .u32 (r.ep : Int))) (he : r.ep < 4294967296) (hp : ∀ i, i < 9 → w.cell? ⟨b, 1 + i, none⟩ = some (.int .i64 (r.at' i : Int)) ∧ r.at' i < 65536) (hm : w.cell? ⟨b, 10, none⟩ = some v) (hv : RV w v r.mt) (hml : r.mt.length ≤ 1000000) :
    Calls Tryz.prog 34 #[.pointer (some ⟨b, 0, none⟩)] w fun e w' => ∃ v', e = .returned v' ∧ RN w.heap.size w' v' (bodyR r) ∧ Below w.heap.size w w' := by
  have hl := cell_lt' hep
  have hcv := Lib.run_convert_bytes_const (P := Tryz.prog) w 33 5 #[.int .u8 97, .int .u8 117, .int .u8 109, .int .u8 49] 4 4 Tryz.underlying33 Tryz.underlying5
  obtain ⟨W0, hW0⟩ : ∃ W0, w.alloc (.cells #[.int .u8 97, .int .u8 117, .int .u8 109, .int .u8 49] 5 (4, 5)) = W0 := ⟨_, rfl⟩
  have hb0 : Below w.heap.size w W0 := hW0 ▸ Below.alloc (Below.refl _ _) (Nat.le_refl _) _
  have hh : W0.heap[w.heap.size]? = some (.cells #[.int .u8 97, .int .u8 117, .int .u8 109, .int .u8 49] 5 (4, 5)) := hW0 ▸ (Go.MapKept.heap_alloc w _).1
  have hr0 : RV W0 (.slice (some ⟨w.heap.size, 0, none⟩) 4 4) [97, 117, 109, 49] := by
    refine ⟨_, _, rfl, ⟨by decide, by decide⟩, fun _ => ⟨w.heap.size, 0, rfl, (Array.getElem?_eq_some_iff.1 hh).1, fun j x hj => ?_⟩⟩
    have hj4 : j < 4 := (List.getElem?_eq_some_iff.1 hj).1
    have h4 : j = 0 ∨ j = 1 ∨ j = 2 ∨ j = 3 := by omega
    rcases h4 with rfl | rfl | rfl | rfl <;> (simp at hj; subst hj; simp [World.cell?, hh])
  have PU := Lib.hid (put_o (x := r.ep) (m := 4) hr0 (by simp) (.inr rfl) (by omega))
  have HB0 := Lib.hid hb0
  have HW := Lib.hid hW0
  have hwe : IntKind.u64.wrap (r.ep : Int) = (r.ep : Int) := by rw [IntKind.wrap_u64]; omega
  obtain ⟨va, vc, rfl⟩ := hv.len
  have HV := Lib.hid hv
  have HP := Lib.hid hp
  have HPW : Hid (∀ W, Below w.heap.size w W → W.cell? ⟨b, 1, none⟩ = some (.int .i64 (r.at' 0 : Int)) ∧ W.cell? ⟨b, 2, none⟩ = some (.int .i64 (r.at' 1 : Int)) ∧ W.cell? ⟨b, 3, none⟩ = some (.int .i64 (r.at' 2 : Int)) ∧ W.cell? ⟨b, 4, none⟩ = some (.int .i64 (r.at' 3 : Int)) ∧ W.cell? ⟨b, 5, none⟩ = some (.int .i64 (r.at' 4 : Int)) ∧ W.cell? ⟨b, 6, none⟩ = some (.int .i64 (r.at' 5 : Int)) ∧ W.cell? ⟨b, 7, none⟩ = some (.int .i64 (r.at' 6 : Int)) ∧ W.cell? ⟨b, 8, none⟩ = some (.int .i64 (r.at' 7 : Int)) ∧ W.cell? ⟨b, 9, none⟩ = some (.int .i64 (r.at' 8 : Int)) ∧ W.cell? ⟨b, 10, none⟩ = some (.slice va r.mt.length vc)) := Lib.hid fun W hW => ⟨cells_below hW _ _ (hp 0 (by decide)).1, cells_below hW _ _ (hp 1 (by decide)).1, cells_below hW _ _ (hp 2 (by decide)).1, cells_below hW _ _ (hp 3 (by decide)).1, cells_below hW _ _ (hp 4 (by decide)).1, cells_below hW _ _ (hp 5 (by decide)).1, cells_below hW _ _ (hp 6 (by decide)).1, cells_below hW _ _ (hp 7 (by decide)).1, cells_below hW _ _ (hp 8 (by decide)).1, cells_below hW _ _ hm⟩
  clear hh hr0 hb0 hv hp hW0 hm
  go_enter Tryz.func34, Tryz.ntmps34
  go_upto_region 3 with (go_at_call 56; rw [HW.out]; refine PU.out.mono ?_; rintro e w1 ⟨⟨v1, rfl, ho1⟩, hb1⟩; have HO1 := Lib.hid ho1; have hbw := Below.up HB0.out hb1; obtain ⟨q0, q1, q2, q3, q4, q5, q6, q7, q8, q9⟩ := HPW.out w1 hbw; have lq := cell_lt' q0; have HB1 := Lib.hid hbw; clear ho1 hb1 hbw)
  have HI0 := Lib.hid (And.intro (own_base HO1.out HB0.out.size) HB1.out)
  rw [show ([97, 117, 109, 49] ++ le r.ep 4 : Bs) = preB r 0 by simp [preB]] at HI0
  clear HO1 HB1
  go_loopw [3, 18] (fun u v wr => ∃ k : Nat, v = .int .i64 k ∧ k ≤ 9 ∧ Hid (wr.ownsRow w.heap.size 5 1 u (preB r k).length (u8s (preB r k)) ∧ Below w.heap.size w wr)) (fun _ v _ => 9 - (Go.RowKit.intOf v).toNat)
  case atStart => exact ⟨0, rfl, Nat.zero_le _, HI0⟩
  case round =>
    obtain ⟨k, rfl, hk, hI⟩ := hrel
    by_cases e : k < 9
    · have i1 : (k : Int) < 9 := by omega
      have i0 : (0 : Int) ≤ (k : Int) := by omega
      have hix := fun W => run_index89 W r.at' e
      have hp6 := (HP.out k e).2
      have hw2 : IntKind.u64.wrap (r.at' k : Int) = (r.at' k : Int) := by rw [IntKind.wrap_u64]; omega
      have PK := put_o (x := r.at' k) (m := 2) (RN.of hI.out.1 (preB_byte r k)).rv (by rw [preB_len]; omega) (.inl rfl) (by omega)
      have HB := Lib.hid hI.out.2
      rw [← preB_succ] at PK
      generalize r.at' k = y at *
      clear hI HP
      go_wp2_with (go_at_call 56; refine PK.mono ?_; rintro e w6 ⟨⟨v', rfl, hr⟩, hb⟩)
      exact ⟨⟨k + 1, rfl, by omega, Lib.hid ⟨own_base hr HB.out.size, Below.up HB.out hb⟩⟩, measT e⟩
    · have ek : k = 9 := by omega
      subst ek
      have i1 : ¬ ((9 : Nat) : Int) < 9 := by omega
      have hEQ : Hid (bodyR r = preB r 9 ++ r.mt) := Lib.hid (by simp [bodyR, preB])
      have hmx := Lib.hid (HV.out.byte)
      obtain ⟨q0, q1, q2, q3, q4, q5, q6, q7, q8, q9⟩ := HPW.out wr hI.out.2
      have lq := cell_lt' q0
      have hown := hI.out.1
      have HB := Lib.hid hI.out.2
      obtain ⟨i, hi, i1', i2, i3⟩ := i5'
      have hbx := preB_byte r 9
      have hlenp := preB_len r 9
      rcases hown.2 with ⟨_, h0⟩ | ⟨g, cap, cur, rfl, hg, hh, hcap, h5, h6⟩
      · omega
      have HO := Lib.hid hown
      have HI := Lib.hid hi
      have HX := Lib.hid hbx
      by_cases hz : r.mt.length = 0
      · have hmt : r.mt = [] := List.length_eq_zero_iff.1 hz
        have HF : Hid (RN w.heap.size wr (.slice (some ⟨g, 0, none⟩) (preB r 9).length cap) (bodyR r)) := Lib.hid (by rw [hEQ.out, hmt, List.append_nil]; exact RN.of HO.out HX.out)
        rw [hz] at q9
        clear hI hown hh hi hbx q0 q1 q2 q3 q4 q5 q6 q7 q8 hmt hz
        go_wp2_with (at_builtin; go_loud (refine wpList_append_zero _ rfl _ _ 33 rfl 5 i Tryz.underlying33 HI.out ⟨g, 0, none⟩ (preB r 9).length cap rfl hcap va vc rfl ?_))
        go_ret
        exact ⟨_, rfl, HF.out, HB.out⟩
      · obtain ⟨ad, hva⟩ : ∃ ad, va = some ad := by
          obtain ⟨a', c', e', _, h⟩ := HV.out
          injection e' with e1' e2' e3'
          obtain ⟨g', o', e4, _⟩ := h (by omega)
          exact ⟨_, e1'.trans e4⟩
        subst hva
        have HNW := Lib.hid (HV.out.news HB.out ad rfl)
        have hml2 : r.mt.length ≤ 1000000 := hml
        have HF := Lib.hid (fun (v' : Value) (w3 : World) (h : w3.ownsRow w.heap.size 5 1 v' ((preB r 9).length + r.mt.length) (u8s (preB r 9) ++ u8s r.mt)) => show RN w.heap.size w3 v' (bodyR r) from by
          rw [hEQ.out]
          refine RN.of (n := (preB r 9).length + r.mt.length) (by rw [show u8s (preB r 9 ++ r.mt) = u8s (preB r 9) ++ u8s r.mt by simp [u8s]]; exact h) fun x hx => ?_
          exact (List.mem_append.1 hx).elim (HX.out x) (hmx.out x))
        have HL : Hid ((u8s r.mt).length = r.mt.length * 1) := Lib.hid (by rw [u8s_len, Nat.mul_one])
        clear hI hown hh hi hbx q0 q1 q2 q3 q4 q5 q6 q7 q8 h5 h6
        generalize (preB r 9).length = pl at *
        generalize r.mt.length = ml at *
        go_wp2_with (at_builtin; go_loud (refine wpList_append_own _ rfl _ _ 33 rfl w.heap.size 5 i (.int .u8 0) 1 1 Tryz.underlying33 HI.out i3 i1' i2 rfl (by decide) _ pl _ rfl HO.out _ ml _ _ rfl HL.out HNW.out u8s_one (Nat.le_trans (show pl + ml ≤ 2000000 by omega) (by decide)) (by omega) HB.out.size ?_; intro v' w3 h1 h2 h3))
        go_ret
        exact ⟨_, rfl, HF.out _ _ h1, HB.out.grown h2 HB.out.size (fun k hk => (HO.out.lt k hk).1)⟩
end Go.Tb
