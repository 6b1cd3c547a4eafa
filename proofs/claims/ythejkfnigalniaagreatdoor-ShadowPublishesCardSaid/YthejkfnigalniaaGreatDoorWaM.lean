/- A part of a proof about the shadow space: what a function of the program answers, walked by hand. Each theorem says its own conditions. -/
import Derived.Test.YthejkfnigalniaaGreatDoorWaL
set_option linter.unusedVariables false
set_option linter.unusedSimpArgs false
set_option maxRecDepth 100000
set_option maxHeartbeats 800000
namespace Go.Tb
open Go Go.RowKit Go.Proofs Go.Maps Go.Sp
theorem By.del {x : St} (h : By x) (p : Nat) : By (x.del p) := ⟨fun q => by
  show Go.Sp.bytes (upd x.b p [] q)
  unfold upd; split
  · exact fun y hy => by simp at hy
  · exact h.b q, h.mt⟩
theorem By.put {x : St} (h : By x) (p : Nat) {b : Bs} (hb : Go.Sp.bytes b) : By (x.put p b) := ⟨fun q => by
  show Go.Sp.bytes (upd x.b p b q)
  unfold upd; split
  · exact hb
  · exact h.b q, h.mt⟩
section
variable {w W : World} {db sb wb : Nat} {s : Sp} {now last wanted : St} {torn : Bool} {N k : Nat} {p t : Int} {ba ka : Option Addr} {bn bc kn kc : Nat}
theorem world_drop (h : WL w W db sb wb s now last wanted torn) (hI : WI N k s now last wanted torn) (hk : k ≤ 100) (hB : By now ∧ By last ∧ By wanted) :
    Calls Tryz.prog 36 #[.pointer (some ⟨wb, 0, none⟩), opV 2 p (.slice ba bn bc) (.slice ka kn kc) t] W (DoesW w db wb N k s.c.d.Al) := by
  have hbd : s.Bd 5000 := ⟨by have := hI.clk; omega, by have := hI.P; omega⟩
  have hN : 2 ≤ s.c.d.N ∧ s.c.d.N ≤ 4096 := by have := hI.hN; have := hI.hN2; omega
  obtain ⟨W1, hW1⟩ : ∃ W1, W.alloc (.cells #[.int .i64 2, .int .i64 p, .slice ba bn bc, .slice ka kn kc, .int .i64 t] 73) = W1 := ⟨_, rfl⟩
  have hb1 : Below W.heap.size W W1 := hW1 ▸ Below.alloc (Below.refl _ _) (Nat.le_refl _) _
  have hO1 : W1.heap[W.heap.size]? = some (.cells #[.int .i64 2, .int .i64 p, .slice ba bn bc, .slice ka kn kc, .int .i64 t] 73 (0, 0)) := hW1 ▸ (Go.MapKept.heap_alloc W _).1
  have P1 : PrP w W1 db sb wb W.heap.size s now last wanted torn 2 p t (.slice ba bn bc) (.slice ka kn kc) := by
    obtain ⟨γ, g, hs, hw⟩ := h
    have st : Step γ (fun _ => false) W W1 := Step.below hb1 g.2.1
    exact ⟨⟨γ, ⟨g.1, Nat.le_trans g.2.1 st.size, g.2.2.trans (g.1 ▸ st.be)⟩, hs.below hb1 g.2.1, hw.keep st rfl, Tag.new g.2.1 hO1⟩, hO1⟩
  have DO := Lib.hid (fun (γ : Gh) (W' : World) (hs : SpV γ W' sb db s) (h0 : γ.lim ≤ W'.heap.size) (hbe : Below w.heap.size w W') => show Calls Tryz.prog 46 #[.pointer (some ⟨sb, 0, none⟩), opV 2 p (.slice ba bn bc) (.slice ka kn kc) t] W' (DoesP γ W' sb db (([], false, (s.drop p).1), (s.drop p).2)) from does_drop hs hI.ok h0)
  unfold opV at *
  obtain ⟨c0, c1, ⟨o0, o1, o2, o3, o4⟩, cd⟩ := P1.cells
  have DD := dead_ok cd
  have HP := Lib.hid P1
  have HW := Lib.hid hW1
  have HI := Lib.hid hI
  have HB := Lib.hid hB
  obtain ⟨bs, hbs⟩ : ∃ bs : Bs, [] = bs := ⟨_, rfl⟩
  obtain ⟨m, hm⟩ : ∃ m, bs.length = m := ⟨_, rfl⟩
  have HLN : Hid (bs.length = m) := Lib.hid hm
  rw [hbs] at DO
  have HQ := Lib.hid (hI.drop p)
  have HAL : Hid (s.c.d.Al → (s.drop p).2.c.d.Al) := Lib.hid (fun h => Sp.drop_k h p)
  generalize (s.drop p).2 = s2 at *
  generalize (s.drop p).1 = en at *
  clear hm
  have DOA : Hid (Calls Tryz.prog 46 #[.pointer (some ⟨sb, 0, none⟩), .agg #[.int .i64 2, .int .i64 p, .slice ba bn bc, .slice ka kn kc, .int .i64 t]] W1.drew (fun e w' => ∃ a c, e = .returned (.agg #[.slice a m c, .bool false, .int .i64 (en : Int)]) ∧ Hid ((∃ γ' : Gh, (γ'.B = w.heap.size ∧ γ'.lim ≤ w'.heap.size ∧ Below w.heap.size w w') ∧ SpV γ' w' sb db s2 ∧ WB γ' w' wb db sb now last wanted torn ∧ w'.heap[W.heap.size]? = some (.cells #[.int .i64 2, .int .i64 p, .slice ba bn bc, .slice ka kn kc, .int .i64 t] 73 (0, 0)) ∧ RV w' (.slice a m c) bs) ∧ True))) := Lib.hid (by
    obtain ⟨⟨γ, g, hs, hw, ht⟩, ho⟩ := HP.out.below (Below.drew (Below.refl _ _))
    refine (DO.out γ _ hs g.2.1 g.2.2).mono ?_
    rintro e w' ⟨a, c, h1, h2⟩
    obtain ⟨γ', f1, f2, f3, f4, f5, f6⟩ := PrP.after g hw ht ho h2.out
    exact ⟨a, c, HLN.out ▸ h1, Lib.hid ⟨⟨γ', f1, f2, f3, f4, HLN.out ▸ f5⟩, trivial⟩⟩)
  have DOB : Hid (Calls Tryz.prog 46 #[.pointer (some ⟨sb, 0, none⟩), .agg #[.int .i64 2, .int .i64 p, .slice ba bn bc, .slice ka kn kc, .int .i64 t]] (W1.drew.alloc (.cells #[.slice none 0 0, .bool false, .int .i64 0] 79)) (fun e w' => ∃ a c, e = .returned (.agg #[.slice a m c, .bool false, .int .i64 (en : Int)]) ∧ Hid ((∃ γ' : Gh, (γ'.B = w.heap.size ∧ γ'.lim ≤ w'.heap.size ∧ Below w.heap.size w w') ∧ SpV γ' w' sb db s2 ∧ WB γ' w' wb db sb now last wanted torn ∧ w'.heap[W.heap.size]? = some (.cells #[.int .i64 2, .int .i64 p, .slice ba bn bc, .slice ka kn kc, .int .i64 t] 73 (0, 0)) ∧ RV w' (.slice a m c) bs ∧ Tag γ' w' W1.heap.size 33) ∧ w'.heap[W1.heap.size]? = some (.cells z79 79 (0, 0))))) := Lib.hid (by
    obtain ⟨γ, g, hs, hw, ht, hT⟩ := (HP.out.below (Below.drew (Below.refl _ _))).told (C := z79)
    have hO2 := (Below.heap_alloc W1.drew (.cells z79 79) _ (Array.getElem?_eq_some_iff.1 HP.out.op).1).trans HP.out.op
    have hz := (Go.MapKept.heap_alloc W1.drew (.cells z79 79)).1
    have lz := (Array.getElem?_eq_some_iff.1 hz).1
    refine (DO.out γ _ hs g.2.1 g.2.2).mono ?_
    rintro e w' ⟨a, c, h1, h2⟩
    obtain ⟨γ', f1, f2, f3, f4, f5, f6⟩ := PrP.after g hw ht hO2 h2.out
    exact ⟨a, c, HLN.out ▸ h1, Lib.hid ⟨⟨γ', f1, f2, f3, f4, HLN.out ▸ f5, (f6 _ lz hT).2⟩, (f6 _ lz hT).1.trans hz⟩⟩)
  have HSP : Hid (∀ W', Below W1.heap.size W1 W' → W'.cell? ⟨wb, 1, none⟩ = some (.pointer (some ⟨sb, 0, none⟩)) ∧ W'.cell? ⟨W.heap.size, 0, none⟩ = some (.int .i64 2) ∧ W'.cell? ⟨W.heap.size, 1, none⟩ = some (.int .i64 p) ∧ W'.cell? ⟨W.heap.size, 2, none⟩ = some (.slice ba bn bc) ∧ W'.cell? ⟨W.heap.size, 3, none⟩ = some (.slice ka kn kc) ∧ W'.cell? ⟨W.heap.size, 4, none⟩ = some (.int .i64 t)) := Lib.hid fun W' hb => ⟨cells_below hb _ _ c1, cells_below hb _ _ o0, cells_below hb _ _ o1, cells_below hb _ _ o2, cells_below hb _ _ o3, cells_below hb _ _ o4⟩
  have l1 := cell_lt' c0
  have HLT : Hid (W.heap.size < W1.heap.size ∧ wb < W.heap.size) := Lib.hid ⟨cell_lt' o0, by obtain ⟨γ, g, hs, hw⟩ := h; exact hw.lt⟩
  clear hW1 hb1 hO1 P1 hI hB h DO
  go_enter Tryz.func36, Tryz.ntmps36
  go_upto_region 1 with fail
  rw [HW.out]
  go_upto_region 7 with (go_at_call 75; refine DD.mono ?_; rintro e w4 ⟨rfl, hw4⟩; subst w4)
  clear DD
  apply cut_tail (fun T a c X => Hid (AnP w X db sb wb W.heap.size T s2 now last wanted torn 2 p t (.slice ba bn bc) (.slice ka kn kc) (.slice a m c) false en bs))
  · intro TAIL
    refine wp_region_held_drew (S := (fun W' => W'.cell? ⟨wb, 1, none⟩ = some (.pointer (some ⟨sb, 0, none⟩)) ∧ W'.cell? ⟨W.heap.size, 0, none⟩ = some (.int .i64 2) ∧ W'.cell? ⟨W.heap.size, 1, none⟩ = some (.int .i64 p) ∧ W'.cell? ⟨W.heap.size, 2, none⟩ = some (.slice ba bn bc) ∧ W'.cell? ⟨W.heap.size, 3, none⟩ = some (.slice ka kn kc) ∧ W'.cell? ⟨W.heap.size, 4, none⟩ = some (.int .i64 t))) (by kernel_rfl) ?_ (fun hHeld => ?_)
    · (with_reducible refine HSP.out _ ?_; (repeat (first | with_reducible exact Below.refl _ _ | with_reducible assumption | with_reducible refine Below.drew ?_ | with_reducible refine Below.allocs ?_ _)); done)
    refine wpAnyH_take (i := 0) (oi := { dst := some 30, op := .move (.tmp 0), type := _, pos := _, after := _, guard := none }) (v := ?va1) rfl (by kernel_rfl) (by kernel_rfl) (by kernel_rfl) (fun _ _ _ h => h) (Or.inl ⟨by rfl, ?hya1⟩) (by assumption) ?resta1
    case hya1 => (intro w hSw; (try dsimp only at hSw); go_simp; try with_reducible rfl)
    try simp only [Act.put, List.setIfInBounds_toArray, List.set_cons_zero, List.set_cons_succ]
    refine wpAnyH_take (i := 1) (oi := { dst := some 31, op := .nilCheck (.tmp 30), type := _, pos := _, after := _, guard := none }) (v := ?va2) rfl (by kernel_rfl) (by kernel_rfl) (by kernel_rfl) (fun _ _ _ h => h) (Or.inl ⟨by rfl, ?hya2⟩) (by assumption) ?resta2
    case hya2 => (intro w hSw; (try dsimp only at hSw); go_simp; try with_reducible rfl)
    try simp only [Act.put, List.setIfInBounds_toArray, List.set_cons_zero, List.set_cons_succ]
    refine wpAnyH_take (i := 2) (oi := { dst := some 32, op := .fieldAddr 33 (.tmp 31) 1, type := _, pos := _, after := _, guard := none }) (v := ?va3) rfl (by kernel_rfl) (by kernel_rfl) (by kernel_rfl) (fun _ _ _ h => h) (Or.inl ⟨by rfl, ?hya3⟩) (by assumption) ?resta3
    case hya3 => (intro w hSw; (try dsimp only at hSw); go_simp; try with_reducible rfl)
    try simp only [Act.put, List.setIfInBounds_toArray, List.set_cons_zero, List.set_cons_succ]
    refine wpAnyH_take (i := 3) (oi := { dst := some 33, op := .load 27 (.tmp 32), type := _, pos := _, after := _, guard := none }) (v := ?va4) rfl (by kernel_rfl) (by kernel_rfl) (by kernel_rfl) (fun _ _ _ h => h) (Or.inl ⟨by rfl, ?hya4⟩) (by assumption) ?resta4
    case hya4 => (intro w hSw; (try dsimp only at hSw); go_simp; try with_reducible rfl)
    try simp only [Act.put, List.setIfInBounds_toArray, List.set_cons_zero, List.set_cons_succ]
    refine wpAnyH_take (i := 4) (oi := { dst := some 34, op := .load 73 (.tmp 3), type := _, pos := _, after := _, guard := none }) (v := ?va5) rfl (by kernel_rfl) (by kernel_rfl) (by kernel_rfl) (fun _ _ _ h => h) (Or.inl ⟨by rfl, ?hya5⟩) (by assumption) ?resta5
    case hya5 => (intro w hSw; (try dsimp only at hSw); go_simp; try with_reducible rfl)
    try simp only [Act.put, List.setIfInBounds_toArray, List.set_cons_zero, List.set_cons_succ]
    refine wpAnyH_ready (rs := [5, 6]) (by kernel_rfl) (by simp) ?_
    refine AllReadyH.cons (o := { dst := some 35, op := .call { callee := .value (.func 46), args := #[(.tmp 33), (.tmp 34)], argTypes := #[27, 73] }, type := _, pos := _, after := _, guard := none }) rfl (fun K hK => ?_) (AllReadyH.cons (o := { dst := some 6, op := .alloc 79, type := _, pos := _, after := _, guard := none }) rfl (fun K hK => ?_) AllReadyH.nil)
    · go_simp
      go_at_call 46
      refine (DOA.out).mono ?_
      rintro e w5 ⟨a5, c5, rfl, hq5⟩
      have HSA : Hid (∀ W', Below w5.heap.size w5 W' → W'.cell? ⟨wb, 1, none⟩ = some (.pointer (some ⟨sb, 0, none⟩)) ∧ W'.cell? ⟨W.heap.size, 0, none⟩ = some (.int .i64 2) ∧ W'.cell? ⟨W.heap.size, 1, none⟩ = some (.int .i64 p) ∧ W'.cell? ⟨W.heap.size, 2, none⟩ = some (.slice ba bn bc) ∧ W'.cell? ⟨W.heap.size, 3, none⟩ = some (.slice ka kn kc) ∧ W'.cell? ⟨W.heap.size, 4, none⟩ = some (.int .i64 t)) := Lib.hid fun W' hb => (by
        obtain ⟨⟨γ', g1, g2, g3, g4, g5⟩, g6⟩ := hq5.out
        obtain ⟨o0, o1, o2, o3, o4, lO⟩ := op5 g4
        exact ⟨cells_below hb _ _ g3.c1, cells_below hb _ _ o0, cells_below hb _ _ o1, cells_below hb _ _ o2, cells_below hb _ _ o3, cells_below hb _ _ o4⟩)
      refine hK.out _ _ ?_ (fun hHeld => ?_)
      · exact HSA.out _ (Below.refl _ _)
      clear hK K
      try simp only [Act.put, List.setIfInBounds_toArray, List.set_cons_zero, List.set_cons_succ]
      refine wpAnyH_ready (rs := [6]) (by kernel_rfl) (by simp) ?_
      refine AllReadyH.cons (o := { dst := some 6, op := .alloc 79, type := _, pos := _, after := _, guard := none }) rfl (fun K hK => ?_) AllReadyH.nil
      go_simp
      refine hK.out _ _ ?_ (fun hHeld => ?_)
      · (with_reducible refine HSA.out _ ?_; (repeat (first | with_reducible exact Below.refl _ _ | with_reducible assumption | with_reducible refine Below.drew ?_ | with_reducible refine Below.allocs ?_ _)); done)
      clear hK K
      try simp only [Act.put, List.setIfInBounds_toArray, List.set_cons_zero, List.set_cons_succ]
      refine wpAnyH_ready (rs := [7]) (by kernel_rfl) (by simp) ?_
      refine AllReadyH.cons (o := { dst := none, op := .store 79 (.tmp 6) (.tmp 35), type := _, pos := _, after := _, guard := none }) rfl (fun K hK => ?_) AllReadyH.nil
      go_simp
      refine hK.out _ _ ?_ (fun hHeld => ?_)
      · (with_reducible refine HSA.out _ ?_; (repeat (first | with_reducible exact Below.refl _ _ | with_reducible assumption | with_reducible refine Below.drew ?_ | with_reducible refine Below.allocs ?_ _)); done)
      clear hK K
      try simp only [Act.put, List.setIfInBounds_toArray, List.set_cons_zero, List.set_cons_succ]
      refine wpAnyH_done (by kernel_rfl) ?_ _
      refine take_last ?_
      intro X hX
      generalize hT : w5.heap.size = T
      refine TAIL T a5 c5 X (Lib.hid ?_)
      obtain ⟨⟨γ', g1, g2, g3, g4, g5⟩, g6⟩ := hq5.out
      have hb : Below w5.heap.size w5 X := hX ▸ Below.alloc (Below.refl _ _) (Nat.le_refl _) _
      have st : Step γ' (fun _ => false) w5 X := Step.below hb g1.2.1
      have lO := (Array.getElem?_eq_some_iff.1 g4).1
      exact ⟨⟨γ', ⟨g1.1, Nat.le_trans g1.2.1 st.size, g1.2.2.trans (g1.1 ▸ st.be)⟩, g2.below hb g1.2.1, g3.keep st rfl⟩, (hb.block _ lO).trans g4, by rw [← hX, ← hT]; exact (Go.MapKept.heap_alloc w5 _).1, g5.keep hb⟩
    · go_simp
      refine hK.out _ _ ?_ (fun hHeld => ?_)
      · (with_reducible refine HSP.out _ ?_; (repeat (first | with_reducible exact Below.refl _ _ | with_reducible assumption | with_reducible refine Below.drew ?_ | with_reducible refine Below.allocs ?_ _)); done)
      clear hK K
      try simp only [Act.put, List.setIfInBounds_toArray, List.set_cons_zero, List.set_cons_succ]
      refine wpAnyH_ready (rs := [5]) (by kernel_rfl) (by simp) ?_
      refine AllReadyH.cons (o := { dst := some 35, op := .call { callee := .value (.func 46), args := #[(.tmp 33), (.tmp 34)], argTypes := #[27, 73] }, type := _, pos := _, after := _, guard := none }) rfl (fun K hK => ?_) AllReadyH.nil
      go_simp
      go_at_call 46
      refine (DOB.out).mono ?_
      rintro e w5 ⟨a5, c5, rfl, hq5⟩
      have HSA : Hid (∀ W', Below w5.heap.size w5 W' → W'.cell? ⟨wb, 1, none⟩ = some (.pointer (some ⟨sb, 0, none⟩)) ∧ W'.cell? ⟨W.heap.size, 0, none⟩ = some (.int .i64 2) ∧ W'.cell? ⟨W.heap.size, 1, none⟩ = some (.int .i64 p) ∧ W'.cell? ⟨W.heap.size, 2, none⟩ = some (.slice ba bn bc) ∧ W'.cell? ⟨W.heap.size, 3, none⟩ = some (.slice ka kn kc) ∧ W'.cell? ⟨W.heap.size, 4, none⟩ = some (.int .i64 t)) := Lib.hid fun W' hb => (by
        obtain ⟨⟨γ', g1, g2, g3, g4, g5⟩, g6⟩ := hq5.out
        obtain ⟨o0, o1, o2, o3, o4, lO⟩ := op5 g4
        exact ⟨cells_below hb _ _ g3.c1, cells_below hb _ _ o0, cells_below hb _ _ o1, cells_below hb _ _ o2, cells_below hb _ _ o3, cells_below hb _ _ o4⟩)
      obtain ⟨y0, y1, y2, zy0, zy1, zy2, lB⟩ := z79_cells hq5.out.2
      refine hK.out _ _ ?_ (fun hHeld => ?_)
      · (obtain ⟨⟨γ', g1, g2, g3, g4, g5⟩, g6⟩ := hq5.out; obtain ⟨o0, o1, o2, o3, o4, lO⟩ := op5 g4; exact ⟨g3.c1, o0, o1, o2, o3, o4⟩)
      clear hK K
      try simp only [Act.put, List.setIfInBounds_toArray, List.set_cons_zero, List.set_cons_succ]
      refine wpAnyH_ready (rs := [7]) (by kernel_rfl) (by simp) ?_
      refine AllReadyH.cons (o := { dst := none, op := .store 79 (.tmp 6) (.tmp 35), type := _, pos := _, after := _, guard := none }) rfl (fun K hK => ?_) AllReadyH.nil
      go_simp
      refine hK.out _ _ ?_ (fun hHeld => ?_)
      · (obtain ⟨⟨γ', g1, g2, g3, g4, g5⟩, g6⟩ := hq5.out; have hO := (heap3 w5 W1.heap.size (.slice a5 m c5) (.bool false) (.int .i64 (en : Int)) (j := W.heap.size) (by have := HLT.out.1; omega)).trans g4; have hW := heap3 w5 W1.heap.size (.slice a5 m c5) (.bool false) (.int .i64 (en : Int)) (j := wb) (by have := HLT.out; omega); obtain ⟨o0, o1, o2, o3, o4, lO⟩ := op5 hO; exact ⟨(cell_of_heap (a := ⟨wb, 1, none⟩) hW).1.trans g3.c1, o0, o1, o2, o3, o4⟩)
      clear hK K
      try simp only [Act.put, List.setIfInBounds_toArray, List.set_cons_zero, List.set_cons_succ]
      refine wpAnyH_done (by kernel_rfl) ?_ _
      refine take_last ?_
      intro X hX
      have HLT2 : Hid (wb < W1.heap.size ∧ W.heap.size ≠ W1.heap.size) := Lib.hid (by have := HLT.out; omega)
      clear y0 y1 y2 zy0 zy1 zy2 lB
      generalize hT : W1.heap.size = T at hX hq5 HLT2 ⊢
      refine TAIL T a5 c5 X (Lib.hid ?_)
      obtain ⟨⟨γ', g1, g2, g3, g4, g5, g8⟩, g6⟩ := hq5.out
      exact AnP.laid g1 g2 g3 g4 g5 g6 g8 HLT2.out.1 HLT2.out.2 hX
  · intro T a c X HA
    obtain ⟨t0, t1, t2, lT⟩ := c79 HA.out.tl
    obtain ⟨o0, o1, o2, o3, o4, lO⟩ := op5 HA.out.op
    clear HP HSP DOA DOB HW c0 c1 cd l1 hN hbd
    cases hd : s.c.d.dead with
    | true =>
      obtain rfl := HQ.out.1 hd
      have HWI : Hid (WI N (k + 1) s2 now last wanted torn) := Lib.hid (by have h := HQ.out.2.2; rwa [if_neg (fun h => by rw [hd] at h; simp at h)] at h)
      go_wp2_with fail
      go_ret
      exact ⟨rfl, Lib.hid ⟨_, _, _, _, _, _, HA.out.wl, HWI.out, HB.out, HAL.out⟩⟩
    | false =>
      by_cases he : en = 0
      · subst he
        obtain ⟨hp0, hp1⟩ := HQ.out.2.1 hd rfl
        have HWI : Hid (WI N (k + 1) s2 (now.del p.toNat) last wanted torn) := Lib.hid (by have h := HQ.out.2.2; rwa [if_pos ⟨hd, rfl⟩] at h)
        obtain ⟨pn, hpp⟩ : ∃ pn : Nat, p = pn := ⟨p.toNat, by omega⟩
        subst hpp
        have hpn : pn < 1024 := by omega
        rw [show ((pn : Nat) : Int).toNat = pn by omega] at HWI
        have i1 : ¬ (pn : Int) < 0 := by omega
        have i2 : ¬ (1024 : Int) ≤ (pn : Int) := by omega
        have i3 : (pn : Int) < 1024 := by omega
        have i4 : (0 : Int) ≤ (pn : Int) := by omega
        clear HQ hp0 hp1
        have HBF := Lib.hid (HB.out.1.del pn)
        go_upto_region 22 with fail
        obtain ⟨γ, g0, hs0, hw0⟩ := HA.out.wl.below (Below.drew (Below.refl _ _))
        have hOT := HA.out.op
        have o1' : X.drew.cell? ⟨W.heap.size, 1, none⟩ = some (.int .i64 (pn : Int)) := o1
        have hO2 : X.drew.heap[W.heap.size]? = _ := hOT
        have HA1 : Hid (X.drew.cell? ⟨W.heap.size, 1, none⟩ = some (.int .i64 (pn : Int))) := Lib.hid o1'
        have q1 := hw0.rn.on hpn
        have z1 := hw0.z (2 + pn)
        have lw := hw0.lt
        obtain ⟨hw1, st1⟩ := hw0.set (o := 2 + pn) (by omega) (v := .bool false) (fun c hc => hc.setOn hpn false)
        have hne : ∀ o o', (⟨wb, o, none⟩ : Addr) ≠ ⟨W.heap.size, o', none⟩ := fun o o' e => by injection e with e; have := HLT.out.2; omega
        have HA2 : Hid ((X.drew.setCell ⟨wb, 2 + pn, none⟩ (.bool false)).cell? ⟨W.heap.size, 1, none⟩ = some (.int .i64 (pn : Int))) := Lib.hid ((World.cell?_setCell_other _ _ _ _ (hne _ _)).trans o1')
        have H1 := Lib.hid (And.intro hw1 (And.intro st1 (And.intro hs0 (And.intro g0 hO2))))
        have HNE := Lib.hid hne
        clear hw1 st1 hs0 g0 hw0 hO2 hOT hne o1'
        refine wp_region_held_drew (S := (fun W' => W'.cell? ⟨W.heap.size, 1, none⟩ = some (.int .i64 (pn : Int)))) (by kernel_rfl) ?_ (fun hHeld => ?_)
        · exact HA1.out
        refine wpAnyH_take (i := 0) (oi := { dst := some 132, op := .move (.tmp 0), type := _, pos := _, after := _, guard := none }) (v := ?vsa1) rfl (by kernel_rfl) (by kernel_rfl) (by kernel_rfl) (fun _ _ _ h => h) (Or.inl ⟨by rfl, ?hysa1⟩) (by assumption) ?restsa1
        case hysa1 => (intro w hSw; (try dsimp only at hSw); go_simp; try with_reducible rfl)
        try simp only [Act.put, List.setIfInBounds_toArray, List.set_cons_zero, List.set_cons_succ]
        refine wpAnyH_take (i := 1) (oi := { dst := some 133, op := .fieldAddr 73 (.tmp 3) 1, type := _, pos := _, after := _, guard := none }) (v := ?vsa2) rfl (by kernel_rfl) (by kernel_rfl) (by kernel_rfl) (fun _ _ _ h => h) (Or.inl ⟨by rfl, ?hysa2⟩) (by assumption) ?restsa2
        case hysa2 => (intro w hSw; (try dsimp only at hSw); go_simp; try with_reducible rfl)
        try simp only [Act.put, List.setIfInBounds_toArray, List.set_cons_zero, List.set_cons_succ]
        refine wpAnyH_take (i := 2) (oi := { dst := some 134, op := .load 3 (.tmp 133), type := _, pos := _, after := _, guard := none }) (v := ?vsa3) rfl (by kernel_rfl) (by kernel_rfl) (by kernel_rfl) (fun _ _ _ h => h) (Or.inl ⟨by rfl, ?hysa3⟩) (by assumption) ?restsa3
        case hysa3 => (intro w hSw; (try dsimp only at hSw); go_simp; try with_reducible rfl)
        try simp only [Act.put, List.setIfInBounds_toArray, List.set_cons_zero, List.set_cons_succ]
        refine wpAnyH_take (i := 3) (oi := { dst := some 135, op := .nilCheck (.tmp 132), type := _, pos := _, after := _, guard := none }) (v := ?vsa4) rfl (by kernel_rfl) (by kernel_rfl) (by kernel_rfl) (fun _ _ _ h => h) (Or.inl ⟨by rfl, ?hysa4⟩) (by assumption) ?restsa4
        case hysa4 => (intro w hSw; (try dsimp only at hSw); go_simp; try with_reducible rfl)
        try simp only [Act.put, List.setIfInBounds_toArray, List.set_cons_zero, List.set_cons_succ]
        refine wpAnyH_take (i := 4) (oi := { dst := some 136, op := .fieldAddr 33 (.tmp 135) 2, type := _, pos := _, after := _, guard := none }) (v := ?vsa5) rfl (by kernel_rfl) (by kernel_rfl) (by kernel_rfl) (fun _ _ _ h => h) (Or.inl ⟨by rfl, ?hysa5⟩) (by assumption) ?restsa5
        case hysa5 => (intro w hSw; (try dsimp only at hSw); go_simp; try with_reducible rfl)
        try simp only [Act.put, List.setIfInBounds_toArray, List.set_cons_zero, List.set_cons_succ]
        refine wpAnyH_take (i := 5) (oi := { dst := some 137, op := .fieldAddr 31 (.tmp 136) 0, type := _, pos := _, after := _, guard := none }) (v := ?vsa6) rfl (by kernel_rfl) (by kernel_rfl) (by kernel_rfl) (fun _ _ _ h => h) (Or.inl ⟨by rfl, ?hysa6⟩) (by assumption) ?restsa6
        case hysa6 => (intro w hSw; (try dsimp only at hSw); go_simp; try with_reducible rfl)
        try simp only [Act.put, List.setIfInBounds_toArray, List.set_cons_zero, List.set_cons_succ]
        refine wpAnyH_take (i := 6) (oi := { dst := some 138, op := .indexAddr 28 (.tmp 137) (.tmp 134), type := _, pos := _, after := _, guard := none }) (v := ?vsa7) rfl (by kernel_rfl) (by kernel_rfl) (by kernel_rfl) (fun _ _ _ h => h) (Or.inl ⟨by rfl, ?hysa7⟩) (by assumption) ?restsa7
        case hysa7 => (intro w hSw; (try dsimp only at hSw); go_simp; try with_reducible rfl)
        try simp only [Act.put, List.setIfInBounds_toArray, List.set_cons_zero, List.set_cons_succ]
        refine wpAnyH_ready (rs := [7]) (by kernel_rfl) (by simp) ?_
        refine AllReadyH.cons (o := { dst := none, op := .store 4 (.tmp 138) (.const (.bool false)), type := _, pos := _, after := _, guard := none }) rfl (fun K hK => ?_) AllReadyH.nil
        go_simp
        refine hK.out _ _ ?_ (fun hHeld => ?_)
        · exact HA2.out
        clear hK K
        try simp only [Act.put, List.setIfInBounds_toArray, List.set_cons_zero, List.set_cons_succ]
        refine wpAnyH_done (by kernel_rfl) ?_ _
        refine take_last ?_
        intro Y hY
        have hY : X.drew.setCell ⟨wb, 2 + pn, none⟩ (.bool false) = Y := hY
        rw [hY] at H1 HA2
        obtain ⟨hw1, st1, hs0, g0, hO2⟩ := H1.out
        have hs1 := hs0.client (st1.mono clS33)
        have gY : γ.B = w.heap.size ∧ γ.lim ≤ Y.heap.size ∧ Below w.heap.size w Y := ⟨g0.1, Nat.le_trans g0.2.1 st1.size, g0.2.2.trans (g0.1 ▸ st1.be)⟩
        have hOY : Y.heap[W.heap.size]? = some (.cells #[.int .i64 2, .int .i64 (pn : Int), .slice ba bn bc, .slice ka kn kc, .int .i64 t] 73 (0, 0)) := by
          rw [← hY, heap_setCell_other _ _ _ _ (by have := HLT.out.2; show W.heap.size ≠ wb; omega)]; exact hO2
        have hbd : Below Y.heap.size Y Y.drew := Below.drew (Below.refl _ _)
        have stD : Step γ (fun _ => false) Y Y.drew := Step.below hbd gY.2.1
        have hw2 := hw1.keep stD rfl
        have hs2 := hs1.below hbd gY.2.1
        have gYd : γ.B = w.heap.size ∧ γ.lim ≤ Y.drew.heap.size ∧ Below w.heap.size w Y.drew := ⟨gY.1, Nat.le_trans gY.2.1 stD.size, gY.2.2.trans (gY.1 ▸ stD.be)⟩
        have hOY2 : Y.drew.heap[W.heap.size]? = _ := hOY
        obtain ⟨o0, o1, o2, o3, o4, lO⟩ := op5 hOY2
        have q2 := hw2.rn.b hpn
        have z2 := hw2.z (1026 + pn)
        have lw2 := hw2.lt
        obtain ⟨hw3, st3⟩ := hw2.set (o := 1026 + pn) (by omega) (v := .string (txt [])) (fun c hc => (by have h := hc.setB hpn []; rwa [show 2 + 1024 + pn = 1026 + pn by omega] at h))
        have hs3 := hs2.client (st3.mono clS33)
        have HTB : Hid (txt [] = ⟨#[]⟩) := Lib.hid rfl
        rw [HTB.out] at hw3 st3 hs3
        have gZ : γ.B = w.heap.size ∧ γ.lim ≤ (Y.drew.setCell ⟨wb, 1026 + pn, none⟩ (.string ⟨#[]⟩)).heap.size ∧ Below w.heap.size w (Y.drew.setCell ⟨wb, 1026 + pn, none⟩ (.string ⟨#[]⟩)) := ⟨gYd.1, Nat.le_trans gYd.2.1 st3.size, gYd.2.2.trans (gYd.1 ▸ st3.be)⟩
        have hne2 := HNE.out (1026 + pn) 1
        have hne2 : (⟨wb, 1026 + pn, none⟩ : Addr) ≠ ⟨W.heap.size, 2, none⟩ := HNE.out _ _
        have HB1 : Hid (Y.drew.cell? ⟨W.heap.size, 1, none⟩ = some (.int .i64 (pn : Int))) := Lib.hid o1
        have HB2 : Hid ((Y.drew.setCell ⟨wb, 1026 + pn, none⟩ (.string ⟨#[]⟩)).cell? ⟨W.heap.size, 1, none⟩ = some (.int .i64 (pn : Int))) := Lib.hid (World.cell?_setCell_other _ _ _ _ (HNE.out _ _)).trans o1
        have HFN : Hid (WL w (Y.drew.setCell ⟨wb, 1026 + pn, none⟩ (.string ⟨#[]⟩)) db sb wb s2 (now.del pn) last wanted torn) := Lib.hid ⟨γ, gZ, hs3, hw3⟩
        clear hw1 st1 hs0 g0 hO2 hs1 gY hbd stD hw2 hs2 gYd hOY hOY2 hw3 st3 hs3 gZ hne2 hY
        go_upto_region 23 with fail
        refine wp_region_held_drew (S := (fun W' => W'.cell? ⟨W.heap.size, 1, none⟩ = some (.int .i64 (pn : Int)))) (by kernel_rfl) ?_ (fun hHeld => ?_)
        · exact HB1.out
        refine wpAnyH_take (i := 0) (oi := { dst := some 139, op := .move (.tmp 0), type := _, pos := _, after := _, guard := none }) (v := ?vsb1) rfl (by kernel_rfl) (by kernel_rfl) (by kernel_rfl) (fun _ _ _ h => h) (Or.inl ⟨by rfl, ?hysb1⟩) (by assumption) ?restsb1
        case hysb1 => (intro w hSw; (try dsimp only at hSw); go_simp; try with_reducible rfl)
        try simp only [Act.put, List.setIfInBounds_toArray, List.set_cons_zero, List.set_cons_succ]
        refine wpAnyH_take (i := 1) (oi := { dst := some 140, op := .fieldAddr 73 (.tmp 3) 1, type := _, pos := _, after := _, guard := none }) (v := ?vsb2) rfl (by kernel_rfl) (by kernel_rfl) (by kernel_rfl) (fun _ _ _ h => h) (Or.inl ⟨by rfl, ?hysb2⟩) (by assumption) ?restsb2
        case hysb2 => (intro w hSw; (try dsimp only at hSw); go_simp; try with_reducible rfl)
        try simp only [Act.put, List.setIfInBounds_toArray, List.set_cons_zero, List.set_cons_succ]
        refine wpAnyH_take (i := 2) (oi := { dst := some 141, op := .load 3 (.tmp 140), type := _, pos := _, after := _, guard := none }) (v := ?vsb3) rfl (by kernel_rfl) (by kernel_rfl) (by kernel_rfl) (fun _ _ _ h => h) (Or.inl ⟨by rfl, ?hysb3⟩) (by assumption) ?restsb3
        case hysb3 => (intro w hSw; (try dsimp only at hSw); go_simp; try with_reducible rfl)
        try simp only [Act.put, List.setIfInBounds_toArray, List.set_cons_zero, List.set_cons_succ]
        refine wpAnyH_take (i := 3) (oi := { dst := some 142, op := .nilCheck (.tmp 139), type := _, pos := _, after := _, guard := none }) (v := ?vsb4) rfl (by kernel_rfl) (by kernel_rfl) (by kernel_rfl) (fun _ _ _ h => h) (Or.inl ⟨by rfl, ?hysb4⟩) (by assumption) ?restsb4
        case hysb4 => (intro w hSw; (try dsimp only at hSw); go_simp; try with_reducible rfl)
        try simp only [Act.put, List.setIfInBounds_toArray, List.set_cons_zero, List.set_cons_succ]
        refine wpAnyH_take (i := 4) (oi := { dst := some 143, op := .fieldAddr 33 (.tmp 142) 2, type := _, pos := _, after := _, guard := none }) (v := ?vsb5) rfl (by kernel_rfl) (by kernel_rfl) (by kernel_rfl) (fun _ _ _ h => h) (Or.inl ⟨by rfl, ?hysb5⟩) (by assumption) ?restsb5
        case hysb5 => (intro w hSw; (try dsimp only at hSw); go_simp; try with_reducible rfl)
        try simp only [Act.put, List.setIfInBounds_toArray, List.set_cons_zero, List.set_cons_succ]
        refine wpAnyH_take (i := 5) (oi := { dst := some 144, op := .fieldAddr 31 (.tmp 143) 1, type := _, pos := _, after := _, guard := none }) (v := ?vsb6) rfl (by kernel_rfl) (by kernel_rfl) (by kernel_rfl) (fun _ _ _ h => h) (Or.inl ⟨by rfl, ?hysb6⟩) (by assumption) ?restsb6
        case hysb6 => (intro w hSw; (try dsimp only at hSw); go_simp; try with_reducible rfl)
        try simp only [Act.put, List.setIfInBounds_toArray, List.set_cons_zero, List.set_cons_succ]
        refine wpAnyH_take (i := 6) (oi := { dst := some 145, op := .indexAddr 29 (.tmp 144) (.tmp 141), type := _, pos := _, after := _, guard := none }) (v := ?vsb7) rfl (by kernel_rfl) (by kernel_rfl) (by kernel_rfl) (fun _ _ _ h => h) (Or.inl ⟨by rfl, ?hysb7⟩) (by assumption) ?restsb7
        case hysb7 => (intro w hSw; (try dsimp only at hSw); go_simp; try with_reducible rfl)
        try simp only [Act.put, List.setIfInBounds_toArray, List.set_cons_zero, List.set_cons_succ]
        refine wpAnyH_ready (rs := [7]) (by kernel_rfl) (by simp) ?_
        refine AllReadyH.cons (o := { dst := none, op := .store 9 (.tmp 145) (.const (.string ⟨#[]⟩)), type := _, pos := _, after := _, guard := none }) rfl (fun K hK => ?_) AllReadyH.nil
        go_simp
        refine hK.out _ _ ?_ (fun hHeld => ?_)
        · exact HB2.out
        clear hK K
        try simp only [Act.put, List.setIfInBounds_toArray, List.set_cons_zero, List.set_cons_succ]
        refine wpAnyH_done (by kernel_rfl) ?_ _
        go_wp2_with fail
        go_ret
        exact ⟨rfl, Lib.hid ⟨_, _, _, _, _, _, HFN.out, HWI.out, ⟨HBF.out, HB.out.2⟩, HAL.out⟩⟩
      · have HWI : Hid (WI N (k + 1) s2 now last wanted torn) := Lib.hid (by have h := HQ.out.2.2; rwa [if_neg (fun h => he h.2)] at h)
        have i5 : ¬ (en : Int) = 0 := by omega
        have i6 : ((en : Int) == 0) = false := by rw [beq_eq_false_iff_ne]; exact i5
        go_wp2_with fail
        go_ret
        exact ⟨rfl, Lib.hid ⟨_, _, _, _, _, _, HA.out.wl, HWI.out, HB.out, HAL.out⟩⟩
theorem world_write (h : WL w W db sb wb s now last wanted torn) (hI : WI N k s now last wanted torn) (hk : k ≤ 100) (hB : By now ∧ By last ∧ By wanted) {b0 : Bs} (hbr : ∀ W', Below w.heap.size w W' → RV W' (.slice ba bn bc) b0) (hbl : b0.length ≤ 1000000) :
    Calls Tryz.prog 36 #[.pointer (some ⟨wb, 0, none⟩), opV 1 p (.slice ba bn bc) (.slice ka kn kc) t] W (DoesW w db wb N k s.c.d.Al) := by
  have hbd : s.Bd 5000 := ⟨by have := hI.clk; omega, by have := hI.P; omega⟩
  have hN : 2 ≤ s.c.d.N ∧ s.c.d.N ≤ 4096 := by have := hI.hN; have := hI.hN2; omega
  obtain ⟨W1, hW1⟩ : ∃ W1, W.alloc (.cells #[.int .i64 1, .int .i64 p, .slice ba bn bc, .slice ka kn kc, .int .i64 t] 73) = W1 := ⟨_, rfl⟩
  have hb1 : Below W.heap.size W W1 := hW1 ▸ Below.alloc (Below.refl _ _) (Nat.le_refl _) _
  have hO1 : W1.heap[W.heap.size]? = some (.cells #[.int .i64 1, .int .i64 p, .slice ba bn bc, .slice ka kn kc, .int .i64 t] 73 (0, 0)) := hW1 ▸ (Go.MapKept.heap_alloc W _).1
  have P1 : PrP w W1 db sb wb W.heap.size s now last wanted torn 1 p t (.slice ba bn bc) (.slice ka kn kc) := by
    obtain ⟨γ, g, hs, hw⟩ := h
    have st : Step γ (fun _ => false) W W1 := Step.below hb1 g.2.1
    exact ⟨⟨γ, ⟨g.1, Nat.le_trans g.2.1 st.size, g.2.2.trans (g.1 ▸ st.be)⟩, hs.below hb1 g.2.1, hw.keep st rfl, Tag.new g.2.1 hO1⟩, hO1⟩
  have DO := Lib.hid (fun (γ : Gh) (W' : World) (hs : SpV γ W' sb db s) (h0 : γ.lim ≤ W'.heap.size) (hbe : Below w.heap.size w W') => show Calls Tryz.prog 46 #[.pointer (some ⟨sb, 0, none⟩), opV 1 p (.slice ba bn bc) (.slice ka kn kc) t] W' (DoesP γ W' sb db (([], false, (s.write p b0).1), (s.write p b0).2)) from does_write hs hI.ok hbd h0 (hbr _ hbe) hbl)
  unfold opV at *
  obtain ⟨c0, c1, ⟨o0, o1, o2, o3, o4⟩, cd⟩ := P1.cells
  have DD := dead_ok cd
  have HP := Lib.hid P1
  have HW := Lib.hid hW1
  have HI := Lib.hid hI
  have HB := Lib.hid hB
  have hbb : Go.Sp.bytes b0 := (hbr w (Below.refl _ _)).byte
  have HBS := Lib.hid hbb
  have HBR := Lib.hid hbr
  obtain ⟨bs, hbs⟩ : ∃ bs : Bs, [] = bs := ⟨_, rfl⟩
  obtain ⟨m, hm⟩ : ∃ m, bs.length = m := ⟨_, rfl⟩
  have HLN : Hid (bs.length = m) := Lib.hid hm
  rw [hbs] at DO
  have HQ := Lib.hid (hI.write p hbb)
  have HAL : Hid (s.c.d.Al → (s.write p b0).2.c.d.Al) := Lib.hid (fun h => Sp.write_k h p b0)
  generalize (s.write p b0).2 = s2 at *
  generalize (s.write p b0).1 = en at *
  clear hm
  obtain ⟨TB, hTB'⟩ : ∃ TB, txt b0 = TB := ⟨_, rfl⟩
  have HTB0 := Lib.hid hTB'
  clear hbb hbr hTB'
  have DOA : Hid (Calls Tryz.prog 46 #[.pointer (some ⟨sb, 0, none⟩), .agg #[.int .i64 1, .int .i64 p, .slice ba bn bc, .slice ka kn kc, .int .i64 t]] W1.drew (fun e w' => ∃ a c, e = .returned (.agg #[.slice a m c, .bool false, .int .i64 (en : Int)]) ∧ Hid ((∃ γ' : Gh, (γ'.B = w.heap.size ∧ γ'.lim ≤ w'.heap.size ∧ Below w.heap.size w w') ∧ SpV γ' w' sb db s2 ∧ WB γ' w' wb db sb now last wanted torn ∧ w'.heap[W.heap.size]? = some (.cells #[.int .i64 1, .int .i64 p, .slice ba bn bc, .slice ka kn kc, .int .i64 t] 73 (0, 0)) ∧ RV w' (.slice a m c) bs) ∧ True))) := Lib.hid (by
    obtain ⟨⟨γ, g, hs, hw, ht⟩, ho⟩ := HP.out.below (Below.drew (Below.refl _ _))
    refine (DO.out γ _ hs g.2.1 g.2.2).mono ?_
    rintro e w' ⟨a, c, h1, h2⟩
    obtain ⟨γ', f1, f2, f3, f4, f5, f6⟩ := PrP.after g hw ht ho h2.out
    exact ⟨a, c, HLN.out ▸ h1, Lib.hid ⟨⟨γ', f1, f2, f3, f4, HLN.out ▸ f5⟩, trivial⟩⟩)
  have DOB : Hid (Calls Tryz.prog 46 #[.pointer (some ⟨sb, 0, none⟩), .agg #[.int .i64 1, .int .i64 p, .slice ba bn bc, .slice ka kn kc, .int .i64 t]] (W1.drew.alloc (.cells #[.slice none 0 0, .bool false, .int .i64 0] 79)) (fun e w' => ∃ a c, e = .returned (.agg #[.slice a m c, .bool false, .int .i64 (en : Int)]) ∧ Hid ((∃ γ' : Gh, (γ'.B = w.heap.size ∧ γ'.lim ≤ w'.heap.size ∧ Below w.heap.size w w') ∧ SpV γ' w' sb db s2 ∧ WB γ' w' wb db sb now last wanted torn ∧ w'.heap[W.heap.size]? = some (.cells #[.int .i64 1, .int .i64 p, .slice ba bn bc, .slice ka kn kc, .int .i64 t] 73 (0, 0)) ∧ RV w' (.slice a m c) bs ∧ Tag γ' w' W1.heap.size 33) ∧ w'.heap[W1.heap.size]? = some (.cells z79 79 (0, 0))))) := Lib.hid (by
    obtain ⟨γ, g, hs, hw, ht, hT⟩ := (HP.out.below (Below.drew (Below.refl _ _))).told (C := z79)
    have hO2 := (Below.heap_alloc W1.drew (.cells z79 79) _ (Array.getElem?_eq_some_iff.1 HP.out.op).1).trans HP.out.op
    have hz := (Go.MapKept.heap_alloc W1.drew (.cells z79 79)).1
    have lz := (Array.getElem?_eq_some_iff.1 hz).1
    refine (DO.out γ _ hs g.2.1 g.2.2).mono ?_
    rintro e w' ⟨a, c, h1, h2⟩
    obtain ⟨γ', f1, f2, f3, f4, f5, f6⟩ := PrP.after g hw ht hO2 h2.out
    exact ⟨a, c, HLN.out ▸ h1, Lib.hid ⟨⟨γ', f1, f2, f3, f4, HLN.out ▸ f5, (f6 _ lz hT).2⟩, (f6 _ lz hT).1.trans hz⟩⟩)
  have HSP : Hid (∀ W', Below W1.heap.size W1 W' → W'.cell? ⟨wb, 1, none⟩ = some (.pointer (some ⟨sb, 0, none⟩)) ∧ W'.cell? ⟨W.heap.size, 0, none⟩ = some (.int .i64 1) ∧ W'.cell? ⟨W.heap.size, 1, none⟩ = some (.int .i64 p) ∧ W'.cell? ⟨W.heap.size, 2, none⟩ = some (.slice ba bn bc) ∧ W'.cell? ⟨W.heap.size, 3, none⟩ = some (.slice ka kn kc) ∧ W'.cell? ⟨W.heap.size, 4, none⟩ = some (.int .i64 t)) := Lib.hid fun W' hb => ⟨cells_below hb _ _ c1, cells_below hb _ _ o0, cells_below hb _ _ o1, cells_below hb _ _ o2, cells_below hb _ _ o3, cells_below hb _ _ o4⟩
  have l1 := cell_lt' c0
  have HLT : Hid (W.heap.size < W1.heap.size ∧ wb < W.heap.size) := Lib.hid ⟨cell_lt' o0, by obtain ⟨γ, g, hs, hw⟩ := h; exact hw.lt⟩
  clear hW1 hb1 hO1 P1 hI hB h DO
  go_enter Tryz.func36, Tryz.ntmps36
  go_upto_region 1 with fail
  rw [HW.out]
  go_upto_region 7 with (go_at_call 75; refine DD.mono ?_; rintro e w4 ⟨rfl, hw4⟩; subst w4)
  clear DD
  apply cut_tail (fun T a c X => Hid (AnP w X db sb wb W.heap.size T s2 now last wanted torn 1 p t (.slice ba bn bc) (.slice ka kn kc) (.slice a m c) false en bs))
  · intro TAIL
    refine wp_region_held_drew (S := (fun W' => W'.cell? ⟨wb, 1, none⟩ = some (.pointer (some ⟨sb, 0, none⟩)) ∧ W'.cell? ⟨W.heap.size, 0, none⟩ = some (.int .i64 1) ∧ W'.cell? ⟨W.heap.size, 1, none⟩ = some (.int .i64 p) ∧ W'.cell? ⟨W.heap.size, 2, none⟩ = some (.slice ba bn bc) ∧ W'.cell? ⟨W.heap.size, 3, none⟩ = some (.slice ka kn kc) ∧ W'.cell? ⟨W.heap.size, 4, none⟩ = some (.int .i64 t))) (by kernel_rfl) ?_ (fun hHeld => ?_)
    · (with_reducible refine HSP.out _ ?_; (repeat (first | with_reducible exact Below.refl _ _ | with_reducible assumption | with_reducible refine Below.drew ?_ | with_reducible refine Below.allocs ?_ _)); done)
    refine wpAnyH_take (i := 0) (oi := { dst := some 30, op := .move (.tmp 0), type := _, pos := _, after := _, guard := none }) (v := ?va1) rfl (by kernel_rfl) (by kernel_rfl) (by kernel_rfl) (fun _ _ _ h => h) (Or.inl ⟨by rfl, ?hya1⟩) (by assumption) ?resta1
    case hya1 => (intro w hSw; (try dsimp only at hSw); go_simp; try with_reducible rfl)
    try simp only [Act.put, List.setIfInBounds_toArray, List.set_cons_zero, List.set_cons_succ]
    refine wpAnyH_take (i := 1) (oi := { dst := some 31, op := .nilCheck (.tmp 30), type := _, pos := _, after := _, guard := none }) (v := ?va2) rfl (by kernel_rfl) (by kernel_rfl) (by kernel_rfl) (fun _ _ _ h => h) (Or.inl ⟨by rfl, ?hya2⟩) (by assumption) ?resta2
    case hya2 => (intro w hSw; (try dsimp only at hSw); go_simp; try with_reducible rfl)
    try simp only [Act.put, List.setIfInBounds_toArray, List.set_cons_zero, List.set_cons_succ]
    refine wpAnyH_take (i := 2) (oi := { dst := some 32, op := .fieldAddr 33 (.tmp 31) 1, type := _, pos := _, after := _, guard := none }) (v := ?va3) rfl (by kernel_rfl) (by kernel_rfl) (by kernel_rfl) (fun _ _ _ h => h) (Or.inl ⟨by rfl, ?hya3⟩) (by assumption) ?resta3
    case hya3 => (intro w hSw; (try dsimp only at hSw); go_simp; try with_reducible rfl)
    try simp only [Act.put, List.setIfInBounds_toArray, List.set_cons_zero, List.set_cons_succ]
    refine wpAnyH_take (i := 3) (oi := { dst := some 33, op := .load 27 (.tmp 32), type := _, pos := _, after := _, guard := none }) (v := ?va4) rfl (by kernel_rfl) (by kernel_rfl) (by kernel_rfl) (fun _ _ _ h => h) (Or.inl ⟨by rfl, ?hya4⟩) (by assumption) ?resta4
    case hya4 => (intro w hSw; (try dsimp only at hSw); go_simp; try with_reducible rfl)
    try simp only [Act.put, List.setIfInBounds_toArray, List.set_cons_zero, List.set_cons_succ]
    refine wpAnyH_take (i := 4) (oi := { dst := some 34, op := .load 73 (.tmp 3), type := _, pos := _, after := _, guard := none }) (v := ?va5) rfl (by kernel_rfl) (by kernel_rfl) (by kernel_rfl) (fun _ _ _ h => h) (Or.inl ⟨by rfl, ?hya5⟩) (by assumption) ?resta5
    case hya5 => (intro w hSw; (try dsimp only at hSw); go_simp; try with_reducible rfl)
    try simp only [Act.put, List.setIfInBounds_toArray, List.set_cons_zero, List.set_cons_succ]
    refine wpAnyH_ready (rs := [5, 6]) (by kernel_rfl) (by simp) ?_
    refine AllReadyH.cons (o := { dst := some 35, op := .call { callee := .value (.func 46), args := #[(.tmp 33), (.tmp 34)], argTypes := #[27, 73] }, type := _, pos := _, after := _, guard := none }) rfl (fun K hK => ?_) (AllReadyH.cons (o := { dst := some 6, op := .alloc 79, type := _, pos := _, after := _, guard := none }) rfl (fun K hK => ?_) AllReadyH.nil)
    · go_simp
      go_at_call 46
      refine (DOA.out).mono ?_
      rintro e w5 ⟨a5, c5, rfl, hq5⟩
      have HSA : Hid (∀ W', Below w5.heap.size w5 W' → W'.cell? ⟨wb, 1, none⟩ = some (.pointer (some ⟨sb, 0, none⟩)) ∧ W'.cell? ⟨W.heap.size, 0, none⟩ = some (.int .i64 1) ∧ W'.cell? ⟨W.heap.size, 1, none⟩ = some (.int .i64 p) ∧ W'.cell? ⟨W.heap.size, 2, none⟩ = some (.slice ba bn bc) ∧ W'.cell? ⟨W.heap.size, 3, none⟩ = some (.slice ka kn kc) ∧ W'.cell? ⟨W.heap.size, 4, none⟩ = some (.int .i64 t)) := Lib.hid fun W' hb => (by
        obtain ⟨⟨γ', g1, g2, g3, g4, g5⟩, g6⟩ := hq5.out
        obtain ⟨o0, o1, o2, o3, o4, lO⟩ := op5 g4
        exact ⟨cells_below hb _ _ g3.c1, cells_below hb _ _ o0, cells_below hb _ _ o1, cells_below hb _ _ o2, cells_below hb _ _ o3, cells_below hb _ _ o4⟩)
      refine hK.out _ _ ?_ (fun hHeld => ?_)
      · exact HSA.out _ (Below.refl _ _)
      clear hK K
      try simp only [Act.put, List.setIfInBounds_toArray, List.set_cons_zero, List.set_cons_succ]
      refine wpAnyH_ready (rs := [6]) (by kernel_rfl) (by simp) ?_
      refine AllReadyH.cons (o := { dst := some 6, op := .alloc 79, type := _, pos := _, after := _, guard := none }) rfl (fun K hK => ?_) AllReadyH.nil
      go_simp
      refine hK.out _ _ ?_ (fun hHeld => ?_)
      · (with_reducible refine HSA.out _ ?_; (repeat (first | with_reducible exact Below.refl _ _ | with_reducible assumption | with_reducible refine Below.drew ?_ | with_reducible refine Below.allocs ?_ _)); done)
      clear hK K
      try simp only [Act.put, List.setIfInBounds_toArray, List.set_cons_zero, List.set_cons_succ]
      refine wpAnyH_ready (rs := [7]) (by kernel_rfl) (by simp) ?_
      refine AllReadyH.cons (o := { dst := none, op := .store 79 (.tmp 6) (.tmp 35), type := _, pos := _, after := _, guard := none }) rfl (fun K hK => ?_) AllReadyH.nil
      go_simp
      refine hK.out _ _ ?_ (fun hHeld => ?_)
      · (with_reducible refine HSA.out _ ?_; (repeat (first | with_reducible exact Below.refl _ _ | with_reducible assumption | with_reducible refine Below.drew ?_ | with_reducible refine Below.allocs ?_ _)); done)
      clear hK K
      try simp only [Act.put, List.setIfInBounds_toArray, List.set_cons_zero, List.set_cons_succ]
      refine wpAnyH_done (by kernel_rfl) ?_ _
      refine take_last ?_
      intro X hX
      generalize hT : w5.heap.size = T
      refine TAIL T a5 c5 X (Lib.hid ?_)
      obtain ⟨⟨γ', g1, g2, g3, g4, g5⟩, g6⟩ := hq5.out
      have hb : Below w5.heap.size w5 X := hX ▸ Below.alloc (Below.refl _ _) (Nat.le_refl _) _
      have st : Step γ' (fun _ => false) w5 X := Step.below hb g1.2.1
      have lO := (Array.getElem?_eq_some_iff.1 g4).1
      exact ⟨⟨γ', ⟨g1.1, Nat.le_trans g1.2.1 st.size, g1.2.2.trans (g1.1 ▸ st.be)⟩, g2.below hb g1.2.1, g3.keep st rfl⟩, (hb.block _ lO).trans g4, by rw [← hX, ← hT]; exact (Go.MapKept.heap_alloc w5 _).1, g5.keep hb⟩
    · go_simp
      refine hK.out _ _ ?_ (fun hHeld => ?_)
      · (with_reducible refine HSP.out _ ?_; (repeat (first | with_reducible exact Below.refl _ _ | with_reducible assumption | with_reducible refine Below.drew ?_ | with_reducible refine Below.allocs ?_ _)); done)
      clear hK K
      try simp only [Act.put, List.setIfInBounds_toArray, List.set_cons_zero, List.set_cons_succ]
      refine wpAnyH_ready (rs := [5]) (by kernel_rfl) (by simp) ?_
      refine AllReadyH.cons (o := { dst := some 35, op := .call { callee := .value (.func 46), args := #[(.tmp 33), (.tmp 34)], argTypes := #[27, 73] }, type := _, pos := _, after := _, guard := none }) rfl (fun K hK => ?_) AllReadyH.nil
      go_simp
      go_at_call 46
      refine (DOB.out).mono ?_
      rintro e w5 ⟨a5, c5, rfl, hq5⟩
      have HSA : Hid (∀ W', Below w5.heap.size w5 W' → W'.cell? ⟨wb, 1, none⟩ = some (.pointer (some ⟨sb, 0, none⟩)) ∧ W'.cell? ⟨W.heap.size, 0, none⟩ = some (.int .i64 1) ∧ W'.cell? ⟨W.heap.size, 1, none⟩ = some (.int .i64 p) ∧ W'.cell? ⟨W.heap.size, 2, none⟩ = some (.slice ba bn bc) ∧ W'.cell? ⟨W.heap.size, 3, none⟩ = some (.slice ka kn kc) ∧ W'.cell? ⟨W.heap.size, 4, none⟩ = some (.int .i64 t)) := Lib.hid fun W' hb => (by
        obtain ⟨⟨γ', g1, g2, g3, g4, g5⟩, g6⟩ := hq5.out
        obtain ⟨o0, o1, o2, o3, o4, lO⟩ := op5 g4
        exact ⟨cells_below hb _ _ g3.c1, cells_below hb _ _ o0, cells_below hb _ _ o1, cells_below hb _ _ o2, cells_below hb _ _ o3, cells_below hb _ _ o4⟩)
      obtain ⟨y0, y1, y2, zy0, zy1, zy2, lB⟩ := z79_cells hq5.out.2
      refine hK.out _ _ ?_ (fun hHeld => ?_)
      · (obtain ⟨⟨γ', g1, g2, g3, g4, g5⟩, g6⟩ := hq5.out; obtain ⟨o0, o1, o2, o3, o4, lO⟩ := op5 g4; exact ⟨g3.c1, o0, o1, o2, o3, o4⟩)
      clear hK K
      try simp only [Act.put, List.setIfInBounds_toArray, List.set_cons_zero, List.set_cons_succ]
      refine wpAnyH_ready (rs := [7]) (by kernel_rfl) (by simp) ?_
      refine AllReadyH.cons (o := { dst := none, op := .store 79 (.tmp 6) (.tmp 35), type := _, pos := _, after := _, guard := none }) rfl (fun K hK => ?_) AllReadyH.nil
      go_simp
      refine hK.out _ _ ?_ (fun hHeld => ?_)
      · (obtain ⟨⟨γ', g1, g2, g3, g4, g5⟩, g6⟩ := hq5.out; have hO := (heap3 w5 W1.heap.size (.slice a5 m c5) (.bool false) (.int .i64 (en : Int)) (j := W.heap.size) (by have := HLT.out.1; omega)).trans g4; have hW := heap3 w5 W1.heap.size (.slice a5 m c5) (.bool false) (.int .i64 (en : Int)) (j := wb) (by have := HLT.out; omega); obtain ⟨o0, o1, o2, o3, o4, lO⟩ := op5 hO; exact ⟨(cell_of_heap (a := ⟨wb, 1, none⟩) hW).1.trans g3.c1, o0, o1, o2, o3, o4⟩)
      clear hK K
      try simp only [Act.put, List.setIfInBounds_toArray, List.set_cons_zero, List.set_cons_succ]
      refine wpAnyH_done (by kernel_rfl) ?_ _
      refine take_last ?_
      intro X hX
      have HLT2 : Hid (wb < W1.heap.size ∧ W.heap.size ≠ W1.heap.size) := Lib.hid (by have := HLT.out; omega)
      clear y0 y1 y2 zy0 zy1 zy2 lB
      generalize hT : W1.heap.size = T at hX hq5 HLT2 ⊢
      refine TAIL T a5 c5 X (Lib.hid ?_)
      obtain ⟨⟨γ', g1, g2, g3, g4, g5, g8⟩, g6⟩ := hq5.out
      exact AnP.laid g1 g2 g3 g4 g5 g6 g8 HLT2.out.1 HLT2.out.2 hX
  · intro T a c X HA
    obtain ⟨t0, t1, t2, lT⟩ := c79 HA.out.tl
    obtain ⟨o0, o1, o2, o3, o4, lO⟩ := op5 HA.out.op
    clear HP HSP DOA DOB HW c0 c1 cd l1 hN hbd
    cases hd : s.c.d.dead with
    | true =>
      obtain rfl := HQ.out.1 hd
      have HWI : Hid (WI N (k + 1) s2 now last wanted torn) := Lib.hid (by have h := HQ.out.2.2; rwa [if_neg (fun h => by rw [hd] at h; simp at h)] at h)
      go_wp2_with fail
      go_ret
      exact ⟨rfl, Lib.hid ⟨_, _, _, _, _, _, HA.out.wl, HWI.out, HB.out, HAL.out⟩⟩
    | false =>
      by_cases he : en = 0
      · subst he
        obtain ⟨hp0, hp1⟩ := HQ.out.2.1 hd rfl
        have HWI : Hid (WI N (k + 1) s2 (now.put p.toNat b0) last wanted torn) := Lib.hid (by have h := HQ.out.2.2; rwa [if_pos ⟨hd, rfl⟩] at h)
        obtain ⟨pn, hpp⟩ : ∃ pn : Nat, p = pn := ⟨p.toNat, by omega⟩
        subst hpp
        have hpn : pn < 1024 := by omega
        rw [show ((pn : Nat) : Int).toNat = pn by omega] at HWI
        have i1 : ¬ (pn : Int) < 0 := by omega
        have i2 : ¬ (1024 : Int) ≤ (pn : Int) := by omega
        have i3 : (pn : Int) < 1024 := by omega
        have i4 : (0 : Int) ≤ (pn : Int) := by omega
        clear HQ hp0 hp1
        have HBF := Lib.hid (HB.out.1.put pn HBS.out)
        go_upto_region 18 with fail
        obtain ⟨γ, g0, hs0, hw0⟩ := HA.out.wl.below (Below.drew (Below.refl _ _))
        have hOT := HA.out.op
        have o1' : X.drew.cell? ⟨W.heap.size, 1, none⟩ = some (.int .i64 (pn : Int)) := o1
        have hO2 : X.drew.heap[W.heap.size]? = _ := hOT
        have HA1 : Hid (X.drew.cell? ⟨W.heap.size, 1, none⟩ = some (.int .i64 (pn : Int))) := Lib.hid o1'
        have q1 := hw0.rn.on hpn
        have z1 := hw0.z (2 + pn)
        have lw := hw0.lt
        obtain ⟨hw1, st1⟩ := hw0.set (o := 2 + pn) (by omega) (v := .bool true) (fun c hc => hc.setOn hpn true)
        have hne : ∀ o o', (⟨wb, o, none⟩ : Addr) ≠ ⟨W.heap.size, o', none⟩ := fun o o' e => by injection e with e; have := HLT.out.2; omega
        have HA2 : Hid ((X.drew.setCell ⟨wb, 2 + pn, none⟩ (.bool true)).cell? ⟨W.heap.size, 1, none⟩ = some (.int .i64 (pn : Int))) := Lib.hid ((World.cell?_setCell_other _ _ _ _ (hne _ _)).trans o1')
        have H1 := Lib.hid (And.intro hw1 (And.intro st1 (And.intro hs0 (And.intro g0 hO2))))
        have HNE := Lib.hid hne
        clear hw1 st1 hs0 g0 hw0 hO2 hOT hne o1'
        refine wp_region_held_drew (S := (fun W' => W'.cell? ⟨W.heap.size, 1, none⟩ = some (.int .i64 (pn : Int)))) (by kernel_rfl) ?_ (fun hHeld => ?_)
        · exact HA1.out
        refine wpAnyH_take (i := 0) (oi := { dst := some 112, op := .move (.tmp 0), type := _, pos := _, after := _, guard := none }) (v := ?vsa1) rfl (by kernel_rfl) (by kernel_rfl) (by kernel_rfl) (fun _ _ _ h => h) (Or.inl ⟨by rfl, ?hysa1⟩) (by assumption) ?restsa1
        case hysa1 => (intro w hSw; (try dsimp only at hSw); go_simp; try with_reducible rfl)
        try simp only [Act.put, List.setIfInBounds_toArray, List.set_cons_zero, List.set_cons_succ]
        refine wpAnyH_take (i := 1) (oi := { dst := some 113, op := .fieldAddr 73 (.tmp 3) 1, type := _, pos := _, after := _, guard := none }) (v := ?vsa2) rfl (by kernel_rfl) (by kernel_rfl) (by kernel_rfl) (fun _ _ _ h => h) (Or.inl ⟨by rfl, ?hysa2⟩) (by assumption) ?restsa2
        case hysa2 => (intro w hSw; (try dsimp only at hSw); go_simp; try with_reducible rfl)
        try simp only [Act.put, List.setIfInBounds_toArray, List.set_cons_zero, List.set_cons_succ]
        refine wpAnyH_take (i := 2) (oi := { dst := some 114, op := .load 3 (.tmp 113), type := _, pos := _, after := _, guard := none }) (v := ?vsa3) rfl (by kernel_rfl) (by kernel_rfl) (by kernel_rfl) (fun _ _ _ h => h) (Or.inl ⟨by rfl, ?hysa3⟩) (by assumption) ?restsa3
        case hysa3 => (intro w hSw; (try dsimp only at hSw); go_simp; try with_reducible rfl)
        try simp only [Act.put, List.setIfInBounds_toArray, List.set_cons_zero, List.set_cons_succ]
        refine wpAnyH_take (i := 3) (oi := { dst := some 115, op := .nilCheck (.tmp 112), type := _, pos := _, after := _, guard := none }) (v := ?vsa4) rfl (by kernel_rfl) (by kernel_rfl) (by kernel_rfl) (fun _ _ _ h => h) (Or.inl ⟨by rfl, ?hysa4⟩) (by assumption) ?restsa4
        case hysa4 => (intro w hSw; (try dsimp only at hSw); go_simp; try with_reducible rfl)
        try simp only [Act.put, List.setIfInBounds_toArray, List.set_cons_zero, List.set_cons_succ]
        refine wpAnyH_take (i := 4) (oi := { dst := some 116, op := .fieldAddr 33 (.tmp 115) 2, type := _, pos := _, after := _, guard := none }) (v := ?vsa5) rfl (by kernel_rfl) (by kernel_rfl) (by kernel_rfl) (fun _ _ _ h => h) (Or.inl ⟨by rfl, ?hysa5⟩) (by assumption) ?restsa5
        case hysa5 => (intro w hSw; (try dsimp only at hSw); go_simp; try with_reducible rfl)
        try simp only [Act.put, List.setIfInBounds_toArray, List.set_cons_zero, List.set_cons_succ]
        refine wpAnyH_take (i := 5) (oi := { dst := some 117, op := .fieldAddr 31 (.tmp 116) 0, type := _, pos := _, after := _, guard := none }) (v := ?vsa6) rfl (by kernel_rfl) (by kernel_rfl) (by kernel_rfl) (fun _ _ _ h => h) (Or.inl ⟨by rfl, ?hysa6⟩) (by assumption) ?restsa6
        case hysa6 => (intro w hSw; (try dsimp only at hSw); go_simp; try with_reducible rfl)
        try simp only [Act.put, List.setIfInBounds_toArray, List.set_cons_zero, List.set_cons_succ]
        refine wpAnyH_take (i := 6) (oi := { dst := some 118, op := .indexAddr 28 (.tmp 117) (.tmp 114), type := _, pos := _, after := _, guard := none }) (v := ?vsa7) rfl (by kernel_rfl) (by kernel_rfl) (by kernel_rfl) (fun _ _ _ h => h) (Or.inl ⟨by rfl, ?hysa7⟩) (by assumption) ?restsa7
        case hysa7 => (intro w hSw; (try dsimp only at hSw); go_simp; try with_reducible rfl)
        try simp only [Act.put, List.setIfInBounds_toArray, List.set_cons_zero, List.set_cons_succ]
        refine wpAnyH_ready (rs := [7]) (by kernel_rfl) (by simp) ?_
        refine AllReadyH.cons (o := { dst := none, op := .store 4 (.tmp 118) (.const (.bool true)), type := _, pos := _, after := _, guard := none }) rfl (fun K hK => ?_) AllReadyH.nil
        go_simp
        refine hK.out _ _ ?_ (fun hHeld => ?_)
        · exact HA2.out
        clear hK K
        try simp only [Act.put, List.setIfInBounds_toArray, List.set_cons_zero, List.set_cons_succ]
        refine wpAnyH_done (by kernel_rfl) ?_ _
        refine take_last ?_
        intro Y hY
        have hY : X.drew.setCell ⟨wb, 2 + pn, none⟩ (.bool true) = Y := hY
        rw [hY] at H1 HA2
        obtain ⟨hw1, st1, hs0, g0, hO2⟩ := H1.out
        have hs1 := hs0.client (st1.mono clS33)
        have gY : γ.B = w.heap.size ∧ γ.lim ≤ Y.heap.size ∧ Below w.heap.size w Y := ⟨g0.1, Nat.le_trans g0.2.1 st1.size, g0.2.2.trans (g0.1 ▸ st1.be)⟩
        have hOY : Y.heap[W.heap.size]? = some (.cells #[.int .i64 1, .int .i64 (pn : Int), .slice ba bn bc, .slice ka kn kc, .int .i64 t] 73 (0, 0)) := by
          rw [← hY, heap_setCell_other _ _ _ _ (by have := HLT.out.2; show W.heap.size ≠ wb; omega)]; exact hO2
        have hbd : Below Y.heap.size Y Y.drew := Below.drew (Below.refl _ _)
        have stD : Step γ (fun _ => false) Y Y.drew := Step.below hbd gY.2.1
        have hw2 := hw1.keep stD rfl
        have hs2 := hs1.below hbd gY.2.1
        have gYd : γ.B = w.heap.size ∧ γ.lim ≤ Y.drew.heap.size ∧ Below w.heap.size w Y.drew := ⟨gY.1, Nat.le_trans gY.2.1 stD.size, gY.2.2.trans (gY.1 ▸ stD.be)⟩
        have hOY2 : Y.drew.heap[W.heap.size]? = _ := hOY
        obtain ⟨o0, o1, o2, o3, o4, lO⟩ := op5 hOY2
        have q2 := hw2.rn.b hpn
        have z2 := hw2.z (1026 + pn)
        have lw2 := hw2.lt
        obtain ⟨hw3, st3⟩ := hw2.set (o := 1026 + pn) (by omega) (v := .string (txt b0)) (fun c hc => (by have h := hc.setB hpn b0; rwa [show 2 + 1024 + pn = 1026 + pn by omega] at h))
        have hs3 := hs2.client (st3.mono clS33)
        have HTB : Hid (txt b0 = TB) := Lib.hid HTB0.out
        rw [HTB.out] at hw3 st3 hs3
        have gZ : γ.B = w.heap.size ∧ γ.lim ≤ (Y.drew.setCell ⟨wb, 1026 + pn, none⟩ (.string TB)).heap.size ∧ Below w.heap.size w (Y.drew.setCell ⟨wb, 1026 + pn, none⟩ (.string TB)) := ⟨gYd.1, Nat.le_trans gYd.2.1 st3.size, gYd.2.2.trans (gYd.1 ▸ st3.be)⟩
        have hne2 := HNE.out (1026 + pn) 1
        have hne2 : (⟨wb, 1026 + pn, none⟩ : Addr) ≠ ⟨W.heap.size, 2, none⟩ := HNE.out _ _
        have HB1 : Hid (Y.drew.cell? ⟨W.heap.size, 1, none⟩ = some (.int .i64 (pn : Int)) ∧ Y.drew.cell? ⟨W.heap.size, 2, none⟩ = some (.slice ba bn bc) ∧ (convert 37 9 (.slice ba bn bc)).run Tryz.prog Y.drew = .ok (.string TB) Y.drew) := Lib.hid ⟨o1, o2, (by have h := conv_rv (HBR.out _ gYd.2.2); rwa [HTB.out] at h)⟩
        have HB2 : Hid ((Y.drew.setCell ⟨wb, 1026 + pn, none⟩ (.string TB)).cell? ⟨W.heap.size, 1, none⟩ = some (.int .i64 (pn : Int)) ∧ (Y.drew.setCell ⟨wb, 1026 + pn, none⟩ (.string TB)).cell? ⟨W.heap.size, 2, none⟩ = some (.slice ba bn bc) ∧ (convert 37 9 (.slice ba bn bc)).run Tryz.prog (Y.drew.setCell ⟨wb, 1026 + pn, none⟩ (.string TB)) = .ok (.string TB) (Y.drew.setCell ⟨wb, 1026 + pn, none⟩ (.string TB))) := Lib.hid ⟨(World.cell?_setCell_other _ _ _ _ (HNE.out _ _)).trans o1, (World.cell?_setCell_other _ _ _ _ hne2).trans o2, (by have h := conv_rv (HBR.out _ gZ.2.2); rwa [HTB.out] at h)⟩
        have HFN : Hid (WL w (Y.drew.setCell ⟨wb, 1026 + pn, none⟩ (.string TB)) db sb wb s2 (now.put pn b0) last wanted torn) := Lib.hid ⟨γ, gZ, hs3, hw3⟩
        clear hw1 st1 hs0 g0 hO2 hs1 gY hbd stD hw2 hs2 gYd hOY hOY2 hw3 st3 hs3 gZ hne2 hY
        go_upto_region 19 with fail
        refine wp_region_held_drew (S := (fun W' => W'.cell? ⟨W.heap.size, 1, none⟩ = some (.int .i64 (pn : Int)) ∧ W'.cell? ⟨W.heap.size, 2, none⟩ = some (.slice ba bn bc) ∧ (convert 37 9 (.slice ba bn bc)).run Tryz.prog W' = .ok (.string TB) W')) (by kernel_rfl) ?_ (fun hHeld => ?_)
        · exact HB1.out
        refine wpAnyH_take (i := 0) (oi := { dst := some 119, op := .move (.tmp 0), type := _, pos := _, after := _, guard := none }) (v := ?vsb1) rfl (by kernel_rfl) (by kernel_rfl) (by kernel_rfl) (fun _ _ _ h => h) (Or.inl ⟨by rfl, ?hysb1⟩) (by assumption) ?restsb1
        case hysb1 => (intro w hSw; (try dsimp only at hSw); go_simp; try with_reducible rfl)
        try simp only [Act.put, List.setIfInBounds_toArray, List.set_cons_zero, List.set_cons_succ]
        refine wpAnyH_take (i := 1) (oi := { dst := some 120, op := .fieldAddr 73 (.tmp 3) 1, type := _, pos := _, after := _, guard := none }) (v := ?vsb2) rfl (by kernel_rfl) (by kernel_rfl) (by kernel_rfl) (fun _ _ _ h => h) (Or.inl ⟨by rfl, ?hysb2⟩) (by assumption) ?restsb2
        case hysb2 => (intro w hSw; (try dsimp only at hSw); go_simp; try with_reducible rfl)
        try simp only [Act.put, List.setIfInBounds_toArray, List.set_cons_zero, List.set_cons_succ]
        refine wpAnyH_take (i := 2) (oi := { dst := some 121, op := .load 3 (.tmp 120), type := _, pos := _, after := _, guard := none }) (v := ?vsb3) rfl (by kernel_rfl) (by kernel_rfl) (by kernel_rfl) (fun _ _ _ h => h) (Or.inl ⟨by rfl, ?hysb3⟩) (by assumption) ?restsb3
        case hysb3 => (intro w hSw; (try dsimp only at hSw); go_simp; try with_reducible rfl)
        try simp only [Act.put, List.setIfInBounds_toArray, List.set_cons_zero, List.set_cons_succ]
        refine wpAnyH_take (i := 3) (oi := { dst := some 122, op := .fieldAddr 73 (.tmp 3) 2, type := _, pos := _, after := _, guard := none }) (v := ?vsb4) rfl (by kernel_rfl) (by kernel_rfl) (by kernel_rfl) (fun _ _ _ h => h) (Or.inl ⟨by rfl, ?hysb4⟩) (by assumption) ?restsb4
        case hysb4 => (intro w hSw; (try dsimp only at hSw); go_simp; try with_reducible rfl)
        try simp only [Act.put, List.setIfInBounds_toArray, List.set_cons_zero, List.set_cons_succ]
        refine wpAnyH_take (i := 4) (oi := { dst := some 123, op := .load 37 (.tmp 122), type := _, pos := _, after := _, guard := none }) (v := ?vsb5) rfl (by kernel_rfl) (by kernel_rfl) (by kernel_rfl) (fun _ _ _ h => h) (Or.inl ⟨by rfl, ?hysb5⟩) (by assumption) ?restsb5
        case hysb5 => (intro w hSw; (try dsimp only at hSw); go_simp; try with_reducible rfl)
        try simp only [Act.put, List.setIfInBounds_toArray, List.set_cons_zero, List.set_cons_succ]
        refine wpAnyH_take (i := 5) (oi := { dst := some 124, op := .convert 37 9 (.tmp 123), type := _, pos := _, after := _, guard := none }) (v := ?vsb6) rfl (by kernel_rfl) (by kernel_rfl) (by kernel_rfl) (fun _ _ _ h => h) (Or.inl ⟨by rfl, ?hysb6⟩) (by assumption) ?restsb6
        case hysb6 => (intro w hSw; (try dsimp only at hSw); go_simp; try with_reducible rfl)
        try simp only [Act.put, List.setIfInBounds_toArray, List.set_cons_zero, List.set_cons_succ]
        refine wpAnyH_take (i := 6) (oi := { dst := some 125, op := .nilCheck (.tmp 119), type := _, pos := _, after := _, guard := none }) (v := ?vsb7) rfl (by kernel_rfl) (by kernel_rfl) (by kernel_rfl) (fun _ _ _ h => h) (Or.inl ⟨by rfl, ?hysb7⟩) (by assumption) ?restsb7
        case hysb7 => (intro w hSw; (try dsimp only at hSw); go_simp; try with_reducible rfl)
        try simp only [Act.put, List.setIfInBounds_toArray, List.set_cons_zero, List.set_cons_succ]
        refine wpAnyH_take (i := 7) (oi := { dst := some 126, op := .fieldAddr 33 (.tmp 125) 2, type := _, pos := _, after := _, guard := none }) (v := ?vsb8) rfl (by kernel_rfl) (by kernel_rfl) (by kernel_rfl) (fun _ _ _ h => h) (Or.inl ⟨by rfl, ?hysb8⟩) (by assumption) ?restsb8
        case hysb8 => (intro w hSw; (try dsimp only at hSw); go_simp; try with_reducible rfl)
        try simp only [Act.put, List.setIfInBounds_toArray, List.set_cons_zero, List.set_cons_succ]
        refine wpAnyH_take (i := 8) (oi := { dst := some 127, op := .fieldAddr 31 (.tmp 126) 1, type := _, pos := _, after := _, guard := none }) (v := ?vsb9) rfl (by kernel_rfl) (by kernel_rfl) (by kernel_rfl) (fun _ _ _ h => h) (Or.inl ⟨by rfl, ?hysb9⟩) (by assumption) ?restsb9
        case hysb9 => (intro w hSw; (try dsimp only at hSw); go_simp; try with_reducible rfl)
        try simp only [Act.put, List.setIfInBounds_toArray, List.set_cons_zero, List.set_cons_succ]
        refine wpAnyH_take (i := 9) (oi := { dst := some 128, op := .indexAddr 29 (.tmp 127) (.tmp 121), type := _, pos := _, after := _, guard := none }) (v := ?vsb10) rfl (by kernel_rfl) (by kernel_rfl) (by kernel_rfl) (fun _ _ _ h => h) (Or.inl ⟨by rfl, ?hysb10⟩) (by assumption) ?restsb10
        case hysb10 => (intro w hSw; (try dsimp only at hSw); go_simp; try with_reducible rfl)
        try simp only [Act.put, List.setIfInBounds_toArray, List.set_cons_zero, List.set_cons_succ]
        refine wpAnyH_ready (rs := [10]) (by kernel_rfl) (by simp) ?_
        refine AllReadyH.cons (o := { dst := none, op := .store 9 (.tmp 128) (.tmp 124), type := _, pos := _, after := _, guard := none }) rfl (fun K hK => ?_) AllReadyH.nil
        go_simp
        refine hK.out _ _ ?_ (fun hHeld => ?_)
        · exact HB2.out
        clear hK K
        try simp only [Act.put, List.setIfInBounds_toArray, List.set_cons_zero, List.set_cons_succ]
        refine wpAnyH_done (by kernel_rfl) ?_ _
        go_wp2_with fail
        go_ret
        exact ⟨rfl, Lib.hid ⟨_, _, _, _, _, _, HFN.out, HWI.out, ⟨HBF.out, HB.out.2⟩, HAL.out⟩⟩
      · have HWI : Hid (WI N (k + 1) s2 now last wanted torn) := Lib.hid (by have h := HQ.out.2.2; rwa [if_neg (fun h => he h.2)] at h)
        have i5 : ¬ (en : Int) = 0 := by omega
        have i6 : ((en : Int) == 0) = false := by rw [beq_eq_false_iff_ne]; exact i5
        go_wp2_with fail
        go_ret
        exact ⟨rfl, Lib.hid ⟨_, _, _, _, _, _, HA.out.wl, HWI.out, HB.out, HAL.out⟩⟩
end
end Go.Tb
namespace Go.Tb
open Go Go.RowKit Go.Proofs Go.Maps Go.Sp
theorem read_len (s : Sp) (p : Int) : (s.read p).2.1.length ≤ 1000000 := by
  unfold Sp.read
  split
  · simp
  · split
    · simp
    · split
      · simp
      · exact Nat.le_trans (openB_len _) (by decide)
section
variable {w W : World} {db sb wb : Nat} {s : Sp} {now last wanted : St} {torn : Bool} {N k : Nat} {p t : Int} {ba ka : Option Addr} {bn bc kn kc : Nat}
theorem world_read (h : WL w W db sb wb s now last wanted torn) (hI : WI N k s now last wanted torn) (hk : k ≤ 100) (hB : By now ∧ By last ∧ By wanted) :
    Calls Tryz.prog 36 #[.pointer (some ⟨wb, 0, none⟩), opV 0 p (.slice ba bn bc) (.slice ka kn kc) t] W (DoesW w db wb N k s.c.d.Al) := by
  have hbd : s.Bd 5000 := ⟨by have := hI.clk; omega, by have := hI.P; omega⟩
  have hN : 2 ≤ s.c.d.N ∧ s.c.d.N ≤ 4096 := by have := hI.hN; have := hI.hN2; omega
  obtain ⟨W1, hW1⟩ : ∃ W1, W.alloc (.cells #[.int .i64 0, .int .i64 p, .slice ba bn bc, .slice ka kn kc, .int .i64 t] 73) = W1 := ⟨_, rfl⟩
  have hb1 : Below W.heap.size W W1 := hW1 ▸ Below.alloc (Below.refl _ _) (Nat.le_refl _) _
  have hO1 : W1.heap[W.heap.size]? = some (.cells #[.int .i64 0, .int .i64 p, .slice ba bn bc, .slice ka kn kc, .int .i64 t] 73 (0, 0)) := hW1 ▸ (Go.MapKept.heap_alloc W _).1
  have P1 : PrP w W1 db sb wb W.heap.size s now last wanted torn 0 p t (.slice ba bn bc) (.slice ka kn kc) := by
    obtain ⟨γ, g, hs, hw⟩ := h
    have st : Step γ (fun _ => false) W W1 := Step.below hb1 g.2.1
    exact ⟨⟨γ, ⟨g.1, Nat.le_trans g.2.1 st.size, g.2.2.trans (g.1 ▸ st.be)⟩, hs.below hb1 g.2.1, hw.keep st rfl, Tag.new g.2.1 hO1⟩, hO1⟩
  have DO := Lib.hid (fun (γ : Gh) (W' : World) (hs : SpV γ W' sb db s) (h0 : γ.lim ≤ W'.heap.size) (hbe : Below w.heap.size w W') => show Calls Tryz.prog 46 #[.pointer (some ⟨sb, 0, none⟩), opV 0 p (.slice ba bn bc) (.slice ka kn kc) t] W' (DoesP γ W' sb db (((s.read p).2.1, false, (s.read p).1), (s.read p).2.2)) from does_read hs hI.ok hbd h0 (read_len s p))
  unfold opV at *
  obtain ⟨c0, c1, ⟨o0, o1, o2, o3, o4⟩, cd⟩ := P1.cells
  have DD := dead_ok cd
  have HP := Lib.hid P1
  have HW := Lib.hid hW1
  have HI := Lib.hid hI
  have HB := Lib.hid hB
  have HQ := Lib.hid (hI.read p)
  have HAL : Hid (s.c.d.Al → (s.read p).2.2.c.d.Al) := Lib.hid (fun h => Sp.read_al HI.out.ok h p)
  generalize (s.read p).2.2 = s2 at *
  generalize (s.read p).1 = en at *
  generalize (s.read p).2.1 = bs at *
  obtain ⟨m, hm⟩ : ∃ m, bs.length = m := ⟨_, rfl⟩
  have HLN : Hid (bs.length = m) := Lib.hid hm
  clear hm
  have DOA : Hid (Calls Tryz.prog 46 #[.pointer (some ⟨sb, 0, none⟩), .agg #[.int .i64 0, .int .i64 p, .slice ba bn bc, .slice ka kn kc, .int .i64 t]] W1.drew (fun e w' => ∃ a c, e = .returned (.agg #[.slice a m c, .bool false, .int .i64 (en : Int)]) ∧ Hid ((∃ γ' : Gh, (γ'.B = w.heap.size ∧ γ'.lim ≤ w'.heap.size ∧ Below w.heap.size w w') ∧ SpV γ' w' sb db s2 ∧ WB γ' w' wb db sb now last wanted torn ∧ w'.heap[W.heap.size]? = some (.cells #[.int .i64 0, .int .i64 p, .slice ba bn bc, .slice ka kn kc, .int .i64 t] 73 (0, 0)) ∧ RV w' (.slice a m c) bs) ∧ True))) := Lib.hid (by
    obtain ⟨⟨γ, g, hs, hw, ht⟩, ho⟩ := HP.out.below (Below.drew (Below.refl _ _))
    refine (DO.out γ _ hs g.2.1 g.2.2).mono ?_
    rintro e w' ⟨a, c, h1, h2⟩
    obtain ⟨γ', f1, f2, f3, f4, f5, f6⟩ := PrP.after g hw ht ho h2.out
    exact ⟨a, c, HLN.out ▸ h1, Lib.hid ⟨⟨γ', f1, f2, f3, f4, HLN.out ▸ f5⟩, trivial⟩⟩)
  have DOB : Hid (Calls Tryz.prog 46 #[.pointer (some ⟨sb, 0, none⟩), .agg #[.int .i64 0, .int .i64 p, .slice ba bn bc, .slice ka kn kc, .int .i64 t]] (W1.drew.alloc (.cells #[.slice none 0 0, .bool false, .int .i64 0] 79)) (fun e w' => ∃ a c, e = .returned (.agg #[.slice a m c, .bool false, .int .i64 (en : Int)]) ∧ Hid ((∃ γ' : Gh, (γ'.B = w.heap.size ∧ γ'.lim ≤ w'.heap.size ∧ Below w.heap.size w w') ∧ SpV γ' w' sb db s2 ∧ WB γ' w' wb db sb now last wanted torn ∧ w'.heap[W.heap.size]? = some (.cells #[.int .i64 0, .int .i64 p, .slice ba bn bc, .slice ka kn kc, .int .i64 t] 73 (0, 0)) ∧ RV w' (.slice a m c) bs ∧ Tag γ' w' W1.heap.size 33) ∧ w'.heap[W1.heap.size]? = some (.cells z79 79 (0, 0))))) := Lib.hid (by
    obtain ⟨γ, g, hs, hw, ht, hT⟩ := (HP.out.below (Below.drew (Below.refl _ _))).told (C := z79)
    have hO2 := (Below.heap_alloc W1.drew (.cells z79 79) _ (Array.getElem?_eq_some_iff.1 HP.out.op).1).trans HP.out.op
    have hz := (Go.MapKept.heap_alloc W1.drew (.cells z79 79)).1
    have lz := (Array.getElem?_eq_some_iff.1 hz).1
    refine (DO.out γ _ hs g.2.1 g.2.2).mono ?_
    rintro e w' ⟨a, c, h1, h2⟩
    obtain ⟨γ', f1, f2, f3, f4, f5, f6⟩ := PrP.after g hw ht hO2 h2.out
    exact ⟨a, c, HLN.out ▸ h1, Lib.hid ⟨⟨γ', f1, f2, f3, f4, HLN.out ▸ f5, (f6 _ lz hT).2⟩, (f6 _ lz hT).1.trans hz⟩⟩)
  have HSP : Hid (∀ W', Below W1.heap.size W1 W' → W'.cell? ⟨wb, 1, none⟩ = some (.pointer (some ⟨sb, 0, none⟩)) ∧ W'.cell? ⟨W.heap.size, 0, none⟩ = some (.int .i64 0) ∧ W'.cell? ⟨W.heap.size, 1, none⟩ = some (.int .i64 p) ∧ W'.cell? ⟨W.heap.size, 2, none⟩ = some (.slice ba bn bc) ∧ W'.cell? ⟨W.heap.size, 3, none⟩ = some (.slice ka kn kc) ∧ W'.cell? ⟨W.heap.size, 4, none⟩ = some (.int .i64 t)) := Lib.hid fun W' hb => ⟨cells_below hb _ _ c1, cells_below hb _ _ o0, cells_below hb _ _ o1, cells_below hb _ _ o2, cells_below hb _ _ o3, cells_below hb _ _ o4⟩
  have l1 := cell_lt' c0
  have HLT : Hid (W.heap.size < W1.heap.size ∧ wb < W.heap.size) := Lib.hid ⟨cell_lt' o0, by obtain ⟨γ, g, hs, hw⟩ := h; exact hw.lt⟩
  clear hW1 hb1 hO1 P1 hI hB h DO
  go_enter Tryz.func36, Tryz.ntmps36
  go_upto_region 1 with fail
  rw [HW.out]
  go_upto_region 7 with (go_at_call 75; refine DD.mono ?_; rintro e w4 ⟨rfl, hw4⟩; subst w4)
  clear DD
  apply cut_tail (fun T a c X => Hid (AnP w X db sb wb W.heap.size T s2 now last wanted torn 0 p t (.slice ba bn bc) (.slice ka kn kc) (.slice a m c) false en bs))
  · intro TAIL
    refine wp_region_held_drew (S := (fun W' => W'.cell? ⟨wb, 1, none⟩ = some (.pointer (some ⟨sb, 0, none⟩)) ∧ W'.cell? ⟨W.heap.size, 0, none⟩ = some (.int .i64 0) ∧ W'.cell? ⟨W.heap.size, 1, none⟩ = some (.int .i64 p) ∧ W'.cell? ⟨W.heap.size, 2, none⟩ = some (.slice ba bn bc) ∧ W'.cell? ⟨W.heap.size, 3, none⟩ = some (.slice ka kn kc) ∧ W'.cell? ⟨W.heap.size, 4, none⟩ = some (.int .i64 t))) (by kernel_rfl) ?_ (fun hHeld => ?_)
    · (with_reducible refine HSP.out _ ?_; (repeat (first | with_reducible exact Below.refl _ _ | with_reducible assumption | with_reducible refine Below.drew ?_ | with_reducible refine Below.allocs ?_ _)); done)
    refine wpAnyH_take (i := 0) (oi := { dst := some 30, op := .move (.tmp 0), type := _, pos := _, after := _, guard := none }) (v := ?va1) rfl (by kernel_rfl) (by kernel_rfl) (by kernel_rfl) (fun _ _ _ h => h) (Or.inl ⟨by rfl, ?hya1⟩) (by assumption) ?resta1
    case hya1 => (intro w hSw; (try dsimp only at hSw); go_simp; try with_reducible rfl)
    try simp only [Act.put, List.setIfInBounds_toArray, List.set_cons_zero, List.set_cons_succ]
    refine wpAnyH_take (i := 1) (oi := { dst := some 31, op := .nilCheck (.tmp 30), type := _, pos := _, after := _, guard := none }) (v := ?va2) rfl (by kernel_rfl) (by kernel_rfl) (by kernel_rfl) (fun _ _ _ h => h) (Or.inl ⟨by rfl, ?hya2⟩) (by assumption) ?resta2
    case hya2 => (intro w hSw; (try dsimp only at hSw); go_simp; try with_reducible rfl)
    try simp only [Act.put, List.setIfInBounds_toArray, List.set_cons_zero, List.set_cons_succ]
    refine wpAnyH_take (i := 2) (oi := { dst := some 32, op := .fieldAddr 33 (.tmp 31) 1, type := _, pos := _, after := _, guard := none }) (v := ?va3) rfl (by kernel_rfl) (by kernel_rfl) (by kernel_rfl) (fun _ _ _ h => h) (Or.inl ⟨by rfl, ?hya3⟩) (by assumption) ?resta3
    case hya3 => (intro w hSw; (try dsimp only at hSw); go_simp; try with_reducible rfl)
    try simp only [Act.put, List.setIfInBounds_toArray, List.set_cons_zero, List.set_cons_succ]
    refine wpAnyH_take (i := 3) (oi := { dst := some 33, op := .load 27 (.tmp 32), type := _, pos := _, after := _, guard := none }) (v := ?va4) rfl (by kernel_rfl) (by kernel_rfl) (by kernel_rfl) (fun _ _ _ h => h) (Or.inl ⟨by rfl, ?hya4⟩) (by assumption) ?resta4
    case hya4 => (intro w hSw; (try dsimp only at hSw); go_simp; try with_reducible rfl)
    try simp only [Act.put, List.setIfInBounds_toArray, List.set_cons_zero, List.set_cons_succ]
    refine wpAnyH_take (i := 4) (oi := { dst := some 34, op := .load 73 (.tmp 3), type := _, pos := _, after := _, guard := none }) (v := ?va5) rfl (by kernel_rfl) (by kernel_rfl) (by kernel_rfl) (fun _ _ _ h => h) (Or.inl ⟨by rfl, ?hya5⟩) (by assumption) ?resta5
    case hya5 => (intro w hSw; (try dsimp only at hSw); go_simp; try with_reducible rfl)
    try simp only [Act.put, List.setIfInBounds_toArray, List.set_cons_zero, List.set_cons_succ]
    refine wpAnyH_ready (rs := [5, 6]) (by kernel_rfl) (by simp) ?_
    refine AllReadyH.cons (o := { dst := some 35, op := .call { callee := .value (.func 46), args := #[(.tmp 33), (.tmp 34)], argTypes := #[27, 73] }, type := _, pos := _, after := _, guard := none }) rfl (fun K hK => ?_) (AllReadyH.cons (o := { dst := some 6, op := .alloc 79, type := _, pos := _, after := _, guard := none }) rfl (fun K hK => ?_) AllReadyH.nil)
    · go_simp
      go_at_call 46
      refine (DOA.out).mono ?_
      rintro e w5 ⟨a5, c5, rfl, hq5⟩
      have HSA : Hid (∀ W', Below w5.heap.size w5 W' → W'.cell? ⟨wb, 1, none⟩ = some (.pointer (some ⟨sb, 0, none⟩)) ∧ W'.cell? ⟨W.heap.size, 0, none⟩ = some (.int .i64 0) ∧ W'.cell? ⟨W.heap.size, 1, none⟩ = some (.int .i64 p) ∧ W'.cell? ⟨W.heap.size, 2, none⟩ = some (.slice ba bn bc) ∧ W'.cell? ⟨W.heap.size, 3, none⟩ = some (.slice ka kn kc) ∧ W'.cell? ⟨W.heap.size, 4, none⟩ = some (.int .i64 t)) := Lib.hid fun W' hb => (by
        obtain ⟨⟨γ', g1, g2, g3, g4, g5⟩, g6⟩ := hq5.out
        obtain ⟨o0, o1, o2, o3, o4, lO⟩ := op5 g4
        exact ⟨cells_below hb _ _ g3.c1, cells_below hb _ _ o0, cells_below hb _ _ o1, cells_below hb _ _ o2, cells_below hb _ _ o3, cells_below hb _ _ o4⟩)
      refine hK.out _ _ ?_ (fun hHeld => ?_)
      · exact HSA.out _ (Below.refl _ _)
      clear hK K
      try simp only [Act.put, List.setIfInBounds_toArray, List.set_cons_zero, List.set_cons_succ]
      refine wpAnyH_ready (rs := [6]) (by kernel_rfl) (by simp) ?_
      refine AllReadyH.cons (o := { dst := some 6, op := .alloc 79, type := _, pos := _, after := _, guard := none }) rfl (fun K hK => ?_) AllReadyH.nil
      go_simp
      refine hK.out _ _ ?_ (fun hHeld => ?_)
      · (with_reducible refine HSA.out _ ?_; (repeat (first | with_reducible exact Below.refl _ _ | with_reducible assumption | with_reducible refine Below.drew ?_ | with_reducible refine Below.allocs ?_ _)); done)
      clear hK K
      try simp only [Act.put, List.setIfInBounds_toArray, List.set_cons_zero, List.set_cons_succ]
      refine wpAnyH_ready (rs := [7]) (by kernel_rfl) (by simp) ?_
      refine AllReadyH.cons (o := { dst := none, op := .store 79 (.tmp 6) (.tmp 35), type := _, pos := _, after := _, guard := none }) rfl (fun K hK => ?_) AllReadyH.nil
      go_simp
      refine hK.out _ _ ?_ (fun hHeld => ?_)
      · (with_reducible refine HSA.out _ ?_; (repeat (first | with_reducible exact Below.refl _ _ | with_reducible assumption | with_reducible refine Below.drew ?_ | with_reducible refine Below.allocs ?_ _)); done)
      clear hK K
      try simp only [Act.put, List.setIfInBounds_toArray, List.set_cons_zero, List.set_cons_succ]
      refine wpAnyH_done (by kernel_rfl) ?_ _
      refine take_last ?_
      intro X hX
      generalize hT : w5.heap.size = T
      refine TAIL T a5 c5 X (Lib.hid ?_)
      obtain ⟨⟨γ', g1, g2, g3, g4, g5⟩, g6⟩ := hq5.out
      have hb : Below w5.heap.size w5 X := hX ▸ Below.alloc (Below.refl _ _) (Nat.le_refl _) _
      have st : Step γ' (fun _ => false) w5 X := Step.below hb g1.2.1
      have lO := (Array.getElem?_eq_some_iff.1 g4).1
      exact ⟨⟨γ', ⟨g1.1, Nat.le_trans g1.2.1 st.size, g1.2.2.trans (g1.1 ▸ st.be)⟩, g2.below hb g1.2.1, g3.keep st rfl⟩, (hb.block _ lO).trans g4, by rw [← hX, ← hT]; exact (Go.MapKept.heap_alloc w5 _).1, g5.keep hb⟩
    · go_simp
      refine hK.out _ _ ?_ (fun hHeld => ?_)
      · (with_reducible refine HSP.out _ ?_; (repeat (first | with_reducible exact Below.refl _ _ | with_reducible assumption | with_reducible refine Below.drew ?_ | with_reducible refine Below.allocs ?_ _)); done)
      clear hK K
      try simp only [Act.put, List.setIfInBounds_toArray, List.set_cons_zero, List.set_cons_succ]
      refine wpAnyH_ready (rs := [5]) (by kernel_rfl) (by simp) ?_
      refine AllReadyH.cons (o := { dst := some 35, op := .call { callee := .value (.func 46), args := #[(.tmp 33), (.tmp 34)], argTypes := #[27, 73] }, type := _, pos := _, after := _, guard := none }) rfl (fun K hK => ?_) AllReadyH.nil
      go_simp
      go_at_call 46
      refine (DOB.out).mono ?_
      rintro e w5 ⟨a5, c5, rfl, hq5⟩
      have HSA : Hid (∀ W', Below w5.heap.size w5 W' → W'.cell? ⟨wb, 1, none⟩ = some (.pointer (some ⟨sb, 0, none⟩)) ∧ W'.cell? ⟨W.heap.size, 0, none⟩ = some (.int .i64 0) ∧ W'.cell? ⟨W.heap.size, 1, none⟩ = some (.int .i64 p) ∧ W'.cell? ⟨W.heap.size, 2, none⟩ = some (.slice ba bn bc) ∧ W'.cell? ⟨W.heap.size, 3, none⟩ = some (.slice ka kn kc) ∧ W'.cell? ⟨W.heap.size, 4, none⟩ = some (.int .i64 t)) := Lib.hid fun W' hb => (by
        obtain ⟨⟨γ', g1, g2, g3, g4, g5⟩, g6⟩ := hq5.out
        obtain ⟨o0, o1, o2, o3, o4, lO⟩ := op5 g4
        exact ⟨cells_below hb _ _ g3.c1, cells_below hb _ _ o0, cells_below hb _ _ o1, cells_below hb _ _ o2, cells_below hb _ _ o3, cells_below hb _ _ o4⟩)
      obtain ⟨y0, y1, y2, zy0, zy1, zy2, lB⟩ := z79_cells hq5.out.2
      refine hK.out _ _ ?_ (fun hHeld => ?_)
      · (obtain ⟨⟨γ', g1, g2, g3, g4, g5⟩, g6⟩ := hq5.out; obtain ⟨o0, o1, o2, o3, o4, lO⟩ := op5 g4; exact ⟨g3.c1, o0, o1, o2, o3, o4⟩)
      clear hK K
      try simp only [Act.put, List.setIfInBounds_toArray, List.set_cons_zero, List.set_cons_succ]
      refine wpAnyH_ready (rs := [7]) (by kernel_rfl) (by simp) ?_
      refine AllReadyH.cons (o := { dst := none, op := .store 79 (.tmp 6) (.tmp 35), type := _, pos := _, after := _, guard := none }) rfl (fun K hK => ?_) AllReadyH.nil
      go_simp
      refine hK.out _ _ ?_ (fun hHeld => ?_)
      · (obtain ⟨⟨γ', g1, g2, g3, g4, g5⟩, g6⟩ := hq5.out; have hO := (heap3 w5 W1.heap.size (.slice a5 m c5) (.bool false) (.int .i64 (en : Int)) (j := W.heap.size) (by have := HLT.out.1; omega)).trans g4; have hW := heap3 w5 W1.heap.size (.slice a5 m c5) (.bool false) (.int .i64 (en : Int)) (j := wb) (by have := HLT.out; omega); obtain ⟨o0, o1, o2, o3, o4, lO⟩ := op5 hO; exact ⟨(cell_of_heap (a := ⟨wb, 1, none⟩) hW).1.trans g3.c1, o0, o1, o2, o3, o4⟩)
      clear hK K
      try simp only [Act.put, List.setIfInBounds_toArray, List.set_cons_zero, List.set_cons_succ]
      refine wpAnyH_done (by kernel_rfl) ?_ _
      refine take_last ?_
      intro X hX
      have HLT2 : Hid (wb < W1.heap.size ∧ W.heap.size ≠ W1.heap.size) := Lib.hid (by have := HLT.out; omega)
      clear y0 y1 y2 zy0 zy1 zy2 lB
      generalize hT : W1.heap.size = T at hX hq5 HLT2 ⊢
      refine TAIL T a5 c5 X (Lib.hid ?_)
      obtain ⟨⟨γ', g1, g2, g3, g4, g5, g8⟩, g6⟩ := hq5.out
      exact AnP.laid g1 g2 g3 g4 g5 g6 g8 HLT2.out.1 HLT2.out.2 hX
  · intro T a c X HA
    obtain ⟨t0, t1, t2, lT⟩ := c79 HA.out.tl
    obtain ⟨o0, o1, o2, o3, o4, lO⟩ := op5 HA.out.op
    clear HP HSP DOA DOB HW c0 c1 cd l1 hN hbd
    have HWI := Lib.hid HQ.out.2.2
    cases hd : s.c.d.dead with
    | true =>
      obtain rfl := HQ.out.1 hd
      go_wp2_with fail
      go_ret
      exact ⟨rfl, Lib.hid ⟨_, _, _, _, _, _, HA.out.wl, HWI.out, HB.out, HAL.out⟩⟩
    | false =>
      by_cases he : en = 0
      · subst he
        obtain ⟨hp0, hp1, hon, hbs⟩ := HQ.out.2.1 hd rfl
        obtain ⟨pn, hpp⟩ : ∃ pn : Nat, p = pn := ⟨p.toNat, by omega⟩
        subst hpp
        have hpn : pn < 1024 := by omega
        rw [show ((pn : Nat) : Int).toNat = pn by omega] at hon hbs
        have i1 : ¬ (pn : Int) < 0 := by omega
        have i2 : ¬ (1024 : Int) ≤ (pn : Int) := by omega
        have i3 : (pn : Int) < 1024 := by omega
        have i4 : (0 : Int) ≤ (pn : Int) := by omega
        clear HQ hp0 hp1
        obtain ⟨γ, g, hs, hw⟩ := HA.out.wl
        have q1 := hw.rn.on hpn
        have q2 := hw.rn.b hpn
        rw [hon] at q1
        rw [hbs] at q2
        have hcv := conv_rv (HA.out.rv.keep (Below.drew (Below.refl _ _)))
        obtain ⟨TS, hTS⟩ : ∃ TS, txt bs = TS := ⟨_, rfl⟩
        rw [hTS] at q2 hcv
        have HS0 : Hid (X.drew.cell? ⟨W.heap.size, 1, none⟩ = some (.int .i64 (pn : Int)) ∧ X.drew.cell? ⟨wb, 2 + pn, none⟩ = some (.bool true) ∧ X.drew.cell? ⟨wb, 1026 + pn, none⟩ = some (.string TS) ∧ X.drew.cell? ⟨T, 0, none⟩ = some (.slice a m c) ∧ (convert 37 9 (.slice a m c)).run Tryz.prog X.drew = .ok (.string TS) X.drew) := Lib.hid ⟨o1, q1, q2, t0, hcv⟩
        have HF : Hid (WL w X.drew db sb wb s2 now last wanted torn) := Lib.hid (HA.out.wl.below (Below.drew (Below.refl _ _)))
        clear hs hw q1 q2 hcv hTS hon hbs
        go_upto_region 15 with fail
        refine wp_region_held_drew (S := (fun W' => W'.cell? ⟨W.heap.size, 1, none⟩ = some (.int .i64 (pn : Int)) ∧ W'.cell? ⟨wb, 2 + pn, none⟩ = some (.bool true) ∧ W'.cell? ⟨wb, 1026 + pn, none⟩ = some (.string TS) ∧ W'.cell? ⟨T, 0, none⟩ = some (.slice a m c) ∧ (convert 37 9 (.slice a m c)).run Tryz.prog W' = .ok (.string TS) W')) (by kernel_rfl) ?_ (fun hHeld => ?_)
        · exact HS0.out
        refine wpAnyH_take (i := 0) (oi := { dst := some 83, op := .move (.tmp 7), type := _, pos := _, after := _, guard := none }) (v := ?vrb1) rfl (by kernel_rfl) (by kernel_rfl) (by kernel_rfl) (fun _ _ _ h => h) (Or.inl ⟨by rfl, ?hyrb1⟩) (by assumption) ?restrb1
        case hyrb1 => (intro w hSw; (try dsimp only at hSw); go_simp; try with_reducible rfl)
        try simp only [Act.put, List.setIfInBounds_toArray, List.set_cons_zero, List.set_cons_succ]
        refine wpAnyH_take (i := 1) (oi := { dst := some 84, op := .unOp .not 4 (.tmp 83), type := _, pos := _, after := _, guard := none }) (v := ?vrb2) rfl (by kernel_rfl) (by kernel_rfl) (by kernel_rfl) (fun _ _ _ h => h) (Or.inl ⟨by rfl, ?hyrb2⟩) (by assumption) ?restrb2
        case hyrb2 => (intro w hSw; (try dsimp only at hSw); go_simp; try with_reducible rfl)
        try simp only [Act.put, List.setIfInBounds_toArray, List.set_cons_zero, List.set_cons_succ]
        refine wpAnyH_take (i := 2) (oi := { dst := some 85, op := .move (.tmp 84), type := _, pos := _, after := _, guard := none }) (v := ?vrb3) rfl (by kernel_rfl) (by kernel_rfl) (by kernel_rfl) (fun _ _ _ h => h) (Or.inl ⟨by rfl, ?hyrb3⟩) (by assumption) ?restrb3
        case hyrb3 => (intro w hSw; (try dsimp only at hSw); go_simp; try with_reducible rfl)
        try simp only [Act.put, List.setIfInBounds_toArray, List.set_cons_zero, List.set_cons_succ]
        refine wpAnyH_take (i := 3) (oi := { dst := some 86, op := .move (.tmp 0), type := _, pos := _, after := _, guard := some (2, false) }) (v := ?vrb4) rfl (by kernel_rfl) (by kernel_rfl) (by kernel_rfl) (fun _ _ _ h => h) (Or.inl ⟨by rfl, ?hyrb4⟩) (by assumption) ?restrb4
        case hyrb4 => (intro w hSw; (try dsimp only at hSw); go_simp; try with_reducible rfl)
        try simp only [Act.put, List.setIfInBounds_toArray, List.set_cons_zero, List.set_cons_succ]
        refine wpAnyH_take (i := 4) (oi := { dst := some 87, op := .fieldAddr 73 (.tmp 3) 1, type := _, pos := _, after := _, guard := some (2, false) }) (v := ?vrb5) rfl (by kernel_rfl) (by kernel_rfl) (by kernel_rfl) (fun _ _ _ h => h) (Or.inl ⟨by rfl, ?hyrb5⟩) (by assumption) ?restrb5
        case hyrb5 => (intro w hSw; (try dsimp only at hSw); go_simp; try with_reducible rfl)
        try simp only [Act.put, List.setIfInBounds_toArray, List.set_cons_zero, List.set_cons_succ]
        refine wpAnyH_take (i := 5) (oi := { dst := some 88, op := .load 3 (.tmp 87), type := _, pos := _, after := _, guard := some (2, false) }) (v := ?vrb6) rfl (by kernel_rfl) (by kernel_rfl) (by kernel_rfl) (fun _ _ _ h => h) (Or.inl ⟨by rfl, ?hyrb6⟩) (by assumption) ?restrb6
        case hyrb6 => (intro w hSw; (try dsimp only at hSw); go_simp; try with_reducible rfl)
        try simp only [Act.put, List.setIfInBounds_toArray, List.set_cons_zero, List.set_cons_succ]
        refine wpAnyH_take (i := 6) (oi := { dst := some 89, op := .nilCheck (.tmp 86), type := _, pos := _, after := _, guard := some (2, false) }) (v := ?vrb7) rfl (by kernel_rfl) (by kernel_rfl) (by kernel_rfl) (fun _ _ _ h => h) (Or.inl ⟨by rfl, ?hyrb7⟩) (by assumption) ?restrb7
        case hyrb7 => (intro w hSw; (try dsimp only at hSw); go_simp; try with_reducible rfl)
        try simp only [Act.put, List.setIfInBounds_toArray, List.set_cons_zero, List.set_cons_succ]
        refine wpAnyH_take (i := 7) (oi := { dst := some 90, op := .fieldAddr 33 (.tmp 89) 2, type := _, pos := _, after := _, guard := some (2, false) }) (v := ?vrb8) rfl (by kernel_rfl) (by kernel_rfl) (by kernel_rfl) (fun _ _ _ h => h) (Or.inl ⟨by rfl, ?hyrb8⟩) (by assumption) ?restrb8
        case hyrb8 => (intro w hSw; (try dsimp only at hSw); go_simp; try with_reducible rfl)
        try simp only [Act.put, List.setIfInBounds_toArray, List.set_cons_zero, List.set_cons_succ]
        refine wpAnyH_take (i := 8) (oi := { dst := some 91, op := .fieldAddr 31 (.tmp 90) 0, type := _, pos := _, after := _, guard := some (2, false) }) (v := ?vrb9) rfl (by kernel_rfl) (by kernel_rfl) (by kernel_rfl) (fun _ _ _ h => h) (Or.inl ⟨by rfl, ?hyrb9⟩) (by assumption) ?restrb9
        case hyrb9 => (intro w hSw; (try dsimp only at hSw); go_simp; try with_reducible rfl)
        try simp only [Act.put, List.setIfInBounds_toArray, List.set_cons_zero, List.set_cons_succ]
        refine wpAnyH_take (i := 9) (oi := { dst := some 92, op := .indexAddr 28 (.tmp 91) (.tmp 88), type := _, pos := _, after := _, guard := some (2, false) }) (v := ?vrb10) rfl (by kernel_rfl) (by kernel_rfl) (by kernel_rfl) (fun _ _ _ h => h) (Or.inl ⟨by rfl, ?hyrb10⟩) (by assumption) ?restrb10
        case hyrb10 => (intro w hSw; (try dsimp only at hSw); go_simp; try with_reducible rfl)
        try simp only [Act.put, List.setIfInBounds_toArray, List.set_cons_zero, List.set_cons_succ]
        refine wpAnyH_take (i := 10) (oi := { dst := some 93, op := .load 4 (.tmp 92), type := _, pos := _, after := _, guard := some (2, false) }) (v := ?vrb11) rfl (by kernel_rfl) (by kernel_rfl) (by kernel_rfl) (fun _ _ _ h => h) (Or.inl ⟨by rfl, ?hyrb11⟩) (by assumption) ?restrb11
        case hyrb11 => (intro w hSw; (try dsimp only at hSw); go_simp; try with_reducible rfl)
        try simp only [Act.put, List.setIfInBounds_toArray, List.set_cons_zero, List.set_cons_succ]
        refine wpAnyH_take (i := 11) (oi := { dst := some 94, op := .move (.tmp 93), type := _, pos := _, after := _, guard := some (2, false) }) (v := ?vrb12) rfl (by kernel_rfl) (by kernel_rfl) (by kernel_rfl) (fun _ _ _ h => h) (Or.inl ⟨by rfl, ?hyrb12⟩) (by assumption) ?restrb12
        case hyrb12 => (intro w hSw; (try dsimp only at hSw); go_simp; try with_reducible rfl)
        try simp only [Act.put, List.setIfInBounds_toArray, List.set_cons_zero, List.set_cons_succ]
        refine wpAnyH_take (i := 12) (oi := { dst := some 95, op := .move (.tmp 0), type := _, pos := _, after := _, guard := some (11, true) }) (v := ?vrb13) rfl (by kernel_rfl) (by kernel_rfl) (by kernel_rfl) (fun _ _ _ h => h) (Or.inl ⟨by rfl, ?hyrb13⟩) (by assumption) ?restrb13
        case hyrb13 => (intro w hSw; (try dsimp only at hSw); go_simp; try with_reducible rfl)
        try simp only [Act.put, List.setIfInBounds_toArray, List.set_cons_zero, List.set_cons_succ]
        refine wpAnyH_take (i := 13) (oi := { dst := some 96, op := .fieldAddr 73 (.tmp 3) 1, type := _, pos := _, after := _, guard := some (11, true) }) (v := ?vrb14) rfl (by kernel_rfl) (by kernel_rfl) (by kernel_rfl) (fun _ _ _ h => h) (Or.inl ⟨by rfl, ?hyrb14⟩) (by assumption) ?restrb14
        case hyrb14 => (intro w hSw; (try dsimp only at hSw); go_simp; try with_reducible rfl)
        try simp only [Act.put, List.setIfInBounds_toArray, List.set_cons_zero, List.set_cons_succ]
        refine wpAnyH_take (i := 14) (oi := { dst := some 97, op := .load 3 (.tmp 96), type := _, pos := _, after := _, guard := some (11, true) }) (v := ?vrb15) rfl (by kernel_rfl) (by kernel_rfl) (by kernel_rfl) (fun _ _ _ h => h) (Or.inl ⟨by rfl, ?hyrb15⟩) (by assumption) ?restrb15
        case hyrb15 => (intro w hSw; (try dsimp only at hSw); go_simp; try with_reducible rfl)
        try simp only [Act.put, List.setIfInBounds_toArray, List.set_cons_zero, List.set_cons_succ]
        refine wpAnyH_take (i := 15) (oi := { dst := some 98, op := .nilCheck (.tmp 95), type := _, pos := _, after := _, guard := some (11, true) }) (v := ?vrb16) rfl (by kernel_rfl) (by kernel_rfl) (by kernel_rfl) (fun _ _ _ h => h) (Or.inl ⟨by rfl, ?hyrb16⟩) (by assumption) ?restrb16
        case hyrb16 => (intro w hSw; (try dsimp only at hSw); go_simp; try with_reducible rfl)
        try simp only [Act.put, List.setIfInBounds_toArray, List.set_cons_zero, List.set_cons_succ]
        refine wpAnyH_take (i := 16) (oi := { dst := some 99, op := .fieldAddr 33 (.tmp 98) 2, type := _, pos := _, after := _, guard := some (11, true) }) (v := ?vrb17) rfl (by kernel_rfl) (by kernel_rfl) (by kernel_rfl) (fun _ _ _ h => h) (Or.inl ⟨by rfl, ?hyrb17⟩) (by assumption) ?restrb17
        case hyrb17 => (intro w hSw; (try dsimp only at hSw); go_simp; try with_reducible rfl)
        try simp only [Act.put, List.setIfInBounds_toArray, List.set_cons_zero, List.set_cons_succ]
        refine wpAnyH_take (i := 17) (oi := { dst := some 100, op := .fieldAddr 31 (.tmp 99) 1, type := _, pos := _, after := _, guard := some (11, true) }) (v := ?vrb18) rfl (by kernel_rfl) (by kernel_rfl) (by kernel_rfl) (fun _ _ _ h => h) (Or.inl ⟨by rfl, ?hyrb18⟩) (by assumption) ?restrb18
        case hyrb18 => (intro w hSw; (try dsimp only at hSw); go_simp; try with_reducible rfl)
        try simp only [Act.put, List.setIfInBounds_toArray, List.set_cons_zero, List.set_cons_succ]
        refine wpAnyH_take (i := 18) (oi := { dst := some 101, op := .indexAddr 29 (.tmp 100) (.tmp 97), type := _, pos := _, after := _, guard := some (11, true) }) (v := ?vrb19) rfl (by kernel_rfl) (by kernel_rfl) (by kernel_rfl) (fun _ _ _ h => h) (Or.inl ⟨by rfl, ?hyrb19⟩) (by assumption) ?restrb19
        case hyrb19 => (intro w hSw; (try dsimp only at hSw); go_simp; try with_reducible rfl)
        try simp only [Act.put, List.setIfInBounds_toArray, List.set_cons_zero, List.set_cons_succ]
        refine wpAnyH_take (i := 19) (oi := { dst := some 102, op := .load 9 (.tmp 101), type := _, pos := _, after := _, guard := some (11, true) }) (v := ?vrb20) rfl (by kernel_rfl) (by kernel_rfl) (by kernel_rfl) (fun _ _ _ h => h) (Or.inl ⟨by rfl, ?hyrb20⟩) (by assumption) ?restrb20
        case hyrb20 => (intro w hSw; (try dsimp only at hSw); go_simp; try with_reducible rfl)
        try simp only [Act.put, List.setIfInBounds_toArray, List.set_cons_zero, List.set_cons_succ]
        refine wpAnyH_take (i := 20) (oi := { dst := some 103, op := .fieldAddr 79 (.tmp 6) 0, type := _, pos := _, after := _, guard := some (11, true) }) (v := ?vrb21) rfl (by kernel_rfl) (by kernel_rfl) (by kernel_rfl) (fun _ _ _ h => h) (Or.inl ⟨by rfl, ?hyrb21⟩) (by assumption) ?restrb21
        case hyrb21 => (intro w hSw; (try dsimp only at hSw); go_simp; try with_reducible rfl)
        try simp only [Act.put, List.setIfInBounds_toArray, List.set_cons_zero, List.set_cons_succ]
        refine wpAnyH_take (i := 21) (oi := { dst := some 104, op := .load 37 (.tmp 103), type := _, pos := _, after := _, guard := some (11, true) }) (v := ?vrb22) rfl (by kernel_rfl) (by kernel_rfl) (by kernel_rfl) (fun _ _ _ h => h) (Or.inl ⟨by rfl, ?hyrb22⟩) (by assumption) ?restrb22
        case hyrb22 => (intro w hSw; (try dsimp only at hSw); go_simp; try with_reducible rfl)
        try simp only [Act.put, List.setIfInBounds_toArray, List.set_cons_zero, List.set_cons_succ]
        refine wpAnyH_take (i := 22) (oi := { dst := some 105, op := .convert 37 9 (.tmp 104), type := _, pos := _, after := _, guard := some (11, true) }) (v := ?vrb23) rfl (by kernel_rfl) (by kernel_rfl) (by kernel_rfl) (fun _ _ _ h => h) (Or.inl ⟨by rfl, ?hyrb23⟩) (by assumption) ?restrb23
        case hyrb23 => (intro w hSw; (try dsimp only at hSw); go_simp; try with_reducible rfl)
        try simp only [Act.put, List.setIfInBounds_toArray, List.set_cons_zero, List.set_cons_succ]
        refine wpAnyH_take (i := 23) (oi := { dst := some 106, op := .binOp .eql 9 (.tmp 102) (.tmp 105) 9, type := _, pos := _, after := _, guard := some (11, true) }) (v := ?vrb24) rfl (by kernel_rfl) (by kernel_rfl) (by kernel_rfl) (fun _ _ _ h => h) (Or.inl ⟨by rfl, ?hyrb24⟩) (by assumption) ?restrb24
        case hyrb24 => (intro w hSw; (try dsimp only at hSw); go_simp; try with_reducible rfl)
        try simp only [Act.put, List.setIfInBounds_toArray, List.set_cons_zero, List.set_cons_succ]
        refine wpAnyH_take (i := 24) (oi := { dst := some 107, op := .pick (.tmp 94) (.tmp 106) (.const (.bool false)), type := _, pos := _, after := _, guard := some (2, false) }) (v := ?vrb25) rfl (by kernel_rfl) (by kernel_rfl) (by kernel_rfl) (fun _ _ _ h => h) (Or.inl ⟨by rfl, ?hyrb25⟩) (by assumption) ?restrb25
        case hyrb25 => (intro w hSw; (try dsimp only at hSw); go_simp; try with_reducible rfl)
        try simp only [Act.put, List.setIfInBounds_toArray, List.set_cons_zero, List.set_cons_succ]
        refine wpAnyH_take (i := 25) (oi := { dst := some 108, op := .pick (.tmp 85) (.const (.bool true)) (.tmp 107), type := _, pos := _, after := _, guard := none }) (v := ?vrb26) rfl (by kernel_rfl) (by kernel_rfl) (by kernel_rfl) (fun _ _ _ h => h) (Or.inl ⟨by rfl, ?hyrb26⟩) (by assumption) ?restrb26
        case hyrb26 => (intro w hSw; (try dsimp only at hSw); go_simp; try with_reducible rfl)
        try simp only [Act.put, List.setIfInBounds_toArray, List.set_cons_zero, List.set_cons_succ]
        refine wpAnyH_take (i := 26) (oi := { dst := some 4, op := .assign (.tmp 108), type := _, pos := _, after := _, guard := none }) (v := ?vrb27) rfl (by kernel_rfl) (by kernel_rfl) (by kernel_rfl) (fun _ _ _ h => h) (Or.inl ⟨by rfl, ?hyrb27⟩) (by assumption) ?restrb27
        case hyrb27 => (intro w hSw; (try dsimp only at hSw); go_simp; try with_reducible rfl)
        try simp only [Act.put, List.setIfInBounds_toArray, List.set_cons_zero, List.set_cons_succ]
        refine wpAnyH_done (by kernel_rfl) ?_ _
        go_wp2_with fail
        go_ret
        exact ⟨rfl, Lib.hid ⟨_, _, _, _, _, _, HF.out, HWI.out, HB.out, HAL.out⟩⟩
      · have HF : Hid (WL w X.drew db sb wb s2 now last wanted torn) := Lib.hid (HA.out.wl.below (Below.drew (Below.refl _ _)))
        have i5 : ¬ (en : Int) = 0 := by omega
        have i6 : ((en : Int) == 0) = false := by rw [beq_eq_false_iff_ne]; exact i5
        go_upto_region 15 with fail
        refine wp_region_held_drew (S := (fun W' => True)) (by kernel_rfl) ?_ (fun hHeld => ?_)
        · trivial
        refine wpAnyH_take (i := 0) (oi := { dst := some 83, op := .move (.tmp 7), type := _, pos := _, after := _, guard := none }) (v := ?vra1) rfl (by kernel_rfl) (by kernel_rfl) (by kernel_rfl) (fun _ _ _ h => h) (Or.inl ⟨by rfl, ?hyra1⟩) (by assumption) ?restra1
        case hyra1 => (intro w hSw; (try dsimp only at hSw); go_simp; try with_reducible rfl)
        try simp only [Act.put, List.setIfInBounds_toArray, List.set_cons_zero, List.set_cons_succ]
        refine wpAnyH_take (i := 1) (oi := { dst := some 84, op := .unOp .not 4 (.tmp 83), type := _, pos := _, after := _, guard := none }) (v := ?vra2) rfl (by kernel_rfl) (by kernel_rfl) (by kernel_rfl) (fun _ _ _ h => h) (Or.inl ⟨by rfl, ?hyra2⟩) (by assumption) ?restra2
        case hyra2 => (intro w hSw; (try dsimp only at hSw); go_simp; try with_reducible rfl)
        try simp only [Act.put, List.setIfInBounds_toArray, List.set_cons_zero, List.set_cons_succ]
        refine wpAnyH_take (i := 2) (oi := { dst := some 85, op := .move (.tmp 84), type := _, pos := _, after := _, guard := none }) (v := ?vra3) rfl (by kernel_rfl) (by kernel_rfl) (by kernel_rfl) (fun _ _ _ h => h) (Or.inl ⟨by rfl, ?hyra3⟩) (by assumption) ?restra3
        case hyra3 => (intro w hSw; (try dsimp only at hSw); go_simp; try with_reducible rfl)
        try simp only [Act.put, List.setIfInBounds_toArray, List.set_cons_zero, List.set_cons_succ]
        refine wpAnyH_take (i := 3) (oi := { dst := some 86, op := .move (.tmp 0), type := _, pos := _, after := _, guard := some (2, false) }) (v := undef) rfl (by kernel_rfl) (by kernel_rfl) (by kernel_rfl) (fun _ _ _ h => h) (Or.inr ⟨by first | kernel_rfl | rfl, rfl⟩) (by assumption) ?_
        try simp only [Act.put, List.setIfInBounds_toArray, List.set_cons_zero, List.set_cons_succ]
        refine wpAnyH_take (i := 4) (oi := { dst := some 87, op := .fieldAddr 73 (.tmp 3) 1, type := _, pos := _, after := _, guard := some (2, false) }) (v := undef) rfl (by kernel_rfl) (by kernel_rfl) (by kernel_rfl) (fun _ _ _ h => h) (Or.inr ⟨by first | kernel_rfl | rfl, rfl⟩) (by assumption) ?_
        try simp only [Act.put, List.setIfInBounds_toArray, List.set_cons_zero, List.set_cons_succ]
        refine wpAnyH_take (i := 5) (oi := { dst := some 88, op := .load 3 (.tmp 87), type := _, pos := _, after := _, guard := some (2, false) }) (v := undef) rfl (by kernel_rfl) (by kernel_rfl) (by kernel_rfl) (fun _ _ _ h => h) (Or.inr ⟨by first | kernel_rfl | rfl, rfl⟩) (by assumption) ?_
        try simp only [Act.put, List.setIfInBounds_toArray, List.set_cons_zero, List.set_cons_succ]
        refine wpAnyH_take (i := 6) (oi := { dst := some 89, op := .nilCheck (.tmp 86), type := _, pos := _, after := _, guard := some (2, false) }) (v := undef) rfl (by kernel_rfl) (by kernel_rfl) (by kernel_rfl) (fun _ _ _ h => h) (Or.inr ⟨by first | kernel_rfl | rfl, rfl⟩) (by assumption) ?_
        try simp only [Act.put, List.setIfInBounds_toArray, List.set_cons_zero, List.set_cons_succ]
        refine wpAnyH_take (i := 7) (oi := { dst := some 90, op := .fieldAddr 33 (.tmp 89) 2, type := _, pos := _, after := _, guard := some (2, false) }) (v := undef) rfl (by kernel_rfl) (by kernel_rfl) (by kernel_rfl) (fun _ _ _ h => h) (Or.inr ⟨by first | kernel_rfl | rfl, rfl⟩) (by assumption) ?_
        try simp only [Act.put, List.setIfInBounds_toArray, List.set_cons_zero, List.set_cons_succ]
        refine wpAnyH_take (i := 8) (oi := { dst := some 91, op := .fieldAddr 31 (.tmp 90) 0, type := _, pos := _, after := _, guard := some (2, false) }) (v := undef) rfl (by kernel_rfl) (by kernel_rfl) (by kernel_rfl) (fun _ _ _ h => h) (Or.inr ⟨by first | kernel_rfl | rfl, rfl⟩) (by assumption) ?_
        try simp only [Act.put, List.setIfInBounds_toArray, List.set_cons_zero, List.set_cons_succ]
        refine wpAnyH_take (i := 9) (oi := { dst := some 92, op := .indexAddr 28 (.tmp 91) (.tmp 88), type := _, pos := _, after := _, guard := some (2, false) }) (v := undef) rfl (by kernel_rfl) (by kernel_rfl) (by kernel_rfl) (fun _ _ _ h => h) (Or.inr ⟨by first | kernel_rfl | rfl, rfl⟩) (by assumption) ?_
        try simp only [Act.put, List.setIfInBounds_toArray, List.set_cons_zero, List.set_cons_succ]
        refine wpAnyH_take (i := 10) (oi := { dst := some 93, op := .load 4 (.tmp 92), type := _, pos := _, after := _, guard := some (2, false) }) (v := undef) rfl (by kernel_rfl) (by kernel_rfl) (by kernel_rfl) (fun _ _ _ h => h) (Or.inr ⟨by first | kernel_rfl | rfl, rfl⟩) (by assumption) ?_
        try simp only [Act.put, List.setIfInBounds_toArray, List.set_cons_zero, List.set_cons_succ]
        refine wpAnyH_take (i := 11) (oi := { dst := some 94, op := .move (.tmp 93), type := _, pos := _, after := _, guard := some (2, false) }) (v := undef) rfl (by kernel_rfl) (by kernel_rfl) (by kernel_rfl) (fun _ _ _ h => h) (Or.inr ⟨by first | kernel_rfl | rfl, rfl⟩) (by assumption) ?_
        try simp only [Act.put, List.setIfInBounds_toArray, List.set_cons_zero, List.set_cons_succ]
        refine wpAnyH_take (i := 12) (oi := { dst := some 95, op := .move (.tmp 0), type := _, pos := _, after := _, guard := some (11, true) }) (v := undef) rfl (by kernel_rfl) (by kernel_rfl) (by kernel_rfl) (fun _ _ _ h => h) (Or.inr ⟨by first | kernel_rfl | rfl, rfl⟩) (by assumption) ?_
        try simp only [Act.put, List.setIfInBounds_toArray, List.set_cons_zero, List.set_cons_succ]
        refine wpAnyH_take (i := 13) (oi := { dst := some 96, op := .fieldAddr 73 (.tmp 3) 1, type := _, pos := _, after := _, guard := some (11, true) }) (v := undef) rfl (by kernel_rfl) (by kernel_rfl) (by kernel_rfl) (fun _ _ _ h => h) (Or.inr ⟨by first | kernel_rfl | rfl, rfl⟩) (by assumption) ?_
        try simp only [Act.put, List.setIfInBounds_toArray, List.set_cons_zero, List.set_cons_succ]
        refine wpAnyH_take (i := 14) (oi := { dst := some 97, op := .load 3 (.tmp 96), type := _, pos := _, after := _, guard := some (11, true) }) (v := undef) rfl (by kernel_rfl) (by kernel_rfl) (by kernel_rfl) (fun _ _ _ h => h) (Or.inr ⟨by first | kernel_rfl | rfl, rfl⟩) (by assumption) ?_
        try simp only [Act.put, List.setIfInBounds_toArray, List.set_cons_zero, List.set_cons_succ]
        refine wpAnyH_take (i := 15) (oi := { dst := some 98, op := .nilCheck (.tmp 95), type := _, pos := _, after := _, guard := some (11, true) }) (v := undef) rfl (by kernel_rfl) (by kernel_rfl) (by kernel_rfl) (fun _ _ _ h => h) (Or.inr ⟨by first | kernel_rfl | rfl, rfl⟩) (by assumption) ?_
        try simp only [Act.put, List.setIfInBounds_toArray, List.set_cons_zero, List.set_cons_succ]
        refine wpAnyH_take (i := 16) (oi := { dst := some 99, op := .fieldAddr 33 (.tmp 98) 2, type := _, pos := _, after := _, guard := some (11, true) }) (v := undef) rfl (by kernel_rfl) (by kernel_rfl) (by kernel_rfl) (fun _ _ _ h => h) (Or.inr ⟨by first | kernel_rfl | rfl, rfl⟩) (by assumption) ?_
        try simp only [Act.put, List.setIfInBounds_toArray, List.set_cons_zero, List.set_cons_succ]
        refine wpAnyH_take (i := 17) (oi := { dst := some 100, op := .fieldAddr 31 (.tmp 99) 1, type := _, pos := _, after := _, guard := some (11, true) }) (v := undef) rfl (by kernel_rfl) (by kernel_rfl) (by kernel_rfl) (fun _ _ _ h => h) (Or.inr ⟨by first | kernel_rfl | rfl, rfl⟩) (by assumption) ?_
        try simp only [Act.put, List.setIfInBounds_toArray, List.set_cons_zero, List.set_cons_succ]
        refine wpAnyH_take (i := 18) (oi := { dst := some 101, op := .indexAddr 29 (.tmp 100) (.tmp 97), type := _, pos := _, after := _, guard := some (11, true) }) (v := undef) rfl (by kernel_rfl) (by kernel_rfl) (by kernel_rfl) (fun _ _ _ h => h) (Or.inr ⟨by first | kernel_rfl | rfl, rfl⟩) (by assumption) ?_
        try simp only [Act.put, List.setIfInBounds_toArray, List.set_cons_zero, List.set_cons_succ]
        refine wpAnyH_take (i := 19) (oi := { dst := some 102, op := .load 9 (.tmp 101), type := _, pos := _, after := _, guard := some (11, true) }) (v := undef) rfl (by kernel_rfl) (by kernel_rfl) (by kernel_rfl) (fun _ _ _ h => h) (Or.inr ⟨by first | kernel_rfl | rfl, rfl⟩) (by assumption) ?_
        try simp only [Act.put, List.setIfInBounds_toArray, List.set_cons_zero, List.set_cons_succ]
        refine wpAnyH_take (i := 20) (oi := { dst := some 103, op := .fieldAddr 79 (.tmp 6) 0, type := _, pos := _, after := _, guard := some (11, true) }) (v := undef) rfl (by kernel_rfl) (by kernel_rfl) (by kernel_rfl) (fun _ _ _ h => h) (Or.inr ⟨by first | kernel_rfl | rfl, rfl⟩) (by assumption) ?_
        try simp only [Act.put, List.setIfInBounds_toArray, List.set_cons_zero, List.set_cons_succ]
        refine wpAnyH_take (i := 21) (oi := { dst := some 104, op := .load 37 (.tmp 103), type := _, pos := _, after := _, guard := some (11, true) }) (v := undef) rfl (by kernel_rfl) (by kernel_rfl) (by kernel_rfl) (fun _ _ _ h => h) (Or.inr ⟨by first | kernel_rfl | rfl, rfl⟩) (by assumption) ?_
        try simp only [Act.put, List.setIfInBounds_toArray, List.set_cons_zero, List.set_cons_succ]
        refine wpAnyH_take (i := 22) (oi := { dst := some 105, op := .convert 37 9 (.tmp 104), type := _, pos := _, after := _, guard := some (11, true) }) (v := undef) rfl (by kernel_rfl) (by kernel_rfl) (by kernel_rfl) (fun _ _ _ h => h) (Or.inr ⟨by first | kernel_rfl | rfl, rfl⟩) (by assumption) ?_
        try simp only [Act.put, List.setIfInBounds_toArray, List.set_cons_zero, List.set_cons_succ]
        refine wpAnyH_take (i := 23) (oi := { dst := some 106, op := .binOp .eql 9 (.tmp 102) (.tmp 105) 9, type := _, pos := _, after := _, guard := some (11, true) }) (v := undef) rfl (by kernel_rfl) (by kernel_rfl) (by kernel_rfl) (fun _ _ _ h => h) (Or.inr ⟨by first | kernel_rfl | rfl, rfl⟩) (by assumption) ?_
        try simp only [Act.put, List.setIfInBounds_toArray, List.set_cons_zero, List.set_cons_succ]
        refine wpAnyH_take (i := 24) (oi := { dst := some 107, op := .pick (.tmp 94) (.tmp 106) (.const (.bool false)), type := _, pos := _, after := _, guard := some (2, false) }) (v := undef) rfl (by kernel_rfl) (by kernel_rfl) (by kernel_rfl) (fun _ _ _ h => h) (Or.inr ⟨by first | kernel_rfl | rfl, rfl⟩) (by assumption) ?_
        try simp only [Act.put, List.setIfInBounds_toArray, List.set_cons_zero, List.set_cons_succ]
        refine wpAnyH_take (i := 25) (oi := { dst := some 108, op := .pick (.tmp 85) (.const (.bool true)) (.tmp 107), type := _, pos := _, after := _, guard := none }) (v := ?vra4) rfl (by kernel_rfl) (by kernel_rfl) (by kernel_rfl) (fun _ _ _ h => h) (Or.inl ⟨by rfl, ?hyra4⟩) (by assumption) ?restra4
        case hyra4 => (intro w hSw; (try dsimp only at hSw); go_simp; try with_reducible rfl)
        try simp only [Act.put, List.setIfInBounds_toArray, List.set_cons_zero, List.set_cons_succ]
        refine wpAnyH_take (i := 26) (oi := { dst := some 4, op := .assign (.tmp 108), type := _, pos := _, after := _, guard := none }) (v := ?vra5) rfl (by kernel_rfl) (by kernel_rfl) (by kernel_rfl) (fun _ _ _ h => h) (Or.inl ⟨by rfl, ?hyra5⟩) (by assumption) ?restra5
        case hyra5 => (intro w hSw; (try dsimp only at hSw); go_simp; try with_reducible rfl)
        try simp only [Act.put, List.setIfInBounds_toArray, List.set_cons_zero, List.set_cons_succ]
        refine wpAnyH_done (by kernel_rfl) ?_ _
        go_wp2_with fail
        go_ret
        exact ⟨rfl, Lib.hid ⟨_, _, _, _, _, _, HF.out, HWI.out, HB.out, HAL.out⟩⟩
end
end Go.Tb
namespace Go.Tb
open Go Go.RowKit Go.Proofs Go.Maps Go.Sp
theorem By.named {x : St} (h : By x) {b : Bs} (hb : Go.Sp.bytes b) : By (x.named b) := ⟨h.b, hb⟩
theorem z31 : Tryz.zeroCells31.size = 2049 := by kernel_rfl
structure NbP (X X1 X2 X3 : World) (nb : Nat) (x : St) (b0 : Bs) : Prop where
  t1 : X1.there nb 0 2049
  c2 : X2.cell? ⟨nb, 2048, none⟩ = some (.string (txt x.mt)) ∧ X2.frozen? ⟨nb, 2048, none⟩ = false
  b2 : Below X.heap.size X X2
  b3 : Below X.heap.size X X3
  r3 : SR X3 nb 0 (x.named b0)
  n3 : nb = X.heap.size
theorem nb_made (X : World) (x : St) (b0 : Bs) : NbP X (X.alloc (.cells Tryz.zeroCells31 31)) ((X.alloc (.cells Tryz.zeroCells31 31)).setCells X.heap.size 0 (stL x)) (((X.alloc (.cells Tryz.zeroCells31 31)).setCells X.heap.size 0 (stL x)).setCell ⟨X.heap.size, 2048, none⟩ (.string (txt b0))) X.heap.size x b0 := by
  have hk := (Go.MapKept.heap_alloc X (.cells Tryz.zeroCells31 31)).1
  have hb1 : Below X.heap.size X (X.alloc (.cells Tryz.zeroCells31 31)) := Below.alloc (Below.refl _ _) (Nat.le_refl _) _
  generalize X.alloc (.cells Tryz.zeroCells31 31) = X1 at *
  obtain ⟨c', g1, g2, g3⟩ := setCells_block (stL x) 0 X1 Tryz.zeroCells31 31 (0, 0) hk (by rw [stL_len, z31]; omega)
  have hb2 : Below X.heap.size X (X1.setCells X.heap.size 0 (stL x)) := ⟨(setCells_os _ _ _).1.trans hb1.os, (setCells_os _ _ _).2.1.trans hb1.tape, (setCells_os _ _ _).2.2.trans hb1.output, by rw [setCells_size]; exact hb1.size, fun k hk => (setCells_other _ _ _ _ (by omega)).trans (hb1.block k hk)⟩
  have hcell : ∀ j v, (stL x)[j]? = some v → (X1.setCells X.heap.size 0 (stL x)).cell? ⟨X.heap.size, j, none⟩ = some v := fun j v hj => by
    have := stL_lt hj
    have h := g3 j
    rw [if_pos (And.intro (Nat.zero_le _) (by rw [stL_len]; omega)), Nat.sub_zero, hj] at h
    simp [World.cell?, g1, h]
  have hfz : ∀ j, (X1.setCells X.heap.size 0 (stL x)).frozen? ⟨X.heap.size, j, none⟩ = false := fun j => by simp [World.frozen?, g1]
  generalize X1.setCells X.heap.size 0 (stL x) = X2 at *
  refine ⟨fun j hj => ⟨?_, ?_⟩, ⟨hcell _ _ (stL_mt x), hfz _⟩, hb2, ?_, ⟨fun j v hj => ?_⟩, rfl⟩
  · have h1 : 0 + j < Tryz.zeroCells31.size := by rw [z31]; omega
    rw [show X1.cell? ⟨X.heap.size, 0 + j, none⟩ = Tryz.zeroCells31[0 + j]? by simp [World.cell?, hk], Array.getElem?_eq_getElem h1]; rfl
  · simp [World.frozen?, hk]
  · exact ⟨hb2.os, hb2.tape, hb2.output, by simpa [World.setCell] using hb2.size, fun k hk => (heap_setCell_other _ _ _ _ (show k ≠ X.heap.size by omega)).trans (hb2.block k hk)⟩
  · have hl := stL_lt hj
    rw [Nat.zero_add]
    by_cases e : j = 2048
    · subst e
      rw [stL_mt] at hj
      injection hj with hj
      subst hj
      exact World.cell?_setCell_same _ _ _ (hcell _ _ (stL_mt x))
    · rw [World.cell?_setCell_other _ _ _ _ (fun h => e (by injection h with _ h; exact h.symm))]
      refine hcell j v ?_
      rw [stL_get] at hj ⊢
      by_cases h1 : j < 1024
      · rw [if_pos h1] at hj ⊢; exact hj
      · rw [if_neg h1] at hj ⊢
        by_cases h2 : j < 2048
        · rw [if_pos h2] at hj ⊢; exact hj
        · omega
section
variable {w W : World} {db sb wb : Nat} {s : Sp} {now last wanted : St} {torn : Bool} {N k : Nat} {p t : Int} {ba ka : Option Addr} {bn bc kn kc : Nat}
theorem world_commit (h : WL w W db sb wb s now last wanted torn) (hI : WI N k s now last wanted torn) (hk : k ≤ 100) (hB : By now ∧ By last ∧ By wanted) {b0 : Bs} (hbr : ∀ W', Below w.heap.size w W' → RV W' (.slice ba bn bc) b0) (hbl : b0.length ≤ 1000000) :
    Calls Tryz.prog 36 #[.pointer (some ⟨wb, 0, none⟩), opV 3 p (.slice ba bn bc) (.slice ka kn kc) t] W (DoesW w db wb N k s.c.d.Al) := by
  have hbd : s.Bd 5000 := ⟨by have := hI.clk; omega, by have := hI.P; omega⟩
  have hN : 2 ≤ s.c.d.N ∧ s.c.d.N ≤ 4096 := by have := hI.hN; have := hI.hN2; omega
  obtain ⟨W1, hW1⟩ : ∃ W1, W.alloc (.cells #[.int .i64 3, .int .i64 p, .slice ba bn bc, .slice ka kn kc, .int .i64 t] 73) = W1 := ⟨_, rfl⟩
  have hb1 : Below W.heap.size W W1 := hW1 ▸ Below.alloc (Below.refl _ _) (Nat.le_refl _) _
  have hO1 : W1.heap[W.heap.size]? = some (.cells #[.int .i64 3, .int .i64 p, .slice ba bn bc, .slice ka kn kc, .int .i64 t] 73 (0, 0)) := hW1 ▸ (Go.MapKept.heap_alloc W _).1
  have P1 : PrP w W1 db sb wb W.heap.size s now last wanted torn 3 p t (.slice ba bn bc) (.slice ka kn kc) := by
    obtain ⟨γ, g, hs, hw⟩ := h
    have st : Step γ (fun _ => false) W W1 := Step.below hb1 g.2.1
    exact ⟨⟨γ, ⟨g.1, Nat.le_trans g.2.1 st.size, g.2.2.trans (g.1 ▸ st.be)⟩, hs.below hb1 g.2.1, hw.keep st rfl, Tag.new g.2.1 hO1⟩, hO1⟩
  have DO := Lib.hid (fun (γ : Gh) (W' : World) (hs : SpV γ W' sb db s) (h0 : γ.lim ≤ W'.heap.size) (hbe : Below w.heap.size w W') => show Calls Tryz.prog 46 #[.pointer (some ⟨sb, 0, none⟩), opV 3 p (.slice ba bn bc) (.slice ka kn kc) t] W' (DoesP γ W' sb db (([], false, (s.commit b0).1), (s.commit b0).2)) from does_commit hs hI.ok hbd h0 hN (hbr _ hbe) hbl)
  unfold opV at *
  obtain ⟨c0, c1, ⟨o0, o1, o2, o3, o4⟩, cd⟩ := P1.cells
  have DD := dead_ok cd
  have HP := Lib.hid P1
  have HW := Lib.hid hW1
  have HI := Lib.hid hI
  have HB := Lib.hid hB
  have hbb : Go.Sp.bytes b0 := (hbr w (Below.refl _ _)).byte
  have HBF := Lib.hid (hB.1.named hbb)
  have HBR := Lib.hid hbr
  obtain ⟨bs, hbs⟩ : ∃ bs : Bs, [] = bs := ⟨_, rfl⟩
  obtain ⟨m, hm⟩ : ∃ m, bs.length = m := ⟨_, rfl⟩
  have HLN : Hid (bs.length = m) := Lib.hid hm
  rw [hbs] at DO
  have HQ := Lib.hid (hI.commit hbb)
  have HAL : Hid (s.c.d.Al → (s.commit b0).2.c.d.Al) := Lib.hid (fun h => Sp.commit_k h b0)
  generalize (s.commit b0).2 = s2 at *
  generalize (s.commit b0).1 = en at *
  clear hm
  clear hbb hbr
  have DOA : Hid (Calls Tryz.prog 46 #[.pointer (some ⟨sb, 0, none⟩), .agg #[.int .i64 3, .int .i64 p, .slice ba bn bc, .slice ka kn kc, .int .i64 t]] W1.drew (fun e w' => ∃ a c, e = .returned (.agg #[.slice a m c, .bool false, .int .i64 (en : Int)]) ∧ Hid ((∃ γ' : Gh, (γ'.B = w.heap.size ∧ γ'.lim ≤ w'.heap.size ∧ Below w.heap.size w w') ∧ SpV γ' w' sb db s2 ∧ WB γ' w' wb db sb now last wanted torn ∧ w'.heap[W.heap.size]? = some (.cells #[.int .i64 3, .int .i64 p, .slice ba bn bc, .slice ka kn kc, .int .i64 t] 73 (0, 0)) ∧ RV w' (.slice a m c) bs) ∧ True))) := Lib.hid (by
    obtain ⟨⟨γ, g, hs, hw, ht⟩, ho⟩ := HP.out.below (Below.drew (Below.refl _ _))
    refine (DO.out γ _ hs g.2.1 g.2.2).mono ?_
    rintro e w' ⟨a, c, h1, h2⟩
    obtain ⟨γ', f1, f2, f3, f4, f5, f6⟩ := PrP.after g hw ht ho h2.out
    exact ⟨a, c, HLN.out ▸ h1, Lib.hid ⟨⟨γ', f1, f2, f3, f4, HLN.out ▸ f5⟩, trivial⟩⟩)
  have DOB : Hid (Calls Tryz.prog 46 #[.pointer (some ⟨sb, 0, none⟩), .agg #[.int .i64 3, .int .i64 p, .slice ba bn bc, .slice ka kn kc, .int .i64 t]] (W1.drew.alloc (.cells #[.slice none 0 0, .bool false, .int .i64 0] 79)) (fun e w' => ∃ a c, e = .returned (.agg #[.slice a m c, .bool false, .int .i64 (en : Int)]) ∧ Hid ((∃ γ' : Gh, (γ'.B = w.heap.size ∧ γ'.lim ≤ w'.heap.size ∧ Below w.heap.size w w') ∧ SpV γ' w' sb db s2 ∧ WB γ' w' wb db sb now last wanted torn ∧ w'.heap[W.heap.size]? = some (.cells #[.int .i64 3, .int .i64 p, .slice ba bn bc, .slice ka kn kc, .int .i64 t] 73 (0, 0)) ∧ RV w' (.slice a m c) bs ∧ Tag γ' w' W1.heap.size 33) ∧ w'.heap[W1.heap.size]? = some (.cells z79 79 (0, 0))))) := Lib.hid (by
    obtain ⟨γ, g, hs, hw, ht, hT⟩ := (HP.out.below (Below.drew (Below.refl _ _))).told (C := z79)
    have hO2 := (Below.heap_alloc W1.drew (.cells z79 79) _ (Array.getElem?_eq_some_iff.1 HP.out.op).1).trans HP.out.op
    have hz := (Go.MapKept.heap_alloc W1.drew (.cells z79 79)).1
    have lz := (Array.getElem?_eq_some_iff.1 hz).1
    refine (DO.out γ _ hs g.2.1 g.2.2).mono ?_
    rintro e w' ⟨a, c, h1, h2⟩
    obtain ⟨γ', f1, f2, f3, f4, f5, f6⟩ := PrP.after g hw ht hO2 h2.out
    exact ⟨a, c, HLN.out ▸ h1, Lib.hid ⟨⟨γ', f1, f2, f3, f4, HLN.out ▸ f5, (f6 _ lz hT).2⟩, (f6 _ lz hT).1.trans hz⟩⟩)
  have HSP : Hid (∀ W', Below W1.heap.size W1 W' → W'.cell? ⟨wb, 1, none⟩ = some (.pointer (some ⟨sb, 0, none⟩)) ∧ W'.cell? ⟨W.heap.size, 0, none⟩ = some (.int .i64 3) ∧ W'.cell? ⟨W.heap.size, 1, none⟩ = some (.int .i64 p) ∧ W'.cell? ⟨W.heap.size, 2, none⟩ = some (.slice ba bn bc) ∧ W'.cell? ⟨W.heap.size, 3, none⟩ = some (.slice ka kn kc) ∧ W'.cell? ⟨W.heap.size, 4, none⟩ = some (.int .i64 t)) := Lib.hid fun W' hb => ⟨cells_below hb _ _ c1, cells_below hb _ _ o0, cells_below hb _ _ o1, cells_below hb _ _ o2, cells_below hb _ _ o3, cells_below hb _ _ o4⟩
  have l1 := cell_lt' c0
  have HLT : Hid (W.heap.size < W1.heap.size ∧ wb < W.heap.size) := Lib.hid ⟨cell_lt' o0, by obtain ⟨γ, g, hs, hw⟩ := h; exact hw.lt⟩
  clear hW1 hb1 hO1 P1 hI hB h DO
  go_enter Tryz.func36, Tryz.ntmps36
  go_upto_region 1 with fail
  rw [HW.out]
  go_upto_region 7 with (go_at_call 75; refine DD.mono ?_; rintro e w4 ⟨rfl, hw4⟩; subst w4)
  clear DD
  apply cut_tail (fun T a c X => Hid (AnP w X db sb wb W.heap.size T s2 now last wanted torn 3 p t (.slice ba bn bc) (.slice ka kn kc) (.slice a m c) false en bs))
  · intro TAIL
    refine wp_region_held_drew (S := (fun W' => W'.cell? ⟨wb, 1, none⟩ = some (.pointer (some ⟨sb, 0, none⟩)) ∧ W'.cell? ⟨W.heap.size, 0, none⟩ = some (.int .i64 3) ∧ W'.cell? ⟨W.heap.size, 1, none⟩ = some (.int .i64 p) ∧ W'.cell? ⟨W.heap.size, 2, none⟩ = some (.slice ba bn bc) ∧ W'.cell? ⟨W.heap.size, 3, none⟩ = some (.slice ka kn kc) ∧ W'.cell? ⟨W.heap.size, 4, none⟩ = some (.int .i64 t))) (by kernel_rfl) ?_ (fun hHeld => ?_)
    · (with_reducible refine HSP.out _ ?_; (repeat (first | with_reducible exact Below.refl _ _ | with_reducible assumption | with_reducible refine Below.drew ?_ | with_reducible refine Below.allocs ?_ _)); done)
    refine wpAnyH_take (i := 0) (oi := { dst := some 30, op := .move (.tmp 0), type := _, pos := _, after := _, guard := none }) (v := ?va1) rfl (by kernel_rfl) (by kernel_rfl) (by kernel_rfl) (fun _ _ _ h => h) (Or.inl ⟨by rfl, ?hya1⟩) (by assumption) ?resta1
    case hya1 => (intro w hSw; (try dsimp only at hSw); go_simp; try with_reducible rfl)
    try simp only [Act.put, List.setIfInBounds_toArray, List.set_cons_zero, List.set_cons_succ]
    refine wpAnyH_take (i := 1) (oi := { dst := some 31, op := .nilCheck (.tmp 30), type := _, pos := _, after := _, guard := none }) (v := ?va2) rfl (by kernel_rfl) (by kernel_rfl) (by kernel_rfl) (fun _ _ _ h => h) (Or.inl ⟨by rfl, ?hya2⟩) (by assumption) ?resta2
    case hya2 => (intro w hSw; (try dsimp only at hSw); go_simp; try with_reducible rfl)
    try simp only [Act.put, List.setIfInBounds_toArray, List.set_cons_zero, List.set_cons_succ]
    refine wpAnyH_take (i := 2) (oi := { dst := some 32, op := .fieldAddr 33 (.tmp 31) 1, type := _, pos := _, after := _, guard := none }) (v := ?va3) rfl (by kernel_rfl) (by kernel_rfl) (by kernel_rfl) (fun _ _ _ h => h) (Or.inl ⟨by rfl, ?hya3⟩) (by assumption) ?resta3
    case hya3 => (intro w hSw; (try dsimp only at hSw); go_simp; try with_reducible rfl)
    try simp only [Act.put, List.setIfInBounds_toArray, List.set_cons_zero, List.set_cons_succ]
    refine wpAnyH_take (i := 3) (oi := { dst := some 33, op := .load 27 (.tmp 32), type := _, pos := _, after := _, guard := none }) (v := ?va4) rfl (by kernel_rfl) (by kernel_rfl) (by kernel_rfl) (fun _ _ _ h => h) (Or.inl ⟨by rfl, ?hya4⟩) (by assumption) ?resta4
    case hya4 => (intro w hSw; (try dsimp only at hSw); go_simp; try with_reducible rfl)
    try simp only [Act.put, List.setIfInBounds_toArray, List.set_cons_zero, List.set_cons_succ]
    refine wpAnyH_take (i := 4) (oi := { dst := some 34, op := .load 73 (.tmp 3), type := _, pos := _, after := _, guard := none }) (v := ?va5) rfl (by kernel_rfl) (by kernel_rfl) (by kernel_rfl) (fun _ _ _ h => h) (Or.inl ⟨by rfl, ?hya5⟩) (by assumption) ?resta5
    case hya5 => (intro w hSw; (try dsimp only at hSw); go_simp; try with_reducible rfl)
    try simp only [Act.put, List.setIfInBounds_toArray, List.set_cons_zero, List.set_cons_succ]
    refine wpAnyH_ready (rs := [5, 6]) (by kernel_rfl) (by simp) ?_
    refine AllReadyH.cons (o := { dst := some 35, op := .call { callee := .value (.func 46), args := #[(.tmp 33), (.tmp 34)], argTypes := #[27, 73] }, type := _, pos := _, after := _, guard := none }) rfl (fun K hK => ?_) (AllReadyH.cons (o := { dst := some 6, op := .alloc 79, type := _, pos := _, after := _, guard := none }) rfl (fun K hK => ?_) AllReadyH.nil)
    · go_simp
      go_at_call 46
      refine (DOA.out).mono ?_
      rintro e w5 ⟨a5, c5, rfl, hq5⟩
      have HSA : Hid (∀ W', Below w5.heap.size w5 W' → W'.cell? ⟨wb, 1, none⟩ = some (.pointer (some ⟨sb, 0, none⟩)) ∧ W'.cell? ⟨W.heap.size, 0, none⟩ = some (.int .i64 3) ∧ W'.cell? ⟨W.heap.size, 1, none⟩ = some (.int .i64 p) ∧ W'.cell? ⟨W.heap.size, 2, none⟩ = some (.slice ba bn bc) ∧ W'.cell? ⟨W.heap.size, 3, none⟩ = some (.slice ka kn kc) ∧ W'.cell? ⟨W.heap.size, 4, none⟩ = some (.int .i64 t)) := Lib.hid fun W' hb => (by
        obtain ⟨⟨γ', g1, g2, g3, g4, g5⟩, g6⟩ := hq5.out
        obtain ⟨o0, o1, o2, o3, o4, lO⟩ := op5 g4
        exact ⟨cells_below hb _ _ g3.c1, cells_below hb _ _ o0, cells_below hb _ _ o1, cells_below hb _ _ o2, cells_below hb _ _ o3, cells_below hb _ _ o4⟩)
      refine hK.out _ _ ?_ (fun hHeld => ?_)
      · exact HSA.out _ (Below.refl _ _)
      clear hK K
      try simp only [Act.put, List.setIfInBounds_toArray, List.set_cons_zero, List.set_cons_succ]
      refine wpAnyH_ready (rs := [6]) (by kernel_rfl) (by simp) ?_
      refine AllReadyH.cons (o := { dst := some 6, op := .alloc 79, type := _, pos := _, after := _, guard := none }) rfl (fun K hK => ?_) AllReadyH.nil
      go_simp
      refine hK.out _ _ ?_ (fun hHeld => ?_)
      · (with_reducible refine HSA.out _ ?_; (repeat (first | with_reducible exact Below.refl _ _ | with_reducible assumption | with_reducible refine Below.drew ?_ | with_reducible refine Below.allocs ?_ _)); done)
      clear hK K
      try simp only [Act.put, List.setIfInBounds_toArray, List.set_cons_zero, List.set_cons_succ]
      refine wpAnyH_ready (rs := [7]) (by kernel_rfl) (by simp) ?_
      refine AllReadyH.cons (o := { dst := none, op := .store 79 (.tmp 6) (.tmp 35), type := _, pos := _, after := _, guard := none }) rfl (fun K hK => ?_) AllReadyH.nil
      go_simp
      refine hK.out _ _ ?_ (fun hHeld => ?_)
      · (with_reducible refine HSA.out _ ?_; (repeat (first | with_reducible exact Below.refl _ _ | with_reducible assumption | with_reducible refine Below.drew ?_ | with_reducible refine Below.allocs ?_ _)); done)
      clear hK K
      try simp only [Act.put, List.setIfInBounds_toArray, List.set_cons_zero, List.set_cons_succ]
      refine wpAnyH_done (by kernel_rfl) ?_ _
      refine take_last ?_
      intro X hX
      generalize hT : w5.heap.size = T
      refine TAIL T a5 c5 X (Lib.hid ?_)
      obtain ⟨⟨γ', g1, g2, g3, g4, g5⟩, g6⟩ := hq5.out
      have hb : Below w5.heap.size w5 X := hX ▸ Below.alloc (Below.refl _ _) (Nat.le_refl _) _
      have st : Step γ' (fun _ => false) w5 X := Step.below hb g1.2.1
      have lO := (Array.getElem?_eq_some_iff.1 g4).1
      exact ⟨⟨γ', ⟨g1.1, Nat.le_trans g1.2.1 st.size, g1.2.2.trans (g1.1 ▸ st.be)⟩, g2.below hb g1.2.1, g3.keep st rfl⟩, (hb.block _ lO).trans g4, by rw [← hX, ← hT]; exact (Go.MapKept.heap_alloc w5 _).1, g5.keep hb⟩
    · go_simp
      refine hK.out _ _ ?_ (fun hHeld => ?_)
      · (with_reducible refine HSP.out _ ?_; (repeat (first | with_reducible exact Below.refl _ _ | with_reducible assumption | with_reducible refine Below.drew ?_ | with_reducible refine Below.allocs ?_ _)); done)
      clear hK K
      try simp only [Act.put, List.setIfInBounds_toArray, List.set_cons_zero, List.set_cons_succ]
      refine wpAnyH_ready (rs := [5]) (by kernel_rfl) (by simp) ?_
      refine AllReadyH.cons (o := { dst := some 35, op := .call { callee := .value (.func 46), args := #[(.tmp 33), (.tmp 34)], argTypes := #[27, 73] }, type := _, pos := _, after := _, guard := none }) rfl (fun K hK => ?_) AllReadyH.nil
      go_simp
      go_at_call 46
      refine (DOB.out).mono ?_
      rintro e w5 ⟨a5, c5, rfl, hq5⟩
      have HSA : Hid (∀ W', Below w5.heap.size w5 W' → W'.cell? ⟨wb, 1, none⟩ = some (.pointer (some ⟨sb, 0, none⟩)) ∧ W'.cell? ⟨W.heap.size, 0, none⟩ = some (.int .i64 3) ∧ W'.cell? ⟨W.heap.size, 1, none⟩ = some (.int .i64 p) ∧ W'.cell? ⟨W.heap.size, 2, none⟩ = some (.slice ba bn bc) ∧ W'.cell? ⟨W.heap.size, 3, none⟩ = some (.slice ka kn kc) ∧ W'.cell? ⟨W.heap.size, 4, none⟩ = some (.int .i64 t)) := Lib.hid fun W' hb => (by
        obtain ⟨⟨γ', g1, g2, g3, g4, g5⟩, g6⟩ := hq5.out
        obtain ⟨o0, o1, o2, o3, o4, lO⟩ := op5 g4
        exact ⟨cells_below hb _ _ g3.c1, cells_below hb _ _ o0, cells_below hb _ _ o1, cells_below hb _ _ o2, cells_below hb _ _ o3, cells_below hb _ _ o4⟩)
      obtain ⟨y0, y1, y2, zy0, zy1, zy2, lB⟩ := z79_cells hq5.out.2
      refine hK.out _ _ ?_ (fun hHeld => ?_)
      · (obtain ⟨⟨γ', g1, g2, g3, g4, g5⟩, g6⟩ := hq5.out; obtain ⟨o0, o1, o2, o3, o4, lO⟩ := op5 g4; exact ⟨g3.c1, o0, o1, o2, o3, o4⟩)
      clear hK K
      try simp only [Act.put, List.setIfInBounds_toArray, List.set_cons_zero, List.set_cons_succ]
      refine wpAnyH_ready (rs := [7]) (by kernel_rfl) (by simp) ?_
      refine AllReadyH.cons (o := { dst := none, op := .store 79 (.tmp 6) (.tmp 35), type := _, pos := _, after := _, guard := none }) rfl (fun K hK => ?_) AllReadyH.nil
      go_simp
      refine hK.out _ _ ?_ (fun hHeld => ?_)
      · (obtain ⟨⟨γ', g1, g2, g3, g4, g5⟩, g6⟩ := hq5.out; have hO := (heap3 w5 W1.heap.size (.slice a5 m c5) (.bool false) (.int .i64 (en : Int)) (j := W.heap.size) (by have := HLT.out.1; omega)).trans g4; have hW := heap3 w5 W1.heap.size (.slice a5 m c5) (.bool false) (.int .i64 (en : Int)) (j := wb) (by have := HLT.out; omega); obtain ⟨o0, o1, o2, o3, o4, lO⟩ := op5 hO; exact ⟨(cell_of_heap (a := ⟨wb, 1, none⟩) hW).1.trans g3.c1, o0, o1, o2, o3, o4⟩)
      clear hK K
      try simp only [Act.put, List.setIfInBounds_toArray, List.set_cons_zero, List.set_cons_succ]
      refine wpAnyH_done (by kernel_rfl) ?_ _
      refine take_last ?_
      intro X hX
      have HLT2 : Hid (wb < W1.heap.size ∧ W.heap.size ≠ W1.heap.size) := Lib.hid (by have := HLT.out; omega)
      clear y0 y1 y2 zy0 zy1 zy2 lB
      generalize hT : W1.heap.size = T at hX hq5 HLT2 ⊢
      refine TAIL T a5 c5 X (Lib.hid ?_)
      obtain ⟨⟨γ', g1, g2, g3, g4, g5, g8⟩, g6⟩ := hq5.out
      exact AnP.laid g1 g2 g3 g4 g5 g6 g8 HLT2.out.1 HLT2.out.2 hX
  · intro T a c X HA
    obtain ⟨t0, t1, t2, lT⟩ := c79 HA.out.tl
    obtain ⟨o0, o1, o2, o3, o4, lO⟩ := op5 HA.out.op
    clear HP HSP DOA DOB HW c0 c1 cd l1 hN hbd
    cases hd : s.c.d.dead with
    | true =>
      obtain rfl := HQ.out.1 hd
      have HWI := Lib.hid (HQ.out.2.2 hd)
      go_wp2_with fail
      go_ret
      exact ⟨rfl, Lib.hid ⟨_, _, _, _, _, _, HA.out.wl, HWI.out, HB.out, HAL.out⟩⟩
    | false =>
      have HWI := Lib.hid (HQ.out.2.1 hd)
      clear HQ
      obtain ⟨γ, g, hs, hw⟩ := HA.out.wl
      have L0 := Lib.hid hw.rn
      have hTw : T ≠ wb := fun e => by
        obtain ⟨cc, h1, _⟩ := hw.hk
        have h2 := HA.out.tl
        rw [e, h1] at h2
        injection h2 with h2
        injection h2 with _ h2
        cases h2
      have lw := hw.lt
      have NB := nb_made X now b0
      have hb3 := NB.b3
      have st3 : Step γ (fun _ => false) X _ := Step.below hb3 g.2.1
      have hw3 := hw.keep st3 rfl
      have hs3 := hs.below hb3 g.2.1
      have g3 : γ.B = w.heap.size ∧ γ.lim ≤ (((X.alloc (.cells Tryz.zeroCells31 31)).setCells X.heap.size 0 (stL now)).setCell ⟨X.heap.size, 2048, none⟩ (.string (txt b0))).heap.size ∧ Below w.heap.size w (((X.alloc (.cells Tryz.zeroCells31 31)).setCells X.heap.size 0 (stL now)).setCell ⟨X.heap.size, 2048, none⟩ (.string (txt b0))) := ⟨g.1, Nat.le_trans g.2.1 hb3.size, g.2.2.trans (hb3.mono g.2.2.size)⟩
      obtain ⟨nb, hnb⟩ : ∃ nb, X.heap.size = nb := ⟨_, rfl⟩
      rw [hnb] at NB hw3 hs3 g3 hb3
      have HNB := Lib.hid hnb
      have HNB' := hnb
      have S1 := Lib.hid NB.t1
      obtain ⟨X1, hX1⟩ : ∃ X1, X.alloc (.cells Tryz.zeroCells31 31) = X1 := ⟨_, rfl⟩
      rw [hX1] at NB hw3 hs3 g3 hb3
      obtain ⟨X2, hX2⟩ : ∃ X2, X1.setCells nb 0 (stL now) = X2 := ⟨_, rfl⟩
      rw [hX2] at NB hw3 hs3 g3 hb3
      obtain ⟨X3, hX3⟩ : ∃ X3, X2.setCell ⟨nb, 2048, none⟩ (.string (txt b0)) = X3 := ⟨_, rfl⟩
      rw [hX3] at NB hw3 hs3 g3 hb3
      have HX1 := Lib.hid hX1
      have HX2 := Lib.hid hX2
      have HX3 := Lib.hid hX3
      have b2 := NB.b2
      have o2' := cells_below b2 _ _ o2
      have cv2 := conv_rv (HBR.out X2 (g.2.2.trans (b2.mono g.2.2.size)))
      obtain ⟨c2a, c2z⟩ := NB.c2
      have lnb := cell_lt' c2a
      have t23 := cells_below (hnb ▸ hb3 : Below X.heap.size X X3) _ _ t2
      have lT3 := cell_lt' t23
      have R3 := Lib.hid NB.r3
      have hnw : nb ≠ wb := fun e => by have h1 := hnb; have h2 := lw; omega
      clear NB hs hw hX1 hX2 hX3 hnb o1 o3 o4 st3
      by_cases he : en = 0
      · subst he
        go_upto_region 26 with (first | ((with_reducible refine wpList_load31 (x := now) (o := 2) (wb := wb) ?_ ?_ ?_ ?_); (with_reducible rfl); (exact ⟨_, rfl, rfl⟩); (exact L0.out)) | ((with_reducible refine wpList_store31 (x := now) (o := 0) (wb := nb) ?_ ?_ ?_ ?_); (with_reducible rfl); (exact ⟨_, _, rfl, rfl, rfl⟩); (exact S1.out)))
        rw [HX1.out, HX2.out]
        go_upto_region 27 with fail
        rw [HX3.out]
        clear o2' cv2 c2a c2z L0 S1 HX1 HX2 HX3 b2
        have HWI0 : Hid (WI N (k + 1) s2 (now.named b0) (now.named b0) wanted torn) := Lib.hid (by have h := HWI.out; rwa [if_pos rfl, if_pos rfl, if_neg (by decide), if_neg (by decide)] at h)
        have S2 := Lib.hid (hw3.there (o := 2051) (n := 2049) (by omega))
        obtain ⟨hw4, st4⟩ := hw3.setLast (now.named b0)
        have hs4 := hs3.client (st4.mono clS33)
        have g4 := And.intro g3.1 (And.intro (Nat.le_trans g3.2.1 st4.size) (g3.2.2.trans (g3.1 ▸ st4.be)))
        have R4 : Hid (SR (X3.setCells wb 2051 (stL (now.named b0))) nb 0 (now.named b0)) := Lib.hid ⟨World.rangeAt_setCells_apart R3.out.r wb 2051 _ (.inl hnw)⟩
        have h4 : (X3.setCells wb 2051 (stL (now.named b0))).heap[T]? = X3.heap[T]? := setCells_other _ _ _ _ hTw
        have lw3 := hw3.lt
        obtain ⟨X4, hX4⟩ : ∃ X4, X3.setCells wb 2051 (stL (now.named b0)) = X4 := ⟨_, rfl⟩
        rw [hX4] at hw4 st4 hs4 g4 R4 h4
        have HX4 := Lib.hid hX4
        have S3 := Lib.hid (hw4.there (o := 2) (n := 2049) (by omega))
        obtain ⟨hw5, st5⟩ := hw4.setNow (now.named b0)
        have hs5 := hs4.client (st5.mono clS33)
        have g5 := And.intro g4.1 (And.intro (Nat.le_trans g4.2.1 st5.size) (g4.2.2.trans (g4.1 ▸ st5.be)))
        have h5 : (X4.setCells wb 2 (stL (now.named b0))).heap[T]? = X4.heap[T]? := setCells_other _ _ _ _ hTw
        have lw4 := hw4.lt
        obtain ⟨X5, hX5⟩ : ∃ X5, X4.setCells wb 2 (stL (now.named b0)) = X5 := ⟨_, rfl⟩
        rw [hX5] at hw5 st5 hs5 g5 h5
        have HX5 := Lib.hid hX5
        have t25 := (cell_of_heap (a := ⟨T, 2, none⟩) (h5.trans h4)).1.trans t23
        have lT5 := cell_lt' t25
        have HFN : Hid (WL w X5 db sb wb s2 (now.named b0) (now.named b0) wanted torn) := Lib.hid ⟨γ, g5, hs5, hw5⟩
        clear hw3 hs3 g3 hw4 st4 hs4 g4 h4 hX4 hw5 st5 hs5 g5 h5 hX5
        go_upto_region 29 with (first | ((with_reducible refine wpList_load31 (x := now.named b0) (o := 0) (wb := nb) ?_ ?_ ?_ ?_); (with_reducible rfl); (exact ⟨_, rfl, rfl⟩); (exact R3.out)) | ((with_reducible refine wpList_store31 (x := now.named b0) (o := 2051) (wb := wb) ?_ ?_ ?_ ?_); (with_reducible rfl); (exact ⟨_, _, rfl, rfl, rfl⟩); (exact S2.out)))
        rw [HX4.out]
        go_upto_region 30 with (first | ((with_reducible refine wpList_load31 (x := now.named b0) (o := 0) (wb := nb) ?_ ?_ ?_ ?_); (with_reducible rfl); (exact ⟨_, rfl, rfl⟩); (exact R4.out)) | ((with_reducible refine wpList_store31 (x := now.named b0) (o := 2) (wb := wb) ?_ ?_ ?_ ?_); (with_reducible rfl); (exact ⟨_, _, rfl, rfl, rfl⟩); (exact S3.out)))
        rw [HX5.out]
        go_wp2_with fail
        go_ret
        exact ⟨rfl, Lib.hid ⟨_, _, _, _, _, _, HFN.out, HWI0.out, ⟨HBF.out, HBF.out, HB.out.2.2⟩, HAL.out⟩⟩
      · by_cases h4 : en = 4
        · subst h4
          go_upto_region 26 with (first | ((with_reducible refine wpList_load31 (x := now) (o := 2) (wb := wb) ?_ ?_ ?_ ?_); (with_reducible rfl); (exact ⟨_, rfl, rfl⟩); (exact L0.out)) | ((with_reducible refine wpList_store31 (x := now) (o := 0) (wb := nb) ?_ ?_ ?_ ?_); (with_reducible rfl); (exact ⟨_, _, rfl, rfl, rfl⟩); (exact S1.out)))
          rw [HX1.out, HX2.out]
          go_upto_region 27 with fail
          rw [HX3.out]
          clear o2' cv2 c2a c2z L0 S1 HX1 HX2 HX3 b2
          have HWI0 : Hid (WI N (k + 1) s2 now last (now.named b0) true) := Lib.hid (by have h := HWI.out; rwa [if_neg (by decide), if_neg (by decide), if_pos rfl, if_pos rfl] at h)
          have S2 := Lib.hid (hw3.there (o := 4100) (n := 2049) (by omega))
          obtain ⟨hw4, st4⟩ := hw3.setWanted (now.named b0)
          have hs4 := hs3.client (st4.mono clS33)
          have g4 := And.intro g3.1 (And.intro (Nat.le_trans g3.2.1 st4.size) (g3.2.2.trans (g3.1 ▸ st4.be)))
          have lw3 := hw3.lt
          obtain ⟨X4, hX4⟩ : ∃ X4, X3.setCells wb 4100 (stL (now.named b0)) = X4 := ⟨_, rfl⟩
          rw [hX4] at hw4 st4 hs4 g4
          have HX4 := Lib.hid hX4
          have ct := hw4.ct
          have zt := hw4.z 6149
          have lw4 := hw4.lt
          obtain ⟨hw5, st5⟩ := hw4.set (o := 6149) (by omega) (v := .bool true) (fun c hc => hc.setT true)
          have hs5 := hs4.client (st5.mono clS33)
          have g5 := And.intro g4.1 (And.intro (Nat.le_trans g4.2.1 st5.size) (g4.2.2.trans (g4.1 ▸ st5.be)))
          have HFN : Hid (WL w (X4.setCell ⟨wb, 6149, none⟩ (.bool true)) db sb wb s2 now last (now.named b0) true) := Lib.hid ⟨γ, g5, hs5, hw5⟩
          clear hw3 hs3 g3 hw4 st4 hs4 g4 hX4 hw5 st5 hs5 g5
          go_upto_region 32 with (first | ((with_reducible refine wpList_load31 (x := now.named b0) (o := 0) (wb := nb) ?_ ?_ ?_ ?_); (with_reducible rfl); (exact ⟨_, rfl, rfl⟩); (exact R3.out)) | ((with_reducible refine wpList_store31 (x := now.named b0) (o := 4100) (wb := wb) ?_ ?_ ?_ ?_); (with_reducible rfl); (exact ⟨_, _, rfl, rfl, rfl⟩); (exact S2.out)))
          rw [HX4.out]
          go_wp2_with fail
          go_ret
          exact ⟨rfl, Lib.hid ⟨_, _, _, _, _, _, HFN.out, HWI0.out, ⟨HB.out.1, HB.out.2.1, HBF.out⟩, HAL.out⟩⟩
        · have i5 : ¬ (en : Int) = 0 := by omega
          have i6 : ((en : Int) == 0) = false := by rw [beq_eq_false_iff_ne]; exact i5
          have i7 : ¬ (en : Int) = 4 := by omega
          have i8 : ((en : Int) == 4) = false := by rw [beq_eq_false_iff_ne]; exact i7
          go_upto_region 26 with (first | ((with_reducible refine wpList_load31 (x := now) (o := 2) (wb := wb) ?_ ?_ ?_ ?_); (with_reducible rfl); (exact ⟨_, rfl, rfl⟩); (exact L0.out)) | ((with_reducible refine wpList_store31 (x := now) (o := 0) (wb := nb) ?_ ?_ ?_ ?_); (with_reducible rfl); (exact ⟨_, _, rfl, rfl, rfl⟩); (exact S1.out)))
          rw [HX1.out, HX2.out]
          go_upto_region 27 with fail
          rw [HX3.out]
          clear o2' cv2 c2a c2z L0 S1 HX1 HX2 HX3 b2
          have HWI0 : Hid (WI N (k + 1) s2 now last wanted torn) := Lib.hid (by have h := HWI.out; rwa [if_neg he, if_neg he, if_neg h4, if_neg h4] at h)
          have HFN : Hid (WL w X3 db sb wb s2 now last wanted torn) := Lib.hid ⟨γ, g3, hs3, hw3⟩
          clear hw3 hs3 g3
          go_wp2_with fail
          go_ret
          exact ⟨rfl, Lib.hid ⟨_, _, _, _, _, _, HFN.out, HWI0.out, HB.out, HAL.out⟩⟩
end
end Go.Tb
