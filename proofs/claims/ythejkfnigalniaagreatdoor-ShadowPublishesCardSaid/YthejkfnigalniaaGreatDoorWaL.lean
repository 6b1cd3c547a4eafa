/- A part of a proof about the shadow space: what a function of the program answers, walked by hand. Each theorem says its own conditions. -/
import Derived.Test.YthejkfnigalniaaGreatDoorWaK
set_option linter.unusedVariables false
set_option linter.unusedSimpArgs false
set_option maxRecDepth 100000
set_option maxHeartbeats 800000
namespace Go.Tb
open Go Go.RowKit Go.Proofs Go.Maps Go.Sp
def Gh.addK (γ : Gh) (n m g : Nat) (K : TypeId) (h0 : γ.lim ≤ n) (hn : n ≤ m) : Gh where
  B := γ.B
  lim := m
  told := fun k => if n ≤ k ∧ k < m ∧ k = g then some K else γ.told k
  hB := Nat.le_trans γ.hB (Nat.le_trans h0 hn)
  ht := fun k T h => by
    split at h
    · omega
    · have := γ.ht k T h; omega
theorem Gh.addK_le {γ : Gh} {w : World} {m g : Nat} {K : TypeId} (h0 : γ.lim ≤ w.heap.size) (hn : w.heap.size ≤ m) : Gh.Le w γ (γ.addK w.heap.size m g K h0 hn) := ⟨rfl, fun k hk => if_neg (by omega)⟩
structure AnP (w X : World) (db sb wb O T : Nat) (s : Sp) (now last wanted : St) (torn : Bool) (kd p t : Int) (b l v : Value) (is : Bool) (en : Nat) (bs : Bs) : Prop where
  wl : WL w X db sb wb s now last wanted torn
  op : X.heap[O]? = some (.cells #[.int .i64 kd, .int .i64 p, b, l, .int .i64 t] 73 (0, 0))
  tl : X.heap[T]? = some (.cells #[v, .bool is, .int .i64 (en : Int)] 79 (0, 0))
  rv : RV X v bs
theorem cut_tail {G : Nat → Option Addr → Nat → World → Prop} (P : Nat → Option Addr → Nat → World → Prop) {Goal : Prop} (main : (∀ T a c X, P T a c X → G T a c X) → Goal) (tail : ∀ T a c X, P T a c X → G T a c X) : Goal := main tail
section
variable {w W W1 W2 W5 : World} {db sb wb O : Nat} {s s' : Sp} {now last wanted : St} {torn : Bool} {kd p t : Int} {b l v : Value} {is : Bool} {en : Nat} {bs : Bs}
structure PrP (w W1 : World) (db sb wb O : Nat) (s : Sp) (now last wanted : St) (torn : Bool) (kd p t : Int) (b l : Value) : Prop where
  g : ∃ γ : Gh, (γ.B = w.heap.size ∧ γ.lim ≤ W1.heap.size ∧ Below w.heap.size w W1) ∧ SpV γ W1 sb db s ∧ WB γ W1 wb db sb now last wanted torn ∧ Tag γ W1 O 73
  op : W1.heap[O]? = some (.cells #[.int .i64 kd, .int .i64 p, b, l, .int .i64 t] 73 (0, 0))
theorem PrP.below (h : PrP w W1 db sb wb O s now last wanted torn kd p t b l) (hb : Below W1.heap.size W1 W2) : PrP w W2 db sb wb O s now last wanted torn kd p t b l := by
  obtain ⟨⟨γ, g, hs, hw, ht⟩, ho⟩ := h
  have st : Step γ (fun _ => false) W1 W2 := Step.below hb g.2.1
  have lO := (Array.getElem?_eq_some_iff.1 ho).1
  exact ⟨⟨γ, ⟨g.1, Nat.le_trans g.2.1 st.size, g.2.2.trans (g.1 ▸ st.be)⟩, hs.below hb g.2.1, hw.keep st rfl, st.tg _ _ (by decide) lO ht⟩, (hb.block _ lO).trans ho⟩
theorem PrP.cells (h : PrP w W1 db sb wb O s now last wanted torn kd p t b l) : W1.cell? ⟨wb, 0, none⟩ = some (.pointer (some ⟨db, 0, none⟩)) ∧ W1.cell? ⟨wb, 1, none⟩ = some (.pointer (some ⟨sb, 0, none⟩)) ∧ (W1.cell? ⟨O, 0, none⟩ = some (.int .i64 kd) ∧ W1.cell? ⟨O, 1, none⟩ = some (.int .i64 p) ∧ W1.cell? ⟨O, 2, none⟩ = some b ∧ W1.cell? ⟨O, 3, none⟩ = some l ∧ W1.cell? ⟨O, 4, none⟩ = some (.int .i64 t)) ∧ W1.cell? ⟨db, 2, none⟩ = some (.bool s.c.d.dead) := by
  obtain ⟨⟨γ, g, hs, hw, ht⟩, ho⟩ := h
  obtain ⟨o0, o1, o2, o3, o4, lO⟩ := op5 ho
  obtain ⟨cb, rb, ob, kb, HU, HK⟩ := hs
  exact ⟨hw.c0, hw.c1, ⟨o0, o1, o2, o3, o4⟩, HU.ca.dk'.d2⟩
theorem PrP.told {C : Array Value} (h : PrP w W1 db sb wb O s now last wanted torn kd p t b l) : ∃ γ : Gh, (γ.B = w.heap.size ∧ γ.lim ≤ (W1.alloc (.cells C 79)).heap.size ∧ Below w.heap.size w (W1.alloc (.cells C 79))) ∧ SpV γ (W1.alloc (.cells C 79)) sb db s ∧ WB γ (W1.alloc (.cells C 79)) wb db sb now last wanted torn ∧ Tag γ (W1.alloc (.cells C 79)) O 73 ∧ Tag γ (W1.alloc (.cells C 79)) W1.heap.size 33 := by
  obtain ⟨⟨γ, g, hs, hw, ht⟩, ho⟩ := h
  have hb : Below W1.heap.size W1 (W1.alloc (.cells C 79)) := Below.alloc (Below.refl _ _) (Nat.le_refl _) _
  have lO := (Array.getElem?_eq_some_iff.1 ho).1
  have hk := (Go.MapKept.heap_alloc W1 (.cells C 79)).1
  have hle : Gh.Le W1 γ (γ.addK W1.heap.size (W1.alloc (.cells C 79)).heap.size W1.heap.size 33 g.2.1 hb.size) := Gh.addK_le g.2.1 hb.size
  generalize hγ : γ.addK W1.heap.size (W1.alloc (.cells C 79)).heap.size W1.heap.size 33 g.2.1 hb.size = γ' at hle
  have hB : γ'.B = γ.B := by rw [← hγ]; rfl
  have st : Step γ' (fun _ => false) W1 (W1.alloc (.cells C 79)) := Step.belowB hb (by rw [hB]; exact Nat.le_trans γ.hB g.2.1)
  refine ⟨γ', ⟨hB.trans g.1, by rw [← hγ]; exact Nat.le_refl _, g.2.2.trans (by rw [← g.1, ← hB]; exact st.be)⟩, (hs.more hle).stay st, (hw.more hle).keep st rfl, st.tg _ _ (by decide) lO (ht.more hle lO), Tag.told ?_ (by unfold kindOf; rw [hk]; simp)⟩
  rw [← hγ]
  exact if_pos ⟨Nat.le_refl _, (Array.getElem?_eq_some_iff.1 hk).1, rfl⟩
theorem PrP.after {γ : Gh} (g : γ.B = w.heap.size ∧ γ.lim ≤ W1.heap.size ∧ Below w.heap.size w W1) (hw : WB γ W1 wb db sb now last wanted torn) (tO : Tag γ W1 O 73) (ho : W1.heap[O]? = some (.cells #[.int .i64 kd, .int .i64 p, b, l, .int .i64 t] 73 (0, 0)))
    (h : ∃ γ', Gh.Le W1 γ γ' ∧ γ'.lim ≤ W5.heap.size ∧ SpV γ' W5 sb db s' ∧ Step γ' spC W1 W5 ∧ RV W5 v bs) : ∃ γ' : Gh, (γ'.B = w.heap.size ∧ γ'.lim ≤ W5.heap.size ∧ Below w.heap.size w W5) ∧ SpV γ' W5 sb db s' ∧ WB γ' W5 wb db sb now last wanted torn ∧ W5.heap[O]? = some (.cells #[.int .i64 kd, .int .i64 p, b, l, .int .i64 t] 73 (0, 0)) ∧ RV W5 v bs ∧ (∀ T, T < W1.heap.size → Tag γ W1 T 33 → W5.heap[T]? = W1.heap[T]? ∧ Tag γ' W5 T 33) := by
  obtain ⟨γ', hle, h1, h2, h3, h4⟩ := h
  have lO := (Array.getElem?_eq_some_iff.1 ho).1
  exact ⟨γ', ⟨hle.B.trans g.1, h1, g.2.2.trans (by rw [← g.1, ← hle.B]; exact h3.be)⟩, h2, (hw.more hle).keep h3 rfl, (h3.heap (tO.more hle lO) rfl lO).trans ho, h4, fun T hT ht => ⟨h3.heap (ht.more hle hT) rfl hT, h3.tg _ _ (by decide) hT (ht.more hle hT)⟩⟩
end
end Go.Tb
namespace Go.Tb
open Go Go.RowKit Go.Proofs Go.Maps Go.Sp
theorem heap3 (w : World) (T : Nat) (a b c : Value) {j : Nat} (h : j ≠ T) : (((w.setCell ⟨T, 0, none⟩ a).setCell ⟨T, 1, none⟩ b).setCell ⟨T, 2, none⟩ c).heap[j]? = w.heap[j]? := by
  rw [heap_setCell_other _ _ _ _ h, heap_setCell_other _ _ _ _ h, heap_setCell_other _ _ _ _ h]
theorem AnP.laid {γ : Gh} {w w5 X : World} {db sb wb O T : Nat} {s2 : Sp} {now last wanted : St} {torn : Bool} {kd p t : Int} {b l : Value} {is : Bool} {en : Nat} {bs : Bs} {a : Option Addr} {m c : Nat} (g : γ.B = w.heap.size ∧ γ.lim ≤ w5.heap.size ∧ Below w.heap.size w w5) (hs : SpV γ w5 sb db s2) (hw : WB γ w5 wb db sb now last wanted torn)
    (hO : w5.heap[O]? = some (.cells #[.int .i64 kd, .int .i64 p, b, l, .int .i64 t] 73 (0, 0))) (hr : RV w5 (.slice a m c) bs) (hT : w5.heap[T]? = some (.cells z79 79 (0, 0))) (tT : Tag γ w5 T 33) (hwT : wb < T) (hOT : O ≠ T)
    (hX : (((w5.setCell ⟨T, 0, none⟩ (.slice a m c)).setCell ⟨T, 1, none⟩ (.bool is)).setCell ⟨T, 2, none⟩ (.int .i64 (en : Int))) = X) : AnP w X db sb wb O T s2 now last wanted torn kd p t b l (.slice a m c) is en bs := by
  obtain ⟨x0, x1, x2, z0, z1, z2, lT⟩ := z79_cells hT
  have hB : γ.B ≤ T := by have := hw.B; omega
  have y1 := (World.cell?_setCell_other w5 ⟨T, 0, none⟩ ⟨T, 1, none⟩ (.slice a m c) (fun e => by injection e with _ e; cases e)).trans x1
  have y2 := (World.cell?_setCell_other (w5.setCell ⟨T, 0, none⟩ (.slice a m c)) ⟨T, 1, none⟩ ⟨T, 2, none⟩ (.bool is) (fun e => by injection e with _ e; cases e)).trans ((World.cell?_setCell_other w5 ⟨T, 0, none⟩ ⟨T, 2, none⟩ (.slice a m c) (fun e => by injection e with _ e; cases e)).trans x2)
  have s1 : Step γ (fun K => K == 33) w5 (w5.setCell ⟨T, 0, none⟩ (.slice a m c)) := Step.set tT rfl hB x0
  have s2' := s1.trans (Step.set (v := .bool is) (tT.set x0) rfl hB y1)
  have s3 := s2'.trans (Step.set (v := .int .i64 (en : Int)) ((tT.set x0).set y1) rfl hB y2)
  have hT3 := z79_set3 hT (.slice a m c) (.bool is) (.int .i64 (en : Int))
  have hoth : ∀ j, j ≠ T → X.heap[j]? = w5.heap[j]? := fun j hj => by rw [← hX]; exact heap3 _ _ _ _ _ hj
  rw [hX] at s3 hT3
  refine ⟨⟨γ, ⟨g.1, Nat.le_trans g.2.1 s3.size, g.2.2.trans (g.1 ▸ s3.be)⟩, hs.client (s3.mono clS33), ?_⟩, (hoth O hOT).trans hO, hT3, ?_⟩
  · obtain ⟨cc, h1, h2⟩ := hw.hk
    exact ⟨s3.tg _ _ (by decide) hw.lt hw.tg, hw.B, cc, (hoth wb (by omega)).trans h1, h2⟩
  · obtain ⟨a', c', e, hx, hr⟩ := hr
    refine ⟨a', c', e, hx, fun hp => ?_⟩
    obtain ⟨gg, o, e1, e2, hc⟩ := hr hp
    have hne : gg ≠ T := fun eT => by
      subst eT
      obtain ⟨x, hx0⟩ : ∃ x, bs[0]? = some x := ⟨_, List.getElem?_eq_getElem hp⟩
      have h0 := hc 0 x hx0
      simp only [World.cell?, hT, z79, Nat.add_zero] at h0
      match o, h0 with
      | 0, h0 => simp at h0
      | 1, h0 => simp at h0
      | 2, h0 => simp at h0
      | n + 3, h0 => simp at h0
    exact ⟨gg, o, e1, Nat.lt_of_lt_of_le e2 s3.size, fun j x hj => (cell_of_heap (a := ⟨gg, o + j, none⟩) (hoth gg hne)).1.trans (hc j x hj)⟩
section
variable {w W : World} {db sb wb : Nat} {s : Sp} {now last wanted : St} {torn : Bool} {N k : Nat} {p t : Int} {ba ka : Option Addr} {bn bc kn kc : Nat}
theorem world_abort (h : WL w W db sb wb s now last wanted torn) (hI : WI N k s now last wanted torn) (hk : k ≤ 100) (hB : By now ∧ By last ∧ By wanted) :
    Calls Tryz.prog 36 #[.pointer (some ⟨wb, 0, none⟩), opV 4 p (.slice ba bn bc) (.slice ka kn kc) t] W (DoesW w db wb N k s.c.d.Al) := by
  have hbd : s.Bd 5000 := ⟨by have := hI.clk; omega, by have := hI.P; omega⟩
  have hN : 2 ≤ s.c.d.N ∧ s.c.d.N ≤ 4096 := by have := hI.hN; have := hI.hN2; omega
  obtain ⟨W1, hW1⟩ : ∃ W1, W.alloc (.cells #[.int .i64 4, .int .i64 p, .slice ba bn bc, .slice ka kn kc, .int .i64 t] 73) = W1 := ⟨_, rfl⟩
  have hb1 : Below W.heap.size W W1 := hW1 ▸ Below.alloc (Below.refl _ _) (Nat.le_refl _) _
  have hO1 : W1.heap[W.heap.size]? = some (.cells #[.int .i64 4, .int .i64 p, .slice ba bn bc, .slice ka kn kc, .int .i64 t] 73 (0, 0)) := hW1 ▸ (Go.MapKept.heap_alloc W _).1
  have P1 : PrP w W1 db sb wb W.heap.size s now last wanted torn 4 p t (.slice ba bn bc) (.slice ka kn kc) := by
    obtain ⟨γ, g, hs, hw⟩ := h
    have st : Step γ (fun _ => false) W W1 := Step.below hb1 g.2.1
    exact ⟨⟨γ, ⟨g.1, Nat.le_trans g.2.1 st.size, g.2.2.trans (g.1 ▸ st.be)⟩, hs.below hb1 g.2.1, hw.keep st rfl, Tag.new g.2.1 hO1⟩, hO1⟩
  have DO := Lib.hid (fun (γ : Gh) (W' : World) (hs : SpV γ W' sb db s) (h0 : γ.lim ≤ W'.heap.size) (hbe : Below w.heap.size w W') => show Calls Tryz.prog 46 #[.pointer (some ⟨sb, 0, none⟩), opV 4 p (.slice ba bn bc) (.slice ka kn kc) t] W' (DoesP γ W' sb db (([], false, s.abort.1), s.abort.2)) from does_abort hs hI.ok h0)
  unfold opV at *
  obtain ⟨c0, c1, ⟨o0, o1, o2, o3, o4⟩, cd⟩ := P1.cells
  have DD := dead_ok cd
  have HP := Lib.hid P1
  have HW := Lib.hid hW1
  have HI := Lib.hid hI
  have HB := Lib.hid hB
  obtain ⟨bs, hbs⟩ : ∃ bs : Bs, [] = bs := ⟨_, rfl⟩
  obtain ⟨m, hm⟩ : ∃ m, bs.length = m := ⟨_, rfl⟩
  have HLN : Hid (bs.length = m) := Lib.hid hm
  rw [hbs] at DO
  have HQ := Lib.hid hI.abort
  have HAL : Hid (s.c.d.Al → s.abort.2.c.d.Al) := Lib.hid (fun h => Sp.abort_k h)
  generalize s.abort.2 = s2 at *
  generalize s.abort.1 = en at *
  clear hm
  have DOA : Hid (Calls Tryz.prog 46 #[.pointer (some ⟨sb, 0, none⟩), .agg #[.int .i64 4, .int .i64 p, .slice ba bn bc, .slice ka kn kc, .int .i64 t]] W1.drew (fun e w' => ∃ a c, e = .returned (.agg #[.slice a m c, .bool false, .int .i64 (en : Int)]) ∧ Hid ((∃ γ' : Gh, (γ'.B = w.heap.size ∧ γ'.lim ≤ w'.heap.size ∧ Below w.heap.size w w') ∧ SpV γ' w' sb db s2 ∧ WB γ' w' wb db sb now last wanted torn ∧ w'.heap[W.heap.size]? = some (.cells #[.int .i64 4, .int .i64 p, .slice ba bn bc, .slice ka kn kc, .int .i64 t] 73 (0, 0)) ∧ RV w' (.slice a m c) bs) ∧ True))) := Lib.hid (by
    obtain ⟨⟨γ, g, hs, hw, ht⟩, ho⟩ := HP.out.below (Below.drew (Below.refl _ _))
    refine (DO.out γ _ hs g.2.1 g.2.2).mono ?_
    rintro e w' ⟨a, c, h1, h2⟩
    obtain ⟨γ', f1, f2, f3, f4, f5, f6⟩ := PrP.after g hw ht ho h2.out
    exact ⟨a, c, HLN.out ▸ h1, Lib.hid ⟨⟨γ', f1, f2, f3, f4, HLN.out ▸ f5⟩, trivial⟩⟩)
  have DOB : Hid (Calls Tryz.prog 46 #[.pointer (some ⟨sb, 0, none⟩), .agg #[.int .i64 4, .int .i64 p, .slice ba bn bc, .slice ka kn kc, .int .i64 t]] (W1.drew.alloc (.cells #[.slice none 0 0, .bool false, .int .i64 0] 79)) (fun e w' => ∃ a c, e = .returned (.agg #[.slice a m c, .bool false, .int .i64 (en : Int)]) ∧ Hid ((∃ γ' : Gh, (γ'.B = w.heap.size ∧ γ'.lim ≤ w'.heap.size ∧ Below w.heap.size w w') ∧ SpV γ' w' sb db s2 ∧ WB γ' w' wb db sb now last wanted torn ∧ w'.heap[W.heap.size]? = some (.cells #[.int .i64 4, .int .i64 p, .slice ba bn bc, .slice ka kn kc, .int .i64 t] 73 (0, 0)) ∧ RV w' (.slice a m c) bs ∧ Tag γ' w' W1.heap.size 33) ∧ w'.heap[W1.heap.size]? = some (.cells z79 79 (0, 0))))) := Lib.hid (by
    obtain ⟨γ, g, hs, hw, ht, hT⟩ := (HP.out.below (Below.drew (Below.refl _ _))).told (C := z79)
    have hO2 := (Below.heap_alloc W1.drew (.cells z79 79) _ (Array.getElem?_eq_some_iff.1 HP.out.op).1).trans HP.out.op
    have hz := (Go.MapKept.heap_alloc W1.drew (.cells z79 79)).1
    have lz := (Array.getElem?_eq_some_iff.1 hz).1
    refine (DO.out γ _ hs g.2.1 g.2.2).mono ?_
    rintro e w' ⟨a, c, h1, h2⟩
    obtain ⟨γ', f1, f2, f3, f4, f5, f6⟩ := PrP.after g hw ht hO2 h2.out
    exact ⟨a, c, HLN.out ▸ h1, Lib.hid ⟨⟨γ', f1, f2, f3, f4, HLN.out ▸ f5, (f6 _ lz hT).2⟩, (f6 _ lz hT).1.trans hz⟩⟩)
  have HSP : Hid (∀ W', Below W1.heap.size W1 W' → W'.cell? ⟨wb, 1, none⟩ = some (.pointer (some ⟨sb, 0, none⟩)) ∧ W'.cell? ⟨W.heap.size, 0, none⟩ = some (.int .i64 4) ∧ W'.cell? ⟨W.heap.size, 1, none⟩ = some (.int .i64 p) ∧ W'.cell? ⟨W.heap.size, 2, none⟩ = some (.slice ba bn bc) ∧ W'.cell? ⟨W.heap.size, 3, none⟩ = some (.slice ka kn kc) ∧ W'.cell? ⟨W.heap.size, 4, none⟩ = some (.int .i64 t)) := Lib.hid fun W' hb => ⟨cells_below hb _ _ c1, cells_below hb _ _ o0, cells_below hb _ _ o1, cells_below hb _ _ o2, cells_below hb _ _ o3, cells_below hb _ _ o4⟩
  have l1 := cell_lt' c0
  have HLT : Hid (W.heap.size < W1.heap.size ∧ wb < W.heap.size) := Lib.hid ⟨cell_lt' o0, by obtain ⟨γ, g, hs, hw⟩ := h; exact hw.lt⟩
  clear hW1 hb1 hO1 P1 hI hB h DO
  go_enter Tryz.func36, Tryz.ntmps36
  go_upto_region 1 with fail
  rw [HW.out]
  go_upto_region 7 with (go_at_call 75; refine DD.mono ?_; rintro e w4 ⟨rfl, hw4⟩; subst w4)
  clear DD
  apply cut_tail (fun T a c X => Hid (AnP w X db sb wb W.heap.size T s2 now last wanted torn 4 p t (.slice ba bn bc) (.slice ka kn kc) (.slice a m c) false en bs))
  · intro TAIL
    refine wp_region_held_drew (S := (fun W' => W'.cell? ⟨wb, 1, none⟩ = some (.pointer (some ⟨sb, 0, none⟩)) ∧ W'.cell? ⟨W.heap.size, 0, none⟩ = some (.int .i64 4) ∧ W'.cell? ⟨W.heap.size, 1, none⟩ = some (.int .i64 p) ∧ W'.cell? ⟨W.heap.size, 2, none⟩ = some (.slice ba bn bc) ∧ W'.cell? ⟨W.heap.size, 3, none⟩ = some (.slice ka kn kc) ∧ W'.cell? ⟨W.heap.size, 4, none⟩ = some (.int .i64 t))) (by kernel_rfl) ?_ (fun hHeld => ?_)
    · (with_reducible refine HSP.out _ ?_; (repeat (first | with_reducible exact Below.refl _ _ | with_reducible assumption | with_reducible refine Below.drew ?_ | with_reducible refine Below.allocs ?_ _)); done)
    refine wpAnyH_take (i := 0) (oi := { dst := some 30, op := .move (.tmp 0), type := _, pos := _, after := _, guard := none }) (v := ?va1) rfl (by kernel_rfl) (by kernel_rfl) (by kernel_rfl) (fun _ _ _ h => h) (Or.inl ⟨by rfl, ?hya1⟩) (by assumption) ?resta1
    case hya1 => (intro w hSw; (try dsimp only at hSw); go_simp; try with_reducible rfl)
    try simp only [Act.put, List.setIfInBounds_toArray, List.set_cons_zero, List.set_cons_succ]
    refine wpAnyH_take (i := 1) (oi := { dst := some 31, op := .nilCheck (.tmp 30), type := _, pos := _, after := _, guard := none }) (v := ?va2) rfl (by kernel_rfl) (by kernel_rfl) (by kernel_rfl) (fun _ _ _ h => h) (Or.inl ⟨by rfl, ?hya2⟩) (by assumption) ?resta2
    case hya2 => (intro w hSw; (try dsimp only at hSw); go_simp; try with_reducible rfl)
    try simp only [Act.put, List.setIfInBounds_toArray, List.set_cons_zero, List.set_cons_succ]
    refine wpAnyH_take (i := 2) (oi := { dst := some 32, op := .fieldAddr 33 (.tmp 31) 1, type := _, pos := _, after := _, guard := none }) (v := ?va3) rfl (by kernel_rfl) (by kernel_rfl) (by kernel_rfl) (fun _ _ _ h => h) (Or.inl ⟨by rfl, ?hya3⟩) (by assumption) ?resta3
    case hya3 => (intro w hSw; (try dsimp only at hSw); go_simp; try with_reducible rfl)
    try simp only [Act.put, List.setIfInBounds_toArray, List.set_cons_zero, List.set_cons_succ]
    refine wpAnyH_take (i := 3) (oi := { dst := some 33, op := .load 27 (.tmp 32), type := _, pos := _, after := _, guard := none }) (v := ?va4) rfl (by kernel_rfl) (by kernel_rfl) (by kernel_rfl) (fun _ _ _ h => h) (Or.inl ⟨by rfl, ?hya4⟩) (by assumption) ?resta4
    case hya4 => (intro w hSw; (try dsimp only at hSw); go_simp; try with_reducible rfl)
    try simp only [Act.put, List.setIfInBounds_toArray, List.set_cons_zero, List.set_cons_succ]
    refine wpAnyH_take (i := 4) (oi := { dst := some 34, op := .load 73 (.tmp 3), type := _, pos := _, after := _, guard := none }) (v := ?va5) rfl (by kernel_rfl) (by kernel_rfl) (by kernel_rfl) (fun _ _ _ h => h) (Or.inl ⟨by rfl, ?hya5⟩) (by assumption) ?resta5
    case hya5 => (intro w hSw; (try dsimp only at hSw); go_simp; try with_reducible rfl)
    try simp only [Act.put, List.setIfInBounds_toArray, List.set_cons_zero, List.set_cons_succ]
    refine wpAnyH_ready (rs := [5, 6]) (by kernel_rfl) (by simp) ?_
    refine AllReadyH.cons (o := { dst := some 35, op := .call { callee := .value (.func 46), args := #[(.tmp 33), (.tmp 34)], argTypes := #[27, 73] }, type := _, pos := _, after := _, guard := none }) rfl (fun K hK => ?_) (AllReadyH.cons (o := { dst := some 6, op := .alloc 79, type := _, pos := _, after := _, guard := none }) rfl (fun K hK => ?_) AllReadyH.nil)
    · go_simp
      go_at_call 46
      refine (DOA.out).mono ?_
      rintro e w5 ⟨a5, c5, rfl, hq5⟩
      have HSA : Hid (∀ W', Below w5.heap.size w5 W' → W'.cell? ⟨wb, 1, none⟩ = some (.pointer (some ⟨sb, 0, none⟩)) ∧ W'.cell? ⟨W.heap.size, 0, none⟩ = some (.int .i64 4) ∧ W'.cell? ⟨W.heap.size, 1, none⟩ = some (.int .i64 p) ∧ W'.cell? ⟨W.heap.size, 2, none⟩ = some (.slice ba bn bc) ∧ W'.cell? ⟨W.heap.size, 3, none⟩ = some (.slice ka kn kc) ∧ W'.cell? ⟨W.heap.size, 4, none⟩ = some (.int .i64 t)) := Lib.hid fun W' hb => (by
        obtain ⟨⟨γ', g1, g2, g3, g4, g5⟩, g6⟩ := hq5.out
        obtain ⟨o0, o1, o2, o3, o4, lO⟩ := op5 g4
        exact ⟨cells_below hb _ _ g3.c1, cells_below hb _ _ o0, cells_below hb _ _ o1, cells_below hb _ _ o2, cells_below hb _ _ o3, cells_below hb _ _ o4⟩)
      refine hK.out _ _ ?_ (fun hHeld => ?_)
      · exact HSA.out _ (Below.refl _ _)
      clear hK K
      try simp only [Act.put, List.setIfInBounds_toArray, List.set_cons_zero, List.set_cons_succ]
      refine wpAnyH_ready (rs := [6]) (by kernel_rfl) (by simp) ?_
      refine AllReadyH.cons (o := { dst := some 6, op := .alloc 79, type := _, pos := _, after := _, guard := none }) rfl (fun K hK => ?_) AllReadyH.nil
      go_simp
      refine hK.out _ _ ?_ (fun hHeld => ?_)
      · (with_reducible refine HSA.out _ ?_; (repeat (first | with_reducible exact Below.refl _ _ | with_reducible assumption | with_reducible refine Below.drew ?_ | with_reducible refine Below.allocs ?_ _)); done)
      clear hK K
      try simp only [Act.put, List.setIfInBounds_toArray, List.set_cons_zero, List.set_cons_succ]
      refine wpAnyH_ready (rs := [7]) (by kernel_rfl) (by simp) ?_
      refine AllReadyH.cons (o := { dst := none, op := .store 79 (.tmp 6) (.tmp 35), type := _, pos := _, after := _, guard := none }) rfl (fun K hK => ?_) AllReadyH.nil
      go_simp
      refine hK.out _ _ ?_ (fun hHeld => ?_)
      · (with_reducible refine HSA.out _ ?_; (repeat (first | with_reducible exact Below.refl _ _ | with_reducible assumption | with_reducible refine Below.drew ?_ | with_reducible refine Below.allocs ?_ _)); done)
      clear hK K
      try simp only [Act.put, List.setIfInBounds_toArray, List.set_cons_zero, List.set_cons_succ]
      refine wpAnyH_done (by kernel_rfl) ?_ _
      refine take_last ?_
      intro X hX
      generalize hT : w5.heap.size = T
      refine TAIL T a5 c5 X (Lib.hid ?_)
      obtain ⟨⟨γ', g1, g2, g3, g4, g5⟩, g6⟩ := hq5.out
      have hb : Below w5.heap.size w5 X := hX ▸ Below.alloc (Below.refl _ _) (Nat.le_refl _) _
      have st : Step γ' (fun _ => false) w5 X := Step.below hb g1.2.1
      have lO := (Array.getElem?_eq_some_iff.1 g4).1
      exact ⟨⟨γ', ⟨g1.1, Nat.le_trans g1.2.1 st.size, g1.2.2.trans (g1.1 ▸ st.be)⟩, g2.below hb g1.2.1, g3.keep st rfl⟩, (hb.block _ lO).trans g4, by rw [← hX, ← hT]; exact (Go.MapKept.heap_alloc w5 _).1, g5.keep hb⟩
    · go_simp
      refine hK.out _ _ ?_ (fun hHeld => ?_)
      · (with_reducible refine HSP.out _ ?_; (repeat (first | with_reducible exact Below.refl _ _ | with_reducible assumption | with_reducible refine Below.drew ?_ | with_reducible refine Below.allocs ?_ _)); done)
      clear hK K
      try simp only [Act.put, List.setIfInBounds_toArray, List.set_cons_zero, List.set_cons_succ]
      refine wpAnyH_ready (rs := [5]) (by kernel_rfl) (by simp) ?_
      refine AllReadyH.cons (o := { dst := some 35, op := .call { callee := .value (.func 46), args := #[(.tmp 33), (.tmp 34)], argTypes := #[27, 73] }, type := _, pos := _, after := _, guard := none }) rfl (fun K hK => ?_) AllReadyH.nil
      go_simp
      go_at_call 46
      refine (DOB.out).mono ?_
      rintro e w5 ⟨a5, c5, rfl, hq5⟩
      have HSA : Hid (∀ W', Below w5.heap.size w5 W' → W'.cell? ⟨wb, 1, none⟩ = some (.pointer (some ⟨sb, 0, none⟩)) ∧ W'.cell? ⟨W.heap.size, 0, none⟩ = some (.int .i64 4) ∧ W'.cell? ⟨W.heap.size, 1, none⟩ = some (.int .i64 p) ∧ W'.cell? ⟨W.heap.size, 2, none⟩ = some (.slice ba bn bc) ∧ W'.cell? ⟨W.heap.size, 3, none⟩ = some (.slice ka kn kc) ∧ W'.cell? ⟨W.heap.size, 4, none⟩ = some (.int .i64 t)) := Lib.hid fun W' hb => (by
        obtain ⟨⟨γ', g1, g2, g3, g4, g5⟩, g6⟩ := hq5.out
        obtain ⟨o0, o1, o2, o3, o4, lO⟩ := op5 g4
        exact ⟨cells_below hb _ _ g3.c1, cells_below hb _ _ o0, cells_below hb _ _ o1, cells_below hb _ _ o2, cells_below hb _ _ o3, cells_below hb _ _ o4⟩)
      obtain ⟨y0, y1, y2, zy0, zy1, zy2, lB⟩ := z79_cells hq5.out.2
      refine hK.out _ _ ?_ (fun hHeld => ?_)
      · (obtain ⟨⟨γ', g1, g2, g3, g4, g5⟩, g6⟩ := hq5.out; obtain ⟨o0, o1, o2, o3, o4, lO⟩ := op5 g4; exact ⟨g3.c1, o0, o1, o2, o3, o4⟩)
      clear hK K
      try simp only [Act.put, List.setIfInBounds_toArray, List.set_cons_zero, List.set_cons_succ]
      refine wpAnyH_ready (rs := [7]) (by kernel_rfl) (by simp) ?_
      refine AllReadyH.cons (o := { dst := none, op := .store 79 (.tmp 6) (.tmp 35), type := _, pos := _, after := _, guard := none }) rfl (fun K hK => ?_) AllReadyH.nil
      go_simp
      refine hK.out _ _ ?_ (fun hHeld => ?_)
      · (obtain ⟨⟨γ', g1, g2, g3, g4, g5⟩, g6⟩ := hq5.out; have hO := (heap3 w5 W1.heap.size (.slice a5 m c5) (.bool false) (.int .i64 (en : Int)) (j := W.heap.size) (by have := HLT.out.1; omega)).trans g4; have hW := heap3 w5 W1.heap.size (.slice a5 m c5) (.bool false) (.int .i64 (en : Int)) (j := wb) (by have := HLT.out; omega); obtain ⟨o0, o1, o2, o3, o4, lO⟩ := op5 hO; exact ⟨(cell_of_heap (a := ⟨wb, 1, none⟩) hW).1.trans g3.c1, o0, o1, o2, o3, o4⟩)
      clear hK K
      try simp only [Act.put, List.setIfInBounds_toArray, List.set_cons_zero, List.set_cons_succ]
      refine wpAnyH_done (by kernel_rfl) ?_ _
      refine take_last ?_
      intro X hX
      have HLT2 : Hid (wb < W1.heap.size ∧ W.heap.size ≠ W1.heap.size) := Lib.hid (by have := HLT.out; omega)
      clear y0 y1 y2 zy0 zy1 zy2 lB
      generalize hT : W1.heap.size = T at hX hq5 HLT2 ⊢
      refine TAIL T a5 c5 X (Lib.hid ?_)
      obtain ⟨⟨γ', g1, g2, g3, g4, g5, g8⟩, g6⟩ := hq5.out
      exact AnP.laid g1 g2 g3 g4 g5 g6 g8 HLT2.out.1 HLT2.out.2 hX
  · intro T a c X HA
    obtain ⟨t0, t1, t2, lT⟩ := c79 HA.out.tl
    obtain ⟨o0, o1, o2, o3, o4, lO⟩ := op5 HA.out.op
    clear HP HSP DOA DOB HW c0 c1 cd l1 hN hbd
    cases hd : s.c.d.dead with
    | true =>
      obtain rfl := HQ.out.1 hd
      have HWI : Hid (WI N (k + 1) s2 now last wanted torn) := Lib.hid (by have h := HQ.out.2; rwa [if_neg (fun h => by rw [hd] at h; simp at h)] at h)
      go_wp2_with fail
      go_ret
      exact ⟨rfl, Lib.hid ⟨_, _, _, _, _, _, HA.out.wl, HWI.out, HB.out, HAL.out⟩⟩
    | false =>
      by_cases he : en = 0
      · subst he
        have HWI : Hid (WI N (k + 1) s2 last last wanted torn) := Lib.hid (by have h := HQ.out.2; rwa [if_pos ⟨hd, rfl⟩] at h)
        obtain ⟨γ, g, hs, hw⟩ := HA.out.wl
        have L1 := Lib.hid hw.rl
        have S1 := Lib.hid (hw.there (o := 2) (n := 2049) (by omega))
        have l0 := hw.lt
        obtain ⟨hw1, st1⟩ := hw.setNow last
        have HF : Hid (WL w (X.setCells wb 2 (stL last)) db sb wb s2 last last wanted torn) := Lib.hid ⟨γ, ⟨g.1, Nat.le_trans g.2.1 st1.size, g.2.2.trans (g.1 ▸ st1.be)⟩, hs.client (st1.mono clS33), hw1⟩
        clear hs hw hw1 st1
        go_wp2_with (first | ((with_reducible refine wpList_load31 (x := last) (o := 2051) (wb := wb) ?_ ?_ ?_ ?_); (with_reducible rfl); (exact ⟨_, rfl, rfl⟩); (exact L1.out)) | ((with_reducible refine wpList_store31 (x := last) (o := 2) (wb := wb) ?_ ?_ ?_ ?_); (with_reducible rfl); (exact ⟨_, _, rfl, rfl, rfl⟩); (exact S1.out)))
        go_ret
        exact ⟨rfl, Lib.hid ⟨_, _, _, _, _, _, HF.out, HWI.out, ⟨HB.out.2.1, HB.out.2⟩, HAL.out⟩⟩
      · have HWI : Hid (WI N (k + 1) s2 now last wanted torn) := Lib.hid (by have h := HQ.out.2; rwa [if_neg (fun h => he h.2)] at h)
        have i5 : ¬ (en : Int) = 0 := by omega
        have i6 : ((en : Int) == 0) = false := by rw [beq_eq_false_iff_ne]; exact i5
        go_wp2_with fail
        go_ret
        exact ⟨rfl, Lib.hid ⟨_, _, _, _, _, _, HA.out.wl, HWI.out, HB.out, HAL.out⟩⟩
end
end Go.Tb
namespace Go.Tb
open Go Go.RowKit Go.Proofs Go.Maps Go.Sp
section
variable {w W : World} {db sb wb : Nat} {s : Sp} {now last wanted : St} {torn : Bool} {N k : Nat} {p t : Int} {ba ka : Option Addr} {bn bc kn kc : Nat}
theorem world_evict (h : WL w W db sb wb s now last wanted torn) (hI : WI N k s now last wanted torn) (hk : k ≤ 100) (hB : By now ∧ By last ∧ By wanted) (hp : p ≤ 9223372036854775807) :
    Calls Tryz.prog 36 #[.pointer (some ⟨wb, 0, none⟩), opV 5 p (.slice ba bn bc) (.slice ka kn kc) t] W (DoesW w db wb N k s.c.d.Al) := by
  have hbd : s.Bd 5000 := ⟨by have := hI.clk; omega, by have := hI.P; omega⟩
  have hN : 2 ≤ s.c.d.N ∧ s.c.d.N ≤ 4096 := by have := hI.hN; have := hI.hN2; omega
  obtain ⟨W1, hW1⟩ : ∃ W1, W.alloc (.cells #[.int .i64 5, .int .i64 p, .slice ba bn bc, .slice ka kn kc, .int .i64 t] 73) = W1 := ⟨_, rfl⟩
  have hb1 : Below W.heap.size W W1 := hW1 ▸ Below.alloc (Below.refl _ _) (Nat.le_refl _) _
  have hO1 : W1.heap[W.heap.size]? = some (.cells #[.int .i64 5, .int .i64 p, .slice ba bn bc, .slice ka kn kc, .int .i64 t] 73 (0, 0)) := hW1 ▸ (Go.MapKept.heap_alloc W _).1
  have P1 : PrP w W1 db sb wb W.heap.size s now last wanted torn 5 p t (.slice ba bn bc) (.slice ka kn kc) := by
    obtain ⟨γ, g, hs, hw⟩ := h
    have st : Step γ (fun _ => false) W W1 := Step.below hb1 g.2.1
    exact ⟨⟨γ, ⟨g.1, Nat.le_trans g.2.1 st.size, g.2.2.trans (g.1 ▸ st.be)⟩, hs.below hb1 g.2.1, hw.keep st rfl, Tag.new g.2.1 hO1⟩, hO1⟩
  have DO := Lib.hid (fun (γ : Gh) (W' : World) (hs : SpV γ W' sb db s) (h0 : γ.lim ≤ W'.heap.size) (hbe : Below w.heap.size w W') => show Calls Tryz.prog 46 #[.pointer (some ⟨sb, 0, none⟩), opV 5 p (.slice ba bn bc) (.slice ka kn kc) t] W' (DoesP γ W' sb db (([], (s.c.evict p).1, (s.c.evict p).2.1), s.withC (s.c.evict p).2.2)) from does_evict hs hI.ok (bd_up hbd (Ca.In.refl _ 0) (by omega)) h0 hp)
  unfold opV at *
  obtain ⟨c0, c1, ⟨o0, o1, o2, o3, o4⟩, cd⟩ := P1.cells
  have DD := dead_ok cd
  have HP := Lib.hid P1
  have HW := Lib.hid hW1
  have HI := Lib.hid hI
  have HB := Lib.hid hB
  obtain ⟨bs, hbs⟩ : ∃ bs : Bs, [] = bs := ⟨_, rfl⟩
  obtain ⟨m, hm⟩ : ∃ m, bs.length = m := ⟨_, rfl⟩
  have HLN : Hid (bs.length = m) := Lib.hid hm
  rw [hbs] at DO
  have HQ := Lib.hid (hI.evict p)
  have HAL : Hid (s.c.d.Al → (s.withC (s.c.evict p).2.2).c.d.Al) := Lib.hid (fun h => Ca.evict_k h p)
  generalize s.withC (s.c.evict p).2.2 = s2 at *
  generalize (s.c.evict p).2.1 = en at *
  generalize (s.c.evict p).1 = is at *
  clear hm
  have DOA : Hid (Calls Tryz.prog 46 #[.pointer (some ⟨sb, 0, none⟩), .agg #[.int .i64 5, .int .i64 p, .slice ba bn bc, .slice ka kn kc, .int .i64 t]] W1.drew (fun e w' => ∃ a c, e = .returned (.agg #[.slice a m c, .bool is, .int .i64 (en : Int)]) ∧ Hid ((∃ γ' : Gh, (γ'.B = w.heap.size ∧ γ'.lim ≤ w'.heap.size ∧ Below w.heap.size w w') ∧ SpV γ' w' sb db s2 ∧ WB γ' w' wb db sb now last wanted torn ∧ w'.heap[W.heap.size]? = some (.cells #[.int .i64 5, .int .i64 p, .slice ba bn bc, .slice ka kn kc, .int .i64 t] 73 (0, 0)) ∧ RV w' (.slice a m c) bs) ∧ True))) := Lib.hid (by
    obtain ⟨⟨γ, g, hs, hw, ht⟩, ho⟩ := HP.out.below (Below.drew (Below.refl _ _))
    refine (DO.out γ _ hs g.2.1 g.2.2).mono ?_
    rintro e w' ⟨a, c, h1, h2⟩
    obtain ⟨γ', f1, f2, f3, f4, f5, f6⟩ := PrP.after g hw ht ho h2.out
    exact ⟨a, c, HLN.out ▸ h1, Lib.hid ⟨⟨γ', f1, f2, f3, f4, HLN.out ▸ f5⟩, trivial⟩⟩)
  have DOB : Hid (Calls Tryz.prog 46 #[.pointer (some ⟨sb, 0, none⟩), .agg #[.int .i64 5, .int .i64 p, .slice ba bn bc, .slice ka kn kc, .int .i64 t]] (W1.drew.alloc (.cells #[.slice none 0 0, .bool false, .int .i64 0] 79)) (fun e w' => ∃ a c, e = .returned (.agg #[.slice a m c, .bool is, .int .i64 (en : Int)]) ∧ Hid ((∃ γ' : Gh, (γ'.B = w.heap.size ∧ γ'.lim ≤ w'.heap.size ∧ Below w.heap.size w w') ∧ SpV γ' w' sb db s2 ∧ WB γ' w' wb db sb now last wanted torn ∧ w'.heap[W.heap.size]? = some (.cells #[.int .i64 5, .int .i64 p, .slice ba bn bc, .slice ka kn kc, .int .i64 t] 73 (0, 0)) ∧ RV w' (.slice a m c) bs ∧ Tag γ' w' W1.heap.size 33) ∧ w'.heap[W1.heap.size]? = some (.cells z79 79 (0, 0))))) := Lib.hid (by
    obtain ⟨γ, g, hs, hw, ht, hT⟩ := (HP.out.below (Below.drew (Below.refl _ _))).told (C := z79)
    have hO2 := (Below.heap_alloc W1.drew (.cells z79 79) _ (Array.getElem?_eq_some_iff.1 HP.out.op).1).trans HP.out.op
    have hz := (Go.MapKept.heap_alloc W1.drew (.cells z79 79)).1
    have lz := (Array.getElem?_eq_some_iff.1 hz).1
    refine (DO.out γ _ hs g.2.1 g.2.2).mono ?_
    rintro e w' ⟨a, c, h1, h2⟩
    obtain ⟨γ', f1, f2, f3, f4, f5, f6⟩ := PrP.after g hw ht hO2 h2.out
    exact ⟨a, c, HLN.out ▸ h1, Lib.hid ⟨⟨γ', f1, f2, f3, f4, HLN.out ▸ f5, (f6 _ lz hT).2⟩, (f6 _ lz hT).1.trans hz⟩⟩)
  have HSP : Hid (∀ W', Below W1.heap.size W1 W' → W'.cell? ⟨wb, 1, none⟩ = some (.pointer (some ⟨sb, 0, none⟩)) ∧ W'.cell? ⟨W.heap.size, 0, none⟩ = some (.int .i64 5) ∧ W'.cell? ⟨W.heap.size, 1, none⟩ = some (.int .i64 p) ∧ W'.cell? ⟨W.heap.size, 2, none⟩ = some (.slice ba bn bc) ∧ W'.cell? ⟨W.heap.size, 3, none⟩ = some (.slice ka kn kc) ∧ W'.cell? ⟨W.heap.size, 4, none⟩ = some (.int .i64 t)) := Lib.hid fun W' hb => ⟨cells_below hb _ _ c1, cells_below hb _ _ o0, cells_below hb _ _ o1, cells_below hb _ _ o2, cells_below hb _ _ o3, cells_below hb _ _ o4⟩
  have l1 := cell_lt' c0
  have HLT : Hid (W.heap.size < W1.heap.size ∧ wb < W.heap.size) := Lib.hid ⟨cell_lt' o0, by obtain ⟨γ, g, hs, hw⟩ := h; exact hw.lt⟩
  clear hW1 hb1 hO1 P1 hI hB h DO
  go_enter Tryz.func36, Tryz.ntmps36
  go_upto_region 1 with fail
  rw [HW.out]
  go_upto_region 7 with (go_at_call 75; refine DD.mono ?_; rintro e w4 ⟨rfl, hw4⟩; subst w4)
  clear DD
  apply cut_tail (fun T a c X => Hid (AnP w X db sb wb W.heap.size T s2 now last wanted torn 5 p t (.slice ba bn bc) (.slice ka kn kc) (.slice a m c) is en bs))
  · intro TAIL
    refine wp_region_held_drew (S := (fun W' => W'.cell? ⟨wb, 1, none⟩ = some (.pointer (some ⟨sb, 0, none⟩)) ∧ W'.cell? ⟨W.heap.size, 0, none⟩ = some (.int .i64 5) ∧ W'.cell? ⟨W.heap.size, 1, none⟩ = some (.int .i64 p) ∧ W'.cell? ⟨W.heap.size, 2, none⟩ = some (.slice ba bn bc) ∧ W'.cell? ⟨W.heap.size, 3, none⟩ = some (.slice ka kn kc) ∧ W'.cell? ⟨W.heap.size, 4, none⟩ = some (.int .i64 t))) (by kernel_rfl) ?_ (fun hHeld => ?_)
    · (with_reducible refine HSP.out _ ?_; (repeat (first | with_reducible exact Below.refl _ _ | with_reducible assumption | with_reducible refine Below.drew ?_ | with_reducible refine Below.allocs ?_ _)); done)
    refine wpAnyH_take (i := 0) (oi := { dst := some 30, op := .move (.tmp 0), type := _, pos := _, after := _, guard := none }) (v := ?va1) rfl (by kernel_rfl) (by kernel_rfl) (by kernel_rfl) (fun _ _ _ h => h) (Or.inl ⟨by rfl, ?hya1⟩) (by assumption) ?resta1
    case hya1 => (intro w hSw; (try dsimp only at hSw); go_simp; try with_reducible rfl)
    try simp only [Act.put, List.setIfInBounds_toArray, List.set_cons_zero, List.set_cons_succ]
    refine wpAnyH_take (i := 1) (oi := { dst := some 31, op := .nilCheck (.tmp 30), type := _, pos := _, after := _, guard := none }) (v := ?va2) rfl (by kernel_rfl) (by kernel_rfl) (by kernel_rfl) (fun _ _ _ h => h) (Or.inl ⟨by rfl, ?hya2⟩) (by assumption) ?resta2
    case hya2 => (intro w hSw; (try dsimp only at hSw); go_simp; try with_reducible rfl)
    try simp only [Act.put, List.setIfInBounds_toArray, List.set_cons_zero, List.set_cons_succ]
    refine wpAnyH_take (i := 2) (oi := { dst := some 32, op := .fieldAddr 33 (.tmp 31) 1, type := _, pos := _, after := _, guard := none }) (v := ?va3) rfl (by kernel_rfl) (by kernel_rfl) (by kernel_rfl) (fun _ _ _ h => h) (Or.inl ⟨by rfl, ?hya3⟩) (by assumption) ?resta3
    case hya3 => (intro w hSw; (try dsimp only at hSw); go_simp; try with_reducible rfl)
    try simp only [Act.put, List.setIfInBounds_toArray, List.set_cons_zero, List.set_cons_succ]
    refine wpAnyH_take (i := 3) (oi := { dst := some 33, op := .load 27 (.tmp 32), type := _, pos := _, after := _, guard := none }) (v := ?va4) rfl (by kernel_rfl) (by kernel_rfl) (by kernel_rfl) (fun _ _ _ h => h) (Or.inl ⟨by rfl, ?hya4⟩) (by assumption) ?resta4
    case hya4 => (intro w hSw; (try dsimp only at hSw); go_simp; try with_reducible rfl)
    try simp only [Act.put, List.setIfInBounds_toArray, List.set_cons_zero, List.set_cons_succ]
    refine wpAnyH_take (i := 4) (oi := { dst := some 34, op := .load 73 (.tmp 3), type := _, pos := _, after := _, guard := none }) (v := ?va5) rfl (by kernel_rfl) (by kernel_rfl) (by kernel_rfl) (fun _ _ _ h => h) (Or.inl ⟨by rfl, ?hya5⟩) (by assumption) ?resta5
    case hya5 => (intro w hSw; (try dsimp only at hSw); go_simp; try with_reducible rfl)
    try simp only [Act.put, List.setIfInBounds_toArray, List.set_cons_zero, List.set_cons_succ]
    refine wpAnyH_ready (rs := [5, 6]) (by kernel_rfl) (by simp) ?_
    refine AllReadyH.cons (o := { dst := some 35, op := .call { callee := .value (.func 46), args := #[(.tmp 33), (.tmp 34)], argTypes := #[27, 73] }, type := _, pos := _, after := _, guard := none }) rfl (fun K hK => ?_) (AllReadyH.cons (o := { dst := some 6, op := .alloc 79, type := _, pos := _, after := _, guard := none }) rfl (fun K hK => ?_) AllReadyH.nil)
    · go_simp
      go_at_call 46
      refine (DOA.out).mono ?_
      rintro e w5 ⟨a5, c5, rfl, hq5⟩
      have HSA : Hid (∀ W', Below w5.heap.size w5 W' → W'.cell? ⟨wb, 1, none⟩ = some (.pointer (some ⟨sb, 0, none⟩)) ∧ W'.cell? ⟨W.heap.size, 0, none⟩ = some (.int .i64 5) ∧ W'.cell? ⟨W.heap.size, 1, none⟩ = some (.int .i64 p) ∧ W'.cell? ⟨W.heap.size, 2, none⟩ = some (.slice ba bn bc) ∧ W'.cell? ⟨W.heap.size, 3, none⟩ = some (.slice ka kn kc) ∧ W'.cell? ⟨W.heap.size, 4, none⟩ = some (.int .i64 t)) := Lib.hid fun W' hb => (by
        obtain ⟨⟨γ', g1, g2, g3, g4, g5⟩, g6⟩ := hq5.out
        obtain ⟨o0, o1, o2, o3, o4, lO⟩ := op5 g4
        exact ⟨cells_below hb _ _ g3.c1, cells_below hb _ _ o0, cells_below hb _ _ o1, cells_below hb _ _ o2, cells_below hb _ _ o3, cells_below hb _ _ o4⟩)
      refine hK.out _ _ ?_ (fun hHeld => ?_)
      · exact HSA.out _ (Below.refl _ _)
      clear hK K
      try simp only [Act.put, List.setIfInBounds_toArray, List.set_cons_zero, List.set_cons_succ]
      refine wpAnyH_ready (rs := [6]) (by kernel_rfl) (by simp) ?_
      refine AllReadyH.cons (o := { dst := some 6, op := .alloc 79, type := _, pos := _, after := _, guard := none }) rfl (fun K hK => ?_) AllReadyH.nil
      go_simp
      refine hK.out _ _ ?_ (fun hHeld => ?_)
      · (with_reducible refine HSA.out _ ?_; (repeat (first | with_reducible exact Below.refl _ _ | with_reducible assumption | with_reducible refine Below.drew ?_ | with_reducible refine Below.allocs ?_ _)); done)
      clear hK K
      try simp only [Act.put, List.setIfInBounds_toArray, List.set_cons_zero, List.set_cons_succ]
      refine wpAnyH_ready (rs := [7]) (by kernel_rfl) (by simp) ?_
      refine AllReadyH.cons (o := { dst := none, op := .store 79 (.tmp 6) (.tmp 35), type := _, pos := _, after := _, guard := none }) rfl (fun K hK => ?_) AllReadyH.nil
      go_simp
      refine hK.out _ _ ?_ (fun hHeld => ?_)
      · (with_reducible refine HSA.out _ ?_; (repeat (first | with_reducible exact Below.refl _ _ | with_reducible assumption | with_reducible refine Below.drew ?_ | with_reducible refine Below.allocs ?_ _)); done)
      clear hK K
      try simp only [Act.put, List.setIfInBounds_toArray, List.set_cons_zero, List.set_cons_succ]
      refine wpAnyH_done (by kernel_rfl) ?_ _
      refine take_last ?_
      intro X hX
      generalize hT : w5.heap.size = T
      refine TAIL T a5 c5 X (Lib.hid ?_)
      obtain ⟨⟨γ', g1, g2, g3, g4, g5⟩, g6⟩ := hq5.out
      have hb : Below w5.heap.size w5 X := hX ▸ Below.alloc (Below.refl _ _) (Nat.le_refl _) _
      have st : Step γ' (fun _ => false) w5 X := Step.below hb g1.2.1
      have lO := (Array.getElem?_eq_some_iff.1 g4).1
      exact ⟨⟨γ', ⟨g1.1, Nat.le_trans g1.2.1 st.size, g1.2.2.trans (g1.1 ▸ st.be)⟩, g2.below hb g1.2.1, g3.keep st rfl⟩, (hb.block _ lO).trans g4, by rw [← hX, ← hT]; exact (Go.MapKept.heap_alloc w5 _).1, g5.keep hb⟩
    · go_simp
      refine hK.out _ _ ?_ (fun hHeld => ?_)
      · (with_reducible refine HSP.out _ ?_; (repeat (first | with_reducible exact Below.refl _ _ | with_reducible assumption | with_reducible refine Below.drew ?_ | with_reducible refine Below.allocs ?_ _)); done)
      clear hK K
      try simp only [Act.put, List.setIfInBounds_toArray, List.set_cons_zero, List.set_cons_succ]
      refine wpAnyH_ready (rs := [5]) (by kernel_rfl) (by simp) ?_
      refine AllReadyH.cons (o := { dst := some 35, op := .call { callee := .value (.func 46), args := #[(.tmp 33), (.tmp 34)], argTypes := #[27, 73] }, type := _, pos := _, after := _, guard := none }) rfl (fun K hK => ?_) AllReadyH.nil
      go_simp
      go_at_call 46
      refine (DOB.out).mono ?_
      rintro e w5 ⟨a5, c5, rfl, hq5⟩
      have HSA : Hid (∀ W', Below w5.heap.size w5 W' → W'.cell? ⟨wb, 1, none⟩ = some (.pointer (some ⟨sb, 0, none⟩)) ∧ W'.cell? ⟨W.heap.size, 0, none⟩ = some (.int .i64 5) ∧ W'.cell? ⟨W.heap.size, 1, none⟩ = some (.int .i64 p) ∧ W'.cell? ⟨W.heap.size, 2, none⟩ = some (.slice ba bn bc) ∧ W'.cell? ⟨W.heap.size, 3, none⟩ = some (.slice ka kn kc) ∧ W'.cell? ⟨W.heap.size, 4, none⟩ = some (.int .i64 t)) := Lib.hid fun W' hb => (by
        obtain ⟨⟨γ', g1, g2, g3, g4, g5⟩, g6⟩ := hq5.out
        obtain ⟨o0, o1, o2, o3, o4, lO⟩ := op5 g4
        exact ⟨cells_below hb _ _ g3.c1, cells_below hb _ _ o0, cells_below hb _ _ o1, cells_below hb _ _ o2, cells_below hb _ _ o3, cells_below hb _ _ o4⟩)
      obtain ⟨y0, y1, y2, zy0, zy1, zy2, lB⟩ := z79_cells hq5.out.2
      refine hK.out _ _ ?_ (fun hHeld => ?_)
      · (obtain ⟨⟨γ', g1, g2, g3, g4, g5⟩, g6⟩ := hq5.out; obtain ⟨o0, o1, o2, o3, o4, lO⟩ := op5 g4; exact ⟨g3.c1, o0, o1, o2, o3, o4⟩)
      clear hK K
      try simp only [Act.put, List.setIfInBounds_toArray, List.set_cons_zero, List.set_cons_succ]
      refine wpAnyH_ready (rs := [7]) (by kernel_rfl) (by simp) ?_
      refine AllReadyH.cons (o := { dst := none, op := .store 79 (.tmp 6) (.tmp 35), type := _, pos := _, after := _, guard := none }) rfl (fun K hK => ?_) AllReadyH.nil
      go_simp
      refine hK.out _ _ ?_ (fun hHeld => ?_)
      · (obtain ⟨⟨γ', g1, g2, g3, g4, g5⟩, g6⟩ := hq5.out; have hO := (heap3 w5 W1.heap.size (.slice a5 m c5) (.bool is) (.int .i64 (en : Int)) (j := W.heap.size) (by have := HLT.out.1; omega)).trans g4; have hW := heap3 w5 W1.heap.size (.slice a5 m c5) (.bool is) (.int .i64 (en : Int)) (j := wb) (by have := HLT.out; omega); obtain ⟨o0, o1, o2, o3, o4, lO⟩ := op5 hO; exact ⟨(cell_of_heap (a := ⟨wb, 1, none⟩) hW).1.trans g3.c1, o0, o1, o2, o3, o4⟩)
      clear hK K
      try simp only [Act.put, List.setIfInBounds_toArray, List.set_cons_zero, List.set_cons_succ]
      refine wpAnyH_done (by kernel_rfl) ?_ _
      refine take_last ?_
      intro X hX
      have HLT2 : Hid (wb < W1.heap.size ∧ W.heap.size ≠ W1.heap.size) := Lib.hid (by have := HLT.out; omega)
      clear y0 y1 y2 zy0 zy1 zy2 lB
      generalize hT : W1.heap.size = T at hX hq5 HLT2 ⊢
      refine TAIL T a5 c5 X (Lib.hid ?_)
      obtain ⟨⟨γ', g1, g2, g3, g4, g5, g8⟩, g6⟩ := hq5.out
      exact AnP.laid g1 g2 g3 g4 g5 g6 g8 HLT2.out.1 HLT2.out.2 hX
  · intro T a c X HA
    obtain ⟨t0, t1, t2, lT⟩ := c79 HA.out.tl
    obtain ⟨o0, o1, o2, o3, o4, lO⟩ := op5 HA.out.op
    clear HP HSP DOA DOB HW c0 c1 cd l1 hN hbd
    have HWI := Lib.hid HQ.out.2
    cases hd : s.c.d.dead with
    | true =>
      obtain rfl := HQ.out.1 hd
      go_wp2_with fail
      go_ret
      exact ⟨rfl, Lib.hid ⟨_, _, _, _, _, _, HA.out.wl, HWI.out, HB.out, HAL.out⟩⟩
    | false =>
      by_cases he : en = 0
      · subst he
        go_wp2_with fail
        go_ret
        exact ⟨rfl, Lib.hid ⟨_, _, _, _, _, _, HA.out.wl, HWI.out, HB.out, HAL.out⟩⟩
      · have i5 : ¬ (en : Int) = 0 := by omega
        have i6 : ((en : Int) == 0) = false := by rw [beq_eq_false_iff_ne]; exact i5
        go_wp2_with fail
        go_ret
        exact ⟨rfl, Lib.hid ⟨_, _, _, _, _, _, HA.out.wl, HWI.out, HB.out, HAL.out⟩⟩
theorem world_else (h : WL w W db sb wb s now last wanted torn) (hI : WI N k s now last wanted torn) (hk : k ≤ 100) (hB : By now ∧ By last ∧ By wanted) {kd : Int} (hkd : kd ≠ 0 ∧ kd ≠ 1 ∧ kd ≠ 2 ∧ kd ≠ 3 ∧ kd ≠ 4 ∧ kd ≠ 5 ∧ kd ≠ 6 ∧ kd ≠ 7) :
    Calls Tryz.prog 36 #[.pointer (some ⟨wb, 0, none⟩), opV kd p (.slice ba bn bc) (.slice ka kn kc) t] W (DoesW w db wb N k s.c.d.Al) := by
  have hbd : s.Bd 5000 := ⟨by have := hI.clk; omega, by have := hI.P; omega⟩
  have hN : 2 ≤ s.c.d.N ∧ s.c.d.N ≤ 4096 := by have := hI.hN; have := hI.hN2; omega
  obtain ⟨W1, hW1⟩ : ∃ W1, W.alloc (.cells #[.int .i64 kd, .int .i64 p, .slice ba bn bc, .slice ka kn kc, .int .i64 t] 73) = W1 := ⟨_, rfl⟩
  have hb1 : Below W.heap.size W W1 := hW1 ▸ Below.alloc (Below.refl _ _) (Nat.le_refl _) _
  have hO1 : W1.heap[W.heap.size]? = some (.cells #[.int .i64 kd, .int .i64 p, .slice ba bn bc, .slice ka kn kc, .int .i64 t] 73 (0, 0)) := hW1 ▸ (Go.MapKept.heap_alloc W _).1
  have P1 : PrP w W1 db sb wb W.heap.size s now last wanted torn kd p t (.slice ba bn bc) (.slice ka kn kc) := by
    obtain ⟨γ, g, hs, hw⟩ := h
    have st : Step γ (fun _ => false) W W1 := Step.below hb1 g.2.1
    exact ⟨⟨γ, ⟨g.1, Nat.le_trans g.2.1 st.size, g.2.2.trans (g.1 ▸ st.be)⟩, hs.below hb1 g.2.1, hw.keep st rfl, Tag.new g.2.1 hO1⟩, hO1⟩
  have DO := Lib.hid (fun (γ : Gh) (W' : World) (hs : SpV γ W' sb db s) (h0 : γ.lim ≤ W'.heap.size) (hbe : Below w.heap.size w W') => show Calls Tryz.prog 46 #[.pointer (some ⟨sb, 0, none⟩), opV kd p (.slice ba bn bc) (.slice ka kn kc) t] W' (DoesP γ W' sb db (([], false, 0), s)) from does_else hs h0 ⟨hkd.1, hkd.2.1, hkd.2.2.1, hkd.2.2.2.1, hkd.2.2.2.2.1, hkd.2.2.2.2.2.1⟩)
  unfold opV at *
  obtain ⟨c0, c1, ⟨o0, o1, o2, o3, o4⟩, cd⟩ := P1.cells
  have DD := dead_ok cd
  have HP := Lib.hid P1
  have HW := Lib.hid hW1
  have HI := Lib.hid hI
  have HAL : Hid (s.c.d.Al → s.c.d.Al) := Lib.hid (fun h => h)
  have HB := Lib.hid hB
  obtain ⟨bs, hbs⟩ : ∃ bs : Bs, [] = bs := ⟨_, rfl⟩
  obtain ⟨m, hm⟩ : ∃ m, bs.length = m := ⟨_, rfl⟩
  have HLN : Hid (bs.length = m) := Lib.hid hm
  rw [hbs] at DO
  have hkd2 : kd < 0 ∨ 5 < kd := by omega
  have HWI := Lib.hid hI.more
  obtain ⟨en, hen⟩ : ∃ en : Nat, en = 0 := ⟨_, rfl⟩
  have HEN := Lib.hid hen
  obtain ⟨a0, a1, a2, a3, a4, a5, a6, a7⟩ := hkd
  have b0 : (kd == 0) = false := by rw [beq_eq_false_iff_ne]; exact a0
  have b1 : (kd == 1) = false := by rw [beq_eq_false_iff_ne]; exact a1
  have b2 : (kd == 2) = false := by rw [beq_eq_false_iff_ne]; exact a2
  have b3 : (kd == 3) = false := by rw [beq_eq_false_iff_ne]; exact a3
  have b4 : (kd == 4) = false := by rw [beq_eq_false_iff_ne]; exact a4
  have b5 : (kd == 5) = false := by rw [beq_eq_false_iff_ne]; exact a5
  have b6 : (kd == 6) = false := by rw [beq_eq_false_iff_ne]; exact a6
  have b7 : (kd == 7) = false := by rw [beq_eq_false_iff_ne]; exact a7
  clear hm hen
  have DOA : Hid (Calls Tryz.prog 46 #[.pointer (some ⟨sb, 0, none⟩), .agg #[.int .i64 kd, .int .i64 p, .slice ba bn bc, .slice ka kn kc, .int .i64 t]] W1.drew (fun e w' => ∃ a c, e = .returned (.agg #[.slice a m c, .bool false, .int .i64 (en : Int)]) ∧ Hid ((∃ γ' : Gh, (γ'.B = w.heap.size ∧ γ'.lim ≤ w'.heap.size ∧ Below w.heap.size w w') ∧ SpV γ' w' sb db s ∧ WB γ' w' wb db sb now last wanted torn ∧ w'.heap[W.heap.size]? = some (.cells #[.int .i64 kd, .int .i64 p, .slice ba bn bc, .slice ka kn kc, .int .i64 t] 73 (0, 0)) ∧ RV w' (.slice a m c) bs) ∧ True))) := Lib.hid (by
    obtain ⟨⟨γ, g, hs, hw, ht⟩, ho⟩ := HP.out.below (Below.drew (Below.refl _ _))
    refine (DO.out γ _ hs g.2.1 g.2.2).mono ?_
    rintro e w' ⟨a, c, h1, h2⟩
    obtain ⟨γ', f1, f2, f3, f4, f5, f6⟩ := PrP.after g hw ht ho h2.out
    exact ⟨a, c, (by rw [HEN.out]; exact (HLN.out ▸ h1)), Lib.hid ⟨⟨γ', f1, f2, f3, f4, HLN.out ▸ f5⟩, trivial⟩⟩)
  have DOB : Hid (Calls Tryz.prog 46 #[.pointer (some ⟨sb, 0, none⟩), .agg #[.int .i64 kd, .int .i64 p, .slice ba bn bc, .slice ka kn kc, .int .i64 t]] (W1.drew.alloc (.cells #[.slice none 0 0, .bool false, .int .i64 0] 79)) (fun e w' => ∃ a c, e = .returned (.agg #[.slice a m c, .bool false, .int .i64 (en : Int)]) ∧ Hid ((∃ γ' : Gh, (γ'.B = w.heap.size ∧ γ'.lim ≤ w'.heap.size ∧ Below w.heap.size w w') ∧ SpV γ' w' sb db s ∧ WB γ' w' wb db sb now last wanted torn ∧ w'.heap[W.heap.size]? = some (.cells #[.int .i64 kd, .int .i64 p, .slice ba bn bc, .slice ka kn kc, .int .i64 t] 73 (0, 0)) ∧ RV w' (.slice a m c) bs ∧ Tag γ' w' W1.heap.size 33) ∧ w'.heap[W1.heap.size]? = some (.cells z79 79 (0, 0))))) := Lib.hid (by
    obtain ⟨γ, g, hs, hw, ht, hT⟩ := (HP.out.below (Below.drew (Below.refl _ _))).told (C := z79)
    have hO2 := (Below.heap_alloc W1.drew (.cells z79 79) _ (Array.getElem?_eq_some_iff.1 HP.out.op).1).trans HP.out.op
    have hz := (Go.MapKept.heap_alloc W1.drew (.cells z79 79)).1
    have lz := (Array.getElem?_eq_some_iff.1 hz).1
    refine (DO.out γ _ hs g.2.1 g.2.2).mono ?_
    rintro e w' ⟨a, c, h1, h2⟩
    obtain ⟨γ', f1, f2, f3, f4, f5, f6⟩ := PrP.after g hw ht hO2 h2.out
    exact ⟨a, c, (by rw [HEN.out]; exact (HLN.out ▸ h1)), Lib.hid ⟨⟨γ', f1, f2, f3, f4, HLN.out ▸ f5, (f6 _ lz hT).2⟩, (f6 _ lz hT).1.trans hz⟩⟩)
  have HSP : Hid (∀ W', Below W1.heap.size W1 W' → W'.cell? ⟨wb, 1, none⟩ = some (.pointer (some ⟨sb, 0, none⟩)) ∧ W'.cell? ⟨W.heap.size, 0, none⟩ = some (.int .i64 kd) ∧ W'.cell? ⟨W.heap.size, 1, none⟩ = some (.int .i64 p) ∧ W'.cell? ⟨W.heap.size, 2, none⟩ = some (.slice ba bn bc) ∧ W'.cell? ⟨W.heap.size, 3, none⟩ = some (.slice ka kn kc) ∧ W'.cell? ⟨W.heap.size, 4, none⟩ = some (.int .i64 t)) := Lib.hid fun W' hb => ⟨cells_below hb _ _ c1, cells_below hb _ _ o0, cells_below hb _ _ o1, cells_below hb _ _ o2, cells_below hb _ _ o3, cells_below hb _ _ o4⟩
  have l1 := cell_lt' c0
  have HLT : Hid (W.heap.size < W1.heap.size ∧ wb < W.heap.size) := Lib.hid ⟨cell_lt' o0, by obtain ⟨γ, g, hs, hw⟩ := h; exact hw.lt⟩
  clear hW1 hb1 hO1 P1 hI hB h DO
  go_enter Tryz.func36, Tryz.ntmps36
  go_upto_region 1 with fail
  rw [HW.out]
  go_upto_region 7 with (go_at_call 75; refine DD.mono ?_; rintro e w4 ⟨rfl, hw4⟩; subst w4)
  clear DD
  apply cut_tail (fun T a c X => Hid (AnP w X db sb wb W.heap.size T s now last wanted torn kd p t (.slice ba bn bc) (.slice ka kn kc) (.slice a m c) false en bs))
  · intro TAIL
    refine wp_region_held_drew (S := (fun W' => W'.cell? ⟨wb, 1, none⟩ = some (.pointer (some ⟨sb, 0, none⟩)) ∧ W'.cell? ⟨W.heap.size, 0, none⟩ = some (.int .i64 kd) ∧ W'.cell? ⟨W.heap.size, 1, none⟩ = some (.int .i64 p) ∧ W'.cell? ⟨W.heap.size, 2, none⟩ = some (.slice ba bn bc) ∧ W'.cell? ⟨W.heap.size, 3, none⟩ = some (.slice ka kn kc) ∧ W'.cell? ⟨W.heap.size, 4, none⟩ = some (.int .i64 t))) (by kernel_rfl) ?_ (fun hHeld => ?_)
    · (with_reducible refine HSP.out _ ?_; (repeat (first | with_reducible exact Below.refl _ _ | with_reducible assumption | with_reducible refine Below.drew ?_ | with_reducible refine Below.allocs ?_ _)); done)
    refine wpAnyH_take (i := 0) (oi := { dst := some 30, op := .move (.tmp 0), type := _, pos := _, after := _, guard := none }) (v := ?va1) rfl (by kernel_rfl) (by kernel_rfl) (by kernel_rfl) (fun _ _ _ h => h) (Or.inl ⟨by rfl, ?hya1⟩) (by assumption) ?resta1
    case hya1 => (intro w hSw; (try dsimp only at hSw); go_simp; try with_reducible rfl)
    try simp only [Act.put, List.setIfInBounds_toArray, List.set_cons_zero, List.set_cons_succ]
    refine wpAnyH_take (i := 1) (oi := { dst := some 31, op := .nilCheck (.tmp 30), type := _, pos := _, after := _, guard := none }) (v := ?va2) rfl (by kernel_rfl) (by kernel_rfl) (by kernel_rfl) (fun _ _ _ h => h) (Or.inl ⟨by rfl, ?hya2⟩) (by assumption) ?resta2
    case hya2 => (intro w hSw; (try dsimp only at hSw); go_simp; try with_reducible rfl)
    try simp only [Act.put, List.setIfInBounds_toArray, List.set_cons_zero, List.set_cons_succ]
    refine wpAnyH_take (i := 2) (oi := { dst := some 32, op := .fieldAddr 33 (.tmp 31) 1, type := _, pos := _, after := _, guard := none }) (v := ?va3) rfl (by kernel_rfl) (by kernel_rfl) (by kernel_rfl) (fun _ _ _ h => h) (Or.inl ⟨by rfl, ?hya3⟩) (by assumption) ?resta3
    case hya3 => (intro w hSw; (try dsimp only at hSw); go_simp; try with_reducible rfl)
    try simp only [Act.put, List.setIfInBounds_toArray, List.set_cons_zero, List.set_cons_succ]
    refine wpAnyH_take (i := 3) (oi := { dst := some 33, op := .load 27 (.tmp 32), type := _, pos := _, after := _, guard := none }) (v := ?va4) rfl (by kernel_rfl) (by kernel_rfl) (by kernel_rfl) (fun _ _ _ h => h) (Or.inl ⟨by rfl, ?hya4⟩) (by assumption) ?resta4
    case hya4 => (intro w hSw; (try dsimp only at hSw); go_simp; try with_reducible rfl)
    try simp only [Act.put, List.setIfInBounds_toArray, List.set_cons_zero, List.set_cons_succ]
    refine wpAnyH_take (i := 4) (oi := { dst := some 34, op := .load 73 (.tmp 3), type := _, pos := _, after := _, guard := none }) (v := ?va5) rfl (by kernel_rfl) (by kernel_rfl) (by kernel_rfl) (fun _ _ _ h => h) (Or.inl ⟨by rfl, ?hya5⟩) (by assumption) ?resta5
    case hya5 => (intro w hSw; (try dsimp only at hSw); go_simp; try with_reducible rfl)
    try simp only [Act.put, List.setIfInBounds_toArray, List.set_cons_zero, List.set_cons_succ]
    refine wpAnyH_ready (rs := [5, 6]) (by kernel_rfl) (by simp) ?_
    refine AllReadyH.cons (o := { dst := some 35, op := .call { callee := .value (.func 46), args := #[(.tmp 33), (.tmp 34)], argTypes := #[27, 73] }, type := _, pos := _, after := _, guard := none }) rfl (fun K hK => ?_) (AllReadyH.cons (o := { dst := some 6, op := .alloc 79, type := _, pos := _, after := _, guard := none }) rfl (fun K hK => ?_) AllReadyH.nil)
    · go_simp
      go_at_call 46
      refine (DOA.out).mono ?_
      rintro e w5 ⟨a5, c5, rfl, hq5⟩
      have HSA : Hid (∀ W', Below w5.heap.size w5 W' → W'.cell? ⟨wb, 1, none⟩ = some (.pointer (some ⟨sb, 0, none⟩)) ∧ W'.cell? ⟨W.heap.size, 0, none⟩ = some (.int .i64 kd) ∧ W'.cell? ⟨W.heap.size, 1, none⟩ = some (.int .i64 p) ∧ W'.cell? ⟨W.heap.size, 2, none⟩ = some (.slice ba bn bc) ∧ W'.cell? ⟨W.heap.size, 3, none⟩ = some (.slice ka kn kc) ∧ W'.cell? ⟨W.heap.size, 4, none⟩ = some (.int .i64 t)) := Lib.hid fun W' hb => (by
        obtain ⟨⟨γ', g1, g2, g3, g4, g5⟩, g6⟩ := hq5.out
        obtain ⟨o0, o1, o2, o3, o4, lO⟩ := op5 g4
        exact ⟨cells_below hb _ _ g3.c1, cells_below hb _ _ o0, cells_below hb _ _ o1, cells_below hb _ _ o2, cells_below hb _ _ o3, cells_below hb _ _ o4⟩)
      refine hK.out _ _ ?_ (fun hHeld => ?_)
      · exact HSA.out _ (Below.refl _ _)
      clear hK K
      try simp only [Act.put, List.setIfInBounds_toArray, List.set_cons_zero, List.set_cons_succ]
      refine wpAnyH_ready (rs := [6]) (by kernel_rfl) (by simp) ?_
      refine AllReadyH.cons (o := { dst := some 6, op := .alloc 79, type := _, pos := _, after := _, guard := none }) rfl (fun K hK => ?_) AllReadyH.nil
      go_simp
      refine hK.out _ _ ?_ (fun hHeld => ?_)
      · (with_reducible refine HSA.out _ ?_; (repeat (first | with_reducible exact Below.refl _ _ | with_reducible assumption | with_reducible refine Below.drew ?_ | with_reducible refine Below.allocs ?_ _)); done)
      clear hK K
      try simp only [Act.put, List.setIfInBounds_toArray, List.set_cons_zero, List.set_cons_succ]
      refine wpAnyH_ready (rs := [7]) (by kernel_rfl) (by simp) ?_
      refine AllReadyH.cons (o := { dst := none, op := .store 79 (.tmp 6) (.tmp 35), type := _, pos := _, after := _, guard := none }) rfl (fun K hK => ?_) AllReadyH.nil
      go_simp
      refine hK.out _ _ ?_ (fun hHeld => ?_)
      · (with_reducible refine HSA.out _ ?_; (repeat (first | with_reducible exact Below.refl _ _ | with_reducible assumption | with_reducible refine Below.drew ?_ | with_reducible refine Below.allocs ?_ _)); done)
      clear hK K
      try simp only [Act.put, List.setIfInBounds_toArray, List.set_cons_zero, List.set_cons_succ]
      refine wpAnyH_done (by kernel_rfl) ?_ _
      refine take_last ?_
      intro X hX
      generalize hT : w5.heap.size = T
      refine TAIL T a5 c5 X (Lib.hid ?_)
      obtain ⟨⟨γ', g1, g2, g3, g4, g5⟩, g6⟩ := hq5.out
      have hb : Below w5.heap.size w5 X := hX ▸ Below.alloc (Below.refl _ _) (Nat.le_refl _) _
      have st : Step γ' (fun _ => false) w5 X := Step.below hb g1.2.1
      have lO := (Array.getElem?_eq_some_iff.1 g4).1
      exact ⟨⟨γ', ⟨g1.1, Nat.le_trans g1.2.1 st.size, g1.2.2.trans (g1.1 ▸ st.be)⟩, g2.below hb g1.2.1, g3.keep st rfl⟩, (hb.block _ lO).trans g4, by rw [← hX, ← hT]; exact (Go.MapKept.heap_alloc w5 _).1, g5.keep hb⟩
    · go_simp
      refine hK.out _ _ ?_ (fun hHeld => ?_)
      · (with_reducible refine HSP.out _ ?_; (repeat (first | with_reducible exact Below.refl _ _ | with_reducible assumption | with_reducible refine Below.drew ?_ | with_reducible refine Below.allocs ?_ _)); done)
      clear hK K
      try simp only [Act.put, List.setIfInBounds_toArray, List.set_cons_zero, List.set_cons_succ]
      refine wpAnyH_ready (rs := [5]) (by kernel_rfl) (by simp) ?_
      refine AllReadyH.cons (o := { dst := some 35, op := .call { callee := .value (.func 46), args := #[(.tmp 33), (.tmp 34)], argTypes := #[27, 73] }, type := _, pos := _, after := _, guard := none }) rfl (fun K hK => ?_) AllReadyH.nil
      go_simp
      go_at_call 46
      refine (DOB.out).mono ?_
      rintro e w5 ⟨a5, c5, rfl, hq5⟩
      have HSA : Hid (∀ W', Below w5.heap.size w5 W' → W'.cell? ⟨wb, 1, none⟩ = some (.pointer (some ⟨sb, 0, none⟩)) ∧ W'.cell? ⟨W.heap.size, 0, none⟩ = some (.int .i64 kd) ∧ W'.cell? ⟨W.heap.size, 1, none⟩ = some (.int .i64 p) ∧ W'.cell? ⟨W.heap.size, 2, none⟩ = some (.slice ba bn bc) ∧ W'.cell? ⟨W.heap.size, 3, none⟩ = some (.slice ka kn kc) ∧ W'.cell? ⟨W.heap.size, 4, none⟩ = some (.int .i64 t)) := Lib.hid fun W' hb => (by
        obtain ⟨⟨γ', g1, g2, g3, g4, g5⟩, g6⟩ := hq5.out
        obtain ⟨o0, o1, o2, o3, o4, lO⟩ := op5 g4
        exact ⟨cells_below hb _ _ g3.c1, cells_below hb _ _ o0, cells_below hb _ _ o1, cells_below hb _ _ o2, cells_below hb _ _ o3, cells_below hb _ _ o4⟩)
      obtain ⟨y0, y1, y2, zy0, zy1, zy2, lB⟩ := z79_cells hq5.out.2
      refine hK.out _ _ ?_ (fun hHeld => ?_)
      · (obtain ⟨⟨γ', g1, g2, g3, g4, g5⟩, g6⟩ := hq5.out; obtain ⟨o0, o1, o2, o3, o4, lO⟩ := op5 g4; exact ⟨g3.c1, o0, o1, o2, o3, o4⟩)
      clear hK K
      try simp only [Act.put, List.setIfInBounds_toArray, List.set_cons_zero, List.set_cons_succ]
      refine wpAnyH_ready (rs := [7]) (by kernel_rfl) (by simp) ?_
      refine AllReadyH.cons (o := { dst := none, op := .store 79 (.tmp 6) (.tmp 35), type := _, pos := _, after := _, guard := none }) rfl (fun K hK => ?_) AllReadyH.nil
      go_simp
      refine hK.out _ _ ?_ (fun hHeld => ?_)
      · (obtain ⟨⟨γ', g1, g2, g3, g4, g5⟩, g6⟩ := hq5.out; have hO := (heap3 w5 W1.heap.size (.slice a5 m c5) (.bool false) (.int .i64 (en : Int)) (j := W.heap.size) (by have := HLT.out.1; omega)).trans g4; have hW := heap3 w5 W1.heap.size (.slice a5 m c5) (.bool false) (.int .i64 (en : Int)) (j := wb) (by have := HLT.out; omega); obtain ⟨o0, o1, o2, o3, o4, lO⟩ := op5 hO; exact ⟨(cell_of_heap (a := ⟨wb, 1, none⟩) hW).1.trans g3.c1, o0, o1, o2, o3, o4⟩)
      clear hK K
      try simp only [Act.put, List.setIfInBounds_toArray, List.set_cons_zero, List.set_cons_succ]
      refine wpAnyH_done (by kernel_rfl) ?_ _
      refine take_last ?_
      intro X hX
      have HLT2 : Hid (wb < W1.heap.size ∧ W.heap.size ≠ W1.heap.size) := Lib.hid (by have := HLT.out; omega)
      clear y0 y1 y2 zy0 zy1 zy2 lB
      generalize hT : W1.heap.size = T at hX hq5 HLT2 ⊢
      refine TAIL T a5 c5 X (Lib.hid ?_)
      obtain ⟨⟨γ', g1, g2, g3, g4, g5, g8⟩, g6⟩ := hq5.out
      exact AnP.laid g1 g2 g3 g4 g5 g6 g8 HLT2.out.1 HLT2.out.2 hX
  · intro T a c X HA
    obtain ⟨t0, t1, t2, lT⟩ := c79 HA.out.tl
    obtain ⟨o0, o1, o2, o3, o4, lO⟩ := op5 HA.out.op
    clear HP HSP DOA DOB HW c0 c1 cd l1 hN hbd
    have hen := HEN.out
    subst hen
    cases hd : s.c.d.dead with
    | true =>
      by_cases hk0 : kd < 0
      · have i1 : decide (kd < 0) = true := decide_eq_true hk0
        go_wp2_with fail
        go_ret
        exact ⟨rfl, Lib.hid ⟨_, _, _, _, _, _, HA.out.wl, HWI.out, HB.out, HAL.out⟩⟩
      · have i1 : decide (kd < 0) = false := decide_eq_false hk0
        have hk5 : 5 < kd := hkd2.resolve_left hk0
        have i2 : decide (5 < kd) = true := decide_eq_true hk5
        go_wp2_with fail
        go_ret
        exact ⟨rfl, Lib.hid ⟨_, _, _, _, _, _, HA.out.wl, HWI.out, HB.out, HAL.out⟩⟩
    | false =>
      go_wp2_with fail
      go_ret
      exact ⟨rfl, Lib.hid ⟨_, _, _, _, _, _, HA.out.wl, HWI.out, HB.out, HAL.out⟩⟩
end
end Go.Tb
