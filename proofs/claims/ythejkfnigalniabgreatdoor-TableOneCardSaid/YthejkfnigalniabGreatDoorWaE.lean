/- A part of a proof about the table over the shadow space: what a function of the program answers, walked by hand. Each theorem says its own conditions. -/
import Derived.Test.YthejkfnigalniabGreatDoorWaDb
import Derived.Test.YthejkfnigalniabGreatDoorPlb
set_option linter.unusedVariables false
set_option linter.unusedSimpArgs false
set_option maxRecDepth 100000
set_option maxHeartbeats 1600000
namespace Go.Tb
open Go Go.RowKit Go.Proofs Go.Maps Go.Sp
theorem pages_s {γ : Gh} {w : World} {sb db : Nat} {s : Sp} (H : SpV γ w sb db s) (h0 : γ.lim ≤ w.heap.size) :
    Calls Tryz.prog 18 #[.pointer (some ⟨sb, 0, none⟩)] w fun e w' => (∃ v, e = .returned v ∧ NR γ w' v (pgs s.own)) ∧ Below w.heap.size w w' := by
  obtain ⟨cb, rb, ob, kb, HU, HK⟩ := H
  have PG := (pages_ok HU.mo.v).mono (R' := fun e w' => ∃ a c, e = .returned (.slice a (pgs s.own).length c) ∧ NR γ w' (.slice a (pgs s.own).length c) (pgs s.own) ∧ Below w.heap.size w w') fun e w' ⟨v, h1, h2, h3⟩ => by
    have hN : NR γ w' v (pgs s.own) := NR.row (by rw [← pgs_eq, List.map_map]; exact h2) h0
    obtain ⟨a, c, rfl⟩ := hN.shape
    exact ⟨a, c, h1, hN, h3⟩
  have s14 := HU.s14
  have hl := HU.lt
  clear HU HK
  go_enter Tryz.func18, Tryz.ntmps18
  go_wp2_with (go_at_call 46; refine PG.mono ?_; rintro e w5 ⟨a, c, rfl, hr, hb⟩; have HR := Lib.hid hr; clear hr)
  go_ret
  exact ⟨⟨_, rfl, HR.out⟩, hb⟩
end Go.Tb
namespace Go.Tb
open Go Go.RowKit Go.Proofs Go.Maps Go.Sp
theorem SpU.newOwn {γ : Gh} {w : World} {sb db cb rb ob nb : Nat} {s : Sp} {f : Nat → Nat} (H : SpU γ w sb db cb rb ob s) (hm : MapK γ w nb f) (hne : rb ≠ nb) :
    SpU γ (w.setCell ⟨sb, 14, none⟩ (.pointer (some ⟨nb, 0, none⟩))) sb db cb rb nb { s with own := f } ∧ Step γ spS w (w.setCell ⟨sb, 14, none⟩ (.pointer (some ⟨nb, 0, none⟩))) := by
  have hs : Step γ (fun T => T == 74) w (w.setCell ⟨sb, 14, none⟩ (.pointer (some ⟨nb, 0, none⟩))) := Step.set H.tg rfl H.Bs H.s14
  have hc : ∀ k u, k ≠ 14 → w.cell? ⟨sb, k, none⟩ = some u → (w.setCell ⟨sb, 14, none⟩ (.pointer (some ⟨nb, 0, none⟩))).cell? ⟨sb, k, none⟩ = some u := fun k u hk h => (World.cell?_setCell_other w ⟨sb, 14, none⟩ ⟨sb, k, none⟩ _ (fun q => hk (by injection q with _ q; exact q.symm))).trans h
  have hn := World.cell?_setCell_same w ⟨sb, 14, none⟩ (.pointer (some ⟨nb, 0, none⟩)) H.s14
  exact ⟨{ ca := H.ca.keep hs ⟨rfl, rfl, rfl, rfl⟩ ⟨rfl, rfl, rfl⟩, tg := hs.tg _ _ (by decide) H.lt H.tg, Bs := H.Bs, s0 := hc _ _ (by omega) H.s0, s1 := hc _ _ (by omega) H.s1, s2 := ⟨hc _ _ (by omega) H.s2.1, H.s2.2⟩, sp := fun i hi => ⟨hc _ _ (by omega) (H.sp i hi).1, (H.sp i hi).2⟩, s12 := (by obtain ⟨v, e1, e2⟩ := H.s12; exact ⟨v, hc _ _ (by omega) e1, e2.keep hs rfl⟩), ml := H.ml, s13 := hc _ _ (by omega) H.s13, s14 := hn, s15 := H.s15.imp fun u h => hc _ _ (by omega) h, s16 := H.s16.imp fun u h => hc _ _ (by omega) h, sz := fun o ho => (World.frozen?_setCell _ _ _ _).trans (H.sz o ho), mr := H.mr.keep hs rfl, mo := hm.keep hs rfl, ro := hne }, hs.mono fun T hT => by simp [spS] at hT; simp [hT]⟩
def forgets (s : Sp) (c : Ca) (l : List Nat) : Ca := (l.filter s.turned).foldl (fun c p => c.forget (s.own p)) c
theorem forgets_snoc (s : Sp) (c : Ca) (l : List Nat) (p : Nat) : forgets s c (l ++ [p]) = if s.turned p then (forgets s c l).forget (s.own p) else forgets s c l := by
  unfold forgets
  rw [List.filter_append, List.foldl_append]
  cases h : s.turned p <;> simp [h]
theorem forgets_in (s : Sp) : ∀ (l : List Nat) (c : Ca), Ca.In c (forgets s c l) 0
  | [], c => Ca.In.refl _ _
  | p :: l, c => by
    have ih := forgets_in s l
    unfold forgets at ih ⊢
    rw [List.filter_cons]
    split
    · exact ((Ca.forget_in c (s.own p)).trans (ih _)).mono (by omega)
    · exact ih c
theorem pgs_lt {f : Nat → Nat} : ∀ p ∈ pgs f, p < 1024 := fun p h => List.mem_range.1 (List.mem_filter.1 h).1
theorem pgs_len (f : Nat → Nat) : (pgs f).length ≤ 1024 := by
  have := List.length_filter_le (fun p => decide (0 < f p)) (List.range 1024)
  simpa [pgs] using this
theorem abort_s {γ : Gh} {w : World} {sb db : Nat} {s : Sp} (H : SpV γ w sb db s) (hok : s.Ok) (h0 : γ.lim ≤ w.heap.size) :
    Calls Tryz.prog 22 #[.pointer (some ⟨sb, 0, none⟩)] w fun e w' => e = .returned (.int .i64 ((s.abort.1 : Nat) : Int)) ∧ Hid (SpV γ w' sb db s.abort.2 ∧ Step γ spS w w') := by
  obtain ⟨cb, rb, ob, kb, HU, HK⟩ := id H
  have ON := HU.on
  by_cases hn : s.on ≠ 0
  · have e1 : s.abort = (s.on, s) := if_pos hn
    rw [e1]
    have hb := neq0 hn
    have hsame : Hid (SpV γ w sb db s ∧ Step γ spS w w) := Lib.hid ⟨H, Step.refl _ _ _⟩
    clear H HU HK e1
    generalize s.on = m at *
    go_enter Tryz.func22, Tryz.ntmps22
    go_wp2_with (go_at_call 28; refine ON.mono ?_; rintro e w5 ⟨rfl, rfl⟩)
    go_ret
    exact ⟨rfl, hsame⟩
  · have hn0 : s.on = 0 := by omega
    rw [hn0] at ON
    have e1 : s.abort = (0, { s with c := forgets s s.c (pgs s.own), own := s.r.pg }) := if_neg hn
    rw [e1]
    have PG := (pages_ok HU.mo.v).mono (R' := fun e w' => ∃ a c, e = .returned (.slice a (pgs s.own).length c) ∧ NR γ w' (.slice a (pgs s.own).length c) (pgs s.own) ∧ Below w.heap.size w w') fun e w' ⟨v, h1, h2, h3⟩ => by
      have hN : NR γ w' v (pgs s.own) := NR.row (by rw [← pgs_eq, List.map_map]; exact h2) h0
      obtain ⟨a, c, rfl⟩ := hN.shape
      exact ⟨a, c, h1, hN, h3⟩
    have s14 := HU.s14
    have hl := HU.lt
    have HH := Lib.hid HU
    have hpl := pgs_len s.own
    clear H HU HK e1 hn
    obtain ⟨n, hnn⟩ : ∃ n, (pgs s.own).length = n := ⟨_, rfl⟩
    rw [hnn] at PG hpl
    have HN := Lib.hid hnn
    clear hnn
    go_enter Tryz.func22, Tryz.ntmps22
    go_upto_region 5 with (first
      | (go_at_call 28; refine ON.mono ?_; rintro e w5 ⟨rfl, rfl⟩)
      | (go_at_call 46; refine PG.mono ?_; rintro e w6 ⟨a, c, rfl, hr, hb⟩; have HR := Lib.hid hr; have HB := Lib.hid hb; clear hr hb))
    have HI0 : Hid (SpU γ w6 sb db cb rb ob (s.withC (forgets s s.c ((pgs s.own).take 0))) ∧ Step γ spS w5 w6 ∧ NR γ w6 (.slice a n c) (pgs s.own)) := Lib.hid ⟨HH.out.below HB.out h0, Step.below HB.out h0, HR.out⟩
    clear HH HR HB
    go_loopw [19] (fun v wr => ∃ k : Nat, v = .int .i64 k ∧ k ≤ n ∧ Hid (SpU γ wr sb db cb rb ob (s.withC (forgets s s.c ((pgs s.own).take k))) ∧ Step γ spS w5 wr ∧ NR γ wr (.slice a n c) (pgs s.own))) (fun v _ => n - (Go.RowKit.intOf v).toNat)
    case atStart => exact ⟨0, rfl, Nat.zero_le _, HI0⟩
    case round =>
      obtain ⟨k, rfl, hk, hI⟩ := hrel
      by_cases e : k < n
      · have i1 : (k : Int) < (n : Int) := by omega
        have i0 : (0 : Int) ≤ (k : Int) := by omega
        obtain ⟨p, hp⟩ : ∃ p, (pgs s.own)[k]? = some p := ⟨_, List.getElem?_eq_getElem (by rw [HN.out]; exact e)⟩
        have hp1 := pgs_lt p (List.mem_of_getElem? hp)
        obtain ⟨y1, y2, h3⟩ := hI.out.2.2.get
        clear y1 y2
        obtain ⟨g4, o4, rfl, hg4, hc4⟩ := h3 (by rw [HN.out]; omega)
        have cx := hc4 k p hp
        have TN := turned_ok hI.out.1 hp1
        have s1 := hI.out.1.s1
        have hl1 := hI.out.1.lt
        have hst : Hid (forgets s s.c ((pgs s.own).take (k + 1)) = if s.turned p then (forgets s s.c ((pgs s.own).take k)).forget (s.own p) else forgets s s.c ((pgs s.own).take k)) := Lib.hid (by rw [take_succ_get hp, forgets_snoc])
        have CD := cdrop_ok hI.out.1.ca (Nat.le_trans h0 hI.out.2.1.size) (s := s.own p) (by show s.own p < (forgets s s.c _).d.N; rw [(forgets_in s _ s.c).N]; exact hok.own p)
        have HJ := Lib.hid hI.out
        clear hI hc4 hp h3 HI0
        rw [show (s.withC (forgets s s.c ((pgs s.own).take k))).own p = s.own p from rfl, show (s.withC (forgets s s.c ((pgs s.own).take k))).turned p = s.turned p from rfl] at TN
        cases ht : s.turned p with
        | true =>
          rw [ht] at TN hst
          rw [if_pos rfl] at hst
          clear ht
          generalize s.own p = y at *
          go_wp2_with (first
            | (go_at_call 50; refine TN.mono ?_; rintro e w7 ⟨rfl, rfl⟩)
            | (go_at_call 51; refine CD.mono ?_; rintro e w8 ⟨⟨v8, rfl⟩, hq8⟩))
          refine ⟨⟨k + 1, rfl, by omega, Lib.hid ⟨?_, HJ.out.2.1.trans (hq8.out.2.mono casp), HJ.out.2.2.keep hq8.out.2 rfl⟩⟩, measT e⟩
          rw [hst.out]
          exact HJ.out.1.cache hq8.out.2 hq8.out.1
        | false =>
          rw [ht] at TN hst
          rw [if_neg (by simp)] at hst
          clear ht
          generalize s.own p = y at *
          go_wp2_with (go_at_call 50; refine TN.mono ?_; rintro e w7 ⟨rfl, rfl⟩)
          refine ⟨⟨k + 1, rfl, by omega, Lib.hid ⟨?_, HJ.out.2⟩⟩, measT e⟩
          rw [hst.out]; exact HJ.out.1
      · have ek : k = n := by omega
        subst ek
        have i1 : ¬ (k : Int) < (k : Int) := by omega
        have hT := Lib.hid (show SpU γ wr sb db cb rb ob (s.withC (forgets s s.c (pgs s.own))) ∧ Step γ spS w5 wr from ⟨by have := hI.out.1; rwa [List.take_of_length_le (by rw [HN.out]; exact Nat.le_refl _)] at this, hI.out.2.1⟩)
        have c13 := hT.out.1.s13
        have hl1 := hT.out.1.lt
        have CP := copy_ok hT.out.1.mr (Nat.le_trans h0 hT.out.2.size)
        clear hI HI0
        have NW := Lib.hid (fun (w7 : World) (hm : MapK γ w7 wr.heap.size s.r.pg) (hb : Below wr.heap.size wr w7) => show _ ∧ _ from
          ((hT.out.1.below hb (Nat.le_trans h0 hT.out.2.size)).newOwn hm (by have := hT.out.1.mr.lt; omega)))
        have TU := Lib.hid (fun (w7 : World) (hm : MapK γ w7 wr.heap.size s.r.pg) (hb : Below wr.heap.size wr w7) => (turn_ok (NW.out w7 hm hb).1 (Nat.le_trans h0 (Nat.le_trans hT.out.2.size (Nat.le_trans hb.size (NW.out w7 hm hb).2.size)))).mono (R' := fun e w' => e = .returned (.tuple #[]) ∧ Hid (SpV γ w' sb db { s with c := forgets s s.c (pgs s.own), own := s.r.pg } ∧ Step γ spS w5 w')) fun e w' ⟨h1, h2⟩ => ⟨h1, Lib.hid ⟨h2.out.1, (hT.out.2.trans (Step.below hb (Nat.le_trans h0 hT.out.2.size))).trans ((NW.out w7 hm hb).2.trans h2.out.2)⟩⟩)
        go_wp2_with (first
          | (go_at_call 30; refine CP.mono ?_; rintro e w7 ⟨rfl, hq7⟩; have c14 := (hT.out.1.below hq7.out.2 (Nat.le_trans h0 hT.out.2.size)).s14; have z14 := (hT.out.1.below hq7.out.2 (Nat.le_trans h0 hT.out.2.size)).sz 14 (by decide); have hl7 := cell_lt' c14)
          | (go_at_call 37; refine (TU.out w7 hq7.out.1 hq7.out.2).mono ?_; rintro e w8 ⟨rfl, hq8⟩))
        go_ret
        exact ⟨rfl, hq8⟩
end Go.Tb
namespace Go.Tb
open Go Go.RowKit Go.Proofs Go.Maps Go.Sp
def r12 (r : Rt) (v : Value) (nb : Nat) : List Value := [.int .u32 (r.ep : Int), .int .i64 (r.at' 0 : Int), .int .i64 (r.at' 1 : Int), .int .i64 (r.at' 2 : Int), .int .i64 (r.at' 3 : Int), .int .i64 (r.at' 4 : Int), .int .i64 (r.at' 5 : Int), .int .i64 (r.at' 6 : Int), .int .i64 (r.at' 7 : Int), .int .i64 (r.at' 8 : Int), v, .pointer (some ⟨nb, 0, none⟩)]
theorem SpU.newRoot {γ : Gh} {w : World} {sb db cb rb ob nb : Nat} {s : Sp} (H : SpU γ w sb db cb rb ob s) {r' : Rt} {v : Value} (hm : MapK γ w nb r'.pg) (hne : nb ≠ ob) (hv : RB γ w v r'.mt) (hml : r'.mt.length ≤ 1048576) (hep : r'.ep < 4294967296) (hat : ∀ i, r'.at' i < 65536) :
    SpU γ (w.setCells sb 2 (r12 r' v nb)) sb db cb nb ob { s with r := r' } ∧ Step γ spS w (w.setCells sb 2 (r12 r' v nb)) := by
  have hall : ∀ o, o < 17 → ∃ u, w.cell? ⟨sb, o, none⟩ = some u := fun o ho => by
    have : o = 0 ∨ o = 1 ∨ o = 2 ∨ (∃ i, o = 3 + i ∧ i < 9) ∨ o = 12 ∨ o = 13 ∨ o = 14 ∨ o = 15 ∨ o = 16 := by
      by_cases h : 3 ≤ o ∧ o < 12
      · exact .inr (.inr (.inr (.inl ⟨o - 3, by omega, by omega⟩)))
      · omega
    rcases this with rfl | rfl | rfl | ⟨i, rfl, hi⟩ | rfl | rfl | rfl | rfl | rfl
    · exact ⟨_, H.s0⟩
    · exact ⟨_, H.s1⟩
    · exact ⟨_, H.s2.1⟩
    · exact ⟨_, (H.sp i hi).1⟩
    · obtain ⟨u, hu, _⟩ := H.s12; exact ⟨u, hu⟩
    · exact ⟨_, H.s13⟩
    · exact ⟨_, H.s14⟩
    · exact H.s15
    · exact H.s16
  have hsome : ∀ j, j < (r12 r' v nb).length → (w.cell? ⟨sb, 2 + j, none⟩).isSome = true := fun j hj => by
    have hj : j < 12 := hj
    obtain ⟨u, hu⟩ := hall (2 + j) (by omega)
    rw [hu]; rfl
  have hin : ∀ j (hj : j < 12), (w.setCells sb 2 (r12 r' v nb)).cell? ⟨sb, 2 + j, none⟩ = some ((r12 r' v nb)[j]'hj) := fun j hj => World.cell?_setCells_in sb (r12 r' v nb) 2 w hsome j hj
  have hout : ∀ o u, (o < 2 ∨ 14 ≤ o) → w.cell? ⟨sb, o, none⟩ = some u → (w.setCells sb 2 (r12 r' v nb)).cell? ⟨sb, o, none⟩ = some u := fun o u ho hu => (World.cell?_setCells_out sb _ _ _ _ fun _ _ => by rcases ho with h | h; exact .inl h; exact .inr h).trans hu
  have hoth : ∀ k, k ≠ sb → (w.setCells sb 2 (r12 r' v nb)).heap[k]? = w.heap[k]? := fun k hk => setCells_other _ _ _ _ hk
  have hkind := setCells_kind (b := sb) (r12 r' v nb) 2 w hsome
  have hs : Step γ (fun T => T == 74) w (w.setCells sb 2 (r12 r' v nb)) := by
    refine ⟨⟨(setCells_os _ _ _).1, (setCells_os _ _ _).2.1, (setCells_os _ _ _).2.2, by rw [setCells_size]; exact Nat.le_refl _, fun k hk => hoth k (by have := H.Bs; omega)⟩, fun k hk hT => hoth k fun e => ?_, fun k T hn hk ht => (Gh.kind_of (hkind k)).trans ht⟩
    subst e; have := hT 74 H.tg; cases this
  refine ⟨{ ca := H.ca.keep hs ⟨rfl, rfl, rfl, rfl⟩ ⟨rfl, rfl, rfl⟩, tg := hs.tg _ _ (by decide) H.lt H.tg, Bs := H.Bs, s0 := hout _ _ (by omega) H.s0, s1 := hout _ _ (by omega) H.s1, s2 := ⟨hin 0 (by decide), hep⟩, sp := fun i hi => ⟨?_, hat i⟩, s12 := ⟨v, hin 10 (by decide), hv.keep hs rfl⟩, ml := hml, s13 := hin 11 (by decide), s14 := hout _ _ (by omega) H.s14, s15 := H.s15.imp fun u h => hout _ _ (by omega) h, s16 := H.s16.imp fun u h => hout _ _ (by omega) h, sz := fun o ho => (World.frozen?_setCells _ _ _ _ _).trans (H.sz o ho), mr := hm.keep hs rfl, mo := H.mo.keep hs rfl, ro := hne }, hs.mono fun T hT => by simp [spS] at hT; simp [hT]⟩
  have h9 : i = 0 ∨ i = 1 ∨ i = 2 ∨ i = 3 ∨ i = 4 ∨ i = 5 ∨ i = 6 ∨ i = 7 ∨ i = 8 := by omega
  rcases h9 with rfl | rfl | rfl | rfl | rfl | rfl | rfl | rfl | rfl
  · exact hin 1 (by decide)
  · exact hin 2 (by decide)
  · exact hin 3 (by decide)
  · exact hin 4 (by decide)
  · exact hin 5 (by decide)
  · exact hin 6 (by decide)
  · exact hin 7 (by decide)
  · exact hin 8 (by decide)
  · exact hin 9 (by decide)
end Go.Tb
namespace Go.Tb
open Go Go.RowKit Go.Proofs Go.Maps Go.Sp
theorem pnew_ok {γ : Gh} {w : World} (h0 : γ.lim ≤ w.heap.size) :
    Calls Tryz.prog 81 #[] w fun e w' => e = .returned (.pointer (some ⟨w.heap.size, 0, none⟩)) ∧ Hid (MapK γ w' w.heap.size (fun _ => 0) ∧ Below w.heap.size w w') := by
  have hz := zv153
  obtain ⟨W, hW⟩ : ∃ W, w.alloc (.cells (Array.replicate 1024 (.int .u16 0)) 109) = W := ⟨_, rfl⟩
  have hb : Below w.heap.size w W := hW ▸ Below.alloc (Below.refl _ _) (Nat.le_refl _) _
  have hk : W.heap[w.heap.size]? = some (.cells (Array.replicate 1024 (.int .u16 0)) 109 (0, 0)) := hW ▸ (Go.MapKept.heap_alloc w _).1
  have hfin : Hid (MapK γ W w.heap.size (fun _ => 0) ∧ Below w.heap.size w W) := Lib.hid ⟨⟨⟨fun i hi => ⟨by unfold World.cell?; simp only [hk]; exact z1024_get hi, (show (0 : Nat) < 65536 by decide)⟩, fun i hi => by unfold World.frozen?; simp only [hk]; simp⟩, Tag.new h0 hk, Nat.le_trans γ.hB h0⟩, hb⟩
  rw [← hW] at hfin
  clear hb hk hW
  generalize hZ : Array.replicate 1024 (Value.int .u16 0) = Z at hz hfin
  have hcs : (Value.agg Z).cells = Z := rfl
  clear hZ
  go_enter Tryz.func81, Tryz.ntmps81
  go_wp2_with fail
  go_ret
  exact ⟨rfl, hfin⟩
end Go.Tb
namespace Go.Tb
open Go Go.RowKit Go.Proofs Go.Maps Go.Sp
theorem commit_off {γ : Gh} {w : World} {sb db : Nat} {s : Sp} (H : SpV γ w sb db s) (hn : s.on ≠ 0) {mt : Bs} {v : Value} :
    Calls Tryz.prog 14 #[.pointer (some ⟨sb, 0, none⟩), v] w fun e w' => e = .returned (.int .i64 (((s.commit mt).1 : Nat) : Int)) ∧ Hid (SpV γ w' sb db (s.commit mt).2 ∧ Step γ spS w w') := by
  obtain ⟨cb, rb, ob, kb, HU, HK⟩ := id H
  have ON := HU.on
  have e1 : s.commit mt = (s.on, s) := if_pos hn
  rw [e1]
  have hb := neq0 hn
  have hsame : Hid (SpV γ w sb db s ∧ Step γ spS w w) := Lib.hid ⟨H, Step.refl _ _ _⟩
  clear H HU HK e1
  generalize s.on = m at *
  go_enter Tryz.func14, Tryz.ntmps14
  go_wp2_with (go_at_call 28; refine ON.mono ?_; rintro e w5 ⟨rfl, rfl⟩)
  go_ret
  exact ⟨rfl, hsame⟩
def z12 : Array Value := #[.int .u32 0, .int .i64 0, .int .i64 0, .int .i64 0, .int .i64 0, .int .i64 0, .int .i64 0, .int .i64 0, .int .i64 0, .int .i64 0, .slice none 0 0, .pointer none]
theorem z12_cells {W : World} {b : Nat} (h : W.heap[b]? = some (.cells z12 70 (0, 0))) : W.cell? ⟨b, 0, none⟩ = some (.int .u32 0) ∧ W.cell? ⟨b, 1, none⟩ = some (.int .i64 0) ∧ W.cell? ⟨b, 2, none⟩ = some (.int .i64 0) ∧ W.cell? ⟨b, 3, none⟩ = some (.int .i64 0) ∧ W.cell? ⟨b, 4, none⟩ = some (.int .i64 0) ∧ W.cell? ⟨b, 5, none⟩ = some (.int .i64 0) ∧ W.cell? ⟨b, 6, none⟩ = some (.int .i64 0) ∧ W.cell? ⟨b, 7, none⟩ = some (.int .i64 0) ∧ W.cell? ⟨b, 8, none⟩ = some (.int .i64 0) ∧ W.cell? ⟨b, 9, none⟩ = some (.int .i64 0) ∧ W.cell? ⟨b, 10, none⟩ = some (.slice none 0 0) ∧ W.cell? ⟨b, 11, none⟩ = some (.pointer none) ∧ W.frozen? ⟨b, 0, none⟩ = false ∧ W.frozen? ⟨b, 1, none⟩ = false ∧ W.frozen? ⟨b, 2, none⟩ = false ∧ W.frozen? ⟨b, 3, none⟩ = false ∧ W.frozen? ⟨b, 4, none⟩ = false ∧ W.frozen? ⟨b, 5, none⟩ = false ∧ W.frozen? ⟨b, 6, none⟩ = false ∧ W.frozen? ⟨b, 7, none⟩ = false ∧ W.frozen? ⟨b, 8, none⟩ = false ∧ W.frozen? ⟨b, 9, none⟩ = false ∧ W.frozen? ⟨b, 10, none⟩ = false ∧ W.frozen? ⟨b, 11, none⟩ = false := by
  refine ⟨?_, ?_, ?_, ?_, ?_, ?_, ?_, ?_, ?_, ?_, ?_, ?_, ?_, ?_, ?_, ?_, ?_, ?_, ?_, ?_, ?_, ?_, ?_, ?_⟩ <;> simp [World.cell?, World.frozen?, h, z12]
end Go.Tb
namespace Go.Tb
open Go Go.RowKit Go.Proofs Go.Maps Go.Sp
structure CmI (γ : Gh) (w W : World) (sb db cb rb ob kb nb mb : Nat) (s : Sp) (ep : Nat) (f : Nat → Nat) (mt : Bs) (pg : Nat → Nat) : Prop where
  sp : SpK γ W sb db cb rb ob kb s
  st : Step γ spS w W
  nt : Tag γ W nb 70
  np : w.heap.size ≤ nb
  c0 : W.cell? ⟨nb, 0, none⟩ = some (.int .u32 (ep : Int))
  c1 : ∀ i, i < 9 → W.cell? ⟨nb, 1 + i, none⟩ = some (.int .i64 (f i : Int))
  c10 : ∃ v, W.cell? ⟨nb, 10, none⟩ = some v ∧ RB γ W v mt
  c11 : W.cell? ⟨nb, 11, none⟩ = some (.pointer (some ⟨mb, 0, none⟩))
  z : ∀ o, o < 12 → W.frozen? ⟨nb, o, none⟩ = false
  mp : MapV W mb pg
  mt' : Tag γ W mb 109
  mw : w.heap.size ≤ mb
theorem CmI.nlt {γ : Gh} {w W : World} {sb db cb rb ob kb nb mb : Nat} {s : Sp} {ep : Nat} {f : Nat → Nat} {mt : Bs} {pg : Nat → Nat} (h : CmI γ w W sb db cb rb ob kb nb mb s ep f mt pg) : nb < W.heap.size := cell_lt' h.c0
theorem CmI.map {γ : Gh} {w W : World} {sb db cb rb ob kb nb mb : Nat} {s : Sp} {ep : Nat} {f : Nat → Nat} {mt : Bs} {pg : Nat → Nat} (h : CmI γ w W sb db cb rb ob kb nb mb s ep f mt pg) (h0 : γ.lim ≤ w.heap.size) : MapK γ W mb pg := ⟨h.mp, h.mt', by have := h.mw; have := γ.hB; omega⟩
theorem CmI.step {γ : Gh} {S : TypeId → Bool} {w W W' : World} {sb db cb rb ob kb nb mb : Nat} {s s' : Sp} {ep : Nat} {f : Nat → Nat} {mt : Bs} {pg : Nat → Nat} (h : CmI γ w W sb db cb rb ob kb nb mb s ep f mt pg) (hs : Step γ S W W') (h92 : S 70 = false) (h153 : S 109 = false) (h5 : S 5 = false) (hS : ∀ T, spS T = false → S T = false) (hsp : SpK γ W' sb db cb rb ob kb s') : CmI γ w W' sb db cb rb ob kb nb mb s' ep f mt pg :=
  { sp := hsp, st := h.st.trans (hs.mono hS), nt := hs.tg _ _ (by decide) h.nlt h.nt, np := h.np, c0 := cell_keep hs h.nt h92 h.c0, c1 := fun i hi => cell_keep hs h.nt h92 (h.c1 i hi), c10 := (by obtain ⟨v, e1, e2⟩ := h.c10; exact ⟨v, cell_keep hs h.nt h92 e1, e2.keep hs h5⟩), c11 := cell_keep hs h.nt h92 h.c11, z := fun o ho => fz_keep hs h.nt h92 h.nlt (h.z o ho), mp := h.mp.keep (hs.heap h.mt' h153 (cell_lt' (h.mp.at (i := 0) (by decide)).1)), mt' := hs.tg _ _ (by decide) (cell_lt' (h.mp.at (i := 0) (by decide)).1) h.mt', mw := h.mw }
theorem CmI.below {γ : Gh} {w W W' : World} {sb db cb rb ob kb nb mb : Nat} {s : Sp} {ep : Nat} {f : Nat → Nat} {mt : Bs} {pg : Nat → Nat} (h : CmI γ w W sb db cb rb ob kb nb mb s ep f mt pg) (hb : Below W.heap.size W W') (h0 : γ.lim ≤ w.heap.size) : CmI γ w W' sb db cb rb ob kb nb mb s ep f mt pg :=
  h.step (S := fun _ => false) (Step.below hb (Nat.le_trans h0 h.st.size)) rfl rfl rfl (fun _ _ => rfl) (h.sp.below hb (Nat.le_trans h0 h.st.size))
theorem CmI.make {γ : Gh} {w w7 W : World} {sb db cb rb ob kb nb mb : Nat} {s : Sp} {ep : Nat} {v : Value} {mt : Bs} {pg : Nat → Nat} (h0 : γ.lim ≤ w.heap.size) (hsp : SpK γ w7 sb db cb rb ob kb s) (hst : Step γ spR w w7) (hnp : w.heap.size ≤ nb) (hmw : w.heap.size ≤ mb) (hne : mb ≠ nb) (hm : MapK γ w7 mb pg) (hv : RB γ w7 v mt)
    (hk : W.heap[nb]? = some (.cells #[.int .u32 (ep : Int), .int .i64 0, .int .i64 0, .int .i64 0, .int .i64 0, .int .i64 0, .int .i64 0, .int .i64 0, .int .i64 0, .int .i64 0, v, .pointer (some ⟨mb, 0, none⟩)] 70 (0, 0)))
    (hs : Step γ (fun T => T == 70) w7 W) (ho : ∀ k, k < w7.heap.size → k ≠ nb → W.heap[k]? = w7.heap[k]?) : CmI γ w W sb db cb rb ob kb nb mb s ep (fun _ => 0) mt pg := by
  have ht : Tag γ W nb 70 := Tag.new (Nat.le_trans h0 hnp) hk
  have hst2 : Step γ spS w W := by
    refine ⟨hst.be.trans hs.be, fun k hkk hT => ?_, fun k T hn hkk htt => hs.tg k T hn (Nat.lt_of_lt_of_le hkk hst.size) (hst.tg k T hn hkk htt)⟩
    have h1 := hst.on k hkk fun T hTT => spRS T (hT T hTT)
    exact (ho k (Nat.lt_of_lt_of_le hkk hst.size) (by omega)).trans h1
  refine { sp := ⟨hsp.1.keep hs (hsp.1.ca.keep hs ⟨rfl, rfl, rfl, rfl⟩ ⟨rfl, rfl, rfl⟩) rfl rfl rfl, hsp.2.keep hsp.1.tg hs rfl rfl rfl⟩, st := hst2, nt := ht, np := hnp, c0 := by simp [World.cell?, hk], c1 := fun i hi => ?_, c10 := ⟨v, by simp [World.cell?, hk], hv.keep hs rfl⟩, c11 := by simp [World.cell?, hk], z := fun o _ => by simp [World.frozen?, hk], mp := hm.v.keep (hs.heap hm.tg rfl hm.lt), mt' := hs.tg _ _ (by decide) hm.lt hm.tg, mw := hmw }
  have h9 : i = 0 ∨ i = 1 ∨ i = 2 ∨ i = 3 ∨ i = 4 ∨ i = 5 ∨ i = 6 ∨ i = 7 ∨ i = 8 := by omega
  rcases h9 with rfl | rfl | rfl | rfl | rfl | rfl | rfl | rfl | rfl <;> simp [World.cell?, hk]
end Go.Tb
namespace Go.Tb
open Go Go.RowKit Go.Proofs Go.Maps Go.Sp
section
variable {γ : Gh} {w W : World} {sb db cb rb ob kb nb mb : Nat} {s : Sp} {ep : Nat} {f : Nat → Nat} {mt : Bs} {pg : Nat → Nat}
theorem CmI.lim (H : CmI γ w W sb db cb rb ob kb nb mb s ep f mt pg) (h0 : γ.lim ≤ w.heap.size) : γ.lim ≤ W.heap.size := Nat.le_trans h0 H.st.size
theorem CmI.parts (H : CmI γ w W sb db cb rb ob kb nb mb s ep f mt pg) (hok : s.Ok) (hbd : s.Bd 20) (h0 : γ.lim ≤ w.heap.size) :
    Calls Tryz.prog 31 #[.pointer (some ⟨sb, 0, none⟩)] W fun e W' => e = .returned (.tuple #[.agg (c9 s.parts.2.1).toArray, .int .i64 (s.parts.1 : Nat)]) ∧ Hid (CmI γ w W' sb db cb rb ob kb nb mb s.parts.2.2 ep f mt pg) :=
  (parts_ok H.sp hok hbd (H.lim h0)).mono fun e W' ⟨h1, h2⟩ => ⟨h1, Lib.hid (H.step h2.out.2 rfl rfl rfl spRS h2.out.1)⟩
theorem CmI.flush (H : CmI γ w W sb db cb rb ob kb nb mb s ep f mt pg) (hok : s.Ok) (hbd : s.Bd 20) (h0 : γ.lim ≤ w.heap.size) :
    Calls Tryz.prog 32 #[.pointer (some ⟨cb, 0, none⟩)] W fun e W' => e = .returned (.int .i64 (s.c.flush.1 : Nat)) ∧ Hid (CmI γ w W' sb db cb rb ob kb nb mb (s.withC s.c.flush.2) ep f mt pg) :=
  (flush_ok rising H.sp.1.ca hok.c (H.lim h0) (by have := hbd.P; omega)).mono fun e W' ⟨h1, h2⟩ => ⟨h1, Lib.hid (H.step h2.out.2 rfl rfl rfl casp (SpV.cache H.sp.1 H.sp.2 h2.out.2 h2.out.1 (Ca.flush_in _).N))⟩
theorem CmI.body (H : CmI γ w W sb db cb rb ob kb nb mb s ep f mt pg) (h0 : γ.lim ≤ w.heap.size) (he : ep < 4294967296) (hf : ∀ i, i < 9 → f i < 65536) (hml : mt.length ≤ 1000000) :
    Calls Tryz.prog 34 #[.pointer (some ⟨nb, 0, none⟩)] W fun e W' => ∃ v', e = .returned v' ∧ Hid (RN W.heap.size W' v' (bodyR ⟨ep, f, mt, pg⟩) ∧ Below W.heap.size W W') := by
  obtain ⟨v, e1, e2⟩ := H.c10
  exact (body_ok (r := ⟨ep, f, mt, pg⟩) H.c0 he (fun i hi => ⟨H.c1 i hi, hf i hi⟩) e1 e2.rv hml).mono fun e W' ⟨v', h1, h2, h3⟩ => ⟨v', h1, Lib.hid ⟨h2, h3⟩⟩
theorem CmI.disk (H : CmI γ w W sb db cb rb ob kb nb mb s ep f mt pg) {W' : World} {d' : Dk} (hd : DkV γ W' db d') (hs : Step γ dkS W W') (hN : d'.N = s.c.d.N) : CmI γ w W' sb db cb rb ob kb nb mb (s.withC { s.c with d := d' }) ep f mt pg := by
  obtain ⟨fb, D, β, CH⟩ := id H.sp.1.ca
  exact H.step (hs.mono dkca) rfl rfl rfl casp (SpV.cache H.sp.1 H.sp.2 (hs.mono dkca) (CH.disk hs hd hN).in hN)
theorem CmI.dk (H : CmI γ w W sb db cb rb ob kb nb mb s ep f mt pg) : DkV γ W db s.c.d := by
  obtain ⟨fb, D, β, CH⟩ := id H.sp.1.ca
  exact CH.dk
theorem CmI.write (H : CmI γ w W sb db cb rb ob kb nb mb s ep f mt pg) (hd : s.c.d.dead = false) (hbd : s.Bd 20) (h0 : γ.lim ≤ w.heap.size) {x : Nat} (hx : x < s.c.d.N) {v : Value} {bs : Bs} (hb : RA γ W v bs) (hl : bs.length ≤ 256) :
    Calls Tryz.prog 35 #[.pointer (some ⟨db, 0, none⟩), .int .i64 (x : Int), v] W fun e W' => e = .returned (.int .i64 ((s.c.d.write x bs).1 : Nat)) ∧ Hid (CmI γ w W' sb db cb rb ob kb nb mb (s.withC { s.c with d := (s.c.d.write x bs).2 }) ep f mt pg) := by
  have e1 : s.c.d.write x bs = ((s.c.d.push x bs).tick.pw, (s.c.d.push x bs).tick) := by
    unfold Dk.write; rw [if_neg (by rw [hd]; decide), if_neg (by omega)]
  rw [e1]
  exact (dwrite_ok H.dk hd (H.lim h0) hx hb hl (by have := hbd.P; omega)).mono fun e W' ⟨h1, h2, h3⟩ => ⟨h1, Lib.hid (H.disk h2 h3 rfl)⟩
theorem CmI.barrier (H : CmI γ w W sb db cb rb ob kb nb mb s ep f mt pg) (hbd : s.Bd 0) (h0 : γ.lim ≤ w.heap.size) :
    Calls Tryz.prog 36 #[.pointer (some ⟨db, 0, none⟩)] W fun e W' => e = .returned (.int .i64 (s.c.d.barrier.1 : Nat)) ∧ Hid (CmI γ w W' sb db cb rb ob kb nb mb (s.withC { s.c with d := s.c.d.barrier.2 }) ep f mt pg) :=
  (barrier_ok H.dk (H.lim h0) (by have := hbd.P; omega)).mono fun e W' ⟨h1, h2, h3⟩ => ⟨h1, Lib.hid (H.disk h2 h3 (Dk.barrier_N _))⟩
theorem CmI.lay (H : CmI γ w W sb db cb rb ob kb nb mb s ep f mt pg) (h0 : γ.lim ≤ w.heap.size) (g : Nat → Nat) : CmI γ w (W.setCells nb 1 (c9 g)) sb db cb rb ob kb nb mb s ep g mt pg := by
  have hsome : ∀ j, j < (c9 g).length → (W.cell? ⟨nb, 1 + j, none⟩).isSome = true := fun j hj => by
    rw [c9_len] at hj; rw [H.c1 j hj]; rfl
  have hin : ∀ j (hj : j < 9), (W.setCells nb 1 (c9 g)).cell? ⟨nb, 1 + j, none⟩ = some (.int .i64 (g j : Int)) := fun j hj => by
    have := World.cell?_setCells_in nb (c9 g) 1 W hsome j (by rw [c9_len]; exact hj)
    rw [this]
    have h2 := c9_at (f := g) hj
    rw [List.getElem?_eq_getElem (by rw [c9_len]; exact hj)] at h2
    exact h2
  have hout : ∀ o u, (o < 1 ∨ 10 ≤ o) → W.cell? ⟨nb, o, none⟩ = some u → (W.setCells nb 1 (c9 g)).cell? ⟨nb, o, none⟩ = some u := fun o u ho hu => (World.cell?_setCells_out nb _ _ _ _ fun _ _ => by rw [c9_len]; exact ho).trans hu
  have hoth : ∀ k, k ≠ nb → (W.setCells nb 1 (c9 g)).heap[k]? = W.heap[k]? := fun k hk => setCells_other _ _ _ _ hk
  have hkind := setCells_kind (b := nb) (c9 g) 1 W hsome
  have hB := γ.hB
  have hnp := H.np
  have hs : Step γ (fun T => T == 70) W (W.setCells nb 1 (c9 g)) := by
    refine ⟨⟨(setCells_os _ _ _).1, (setCells_os _ _ _).2.1, (setCells_os _ _ _).2.2, by rw [setCells_size]; exact Nat.le_refl _, fun k hk => hoth k (by omega)⟩, fun k hk hT => hoth k fun e => ?_, fun k T hn hk ht => (Gh.kind_of (hkind k)).trans ht⟩
    subst e; have := hT 70 H.nt; cases this
  have hst : Step γ spS w (W.setCells nb 1 (c9 g)) := by
    refine ⟨H.st.be.trans hs.be, fun k hk hT => (hoth k (by omega)).trans (H.st.on k hk hT), fun k T hn hk ht => hs.tg k T hn (Nat.lt_of_lt_of_le hk H.st.size) (H.st.tg k T hn hk ht)⟩
  exact { sp := ⟨H.sp.1.keep hs (H.sp.1.ca.keep hs ⟨rfl, rfl, rfl, rfl⟩ ⟨rfl, rfl, rfl⟩) rfl rfl rfl, H.sp.2.keep H.sp.1.tg hs rfl rfl rfl⟩, st := hst, nt := hs.tg _ _ (by decide) H.nlt H.nt, np := H.np, c0 := hout _ _ (by omega) H.c0, c1 := hin, c10 := (by obtain ⟨v, e1, e2⟩ := H.c10; exact ⟨v, hout _ _ (by omega) e1, e2.keep hs rfl⟩), c11 := hout _ _ (by omega) H.c11, z := fun o ho => (World.frozen?_setCells _ _ _ _ _).trans (H.z o ho), mp := H.mp.keep (hs.heap H.mt' rfl (cell_lt' (H.mp.at (i := 0) (by decide)).1)), mt' := hs.tg _ _ (by decide) (cell_lt' (H.mp.at (i := 0) (by decide)).1) H.mt', mw := H.mw }
theorem CmI.done (H : CmI γ w W sb db cb rb ob kb nb mb s ep f mt pg) (h0 : γ.lim ≤ w.heap.size) (hob : ob < w.heap.size) (he : ep < 4294967296) (hf : ∀ i, f i < 65536) (hml : mt.length ≤ 1000000) :
    ∃ v, (∃ a c, v = .slice a mt.length c) ∧ W.cell? ⟨nb, 10, none⟩ = some v ∧ Calls Tryz.prog 37 #[.pointer (some ⟨sb, 0, none⟩)] (W.setCells sb 2 (r12 ⟨ep, f, mt, pg⟩ v mb)) fun e W' => e = .returned (.tuple #[]) ∧ Hid (SpV γ W' sb db { s with r := ⟨ep, f, mt, pg⟩ } ∧ Step γ spS w W') := by
  obtain ⟨v, e1, e2⟩ := H.c10
  obtain ⟨h1, h2⟩ := H.sp.1.newRoot (r' := ⟨ep, f, mt, pg⟩) (H.map h0) (by have := H.mw; omega) e2 (by show mt.length ≤ _; omega) he hf
  exact ⟨v, e2.rv.len, e1, (turn_ok h1 (Nat.le_trans (H.lim h0) h2.size)).mono fun e W' ⟨g1, g2⟩ => ⟨g1, Lib.hid ⟨g2.out.1, (H.st.trans h2).trans g2.out.2⟩⟩⟩
theorem CmI.cells (H : CmI γ w W sb db cb rb ob kb nb mb s ep f mt pg) : W.cell? ⟨nb, 0, none⟩ = some (.int .u32 (ep : Int)) ∧ W.cell? ⟨nb, 1, none⟩ = some (.int .i64 (f 0 : Int)) ∧ W.cell? ⟨nb, 2, none⟩ = some (.int .i64 (f 1 : Int)) ∧ W.cell? ⟨nb, 3, none⟩ = some (.int .i64 (f 2 : Int)) ∧ W.cell? ⟨nb, 4, none⟩ = some (.int .i64 (f 3 : Int)) ∧ W.cell? ⟨nb, 5, none⟩ = some (.int .i64 (f 4 : Int)) ∧ W.cell? ⟨nb, 6, none⟩ = some (.int .i64 (f 5 : Int)) ∧ W.cell? ⟨nb, 7, none⟩ = some (.int .i64 (f 6 : Int)) ∧ W.cell? ⟨nb, 8, none⟩ = some (.int .i64 (f 7 : Int)) ∧ W.cell? ⟨nb, 9, none⟩ = some (.int .i64 (f 8 : Int)) ∧ W.cell? ⟨nb, 11, none⟩ = some (.pointer (some ⟨mb, 0, none⟩)) :=
  ⟨H.c0, H.c1 0 (by decide), H.c1 1 (by decide), H.c1 2 (by decide), H.c1 3 (by decide), H.c1 4 (by decide), H.c1 5 (by decide), H.c1 6 (by decide), H.c1 7 (by decide), H.c1 8 (by decide), H.c11⟩
theorem CmI.both (H : CmI γ w W sb db cb rb ob kb nb mb s ep f mt pg) : W.cell? ⟨sb, 0, none⟩ = some (.pointer (some ⟨db, 0, none⟩)) ∧ W.cell? ⟨nb, 0, none⟩ = some (.int .u32 (ep : Int)) := ⟨H.sp.1.s0, H.c0⟩
end
theorem take_last {α : Type} {f : α → Prop} {w : α} (h : ∀ W, w = W → f W) : f w := h w rfl
theorem cut_tail5 {G : Nat → Nat → Option Addr → Nat → World → Prop} (P : Nat → Nat → Option Addr → Nat → World → Prop) {Goal : Prop} (main : (∀ nb mb a c W, P nb mb a c W → G nb mb a c W) → Goal) (tail : ∀ nb mb a c W, P nb mb a c W → G nb mb a c W) : Goal := main tail
theorem setCells_block {b : Nat} : ∀ (l : List Value) (o : Nat) (W : World) (C : Array Value) (T : TypeId) (r : Nat × Nat), W.heap[b]? = some (.cells C T r) → o + l.length ≤ C.size → ∃ C', (W.setCells b o l).heap[b]? = some (.cells C' T r) ∧ C'.size = C.size ∧ ∀ j, C'[j]? = if o ≤ j ∧ j < o + l.length then l[j - o]? else C[j]?
  | [], o, W, C, T, r, h, _ => ⟨C, h, rfl, fun j => by rw [if_neg (by simp)]⟩
  | v :: l, o, W, C, T, r, h, hl => by
    simp only [List.length_cons] at hl
    have h1 : (W.setCell ⟨b, o, none⟩ v).heap[b]? = some (.cells (C.setIfInBounds o v) T r) := by
      unfold World.setCell
      simp only [Array.getElem?_modify]
      rw [h]
      simp
    obtain ⟨C', g1, g2, g3⟩ := setCells_block l (o + 1) (W.setCell ⟨b, o, none⟩ v) (C.setIfInBounds o v) T r h1 (by rw [Array.size_setIfInBounds]; omega)
    refine ⟨C', g1, g2.trans (Array.size_setIfInBounds), fun j => ?_⟩
    rw [g3]
    simp only [List.length_cons]
    by_cases e1 : o + 1 ≤ j ∧ j < o + 1 + l.length
    · rw [if_pos e1, if_pos (by omega), show j - o = (j - (o + 1)) + 1 by omega]
      rfl
    · rw [if_neg e1]
      by_cases e2 : j = o
      · subst e2
        rw [if_pos (by omega), Nat.sub_self]
        simp [Array.getElem?_setIfInBounds]
        omega
      · rw [if_neg (by omega)]
        simp only [Array.getElem?_setIfInBounds]
        rw [if_neg (fun e => e2 e.symm)]
theorem set12 {W : World} {nb : Nat} {C : Array Value} {T : TypeId} {r : Nat × Nat} (h : W.heap[nb]? = some (.cells C T r)) (hC : C.size = 12) {l : List Value} (hl : l.length = 12) : (W.setCells nb 0 l).heap[nb]? = some (.cells l.toArray T r) := by
  obtain ⟨C', g1, g2, g3⟩ := setCells_block l 0 W C T r h (by omega)
  rw [g1]
  congr 2
  apply Array.ext_getElem?
  intro j
  have e0 : l.toArray[j]? = l[j]? := by simp
  rw [g3, e0]
  by_cases e : j < 12
  · rw [if_pos (by omega), Nat.sub_zero]
  · rw [if_neg (by omega), Array.getElem?_eq_none (by omega), List.getElem?_eq_none (by omega)]
theorem Step.sets12 {γ : Gh} {w7 : World} {nb : Nat} {C : Array Value} (hk : w7.heap[nb]? = some (.cells C 70 (0, 0))) (h0 : γ.lim ≤ nb) (hC : C.size = 12) {l : List Value} (hl : l.length = 12) : Step γ (fun T => T == 70) w7 (w7.setCells nb 0 l) := by
  have hsome : ∀ j, j < l.length → (w7.cell? ⟨nb, 0 + j, none⟩).isSome = true := fun j hj => by
    unfold World.cell?
    simp only [hk]
    simp
    omega
  have hoth : ∀ k, k ≠ nb → (w7.setCells nb 0 l).heap[k]? = w7.heap[k]? := fun k hk => setCells_other _ _ _ _ hk
  have hB := γ.hB
  refine ⟨⟨(setCells_os _ _ _).1, (setCells_os _ _ _).2.1, (setCells_os _ _ _).2.2, by rw [setCells_size]; exact Nat.le_refl _, fun k hk => hoth k (by omega)⟩, fun k hkk hT => hoth k fun e => ?_, fun k T hn hkk ht => (Gh.kind_of (setCells_kind l 0 w7 hsome k)).trans ht⟩
  subst e; have := hT 70 (Tag.new h0 hk); cases this
end Go.Tb
