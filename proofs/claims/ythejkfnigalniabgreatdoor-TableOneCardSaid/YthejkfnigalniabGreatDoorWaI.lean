/- A part of a proof about the table over the shadow space: what a function of the program answers, walked by hand. Each theorem says its own conditions. -/
import Derived.Test.YthejkfnigalniabGreatDoorWaH
set_option linter.unusedVariables false
set_option linter.unusedSimpArgs false
set_option maxRecDepth 100000
set_option maxHeartbeats 1600000
namespace Go.Tb
open Go Go.RowKit Go.Proofs Go.Maps Go.Sp
structure OpI (γ : Gh) (w W : World) (db cb b8 : Nat) (d : Dk) (F : Nat) (r : Rt) (v : Value) : Prop where
  be : Below w.heap.size w W
  ca : CaV γ W cb db ⟨d, F, 0, fun _ => none⟩
  h8 : W.heap[b8]? = some (.cells (n12 r v).toArray 70 (0, 0))
  p8 : w.heap.size ≤ b8
  rn : RN w.heap.size W v r.mt
  ep : r.ep < 4294967296
  at' : ∀ i, r.at' i < 65536
theorem OpI.below {γ : Gh} {w W W' : World} {db cb b8 : Nat} {d : Dk} {F : Nat} {r : Rt} {v : Value} (h : OpI γ w W db cb b8 d F r v) (h0 : γ.lim ≤ w.heap.size) (hb : Below W.heap.size W W') : OpI γ w W' db cb b8 d F r v :=
  ⟨Below.up h.be hb, h.ca.below hb (Nat.le_trans h0 h.be.size), (hb.block _ (Array.getElem?_eq_some_iff.1 h.h8).1).trans h.h8, h.p8, h.rn.keep hb, h.ep, h.at'⟩
theorem CaV.dk' {γ : Gh} {W : World} {cb db : Nat} {c : Ca} (h : CaV γ W cb db c) : DkV γ W db c.d := by obtain ⟨fb, D, β, CH⟩ := h; exact CH.dk
theorem OpI.whole {γ : Gh} {w W : World} {db cb b8 : Nat} {d : Dk} {F : Nat} {r : Rt} {v : Value} (h : OpI γ w W db cb b8 d F r v) (h0 : γ.lim ≤ w.heap.size) (hok : d.Ok) (hcap : d.P.length < 2000000) (hN1 : 1 ≤ d.N) (hml : r.mt.length ≤ 1000000) :
    Calls Tryz.prog 41 #[.pointer (some ⟨b8, 0, none⟩), .pointer (some ⟨db, 0, none⟩)] W (WholeP γ W b8 r v (d.whole r)) :=
  whole_ok h.ca.dk' (Nat.le_trans h0 h.be.size) hok hcap hN1 h.h8 (Nat.le_trans h0 h.p8) h.rn.rv hml
structure OpJ (γ : Gh) (w W : World) (db cb b8 mb : Nat) (d : Dk) (F : Nat) (r : Rt) (v : Value) (pg : Nat → Nat) : Prop where
  be : Below w.heap.size w W
  ca : CaV γ W cb db ⟨d, F, 0, fun _ => none⟩
  h8 : W.heap[b8]? = some (.cells (p12 r v mb).toArray 70 (0, 0))
  rn : RN w.heap.size W v r.mt
  mp : MapK γ W mb pg
  pm : w.heap.size ≤ mb
theorem OpI.found {γ : Gh} {w W W' : World} {db cb b8 : Nat} {d : Dk} {F : Nat} {r r' : Rt} {v : Value} (h : OpI γ w W db cb b8 d F r v) (h0 : γ.lim ≤ w.heap.size) (hO : OnlyB b8 W W') {mb : Nat} (h8 : W'.heap[b8]? = some (.cells (p12 r v mb).toArray 70 (0, 0))) (hm : W.heap.size ≤ mb) (hp : MapV W' mb r'.pg) (hk : kindOf W' mb = some 109) : OpJ γ w W' db cb b8 mb d F r v r'.pg := by
  have hl := h.be.size
  have hB := γ.hB
  have hkd : kindOf W' b8 = kindOf W b8 := by simp [kindOf, h8, h.h8]
  have hs := hO.step (γ := γ) (by have := h.p8; omega) (by omega) (Tag.new (Nat.le_trans h0 h.p8) h.h8) hkd
  have h0m : γ.lim ≤ mb := by omega
  refine ⟨⟨hO.os.trans h.be.os, hO.tape.trans h.be.tape, hO.output.trans h.be.output, Nat.le_trans hl hO.size, fun k hkk => (hO.block k (by omega) (by have := h.p8; omega)).trans (h.be.block k hkk)⟩, h.ca.keep hs ⟨rfl, rfl, rfl, rfl⟩ ⟨rfl, rfl, rfl⟩, h8, ?_, ⟨hp, ?_, Nat.le_trans hB h0m⟩, by omega⟩
  · obtain ⟨a, c, e1, e2, e3⟩ := h.rn
    refine ⟨a, c, e1, e2, fun hpp => ?_⟩
    obtain ⟨g, o, rr, cs, f1, f2, f3, f4⟩ := e3 hpp
    have hne : g ≠ b8 := fun e => by
      rw [e, h.h8] at f3
      injection f3 with f3
      injection f3 with _ f3
      cases f3
    have hbk := hO.block g (Array.getElem?_eq_some_iff.1 f3).1 hne
    exact ⟨g, o, rr, cs, f1, f2, hbk.trans f3, fun j x hj => (cell_of_heap (a := ⟨g, o + j, none⟩) hbk).1.trans (f4 j x hj)⟩
  · unfold Tag Gh.kind
    rw [hk, γ.new h0m]
    rfl
theorem OpJ.below {γ : Gh} {w W W' : World} {db cb b8 mb : Nat} {d : Dk} {F : Nat} {r : Rt} {v : Value} {pg : Nat → Nat} (h : OpJ γ w W db cb b8 mb d F r v pg) (h0 : γ.lim ≤ w.heap.size) (hb : Below W.heap.size W W') : OpJ γ w W' db cb b8 mb d F r v pg :=
  ⟨Below.up h.be hb, h.ca.below hb (Nat.le_trans h0 h.be.size), (hb.block _ (Array.getElem?_eq_some_iff.1 h.h8).1).trans h.h8, h.rn.keep hb, h.mp.keep (Step.below (S := fun _ => false) hb (Nat.le_trans h0 h.be.size)) rfl, h.pm⟩
theorem OpJ.space {γ : Gh} {w W W' : World} {db cb b8 mb ob : Nat} {d : Dk} {F : Nat} {r : Rt} {v : Value} {pg : Nat → Nat} (h : OpJ γ w W db cb b8 mb d F r v pg) (h0 : γ.lim ≤ w.heap.size) (he : r.ep < 4294967296) (ha : ∀ i, r.at' i < 65536) (hml : r.mt.length ≤ 1000000) (ho : MapK γ W ob pg) (hne : mb ≠ ob)
    (hb : Below W.heap.size W W') {sb : Nat} (hsb : W.heap.size ≤ sb) (hk : W'.heap[sb]? = some (.cells #[.pointer (some ⟨db, 0, none⟩), .pointer (some ⟨cb, 0, none⟩), .int .u32 (r.ep : Int), .int .i64 (r.at' 0 : Int), .int .i64 (r.at' 1 : Int), .int .i64 (r.at' 2 : Int), .int .i64 (r.at' 3 : Int), .int .i64 (r.at' 4 : Int), .int .i64 (r.at' 5 : Int), .int .i64 (r.at' 6 : Int), .int .i64 (r.at' 7 : Int), .int .i64 (r.at' 8 : Int), v, .pointer (some ⟨mb, 0, none⟩), .pointer (some ⟨ob, 0, none⟩), .pointer none, .slice none 0 0] 74 (0, 0))) :
    SpU γ W' sb db cb mb ob (opened d F { r with pg := pg }) := by
  have hB := γ.hB
  have hl := h.be.size
  have hst : Step γ (fun _ => false) W W' := Step.below hb (by omega)
  refine { ca := h.ca.below hb (by omega), tg := Tag.new (by omega) hk, Bs := by omega, s0 := by simp [World.cell?, hk], s1 := by simp [World.cell?, hk], s2 := ⟨by simp [World.cell?, hk, opened], he⟩, sp := fun i hi => ⟨?_, ha i⟩, s12 := ⟨v, by simp [World.cell?, hk], (h.rn.rb h0).keep hst rfl⟩, ml := by show r.mt.length ≤ _; omega, s13 := by simp [World.cell?, hk], s14 := by simp [World.cell?, hk], s15 := ⟨_, by simp [World.cell?, hk]; rfl⟩, s16 := ⟨_, by simp [World.cell?, hk]; rfl⟩, sz := fun o _ => by simp [World.frozen?, hk], mr := h.mp.keep hst rfl, mo := ho.keep hst rfl, ro := hne }
  have h9 : i = 0 ∨ i = 1 ∨ i = 2 ∨ i = 3 ∨ i = 4 ∨ i = 5 ∨ i = 6 ∨ i = 7 ∨ i = 8 := by omega
  rcases h9 with rfl | rfl | rfl | rfl | rfl | rfl | rfl | rfl | rfl <;> simp [World.cell?, hk, opened]
theorem n12_arr (r : Rt) (v : Value) : (n12 r v).toArray = #[.int .u32 (r.ep : Int), .int .i64 (r.at' 0 : Int), .int .i64 (r.at' 1 : Int), .int .i64 (r.at' 2 : Int), .int .i64 (r.at' 3 : Int), .int .i64 (r.at' 4 : Int), .int .i64 (r.at' 5 : Int), .int .i64 (r.at' 6 : Int), .int .i64 (r.at' 7 : Int), .int .i64 (r.at' 8 : Int), v, .pointer none] := rfl
theorem OpI.copy {γ : Gh} {w W : World} {db cb b8 : Nat} {d : Dk} {F : Nat} {r r1 : Rt} {v v1 : Value} (h : OpI γ w W db cb b8 d F r v) (h0 : γ.lim ≤ w.heap.size) (hv : RN w.heap.size W v1 r1.mt) (he : r1.ep < 4294967296) (ha : ∀ i, r1.at' i < 65536) : OpI γ w (W.setCells b8 0 (n12 r1 v1)) db cb b8 d F r1 v1 := by
  have hs := Step.sets12 (γ := γ) (l := n12 r1 v1) h.h8 (Nat.le_trans h0 h.p8) rfl rfl
  have hoth : ∀ k, k ≠ b8 → (W.setCells b8 0 (n12 r1 v1)).heap[k]? = W.heap[k]? := fun k hk => setCells_other _ _ _ _ hk
  have hl := h.be.size
  have hp := h.p8
  refine ⟨⟨(setCells_os _ _ _).1.trans h.be.os, (setCells_os _ _ _).2.1.trans h.be.tape, (setCells_os _ _ _).2.2.trans h.be.output, by rw [setCells_size]; exact hl, fun k hk => (hoth k (by omega)).trans (h.be.block k hk)⟩, h.ca.keep hs ⟨rfl, rfl, rfl, rfl⟩ ⟨rfl, rfl, rfl⟩, set12 h.h8 rfl rfl, hp, ?_, he, ha⟩
  obtain ⟨a, c, e1, e2, e3⟩ := hv
  refine ⟨a, c, e1, e2, fun hpp => ?_⟩
  obtain ⟨g, o, rr, cs, f1, f2, f3, f4⟩ := e3 hpp
  have hne : g ≠ b8 := fun e => by
    rw [e, h.h8] at f3
    injection f3 with f3
    injection f3 with _ f3
    cases f3
  have hbk := hoth g hne
  exact ⟨g, o, rr, cs, f1, f2, hbk.trans f3, fun j x hj => (cell_of_heap (a := ⟨g, o + j, none⟩) hbk).1.trans (f4 j x hj)⟩
theorem n12_all {W : World} {b c n : Nat} {ad : Option Addr} {r : Rt} (h : W.heap[b]? = some (.cells (n12 r (.slice ad n c)).toArray 70 (0, 0))) : W.cell? ⟨b, 0, none⟩ = some (.int .u32 (r.ep : Int)) ∧ W.cell? ⟨b, 1, none⟩ = some (.int .i64 (r.at' 0 : Int)) ∧ W.cell? ⟨b, 2, none⟩ = some (.int .i64 (r.at' 1 : Int)) ∧ W.cell? ⟨b, 3, none⟩ = some (.int .i64 (r.at' 2 : Int)) ∧ W.cell? ⟨b, 4, none⟩ = some (.int .i64 (r.at' 3 : Int)) ∧ W.cell? ⟨b, 5, none⟩ = some (.int .i64 (r.at' 4 : Int)) ∧ W.cell? ⟨b, 6, none⟩ = some (.int .i64 (r.at' 5 : Int)) ∧ W.cell? ⟨b, 7, none⟩ = some (.int .i64 (r.at' 6 : Int)) ∧ W.cell? ⟨b, 8, none⟩ = some (.int .i64 (r.at' 7 : Int)) ∧ W.cell? ⟨b, 9, none⟩ = some (.int .i64 (r.at' 8 : Int)) ∧ W.cell? ⟨b, 10, none⟩ = some (.slice ad n c) ∧ W.cell? ⟨b, 11, none⟩ = some (.pointer none) ∧ (∀ o, W.frozen? ⟨b, o, none⟩ = false) := by
  refine ⟨?_, ?_, ?_, ?_, ?_, ?_, ?_, ?_, ?_, ?_, ?_, ?_, fun o => ?_⟩ <;> simp [World.cell?, World.frozen?, h, n12]
def OpenO (γ : Gh) (w : World) (db : Nat) (d : Dk) (F : Nat) (o : Option Rt) (e : Ending) (w' : World) : Prop :=
  (∃ r', o = some r' ∧ ∃ sb, e = .returned (.tuple #[.pointer (some ⟨sb, 0, none⟩), .int .i64 0]) ∧ Hid (SpV γ w' sb db (opened d F r') ∧ Step γ spS w w' ∧ w.heap.size ≤ sb)) ∨
  (o = none ∧ e = .returned (.tuple #[.pointer none, .int .i64 9]) ∧ Hid (Step γ spS w w' ∧ DkV γ w' db d))
theorem whole_pg {d : Dk} {r r' : Rt} (h : d.whole r = some r') : r' = { r with pg := r'.pg } := by
  unfold Dk.whole at h
  split at h
  · cases h
  · split at h
    · cases h
    · split at h
      · injection h with h; rw [← h]
      · cases h
theorem OpI.only {γ : Gh} {w W W' : World} {db cb b8 : Nat} {d : Dk} {F : Nat} {r : Rt} {v : Value} (h : OpI γ w W db cb b8 d F r v) (hO : OnlyB b8 W W') : Below w.heap.size w W' :=
  ⟨hO.os.trans h.be.os, hO.tape.trans h.be.tape, hO.output.trans h.be.output, Nat.le_trans h.be.size hO.size, fun k hk => (hO.block k (Nat.lt_of_lt_of_le hk h.be.size) (by have := h.p8; omega)).trans (h.be.block k hk)⟩
theorem open_n {γ : Gh} {w : World} {db F : Nat} {d : Dk} {r ra : Rt} (H : DkV γ w db d) (h0 : γ.lim ≤ w.heap.size) (hok : d.Ok) (hcap : d.P.length < 2000000) (hN1 : 1 ≤ d.N) (hd : d.dead = false) (hF : 2 ≤ F ∧ F ≤ 1024)
    (hc0 : d.cand 0 = none) (hc1 : d.cand 1 = none) (hml : r.mt.length ≤ 1000000) :
    Calls Tryz.prog 15 #[.pointer (some ⟨db, 0, none⟩), .int .i64 (F : Int)] w (OpenO γ w db d F none) := by
  have DD := dead_ok H.d2
  rw [hd] at DD
  have CN := cnew_ok H h0 F (by omega)
  have CD0 := Lib.hid (fun (W : World) (cb : Nat) (hc : CaV γ W cb db ⟨d, F, 0, fun _ => none⟩) (hb : Below w.heap.size w W) => cand_ok hc.dk' (Nat.le_trans h0 hb.size) hok hcap 0 (by decide))
  have CD1 := Lib.hid (fun (W : World) (cb : Nat) (hc : CaV γ W cb db ⟨d, F, 0, fun _ => none⟩) (hb : Below w.heap.size w W) => cand_ok hc.dk' (Nat.le_trans h0 hb.size) hok hcap 1 (by decide))
  rw [show (({ d := d, M := F, clk := 0, F := fun _ => none } : Ca).d.cand 0) = none from hc0] at CD0
  rw [show (({ d := d, M := F, clk := 0, F := fun _ => none } : Ca).d.cand 1) = none from hc1] at CD1
  have i1 : decide ((F : Int) < 2) = false := by rw [decide_eq_false_iff_not]; omega
  have HD0 := Lib.hid H
  clear H hc0 hc1
  go_enter Tryz.func15, Tryz.ntmps15
  go_upto_region 10 with (first
    | (go_at_call 38; refine DD.mono ?_; rintro e w5 ⟨rfl, rfl⟩)
    | (go_at_call 39; refine CN.mono ?_; rintro e w6 ⟨cb, rfl, hq6⟩; have h06 := Lib.hid (Nat.le_trans h0 hq6.out.2.size))
    | (go_at_call 40; refine (CD1.out _ cb (CaV.below hq6.out.1 (Below.allocs hq7.out.2.2.2.2 _) h06.out) (Below.allocs (Below.up hq6.out.2 hq7.out.2.2.2.2) _)).mono ?_; rintro e w8 ⟨r1, v1, rfl, hq8⟩; rw [n12_arr]; obtain ⟨av1, cv1, hv1⟩ := hq8.out.1.rv.len; subst hv1)
    | (go_at_call 40; refine (CD0.out _ _ hq6.out.1 hq6.out.2).mono ?_; rintro e w7 ⟨r0, v0, rfl, hq7⟩; rw [n12_arr]; obtain ⟨av0, cv0, hv0⟩ := hq7.out.1.rv.len; subst hv0))
  refine take_last ?_
  intro W9 hW9
  have hb9 : Below w8.heap.size w8 W9 := hW9 ▸ Below.alloc (Below.refl _ _) (Nat.le_refl _) _
  have hB1 : W9.heap[w8.heap.size]? = some (.cells (n12 r1 (.slice av1 r1.mt.length cv1)).toArray 70 (0, 0)) := hW9 ▸ (Go.MapKept.heap_alloc w8 _).1
  obtain ⟨W7, hW7⟩ : ∃ W7, w7.alloc (.cells (n12 r0 (.slice av0 r0.mt.length cv0)).toArray 70) = W7 := ⟨_, rfl⟩
  have hB0 : W7.heap[w7.heap.size]? = some (.cells (n12 r0 (.slice av0 r0.mt.length cv0)).toArray 70 (0, 0)) := hW7 ▸ (Go.MapKept.heap_alloc w7 _).1
  have hb7 : Below w7.heap.size w7 W7 := hW7 ▸ Below.alloc (Below.refl _ _) (Nat.le_refl _) _
  have hb8 : Below W7.heap.size W7 w8 := by have h := hq8.out.2.2.2.2; rw [show w7.alloc (.cells #[Value.int .u32 (r0.ep : Int), .int .i64 (r0.at' 0 : Int), .int .i64 (r0.at' 1 : Int), .int .i64 (r0.at' 2 : Int), .int .i64 (r0.at' 3 : Int), .int .i64 (r0.at' 4 : Int), .int .i64 (r0.at' 5 : Int), .int .i64 (r0.at' 6 : Int), .int .i64 (r0.at' 7 : Int), .int .i64 (r0.at' 8 : Int), .slice av0 r0.mt.length cv0, .pointer none] 70) = W7 from hW7] at h; exact h
  have hb69 : Below w6.heap.size w6 W9 := Below.up (Below.up (Below.up hq7.out.2.2.2.2 hb7) hb8) hb9
  have hb59 : Below w5.heap.size w5 W9 := Below.up hq6.out.2 hb69
  have hl7 : w7.heap.size < W7.heap.size := (Array.getElem?_eq_some_iff.1 hB0).1
  have hb79 : Below W7.heap.size W7 W9 := Below.up hb8 hb9
  have O0 : OpI γ w5 W9 db cb w7.heap.size d F r0 (.slice av0 r0.mt.length cv0) := ⟨hb59, hq6.out.1.below hb69 h06.out, (hb79.block _ hl7).trans hB0, Nat.le_trans hq6.out.2.size hq7.out.2.2.2.2.size, ((hq7.out.1.keep hb7).keep hb79).mono hq6.out.2.size, hq7.out.2.1, hq7.out.2.2.1⟩
  have hrn1 : RN w5.heap.size W9 (.slice av1 r1.mt.length cv1) r1.mt := (hq8.out.1.keep hb9).mono (by have h1 := hq6.out.2.size; have h2 := hq7.out.2.2.2.2.size; have h3 := hb7.size; rw [show (w7.alloc (.cells #[Value.int .u32 (r0.ep : Int), .int .i64 (r0.at' 0 : Int), .int .i64 (r0.at' 1 : Int), .int .i64 (r0.at' 2 : Int), .int .i64 (r0.at' 3 : Int), .int .i64 (r0.at' 4 : Int), .int .i64 (r0.at' 5 : Int), .int .i64 (r0.at' 6 : Int), .int .i64 (r0.at' 7 : Int), .int .i64 (r0.at' 8 : Int), .slice av0 r0.mt.length cv0, .pointer none] 70)) = W7 from hW7]; omega)
  obtain ⟨k0, k1, k2, k3, k4, k5, k6, k7, k8, k9, k10, k11, kz⟩ := n12_all O0.h8
  obtain ⟨n0, n1, n2, n3, n4, n5, n6, n7, n8, n9, n10, n11, nz⟩ := n12_all hB1
  have lk := cell_lt' k0
  have ln := cell_lt' n0
  have z0 := kz 0
  have z1 := kz 1
  have z2 := kz 2
  have z3 := kz 3
  have z4 := kz 4
  have z5 := kz 5
  have z6 := kz 6
  have z7 := kz 7
  have z8 := kz 8
  have z9 := kz 9
  have z10 := kz 10
  have z11 := kz 11
  clear kz nz
  have HB9 := Lib.hid hb59
  clear O0 hrn1 hB0 hB1 hb9 hb79 hb7 hb8 hb69 hb59 hq7 hq8 hW9 hW7
  go_wp2_with fail
  go_ret2
  exact .inr ⟨rfl, rfl, Lib.hid ⟨Step.below HB9.out h0, HD0.out.keep (Step.below (S := fun _ => false) HB9.out h0) ⟨rfl, rfl, rfl, rfl⟩⟩⟩
theorem open_b {γ : Gh} {w : World} {db F : Nat} {d : Dk} {r ra : Rt} (H : DkV γ w db d) (h0 : γ.lim ≤ w.heap.size) (hok : d.Ok) (hcap : d.P.length < 2000000) (hN1 : 1 ≤ d.N) (hd : d.dead = false) (hF : 2 ≤ F ∧ F ≤ 1024)
    (hc0 : d.cand 0 = none) (hc1 : d.cand 1 = some r) (hml : r.mt.length ≤ 1000000) :
    Calls Tryz.prog 15 #[.pointer (some ⟨db, 0, none⟩), .int .i64 (F : Int)] w (OpenO γ w db d F (d.whole r)) := by
  have DD := dead_ok H.d2
  rw [hd] at DD
  have CN := cnew_ok H h0 F (by omega)
  have CD0 := Lib.hid (fun (W : World) (cb : Nat) (hc : CaV γ W cb db ⟨d, F, 0, fun _ => none⟩) (hb : Below w.heap.size w W) => cand_ok hc.dk' (Nat.le_trans h0 hb.size) hok hcap 0 (by decide))
  have CD1 := Lib.hid (fun (W : World) (cb : Nat) (hc : CaV γ W cb db ⟨d, F, 0, fun _ => none⟩) (hb : Below w.heap.size w W) => cand_ok hc.dk' (Nat.le_trans h0 hb.size) hok hcap 1 (by decide))
  rw [show (({ d := d, M := F, clk := 0, F := fun _ => none } : Ca).d.cand 0) = none from hc0] at CD0
  rw [show (({ d := d, M := F, clk := 0, F := fun _ => none } : Ca).d.cand 1) = some r from hc1] at CD1
  have i1 : decide ((F : Int) < 2) = false := by rw [decide_eq_false_iff_not]; omega
  have HD0 := Lib.hid H
  clear H hc0 hc1
  go_enter Tryz.func15, Tryz.ntmps15
  go_upto_region 10 with (first
    | (go_at_call 38; refine DD.mono ?_; rintro e w5 ⟨rfl, rfl⟩)
    | (go_at_call 39; refine CN.mono ?_; rintro e w6 ⟨cb, rfl, hq6⟩; have h06 := Lib.hid (Nat.le_trans h0 hq6.out.2.size))
    | (go_at_call 40; refine (CD1.out _ cb (CaV.below hq6.out.1 (Below.allocs hq7.out.2.2.2.2 _) h06.out) (Below.allocs (Below.up hq6.out.2 hq7.out.2.2.2.2) _)).mono ?_; rintro e w8 ⟨r1, v1, rfl, hq8⟩; rw [n12_arr]; obtain ⟨av1, cv1, hv1⟩ := hq8.out.1.rv.len; subst hv1)
    | (go_at_call 40; refine (CD0.out _ _ hq6.out.1 hq6.out.2).mono ?_; rintro e w7 ⟨r0, v0, rfl, hq7⟩; rw [n12_arr]; obtain ⟨av0, cv0, hv0⟩ := hq7.out.1.rv.len; subst hv0))
  refine take_last ?_
  intro W9 hW9
  have hb9 : Below w8.heap.size w8 W9 := hW9 ▸ Below.alloc (Below.refl _ _) (Nat.le_refl _) _
  have hB1 : W9.heap[w8.heap.size]? = some (.cells (n12 r1 (.slice av1 r1.mt.length cv1)).toArray 70 (0, 0)) := hW9 ▸ (Go.MapKept.heap_alloc w8 _).1
  obtain ⟨W7, hW7⟩ : ∃ W7, w7.alloc (.cells (n12 r0 (.slice av0 r0.mt.length cv0)).toArray 70) = W7 := ⟨_, rfl⟩
  have hB0 : W7.heap[w7.heap.size]? = some (.cells (n12 r0 (.slice av0 r0.mt.length cv0)).toArray 70 (0, 0)) := hW7 ▸ (Go.MapKept.heap_alloc w7 _).1
  have hb7 : Below w7.heap.size w7 W7 := hW7 ▸ Below.alloc (Below.refl _ _) (Nat.le_refl _) _
  have hb8 : Below W7.heap.size W7 w8 := by have h := hq8.out.2.2.2.2; rw [show w7.alloc (.cells #[Value.int .u32 (r0.ep : Int), .int .i64 (r0.at' 0 : Int), .int .i64 (r0.at' 1 : Int), .int .i64 (r0.at' 2 : Int), .int .i64 (r0.at' 3 : Int), .int .i64 (r0.at' 4 : Int), .int .i64 (r0.at' 5 : Int), .int .i64 (r0.at' 6 : Int), .int .i64 (r0.at' 7 : Int), .int .i64 (r0.at' 8 : Int), .slice av0 r0.mt.length cv0, .pointer none] 70) = W7 from hW7] at h; exact h
  have hb69 : Below w6.heap.size w6 W9 := Below.up (Below.up (Below.up hq7.out.2.2.2.2 hb7) hb8) hb9
  have hb59 : Below w5.heap.size w5 W9 := Below.up hq6.out.2 hb69
  have hl7 : w7.heap.size < W7.heap.size := (Array.getElem?_eq_some_iff.1 hB0).1
  have hb79 : Below W7.heap.size W7 W9 := Below.up hb8 hb9
  have O0 : OpI γ w5 W9 db cb w7.heap.size d F r0 (.slice av0 r0.mt.length cv0) := ⟨hb59, hq6.out.1.below hb69 h06.out, (hb79.block _ hl7).trans hB0, Nat.le_trans hq6.out.2.size hq7.out.2.2.2.2.size, ((hq7.out.1.keep hb7).keep hb79).mono hq6.out.2.size, hq7.out.2.1, hq7.out.2.2.1⟩
  have hrn1 : RN w5.heap.size W9 (.slice av1 r1.mt.length cv1) r1.mt := (hq8.out.1.keep hb9).mono (by have h1 := hq6.out.2.size; have h2 := hq7.out.2.2.2.2.size; have h3 := hb7.size; rw [show (w7.alloc (.cells #[Value.int .u32 (r0.ep : Int), .int .i64 (r0.at' 0 : Int), .int .i64 (r0.at' 1 : Int), .int .i64 (r0.at' 2 : Int), .int .i64 (r0.at' 3 : Int), .int .i64 (r0.at' 4 : Int), .int .i64 (r0.at' 5 : Int), .int .i64 (r0.at' 6 : Int), .int .i64 (r0.at' 7 : Int), .int .i64 (r0.at' 8 : Int), .slice av0 r0.mt.length cv0, .pointer none] 70)) = W7 from hW7]; omega)
  obtain ⟨k0, k1, k2, k3, k4, k5, k6, k7, k8, k9, k10, k11, kz⟩ := n12_all O0.h8
  obtain ⟨n0, n1, n2, n3, n4, n5, n6, n7, n8, n9, n10, n11, nz⟩ := n12_all hB1
  have lk := cell_lt' k0
  have ln := cell_lt' n0
  have z0 := kz 0
  have z1 := kz 1
  have z2 := kz 2
  have z3 := kz 3
  have z4 := kz 4
  have z5 := kz 5
  have z6 := kz 6
  have z7 := kz 7
  have z8 := kz 8
  have z9 := kz 9
  have z10 := kz 10
  have z11 := kz 11
  clear kz nz
  have hr1 := hq8.out.2.2.2.1 r rfl
  subst hr1
  have O1 := O0.copy h0 hrn1 hq8.out.2.1 hq8.out.2.2.1
  have HO1 := Lib.hid O1
  clear O0 O1 hrn1 hB0 hB1 hb9 hb79 hb7 hb8 hb69 hb59 hq7 hq8 hW9 hW7
  go_upto_region 12 with fail
  refine take_last ?_
  intro W12 hW12
  have HO12 : Hid (OpI γ w5 W12 db cb w7.heap.size d F r1 (.slice av1 r1.mt.length cv1)) := by
    have hW : W9.setCells w7.heap.size 0 (n12 r1 (.slice av1 r1.mt.length cv1)) = W12 := hW12
    rw [← hW]; exact HO1
  clear hW12 HO1 k0 k1 k2 k3 k4 k5 k6 k7 k8 k9 k10 k11 n0 n1 n2 n3 n4 n5 n6 n7 n8 n9 n10 n11 lk ln z0 z1 z2 z3 z4 z5 z6 z7 z8 z9 z10 z11 hl7
  generalize w7.heap.size = B8 at HO12 ⊢
  cases hwh : d.whole r1 with
  | none =>
    have WH := (HO12.out.whole h0 hok hcap hN1 (by omega)).mono (R' := fun e w' => e = .returned (.bool false) ∧ Hid (Step γ spS w5 w' ∧ DkV γ w' db d)) (by
      rintro e w' ⟨h1, h2⟩
      rw [hwh] at h1 h2
      have hb := HO12.out.only h2.out.1
      exact ⟨h1, Lib.hid ⟨Step.below hb h0, HD0.out.keep (Step.below (S := fun _ => false) hb h0) ⟨rfl, rfl, rfl, rfl⟩⟩⟩)
    have HWH := Lib.hid hwh
    clear HO12 hwh
    go_wp2_with (go_at_call 41; refine WH.mono ?_; rintro e w20 ⟨rfl, hq20⟩)
    go_ret2
    exact .inr ⟨HWH.out, rfl, hq20⟩
  | some r' =>
    have WH := (HO12.out.whole h0 hok hcap hN1 (by omega)).mono (R' := fun e w' => e = .returned (.bool true) ∧ Hid (∃ mb, OpJ γ w5 w' db cb B8 mb d F r1 (.slice av1 r1.mt.length cv1) r'.pg)) (by
      rintro e w' ⟨h1, h2⟩
      rw [hwh] at h1 h2
      obtain ⟨mb, g1, g2, g3, g4⟩ := h2.out.2 r' rfl
      exact ⟨h1, Lib.hid ⟨mb, HO12.out.found h0 h2.out.1 g1 g2 g3 g4⟩⟩)
    have HR := Lib.hid (whole_pg hwh)
    have HWH := Lib.hid hwh
    clear hwh
    have hepm := Lib.hid (And.intro HO12.out.ep HO12.out.at')
    clear HO12
    go_upto_region 14 with (go_at_call 41; refine WH.mono ?_; rintro e w20 ⟨rfl, hq20⟩)
    obtain ⟨mb, hJ⟩ := hq20.out
    have HJ := Lib.hid hJ
    have HS : Hid (∀ W, Below w20.heap.size w20 W → W.cell? ⟨B8, 0, none⟩ = some (.int .u32 (r1.ep : Int)) ∧ W.cell? ⟨B8, 1, none⟩ = some (.int .i64 (r1.at' 0 : Int)) ∧ W.cell? ⟨B8, 2, none⟩ = some (.int .i64 (r1.at' 1 : Int)) ∧ W.cell? ⟨B8, 3, none⟩ = some (.int .i64 (r1.at' 2 : Int)) ∧ W.cell? ⟨B8, 4, none⟩ = some (.int .i64 (r1.at' 3 : Int)) ∧ W.cell? ⟨B8, 5, none⟩ = some (.int .i64 (r1.at' 4 : Int)) ∧ W.cell? ⟨B8, 6, none⟩ = some (.int .i64 (r1.at' 5 : Int)) ∧ W.cell? ⟨B8, 7, none⟩ = some (.int .i64 (r1.at' 6 : Int)) ∧ W.cell? ⟨B8, 8, none⟩ = some (.int .i64 (r1.at' 7 : Int)) ∧ W.cell? ⟨B8, 9, none⟩ = some (.int .i64 (r1.at' 8 : Int)) ∧ W.cell? ⟨B8, 10, none⟩ = some (.slice av1 r1.mt.length cv1) ∧ W.cell? ⟨B8, 11, none⟩ = some (.pointer (some ⟨mb, 0, none⟩))) := Lib.hid fun W hW => by
      have hb := (hJ.below h0 hW).h8
      refine ⟨?_, ?_, ?_, ?_, ?_, ?_, ?_, ?_, ?_, ?_, ?_, ?_⟩ <;> simp [World.cell?, hb, p12]
    have CP := Lib.hid (fun (W : World) (hW : Below w20.heap.size w20 W) => copy_ok (γ := γ) (hJ.below h0 hW).mp (Nat.le_trans h0 (hJ.below h0 hW).be.size))
    obtain ⟨m0, m1, m2, m3, m4, m5, m6, m7, m8, m9, m10, m11⟩ := HS.out w20 (Below.refl _ _)
    clear hJ hq20 WH
    go_region_held3 (fun W => W.cell? ⟨B8, 0, none⟩ = some (.int .u32 (r1.ep : Int)) ∧ W.cell? ⟨B8, 1, none⟩ = some (.int .i64 (r1.at' 0 : Int)) ∧ W.cell? ⟨B8, 2, none⟩ = some (.int .i64 (r1.at' 1 : Int)) ∧ W.cell? ⟨B8, 3, none⟩ = some (.int .i64 (r1.at' 2 : Int)) ∧ W.cell? ⟨B8, 4, none⟩ = some (.int .i64 (r1.at' 3 : Int)) ∧ W.cell? ⟨B8, 5, none⟩ = some (.int .i64 (r1.at' 4 : Int)) ∧ W.cell? ⟨B8, 6, none⟩ = some (.int .i64 (r1.at' 5 : Int)) ∧ W.cell? ⟨B8, 7, none⟩ = some (.int .i64 (r1.at' 6 : Int)) ∧ W.cell? ⟨B8, 8, none⟩ = some (.int .i64 (r1.at' 7 : Int)) ∧ W.cell? ⟨B8, 9, none⟩ = some (.int .i64 (r1.at' 8 : Int)) ∧ W.cell? ⟨B8, 10, none⟩ = some (.slice av1 r1.mt.length cv1) ∧ W.cell? ⟨B8, 11, none⟩ = some (.pointer (some ⟨mb, 0, none⟩)))
      ((with_reducible refine HS.out _ ?_; (repeat (first | with_reducible exact Below.refl _ _ | with_reducible assumption | with_reducible refine Below.drew ?_ | with_reducible refine Below.allocs ?_ _)); done))
      ((go_at_call 30; refine (CP.out _ ?_).mono ?_; (repeat (first | with_reducible exact Below.refl _ _ | with_reducible assumption | with_reducible refine Below.drew ?_ | with_reducible refine Below.allocs ?_ _)); rintro e w21 ⟨rfl, hq21⟩; have hb21 : Below w20.heap.size w20 w21 := Below.up (by (repeat (first | with_reducible exact Below.refl _ _ | with_reducible assumption | with_reducible refine Below.drew ?_ | with_reducible refine Below.allocs ?_ _)); done) hq21.out.2))
    refine take_last ?_
    intro W22 hW22
    obtain ⟨ob, hob, hmo⟩ : ∃ ob, ob = w20.heap.size ∧ MapK γ w21 ob r'.pg := ⟨_, by simp, hq21.out.1⟩
    have hb22 : Below w21.heap.size w21 W22 := by rw [← hW22]; (repeat (first | with_reducible exact Below.refl _ _ | with_reducible assumption | with_reducible refine Below.drew ?_ | with_reducible refine Below.allocs ?_ _))
    have hk22 : W22.heap[w21.heap.size]? = some (.cells #[.pointer (some ⟨db, 0, none⟩), .pointer (some ⟨cb, 0, none⟩), .int .u32 (r1.ep : Int), .int .i64 (r1.at' 0 : Int), .int .i64 (r1.at' 1 : Int), .int .i64 (r1.at' 2 : Int), .int .i64 (r1.at' 3 : Int), .int .i64 (r1.at' 4 : Int), .int .i64 (r1.at' 5 : Int), .int .i64 (r1.at' 6 : Int), .int .i64 (r1.at' 7 : Int), .int .i64 (r1.at' 8 : Int), .slice av1 r1.mt.length cv1, .pointer (some ⟨mb, 0, none⟩), .pointer (some ⟨ob, 0, none⟩), .pointer none, .slice none 0 0] 74 (0, 0)) := by
      rw [hob, ← hW22]
      exact (Go.MapKept.heap_alloc w21 _).1
    have hJ21 := HJ.out.below h0 hb21
    have hmlt := HJ.out.mp.lt
    have SU := hJ21.space h0 hepm.out.1 hepm.out.2 (by omega) hmo (by omega) hb22 (Nat.le_refl _) hk22
    have h22 : Step γ spS w5 W22 := Step.below (Below.up hJ21.be hb22) h0
    have TU := turn_ok SU (Nat.le_trans h0 h22.size)
    have hsbl : w5.heap.size ≤ w21.heap.size := hJ21.be.size
    have HF := Lib.hid (And.intro h22 hsbl)
    have lsb := SU.lt
    rw [← HR.out] at TU
    clear hW22 hb22 hk22 hJ21 hmlt SU h22 hmo hob m0 m1 m2 m3 m4 m5 m6 m7 m8 m9 m10 m11 HS CP HJ hsbl hb21
    go_wp2_with (go_at_call 37; refine TU.mono ?_; rintro e w23 ⟨rfl, hq23⟩)
    go_ret2
    exact .inl ⟨_, HWH.out, _, rfl, Lib.hid ⟨hq23.out.1, HF.out.1.trans hq23.out.2, HF.out.2⟩⟩
end Go.Tb
namespace Go.Tb
open Go Go.RowKit Go.Proofs Go.Maps Go.Sp
theorem open_a {γ : Gh} {w : World} {db F : Nat} {d : Dk} {r ra : Rt} (H : DkV γ w db d) (h0 : γ.lim ≤ w.heap.size) (hok : d.Ok) (hcap : d.P.length < 2000000) (hN1 : 1 ≤ d.N) (hd : d.dead = false) (hF : 2 ≤ F ∧ F ≤ 1024)
    (hc0 : d.cand 0 = some r) (hc1 : d.cand 1 = none) (hml : r.mt.length ≤ 1000000) :
    Calls Tryz.prog 15 #[.pointer (some ⟨db, 0, none⟩), .int .i64 (F : Int)] w (OpenO γ w db d F (d.whole r)) := by
  have DD := dead_ok H.d2
  rw [hd] at DD
  have CN := cnew_ok H h0 F (by omega)
  have CD0 := Lib.hid (fun (W : World) (cb : Nat) (hc : CaV γ W cb db ⟨d, F, 0, fun _ => none⟩) (hb : Below w.heap.size w W) => cand_ok hc.dk' (Nat.le_trans h0 hb.size) hok hcap 0 (by decide))
  have CD1 := Lib.hid (fun (W : World) (cb : Nat) (hc : CaV γ W cb db ⟨d, F, 0, fun _ => none⟩) (hb : Below w.heap.size w W) => cand_ok hc.dk' (Nat.le_trans h0 hb.size) hok hcap 1 (by decide))
  rw [show (({ d := d, M := F, clk := 0, F := fun _ => none } : Ca).d.cand 0) = some r from hc0] at CD0
  rw [show (({ d := d, M := F, clk := 0, F := fun _ => none } : Ca).d.cand 1) = none from hc1] at CD1
  have i1 : decide ((F : Int) < 2) = false := by rw [decide_eq_false_iff_not]; omega
  have HD0 := Lib.hid H
  clear H hc0 hc1
  go_enter Tryz.func15, Tryz.ntmps15
  go_upto_region 10 with (first
    | (go_at_call 38; refine DD.mono ?_; rintro e w5 ⟨rfl, rfl⟩)
    | (go_at_call 39; refine CN.mono ?_; rintro e w6 ⟨cb, rfl, hq6⟩; have h06 := Lib.hid (Nat.le_trans h0 hq6.out.2.size))
    | (go_at_call 40; refine (CD1.out _ cb (CaV.below hq6.out.1 (Below.allocs hq7.out.2.2.2.2 _) h06.out) (Below.allocs (Below.up hq6.out.2 hq7.out.2.2.2.2) _)).mono ?_; rintro e w8 ⟨r1, v1, rfl, hq8⟩; rw [n12_arr]; obtain ⟨av1, cv1, hv1⟩ := hq8.out.1.rv.len; subst hv1)
    | (go_at_call 40; refine (CD0.out _ _ hq6.out.1 hq6.out.2).mono ?_; rintro e w7 ⟨r0, v0, rfl, hq7⟩; rw [n12_arr]; obtain ⟨av0, cv0, hv0⟩ := hq7.out.1.rv.len; subst hv0))
  refine take_last ?_
  intro W9 hW9
  have hb9 : Below w8.heap.size w8 W9 := hW9 ▸ Below.alloc (Below.refl _ _) (Nat.le_refl _) _
  have hB1 : W9.heap[w8.heap.size]? = some (.cells (n12 r1 (.slice av1 r1.mt.length cv1)).toArray 70 (0, 0)) := hW9 ▸ (Go.MapKept.heap_alloc w8 _).1
  obtain ⟨W7, hW7⟩ : ∃ W7, w7.alloc (.cells (n12 r0 (.slice av0 r0.mt.length cv0)).toArray 70) = W7 := ⟨_, rfl⟩
  have hB0 : W7.heap[w7.heap.size]? = some (.cells (n12 r0 (.slice av0 r0.mt.length cv0)).toArray 70 (0, 0)) := hW7 ▸ (Go.MapKept.heap_alloc w7 _).1
  have hb7 : Below w7.heap.size w7 W7 := hW7 ▸ Below.alloc (Below.refl _ _) (Nat.le_refl _) _
  have hb8 : Below W7.heap.size W7 w8 := by have h := hq8.out.2.2.2.2; rw [show w7.alloc (.cells #[Value.int .u32 (r0.ep : Int), .int .i64 (r0.at' 0 : Int), .int .i64 (r0.at' 1 : Int), .int .i64 (r0.at' 2 : Int), .int .i64 (r0.at' 3 : Int), .int .i64 (r0.at' 4 : Int), .int .i64 (r0.at' 5 : Int), .int .i64 (r0.at' 6 : Int), .int .i64 (r0.at' 7 : Int), .int .i64 (r0.at' 8 : Int), .slice av0 r0.mt.length cv0, .pointer none] 70) = W7 from hW7] at h; exact h
  have hb69 : Below w6.heap.size w6 W9 := Below.up (Below.up (Below.up hq7.out.2.2.2.2 hb7) hb8) hb9
  have hb59 : Below w5.heap.size w5 W9 := Below.up hq6.out.2 hb69
  have hl7 : w7.heap.size < W7.heap.size := (Array.getElem?_eq_some_iff.1 hB0).1
  have hb79 : Below W7.heap.size W7 W9 := Below.up hb8 hb9
  have O0 : OpI γ w5 W9 db cb w7.heap.size d F r0 (.slice av0 r0.mt.length cv0) := ⟨hb59, hq6.out.1.below hb69 h06.out, (hb79.block _ hl7).trans hB0, Nat.le_trans hq6.out.2.size hq7.out.2.2.2.2.size, ((hq7.out.1.keep hb7).keep hb79).mono hq6.out.2.size, hq7.out.2.1, hq7.out.2.2.1⟩
  have hrn1 : RN w5.heap.size W9 (.slice av1 r1.mt.length cv1) r1.mt := (hq8.out.1.keep hb9).mono (by have h1 := hq6.out.2.size; have h2 := hq7.out.2.2.2.2.size; have h3 := hb7.size; rw [show (w7.alloc (.cells #[Value.int .u32 (r0.ep : Int), .int .i64 (r0.at' 0 : Int), .int .i64 (r0.at' 1 : Int), .int .i64 (r0.at' 2 : Int), .int .i64 (r0.at' 3 : Int), .int .i64 (r0.at' 4 : Int), .int .i64 (r0.at' 5 : Int), .int .i64 (r0.at' 6 : Int), .int .i64 (r0.at' 7 : Int), .int .i64 (r0.at' 8 : Int), .slice av0 r0.mt.length cv0, .pointer none] 70)) = W7 from hW7]; omega)
  obtain ⟨k0, k1, k2, k3, k4, k5, k6, k7, k8, k9, k10, k11, kz⟩ := n12_all O0.h8
  obtain ⟨n0, n1, n2, n3, n4, n5, n6, n7, n8, n9, n10, n11, nz⟩ := n12_all hB1
  have lk := cell_lt' k0
  have ln := cell_lt' n0
  have z0 := kz 0
  have z1 := kz 1
  have z2 := kz 2
  have z3 := kz 3
  have z4 := kz 4
  have z5 := kz 5
  have z6 := kz 6
  have z7 := kz 7
  have z8 := kz 8
  have z9 := kz 9
  have z10 := kz 10
  have z11 := kz 11
  clear kz nz
  have hr0 := hq7.out.2.2.2.1 r rfl
  subst hr0
  have HO1 := Lib.hid O0
  clear O0 hrn1 hB0 hB1 hb9 hb79 hb7 hb8 hb69 hb59 hq7 hq8 hW9 hW7
  go_upto_region 12 with fail
  refine take_last ?_
  intro W12 hW12
  have HO12 : Hid (OpI γ w5 W12 db cb w7.heap.size d F r0 (.slice av0 r0.mt.length cv0)) := by
    rw [← hW12]; exact HO1
  clear hW12 HO1 k0 k1 k2 k3 k4 k5 k6 k7 k8 k9 k10 k11 n0 n1 n2 n3 n4 n5 n6 n7 n8 n9 n10 n11 lk ln z0 z1 z2 z3 z4 z5 z6 z7 z8 z9 z10 z11 hl7
  generalize w7.heap.size = B8 at HO12 ⊢
  cases hwh : d.whole r0 with
  | none =>
    have WH := (HO12.out.whole h0 hok hcap hN1 (by omega)).mono (R' := fun e w' => e = .returned (.bool false) ∧ Hid (Step γ spS w5 w' ∧ DkV γ w' db d)) (by
      rintro e w' ⟨h1, h2⟩
      rw [hwh] at h1 h2
      have hb := HO12.out.only h2.out.1
      exact ⟨h1, Lib.hid ⟨Step.below hb h0, HD0.out.keep (Step.below (S := fun _ => false) hb h0) ⟨rfl, rfl, rfl, rfl⟩⟩⟩)
    have HWH := Lib.hid hwh
    clear HO12 hwh
    go_wp2_with (go_at_call 41; refine WH.mono ?_; rintro e w20 ⟨rfl, hq20⟩)
    go_ret2
    exact .inr ⟨HWH.out, rfl, hq20⟩
  | some r' =>
    have WH := (HO12.out.whole h0 hok hcap hN1 (by omega)).mono (R' := fun e w' => e = .returned (.bool true) ∧ Hid (∃ mb, OpJ γ w5 w' db cb B8 mb d F r0 (.slice av0 r0.mt.length cv0) r'.pg)) (by
      rintro e w' ⟨h1, h2⟩
      rw [hwh] at h1 h2
      obtain ⟨mb, g1, g2, g3, g4⟩ := h2.out.2 r' rfl
      exact ⟨h1, Lib.hid ⟨mb, HO12.out.found h0 h2.out.1 g1 g2 g3 g4⟩⟩)
    have HR := Lib.hid (whole_pg hwh)
    have HWH := Lib.hid hwh
    clear hwh
    have hepm := Lib.hid (And.intro HO12.out.ep HO12.out.at')
    clear HO12
    go_upto_region 14 with (go_at_call 41; refine WH.mono ?_; rintro e w20 ⟨rfl, hq20⟩)
    obtain ⟨mb, hJ⟩ := hq20.out
    have HJ := Lib.hid hJ
    have HS : Hid (∀ W, Below w20.heap.size w20 W → W.cell? ⟨B8, 0, none⟩ = some (.int .u32 (r0.ep : Int)) ∧ W.cell? ⟨B8, 1, none⟩ = some (.int .i64 (r0.at' 0 : Int)) ∧ W.cell? ⟨B8, 2, none⟩ = some (.int .i64 (r0.at' 1 : Int)) ∧ W.cell? ⟨B8, 3, none⟩ = some (.int .i64 (r0.at' 2 : Int)) ∧ W.cell? ⟨B8, 4, none⟩ = some (.int .i64 (r0.at' 3 : Int)) ∧ W.cell? ⟨B8, 5, none⟩ = some (.int .i64 (r0.at' 4 : Int)) ∧ W.cell? ⟨B8, 6, none⟩ = some (.int .i64 (r0.at' 5 : Int)) ∧ W.cell? ⟨B8, 7, none⟩ = some (.int .i64 (r0.at' 6 : Int)) ∧ W.cell? ⟨B8, 8, none⟩ = some (.int .i64 (r0.at' 7 : Int)) ∧ W.cell? ⟨B8, 9, none⟩ = some (.int .i64 (r0.at' 8 : Int)) ∧ W.cell? ⟨B8, 10, none⟩ = some (.slice av0 r0.mt.length cv0) ∧ W.cell? ⟨B8, 11, none⟩ = some (.pointer (some ⟨mb, 0, none⟩))) := Lib.hid fun W hW => by
      have hb := (hJ.below h0 hW).h8
      refine ⟨?_, ?_, ?_, ?_, ?_, ?_, ?_, ?_, ?_, ?_, ?_, ?_⟩ <;> simp [World.cell?, hb, p12]
    have CP := Lib.hid (fun (W : World) (hW : Below w20.heap.size w20 W) => copy_ok (γ := γ) (hJ.below h0 hW).mp (Nat.le_trans h0 (hJ.below h0 hW).be.size))
    obtain ⟨m0, m1, m2, m3, m4, m5, m6, m7, m8, m9, m10, m11⟩ := HS.out w20 (Below.refl _ _)
    clear hJ hq20 WH
    go_region_held3 (fun W => W.cell? ⟨B8, 0, none⟩ = some (.int .u32 (r0.ep : Int)) ∧ W.cell? ⟨B8, 1, none⟩ = some (.int .i64 (r0.at' 0 : Int)) ∧ W.cell? ⟨B8, 2, none⟩ = some (.int .i64 (r0.at' 1 : Int)) ∧ W.cell? ⟨B8, 3, none⟩ = some (.int .i64 (r0.at' 2 : Int)) ∧ W.cell? ⟨B8, 4, none⟩ = some (.int .i64 (r0.at' 3 : Int)) ∧ W.cell? ⟨B8, 5, none⟩ = some (.int .i64 (r0.at' 4 : Int)) ∧ W.cell? ⟨B8, 6, none⟩ = some (.int .i64 (r0.at' 5 : Int)) ∧ W.cell? ⟨B8, 7, none⟩ = some (.int .i64 (r0.at' 6 : Int)) ∧ W.cell? ⟨B8, 8, none⟩ = some (.int .i64 (r0.at' 7 : Int)) ∧ W.cell? ⟨B8, 9, none⟩ = some (.int .i64 (r0.at' 8 : Int)) ∧ W.cell? ⟨B8, 10, none⟩ = some (.slice av0 r0.mt.length cv0) ∧ W.cell? ⟨B8, 11, none⟩ = some (.pointer (some ⟨mb, 0, none⟩)))
      ((with_reducible refine HS.out _ ?_; (repeat (first | with_reducible exact Below.refl _ _ | with_reducible assumption | with_reducible refine Below.drew ?_ | with_reducible refine Below.allocs ?_ _)); done))
      ((go_at_call 30; refine (CP.out _ ?_).mono ?_; (repeat (first | with_reducible exact Below.refl _ _ | with_reducible assumption | with_reducible refine Below.drew ?_ | with_reducible refine Below.allocs ?_ _)); rintro e w21 ⟨rfl, hq21⟩; have hb21 : Below w20.heap.size w20 w21 := Below.up (by (repeat (first | with_reducible exact Below.refl _ _ | with_reducible assumption | with_reducible refine Below.drew ?_ | with_reducible refine Below.allocs ?_ _)); done) hq21.out.2))
    refine take_last ?_
    intro W22 hW22
    obtain ⟨ob, hob, hmo⟩ : ∃ ob, ob = w20.heap.size ∧ MapK γ w21 ob r'.pg := ⟨_, by simp, hq21.out.1⟩
    have hb22 : Below w21.heap.size w21 W22 := by rw [← hW22]; (repeat (first | with_reducible exact Below.refl _ _ | with_reducible assumption | with_reducible refine Below.drew ?_ | with_reducible refine Below.allocs ?_ _))
    have hk22 : W22.heap[w21.heap.size]? = some (.cells #[.pointer (some ⟨db, 0, none⟩), .pointer (some ⟨cb, 0, none⟩), .int .u32 (r0.ep : Int), .int .i64 (r0.at' 0 : Int), .int .i64 (r0.at' 1 : Int), .int .i64 (r0.at' 2 : Int), .int .i64 (r0.at' 3 : Int), .int .i64 (r0.at' 4 : Int), .int .i64 (r0.at' 5 : Int), .int .i64 (r0.at' 6 : Int), .int .i64 (r0.at' 7 : Int), .int .i64 (r0.at' 8 : Int), .slice av0 r0.mt.length cv0, .pointer (some ⟨mb, 0, none⟩), .pointer (some ⟨ob, 0, none⟩), .pointer none, .slice none 0 0] 74 (0, 0)) := by
      rw [hob, ← hW22]
      exact (Go.MapKept.heap_alloc w21 _).1
    have hJ21 := HJ.out.below h0 hb21
    have hmlt := HJ.out.mp.lt
    have SU := hJ21.space h0 hepm.out.1 hepm.out.2 (by omega) hmo (by omega) hb22 (Nat.le_refl _) hk22
    have h22 : Step γ spS w5 W22 := Step.below (Below.up hJ21.be hb22) h0
    have TU := turn_ok SU (Nat.le_trans h0 h22.size)
    have hsbl : w5.heap.size ≤ w21.heap.size := hJ21.be.size
    have HF := Lib.hid (And.intro h22 hsbl)
    have lsb := SU.lt
    rw [← HR.out] at TU
    clear hW22 hb22 hk22 hJ21 hmlt SU h22 hmo hob m0 m1 m2 m3 m4 m5 m6 m7 m8 m9 m10 m11 HS CP HJ hsbl hb21
    go_wp2_with (go_at_call 37; refine TU.mono ?_; rintro e w23 ⟨rfl, hq23⟩)
    go_ret2
    exact .inl ⟨_, HWH.out, _, rfl, Lib.hid ⟨hq23.out.1, HF.out.1.trans hq23.out.2, HF.out.2⟩⟩
theorem open_c {γ : Gh} {w : World} {db F : Nat} {d : Dk} {r ra : Rt} (H : DkV γ w db d) (h0 : γ.lim ≤ w.heap.size) (hok : d.Ok) (hcap : d.P.length < 2000000) (hN1 : 1 ≤ d.N) (hd : d.dead = false) (hF : 2 ≤ F ∧ F ≤ 1024)
    (hc0 : d.cand 0 = some r) (hc1 : d.cand 1 = some ra) (hle : ra.ep ≤ r.ep) (hml : r.mt.length ≤ 1000000) :
    Calls Tryz.prog 15 #[.pointer (some ⟨db, 0, none⟩), .int .i64 (F : Int)] w (OpenO γ w db d F (d.whole r)) := by
  have DD := dead_ok H.d2
  rw [hd] at DD
  have CN := cnew_ok H h0 F (by omega)
  have CD0 := Lib.hid (fun (W : World) (cb : Nat) (hc : CaV γ W cb db ⟨d, F, 0, fun _ => none⟩) (hb : Below w.heap.size w W) => cand_ok hc.dk' (Nat.le_trans h0 hb.size) hok hcap 0 (by decide))
  have CD1 := Lib.hid (fun (W : World) (cb : Nat) (hc : CaV γ W cb db ⟨d, F, 0, fun _ => none⟩) (hb : Below w.heap.size w W) => cand_ok hc.dk' (Nat.le_trans h0 hb.size) hok hcap 1 (by decide))
  rw [show (({ d := d, M := F, clk := 0, F := fun _ => none } : Ca).d.cand 0) = some r from hc0] at CD0
  rw [show (({ d := d, M := F, clk := 0, F := fun _ => none } : Ca).d.cand 1) = some ra from hc1] at CD1
  have i1 : decide ((F : Int) < 2) = false := by rw [decide_eq_false_iff_not]; omega
  have HD0 := Lib.hid H
  clear H hc0 hc1
  go_enter Tryz.func15, Tryz.ntmps15
  go_upto_region 10 with (first
    | (go_at_call 38; refine DD.mono ?_; rintro e w5 ⟨rfl, rfl⟩)
    | (go_at_call 39; refine CN.mono ?_; rintro e w6 ⟨cb, rfl, hq6⟩; have h06 := Lib.hid (Nat.le_trans h0 hq6.out.2.size))
    | (go_at_call 40; refine (CD1.out _ cb (CaV.below hq6.out.1 (Below.allocs hq7.out.2.2.2.2 _) h06.out) (Below.allocs (Below.up hq6.out.2 hq7.out.2.2.2.2) _)).mono ?_; rintro e w8 ⟨r1, v1, rfl, hq8⟩; rw [n12_arr]; obtain ⟨av1, cv1, hv1⟩ := hq8.out.1.rv.len; subst hv1)
    | (go_at_call 40; refine (CD0.out _ _ hq6.out.1 hq6.out.2).mono ?_; rintro e w7 ⟨r0, v0, rfl, hq7⟩; rw [n12_arr]; obtain ⟨av0, cv0, hv0⟩ := hq7.out.1.rv.len; subst hv0))
  refine take_last ?_
  intro W9 hW9
  have hb9 : Below w8.heap.size w8 W9 := hW9 ▸ Below.alloc (Below.refl _ _) (Nat.le_refl _) _
  have hB1 : W9.heap[w8.heap.size]? = some (.cells (n12 r1 (.slice av1 r1.mt.length cv1)).toArray 70 (0, 0)) := hW9 ▸ (Go.MapKept.heap_alloc w8 _).1
  obtain ⟨W7, hW7⟩ : ∃ W7, w7.alloc (.cells (n12 r0 (.slice av0 r0.mt.length cv0)).toArray 70) = W7 := ⟨_, rfl⟩
  have hB0 : W7.heap[w7.heap.size]? = some (.cells (n12 r0 (.slice av0 r0.mt.length cv0)).toArray 70 (0, 0)) := hW7 ▸ (Go.MapKept.heap_alloc w7 _).1
  have hb7 : Below w7.heap.size w7 W7 := hW7 ▸ Below.alloc (Below.refl _ _) (Nat.le_refl _) _
  have hb8 : Below W7.heap.size W7 w8 := by have h := hq8.out.2.2.2.2; rw [show w7.alloc (.cells #[Value.int .u32 (r0.ep : Int), .int .i64 (r0.at' 0 : Int), .int .i64 (r0.at' 1 : Int), .int .i64 (r0.at' 2 : Int), .int .i64 (r0.at' 3 : Int), .int .i64 (r0.at' 4 : Int), .int .i64 (r0.at' 5 : Int), .int .i64 (r0.at' 6 : Int), .int .i64 (r0.at' 7 : Int), .int .i64 (r0.at' 8 : Int), .slice av0 r0.mt.length cv0, .pointer none] 70) = W7 from hW7] at h; exact h
  have hb69 : Below w6.heap.size w6 W9 := Below.up (Below.up (Below.up hq7.out.2.2.2.2 hb7) hb8) hb9
  have hb59 : Below w5.heap.size w5 W9 := Below.up hq6.out.2 hb69
  have hl7 : w7.heap.size < W7.heap.size := (Array.getElem?_eq_some_iff.1 hB0).1
  have hb79 : Below W7.heap.size W7 W9 := Below.up hb8 hb9
  have O0 : OpI γ w5 W9 db cb w7.heap.size d F r0 (.slice av0 r0.mt.length cv0) := ⟨hb59, hq6.out.1.below hb69 h06.out, (hb79.block _ hl7).trans hB0, Nat.le_trans hq6.out.2.size hq7.out.2.2.2.2.size, ((hq7.out.1.keep hb7).keep hb79).mono hq6.out.2.size, hq7.out.2.1, hq7.out.2.2.1⟩
  have hrn1 : RN w5.heap.size W9 (.slice av1 r1.mt.length cv1) r1.mt := (hq8.out.1.keep hb9).mono (by have h1 := hq6.out.2.size; have h2 := hq7.out.2.2.2.2.size; have h3 := hb7.size; rw [show (w7.alloc (.cells #[Value.int .u32 (r0.ep : Int), .int .i64 (r0.at' 0 : Int), .int .i64 (r0.at' 1 : Int), .int .i64 (r0.at' 2 : Int), .int .i64 (r0.at' 3 : Int), .int .i64 (r0.at' 4 : Int), .int .i64 (r0.at' 5 : Int), .int .i64 (r0.at' 6 : Int), .int .i64 (r0.at' 7 : Int), .int .i64 (r0.at' 8 : Int), .slice av0 r0.mt.length cv0, .pointer none] 70)) = W7 from hW7]; omega)
  obtain ⟨k0, k1, k2, k3, k4, k5, k6, k7, k8, k9, k10, k11, kz⟩ := n12_all O0.h8
  obtain ⟨n0, n1, n2, n3, n4, n5, n6, n7, n8, n9, n10, n11, nz⟩ := n12_all hB1
  have lk := cell_lt' k0
  have ln := cell_lt' n0
  have z0 := kz 0
  have z1 := kz 1
  have z2 := kz 2
  have z3 := kz 3
  have z4 := kz 4
  have z5 := kz 5
  have z6 := kz 6
  have z7 := kz 7
  have z8 := kz 8
  have z9 := kz 9
  have z10 := kz 10
  have z11 := kz 11
  clear kz nz
  have hr0 := hq7.out.2.2.2.1 r rfl
  subst hr0
  have hr1 := hq8.out.2.2.2.1 ra rfl
  subst hr1
  have i2 : decide ((r0.ep : Int) < (r1.ep : Int)) = false := by rw [decide_eq_false_iff_not]; omega
  have i3 : ¬ (r0.ep : Int) < (r1.ep : Int) := by omega
  have i4 : decide (r0.ep < r1.ep) = false := by rw [decide_eq_false_iff_not]; omega
  have i5 : ¬ r0.ep < r1.ep := by omega
  have HO1 := Lib.hid O0
  clear O0 hrn1 hB0 hB1 hb9 hb79 hb7 hb8 hb69 hb59 hq7 hq8 hW9 hW7 hle
  go_upto_region 12 with fail
  refine take_last ?_
  intro W12 hW12
  have HO12 : Hid (OpI γ w5 W12 db cb w7.heap.size d F r0 (.slice av0 r0.mt.length cv0)) := by
    rw [← hW12]; exact HO1
  clear hW12 HO1 k0 k1 k2 k3 k4 k5 k6 k7 k8 k9 k10 k11 n0 n1 n2 n3 n4 n5 n6 n7 n8 n9 n10 n11 lk ln z0 z1 z2 z3 z4 z5 z6 z7 z8 z9 z10 z11 hl7
  generalize w7.heap.size = B8 at HO12 ⊢
  cases hwh : d.whole r0 with
  | none =>
    have WH := (HO12.out.whole h0 hok hcap hN1 (by omega)).mono (R' := fun e w' => e = .returned (.bool false) ∧ Hid (Step γ spS w5 w' ∧ DkV γ w' db d)) (by
      rintro e w' ⟨h1, h2⟩
      rw [hwh] at h1 h2
      have hb := HO12.out.only h2.out.1
      exact ⟨h1, Lib.hid ⟨Step.below hb h0, HD0.out.keep (Step.below (S := fun _ => false) hb h0) ⟨rfl, rfl, rfl, rfl⟩⟩⟩)
    have HWH := Lib.hid hwh
    clear HO12 hwh
    go_wp2_with (go_at_call 41; refine WH.mono ?_; rintro e w20 ⟨rfl, hq20⟩)
    go_ret2
    exact .inr ⟨HWH.out, rfl, hq20⟩
  | some r' =>
    have WH := (HO12.out.whole h0 hok hcap hN1 (by omega)).mono (R' := fun e w' => e = .returned (.bool true) ∧ Hid (∃ mb, OpJ γ w5 w' db cb B8 mb d F r0 (.slice av0 r0.mt.length cv0) r'.pg)) (by
      rintro e w' ⟨h1, h2⟩
      rw [hwh] at h1 h2
      obtain ⟨mb, g1, g2, g3, g4⟩ := h2.out.2 r' rfl
      exact ⟨h1, Lib.hid ⟨mb, HO12.out.found h0 h2.out.1 g1 g2 g3 g4⟩⟩)
    have HR := Lib.hid (whole_pg hwh)
    have HWH := Lib.hid hwh
    clear hwh
    have hepm := Lib.hid (And.intro HO12.out.ep HO12.out.at')
    clear HO12
    go_upto_region 14 with (go_at_call 41; refine WH.mono ?_; rintro e w20 ⟨rfl, hq20⟩)
    obtain ⟨mb, hJ⟩ := hq20.out
    have HJ := Lib.hid hJ
    have HS : Hid (∀ W, Below w20.heap.size w20 W → W.cell? ⟨B8, 0, none⟩ = some (.int .u32 (r0.ep : Int)) ∧ W.cell? ⟨B8, 1, none⟩ = some (.int .i64 (r0.at' 0 : Int)) ∧ W.cell? ⟨B8, 2, none⟩ = some (.int .i64 (r0.at' 1 : Int)) ∧ W.cell? ⟨B8, 3, none⟩ = some (.int .i64 (r0.at' 2 : Int)) ∧ W.cell? ⟨B8, 4, none⟩ = some (.int .i64 (r0.at' 3 : Int)) ∧ W.cell? ⟨B8, 5, none⟩ = some (.int .i64 (r0.at' 4 : Int)) ∧ W.cell? ⟨B8, 6, none⟩ = some (.int .i64 (r0.at' 5 : Int)) ∧ W.cell? ⟨B8, 7, none⟩ = some (.int .i64 (r0.at' 6 : Int)) ∧ W.cell? ⟨B8, 8, none⟩ = some (.int .i64 (r0.at' 7 : Int)) ∧ W.cell? ⟨B8, 9, none⟩ = some (.int .i64 (r0.at' 8 : Int)) ∧ W.cell? ⟨B8, 10, none⟩ = some (.slice av0 r0.mt.length cv0) ∧ W.cell? ⟨B8, 11, none⟩ = some (.pointer (some ⟨mb, 0, none⟩))) := Lib.hid fun W hW => by
      have hb := (hJ.below h0 hW).h8
      refine ⟨?_, ?_, ?_, ?_, ?_, ?_, ?_, ?_, ?_, ?_, ?_, ?_⟩ <;> simp [World.cell?, hb, p12]
    have CP := Lib.hid (fun (W : World) (hW : Below w20.heap.size w20 W) => copy_ok (γ := γ) (hJ.below h0 hW).mp (Nat.le_trans h0 (hJ.below h0 hW).be.size))
    obtain ⟨m0, m1, m2, m3, m4, m5, m6, m7, m8, m9, m10, m11⟩ := HS.out w20 (Below.refl _ _)
    clear hJ hq20 WH
    go_region_held3 (fun W => W.cell? ⟨B8, 0, none⟩ = some (.int .u32 (r0.ep : Int)) ∧ W.cell? ⟨B8, 1, none⟩ = some (.int .i64 (r0.at' 0 : Int)) ∧ W.cell? ⟨B8, 2, none⟩ = some (.int .i64 (r0.at' 1 : Int)) ∧ W.cell? ⟨B8, 3, none⟩ = some (.int .i64 (r0.at' 2 : Int)) ∧ W.cell? ⟨B8, 4, none⟩ = some (.int .i64 (r0.at' 3 : Int)) ∧ W.cell? ⟨B8, 5, none⟩ = some (.int .i64 (r0.at' 4 : Int)) ∧ W.cell? ⟨B8, 6, none⟩ = some (.int .i64 (r0.at' 5 : Int)) ∧ W.cell? ⟨B8, 7, none⟩ = some (.int .i64 (r0.at' 6 : Int)) ∧ W.cell? ⟨B8, 8, none⟩ = some (.int .i64 (r0.at' 7 : Int)) ∧ W.cell? ⟨B8, 9, none⟩ = some (.int .i64 (r0.at' 8 : Int)) ∧ W.cell? ⟨B8, 10, none⟩ = some (.slice av0 r0.mt.length cv0) ∧ W.cell? ⟨B8, 11, none⟩ = some (.pointer (some ⟨mb, 0, none⟩)))
      ((with_reducible refine HS.out _ ?_; (repeat (first | with_reducible exact Below.refl _ _ | with_reducible assumption | with_reducible refine Below.drew ?_ | with_reducible refine Below.allocs ?_ _)); done))
      ((go_at_call 30; refine (CP.out _ ?_).mono ?_; (repeat (first | with_reducible exact Below.refl _ _ | with_reducible assumption | with_reducible refine Below.drew ?_ | with_reducible refine Below.allocs ?_ _)); rintro e w21 ⟨rfl, hq21⟩; have hb21 : Below w20.heap.size w20 w21 := Below.up (by (repeat (first | with_reducible exact Below.refl _ _ | with_reducible assumption | with_reducible refine Below.drew ?_ | with_reducible refine Below.allocs ?_ _)); done) hq21.out.2))
    refine take_last ?_
    intro W22 hW22
    obtain ⟨ob, hob, hmo⟩ : ∃ ob, ob = w20.heap.size ∧ MapK γ w21 ob r'.pg := ⟨_, by simp, hq21.out.1⟩
    have hb22 : Below w21.heap.size w21 W22 := by rw [← hW22]; (repeat (first | with_reducible exact Below.refl _ _ | with_reducible assumption | with_reducible refine Below.drew ?_ | with_reducible refine Below.allocs ?_ _))
    have hk22 : W22.heap[w21.heap.size]? = some (.cells #[.pointer (some ⟨db, 0, none⟩), .pointer (some ⟨cb, 0, none⟩), .int .u32 (r0.ep : Int), .int .i64 (r0.at' 0 : Int), .int .i64 (r0.at' 1 : Int), .int .i64 (r0.at' 2 : Int), .int .i64 (r0.at' 3 : Int), .int .i64 (r0.at' 4 : Int), .int .i64 (r0.at' 5 : Int), .int .i64 (r0.at' 6 : Int), .int .i64 (r0.at' 7 : Int), .int .i64 (r0.at' 8 : Int), .slice av0 r0.mt.length cv0, .pointer (some ⟨mb, 0, none⟩), .pointer (some ⟨ob, 0, none⟩), .pointer none, .slice none 0 0] 74 (0, 0)) := by
      rw [hob, ← hW22]
      exact (Go.MapKept.heap_alloc w21 _).1
    have hJ21 := HJ.out.below h0 hb21
    have hmlt := HJ.out.mp.lt
    have SU := hJ21.space h0 hepm.out.1 hepm.out.2 (by omega) hmo (by omega) hb22 (Nat.le_refl _) hk22
    have h22 : Step γ spS w5 W22 := Step.below (Below.up hJ21.be hb22) h0
    have TU := turn_ok SU (Nat.le_trans h0 h22.size)
    have hsbl : w5.heap.size ≤ w21.heap.size := hJ21.be.size
    have HF := Lib.hid (And.intro h22 hsbl)
    have lsb := SU.lt
    rw [← HR.out] at TU
    clear hW22 hb22 hk22 hJ21 hmlt SU h22 hmo hob m0 m1 m2 m3 m4 m5 m6 m7 m8 m9 m10 m11 HS CP HJ hsbl hb21
    go_wp2_with (go_at_call 37; refine TU.mono ?_; rintro e w23 ⟨rfl, hq23⟩)
    go_ret2
    exact .inl ⟨_, HWH.out, _, rfl, Lib.hid ⟨hq23.out.1, HF.out.1.trans hq23.out.2, HF.out.2⟩⟩
theorem open_d {γ : Gh} {w : World} {db F : Nat} {d : Dk} {r ra : Rt} (H : DkV γ w db d) (h0 : γ.lim ≤ w.heap.size) (hok : d.Ok) (hcap : d.P.length < 2000000) (hN1 : 1 ≤ d.N) (hd : d.dead = false) (hF : 2 ≤ F ∧ F ≤ 1024)
    (hc0 : d.cand 0 = some ra) (hc1 : d.cand 1 = some r) (hle : ra.ep < r.ep) (hml : r.mt.length ≤ 1000000) :
    Calls Tryz.prog 15 #[.pointer (some ⟨db, 0, none⟩), .int .i64 (F : Int)] w (OpenO γ w db d F (d.whole r)) := by
  have DD := dead_ok H.d2
  rw [hd] at DD
  have CN := cnew_ok H h0 F (by omega)
  have CD0 := Lib.hid (fun (W : World) (cb : Nat) (hc : CaV γ W cb db ⟨d, F, 0, fun _ => none⟩) (hb : Below w.heap.size w W) => cand_ok hc.dk' (Nat.le_trans h0 hb.size) hok hcap 0 (by decide))
  have CD1 := Lib.hid (fun (W : World) (cb : Nat) (hc : CaV γ W cb db ⟨d, F, 0, fun _ => none⟩) (hb : Below w.heap.size w W) => cand_ok hc.dk' (Nat.le_trans h0 hb.size) hok hcap 1 (by decide))
  rw [show (({ d := d, M := F, clk := 0, F := fun _ => none } : Ca).d.cand 0) = some ra from hc0] at CD0
  rw [show (({ d := d, M := F, clk := 0, F := fun _ => none } : Ca).d.cand 1) = some r from hc1] at CD1
  have i1 : decide ((F : Int) < 2) = false := by rw [decide_eq_false_iff_not]; omega
  have HD0 := Lib.hid H
  clear H hc0 hc1
  go_enter Tryz.func15, Tryz.ntmps15
  go_upto_region 10 with (first
    | (go_at_call 38; refine DD.mono ?_; rintro e w5 ⟨rfl, rfl⟩)
    | (go_at_call 39; refine CN.mono ?_; rintro e w6 ⟨cb, rfl, hq6⟩; have h06 := Lib.hid (Nat.le_trans h0 hq6.out.2.size))
    | (go_at_call 40; refine (CD1.out _ cb (CaV.below hq6.out.1 (Below.allocs hq7.out.2.2.2.2 _) h06.out) (Below.allocs (Below.up hq6.out.2 hq7.out.2.2.2.2) _)).mono ?_; rintro e w8 ⟨r1, v1, rfl, hq8⟩; rw [n12_arr]; obtain ⟨av1, cv1, hv1⟩ := hq8.out.1.rv.len; subst hv1)
    | (go_at_call 40; refine (CD0.out _ _ hq6.out.1 hq6.out.2).mono ?_; rintro e w7 ⟨r0, v0, rfl, hq7⟩; rw [n12_arr]; obtain ⟨av0, cv0, hv0⟩ := hq7.out.1.rv.len; subst hv0))
  refine take_last ?_
  intro W9 hW9
  have hb9 : Below w8.heap.size w8 W9 := hW9 ▸ Below.alloc (Below.refl _ _) (Nat.le_refl _) _
  have hB1 : W9.heap[w8.heap.size]? = some (.cells (n12 r1 (.slice av1 r1.mt.length cv1)).toArray 70 (0, 0)) := hW9 ▸ (Go.MapKept.heap_alloc w8 _).1
  obtain ⟨W7, hW7⟩ : ∃ W7, w7.alloc (.cells (n12 r0 (.slice av0 r0.mt.length cv0)).toArray 70) = W7 := ⟨_, rfl⟩
  have hB0 : W7.heap[w7.heap.size]? = some (.cells (n12 r0 (.slice av0 r0.mt.length cv0)).toArray 70 (0, 0)) := hW7 ▸ (Go.MapKept.heap_alloc w7 _).1
  have hb7 : Below w7.heap.size w7 W7 := hW7 ▸ Below.alloc (Below.refl _ _) (Nat.le_refl _) _
  have hb8 : Below W7.heap.size W7 w8 := by have h := hq8.out.2.2.2.2; rw [show w7.alloc (.cells #[Value.int .u32 (r0.ep : Int), .int .i64 (r0.at' 0 : Int), .int .i64 (r0.at' 1 : Int), .int .i64 (r0.at' 2 : Int), .int .i64 (r0.at' 3 : Int), .int .i64 (r0.at' 4 : Int), .int .i64 (r0.at' 5 : Int), .int .i64 (r0.at' 6 : Int), .int .i64 (r0.at' 7 : Int), .int .i64 (r0.at' 8 : Int), .slice av0 r0.mt.length cv0, .pointer none] 70) = W7 from hW7] at h; exact h
  have hb69 : Below w6.heap.size w6 W9 := Below.up (Below.up (Below.up hq7.out.2.2.2.2 hb7) hb8) hb9
  have hb59 : Below w5.heap.size w5 W9 := Below.up hq6.out.2 hb69
  have hl7 : w7.heap.size < W7.heap.size := (Array.getElem?_eq_some_iff.1 hB0).1
  have hb79 : Below W7.heap.size W7 W9 := Below.up hb8 hb9
  have O0 : OpI γ w5 W9 db cb w7.heap.size d F r0 (.slice av0 r0.mt.length cv0) := ⟨hb59, hq6.out.1.below hb69 h06.out, (hb79.block _ hl7).trans hB0, Nat.le_trans hq6.out.2.size hq7.out.2.2.2.2.size, ((hq7.out.1.keep hb7).keep hb79).mono hq6.out.2.size, hq7.out.2.1, hq7.out.2.2.1⟩
  have hrn1 : RN w5.heap.size W9 (.slice av1 r1.mt.length cv1) r1.mt := (hq8.out.1.keep hb9).mono (by have h1 := hq6.out.2.size; have h2 := hq7.out.2.2.2.2.size; have h3 := hb7.size; rw [show (w7.alloc (.cells #[Value.int .u32 (r0.ep : Int), .int .i64 (r0.at' 0 : Int), .int .i64 (r0.at' 1 : Int), .int .i64 (r0.at' 2 : Int), .int .i64 (r0.at' 3 : Int), .int .i64 (r0.at' 4 : Int), .int .i64 (r0.at' 5 : Int), .int .i64 (r0.at' 6 : Int), .int .i64 (r0.at' 7 : Int), .int .i64 (r0.at' 8 : Int), .slice av0 r0.mt.length cv0, .pointer none] 70)) = W7 from hW7]; omega)
  obtain ⟨k0, k1, k2, k3, k4, k5, k6, k7, k8, k9, k10, k11, kz⟩ := n12_all O0.h8
  obtain ⟨n0, n1, n2, n3, n4, n5, n6, n7, n8, n9, n10, n11, nz⟩ := n12_all hB1
  have lk := cell_lt' k0
  have ln := cell_lt' n0
  have z0 := kz 0
  have z1 := kz 1
  have z2 := kz 2
  have z3 := kz 3
  have z4 := kz 4
  have z5 := kz 5
  have z6 := kz 6
  have z7 := kz 7
  have z8 := kz 8
  have z9 := kz 9
  have z10 := kz 10
  have z11 := kz 11
  clear kz nz
  have hr1 := hq8.out.2.2.2.1 r rfl
  subst hr1
  have hr0 := hq7.out.2.2.2.1 ra rfl
  subst hr0
  have i2 : decide ((r0.ep : Int) < (r1.ep : Int)) = true := by rw [decide_eq_true_iff]; omega
  have i3 : (r0.ep : Int) < (r1.ep : Int) := by omega
  have i4 : decide (r0.ep < r1.ep) = true := by rw [decide_eq_true_iff]; omega
  have i5 : r0.ep < r1.ep := by omega
  have O1 := O0.copy h0 hrn1 hq8.out.2.1 hq8.out.2.2.1
  have HO1 := Lib.hid O1
  clear O0 O1 hrn1 hB0 hB1 hb9 hb79 hb7 hb8 hb69 hb59 hq7 hq8 hW9 hW7 hle
  go_upto_region 12 with fail
  refine take_last ?_
  intro W12 hW12
  have HO12 : Hid (OpI γ w5 W12 db cb w7.heap.size d F r1 (.slice av1 r1.mt.length cv1)) := by
    have hW : W9.setCells w7.heap.size 0 (n12 r1 (.slice av1 r1.mt.length cv1)) = W12 := hW12
    rw [← hW]; exact HO1
  clear hW12 HO1 k0 k1 k2 k3 k4 k5 k6 k7 k8 k9 k10 k11 n0 n1 n2 n3 n4 n5 n6 n7 n8 n9 n10 n11 lk ln z0 z1 z2 z3 z4 z5 z6 z7 z8 z9 z10 z11 hl7
  generalize w7.heap.size = B8 at HO12 ⊢
  cases hwh : d.whole r1 with
  | none =>
    have WH := (HO12.out.whole h0 hok hcap hN1 (by omega)).mono (R' := fun e w' => e = .returned (.bool false) ∧ Hid (Step γ spS w5 w' ∧ DkV γ w' db d)) (by
      rintro e w' ⟨h1, h2⟩
      rw [hwh] at h1 h2
      have hb := HO12.out.only h2.out.1
      exact ⟨h1, Lib.hid ⟨Step.below hb h0, HD0.out.keep (Step.below (S := fun _ => false) hb h0) ⟨rfl, rfl, rfl, rfl⟩⟩⟩)
    have HWH := Lib.hid hwh
    clear HO12 hwh
    go_wp2_with (go_at_call 41; refine WH.mono ?_; rintro e w20 ⟨rfl, hq20⟩)
    go_ret2
    exact .inr ⟨HWH.out, rfl, hq20⟩
  | some r' =>
    have WH := (HO12.out.whole h0 hok hcap hN1 (by omega)).mono (R' := fun e w' => e = .returned (.bool true) ∧ Hid (∃ mb, OpJ γ w5 w' db cb B8 mb d F r1 (.slice av1 r1.mt.length cv1) r'.pg)) (by
      rintro e w' ⟨h1, h2⟩
      rw [hwh] at h1 h2
      obtain ⟨mb, g1, g2, g3, g4⟩ := h2.out.2 r' rfl
      exact ⟨h1, Lib.hid ⟨mb, HO12.out.found h0 h2.out.1 g1 g2 g3 g4⟩⟩)
    have HR := Lib.hid (whole_pg hwh)
    have HWH := Lib.hid hwh
    clear hwh
    have hepm := Lib.hid (And.intro HO12.out.ep HO12.out.at')
    clear HO12
    go_upto_region 14 with (go_at_call 41; refine WH.mono ?_; rintro e w20 ⟨rfl, hq20⟩)
    obtain ⟨mb, hJ⟩ := hq20.out
    have HJ := Lib.hid hJ
    have HS : Hid (∀ W, Below w20.heap.size w20 W → W.cell? ⟨B8, 0, none⟩ = some (.int .u32 (r1.ep : Int)) ∧ W.cell? ⟨B8, 1, none⟩ = some (.int .i64 (r1.at' 0 : Int)) ∧ W.cell? ⟨B8, 2, none⟩ = some (.int .i64 (r1.at' 1 : Int)) ∧ W.cell? ⟨B8, 3, none⟩ = some (.int .i64 (r1.at' 2 : Int)) ∧ W.cell? ⟨B8, 4, none⟩ = some (.int .i64 (r1.at' 3 : Int)) ∧ W.cell? ⟨B8, 5, none⟩ = some (.int .i64 (r1.at' 4 : Int)) ∧ W.cell? ⟨B8, 6, none⟩ = some (.int .i64 (r1.at' 5 : Int)) ∧ W.cell? ⟨B8, 7, none⟩ = some (.int .i64 (r1.at' 6 : Int)) ∧ W.cell? ⟨B8, 8, none⟩ = some (.int .i64 (r1.at' 7 : Int)) ∧ W.cell? ⟨B8, 9, none⟩ = some (.int .i64 (r1.at' 8 : Int)) ∧ W.cell? ⟨B8, 10, none⟩ = some (.slice av1 r1.mt.length cv1) ∧ W.cell? ⟨B8, 11, none⟩ = some (.pointer (some ⟨mb, 0, none⟩))) := Lib.hid fun W hW => by
      have hb := (hJ.below h0 hW).h8
      refine ⟨?_, ?_, ?_, ?_, ?_, ?_, ?_, ?_, ?_, ?_, ?_, ?_⟩ <;> simp [World.cell?, hb, p12]
    have CP := Lib.hid (fun (W : World) (hW : Below w20.heap.size w20 W) => copy_ok (γ := γ) (hJ.below h0 hW).mp (Nat.le_trans h0 (hJ.below h0 hW).be.size))
    obtain ⟨m0, m1, m2, m3, m4, m5, m6, m7, m8, m9, m10, m11⟩ := HS.out w20 (Below.refl _ _)
    clear hJ hq20 WH
    go_region_held3 (fun W => W.cell? ⟨B8, 0, none⟩ = some (.int .u32 (r1.ep : Int)) ∧ W.cell? ⟨B8, 1, none⟩ = some (.int .i64 (r1.at' 0 : Int)) ∧ W.cell? ⟨B8, 2, none⟩ = some (.int .i64 (r1.at' 1 : Int)) ∧ W.cell? ⟨B8, 3, none⟩ = some (.int .i64 (r1.at' 2 : Int)) ∧ W.cell? ⟨B8, 4, none⟩ = some (.int .i64 (r1.at' 3 : Int)) ∧ W.cell? ⟨B8, 5, none⟩ = some (.int .i64 (r1.at' 4 : Int)) ∧ W.cell? ⟨B8, 6, none⟩ = some (.int .i64 (r1.at' 5 : Int)) ∧ W.cell? ⟨B8, 7, none⟩ = some (.int .i64 (r1.at' 6 : Int)) ∧ W.cell? ⟨B8, 8, none⟩ = some (.int .i64 (r1.at' 7 : Int)) ∧ W.cell? ⟨B8, 9, none⟩ = some (.int .i64 (r1.at' 8 : Int)) ∧ W.cell? ⟨B8, 10, none⟩ = some (.slice av1 r1.mt.length cv1) ∧ W.cell? ⟨B8, 11, none⟩ = some (.pointer (some ⟨mb, 0, none⟩)))
      ((with_reducible refine HS.out _ ?_; (repeat (first | with_reducible exact Below.refl _ _ | with_reducible assumption | with_reducible refine Below.drew ?_ | with_reducible refine Below.allocs ?_ _)); done))
      ((go_at_call 30; refine (CP.out _ ?_).mono ?_; (repeat (first | with_reducible exact Below.refl _ _ | with_reducible assumption | with_reducible refine Below.drew ?_ | with_reducible refine Below.allocs ?_ _)); rintro e w21 ⟨rfl, hq21⟩; have hb21 : Below w20.heap.size w20 w21 := Below.up (by (repeat (first | with_reducible exact Below.refl _ _ | with_reducible assumption | with_reducible refine Below.drew ?_ | with_reducible refine Below.allocs ?_ _)); done) hq21.out.2))
    refine take_last ?_
    intro W22 hW22
    obtain ⟨ob, hob, hmo⟩ : ∃ ob, ob = w20.heap.size ∧ MapK γ w21 ob r'.pg := ⟨_, by simp, hq21.out.1⟩
    have hb22 : Below w21.heap.size w21 W22 := by rw [← hW22]; (repeat (first | with_reducible exact Below.refl _ _ | with_reducible assumption | with_reducible refine Below.drew ?_ | with_reducible refine Below.allocs ?_ _))
    have hk22 : W22.heap[w21.heap.size]? = some (.cells #[.pointer (some ⟨db, 0, none⟩), .pointer (some ⟨cb, 0, none⟩), .int .u32 (r1.ep : Int), .int .i64 (r1.at' 0 : Int), .int .i64 (r1.at' 1 : Int), .int .i64 (r1.at' 2 : Int), .int .i64 (r1.at' 3 : Int), .int .i64 (r1.at' 4 : Int), .int .i64 (r1.at' 5 : Int), .int .i64 (r1.at' 6 : Int), .int .i64 (r1.at' 7 : Int), .int .i64 (r1.at' 8 : Int), .slice av1 r1.mt.length cv1, .pointer (some ⟨mb, 0, none⟩), .pointer (some ⟨ob, 0, none⟩), .pointer none, .slice none 0 0] 74 (0, 0)) := by
      rw [hob, ← hW22]
      exact (Go.MapKept.heap_alloc w21 _).1
    have hJ21 := HJ.out.below h0 hb21
    have hmlt := HJ.out.mp.lt
    have SU := hJ21.space h0 hepm.out.1 hepm.out.2 (by omega) hmo (by omega) hb22 (Nat.le_refl _) hk22
    have h22 : Step γ spS w5 W22 := Step.below (Below.up hJ21.be hb22) h0
    have TU := turn_ok SU (Nat.le_trans h0 h22.size)
    have hsbl : w5.heap.size ≤ w21.heap.size := hJ21.be.size
    have HF := Lib.hid (And.intro h22 hsbl)
    have lsb := SU.lt
    rw [← HR.out] at TU
    clear hW22 hb22 hk22 hJ21 hmlt SU h22 hmo hob m0 m1 m2 m3 m4 m5 m6 m7 m8 m9 m10 m11 HS CP HJ hsbl hb21
    go_wp2_with (go_at_call 37; refine TU.mono ?_; rintro e w23 ⟨rfl, hq23⟩)
    go_ret2
    exact .inl ⟨_, HWH.out, _, rfl, Lib.hid ⟨hq23.out.1, HF.out.1.trans hq23.out.2, HF.out.2⟩⟩
theorem cand_mt {d : Dk} {s : Nat} {r : Rt} (h : d.cand s = some r) : r.mt.length ≤ 1000000 := by
  unfold Dk.cand at h
  split at h
  · injection h with h
    rw [← h]
    have := rd_len d s 1
    simp only [rootOf, List.length_drop]
    omega
  · cases h
theorem open_ok {γ : Gh} {w : World} {db F : Nat} {d : Dk} (H : DkV γ w db d) (h0 : γ.lim ≤ w.heap.size) (hok : d.Ok) (hcap : d.P.length < 2000000) (hN1 : 1 ≤ d.N) (hd : d.dead = false) (hF : 2 ≤ F ∧ F ≤ 1024) :
    Calls Tryz.prog 15 #[.pointer (some ⟨db, 0, none⟩), .int .i64 (F : Int)] w (OpenO γ w db d F (d.best.bind d.whole)) := by
  unfold Dk.best
  cases h1 : d.cand 1 with
  | none =>
    cases h2 : d.cand 0 with
    | none => exact open_n (r := rtz) (ra := rtz) H h0 hok hcap hN1 hd hF h2 h1 (by decide)
    | some r => exact open_a (ra := rtz) H h0 hok hcap hN1 hd hF h2 h1 (cand_mt h2)
  | some x =>
    cases h2 : d.cand 0 with
    | none => exact open_b (ra := rtz) H h0 hok hcap hN1 hd hF h2 h1 (cand_mt h1)
    | some r =>
      show Calls _ _ _ _ (OpenO γ w db d F ((if r.ep < x.ep then some x else some r).bind d.whole))
      by_cases he : r.ep < x.ep
      · rw [if_pos he]; exact open_d H h0 hok hcap hN1 hd hF h2 h1 he (cand_mt h1)
      · rw [if_neg he]; exact open_c H h0 hok hcap hN1 hd hF h2 h1 (by omega) (cand_mt h2)
theorem open_s {γ : Gh} {w : World} {db F : Nat} {d : Dk} {r : Rt} (H : DkV γ w db d) (h0 : γ.lim ≤ w.heap.size) (hok : d.Ok) (hcap : d.P.length < 2000000) (hN1 : 1 ≤ d.N) (hd : d.dead = false) (hF : 2 ≤ F ∧ F ≤ 1024) (ho : d.best.bind d.whole = some r) :
    Calls Tryz.prog 15 #[.pointer (some ⟨db, 0, none⟩), .int .i64 (F : Int)] w fun e w' => ∃ sb, e = .returned (.tuple #[.pointer (some ⟨sb, 0, none⟩), .int .i64 0]) ∧ Hid (SpV γ w' sb db (opened d F r) ∧ Step γ spS w w' ∧ w.heap.size ≤ sb) := by
  refine (open_ok H h0 hok hcap hN1 hd hF).mono ?_
  rintro e w' (⟨r', h1, sb, h2, h3⟩ | ⟨h1, _⟩)
  · rw [ho] at h1
    injection h1 with h1
    subst h1
    exact ⟨sb, h2, h3⟩
  · rw [ho] at h1; cases h1
end Go.Tb
