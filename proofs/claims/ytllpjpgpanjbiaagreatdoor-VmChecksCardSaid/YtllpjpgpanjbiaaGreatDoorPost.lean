/- What the row's list gives of the map of primitives; the law VmNil called in any world that meets the list. -/
import Derived.Test.YtllpjpgpanjbiaaGreatDoorBase
import Derived.Test.YtllpjpgpanjbiaaGreatDoorCards
import Derived.Test.YtllpjpgpanjbiaaGreatDoorTie
import Derived.ProofKit
import Derived.OpenShut
import Derived.LaidMore
import Derived.Lay
import Derived.SevenTiedAt
import Derived.Stop.Joined
set_option linter.unusedVariables false
set_option maxRecDepth 100000
namespace Go.Eng
open Go.RowKit Go.Proofs Go.Proofs.YtllpjpgpanjbiaaGreatDoor
def tx5 : List (List UInt8) := [[112, 114, 105, 110, 116], [105, 116, 111, 115], [115, 105, 122, 101], [110, 111, 116], [114, 101, 102], [108, 101, 110], [99, 111, 109, 109, 105, 116], [97, 98, 111, 114, 116], [126], [33]]
def tx6 : List (List UInt8) := [[115, 97, 109, 101], [97, 114, 114, 97, 121], [103, 101, 116], [43], [45], [42], [100, 105, 118], [109, 111, 100], [60], [60, 61], [62], [62, 61], [61], [60, 62], [94], [58, 61]]
def tx7 : List (List UInt8) := [[112, 117, 116]]
theorem gPrims : Tryz.prog.globalNamed "aumbry/code.prims" = some 0 := by kernel_rfl
theorem gPrimsType : (Tryz.prog.globals[0]?).map (·.type) = some 155 := by kernel_rfl
theorem cells9 : Tryz.prog.cellsOf 9 = 1 := by kernel_rfl
/-- WHAT THE ROW's LIST GIVES of the primitives' map. -/
theorem prims_of {W : World} (h : laidMetH Tryz.prog Rows.vmNilRow.laid W) : ∃ (b : Nat) (ces : Array MapEntry) (clock : Nat) (c1 c2 c3 : MapEntry) (l1 l2 l3 : Loc), W.cell? ⟨0, 0, none⟩ = some (.map (some b)) ∧ W.heap[b]? = some (.map ces clock) ∧
    [c1, c2, c3].Perm ces.toList ∧ (∀ x ∈ ces.toList, x.born < clock) ∧ (ces.toList.map (·.born)).Nodup ∧ SlotOK W 1 tx5 c1 l1 ∧ SlotOK W 2 tx6 c2 l2 ∧ SlotOK W 3 tx7 c3 l3 := by
  rw [MakeChecks.laidMetH_plain _ _ _ (by kernel_rfl)] at h
  obtain ⟨ps, ⟨g0, t0, cs0, f0, p0, q0, hg0, ht0, hv0, hd0, _, e0⟩, _, hrows⟩ := h.tail.tail.tail
  obtain rfl := Option.some.inj (gPrims.symm.trans hg0)
  obtain rfl := Option.some.inj (gPrimsType.symm.trans ht0)
  rcases WideElems.open_map Tryz.underlying155 hd0 with ⟨_, e1⟩ | ⟨b, ces, clock, n, rfl, e1, hb, _, F, e2⟩
  · cases e1
  · have e3 := congrArg Prod.fst e2
    have e3 : DataW.map ([((1 : Int), tx5), (2, tx6), (3, tx7)].map laidTexts) = .map ((ces.toList.map (WideElems.rg Tryz.prog 3 (WideElems.elemAt (fun _ => ()) Tryz.prog W 0 (fun _ => true) false n 156))).foldr DataW.insert []) := e3
    have e4 := DataW.map.inj e3
    have hp : (ces.toList.map (WideElems.rg Tryz.prog 3 (WideElems.elemAt (fun _ => ()) Tryz.prog W 0 (fun _ => true) false n 156))).Perm ([((1 : Int), tx5), (2, tx6), (3, tx7)].map laidTexts) := by
      rw [e4]; exact (WideShapes.sorted_perm _).symm
    obtain ⟨cs, k1, k2⟩ := perm_map hp
    have hall := forall2_of_map (R := fun (x : Int × List (List UInt8)) c => x.2 ≠ [] → ∃ l, SlotOK W x.1 x.2 c l) k2 fun c hc x hx hne =>
      slot_of Tryz.underlying3 Tryz.underlying156 Tryz.underlying9 cells9 (F.reads c (k1.mem_iff.1 hc)) hx hne
    obtain ⟨s1, s2, _⟩ := F.stamped
    cases hall with
    | cons a1 r1 =>
      cases r1 with
      | cons a2 r2 =>
        cases r2 with
        | cons a3 r3 =>
          cases r3
          obtain ⟨l1, a1⟩ := a1 (by decide)
          obtain ⟨l2, a2⟩ := a2 (by decide)
          obtain ⟨l3, a3⟩ := a3 (by decide)
          refine ⟨b, ces, clock, _, _, _, l1, l2, l3, ?_, hb, k1, s1, s2, a1, a2, a3⟩
          have := World.var?_cell gPrims hv0 0
          obtain ⟨l0⟩ := cs0
          simp only at e1
          subst e1
          simpa using this

theorem str_of {K : Ctx} {σ : Env} {s : ByteArray} {n d : Nat} {t : List UInt8} (h : s.data.toList = t) (hn : t.length = n) (hd : packB t = d) : VR K σ (.str n d) (.string s) := by
  subst hn; subst hd; subst h
  obtain ⟨h1, h2⟩ := unp_packB s.data.toList
  refine ⟨?_, h2⟩
  unfold bytesOf
  rw [h1]
noncomputable def strOf (t : List UInt8) : AV := .str t.length (packB t)
theorem slot_row {K : Ctx} {σ : Env} {w : World} {key : Int} {texts : List (List UInt8)} {c : MapEntry} {l : Loc} (h : SlotOK w key texts c l) : RowR K σ w l (.lst texts.length (texts.map strOf)) := by
  refine ⟨by show _ = _; simp, h.room, h.cell, fun i x hx => ?_⟩
  have hx : getL (texts.map strOf) i = some x := hx
  rw [getL_eq, List.getElem?_map] at hx
  obtain ⟨t, h1, rfl⟩ := Option.map_eq_some_iff.1 hx
  obtain ⟨s, h2, h3⟩ := h.text i t h1
  exact ⟨_, h2, str_of h3 rfl rfl⟩
theorem r5_eq : r5 = .lst tx5.length (tx5.map strOf) := by kernel_rfl
theorem r6_eq : r6 = .lst tx6.length (tx6.map strOf) := by kernel_rfl
theorem r7_eq : r7 = .lst tx7.length (tx7.map strOf) := by kernel_rfl
noncomputable def ctx2 (w : World) (n : Int) (cs : List MapEntry) (clock : Nat) : Ctx := ⟨w.heap.size, w, fun _ => .int .i64 n, fun _ => rfl, (fun _ _ h => by cases h), codesOf Tryz.prog, fun _ => (cs, clock)⟩
noncomputable def loc2 (b : Nat) (l1 l2 l3 : Loc) : Nat → Option Loc := fun i =>
  if i < 4 then some ⟨i, 0, 1⟩ else if i = 4 then some ⟨b, 0, 0⟩ else if i = 5 then some l1 else if i = 6 then some l2 else if i = 7 then some l3 else none
theorem call2 {w : World} {n : Int} {cs : List MapEntry} {clock : Nat} : CallOK Tryz.prog (ctx2 w n cs clock) 4 c2 :=
  callG1_ok (fun f g h => by cases h) (fun f g h => by
    unfold ID2 at h
    cases h1 : Nat.beq f 48 with
    | true => rw [h1] at h; cases h; rw [Nat.eq_of_beq_eq_true h1]; exact idle_ok
    | false => rw [h1] at h; cases h) (funs_ok cst_ok T2_ok pok2 mix2 rfl fl2_ok) 1000 100
theorem slot_loc {w : World} {key : Int} {texts : List (List UInt8)} {c : MapEntry} {l : Loc} (h : SlotOK w key texts c l) (hne : 0 < texts.length) : l.B < w.heap.size := by
  obtain ⟨v, hv⟩ := h.cell 0 (Nat.lt_of_lt_of_le hne h.room)
  exact cell_lt hv
theorem h2_ok {w : World} {n : Int} {b clock : Nat} {ces : Array MapEntry} {c1 c2 c3 : MapEntry} {l1 l2 l3 : Loc} (h0 : w.cell? ⟨0, 0, none⟩ = some (.map (some b))) (hb : w.heap[b]? = some (.map ces clock)) (hp : [c1, c2, c3].Perm ces.toList)
    (hlt : ∀ x ∈ ces.toList, x.born < clock) (hnd : (ces.toList.map (·.born)).Nodup) (a1 : SlotOK w 1 tx5 c1 l1) (a2 : SlotOK w 2 tx6 c2 l2) (a3 : SlotOK w 3 tx7 c3 l3) :
    HR (ctx2 w n [c1, c2, c3] clock) (envOf (loc2 b l1 l2 l3)) (fun _ => none) h2 w := by
  have e4 : envOf (loc2 b l1 l2 l3) (posOf 4) = some ⟨b, 0, 0⟩ := by rw [envOf_posOf]; rfl
  have e5 : envOf (loc2 b l1 l2 l3) (posOf 5) = some l1 := by rw [envOf_posOf]; rfl
  have e6 : envOf (loc2 b l1 l2 l3) (posOf 6) = some l2 := by rw [envOf_posOf]; rfl
  have e7 : envOf (loc2 b l1 l2 l3) (posOf 7) = some l3 := by rw [envOf_posOf]; rfl
  have slot : ∀ {key : Int} {texts : List (List UInt8)} {c : MapEntry} {l : Loc} {p : Pos} {q : Nat}, SlotOK w key texts c l → envOf (loc2 b l1 l2 l3) p = some l → texts.length = q →
      VR (ctx2 w n [c1, c2, c3] clock) (envOf (loc2 b l1 l2 l3)) (.int .i64 key) c.key ∧ VR (ctx2 w n [c1, c2, c3] clock) (envOf (loc2 b l1 l2 l3)) (.slice p 0 q 1) c.val := fun h he hq => by
    subst hq
    exact ⟨h.key, _, he, by rw [h.val]; simp⟩
  refine HR.of_objs rfl rfl (fun i hi => ?_) fun p hp' => ?_
  · have h1 : ¬ i < 4 := by omega
    have h2 : ¬ i = 4 := by omega
    have h3 : ¬ i = 5 := by omega
    have h4 : ¬ i = 6 := by omega
    have h5 : ¬ i = 7 := by omega
    simp [loc2, h1, h2, h3, h4, h5]
  · simp only [List.mem_cons, List.mem_nil_iff, or_false] at hp'
    rcases hp' with rfl | rfl | rfl | rfl | rfl
    · refine ⟨fun q ro r e => (by cases e), fun l hl => ?_⟩
      have hl : some (⟨0, 0, 1⟩ : Loc) = some l := hl
      cases hl
      refine ObjR.ro ⟨rfl, Nat.le_refl _, fun i hi => ⟨_, by obtain rfl : i = 0 := Nat.lt_one_iff.1 hi
                                                             exact h0⟩, fun i x hx => ?_⟩ (cell_lt h0) (fun e => by cases e)
      have : i < 1 := Row.get_lt (r := .lst 1 [.map (posOf 4)]) rfl hx
      obtain rfl : i = 0 := by omega
      cases hx
      exact ⟨_, h0, _, e4, rfl⟩
    · refine ⟨fun q ro r e => (by cases e), fun l hl => ?_⟩
      have hl : some (⟨b, 0, 0⟩ : Loc) = some l := hl
      cases hl
      refine ⟨(Array.getElem?_eq_some_iff.1 hb).1, rfl, ces, hb, hp, hlt, hnd, ?_⟩
      obtain ⟨q1, q2⟩ := slot a1 e5 rfl
      obtain ⟨q3, q4⟩ := slot a2 e6 rfl
      obtain ⟨q5, q6⟩ := slot a3 e7 rfl
      exact ⟨_, _, rfl, rfl, q1, q2, _, _, rfl, rfl, q3, q4, _, _, rfl, rfl, q5, q6, rfl⟩
    · refine ⟨fun q ro r e => (by cases e), fun l hl => ?_⟩
      have hl : some l1 = some l := hl
      cases hl
      show ObjR _ _ _ _ _ _ (some (.cells none true r5))
      rw [r5_eq]
      exact ObjR.ro (slot_row a1) (slot_loc a1 (by decide)) (fun e => by cases e)
    · refine ⟨fun q ro r e => (by cases e), fun l hl => ?_⟩
      have hl : some l2 = some l := hl
      cases hl
      show ObjR _ _ _ _ _ _ (some (.cells none true r6))
      rw [r6_eq]
      exact ObjR.ro (slot_row a2) (slot_loc a2 (by decide)) (fun e => by cases e)
    · refine ⟨fun q ro r e => (by cases e), fun l hl => ?_⟩
      have hl : some l3 = some l := hl
      cases hl
      show ObjR _ _ _ _ _ _ (some (.cells none true r7))
      rw [r7_eq]
      exact ObjR.ro (slot_row a3) (slot_loc a3 (by decide)) (fun e => by cases e)
theorem enters4 : Enters Tryz.prog 4 := enters_of Tryz.func4 (by kernel_rfl) (by kernel_rfl)
theorem vmNil_calls (n : Int) {W : World} (hL : laidMetH Tryz.prog Rows.vmNilRow.laid W) :
    Calls Tryz.prog 4 #[.int .i64 n] W fun e w' => e = .returned (.bool true) ∧ Below W.heap.size W w' := by
  obtain ⟨b, ces, clock, c1, c2, c3, l1, l2, l3, h0, hb, hp, hlt, hnd, a1, a2, a3⟩ := prims_of hL
  exact run_true (K := ctx2 W n [c1, c2, c3] clock) call2 enters4 (by decide) rfl rfl (globs_of fun g hg => ⟨1, by simp [loc2, hg]⟩) (h2_ok h0 hb hp hlt hnd a1 a2 a3) (VRs.cons (x := .opq 0) rfl VRs.nil) run4
end Go.Eng
