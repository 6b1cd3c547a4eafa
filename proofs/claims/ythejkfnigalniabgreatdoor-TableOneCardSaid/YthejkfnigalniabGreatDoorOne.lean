/- TableOne: what is set is told and turns no other entry, what is cleared is none, what is refused turns nothing. Conditions: none. -/
import Derived.Test.YthejkfnigalniabGreatDoorWaK
import Derived.Test.YthejkfnigalniabGreatDoorRows
import Derived.ChangeArms
import Derived.Lib.SmallJoins
import Derived.Test.YthejkfnigalniabGreatDoorCards
import Derived.Test.YthejkfnigalniabGreatDoorTie
import Derived.ProofKit
import Derived.OpenShut
import Derived.LaidMore
import Derived.Lay
import Derived.SevenTiedAt
import Derived.Stop.Joined
import Derived.Carry
import Derived.LaidEql
set_option linter.unusedVariables false
set_option linter.unusedSimpArgs false
set_option maxRecDepth 100000
set_option maxHeartbeats 800000
namespace Go.Tb
open Go Go.RowKit Go.Proofs Go.Maps Go.Sp
structure OpT where
  k : Int
  o : Int
  p : Int
  s : Int
  ba : Option Addr
  bn : Nat
  bc : Nat
structure OpsV (w : World) (v : Value) (l : List OpT) : Prop where
  r : ∃ a c, v = .slice a l.length c ∧ (0 < l.length → ∃ g o, a = some ⟨g, o, none⟩ ∧ ∀ W', Below w.heap.size w W' → ∀ i od, l[i]? = some od → W'.cell? ⟨g, o + i * 5, none⟩ = some (.int .i64 od.k) ∧ W'.cell? ⟨g, o + i * 5 + 1, none⟩ = some (.int .i64 od.o) ∧ W'.cell? ⟨g, o + i * 5 + 2, none⟩ = some (.int .i64 od.p) ∧ W'.cell? ⟨g, o + i * 5 + 3, none⟩ = some (.int .i64 od.s) ∧ W'.cell? ⟨g, o + i * 5 + 4, none⟩ = some (.slice od.ba od.bn od.bc))
  ok : ∀ od ∈ l, (Lit.int .i64 od.o).wf = true
def great (o : OpT) : Bool := decide (1024 < o.bn)
def vast (l : List OpT) : Bool := decide (80 < l.length) || l.any great
theorem vast_ok {w W : World} {v : Value} {l : List OpT} (h : OpsV w v l) (hb : Below w.heap.size w W) :
    Calls Tryz.prog 5 #[v] W fun e W' => e = .returned (.bool (vast l)) ∧ W' = W := by
  obtain ⟨a, c, rfl, hr⟩ := h.r
  obtain ⟨n, hn⟩ : ∃ n, l.length = n := ⟨_, rfl⟩
  obtain ⟨q, hq⟩ : ∃ q, vast l = q := ⟨_, rfl⟩
  rw [hq]
  rw [hn] at hr ⊢
  have HQ := Lib.hid hq
  have HN := Lib.hid hn
  have HB := Lib.hid hb
  clear h hq hb
  by_cases hg : 80 < n
  · have i1 : (80 : Int) < (n : Int) := by omega
    have hq : q = true := by rw [← HQ.out]; unfold vast; rw [HN.out, decide_eq_true hg]; rfl
    have HQ2 := Lib.hid hq
    clear hr hq hn
    go_enter Tryz.func5, Tryz.ntmps5
    go_wp2
    go_ret
    exact ⟨by rw [HQ2.out]; rfl, rfl⟩
  · have i1 : ¬ (80 : Int) < (n : Int) := by omega
    have HR := Lib.hid hr
    clear hr hn
    go_enter Tryz.func5, Tryz.ntmps5
    go_upto_region 4 with fail
    go_loopw [3] (fun u wr => ∃ k : Nat, u = .int .i64 (k : Int) ∧ k ≤ n ∧ wr = W ∧ Hid ((l.drop k).any great = q)) (fun u _ => n - (Go.RowKit.intOf u).toNat)
    case atStart => exact ⟨0, rfl, Nat.zero_le _, rfl, Lib.hid (by rw [← HQ.out]; unfold vast; rw [HN.out, decide_eq_false hg]; rfl)⟩
    case round =>
      obtain ⟨k, rfl, hk, rfl, hI⟩ := hrel
      by_cases e : k < n
      · have j1 : (k : Int) < (n : Int) := by omega
        have j0 : (0 : Int) ≤ (k : Int) := by omega
        have hk2 : k < 2000001 := by omega
        obtain ⟨g, o, rfl, hcell⟩ := HR.out (by omega)
        obtain ⟨od, hod⟩ : ∃ od, l[k]? = some od := ⟨_, List.getElem?_eq_getElem (by rw [HN.out]; exact e)⟩
        obtain ⟨c0, c1, c2, c3, c4⟩ := hcell _ HB.out k od hod
        have l0 := cell_lt' c4
        have hdr : (l.drop k).any great = (great od || (l.drop (k + 1)).any great) := by
          obtain ⟨h1, h2⟩ := List.getElem?_eq_some_iff.1 hod
          rw [List.drop_eq_getElem_cons h1, h2]; rfl
        have HD := Lib.hid hdr
        obtain ⟨kd, oo, pp, ss, ba, bn, bc⟩ := od
        simp only at c0 c1 c2 c3 c4
        clear hcell hod hdr c0 c1 c2 c3
        by_cases hx : 1024 < bn
        · have i2 : (1024 : Int) < (bn : Int) := by omega
          have hqf : q = true := by
            have := hI.out
            rw [HD.out] at this
            rw [← this]
            unfold great
            simp only
            rw [decide_eq_true hx]; rfl
          have HQ2 := Lib.hid hqf
          clear hqf
          go_wp2
          go_ret
          exact ⟨by rw [HQ2.out]; rfl, rfl⟩
        · have i2 : ¬ (1024 : Int) < (bn : Int) := by omega
          have hnx : Hid ((l.drop (k + 1)).any great = q) := Lib.hid (by
            have := hI.out
            rw [HD.out] at this
            unfold great at this
            simp only at this
            rw [decide_eq_false hx] at this
            exact this)
          clear hI
          go_wp2
          exact ⟨⟨k + 1, rfl, by omega, trivial, hnx⟩, measT e⟩
      · have ek : k = n := by omega
        subst ek
        have j1 : ¬ (k : Int) < (k : Int) := by omega
        have hqf : q = false := by
          have := hI.out
          rw [List.drop_of_length_le (by rw [HN.out]; exact Nat.le_refl _)] at this
          exact this.symm
        have HQ2 := Lib.hid hqf
        clear hqf hI
        go_wp2
        go_ret
        exact ⟨by rw [HQ2.out]; rfl, rfl⟩
theorem TE.be {w W : World} {N c db sb tb : Nat} (h : TE w W N c db sb tb) : Below w.heap.size w W := by
  obtain ⟨E, L, now, last, γ, eb, n, hA, _⟩ := h
  have := hA.be
  rwa [hA.B] at this
theorem TE.more {w W : World} {N c db sb tb c' : Nat} (h : TE w W N c db sb tb) (hc : c ≤ c') : TE w W N c' db sb tb := by
  obtain ⟨E, L, h⟩ := h
  exact ⟨E, L, h.more hc⟩
theorem TX.be {w W : World} {N c db sb tb : Nat} {E L : En} (h : TX w W N c db sb tb E L) : Below w.heap.size w W := TE.be ⟨E, L, h⟩
end Go.Tb
namespace Go.Tb
open Go Go.RowKit Go.Proofs Go.Maps Go.Sp
theorem open_bind {d : Dk} {F : Nat} {r : Rt} (hd : d.dead = false) (hF : 2 ≤ F ∧ F ≤ 1024) (h : d.open (F : Int) = (0, some (opened d F r))) : d.best.bind d.whole = some r := by
  unfold Dk.open at h
  have h1 : ¬ ((F : Int) < 2 ∨ (1024 : Int) < (F : Int)) := by omega
  rw [hd] at h
  simp only [h1, if_false] at h
  cases hb : d.best with
  | none => rw [hb] at h; simp at h
  | some r0 =>
    rw [hb] at h
    show d.whole r0 = some r
    simp only at h
    cases hw : d.whole r0 with
    | none => rw [hw] at h; simp at h
    | some r1 =>
      rw [hw] at h
      simp only [Bool.false_eq_true, if_false, Prod.mk.injEq, Option.some.injEq, true_and, Int.toNat_natCast] at h
      have := congrArg Sp.r h
      exact congrArg some this
def TwoP (w W : World) (N c db sb tb tb2 : Nat) (E L : En) : Prop := ∃ γ now last sb1 eb n eb2 n2, SW γ w W N c db sb now last E L ∧ TT γ W tb sb1 eb n E ∧ TT γ W tb2 sb eb2 n2 E ∧ n ≤ 600000 ∧ n2 ≤ 600000
def OneP (w W : World) (N c db tb : Nat) (E : En) : Prop := ∃ γ last sb1 eb n sb s, γ.lim ≤ W.heap.size ∧ γ.B = w.heap.size ∧ Below γ.B w W ∧ SpV γ W sb db s ∧ TI N c s last last E E ∧ s.c.d.P = [] ∧ TT γ W tb sb1 eb n E ∧ n ≤ 600000
def LastP (w W : World) (N c db sb tb : Nat) (E : En) : Prop := ∃ γ last sb1 eb n, SW γ w W N c db sb last last E E ∧ TT γ W tb sb1 eb n E ∧ n ≤ 600000
section
variable {γ : Gh} {w W W' : World} {N c db sb tb tb2 : Nat} {E L : En}
theorem TX.open2 (h : TX w W N c db sb tb E L) (hc : c ≤ 400000) : Calls Tryz.prog 8 #[.pointer (some ⟨sb, 0, none⟩)] W fun e W' => ∃ tb2, e = .returned (.tuple #[.pointer (some ⟨tb2, 0, none⟩), .int .i64 0]) ∧ Hid (TwoP w W' N (c + 2100) db sb tb tb2 E L) := by
  obtain ⟨now, last, γ, eb, n, hA, hn, hm⟩ := h
  refine (topen_ok hA.sw hc).mono ?_
  rintro e W' ⟨tb2, rfl, hq⟩
  obtain ⟨γ', eb2, n2, q1, q2, q3, q4, q5⟩ := hq.out
  exact ⟨tb2, rfl, Lib.hid ⟨γ', now, last, sb, eb, n, eb2, n2, q2, TT.fr ⟨hA.t, hm⟩ q1 q5, q4, by omega, by omega⟩⟩
theorem TwoP.below (h : TwoP w W N c db sb tb tb2 E L) (hb : Below W.heap.size W W') : TwoP w W' N c db sb tb tb2 E L := by
  obtain ⟨γ, now, last, sb1, eb, n, eb2, n2, h1, h2, h3, h4⟩ := h
  have st : Step γ (fun _ => false) W W' := Step.below hb h1.l
  exact ⟨γ, now, last, sb1, eb, n, eb2, n2, h1.below hb, h2.keep st rfl rfl, h3.keep st rfl rfl, h4⟩
theorem TwoP.alike (h : TwoP w W N c db sb tb tb2 E L) : Calls Tryz.prog 13 #[.pointer (some ⟨tb, 0, none⟩), .pointer (some ⟨tb2, 0, none⟩)] W fun e W' => e = .returned (.bool true) ∧ Hid (TwoP w W' N c db sb tb tb2 E L) := by
  have hb := fun W' (hb : Below W.heap.size W W') => h.below hb
  obtain ⟨γ, now, last, sb1, eb, n, eb2, n2, h1, h2, h3, h4, h5⟩ := h
  obtain ⟨s, _, ht⟩ := h1.s
  exact (alike_ok h2.1.t1 h2.2.em h3.1.t1 h3.2.em ht.e (by omega) (by omega)).mono fun e W' ⟨g1, g2⟩ => ⟨g1, Lib.hid (hb W' g2)⟩
theorem TwoP.commit (h : TwoP w W N c db sb tb tb2 E L) (hc : c ≤ 400000) : Calls Tryz.prog 14 #[.pointer (some ⟨sb, 0, none⟩), .slice none 0 0] W fun e W' => e = .returned (.int .i64 0) ∧ Hid (OneP w W' N (c + 600) db tb E) := by
  obtain ⟨γ, now, last, sb1, eb, n, eb2, n2, h1, h2, h3, h4, h5⟩ := h
  have hA : TA γ w W N c db sb tb2 now last E L (.map (some eb2)) := ⟨h1.l, h1.B, h1.be, h1.s, h3.1⟩
  refine (hA.commit hc).mono ?_
  rintro e W' ⟨rfl, hq⟩
  obtain ⟨st, s, q1, q2, q3⟩ := hq.out
  exact ⟨rfl, Lib.hid ⟨γ, _, sb1, eb, n, sb, s, Nat.le_trans h1.l st.size, h1.B, h1.be.trans st.be, q1, q2, q3, h2.keep st rfl rfl, h4⟩⟩
theorem OneP.open (h : OneP w W N c db tb E) (hc : c ≤ 400000) : Calls Tryz.prog 15 #[.pointer (some ⟨db, 0, none⟩), .int .i64 3] W fun e W' => ∃ sb, e = .returned (.tuple #[.pointer (some ⟨sb, 0, none⟩), .int .i64 0]) ∧ Hid (LastP w W' N c db sb tb E) := by
  obtain ⟨γ, last, sb1, eb, n, sb0, s, h1, h2, h3, h4, h5, h6, h7, h8⟩ := h
  obtain ⟨g1, g2⟩ := h5.opens h6 (F := 3) (by decide) (by decide)
  have hdk : DkV γ W db s.c.d := by obtain ⟨cb, rb, ob, kb, HU, HK⟩ := h4; exact HU.ca.dk'
  refine (open_s (F := 3) hdk h1 h5.inv.ok.c.d (by rw [h6]; decide) (by rw [h5.hN]; have := h5.hN2; omega) h5.al.1 (by decide) (open_bind h5.al.1 (by decide) g1)).mono ?_
  rintro e W' ⟨sb, rfl, hq⟩
  obtain ⟨q1, q2, _⟩ := hq.out
  exact ⟨sb, rfl, Lib.hid ⟨γ, last, sb1, eb, n, ⟨Nat.le_trans h1 q2.size, h2, h3.trans q2.be, _, q1, g2⟩, h7.keep q2 rfl rfl, h8⟩⟩
theorem LastP.open (h : LastP w W N c db sb tb E) (hc : c ≤ 400000) : Calls Tryz.prog 8 #[.pointer (some ⟨sb, 0, none⟩)] W fun e W' => ∃ tb2, e = .returned (.tuple #[.pointer (some ⟨tb2, 0, none⟩), .int .i64 0]) ∧ Hid (TwoP w W' N (c + 2100) db sb tb tb2 E E) := by
  obtain ⟨γ, last, sb1, eb, n, hA, ht, hn⟩ := h
  refine (topen_ok hA hc).mono ?_
  rintro e W' ⟨tb2, rfl, hq⟩
  obtain ⟨γ', eb2, n2, q1, q2, q3, q4, q5⟩ := hq.out
  exact ⟨tb2, rfl, Lib.hid ⟨γ', last, last, sb1, eb, n, eb2, n2, q2, TT.fr ht q1 q5, q4, hn, by omega⟩⟩
theorem TwoP.be (h : TwoP w W N c db sb tb tb2 E L) : Below w.heap.size w W := by
  obtain ⟨γ, now, last, sb1, eb, n, eb2, n2, h1, _⟩ := h
  have := h1.be
  rwa [h1.B] at this
theorem works_in (h : Below w.heap.size w W) : Calls Tryz.prog 6 #[] W fun e W' => e = .returned (.bool true) ∧ Hid (Below w.heap.size w W') :=
  (works_ok W).mono fun e W' ⟨h1, h2⟩ => ⟨h1, Lib.hid (h.trans (h2.out.mono h.size))⟩
end
end Go.Tb
namespace Go.Tb
open Go Go.RowKit Go.Proofs Go.Maps Go.Sp
theorem law4_ok (w : World) (a : Nat) (ha : a < 256) {v : Value} {l : List OpT} (hl : OpsV w v l) :
    Calls Tryz.prog 4 #[.int .u8 (a : Int), v] w fun e w' => e = .returned (.bool true) ∧ Hid (Below w.heap.size w w') := by
  have VS := vast_ok hl (Below.refl _ _)
  have hl' := Lib.hid hl
  obtain ⟨oa, oc, hv, hr⟩ := hl.r
  subst hv
  obtain ⟨n, hnn⟩ : ∃ n, l.length = n := ⟨_, rfl⟩
  rw [hnn] at VS
  cases hva : vast l with
  | true =>
    rw [hva] at VS
    have WK := works_ok w
    rw [hnn]
    clear hl hr hnn
    go_enter Tryz.func4, Tryz.ntmps4
    go_wp2_with (first
      | (go_at_call 5; refine VS.mono ?_; rintro e w5 ⟨rfl, hw5⟩; subst w5)
      | (go_at_call 6; refine WK.mono ?_; rintro e w6 ⟨rfl, hq6⟩))
    go_ret
    exact ⟨rfl, hq6⟩
  | false =>
    rw [hva] at VS
    have hn80 : n ≤ 80 := by
      by_cases h : 80 < n
      · unfold vast at hva
        rw [hnn, decide_eq_true h] at hva
        cases hva
      · omega
    obtain ⟨N, hN⟩ : ∃ N, 32 + a % 99 = N := ⟨_, rfl⟩
    have hN2 : 32 ≤ N ∧ N ≤ 130 := by omega
    have SP := space_ok (w := w) (N := N) (by omega)
    have OPN := Lib.hid (fun (W : World) (db sb : Nat) (h : ∃ γ, SW γ w W N 0 db sb st0 st0 (fun _ => none) (fun _ => none)) => show Calls Tryz.prog 8 #[.pointer (some ⟨sb, 0, none⟩)] W (fun e W' => ∃ tb, e = .returned (.tuple #[.pointer (some ⟨tb, 0, none⟩), .int .i64 0]) ∧ Hid (TE w W' N 2100 db sb tb)) from by
      obtain ⟨γ, h⟩ := h
      exact (topen_ok h (by decide)).mono fun e W' ⟨tb, h1, h2⟩ => ⟨tb, h1, Lib.hid ⟨_, _, h2.out.tx⟩⟩)
    have f1 : 32 + (a : Int) % 99 = (N : Int) := by omega
    have HV := Lib.hid (And.intro hnn hr)
    have HN := Lib.hid hN2
    have HN80 := Lib.hid hn80
    rw [hnn]
    clear hl hr hnn hN hva hn80 hN2
    go_enter Tryz.func4, Tryz.ntmps4
    go_upto_region 3 with (go_at_call 5; refine VS.mono ?_; rintro e w5 ⟨rfl, hw5⟩; subst w5)
    clear VS
    go_upto_region 5 with (first
      | (go_at_call 7; refine SP.mono ?_; rintro e w6 ⟨db, sb, rfl, hq6⟩)
      | (go_at_call 8; refine (OPN.out _ _ _ hq6.out).mono ?_; rintro e w7 ⟨tb, rfl, hq7⟩))
    clear SP OPN hq6 f1
    go_upto_region 8 with fail
    have HI0 : Hid (TE w w7 N 2100 db sb tb) := hq7
    clear hq7
    go_loopw [9] (fun u wr => ∃ k : Nat, u = .int .i64 (k : Int) ∧ k ≤ n ∧ Hid (TE w wr N (2100 + 2700 * k) db sb tb)) (fun u _ => n - (Go.RowKit.intOf u).toNat)
    case atStart => exact ⟨0, rfl, Nat.zero_le _, HI0⟩
    case round =>
      obtain ⟨k, rfl, hk, hI⟩ := hrel
      by_cases e : k < n
      · have j1 : (k : Int) < (n : Int) := by omega
        have j0 : (0 : Int) ≤ (k : Int) := by omega
        have hk2 : k < 2000001 := by have := HN80.out; omega
        obtain ⟨g, o, rfl, hcell⟩ := HV.out.2 (by rw [HV.out.1]; omega)
        obtain ⟨od, hod⟩ : ∃ od, l[k]? = some od := ⟨_, List.getElem?_eq_getElem (by rw [HV.out.1]; exact e)⟩
        obtain ⟨c0, c1, c2, c3, c4⟩ := hcell _ hI.out.be k od hod
        have l0 := cell_lt' c0
        have hwf := hl'.out.ok od (List.mem_of_getElem? hod)
        by_cases e4 : od.k = 4
        · rw [e4] at c0
          have HM : Hid (TE w wr N (2100 + 2700 * (k + 1)) db sb tb) := Lib.hid (hI.out.more (by omega))
          clear hcell hod hI hwf c1 c2 c3 c4
          go_wp2_with fail
          exact ⟨⟨k + 1, rfl, by omega, HM⟩, measT e⟩
        have DW := does_ok hI.out (by have := HN80.out; omega) (k := od.k) (o := od.o) (p := od.p) (s := od.s) (ba := od.ba) (bn := od.bn) (bc := od.bc) hwf e4
        rw [show 2100 + 2700 * k + 2700 = 2100 + 2700 * (k + 1) by omega] at DW
        clear hI hcell hod hwf
        generalize od.k = ok at *
        generalize od.o = oo at *
        generalize od.p = op at *
        generalize od.s = os at *
        generalize od.ba = oba at *
        generalize od.bn = obn at *
        generalize od.bc = obc at *
        go_wp2_with (go_at_call 9; refine DW.mono ?_; rintro e w9 ⟨⟨r9, rfl⟩, hq9⟩)
        exact ⟨⟨k + 1, rfl, by omega, hq9⟩, measT e⟩
      · have ek : k = n := by omega
        subst ek
        have j1 : ¬ (k : Int) < (k : Int) := by omega
        obtain ⟨E, L, hX⟩ := hI.out
        have hc0 : 2100 + 2700 * k ≤ 300000 := by have := HN80.out; omega
        obtain ⟨c, hc⟩ : ∃ c, 2100 + 2700 * k = c := ⟨_, rfl⟩
        rw [hc] at hX hc0
        have HX := Lib.hid hX
        have C0 := Lib.hid hc0
        have O2 := hX.open2 (by omega)
        have AL := Lib.hid (fun (W : World) (tb2 : Nat) (h : TwoP w W N (c + 2100) db sb tb tb2 E L) => h.alike)
        have CM := Lib.hid (fun (W : World) (tb2 : Nat) (h : TwoP w W N (c + 2100) db sb tb tb2 E L) => h.commit (by omega))
        have OD := Lib.hid (fun (W : World) (h : OneP w W N (c + 2100 + 600) db tb E) => h.open (by omega))
        have OT := Lib.hid (fun (W : World) (sb2 : Nat) (h : LastP w W N (c + 2100 + 600) db sb2 tb E) => h.open (by omega))
        have A2 := Lib.hid (fun (W : World) (sb2 tb2 : Nat) (h : TwoP w W N (c + 2100 + 600 + 2100) db sb2 tb tb2 E E) => h.alike)
        have WK := Lib.hid (fun (W : World) (sb2 tb2 : Nat) (h : TwoP w W N (c + 2100 + 600 + 2100) db sb2 tb tb2 E E) => works_in h.be)
        clear hI hX hc0 hc HI0
        go_upto_region 13 with (go_at_call 8; refine O2.mono ?_; rintro e w8 ⟨tb2, rfl, hq8⟩; clear O2)
        go_upto_region 15 with (go_at_call 13; refine (AL.out _ _ hq8.out).mono ?_; rintro e w9 ⟨rfl, hq9⟩; clear AL)
        clear hq8
        go_upto_region 17 with (go_at_call 14; refine (CM.out _ _ hq9.out).mono ?_; rintro e w10 ⟨rfl, hq10⟩; clear CM)
        clear hq9
        go_upto_region 21 with (first
          | (go_at_call 15; refine (OD.out _ hq10.out).mono ?_; rintro e w11 ⟨sb2, rfl, hq11⟩; clear OD)
          | (go_at_call 8; refine (OT.out _ _ hq11.out).mono ?_; rintro e w12 ⟨tb3, rfl, hq12⟩; clear OT))
        clear hq10 hq11
        go_wp2_with (first
          | (go_at_call 13; refine (A2.out _ _ _ hq12.out).mono ?_; rintro e w13 ⟨rfl, hq13⟩; clear A2)
          | (go_at_call 6; refine (WK.out _ _ _ hq13.out).mono ?_; rintro e w14 ⟨rfl, hq14⟩; clear WK))
        go_ret
        exact ⟨rfl, hq14⟩
end Go.Tb
set_option maxHeartbeats 1600000
namespace Go.Tb
open Go Go.RowKit Go.Proofs Go.Maps Go.Sp Go.Proofs.YthejkfnigalniabGreatDoor
section
variable {H : Type} {enc : TypeId × Value → H} {W : World} {sp : Nat → Bool}
theorem cellsOf35 : Tryz.prog.cellsOf 35 = 5 := by kernel_rfl
theorem cellsOf1 {t : TypeId} (h : t = 3 ∨ t = 5 ∨ t = 33) : Tryz.prog.cellsOf t = 1 := by
  rcases h with rfl | rfl | rfl <;> kernel_rfl
theorem cells_get {a : Addr} {n : Nat} {cs : List Value} (h : W.cells? 0 a n = some cs) (hn : 0 < n) : a.spot = none ∧ ∀ j v, cs[j]? = some v → W.cell? ⟨a.block, a.off + j, none⟩ = some v := by
  unfold World.cells? at h
  rw [if_pos (Nat.zero_le _)] at h
  have hl := mapM_some_length h
  rw [List.length_range] at hl
  have hg : ∀ j v, cs[j]? = some v → W.cell? (a.add j) = some v := fun j v hj => by
    have hjl : j < n := by rw [← hl]; exact (List.getElem?_eq_some_iff.1 hj).1
    have := mapM_some_get h j j (by simp [hjl])
    rw [this]; exact hj
  obtain ⟨b, o, s⟩ := a
  have hs : s = none := by
    obtain ⟨v, hv⟩ : ∃ v, cs[0]? = some v := ⟨cs[0]'(by omega), List.getElem?_eq_getElem (by omega)⟩
    have h0 := hg 0 v hv
    cases s with
    | none => rfl
    | some k =>
      unfold World.cell? at h0
      simp only [Addr.add] at h0
      split at h0 <;> simp at h0
  subst hs
  refine ⟨rfl, fun j v hj => ?_⟩
  have := hg j v hj
  rw [show (⟨b, o, none⟩ : Addr).add j = ⟨b, o + j, none⟩ by unfold Addr.add; split <;> simp_all] at this
  exact this
def CellsAt (W : World) (b o : Nat) (vs : List Value) : Prop := ∀ j v, vs[j]? = some v → W.cell? ⟨b, o + j, none⟩ = some v
theorem rows_read {α : Type} {e : TypeId} {k : Nat} {E : α → List Value → Prop} {n : Nat} (hk : Tryz.prog.cellsOf e = k) (h0 : 0 < k)
    (hE : ∀ cs (y : DataW H × List MemPlace), DataW.trod enc Tryz.prog W 0 sp true n e cs = some y → ∃ x : α, E x cs) {a : Addr} {elems : List (DataW H × List MemPlace)} :
    ∀ m, m ≤ elems.length → (∀ i, i < elems.length → (W.cells? 0 (a.add (i * Tryz.prog.cellsOf e)) (Tryz.prog.cellsOf e)).bind (DataW.trod enc Tryz.prog W 0 sp true n e) = elems[i]?) →
    ∃ l : List α, l.length = m ∧ (0 < m → a.spot = none) ∧ ∀ i x, l[i]? = some x → ∃ vs, CellsAt W a.block (a.off + i * k) vs ∧ E x vs
  | 0, _, _ => ⟨[], rfl, fun h => absurd h (Nat.lt_irrefl _), fun i x hx => by simp at hx⟩
  | m + 1, hm, hel => by
    obtain ⟨l, h1, h2, h3⟩ := rows_read hk h0 hE m (by omega) hel
    obtain ⟨y, hy⟩ : ∃ y, elems[m]? = some y := ⟨elems[m]'(by omega), List.getElem?_eq_getElem (by omega)⟩
    have h := hel m (by omega)
    rw [hy, hk] at h
    obtain ⟨cs, hc, ht⟩ := Option.bind_eq_some_iff.1 h
    obtain ⟨x, hx⟩ := hE cs y ht
    obtain ⟨hs, hg⟩ := cells_get hc h0
    have hab : (a.add (m * k)).block = a.block ∧ (a.add (m * k)).off = a.off + m * k ∧ a.spot = none := by
      by_cases e0 : m * k = 0
      · have em : m = 0 := by
          rcases Nat.mul_eq_zero.1 e0 with e | e
          · exact e
          · omega
        unfold Addr.add at hs ⊢
        rw [if_pos e0] at hs ⊢
        exact ⟨rfl, by rw [e0]; rfl, hs⟩
      · unfold Addr.add
        rw [if_neg e0]
        exact ⟨rfl, rfl, h2 (Nat.pos_of_ne_zero fun e => e0 (by rw [e, Nat.zero_mul]))⟩
    refine ⟨l ++ [x], by rw [List.length_append, h1]; rfl, fun _ => hab.2.2, fun i x' hx' => ?_⟩
    by_cases hi : i < m
    · rw [List.getElem?_append_left (by omega)] at hx'
      exact h3 i x' hx'
    · rw [List.getElem?_append_right (by omega), h1] at hx'
      have : i = m := by
        have := (List.getElem?_eq_some_iff.1 hx').1
        simp at this
        omega
      subst this
      rw [Nat.sub_self] at hx'
      injection hx' with hx'
      subst hx'
      refine ⟨cs, fun j v hj => ?_, hx⟩
      have := hg j v hj
      rw [hab.1, hab.2.1] at this
      exact this
theorem row_open {α : Type} {t e : TypeId} {k : Nat} {E : α → List Value → Prop} {n : Nat} {cs : List Value} {x : DataW H × List MemPlace} (ht : Tryz.prog.underlying t = some (.slice e)) (hk : Tryz.prog.cellsOf e = k) (h0 : 0 < k)
    (h : DataW.trod enc Tryz.prog W 0 sp true (n + 1) t cs = some x) (hE : ∀ cs (y : DataW H × List MemPlace), DataW.trod enc Tryz.prog W 0 sp true n e cs = some y → ∃ x : α, E x cs) :
    ∃ (l : List α) (a : Option Addr) (c : Nat), cs = [.slice a l.length c] ∧ l.length ≤ c ∧ (a = none → l.length = 0 ∧ c = 0) ∧ (0 < l.length → ∃ b o, a = some ⟨b, o, none⟩ ∧ ∀ i x, l[i]? = some x → ∃ vs, CellsAt W b (o + i * k) vs ∧ E x vs) := by
  rcases DataW.trod_slice ht h with ⟨rfl, rfl⟩ | ⟨a, len, cap, elems, rest, n', hn, rfl, rfl, _, hlc, hcm, hel, hget, _, _⟩
  · exact ⟨[], none, 0, rfl, Nat.le_refl _, fun _ => ⟨rfl, rfl⟩, fun h => absurd h (Nat.lt_irrefl _)⟩
  · obtain rfl : n' = n := by omega
    obtain ⟨l, h1, h2, h3⟩ := rows_read hk h0 hE elems.length (Nat.le_refl _) (by rw [hel]; exact hget)
    refine ⟨l, some a, cap, by rw [h1, hel], by omega, (fun h => by cases h), fun hl => ?_⟩
    have hs := h2 (by rw [← h1]; exact hl)
    obtain ⟨b, o, s⟩ := a
    simp only at hs
    subst hs
    exact ⟨b, o, rfl, h3⟩
def U8E (x : Nat) (cs : List Value) : Prop := cs = [.int .u8 (x : Int)] ∧ x < 256
theorem open_u8 (n : Nat) (cs : List Value) (y : DataW H × List MemPlace) (h : DataW.trod enc Tryz.prog W 0 sp true n 5 cs = some y) : ∃ x, U8E x cs := by
  obtain ⟨k, rfl, _, hw⟩ := DataW.trod_int Tryz.underlying5 h
  have : 0 ≤ k ∧ k ≤ 255 := by simpa [Lit.wf, IntKind.min, IntKind.max, IntKind.signed, IntKind.bits] using hw
  exact ⟨k.toNat, by rw [show ((k.toNat : Nat) : Int) = k by omega], by omega⟩
theorem open_bytes (n : Nat) (cs : List Value) (y : DataW H × List MemPlace) (h : DataW.trod enc Tryz.prog W 0 sp true n 33 cs = some y) : ∃ (k : Nat) (a : Option Addr) (c : Nat), cs = [.slice a k c] := by
  cases n with
  | zero => simp [DataW.trod] at h
  | succ n =>
    obtain ⟨l, a, c, rfl, hlc, _, hrow⟩ := row_open (E := U8E) Tryz.underlying33 (cellsOf1 (t := 5) (by simp)) (by decide) h (open_u8 n)
    exact ⟨l.length, a, c, rfl⟩
def OpE (W : World) (x : OpT) (cs : List Value) : Prop := cs = [.int .i64 x.k, .int .i64 x.o, .int .i64 x.p, .int .i64 x.s, .slice x.ba x.bn x.bc] ∧ (Lit.int .i64 x.o).wf = true
theorem open_op (n : Nat) (cs : List Value) (y : DataW H × List MemPlace) (h : DataW.trod enc Tryz.prog W 0 sp true n 35 cs = some y) : ∃ x : OpT, OpE W x cs := by
  obtain ⟨xs, m, rfl, rfl, hl, hxs, hf⟩ := DataW.trod_struct Tryz.underlying35 h
  rw [cellsOf35] at hl
  have hxs : xs.length = 5 := hxs
  obtain ⟨c0, c1, c2, c3, c4, rfl⟩ : ∃ c0 c1 c2 c3 c4, cs = [c0, c1, c2, c3, c4] := by
    match cs, hl with
    | [c0, c1, c2, c3, c4], _ => exact ⟨c0, c1, c2, c3, c4, rfl⟩
  obtain ⟨y0, y1, y2, y3, y4, rfl⟩ : ∃ y0 y1 y2 y3 y4, xs = [y0, y1, y2, y3, y4] := by
    match xs, hxs with
    | [y0, y1, y2, y3, y4], _ => exact ⟨y0, y1, y2, y3, y4, rfl⟩
  have f0 : DataW.trod enc Tryz.prog W 0 sp true m 3 [c0] = some y0 := by
    have h : DataW.trod enc Tryz.prog W 0 sp true m 3 (([c0, c1, c2, c3, c4].drop 0).take (Tryz.prog.cellsOf 3)) = some y0 := hf 0 _ rfl
    rw [cellsOf1 (t := 3) (by simp)] at h
    exact h
  have f1 : DataW.trod enc Tryz.prog W 0 sp true m 3 [c1] = some y1 := by
    have h : DataW.trod enc Tryz.prog W 0 sp true m 3 (([c0, c1, c2, c3, c4].drop 1).take (Tryz.prog.cellsOf 3)) = some y1 := hf 1 _ rfl
    rw [cellsOf1 (t := 3) (by simp)] at h
    exact h
  have f2 : DataW.trod enc Tryz.prog W 0 sp true m 3 [c2] = some y2 := by
    have h : DataW.trod enc Tryz.prog W 0 sp true m 3 (([c0, c1, c2, c3, c4].drop 2).take (Tryz.prog.cellsOf 3)) = some y2 := hf 2 _ rfl
    rw [cellsOf1 (t := 3) (by simp)] at h
    exact h
  have f3 : DataW.trod enc Tryz.prog W 0 sp true m 3 [c3] = some y3 := by
    have h : DataW.trod enc Tryz.prog W 0 sp true m 3 (([c0, c1, c2, c3, c4].drop 3).take (Tryz.prog.cellsOf 3)) = some y3 := hf 3 _ rfl
    rw [cellsOf1 (t := 3) (by simp)] at h
    exact h
  have f4 : DataW.trod enc Tryz.prog W 0 sp true m 33 [c4] = some y4 := by
    have h : DataW.trod enc Tryz.prog W 0 sp true m 33 (([c0, c1, c2, c3, c4].drop 4).take (Tryz.prog.cellsOf 33)) = some y4 := hf 4 _ rfl
    rw [cellsOf1 (t := 33) (by simp)] at h
    exact h
  obtain ⟨k, e0, _, _⟩ := DataW.trod_int Tryz.underlying3 f0
  obtain ⟨o, e1, _, ho⟩ := DataW.trod_int Tryz.underlying3 f1
  obtain ⟨p, e2, _, _⟩ := DataW.trod_int Tryz.underlying3 f2
  obtain ⟨t, e3, _, _⟩ := DataW.trod_int Tryz.underlying3 f3
  obtain ⟨bn, ba, bc, e4⟩ := open_bytes m _ _ f4
  injection e0 with e0 _
  injection e1 with e1 _
  injection e2 with e2 _
  injection e3 with e3 _
  injection e4 with e4 _
  subst e0; subst e1; subst e2; subst e3; subst e4
  exact ⟨⟨k, o, p, t, ba, bn, bc⟩, rfl, ho⟩
theorem open_ops (n : Nat) (cs : List Value) (y : DataW H × List MemPlace) (h : DataW.trod enc Tryz.prog W 0 sp true n 22 cs = some y) : ∃ l v, cs = [v] ∧ OpsV W v l := by
  cases n with
  | zero => simp [DataW.trod] at h
  | succ n =>
    obtain ⟨l, a, c, rfl, hlc, _, hrow⟩ := row_open (E := OpE W) Tryz.underlying22 cellsOf35 (by decide) h (open_op n)
    refine ⟨l, _, rfl, ⟨a, c, rfl, fun hp => ?_⟩, fun od hod => ?_⟩
    · obtain ⟨b, o, e, hr⟩ := hrow hp
      refine ⟨b, o, e, fun W' hb i od hi => ?_⟩
      obtain ⟨vs, h1, h2, _⟩ := hr i od hi
      rw [h2] at h1
      have q := fun j v hj => cells_below hb _ _ (h1 j v hj)
      exact ⟨q 0 _ rfl, q 1 _ rfl, q 2 _ rfl, q 3 _ rfl, q 4 _ rfl⟩
    · obtain ⟨i, hi, rfl⟩ := List.getElem_of_mem hod
      obtain ⟨b, o, e, hr⟩ := hrow (by omega)
      obtain ⟨vs, _, _, h3⟩ := hr i _ (List.getElem?_eq_getElem hi)
      exact h3
end
end Go.Tb
set_option maxHeartbeats 8000000
namespace Go.Tb
open Go Go.RowKit Go.Proofs Go.Maps Go.Sp
theorem TX.getN {w W : World} {N c db sb tb : Nat} {E L : En} (h : TX w W N c db sb tb E L) {x : Int} (hx : (Lit.int .i64 x).wf = true) {p s : Int} {b : Bool} (hp : (pgO (Ez E x) : Int) = p) (hs : (slO (Ez E x) : Int) = s) (hb : (Ez E x).isSome = b) :
    Calls Tryz.prog 10 #[.pointer (some ⟨tb, 0, none⟩), .int .i64 x] W fun e W' => e = .returned (.tuple #[.int .i64 p, .int .i64 s, .bool b]) ∧ Hid (TX w W' N c db sb tb E L) := by
  have := h.get hx
  rw [hp, hs, hb] at this
  exact this
def EndP (w W' : World) (db sb tb : Nat) (oid : Int) (c r : Nat) (b : Bool) : Prop := (r = 0 → b = false) ∧ ∃ E L, TX w W' 130 c db sb tb E L ∧ (r = 0 → (1 ≤ oid ∧ oid ≤ 16384) ∧ Ez E oid = none)
theorem law3_ok (w : World) {v : Value} {l : List OpT} (hl : OpsV w v l) {oid other page slot : Int} (hwi : (Lit.int .i64 oid).wf = true) (hwo : (Lit.int .i64 other).wf = true) :
    Calls Tryz.prog 3 #[v, .int .i64 oid, .int .i64 other, .int .i64 page, .int .i64 slot] w fun e w' => e = .returned (.bool true) ∧ Hid (Below w.heap.size w w') := by
  have VS := vast_ok hl (Below.refl _ _)
  have hl' := Lib.hid hl
  obtain ⟨oa, oc, hv, hr⟩ := hl.r
  subst hv
  obtain ⟨n, hnn⟩ : ∃ n, l.length = n := ⟨_, rfl⟩
  rw [hnn] at VS
  cases hva : vast l with
  | true =>
    rw [hva] at VS
    have WK := works_ok w
    rw [hnn]
    clear hl hr hnn hwi hwo
    go_enter Tryz.func3, Tryz.ntmps3
    go_wp2_with (first
      | (go_at_call 5; refine VS.mono ?_; rintro e w5 ⟨rfl, hw5⟩; subst w5)
      | (go_at_call 6; refine WK.mono ?_; rintro e w6 ⟨rfl, hq6⟩))
    go_ret
    exact ⟨rfl, hq6⟩
  | false =>
    rw [hva] at VS
    have hn80 : n ≤ 80 := by
      by_cases h : 80 < n
      · unfold vast at hva
        rw [hnn, decide_eq_true h] at hva
        cases hva
      · omega
    have SP := space_ok (w := w) (N := 130) (by omega)
    have OPN := Lib.hid (fun (W : World) (db sb : Nat) (h : ∃ γ, SW γ w W 130 0 db sb st0 st0 (fun _ => none) (fun _ => none)) => show Calls Tryz.prog 8 #[.pointer (some ⟨sb, 0, none⟩)] W (fun e W' => ∃ tb, e = .returned (.tuple #[.pointer (some ⟨tb, 0, none⟩), .int .i64 0]) ∧ Hid (TE w W' 130 2100 db sb tb)) from by
      obtain ⟨γ, h⟩ := h
      exact (topen_ok h (by decide)).mono fun e W' ⟨tb, h1, h2⟩ => ⟨tb, h1, Lib.hid ⟨_, _, h2.out.tx⟩⟩)
    have HWI := Lib.hid hwi
    have HWO := Lib.hid hwo
    clear hwi hwo
    have HV := Lib.hid (And.intro hnn hr)
    have HN80 := Lib.hid hn80
    rw [hnn]
    clear hl hr hnn hva hn80
    go_enter Tryz.func3, Tryz.ntmps3
    go_upto_region 3 with (go_at_call 5; refine VS.mono ?_; rintro e w5 ⟨rfl, hw5⟩; subst w5)
    clear VS
    go_upto_region 5 with (first
      | (go_at_call 7; refine SP.mono ?_; rintro e w6 ⟨db, sb, rfl, hq6⟩)
      | (go_at_call 8; refine (OPN.out _ _ _ hq6.out).mono ?_; rintro e w7 ⟨tb, rfl, hq7⟩))
    clear SP OPN hq6
    go_upto_region 8 with fail
    have HI0 : Hid (TE w w7 130 2100 db sb tb) := hq7
    clear hq7
    go_loopw [15] (fun u wr => ∃ k : Nat, u = .int .i64 (k : Int) ∧ k ≤ n ∧ Hid (TE w wr 130 (2100 + 2700 * k) db sb tb)) (fun u _ => n - (Go.RowKit.intOf u).toNat)
    case atStart => exact ⟨0, rfl, Nat.zero_le _, HI0⟩
    case round =>
      obtain ⟨k, rfl, hk, hI⟩ := hrel
      by_cases e : k < n
      · have j1 : (k : Int) < (n : Int) := by omega
        have j0 : (0 : Int) ≤ (k : Int) := by omega
        have hk2 : k < 2000001 := by have := HN80.out; omega
        obtain ⟨g, o, rfl, hcell⟩ := HV.out.2 (by rw [HV.out.1]; omega)
        obtain ⟨od, hod⟩ : ∃ od, l[k]? = some od := ⟨_, List.getElem?_eq_getElem (by rw [HV.out.1]; exact e)⟩
        obtain ⟨c0, c1, c2, c3, c4⟩ := hcell _ hI.out.be k od hod
        have l0 := cell_lt' c0
        have hwf := hl'.out.ok od (List.mem_of_getElem? hod)
        by_cases e4 : od.k = 4
        · rw [e4] at c0
          have HM : Hid (TE w wr 130 (2100 + 2700 * (k + 1)) db sb tb) := Lib.hid (hI.out.more (by omega))
          clear hcell hod hI hwf c1 c2 c3 c4
          go_wp2_with fail
          exact ⟨⟨k + 1, rfl, by omega, HM⟩, measT e⟩
        have DW := does_ok hI.out (by have := HN80.out; omega) (k := od.k) (o := od.o) (p := od.p) (s := od.s) (ba := od.ba) (bn := od.bn) (bc := od.bc) hwf e4
        rw [show 2100 + 2700 * k + 2700 = 2100 + 2700 * (k + 1) by omega] at DW
        clear hI hcell hod hwf
        generalize od.k = ok at *
        generalize od.o = oo at *
        generalize od.p = op at *
        generalize od.s = os at *
        generalize od.ba = oba at *
        generalize od.bn = obn at *
        generalize od.bc = obc at *
        go_wp2_with (go_at_call 9; refine DW.mono ?_; rintro e w9 ⟨⟨r9, rfl⟩, hq9⟩)
        exact ⟨⟨k + 1, rfl, by omega, hq9⟩, measT e⟩
      · have ek : k = n := by omega
        subst ek
        have j1 : ¬ (k : Int) < (k : Int) := by omega
        obtain ⟨E, L, hX⟩ := hI.out
        have hc0 : 2100 + 2700 * k ≤ 300000 := by have := HN80.out; omega
        obtain ⟨c, hc⟩ : ∃ c, 2100 + 2700 * k = c := ⟨_, rfl⟩
        rw [hc] at hX hc0
        have C0 := Lib.hid hc0
        obtain ⟨po, hpo⟩ : ∃ po : Int, (pgO (Ez E other) : Int) = po := ⟨_, rfl⟩
        obtain ⟨so, hso⟩ : ∃ so : Int, (slO (Ez E other) : Int) = so := ⟨_, rfl⟩
        obtain ⟨bo, hbo⟩ : ∃ bo, (Ez E other).isSome = bo := ⟨_, rfl⟩
        obtain ⟨pi, hpi⟩ : ∃ pi : Int, (pgO (Ez E oid) : Int) = pi := ⟨_, rfl⟩
        obtain ⟨si, hsi⟩ : ∃ si : Int, (slO (Ez E oid) : Int) = si := ⟨_, rfl⟩
        obtain ⟨bi, hbi⟩ : ∃ bi, (Ez E oid).isSome = bi := ⟨_, rfl⟩
        have HNO := Lib.hid (And.intro hpo (And.intro hso hbo))
        have HNI := Lib.hid (And.intro hpi (And.intro hsi hbi))
        have GO := hX.getN HWO.out hpo hso hbo
        have GI := Lib.hid (fun (W : World) (c' : Nat) (h : TX w W 130 c' db sb tb E L) => h.getN HWI.out HNI.out.1 HNI.out.2.1 HNI.out.2.2)
        have ST := Lib.hid (fun (W : World) (h : TX w W 130 c db sb tb E L) => h.set (by have := C0.out; omega) oid page slot)
        clear hI hX hc0 hc HI0 hpo hso hbo hpi hsi hbi
        go_upto_region 13 with (go_at_call 10; refine GO.mono ?_; rintro e w8 ⟨rfl, hq8⟩; clear GO)
        go_upto_region 14 with (go_at_call 10; refine (GI.out _ _ hq8.out).mono ?_; rintro e w9 ⟨rfl, hq9⟩)
        clear hq8
        -- whatever was done, at the end
        have EN := Lib.hid (fun (W : World) (F : En) (c' : Nat) (hc' : c' ≤ 390000) (h : TX w W 130 c' db sb tb F L) => show Calls Tryz.prog 12 #[.pointer (some ⟨tb, 0, none⟩), .int .i64 oid] W (fun e W' => ∃ r : Nat, e = .returned (.int .i64 (r : Int)) ∧ Hid (∃ b, (r = 0 → b = false) ∧ ∃ F', TX w W' 130 (c' + 2) db sb tb F' L ∧ (Ez F' oid).isSome = b ∧ (r = 0 → (1 ≤ oid ∧ oid ≤ 16384) ∧ Ez F' oid = none))) from (h.clear (by omega) HWI.out).mono fun e W' ⟨r, h1, hq⟩ => ⟨r, h1, Lib.hid (by
          rcases hq.out with ⟨h2, h3, h4⟩ | ⟨h2, h4, _⟩
          · have hz : Ez (upd F oid.toNat none) oid = none := by
              have ho : ((oid.toNat : Nat) : Int) = oid := by omega
              rw [Ez_upd, if_pos ho.symm]
            exact ⟨false, fun _ => rfl, _, h4, by rw [hz]; rfl, fun _ => ⟨h3, hz⟩⟩
          · exact ⟨_, fun e => absurd e h2, F, h4, rfl, fun e => absurd e h2⟩)⟩)
        have STX := ST.out _ hq9.out
        cases hm : mayS oid page slot with
        | true =>
          rw [hm] at STX
          unfold mayS mayE at hm
          simp only [Bool.and_eq_true, decide_eq_true_eq] at hm
          obtain ⟨⟨m1, m2⟩, m3, m4, m5, m6⟩ := hm
          have i1 : oid ≥ 1 := m1
          have HMM : Hid ((1 ≤ oid ∧ oid ≤ 16384) ∧ 265 ≤ page ∧ page < 1024 ∧ 0 ≤ slot ∧ slot ≤ 65535) := Lib.hid ⟨⟨m1, m2⟩, m3, m4, m5, m6⟩
          clear hq9 ST i1
          go_upto_region 15 with fail
          go_upto_region 16 with (go_at_call 11; refine STX.mono ?_; rintro e w10 ⟨r, rfl, hq10⟩; clear STX)
          clear m1 m2 m3 m4 m5 m6
          rcases hq10.out with hA | hB
          · obtain ⟨rfl, hX⟩ := hA
            have ho : ((oid.toNat : Nat) : Int) = oid := by have := HMM.out; omega
            obtain ⟨F, hF⟩ : ∃ F, upd E oid.toNat (some (page.toNat, slot.toNat)) = F := ⟨_, rfl⟩
            rw [hF] at hX
            have hFi : Ez F oid = some (page.toNat, slot.toNat) := by rw [← hF, Ez_upd, if_pos ho.symm]
            have HO10 : Hid (other ≠ oid → (pgO (Ez F other) : Int) = po ∧ (slO (Ez F other) : Int) = so ∧ (Ez F other).isSome = bo) := Lib.hid (fun hne => by
              have : Ez F other = Ez E other := by rw [← hF, Ez_upd, if_neg (by rw [ho]; exact hne)]
              rw [this]; exact HNO.out)
            have hp : (pgO (Ez F oid) : Int) = page := by rw [hFi]; show ((page.toNat : Nat) : Int) = page; have := HMM.out; omega
            have hs : (slO (Ez F oid) : Int) = slot := by rw [hFi]; show ((slot.toNat : Nat) : Int) = slot; have := HMM.out; omega
            have hb : (Ez F oid).isSome = true := by rw [hFi]; rfl
            have GX := hX.getN HWI.out hp hs hb
            have hX10 := Lib.hid hX
            clear hq10 hX hF hFi hp hs hb ho GI
            have G11 := GX
            have EN10 := Lib.hid (fun (W : World) (h : TX w W 130 (c + 2) db sb tb F L) => EN.out W _ _ (by have := C0.out; omega) h)
            have GO10 := Lib.hid (fun (W : World) (h : TX w W 130 (c + 2) db sb tb F L) (hne : other ≠ oid) => h.getN HWO.out (p := po) (s := so) (b := bo) (HO10.out hne).1 (HO10.out hne).2.1 (HO10.out hne).2.2)
            clear EN
            go_upto_region 17 with (go_at_call 10; refine G11.mono ?_; rintro e w11 ⟨rfl, hq11⟩; clear G11)
            clear hX10
            go_upto_region 21 with fail
            by_cases hne : other = oid
            · clear GO10
              go_upto_region 26 with (go_at_call 12; refine (EN10.out _ hq11.out).mono ?_; rintro e w13 ⟨r2, rfl, hq13⟩)
              clear EN10 hq11
              obtain ⟨b, hb0, F2, hF2, hbF, hzz⟩ := hq13.out
              have GF := hF2.getN HWI.out rfl rfl hbF
              by_cases hr2 : r2 = 0
              · obtain rfl := hb0 hr2
                obtain ⟨hrange, hnone⟩ := hzz hr2
                subst hr2
                have C2 := Lib.hid (fun (W : World) (h : TX w W 130 (c + 2 + 2) db sb tb F2 L) => tclear_no h HWI.out (fun _ => hnone))
                rw [if_pos hrange] at C2
                have WK := Lib.hid (fun (W : World) (h : TX w W 130 (c + 2 + 2) db sb tb F2 L) => works_in h.be)
                clear hq13 hF2 hbF hzz hb0 hnone
                generalize pgO (Ez F2 oid) = pz at GF
                generalize slO (Ez F2 oid) = sz at GF
                go_upto_region 27 with (go_at_call 10; refine GF.mono ?_; rintro e w14 ⟨rfl, hq14⟩; clear GF)
                go_wp2_with (first
                  | (go_at_call 12; refine (C2.out _ hq14.out).mono ?_; rintro e w15 ⟨rfl, hq15⟩)
                  | (go_at_call 6; refine (WK.out _ hq15.out).mono ?_; rintro e w16 ⟨rfl, hq16⟩))
                go_ret
                exact ⟨rfl, hq16⟩
              · have hr3 : ¬ (r2 : Int) = 0 := by omega
                have WK := Lib.hid (fun (W : World) (h : TX w W 130 (c + 2 + 2) db sb tb F2 L) => works_in h.be)
                clear hq13 hF2 hbF hzz hb0 hr2
                generalize pgO (Ez F2 oid) = pz at GF
                generalize slO (Ez F2 oid) = sz at GF
                go_upto_region 27 with (go_at_call 10; refine GF.mono ?_; rintro e w14 ⟨rfl, hq14⟩; clear GF)
                go_wp2_with (go_at_call 6; refine (WK.out _ hq14.out).mono ?_; rintro e w16 ⟨rfl, hq16⟩)
                go_ret
                exact ⟨rfl, hq16⟩
            · have G12 := GO10.out _ hq11.out hne
              clear GO10
              go_upto_region 25 with (go_at_call 10; refine G12.mono ?_; rintro e w12 ⟨rfl, hq12⟩; clear G12)
              go_upto_region 26 with (go_at_call 12; refine (EN10.out _ hq12.out).mono ?_; rintro e w13 ⟨r2, rfl, hq13⟩)
              clear EN10 hq11 hq12
              obtain ⟨b, hb0, F2, hF2, hbF, hzz⟩ := hq13.out
              have GF := hF2.getN HWI.out rfl rfl hbF
              by_cases hr2 : r2 = 0
              · obtain rfl := hb0 hr2
                obtain ⟨hrange, hnone⟩ := hzz hr2
                subst hr2
                have C2 := Lib.hid (fun (W : World) (h : TX w W 130 (c + 2 + 2) db sb tb F2 L) => tclear_no h HWI.out (fun _ => hnone))
                rw [if_pos hrange] at C2
                have WK := Lib.hid (fun (W : World) (h : TX w W 130 (c + 2 + 2) db sb tb F2 L) => works_in h.be)
                clear hq13 hF2 hbF hzz hb0 hnone
                generalize pgO (Ez F2 oid) = pz at GF
                generalize slO (Ez F2 oid) = sz at GF
                go_upto_region 27 with (go_at_call 10; refine GF.mono ?_; rintro e w14 ⟨rfl, hq14⟩; clear GF)
                go_wp2_with (first
                  | (go_at_call 12; refine (C2.out _ hq14.out).mono ?_; rintro e w15 ⟨rfl, hq15⟩)
                  | (go_at_call 6; refine (WK.out _ hq15.out).mono ?_; rintro e w16 ⟨rfl, hq16⟩))
                go_ret
                exact ⟨rfl, hq16⟩
              · have hr3 : ¬ (r2 : Int) = 0 := by omega
                have WK := Lib.hid (fun (W : World) (h : TX w W 130 (c + 2 + 2) db sb tb F2 L) => works_in h.be)
                clear hq13 hF2 hbF hzz hb0 hr2
                generalize pgO (Ez F2 oid) = pz at GF
                generalize slO (Ez F2 oid) = sz at GF
                go_upto_region 27 with (go_at_call 10; refine GF.mono ?_; rintro e w14 ⟨rfl, hq14⟩; clear GF)
                go_wp2_with (go_at_call 6; refine (WK.out _ hq14.out).mono ?_; rintro e w16 ⟨rfl, hq16⟩)
                go_ret
                exact ⟨rfl, hq16⟩
          · obtain ⟨rfl, hX, _⟩ := hB
            have HO10 : Hid (other ≠ oid → (pgO (Ez E other) : Int) = po ∧ (slO (Ez E other) : Int) = so ∧ (Ez E other).isSome = bo) := Lib.hid (fun hne => HNO.out)
            have GX := GI.out _ _ hX
            have hX10 := Lib.hid hX
            clear hq10 hX GI
            have G11 := GX
            have EN10 := Lib.hid (fun (W : World) (h : TX w W 130 (c + 2) db sb tb E L) => EN.out W _ _ (by have := C0.out; omega) h)
            have GO10 := Lib.hid (fun (W : World) (h : TX w W 130 (c + 2) db sb tb E L) (hne : other ≠ oid) => h.getN HWO.out (p := po) (s := so) (b := bo) (HO10.out hne).1 (HO10.out hne).2.1 (HO10.out hne).2.2)
            clear EN
            go_upto_region 17 with (go_at_call 10; refine G11.mono ?_; rintro e w11 ⟨rfl, hq11⟩; clear G11)
            clear hX10
            go_upto_region 21 with fail
            by_cases hne : other = oid
            · clear GO10
              go_upto_region 26 with (go_at_call 12; refine (EN10.out _ hq11.out).mono ?_; rintro e w13 ⟨r2, rfl, hq13⟩)
              clear EN10 hq11
              obtain ⟨b, hb0, F2, hF2, hbF, hzz⟩ := hq13.out
              have GF := hF2.getN HWI.out rfl rfl hbF
              by_cases hr2 : r2 = 0
              · obtain rfl := hb0 hr2
                obtain ⟨hrange, hnone⟩ := hzz hr2
                subst hr2
                have C2 := Lib.hid (fun (W : World) (h : TX w W 130 (c + 2 + 2) db sb tb F2 L) => tclear_no h HWI.out (fun _ => hnone))
                rw [if_pos hrange] at C2
                have WK := Lib.hid (fun (W : World) (h : TX w W 130 (c + 2 + 2) db sb tb F2 L) => works_in h.be)
                clear hq13 hF2 hbF hzz hb0 hnone
                generalize pgO (Ez F2 oid) = pz at GF
                generalize slO (Ez F2 oid) = sz at GF
                go_upto_region 27 with (go_at_call 10; refine GF.mono ?_; rintro e w14 ⟨rfl, hq14⟩; clear GF)
                go_wp2_with (first
                  | (go_at_call 12; refine (C2.out _ hq14.out).mono ?_; rintro e w15 ⟨rfl, hq15⟩)
                  | (go_at_call 6; refine (WK.out _ hq15.out).mono ?_; rintro e w16 ⟨rfl, hq16⟩))
                go_ret
                exact ⟨rfl, hq16⟩
              · have hr3 : ¬ (r2 : Int) = 0 := by omega
                have WK := Lib.hid (fun (W : World) (h : TX w W 130 (c + 2 + 2) db sb tb F2 L) => works_in h.be)
                clear hq13 hF2 hbF hzz hb0 hr2
                generalize pgO (Ez F2 oid) = pz at GF
                generalize slO (Ez F2 oid) = sz at GF
                go_upto_region 27 with (go_at_call 10; refine GF.mono ?_; rintro e w14 ⟨rfl, hq14⟩; clear GF)
                go_wp2_with (go_at_call 6; refine (WK.out _ hq14.out).mono ?_; rintro e w16 ⟨rfl, hq16⟩)
                go_ret
                exact ⟨rfl, hq16⟩
            · have G12 := GO10.out _ hq11.out hne
              clear GO10
              go_upto_region 25 with (go_at_call 10; refine G12.mono ?_; rintro e w12 ⟨rfl, hq12⟩; clear G12)
              go_upto_region 26 with (go_at_call 12; refine (EN10.out _ hq12.out).mono ?_; rintro e w13 ⟨r2, rfl, hq13⟩)
              clear EN10 hq11 hq12
              obtain ⟨b, hb0, F2, hF2, hbF, hzz⟩ := hq13.out
              have GF := hF2.getN HWI.out rfl rfl hbF
              by_cases hr2 : r2 = 0
              · obtain rfl := hb0 hr2
                obtain ⟨hrange, hnone⟩ := hzz hr2
                subst hr2
                have C2 := Lib.hid (fun (W : World) (h : TX w W 130 (c + 2 + 2) db sb tb F2 L) => tclear_no h HWI.out (fun _ => hnone))
                rw [if_pos hrange] at C2
                have WK := Lib.hid (fun (W : World) (h : TX w W 130 (c + 2 + 2) db sb tb F2 L) => works_in h.be)
                clear hq13 hF2 hbF hzz hb0 hnone
                generalize pgO (Ez F2 oid) = pz at GF
                generalize slO (Ez F2 oid) = sz at GF
                go_upto_region 27 with (go_at_call 10; refine GF.mono ?_; rintro e w14 ⟨rfl, hq14⟩; clear GF)
                go_wp2_with (first
                  | (go_at_call 12; refine (C2.out _ hq14.out).mono ?_; rintro e w15 ⟨rfl, hq15⟩)
                  | (go_at_call 6; refine (WK.out _ hq15.out).mono ?_; rintro e w16 ⟨rfl, hq16⟩))
                go_ret
                exact ⟨rfl, hq16⟩
              · have hr3 : ¬ (r2 : Int) = 0 := by omega
                have WK := Lib.hid (fun (W : World) (h : TX w W 130 (c + 2 + 2) db sb tb F2 L) => works_in h.be)
                clear hq13 hF2 hbF hzz hb0 hr2
                generalize pgO (Ez F2 oid) = pz at GF
                generalize slO (Ez F2 oid) = sz at GF
                go_upto_region 27 with (go_at_call 10; refine GF.mono ?_; rintro e w14 ⟨rfl, hq14⟩; clear GF)
                go_wp2_with (go_at_call 6; refine (WK.out _ hq14.out).mono ?_; rintro e w16 ⟨rfl, hq16⟩)
                go_ret
                exact ⟨rfl, hq16⟩
        | false =>
          rw [hm] at STX
          have STX : Calls Tryz.prog 11 #[.pointer (some ⟨tb, 0, none⟩), .int .i64 oid, .int .i64 page, .int .i64 slot] w9 (fun e W' => e = .returned (.int .i64 1) ∧ Hid (TX w W' 130 (c + 2) db sb tb E L)) := STX.mono fun e W' ⟨r, h1, h2⟩ => by
            have h3 := h2.out
            rw [if_neg (by simp)] at h3
            obtain ⟨rfl, h3⟩ := h3
            exact ⟨h1, Lib.hid h3⟩
          have HO10 : Hid (other ≠ oid → (pgO (Ez E other) : Int) = po ∧ (slO (Ez E other) : Int) = so ∧ (Ez E other).isSome = bo) := Lib.hid (fun hne => HNO.out)
          unfold mayS mayE at hm
          simp only [Bool.and_eq_false_iff, decide_eq_false_iff_not] at hm
          have H6 : (¬ 1 ≤ oid) ∨ (1 ≤ oid ∧ ¬ oid ≤ 16384) ∨ (1 ≤ oid ∧ oid ≤ 16384 ∧ ¬ 265 ≤ page) ∨ (1 ≤ oid ∧ oid ≤ 16384 ∧ 265 ≤ page ∧ ¬ page < 1024) ∨ (1 ≤ oid ∧ oid ≤ 16384 ∧ 265 ≤ page ∧ page < 1024 ∧ ¬ 0 ≤ slot) ∨ (1 ≤ oid ∧ oid ≤ 16384 ∧ 265 ≤ page ∧ page < 1024 ∧ 0 ≤ slot ∧ ¬ slot ≤ 65535) := by omega
          clear hq9 ST hm
          rcases H6 with m1 | ⟨m1, m2⟩ | ⟨m1, m2, m3⟩ | ⟨m1, m2, m3, m4⟩ | ⟨m1, m2, m3, m4, m5⟩ | ⟨m1, m2, m3, m4, m5, m6⟩
          all_goals go_upto_region 15 with fail
          all_goals (try clear m2)
          all_goals (try clear m3)
          all_goals (try clear m4)
          all_goals (try clear m5)
          all_goals (try clear m6)
          all_goals clear m1
          all_goals go_upto_region 16 with (go_at_call 11; refine STX.mono ?_; rintro e w10 ⟨rfl, hX⟩; clear STX)
          all_goals have GX := GI.out _ _ hX.out
          all_goals have hX10 := hX
          all_goals clear hX GI
          all_goals (
            have G11 := GX
            have EN10 := Lib.hid (fun (W : World) (h : TX w W 130 (c + 2) db sb tb E L) => EN.out W _ _ (by have := C0.out; omega) h)
            have GO10 := Lib.hid (fun (W : World) (h : TX w W 130 (c + 2) db sb tb E L) (hne : other ≠ oid) => h.getN HWO.out (p := po) (s := so) (b := bo) (HO10.out hne).1 (HO10.out hne).2.1 (HO10.out hne).2.2)
            clear EN
            go_upto_region 17 with (go_at_call 10; refine G11.mono ?_; rintro e w11 ⟨rfl, hq11⟩; clear G11)
            clear hX10
            go_upto_region 21 with fail
            by_cases hne : other = oid
            · clear GO10
              go_upto_region 26 with (go_at_call 12; refine (EN10.out _ hq11.out).mono ?_; rintro e w13 ⟨r2, rfl, hq13⟩)
              clear EN10 hq11
              obtain ⟨b, hb0, F2, hF2, hbF, hzz⟩ := hq13.out
              have GF := hF2.getN HWI.out rfl rfl hbF
              by_cases hr2 : r2 = 0
              · obtain rfl := hb0 hr2
                obtain ⟨hrange, hnone⟩ := hzz hr2
                subst hr2
                have C2 := Lib.hid (fun (W : World) (h : TX w W 130 (c + 2 + 2) db sb tb F2 L) => tclear_no h HWI.out (fun _ => hnone))
                rw [if_pos hrange] at C2
                have WK := Lib.hid (fun (W : World) (h : TX w W 130 (c + 2 + 2) db sb tb F2 L) => works_in h.be)
                clear hq13 hF2 hbF hzz hb0 hnone
                generalize pgO (Ez F2 oid) = pz at GF
                generalize slO (Ez F2 oid) = sz at GF
                go_upto_region 27 with (go_at_call 10; refine GF.mono ?_; rintro e w14 ⟨rfl, hq14⟩; clear GF)
                go_wp2_with (first
                  | (go_at_call 12; refine (C2.out _ hq14.out).mono ?_; rintro e w15 ⟨rfl, hq15⟩)
                  | (go_at_call 6; refine (WK.out _ hq15.out).mono ?_; rintro e w16 ⟨rfl, hq16⟩))
                go_ret
                exact ⟨rfl, hq16⟩
              · have hr3 : ¬ (r2 : Int) = 0 := by omega
                have WK := Lib.hid (fun (W : World) (h : TX w W 130 (c + 2 + 2) db sb tb F2 L) => works_in h.be)
                clear hq13 hF2 hbF hzz hb0 hr2
                generalize pgO (Ez F2 oid) = pz at GF
                generalize slO (Ez F2 oid) = sz at GF
                go_upto_region 27 with (go_at_call 10; refine GF.mono ?_; rintro e w14 ⟨rfl, hq14⟩; clear GF)
                go_wp2_with (go_at_call 6; refine (WK.out _ hq14.out).mono ?_; rintro e w16 ⟨rfl, hq16⟩)
                go_ret
                exact ⟨rfl, hq16⟩
            · have G12 := GO10.out _ hq11.out hne
              clear GO10
              go_upto_region 25 with (go_at_call 10; refine G12.mono ?_; rintro e w12 ⟨rfl, hq12⟩; clear G12)
              go_upto_region 26 with (go_at_call 12; refine (EN10.out _ hq12.out).mono ?_; rintro e w13 ⟨r2, rfl, hq13⟩)
              clear EN10 hq11 hq12
              obtain ⟨b, hb0, F2, hF2, hbF, hzz⟩ := hq13.out
              have GF := hF2.getN HWI.out rfl rfl hbF
              by_cases hr2 : r2 = 0
              · obtain rfl := hb0 hr2
                obtain ⟨hrange, hnone⟩ := hzz hr2
                subst hr2
                have C2 := Lib.hid (fun (W : World) (h : TX w W 130 (c + 2 + 2) db sb tb F2 L) => tclear_no h HWI.out (fun _ => hnone))
                rw [if_pos hrange] at C2
                have WK := Lib.hid (fun (W : World) (h : TX w W 130 (c + 2 + 2) db sb tb F2 L) => works_in h.be)
                clear hq13 hF2 hbF hzz hb0 hnone
                generalize pgO (Ez F2 oid) = pz at GF
                generalize slO (Ez F2 oid) = sz at GF
                go_upto_region 27 with (go_at_call 10; refine GF.mono ?_; rintro e w14 ⟨rfl, hq14⟩; clear GF)
                go_wp2_with (first
                  | (go_at_call 12; refine (C2.out _ hq14.out).mono ?_; rintro e w15 ⟨rfl, hq15⟩)
                  | (go_at_call 6; refine (WK.out _ hq15.out).mono ?_; rintro e w16 ⟨rfl, hq16⟩))
                go_ret
                exact ⟨rfl, hq16⟩
              · have hr3 : ¬ (r2 : Int) = 0 := by omega
                have WK := Lib.hid (fun (W : World) (h : TX w W 130 (c + 2 + 2) db sb tb F2 L) => works_in h.be)
                clear hq13 hF2 hbF hzz hb0 hr2
                generalize pgO (Ez F2 oid) = pz at GF
                generalize slO (Ez F2 oid) = sz at GF
                go_upto_region 27 with (go_at_call 10; refine GF.mono ?_; rintro e w14 ⟨rfl, hq14⟩; clear GF)
                go_wp2_with (go_at_call 6; refine (WK.out _ hq14.out).mono ?_; rintro e w16 ⟨rfl, hq16⟩)
                go_ret
                exact ⟨rfl, hq16⟩)
end Go.Tb
set_option maxHeartbeats 1600000
namespace Go.Proofs.YthejkfnigalniabGreatDoor
open Go.ChangeShapes Go.WideShapes Go.ChangeAt Go.RowKit Go.Tb
theorem own : ownKnob Tryz.prog.godebug = none := by kernel_rfl
noncomputable def wit (os : Os) : World := World.laidAll Tryz.prog os Rows.tableOneRow.laid
theorem wit_os (os : Os) : (wit os).os = os := World.laidAll_os _ _ _
theorem laid_met (os : Os) (args : Array Value) : laidMetH Tryz.prog Rows.tableOneRow.laid ((wit os).forCall (fun _ _ => 0) ⟨#[], args, []⟩).memory := by
  rw [MakeChecks.laidMetH_plain _ _ _ (by kernel_rfl)]
  have h : laidMet Tryz.prog Rows.tableOneRow.laid (wit os) := laidMet_of_run' 8 (by kernel_rfl) (by kernel_rfl)
  exact h.of_heap (by simp [World.memory, World.forCall, Input.heap])
theorem laidOut : laidOutB Tryz.prog = true := by kernel_rfl
theorem read22 : Tryz.prog.readableRec 22 = true := by kernel_rfl
theorem lt22 : 22 < Tryz.prog.types.size := of_decide_eq_true (by kernel_rfl)
theorem tableOne_lifted (os : Os) (started : os.Started) (H : Type) (enc : TypeId × Value → H) :
    ReturnsInHanded {} Tryz.checked os 3 .any (fun w args => (Rows.tableOneSpec.pre enc Tryz.prog Tryz.f3 Rows.tableOneRow.domain false w args ∧ laidMetH Tryz.prog Rows.tableOneRow.laid w) ∧ sizedMet enc Tryz.prog Tryz.f3 (OpenSpec.ofChange Rows.tableOneSpec) false w args)
      (Rows.tableOneSpec.post enc Tryz.prog Tryz.f3 false true false false) := by
  refine returnsInHanded_of_change_and (C := Tryz.checked) (X := fun w _ => laidMetH Tryz.prog Rows.tableOneRow.laid w) (fun _ _ _ hh h => h.of_heap hh) own started (by kernel_rfl) Tryz.func3
    (ChangeSpec.witness_shaped (enc := enc) (C := Tryz.checked) (os := os) (X := fun w _ => laidMetH Tryz.prog Rows.tableOneRow.laid w) false (wit os) #[.slice none 0 0, .int .i64 0, .int .i64 0, .int .i64 0, .int .i64 0] 8 (wit_os os)
      (World.shaped_of_ZipB (by kernel_rfl) (by kernel_rfl)) (by kernel_rfl) (by kernel_rfl) (by kernel_rfl) (laid_met os _)) ?_
  intro W base args ds gs before hval0 hW hc _ hL _
  have hval : ∀ (j : Nat) t v, Tryz.f3.params[j]? = some t → args[j]? = some v → Value.okWide Tryz.prog W .any base t v := hval0
  have hW' := hW
  obtain ⟨p, q, hA0, hV, rfl, _, _⟩ := hW
  have hA : DataW.TrodAll enc Tryz.prog W 0 (fun _ => true) true Tryz.f3.params.toList args.toList ds p := hA0
  rw [Tryz.params3] at hA hval
  obtain ⟨v0, vs0, d0, ds0, p0, q0, hargs, rfl, rfl, h0, r0⟩ := trodAll_cons hA
  obtain ⟨v1, vs1, d1, ds1, p1, q1, ha1, rfl, rfl, h1, r1⟩ := trodAll_cons r0
  obtain ⟨v2, vs2, d2, ds2, p2, q2, ha2, rfl, rfl, h2, r2⟩ := trodAll_cons r1
  obtain ⟨v3, vs3, d3, ds3, p3, q3, ha3, rfl, rfl, h3, r3⟩ := trodAll_cons r2
  obtain ⟨v4, vs4, d4, ds4, p4, q4, ha4, rfl, rfl, h4, r4⟩ := trodAll_cons r3
  obtain ⟨rfl, rfl, rfl⟩ := trodAll_nil r4
  subst ha4
  subst ha3
  subst ha2
  subst ha1
  obtain rfl : args = #[v0, v1, v2, v3, v4] := by cases args; simp_all
  obtain ⟨x1, rfl, rfl, rfl, w1⟩ := open_int Tryz.underlying3 (hval 1 3 v1 rfl rfl) h1
  obtain ⟨x2, rfl, rfl, rfl, w2⟩ := open_int Tryz.underlying3 (hval 2 3 v2 rfl rfl) h2
  obtain ⟨x3, rfl, rfl, rfl, w3⟩ := open_int Tryz.underlying3 (hval 3 3 v3 rfl rfl) h3
  obtain ⟨x4, rfl, rfl, rfl, w4⟩ := open_int Tryz.underlying3 (hval 4 3 v4 rfl rfl) h4
  obtain ⟨rfl, rfl⟩ := trodVars_none hV
  simp only [List.append_nil, List.nil_append] at hW'
  have hlt : ∀ y ∈ p0, y.block < W.heap.size := fun y hy => by simpa using hW'.lt y hy
  obtain ⟨a0, n0, c0, rfl⟩ := okWide_slice Tryz.underlying22 (hval 0 22 v0 rfl rfl)
  have h0c := h0
  obtain ⟨nf, hf0⟩ := h0c
  obtain ⟨l, v, e0, hl⟩ := open_ops _ _ _ hf0
  have e1 : [Value.slice a0 n0 c0] = [v] := e0
  injection e1 with e1 _
  subst e1
  refine (law3_ok W hl w1 w2).mono fun e W' ⟨he, hb⟩ => ?_
  subst he
  exact ⟨_, rfl, [d0, .lit (.int .i64 x1), .lit (.int .i64 x2), .lit (.int .i64 x3), .lit (.int .i64 x4)], [], _, [], _, [], hW', trodAll_mk1 (shut_bool Tryz.underlying4 _),
    (trodAll_cons_mk (Below.trod laidOut read22 lt22 h0 hb.out hlt) (trodAll_cons_mk (shut_int Tryz.underlying3 w1) (trodAll_cons_mk (shut_int Tryz.underlying3 w2) (trodAll_cons_mk (shut_int Tryz.underlying3 w3) (trodAll_cons_mk (shut_int Tryz.underlying3 w4) trodAll_mk0))))), rfl, hb.out.frame _, fun h => by cases h⟩
theorem tableOne_row : Rows.TableOneSaid :=
  OpenClaim.holds_of_wide 3 Tryz.f3 rfl rfl rfl rfl rfl rfl rfl ⟨rfl, rfl, rfl, rfl, rfl⟩ rfl rfl rfl rfl rfl (by kernel_rfl) Tryz.func3 (by kernel_rfl)
    (of_decide_eq_true (by kernel_rfl)) (by unfold Func.isWrapper; first | (rw [if_pos (by decide +kernel)]; kernel_rfl) | (rw [if_neg (by decide +kernel)]; exact ⟨rfl, rfl⟩))
    (fun os started H enc _ => tableOne_lifted os started H enc)
theorem tableOne_holds : Rows.TableOneCardSaid :=
  Claim7.holds_tied_plain_at .later [] _ _ _ _ tableOne_row (fun _ h => by cases h) (by kernel_rfl) (fun _ h => by cases h) tableOne_row_tie rfl ⟨rfl, rfl⟩ (by kernel_rfl) rfl
    (fun f fn hf hfn => by
      obtain rfl : f = 3 := Option.some.inj ((show Tryz.prog.funcNamed "aumbry/aumbrylaw11.TableOne" = some 3 by kernel_rfl).symm.trans hf) |>.symm
      obtain rfl : fn = Tryz.f3 := (Option.some.inj (Tryz.func3.symm.trans hfn)).symm
      exact ⟨by kernel_rfl, fun j t ht => by
        rw [Tryz.params3] at ht
        have hm : t ∈ [22, 3, 3, 3, 3] := by simpa using Array.mem_of_getElem? ht
        have hall : ([22, 3, 3, 3, 3].all fun u => !Tryz.prog.wantsStandIn u) = true := by kernel_rfl
        exact (show Tryz.prog.wantsStandIn t = false by simpa using List.all_eq_true.1 hall t hm)⟩)
    (by kernel_rfl)
end Go.Proofs.YthejkfnigalniabGreatDoor
