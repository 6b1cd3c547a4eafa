/- ShadowPublishes: whatever is written, dropped, published or taken back, at each step a second space over what lasts holds just what was published, and at the end the space holds what was written. Conditions: none. -/
import Derived.Test.YthejkfnigalniaaGreatDoorWaM
import Derived.Test.YthejkfnigalniaaGreatDoorRows
import Derived.ChangeArms
import Derived.Lib.SmallJoins
import Derived.Test.YthejkfnigalniaaGreatDoorCards
import Derived.Test.YthejkfnigalniaaGreatDoorTie
import Derived.ProofKit
import Derived.OpenShut
import Derived.LaidMore
import Derived.Lay
import Derived.SevenTiedAt
import Derived.Stop.Joined
import Derived.Carry
import Derived.LaidEql
set_option linter.unusedVariables false
set_option linter.unusedSimpArgs false
set_option maxRecDepth 100000
set_option maxHeartbeats 800000
namespace Go.Tb
open Go Go.RowKit Go.Proofs Go.Maps Go.Sp
structure OpD where
  k : Int
  p : Int
  t : Int
  ba : Option Addr
  bn : Nat
  bc : Nat
  ka : Option Addr
  kn : Nat
  kc : Nat
  b : Bs
  l : List Int
def OpD.v (o : OpD) : Value := opV o.k o.p (.slice o.ba o.bn o.bc) (.slice o.ka o.kn o.kc) o.t
structure OpOK (w : World) (o : OpD) : Prop where
  p : o.p ≤ 9223372036854775807
  b : ∀ W', Below w.heap.size w W' → RV W' (.slice o.ba o.bn o.bc) o.b
  kn : o.ka = none → o.kn = 0 ∧ o.kc = 0
  l : ∀ W', Below w.heap.size w W' → IR W' (.slice o.ka o.kn o.kc) o.l
theorem OpOK.len {w : World} {o : OpD} (h : OpOK w o) : o.bn = o.b.length ∧ o.kn = o.l.length := by
  obtain ⟨a, c, e, _⟩ := h.b w (Below.refl _ _)
  obtain ⟨a', c', e', _⟩ := h.l w (Below.refl _ _)
  injection e with _ e _
  injection e' with _ e' _
  exact ⟨e, e'⟩
theorem world_does {w W : World} {db sb wb : Nat} {s : Sp} {now last wanted : St} {torn : Bool} {N k : Nat} {o : OpD} (h : WL w W db sb wb s now last wanted torn) (hI : WI N k s now last wanted torn) (hk : k ≤ 100) (hB : By now ∧ By last ∧ By wanted) (ho : OpOK w o) (h1 : o.b.length ≤ 1024) (h2 : o.l.length ≤ 200) (h6 : o.k ≠ 6) (h7 : o.k ≠ 7) :
    Calls Tryz.prog 36 #[.pointer (some ⟨wb, 0, none⟩), o.v] W (DoesW w db wb N k (o.k ≠ 6 ∧ o.k ≠ 7 ∧ s.c.d.Al)) := by
  obtain ⟨kd, p, t, ba, bn, bc, ka, kn, kc, b, l⟩ := o
  simp only at h1 h2 h6 h7
  unfold OpD.v
  simp only
  have up : ∀ {A B : Prop} {e : Ending} {W' : World}, (B → A) → DoesW w db wb N k A e W' → DoesW w db wb N k B e W' := fun hab hd => ⟨hd.1, Lib.hid (by
    obtain ⟨_, _, _, _, _, _, q1, q2, q3, q4⟩ := hd.2.out
    exact ⟨_, _, _, _, _, _, q1, q2, q3, fun b => q4 (hab b)⟩)⟩
  by_cases e0 : kd = 0
  · subst e0; exact (world_read h hI hk hB).mono fun e W1 hq => up (fun b => b.2.2) hq
  by_cases e1 : kd = 1
  · subst e1; exact (world_write h hI hk hB ho.b (Nat.le_trans h1 (by decide))).mono fun e W1 hq => up (fun b => b.2.2) hq
  by_cases e2 : kd = 2
  · subst e2; exact (world_drop h hI hk hB).mono fun e W1 hq => up (fun b => b.2.2) hq
  by_cases e3 : kd = 3
  · subst e3; exact (world_commit h hI hk hB ho.b (Nat.le_trans h1 (by decide))).mono fun e W1 hq => up (fun b => b.2.2) hq
  by_cases e4 : kd = 4
  · subst e4; exact (world_abort h hI hk hB).mono fun e W1 hq => up (fun b => b.2.2) hq
  by_cases e5 : kd = 5
  · subst e5; exact (world_evict h hI hk hB ho.p).mono fun e W1 hq => up (fun b => b.2.2) hq
  exact (world_else h hI hk hB ⟨e0, e1, e2, e3, e4, e5, h6, h7⟩).mono fun e W1 hq => up (fun b => b.2.2) hq
structure OpsV (w : World) (v : Value) (l : List OpD) : Prop where
  r : ∃ a c, v = .slice a l.length c ∧ (0 < l.length → ∃ g o, a = some ⟨g, o, none⟩ ∧ ∀ W', Below w.heap.size w W' → ∀ i od, l[i]? = some od → W'.cell? ⟨g, o + i * 5, none⟩ = some (.int .i64 od.k) ∧ W'.cell? ⟨g, o + i * 5 + 1, none⟩ = some (.int .i64 od.p) ∧ W'.cell? ⟨g, o + i * 5 + 2, none⟩ = some (.slice od.ba od.bn od.bc) ∧ W'.cell? ⟨g, o + i * 5 + 3, none⟩ = some (.slice od.ka od.kn od.kc) ∧ W'.cell? ⟨g, o + i * 5 + 4, none⟩ = some (.int .i64 od.t))
  ok : ∀ od ∈ l, OpOK w od
def great (o : OpD) : Bool := decide (1024 < o.b.length) || decide (200 < o.l.length)
def vast (l : List OpD) : Bool := decide (80 < l.length) || l.any great
theorem vast_ok {w W : World} {v : Value} {l : List OpD} (h : OpsV w v l) (hb : Below w.heap.size w W) :
    Calls Tryz.prog 34 #[v] W fun e W' => e = .returned (.bool (vast l)) ∧ W' = W := by
  obtain ⟨a, c, rfl, hr⟩ := h.r
  obtain ⟨n, hn⟩ : ∃ n, l.length = n := ⟨_, rfl⟩
  obtain ⟨q, hq⟩ : ∃ q, vast l = q := ⟨_, rfl⟩
  rw [hq]
  rw [hn] at hr ⊢
  have HQ := Lib.hid hq
  have HN := Lib.hid hn
  have HOK := Lib.hid h.ok
  have HB := Lib.hid hb
  clear h hq hb
  by_cases hg : 80 < n
  · have i1 : (80 : Int) < (n : Int) := by omega
    have hq : q = true := by rw [← HQ.out]; unfold vast; rw [HN.out, decide_eq_true hg]; rfl
    have HQ2 := Lib.hid hq
    clear hr hq hn
    go_enter Tryz.func34, Tryz.ntmps34
    go_wp2
    go_ret
    exact ⟨by rw [HQ2.out]; rfl, rfl⟩
  · have i1 : ¬ (80 : Int) < (n : Int) := by omega
    have HR := Lib.hid hr
    clear hr hn
    go_enter Tryz.func34, Tryz.ntmps34
    go_upto_region 4 with fail
    go_loopw [3] (fun u wr => ∃ k : Nat, u = .int .i64 (k : Int) ∧ k ≤ n ∧ wr = W ∧ Hid ((l.drop k).any great = q)) (fun u _ => n - (Go.RowKit.intOf u).toNat)
    case atStart => exact ⟨0, rfl, Nat.zero_le _, rfl, Lib.hid (by rw [← HQ.out]; unfold vast; rw [HN.out, decide_eq_false hg]; rfl)⟩
    case round =>
      obtain ⟨k, rfl, hk, rfl, hI⟩ := hrel
      by_cases e : k < n
      · have j1 : (k : Int) < (n : Int) := by omega
        have j0 : (0 : Int) ≤ (k : Int) := by omega
        have hk2 : k < 2000001 := by omega
        obtain ⟨g, o, rfl, hcell⟩ := HR.out (by omega)
        obtain ⟨od, hod⟩ : ∃ od, l[k]? = some od := ⟨_, List.getElem?_eq_getElem (by rw [HN.out]; exact e)⟩
        obtain ⟨c0, c1, c2, c3, c4⟩ := hcell _ HB.out k od hod
        have l0 := cell_lt' c0
        have hlen := (HOK.out od (List.mem_of_getElem? hod)).len
        have hdr : (l.drop k).any great = (great od || (l.drop (k + 1)).any great) := by
          obtain ⟨h1, h2⟩ := List.getElem?_eq_some_iff.1 hod
          rw [List.drop_eq_getElem_cons h1, h2]; rfl
        have HD := Lib.hid hdr
        obtain ⟨kd, p, t, ba, bn, bc, ka, kn, kc, b, ll⟩ := od
        simp only at c0 c1 c2 c3 c4 hlen
        obtain ⟨e1, e2⟩ := hlen
        have HE := Lib.hid (And.intro e1 e2)
        clear hcell hod hdr e1 e2 c0 c1 c4
        by_cases hx : 1024 < bn
        · have i2 : (1024 : Int) < (bn : Int) := by omega
          have hqf : q = true := by
            have := hI.out
            rw [HD.out] at this
            rw [← this]
            unfold great
            simp only
            rw [← HE.out.1, decide_eq_true hx]; rfl
          have HQ2 := Lib.hid hqf
          clear hqf
          go_wp2
          go_ret
          exact ⟨by rw [HQ2.out]; rfl, rfl⟩
        · have i2 : ¬ (1024 : Int) < (bn : Int) := by omega
          by_cases hy : 200 < kn
          · have i3 : (200 : Int) < (kn : Int) := by omega
            have hqf : q = true := by
              have := hI.out
              rw [HD.out] at this
              rw [← this]
              unfold great
              simp only
              rw [← HE.out.2, decide_eq_true hy]; simp
            have HQ2 := Lib.hid hqf
            clear hqf
            go_wp2
            go_ret
            exact ⟨by rw [HQ2.out]; rfl, rfl⟩
          · have i3 : ¬ (200 : Int) < (kn : Int) := by omega
            have hqf : (l.drop (k + 1)).any great = q := by
              have := hI.out
              rw [HD.out] at this
              rw [← this]
              unfold great
              simp only
              rw [← HE.out.1, ← HE.out.2, decide_eq_false hx, decide_eq_false hy]; simp
            have HQ2 := Lib.hid hqf
            clear hqf
            go_wp2
            exact ⟨⟨k + 1, rfl, by omega, by trivial, HQ2⟩, measT e⟩
      · have ek : k = n := by omega
        subst ek
        have j1 : ¬ (k : Int) < (k : Int) := by omega
        have hqf : q = false := by
          have := hI.out
          rw [List.drop_eq_nil_of_le (by rw [HN.out]; exact Nat.le_refl _)] at this
          exact this.symm
        have HQ2 := Lib.hid hqf
        clear hqf
        go_wp2
        go_ret
        exact ⟨by rw [HQ2.out]; rfl, rfl⟩
end Go.Tb
namespace Go.Tb
open Go Go.RowKit Go.Proofs Go.Maps Go.Sp
theorem stL_st0 : stL st0 = stZ := by
  have h1 : (List.range 1024).map (fun p => Value.bool (st0.on p)) = List.replicate 1024 (.bool false) := by
    rw [List.eq_replicate_iff]; exact ⟨by simp, fun x hx => by obtain ⟨p, _, rfl⟩ := List.mem_map.1 hx; rfl⟩
  have h2 : (List.range 1024).map (fun p => Value.string (txt (st0.b p))) = List.replicate 1024 (.string ⟨#[]⟩) := by
    rw [List.eq_replicate_iff]; exact ⟨by simp, fun x hx => by obtain ⟨p, _, rfl⟩ := List.mem_map.1 hx; rfl⟩
  unfold stL stZ
  rw [h1, h2, List.append_assoc]
  rfl
theorem wc_start (db sb : Nat) : WC (W33 (.pointer (some ⟨db, 0, none⟩)) (.pointer (some ⟨sb, 0, none⟩)) stZ stZ stZ false) db sb st0 st0 st0 false := by
  have hl : stZ.length = 2049 := by rw [← stL_st0]; exact stL_len _
  unfold W33
  refine ⟨by simp [hl], by simp, by simp, fun j v hj => ?_, fun j v hj => ?_, fun j v hj => ?_, ?_⟩
  all_goals simp only [List.getElem?_toArray]
  · have := stL_lt hj
    rw [stL_st0] at hj
    rw [List.append_assoc, List.append_assoc, List.append_assoc, List.getElem?_append_right (by simp), List.getElem?_append_left (by simp [hl] <;> omega)]
    simp only [List.length_cons, List.length_nil]
    rw [show 2 + j - (0 + 1 + 1) = j by omega]; exact hj
  · have := stL_lt hj
    rw [stL_st0] at hj
    rw [List.append_assoc, List.append_assoc, List.getElem?_append_right (by simp [hl] <;> omega), List.getElem?_append_left (by simp [hl] <;> omega)]
    simp only [List.length_append, List.length_cons, List.length_nil, hl]
    rw [show 2051 + j - (0 + 1 + 1 + 2049) = j by omega]; exact hj
  · have := stL_lt hj
    rw [stL_st0] at hj
    rw [List.append_assoc, List.getElem?_append_right (by simp [hl] <;> omega), List.getElem?_append_left (by simp [hl] <;> omega)]
    simp only [List.length_append, List.length_cons, List.length_nil, hl]
    rw [show 4100 + j - (0 + 1 + 1 + 2049 + 2049) = j by omega]; exact hj
  · rw [List.getElem?_append_right (by simp [hl])]
    simp [hl]
theorem By.start : By st0 := ⟨fun p y hy => by simp [st0] at hy, fun y hy => by simp [st0] at hy⟩
theorem WL.start {w : World} {N F : Nat} (hN : 16 ≤ N ∧ N ≤ 4096) (hF : 2 ≤ F ∧ F ≤ 1024) :
    Calls Tryz.prog 9 #[.int .i64 (N : Int), .int .i64 (F : Int)] w fun e w' => ∃ wb, e = .returned (.pointer (some ⟨wb, 0, none⟩)) ∧ Hid (∃ db sb, WL w w' db sb wb (sp0 N F) st0 st0 st0 false) := by
  refine (start_ok hN hF).mono ?_
  rintro e w' ⟨wb, rfl, hq⟩
  obtain ⟨γ, db, sb, g1, g2, g3, g4, g5, g6⟩ := hq.out
  exact ⟨wb, rfl, Lib.hid ⟨db, sb, γ, ⟨g1, g2, g6⟩, g3, ⟨Tag.new g5 g4, by have := γ.hB; omega, _, g4, wc_start db sb⟩⟩⟩
theorem WI.off {N k : Nat} {s : Sp} {now last wanted : St} {torn : Bool} (h : WI N k s now last wanted torn) : WI N (k + 1) (s.withC { s.c with d := { s.c.d with dead := true } }) now last wanted torn :=
  { hN := h.hN, hN2 := h.hN2, ok := ⟨⟨⟨h.ok.c.d.S, h.ok.c.d.P⟩, h.ok.c.dom, h.ok.c.inj⟩, h.ok.M, h.ok.own, h.ok.pg, h.ok.at'⟩, clk := by have := h.clk; show s.c.clk ≤ _; omega, P := by have := h.P; show s.c.d.P.length ≤ _; omega,
    dead := fun _ => (by
      cases e : s.c.d.dead with
      | true => exact h.dead e
      | false =>
        obtain ⟨hI, hF, hO⟩ := h.live e
        exact stay_dead h.hN hI.stay hF _ _),
    live := fun hd => by cases hd }
theorem WL.be {w W : World} {db sb wb : Nat} {s : Sp} {now last wanted : St} {torn : Bool} (h : WL w W db sb wb s now last wanted torn) : Below w.heap.size w W := by obtain ⟨γ, g, _⟩ := h; exact g.2.2
end Go.Tb
namespace Go.Tb
open Go Go.RowKit Go.Proofs Go.Maps Go.Sp
def SecV (w : World) (v : Value) (N : Nat) (S : Nat → Bs) : Prop := ∃ g o c, v = .slice (some ⟨g, o, none⟩) N c ∧ g < w.heap.size ∧ ∀ s, s < N → ∃ u, w.cell? ⟨g, o + s, none⟩ = some u ∧ RV w u (S s)
def SecN (base : Nat) (w : World) (v : Value) (N : Nat) (S : Nat → Bs) : Prop := ∃ g c, v = .slice (some ⟨g, 0, none⟩) N N ∧ base ≤ g ∧ w.heap[g]? = some (.cells c 37 (0, 0)) ∧ c.size = N ∧ ∀ s, s < N → ∃ u, c[s]? = some u ∧ RN base w u (S s)
theorem SecN.v {base : Nat} {w : World} {v : Value} {N : Nat} {S : Nat → Bs} (h : SecN base w v N S) : SecV w v N S := by
  obtain ⟨g, c, rfl, h1, h2, h3, h4⟩ := h
  refine ⟨g, 0, N, rfl, (Array.getElem?_eq_some_iff.1 h2).1, fun s hs => ?_⟩
  obtain ⟨u, q1, q2⟩ := h4 s hs
  exact ⟨u, by simp [World.cell?, h2, q1], q2.rv⟩
theorem SecV.keep {w w' : World} {v : Value} {N : Nat} {S : Nat → Bs} (h : SecV w v N S) (hb : Below w.heap.size w w') : SecV w' v N S := by
  obtain ⟨g, o, c, e, h1, h2⟩ := h
  exact ⟨g, o, c, e, Nat.lt_of_lt_of_le h1 hb.size, fun s hs => by obtain ⟨u, q1, q2⟩ := h2 s hs; exact ⟨u, cells_below hb _ _ q1, q2.keep hb⟩⟩
theorem mk46 (N : Nat) (hN : N ≤ 4096) (w : World) : (Instr.makeSlice 46 (.int .i64 (N : Int)) (.int .i64 (N : Int))).run Tryz.prog w = .ok (.slice (some ⟨w.heap.size, 0, none⟩) N N) (w.alloc (.cells (Array.replicate N (.slice none 0 0)) 37)) := by
  obtain ⟨i, hi, h1, h2, h3⟩ := i37
  have := run_makeSlice (P := Tryz.prog) w 46 37 i _ Tryz.underlying46 hi h3 .i64 .i64 (N : Int) (N : Int) (by omega) (by omega) (by rw [h1]; simp [maxLen]; omega) (by rw [h2]; simp [maxLen]; omega) (by omega)
  rw [this, h1]
  have e1 : madeCells (Value.slice none 0 0).cells ((N : Int).toNat * 1) = Array.replicate N (.slice none 0 0) := by
    simp [madeCells, Value.cells]
    apply Array.ext
    · simp
    · intro i h1 h2; simp [Nat.mod_one]
  rw [e1]
  simp
structure ClI (w wr : World) (N : Nat) (S : Nat → Bs) (k : Nat) : Prop where
  be : Below w.heap.size w wr
  r : ∃ c, wr.heap[w.heap.size]? = some (.cells c 37 (0, 0)) ∧ c.size = N ∧ ∀ s, s < k → ∃ u, c[s]? = some u ∧ RN w.heap.size wr u (S s)
theorem ClI.next {w wr w' : World} {N : Nat} {S : Nat → Bs} {k : Nat} {v : Value} (h : ClI w wr N S k) (hk : k < N) (hb : Below wr.heap.size wr w') (hv : RN wr.heap.size w' v (S k)) : (w'.cell? ⟨w.heap.size, k, none⟩).isSome = true ∧ w'.frozen? ⟨w.heap.size, k, none⟩ = false ∧ ClI w (w'.setCell ⟨w.heap.size, k, none⟩ v) N S (k + 1) := by
  obtain ⟨c, h1, h2, h3⟩ := h.r
  have l1 := (Array.getElem?_eq_some_iff.1 h1).1
  have h1' := (hb.block _ l1).trans h1
  have hset : (w'.setCell ⟨w.heap.size, k, none⟩ v).heap[w.heap.size]? = some (.cells (c.setIfInBounds k v) 37 (0, 0)) := by
    unfold World.setCell
    simp only [Array.getElem?_modify]
    rw [h1']
    simp
  have keep : ∀ {u : Value} {bs : Bs}, RN w.heap.size w' u bs → RN w.heap.size (w'.setCell ⟨w.heap.size, k, none⟩ v) u bs := fun {u bs} hr => by
    obtain ⟨a, cc, e, hx, hr⟩ := hr
    refine ⟨a, cc, e, hx, fun hp => ?_⟩
    obtain ⟨g, o, r, cs, f1, f2, f3, f4⟩ := hr hp
    have hne : g ≠ w.heap.size := fun e => by
      rw [e, h1'] at f3
      injection f3 with f3
      injection f3 with _ f3
      cases f3
    have hbk : (w'.setCell ⟨w.heap.size, k, none⟩ v).heap[g]? = w'.heap[g]? := heap_setCell_other _ _ _ _ hne
    exact ⟨g, o, r, cs, f1, f2, hbk.trans f3, fun j x hj => (cell_of_heap (a := ⟨g, o + j, none⟩) hbk).1.trans (f4 j x hj)⟩
  refine ⟨by simp [World.cell?, h1', Array.getElem?_eq_getElem (show k < c.size by omega)], by simp [World.frozen?, h1'], ⟨?_, c.setIfInBounds k v, hset, by simp [h2], fun s hs => ?_⟩⟩
  · have hbb := h.be.trans (hb.mono h.be.size)
    exact ⟨hbb.os, hbb.tape, hbb.output, by simpa [World.setCell] using hbb.size, fun j hj => (heap_setCell_other _ _ _ _ (show j ≠ w.heap.size by omega)).trans (hbb.block j hj)⟩
  · by_cases e : s = k
    · subst e
      exact ⟨v, aset_same _ _ (by omega), keep (hv.mono h.be.size)⟩
    · obtain ⟨u, q1, q2⟩ := h3 s (by omega)
      exact ⟨u, (aset _ _ (by omega)).trans q1, keep (q2.keep hb)⟩
theorem clones_ok {w : World} {v : Value} {N : Nat} {S : Nat → Bs} (h : SecV w v N S) (hS : ∀ s, (S s).length ≤ 1048576) (hN : N ≤ 4096) :
    Calls Tryz.prog 73 #[v] w fun e w' => ∃ v', e = .returned v' ∧ Hid (SecN w.heap.size w' v' N S ∧ Below w.heap.size w w') := by
  have HSV := Lib.hid h
  have MK := mk46 N hN w
  obtain ⟨g, o, c, rfl, hg, hc⟩ := h
  have HI0 : Hid (ClI w (w.alloc (.cells (Array.replicate N (.slice none 0 0)) 37)) N S 0) := Lib.hid ⟨Below.alloc (Below.refl _ _) (Nat.le_refl _) _, _, (Go.MapKept.heap_alloc w _).1, by simp, fun s hs => absurd hs (Nat.not_lt_zero _)⟩
  obtain ⟨C, hC⟩ : ∃ C, Array.replicate N (Value.slice none 0 0) = C := ⟨_, rfl⟩
  rw [hC] at MK HI0
  have HS := Lib.hid hS
  clear hC hc hS
  go_enter Tryz.func73, Tryz.ntmps73
  go_upto_region 3 with fail
  generalize hnb : w.heap.size = nb at MK ⊢
  have HNB := Lib.hid hnb
  clear hnb
  go_loopw [11] (fun u wr => ∃ k : Nat, u = .int .i64 (k : Int) ∧ k ≤ N ∧ Hid (ClI w wr N S k)) (fun u _ => N - (Go.RowKit.intOf u).toNat)
  case atStart => exact ⟨0, rfl, Nat.zero_le _, HI0⟩
  case round =>
    obtain ⟨k, rfl, hk, hI⟩ := hrel
    by_cases e : k < N
    · have j1 : (k : Int) < (N : Int) := by omega
      have j0 : (0 : Int) ≤ (k : Int) := by omega
      have hk2 : k < 2000001 := by omega
      obtain ⟨g', o', c', e1, hg', hcell⟩ := HSV.out.keep hI.out.be
      injection e1 with e1 e2n e3
      clear e2n e3
      injection e1 with e1
      injection e1 with e1 e2 _
      subst e1 e2
      obtain ⟨u, q1, q2⟩ := hcell k e
      obtain ⟨ua, uc, rfl⟩ := q2.len
      have CL := (clone_x q2 (HS.out k)).mono (R' := fun e w' => ∃ a' n' c', e = .returned (.slice a' n' c') ∧ (w'.cell? ⟨nb, k, none⟩).isSome = true ∧ w'.frozen? ⟨nb, k, none⟩ = false ∧ Hid (ClI w (w'.setCell ⟨nb, k, none⟩ (.slice a' n' c')) N S (k + 1))) fun e1 w' ⟨⟨v', h1, h2⟩, h3⟩ => by
        obtain ⟨a', c', hv'⟩ := h2.rv.len
        subst hv'
        obtain ⟨f1, f2, f3⟩ := hI.out.next e h3 h2
        rw [HNB.out] at f1 f2 f3
        exact ⟨a', _, c', h1, f1, f2, Lib.hid f3⟩
      have lq := cell_lt' q1
      clear hcell hI q2
      go_wp2_with (go_at_call 58; refine CL.mono ?_; rintro e w9 ⟨a9, n9, c9, rfl, hs9, hz9, hq9⟩; obtain ⟨u9, hu9⟩ := Option.isSome_iff_exists.1 hs9; have lu9 := cell_lt' hu9)
      exact ⟨⟨k + 1, rfl, by omega, hq9⟩, measT e⟩
    · have ek : k = N := by omega
      subst ek
      have j1 : ¬ (k : Int) < (k : Int) := by omega
      have HF : Hid (SecN w.heap.size wr (.slice (some ⟨nb, 0, none⟩) k k) k S ∧ Below w.heap.size w wr) := Lib.hid (by
        obtain ⟨c, h1, h2, h3⟩ := hI.out.r
        exact ⟨⟨nb, c, rfl, Nat.le_of_eq HNB.out, by rw [← HNB.out]; exact h1, h2, h3⟩, hI.out.be⟩)
      clear hI
      go_wp2_with fail
      go_ret
      exact ⟨_, rfl, HF⟩
end Go.Tb
namespace Go.Tb
open Go Go.RowKit Go.Proofs Go.Maps Go.Sp
theorem image_ok {γ : Gh} {w : World} {db : Nat} {d : Dk} (H : DkV γ w db d) (hok : d.Ok) :
    Calls Tryz.prog 23 #[.pointer (some ⟨db, 0, none⟩)] w fun e w' => ∃ v, e = .returned v ∧ Hid (SecN w.heap.size w' v d.N d.S ∧ Below w.heap.size w w') := by
  obtain ⟨sa, so, c, c0, t0, b0, l0, z0, r0⟩ := H.d0
  have CL := clones_ok (w := w) (v := .slice (some ⟨sa, so, none⟩) d.N c) (N := d.N) (S := d.S) ⟨sa, so, c, rfl, l0, fun s hs => by obtain ⟨v, q1, q2⟩ := r0 s hs; exact ⟨v, q1, q2.rv⟩⟩ (fun s => by rcases hok.S s with h | h <;> rw [h] <;> decide) H.hN
  have ld := cell_lt' c0
  generalize d.N = N at *
  generalize d.S = S at *
  clear r0 H hok
  go_enter Tryz.func23, Tryz.ntmps23
  go_wp2_with (go_at_call 73; refine CL.mono ?_; rintro e w5 ⟨v5, rfl, hq5⟩)
  go_ret
  exact ⟨_, rfl, hq5⟩
theorem odd_ok (a : Option Addr) (n c : Nat) (hn : n = 256 ∨ n = 0) (w : World) : Calls Tryz.prog 70 #[.slice a n c] w fun e w' => e = .returned (.bool false) ∧ w' = w := by
  rcases hn with rfl | rfl
  · go_enter Tryz.func70, Tryz.ntmps70
    go_wp2
    go_ret
    exact ⟨rfl, rfl⟩
  · go_enter Tryz.func70, Tryz.ntmps70
    go_wp2
    go_ret
    exact ⟨rfl, rfl⟩
theorem index135 {w : World} {v : Value} {N : Nat} {S : Nat → Bs} (h : SecV w v N S) (hS : ∀ s, (S s).length = 256 ∨ S s = []) (hN : N ≤ 4096) :
    Calls Tryz.prog 135 #[v, .func (.func 70) #[] #[]] w fun e w' => e = .returned (.int .i64 (-1)) ∧ w' = w := by
  obtain ⟨g, o, c, rfl, hg, hc⟩ := h
  have HC := Lib.hid hc
  have HS := Lib.hid hS
  have EG := enters_of' Tryz.func70 (by kernel_rfl) (by kernel_rfl)
  clear hc hS
  go_enter Tryz.func135, Tryz.ntmps135
  go_upto_region 2 with fail
  go_loopw [8] (fun u wr => ∃ k : Nat, u = .int .i64 (k : Int) ∧ k ≤ N ∧ wr = w) (fun u _ => N - (Go.RowKit.intOf u).toNat)
  case atStart => exact ⟨0, rfl, Nat.zero_le _, rfl⟩
  case round =>
    obtain ⟨k, rfl, hk, rfl⟩ := hrel
    by_cases e : k < N
    · have j1 : (k : Int) < (N : Int) := by omega
      have j0 : (0 : Int) ≤ (k : Int) := by omega
      have hk2 : k < 2000001 := by omega
      obtain ⟨u, q1, q2⟩ := HC.out k e
      obtain ⟨ua, uc, rfl⟩ := q2.len
      have OD := odd_ok ua (S k).length uc (by rcases HS.out k with h | h; exact .inl h; rw [h]; exact .inr rfl) wr
      have lq := cell_lt' q1
      clear q2
      generalize (S k).length = m at *
      go_wp2_with fail
      refine OD.mono ?_
      rintro e w6 ⟨rfl, hw6⟩
      subst w6
      go_wp2_with fail
      exact ⟨⟨k + 1, rfl, by omega, by trivial⟩, measT e⟩
    · have ek : k = N := by omega
      subst ek
      have j1 : ¬ (k : Int) < (k : Int) := by omega
      go_wp2_with fail
      go_ret
      exact ⟨rfl, rfl⟩
end Go.Tb
namespace Go.Tb
open Go Go.RowKit Go.Proofs Go.Maps Go.Sp
theorem contains72 {w : World} {v : Value} {N : Nat} {S : Nat → Bs} (h : SecV w v N S) (hS : ∀ s, (S s).length = 256 ∨ S s = []) (hN : N ≤ 4096) :
    Calls Tryz.prog 72 #[v, .func (.func 70) #[] #[]] w fun e w' => e = .returned (.bool false) ∧ w' = w := by
  have IX := index135 h hS hN
  obtain ⟨g, o, c, rfl, hg, hc⟩ := h
  clear hc
  go_enter Tryz.func72, Tryz.ntmps72
  go_wp2_with (go_at_call 135; refine IX.mono ?_; rintro e w5 ⟨rfl, hw5⟩; subst w5)
  go_ret
  exact ⟨rfl, rfl⟩
theorem load_ok {told : Nat → Option TypeId} {w : World} {v : Value} {N : Nat} {S : Nat → Bs} (ht : ∀ k T, told k = some T → k < w.heap.size) (h : SecV w v N S) (hS : ∀ s, (S s).length = 256 ∨ S s = []) (hN : 16 ≤ N ∧ N ≤ 4096) :
    Calls Tryz.prog 17 #[v] w fun e w' => ∃ db, e = .returned (.tuple #[.pointer (some ⟨db, 0, none⟩), .int .i64 0]) ∧ Hid (∃ γ : Gh, (γ.B = w.heap.size ∧ γ.lim = w.heap.size ∧ γ.lim ≤ w'.heap.size ∧ γ.told = told) ∧ DkV γ w' db ⟨N, S, [], false, 0, 0⟩ ∧ Below w.heap.size w w') := by
  have RI := right_ok (N : Int) w
  rw [show decide (16 ≤ (N : Int) ∧ (N : Int) ≤ 4096) = true by rw [decide_eq_true_iff]; omega] at RI
  have CT := contains72 h hS hN.2
  have CL := (clones_ok h (fun s => by rcases hS s with h | h <;> rw [h] <;> decide) hN.2).mono (R' := fun e w' => ∃ g, e = .returned (.slice (some ⟨g, 0, none⟩) N N) ∧ Hid (SecN w.heap.size w' (.slice (some ⟨g, 0, none⟩) N N) N S ∧ Below w.heap.size w w')) fun e w' ⟨v', h1, h2⟩ => by
    obtain ⟨g, c, rfl, _⟩ := h2.out.1
    exact ⟨g, h1, h2⟩
  obtain ⟨g, o, c, rfl, hg, hc⟩ := h
  have HN := Lib.hid hN
  have HTO := Lib.hid ht
  clear hc hS hN ht
  go_enter Tryz.func17, Tryz.ntmps17
  go_wp2_with (first
    | (go_at_call 71; refine RI.mono ?_; rintro e w5 ⟨rfl, hw5⟩; subst w5)
    | (go_at_call 72; refine CT.mono ?_; rintro e w5 ⟨rfl, hw5⟩; subst w5)
    | (go_at_call 73; refine CL.mono ?_; rintro e w6 ⟨g6, rfl, hq6⟩))
  refine take_last ?_
  intro W9 hW9
  have hb6 := hq6.out.2
  have hb9 : Below w6.heap.size w6 W9 := hW9 ▸ Below.alloc (Below.refl _ _) (Nat.le_refl _) _
  have hk : W9.heap[w6.heap.size]? = some (.cells #[.slice (some ⟨g6, 0, none⟩) N N, .slice none 0 0, .bool false, .int .i64 0, .int .i64 0] 111 (0, 0)) := hW9 ▸ (Go.MapKept.heap_alloc w6 _).1
  have HF : Hid (∃ γ : Gh, (γ.B = w.heap.size ∧ γ.lim = w.heap.size ∧ γ.lim ≤ W9.heap.size ∧ γ.told = told) ∧ DkV γ W9 w6.heap.size ⟨N, S, [], false, 0, 0⟩ ∧ Below w.heap.size w W9) := Lib.hid (by
    have hbw : Below w.heap.size w W9 := Below.up hb6 hb9
    obtain ⟨g', c', e1, f1, f2, f3, f4⟩ := hq6.out.1
    injection e1 with e1 _ _
    injection e1 with e1
    injection e1 with e1 _ _
    subst e1
    have lg := (Array.getElem?_eq_some_iff.1 f2).1
    have f2' := (hb9.block _ lg).trans f2
    refine ⟨⟨w.heap.size, w.heap.size, told, Nat.le_refl _, HTO.out⟩, ⟨rfl, rfl, hbw.size, rfl⟩, ⟨Tag.new hb6.size hk, hb6.size, HN.out.2, Nat.zero_le _, fun o _ => by simp [World.frozen?, hk], ⟨g6, 0, N, by simp [World.cell?, hk], Tag.new f1 f2', f1, Nat.lt_of_lt_of_le lg hb9.size, fun s _ => by simp [World.frozen?, f2'], fun s hs => ?_⟩, ⟨.slice none 0 0, [], by simp [World.cell?, hk], PeV.nil _ _ _⟩, by simp [World.cell?, hk], by simp [World.cell?, hk], ⟨0, by simp [World.cell?, hk], fun _ => rfl⟩⟩, hbw⟩
    obtain ⟨u, q1, q2⟩ := f4 s hs
    exact ⟨u, by simp [World.cell?, f2', q1], (q2.keep hb9).rb (γ := ⟨w.heap.size, w.heap.size, told, Nat.le_refl _, HTO.out⟩) (Nat.le_refl _)⟩)
  clear hb6 hb9 hk hq6 hW9
  go_ret2
  exact ⟨_, rfl, HF⟩
end Go.Tb
namespace Go.Tb
open Go Go.RowKit Go.Proofs Go.Maps Go.Sp
def Q1 (w W : World) (db wb N k : Nat) : Prop := ∃ sb s now last wanted torn, WL w W db sb wb s now last wanted torn ∧ WI N k s now last wanted torn ∧ (By now ∧ By last ∧ By wanted) ∧ s.c.d.Al
def Q2 (w W : World) (db wb N k : Nat) (v : Value) : Prop := ∃ sb s now last wanted torn, WL w W db sb wb s now last wanted torn ∧ WI N k s now last wanted torn ∧ (By now ∧ By last ∧ By wanted) ∧ s.c.d.Al ∧ SecV W v N s.c.d.S
def Q3 (w W : World) (db wb N k d2 : Nat) : Prop := ∃ sb s now last wanted torn W0, WL w W0 db sb wb s now last wanted torn ∧ WI N k s now last wanted torn ∧ (By now ∧ By last ∧ By wanted) ∧ s.c.d.Al ∧
  ∃ γ : Gh, γ.B = W0.heap.size ∧ γ.lim ≤ W.heap.size ∧ Below W0.heap.size W0 W ∧ Tag γ W wb 33 ∧ DkV γ W d2 (imgDk N s.c.d.S)
def Q4 (w W : World) (db wb N k t : Nat) : Prop := ∃ sb s now last wanted torn W0, WL w W0 db sb wb s now last wanted torn ∧ WI N k s now last wanted torn ∧ (By now ∧ By last ∧ By wanted) ∧ s.c.d.Al ∧
  ∃ (γ : Gh) (d2 : Nat), γ.B = W0.heap.size ∧ γ.lim ≤ W.heap.size ∧ Below W0.heap.size W0 W ∧ Tag γ W wb 33 ∧ SpV γ W t d2 (opened (imgDk N s.c.d.S) 2 s.r)
section
variable {w W : World} {db wb N k : Nat}
theorem Q1.c0 (h : Q1 w W db wb N k) : W.cell? ⟨wb, 0, none⟩ = some (.pointer (some ⟨db, 0, none⟩)) := by
  obtain ⟨sb, s, now, last, wanted, torn, ⟨γ, _, _, hw⟩, _⟩ := h
  exact hw.c0
theorem Q1.does {o : OpD} (h : Q1 w W db wb N k) (hk : k ≤ 100) (h6 : o.k ≠ 6) (h7 : o.k ≠ 7) (ho : OpOK w o) (h1 : o.b.length ≤ 1024) (h2 : o.l.length ≤ 200) :
    Calls Tryz.prog 36 #[.pointer (some ⟨wb, 0, none⟩), o.v] W fun e W' => e = .returned (.bool true) ∧ Hid (Q1 w W' db wb N (k + 1)) := by
  obtain ⟨sb, s, now, last, wanted, torn, hW, hI, hB, hA⟩ := h
  refine (world_does hW hI hk hB ho h1 h2 h6 h7).mono ?_
  rintro e W' ⟨rfl, hq⟩
  obtain ⟨sb', s', now', last', wanted', torn', q1, q2, q3, q4⟩ := hq.out
  exact ⟨rfl, Lib.hid ⟨_, _, _, _, _, _, q1, q2, q3, q4 ⟨h6, h7, hA⟩⟩⟩
theorem Q1.more (h : Q1 w W db wb N k) : Q1 w W db wb N (k + 1) := by
  obtain ⟨sb, s, now, last, wanted, torn, hW, hI, hB, hA⟩ := h
  exact ⟨_, _, _, _, _, _, hW, hI.more, hB, hA⟩
theorem Q1.image (h : Q1 w W db wb N k) : Calls Tryz.prog 23 #[.pointer (some ⟨db, 0, none⟩)] W fun e W' => ∃ v, e = .returned v ∧ Hid (Q2 w W' db wb N k v) := by
  obtain ⟨sb, s, now, last, wanted, torn, hW, hI, hB, hA⟩ := h
  have hW0 := hW
  obtain ⟨γ, g, hs, hw⟩ := hW
  have hdk : DkV γ W db s.c.d := by obtain ⟨cb, rb, ob, kb, HU, HK⟩ := hs; exact HU.ca.dk'
  refine (image_ok hdk hI.ok.c.d).mono ?_
  rintro e W' ⟨v, rfl, hq⟩
  refine ⟨v, rfl, Lib.hid ⟨_, _, _, _, _, _, hW0.below hq.out.2, hI, hB, hA, ?_⟩⟩
  have := hq.out.1.v
  rwa [hI.hN] at this
theorem Q2.load {v : Value} (h : Q2 w W db wb N k v) : Calls Tryz.prog 17 #[v] W fun e W' => ∃ d2, e = .returned (.tuple #[.pointer (some ⟨d2, 0, none⟩), .int .i64 0]) ∧ Hid (Q3 w W' db wb N k d2) := by
  obtain ⟨sb, s, now, last, wanted, torn, hW, hI, hB, hA, hS⟩ := h
  have hW0 := hW
  obtain ⟨γ, g, hs, hw⟩ := hW
  have lw := hw.lt
  have tw := hw.tg
  refine (load_ok (told := fun j => if j = wb then some 33 else none) (fun j T hj => ?_) hS hI.ok.c.d.S (by have := hI.hN2; omega)).mono ?_
  · by_cases e : j = wb
    · rw [e]; exact lw
    · rw [if_neg e] at hj; cases hj
  rintro e W' ⟨d2, rfl, hq⟩
  obtain ⟨γ2, ⟨g1, g2, g3, g4⟩, hd2, hb⟩ := hq.out
  refine ⟨d2, rfl, Lib.hid ⟨_, _, _, _, _, _, _, hW0, hI, hB, hA, γ2, g1, g3, hb, ?_, hd2⟩⟩
  have hk : kindOf W' wb = kindOf W wb := kindOf_same (hb.block wb lw)
  have hne : kindOf W' wb ≠ some 139 := fun e => by
    unfold Tag Gh.kind at tw
    rw [← hk, if_pos e] at tw
    cases tw
  unfold Tag Gh.kind
  rw [if_neg hne, g4]
  dsimp only
  rw [if_pos rfl]
  rfl
theorem Q3.open {d2 : Nat} (h : Q3 w W db wb N k d2) : Calls Tryz.prog 19 #[.pointer (some ⟨d2, 0, none⟩), .int .i64 2] W fun e W' => ∃ t, e = .returned (.tuple #[.pointer (some ⟨t, 0, none⟩), .int .i64 0]) ∧ Hid (Q4 w W' db wb N k t) := by
  obtain ⟨sb, s, now, last, wanted, torn, W0, hW, hI, hB, hA, γ, g1, g2, hb, tw, hd⟩ := h
  obtain ⟨o1, o2, o3⟩ := hI.publishes hA (F := 2) (by omega) (by omega)
  have hok : (imgDk N s.c.d.S).Ok := ⟨hI.ok.c.d.S, fun p hp => by simp [imgDk] at hp⟩
  have hN := hI.hN2
  have lw : wb < W.heap.size := by
    obtain ⟨γ0, _, _, hw⟩ := hW
    exact Nat.lt_of_lt_of_le hw.lt hb.size
  have OS := open_s (F := 2) hd g2 hok (by simp [imgDk]) (by show 1 ≤ N; omega) rfl (by omega) (open_bind rfl (by omega) o1)
  refine OS.mono ?_
  rintro e W' ⟨t, rfl, hq⟩
  obtain ⟨q1, q2, q3⟩ := hq.out
  exact ⟨t, rfl, Lib.hid ⟨_, _, _, _, _, _, _, hW, hI, hB, hA, γ, d2, g1, Nat.le_trans g2 q2.size, hb.trans (g1 ▸ q2.be), q2.tg wb 33 (by decide) lw tw, q1⟩⟩
theorem Q4.holds {t : Nat} (h : Q4 w W db wb N k t) : Calls Tryz.prog 48 #[.pointer (some ⟨wb, 2051, none⟩), .pointer (some ⟨t, 0, none⟩)] W fun e W' => e = .returned (.bool true) ∧ Hid (Q1 w W' db wb N k) := by
  obtain ⟨sb, s, now, last, wanted, torn, W0, hW, hI, hB, hA, γ, d2, g1, g2, hb, tw, hs⟩ := h
  obtain ⟨o1, o2, o3⟩ := hI.publishes hA (F := 2) (by omega) (by omega)
  have hx : SR W wb 2051 last := by
    obtain ⟨γ0, _, _, hw⟩ := hW
    exact ⟨fun j v hj => cells_below hb _ _ (hw.rl.r j v hj)⟩
  refine (holds_ok hs o2 ⟨by show 0 + 2100 < _; decide, by show ([] : List (Nat × Bs)).length + 2100 < _; decide⟩ g2 tw hx hB.2.1.b hB.2.1.mt).mono ?_
  rintro e W' ⟨rfl, hq⟩
  rw [o3]
  exact ⟨rfl, Lib.hid ⟨_, _, _, _, _, _, hW.below (hb.trans (g1 ▸ hq.out.2.be)), hI, hB, hA⟩⟩
end
end Go.Tb
namespace Go.Tb
open Go Go.RowKit Go.Proofs Go.Maps Go.Sp
theorem nb_kind (X : World) (x : St) (b0 : Bs) : kindOf (((X.alloc (.cells Tryz.zeroCells31 31)).setCells X.heap.size 0 (stL x)).setCell ⟨X.heap.size, 2048, none⟩ (.string (txt b0))) X.heap.size = some 31 := by
  rw [kindOf_set (nb_made X x b0).c2.1]
  have hk := (Go.MapKept.heap_alloc X (.cells Tryz.zeroCells31 31)).1
  generalize X.alloc (.cells Tryz.zeroCells31 31) = X1 at *
  obtain ⟨c', g1, g2, g3⟩ := setCells_block (stL x) 0 X1 Tryz.zeroCells31 31 (0, 0) hk (by rw [stL_len, z31]; omega)
  simp [kindOf, g1]
theorem Q1.own {w X : World} {db wb N k : Nat} (h : Q1 w X db wb N k) (hk : k ≤ 100) : ∃ sb now mt, X.cell? ⟨wb, 1, none⟩ = some (.pointer (some ⟨sb, 0, none⟩)) ∧ SR X wb 2 now ∧ X.cell? ⟨wb, 4099, none⟩ = some (.string (txt mt)) ∧
    ∀ X3, Below X.heap.size X X3 → SR X3 X.heap.size 0 (now.named mt) → kindOf X3 X.heap.size = some 31 →
      Calls Tryz.prog 48 #[.pointer (some ⟨X.heap.size, 0, none⟩), .pointer (some ⟨sb, 0, none⟩)] X3 fun e W' => e = .returned (.bool true) ∧ Hid (Below w.heap.size w W') := by
  obtain ⟨sb, s, now, last, wanted, torn, ⟨γ, g, hs, hw⟩, hI, hB, hA⟩ := h
  refine ⟨sb, now, last.mt, hw.c1, hw.rn, hw.rl.mt, fun X3 hb hx hkd => ?_⟩
  have hl3 : X.heap.size < X3.heap.size := by
    have := cell_lt' hx.mt
    simpa using this
  have hle : Gh.Le X γ (γ.addK X.heap.size X3.heap.size X.heap.size 33 g.2.1 hb.size) := Gh.addK_le g.2.1 hb.size
  generalize hγ : γ.addK X.heap.size X3.heap.size X.heap.size 33 g.2.1 hb.size = γ' at hle
  have hBB : γ'.B = γ.B := by rw [← hγ]; rfl
  have st : Step γ' (fun _ => false) X X3 := Step.belowB hb (by rw [hBB]; exact Nat.le_trans γ.hB g.2.1)
  have hs3 := (hs.more hle).stay st
  have tt : Tag γ' X3 X.heap.size 33 := Tag.told (by rw [← hγ]; exact if_pos ⟨Nat.le_refl _, hl3, rfl⟩) (by rw [hkd]; simp)
  refine (holds_ok hs3 hI.ok ⟨by have := hI.clk; omega, by have := hI.P; omega⟩ (by rw [← hγ]; exact Nat.le_refl _) tt hx hB.1.b hB.2.1.mt).mono ?_
  rintro e W' ⟨rfl, hq⟩
  rw [hI.ended hA]
  exact ⟨rfl, Lib.hid (g.2.2.trans (by rw [← g.1, ← hBB]; exact st.be.trans hq.out.2.be))⟩
end Go.Tb
namespace Go.Tb
open Go Go.RowKit Go.Proofs Go.Maps Go.Sp
theorem law8_ok (w : World) (a : Nat) (ha : a < 256) (f : Int) {v : Value} {l : List OpD} (hl : OpsV w v l) :
    Calls Tryz.prog 8 #[.int .u8 (a : Int), .int .i64 f, v] w fun e w' => e = .returned (.bool true) ∧ Hid (Below w.heap.size w w') := by
  have VS := vast_ok hl (Below.refl _ _)
  have hl' := Lib.hid hl
  obtain ⟨oa, oc, hv, hr⟩ := hl.r
  subst hv
  obtain ⟨n, hnn⟩ : ∃ n, l.length = n := ⟨_, rfl⟩
  rw [hnn] at VS
  cases hva : vast l with
  | true =>
    rw [hva] at VS
    have WK := works_ok w
    rw [hnn]
    clear hl hr hnn
    go_enter Tryz.func8, Tryz.ntmps8
    go_wp2_with (first
      | (go_at_call 34; refine VS.mono ?_; rintro e w5 ⟨rfl, hw5⟩; subst w5)
      | (go_at_call 13; refine WK.mono ?_; rintro e w6 ⟨rfl, hq6⟩))
    go_ret
    exact ⟨rfl, hq6⟩
  | false =>
    rw [hva] at VS
    have hn80 : n ≤ 80 := by
      by_cases h : 80 < n
      · unfold vast at hva
        rw [hnn, decide_eq_true h] at hva
        cases hva
      · omega
    have hgr : ∀ od ∈ l, od.b.length ≤ 1024 ∧ od.l.length ≤ 200 := fun od hod => by
      unfold vast at hva
      rw [Bool.or_eq_false_iff, List.any_eq_false] at hva
      have := hva.2 od hod
      unfold great at this
      simp at this
      omega
    obtain ⟨N, hN⟩ : ∃ N, 16 + a % 65 = N := ⟨_, rfl⟩
    have hN2 : 16 ≤ N ∧ N ≤ 80 := by omega
    have f1 : 16 + (a : Int) % 65 = (N : Int) := by omega
    have FR := frames_ok f w
    have hF := frm_in f
    have WI0 := Lib.hid (WI.start N (frm f) (by omega) (by omega))
    generalize frm f = F at *
    have ST := (WL.start (w := w) (N := N) (F := F) (by omega) (by omega)).mono (R' := fun e w' => ∃ wb db, e = .returned (.pointer (some ⟨wb, 0, none⟩)) ∧ Hid (Q1 w w' db wb N 0)) fun e w' ⟨wb, h1, h2⟩ => by
      obtain ⟨db, sb, h⟩ := h2.out
      exact ⟨wb, db, h1, Lib.hid ⟨_, _, _, _, _, _, h, WI0.out, ⟨By.start, By.start, By.start⟩, ⟨rfl, rfl⟩⟩⟩
    have HV := Lib.hid (And.intro hnn (And.intro hr hgr))
    have HN := Lib.hid hN2
    rw [hnn]
    clear hl hr hnn hgr hN hva
    go_enter Tryz.func8, Tryz.ntmps8
    go_upto_region 7 with (first
      | (go_at_call 34; refine VS.mono ?_; rintro e w5 ⟨rfl, hw5⟩; subst w5)
      | (go_at_call 35; refine FR.mono ?_; rintro e w6 ⟨rfl, hw6⟩; subst w6)
      | (go_at_call 9; refine ST.mono ?_; rintro e w7 ⟨wb, db, rfl, hq7⟩))
    have HI0 : Hid (Q1 w w7 db wb N 0) := hq7
    clear VS FR ST WI0 hq7 f1 hF
    go_loopw [8] (fun u wr => ∃ k : Nat, u = .int .i64 (k : Int) ∧ k ≤ n ∧ Hid (Q1 w wr db wb N k)) (fun u _ => n - (Go.RowKit.intOf u).toNat)
    case atStart => exact ⟨0, rfl, Nat.zero_le _, HI0⟩
    case round =>
      obtain ⟨k, rfl, hk, hI⟩ := hrel
      by_cases e : k < n
      · have j1 : (k : Int) < (n : Int) := by omega
        have j0 : (0 : Int) ≤ (k : Int) := by omega
        have hk2 : k < 2000001 := by omega
        obtain ⟨g, o, rfl, hcell⟩ := HV.out.2.1 (by rw [HV.out.1]; omega)
        obtain ⟨od, hod⟩ : ∃ od, l[k]? = some od := ⟨_, List.getElem?_eq_getElem (by rw [HV.out.1]; exact e)⟩
        have hbe : Below w.heap.size w wr := by obtain ⟨_, _, _, _, _, _, hW, _⟩ := hI.out; exact hW.be
        obtain ⟨c0, c1, c2, c3, c4⟩ := hcell _ hbe k od hod
        have l0 := cell_lt' c0
        have hm := List.mem_of_getElem? hod
        have HOK := Lib.hid (hl'.out.ok od hm)
        by_cases e6 : od.k = 6
        · rw [e6] at c0
          clear hcell hod hm
          have HM := Lib.hid hI.out.more
          go_wp2_with fail
          exact ⟨⟨k + 1, rfl, by omega, HM⟩, measT e⟩
        by_cases e7 : od.k = 7
        · rw [e7] at c0
          clear hcell hod hm
          have HM := Lib.hid hI.out.more
          go_wp2_with fail
          exact ⟨⟨k + 1, rfl, by omega, HM⟩, measT e⟩
        have DW := (hI.out.does (by omega) e6 e7 HOK.out (HV.out.2.2 od hm).1 (HV.out.2.2 od hm).2).mono (R' := fun e w' => e = .returned (.bool true) ∧ w'.cell? ⟨wb, 0, none⟩ = some (.pointer (some ⟨db, 0, none⟩)) ∧ wb < w'.heap.size ∧ Hid (Q1 w w' db wb N (k + 1))) fun e w' ⟨h1, h2⟩ => ⟨h1, h2.out.c0, cell_lt' h2.out.c0, h2⟩
        have HM := Lib.hid hI.out.more
        have IM := Lib.hid (fun (W' : World) (h : Q1 w W' db wb N (k + 1)) => h.image)
        have LD := Lib.hid (fun (W' : World) (v : Value) (h : Q2 w W' db wb N (k + 1) v) => h.load)
        have OP := Lib.hid (fun (W' : World) (d2 : Nat) (h : Q3 w W' db wb N (k + 1) d2) => h.open)
        have HO := Lib.hid (fun (W' : World) (t : Nat) (h : Q4 w W' db wb N (k + 1) t) => h.holds)
        unfold OpD.v opV at DW
        clear hI hcell hod hm HOK hbe
        generalize od.k = ok at *
        generalize od.p = op at *
        generalize od.t = ot at *
        generalize od.ba = oba at *
        generalize od.bn = obn at *
        generalize od.bc = obc at *
        generalize od.ka = oka at *
        generalize od.kn = okn at *
        generalize od.kc = okc at *
        go_wp2_with (first
          | (go_at_call 36; refine DW.mono ?_; rintro e w9 ⟨rfl, hc9, hl9, hq9⟩)
          | (go_at_call 23; refine (IM.out _ hq9.out).mono ?_; rintro e w10 ⟨v10, rfl, hq10⟩)
          | (go_at_call 17; refine (LD.out _ _ hq10.out).mono ?_; rintro e w11 ⟨d11, rfl, hq11⟩)
          | (go_at_call 19; refine (OP.out _ _ hq11.out).mono ?_; rintro e w12 ⟨t12, rfl, hq12⟩)
          | (go_at_call 48; refine (HO.out _ _ hq12.out).mono ?_; rintro e w13 ⟨rfl, hq13⟩))
        all_goals exact ⟨⟨k + 1, rfl, by omega, by assumption⟩, measT e⟩
      · have ek : k = n := by omega
        subst ek
        have j1 : ¬ (k : Int) < (k : Int) := by omega
        obtain ⟨sb, now, mt, c1, L0, cm, HO⟩ := hI.out.own (by omega)
        have lw := cell_lt' c1
        have NB := nb_made wr now mt
        have KD := nb_kind wr now mt
        have WK := Lib.hid (fun (w' : World) (h : Below w.heap.size w w') => (works_ok w').mono (R' := fun e w2 => e = .returned (.bool true) ∧ Hid (Below w.heap.size w w2)) fun e w2 ⟨h1, h2⟩ => ⟨h1, Lib.hid (h.trans (h2.out.mono h.size))⟩)
        have OW := HO _ NB.b3 NB.r3 KD
        obtain ⟨nb, hnb⟩ : ∃ nb, wr.heap.size = nb := ⟨_, rfl⟩
        rw [hnb] at NB OW
        have S1 := Lib.hid NB.t1
        have L0 := Lib.hid L0
        obtain ⟨X1, hX1⟩ : ∃ X1, wr.alloc (.cells Tryz.zeroCells31 31) = X1 := ⟨_, rfl⟩
        rw [hX1] at NB OW
        obtain ⟨X2, hX2⟩ : ∃ X2, X1.setCells nb 0 (stL now) = X2 := ⟨_, rfl⟩
        rw [hX2] at NB OW
        obtain ⟨X3, hX3⟩ : ∃ X3, X2.setCell ⟨nb, 2048, none⟩ (.string (txt mt)) = X3 := ⟨_, rfl⟩
        rw [hX3] at NB OW
        have HX1 := Lib.hid hX1
        have HX2 := Lib.hid hX2
        have HX3 := Lib.hid hX3
        have cm2 := cells_below NB.b2 _ _ cm
        have lw2 := cell_lt' cm2
        have c13 := cells_below NB.b3 _ _ c1
        have lw3 := cell_lt' c13
        obtain ⟨c2a, c2z⟩ := NB.c2
        have lnb := cell_lt' c2a
        have HNB := Lib.hid hnb
        have HNB' := hnb
        clear hI HO KD NB hX1 hX2 hX3 hnb
        go_upto_region 17 with (first | ((with_reducible refine wpList_load31 (x := now) (o := 2) (wb := wb) ?_ ?_ ?_ ?_); (with_reducible rfl); (exact ⟨_, rfl, rfl⟩); (exact L0.out)) | ((with_reducible refine wpList_store31 (x := now) (o := 0) (wb := nb) ?_ ?_ ?_ ?_); (with_reducible rfl); (exact ⟨_, _, rfl, rfl, rfl⟩); (exact S1.out)))
        rw [HX1.out, HX2.out]
        go_upto_region 18 with fail
        rw [HX3.out]
        go_wp2_with (first
          | (go_at_call 48; refine OW.mono ?_; rintro e w10 ⟨rfl, hq10⟩)
          | (go_at_call 13; refine (WK.out _ hq10.out).mono ?_; rintro e w11 ⟨rfl, hq11⟩))
        go_ret
        exact ⟨rfl, hq11⟩
end Go.Tb
set_option maxHeartbeats 1600000
namespace Go.Tb
open Go Go.RowKit Go.Proofs Go.Maps Go.Sp Go.Proofs.YthejkfnigalniaaGreatDoor
section
variable {H : Type} {enc : TypeId × Value → H} {W : World} {sp : Nat → Bool}
theorem cellsOf73 : Tryz.prog.cellsOf 73 = 5 := by kernel_rfl
theorem cellsOf1 {t : TypeId} (h : t = 3 ∨ t = 5 ∨ t = 37 ∨ t = 42) : Tryz.prog.cellsOf t = 1 := by
  rcases h with rfl | rfl | rfl | rfl <;> kernel_rfl
theorem cells_get {a : Addr} {n : Nat} {cs : List Value} (h : W.cells? 0 a n = some cs) (hn : 0 < n) : a.spot = none ∧ ∀ j v, cs[j]? = some v → W.cell? ⟨a.block, a.off + j, none⟩ = some v := by
  unfold World.cells? at h
  rw [if_pos (Nat.zero_le _)] at h
  have hl := mapM_some_length h
  rw [List.length_range] at hl
  have hg : ∀ j v, cs[j]? = some v → W.cell? (a.add j) = some v := fun j v hj => by
    have hjl : j < n := by rw [← hl]; exact (List.getElem?_eq_some_iff.1 hj).1
    have := mapM_some_get h j j (by simp [hjl])
    rw [this]; exact hj
  obtain ⟨b, o, s⟩ := a
  have hs : s = none := by
    obtain ⟨v, hv⟩ : ∃ v, cs[0]? = some v := ⟨cs[0]'(by omega), List.getElem?_eq_getElem (by omega)⟩
    have h0 := hg 0 v hv
    cases s with
    | none => rfl
    | some k =>
      unfold World.cell? at h0
      simp only [Addr.add] at h0
      split at h0 <;> simp at h0
  subst hs
  refine ⟨rfl, fun j v hj => ?_⟩
  have := hg j v hj
  rw [show (⟨b, o, none⟩ : Addr).add j = ⟨b, o + j, none⟩ by unfold Addr.add; split <;> simp_all] at this
  exact this
def CellsAt (W : World) (b o : Nat) (vs : List Value) : Prop := ∀ j v, vs[j]? = some v → W.cell? ⟨b, o + j, none⟩ = some v
theorem rows_read {α : Type} {e : TypeId} {k : Nat} {E : α → List Value → Prop} {n : Nat} (hk : Tryz.prog.cellsOf e = k) (h0 : 0 < k)
    (hE : ∀ cs (y : DataW H × List MemPlace), DataW.trod enc Tryz.prog W 0 sp true n e cs = some y → ∃ x : α, E x cs) {a : Addr} {elems : List (DataW H × List MemPlace)} :
    ∀ m, m ≤ elems.length → (∀ i, i < elems.length → (W.cells? 0 (a.add (i * Tryz.prog.cellsOf e)) (Tryz.prog.cellsOf e)).bind (DataW.trod enc Tryz.prog W 0 sp true n e) = elems[i]?) →
    ∃ l : List α, l.length = m ∧ (0 < m → a.spot = none) ∧ ∀ i x, l[i]? = some x → ∃ vs, CellsAt W a.block (a.off + i * k) vs ∧ E x vs
  | 0, _, _ => ⟨[], rfl, fun h => absurd h (Nat.lt_irrefl _), fun i x hx => by simp at hx⟩
  | m + 1, hm, hel => by
    obtain ⟨l, h1, h2, h3⟩ := rows_read hk h0 hE m (by omega) hel
    obtain ⟨y, hy⟩ : ∃ y, elems[m]? = some y := ⟨elems[m]'(by omega), List.getElem?_eq_getElem (by omega)⟩
    have h := hel m (by omega)
    rw [hy, hk] at h
    obtain ⟨cs, hc, ht⟩ := Option.bind_eq_some_iff.1 h
    obtain ⟨x, hx⟩ := hE cs y ht
    obtain ⟨hs, hg⟩ := cells_get hc h0
    have hab : (a.add (m * k)).block = a.block ∧ (a.add (m * k)).off = a.off + m * k ∧ a.spot = none := by
      by_cases e0 : m * k = 0
      · have em : m = 0 := by
          rcases Nat.mul_eq_zero.1 e0 with e | e
          · exact e
          · omega
        unfold Addr.add at hs ⊢
        rw [if_pos e0] at hs ⊢
        exact ⟨rfl, by rw [e0]; rfl, hs⟩
      · unfold Addr.add
        rw [if_neg e0]
        exact ⟨rfl, rfl, h2 (Nat.pos_of_ne_zero fun e => e0 (by rw [e, Nat.zero_mul]))⟩
    refine ⟨l ++ [x], by rw [List.length_append, h1]; rfl, fun _ => hab.2.2, fun i x' hx' => ?_⟩
    by_cases hi : i < m
    · rw [List.getElem?_append_left (by omega)] at hx'
      exact h3 i x' hx'
    · rw [List.getElem?_append_right (by omega), h1] at hx'
      have : i = m := by
        have := (List.getElem?_eq_some_iff.1 hx').1
        simp at this
        omega
      subst this
      rw [Nat.sub_self] at hx'
      injection hx' with hx'
      subst hx'
      refine ⟨cs, fun j v hj => ?_, hx⟩
      have := hg j v hj
      rw [hab.1, hab.2.1] at this
      exact this
theorem row_open {α : Type} {t e : TypeId} {k : Nat} {E : α → List Value → Prop} {n : Nat} {cs : List Value} {x : DataW H × List MemPlace} (ht : Tryz.prog.underlying t = some (.slice e)) (hk : Tryz.prog.cellsOf e = k) (h0 : 0 < k)
    (h : DataW.trod enc Tryz.prog W 0 sp true (n + 1) t cs = some x) (hE : ∀ cs (y : DataW H × List MemPlace), DataW.trod enc Tryz.prog W 0 sp true n e cs = some y → ∃ x : α, E x cs) :
    ∃ (l : List α) (a : Option Addr) (c : Nat), cs = [.slice a l.length c] ∧ l.length ≤ c ∧ (a = none → l.length = 0 ∧ c = 0) ∧ (0 < l.length → ∃ b o, a = some ⟨b, o, none⟩ ∧ ∀ i x, l[i]? = some x → ∃ vs, CellsAt W b (o + i * k) vs ∧ E x vs) := by
  rcases DataW.trod_slice ht h with ⟨rfl, rfl⟩ | ⟨a, len, cap, elems, rest, n', hn, rfl, rfl, _, hlc, hcm, hel, hget, _, _⟩
  · exact ⟨[], none, 0, rfl, Nat.le_refl _, fun _ => ⟨rfl, rfl⟩, fun h => absurd h (Nat.lt_irrefl _)⟩
  · obtain rfl : n' = n := by omega
    obtain ⟨l, h1, h2, h3⟩ := rows_read hk h0 hE elems.length (Nat.le_refl _) (by rw [hel]; exact hget)
    refine ⟨l, some a, cap, by rw [h1, hel], by omega, (fun h => by cases h), fun hl => ?_⟩
    have hs := h2 (by rw [← h1]; exact hl)
    obtain ⟨b, o, s⟩ := a
    simp only at hs
    subst hs
    exact ⟨b, o, rfl, h3⟩
def U8E (x : Nat) (cs : List Value) : Prop := cs = [.int .u8 (x : Int)] ∧ x < 256
theorem open_u8 (n : Nat) (cs : List Value) (y : DataW H × List MemPlace) (h : DataW.trod enc Tryz.prog W 0 sp true n 5 cs = some y) : ∃ x, U8E x cs := by
  obtain ⟨k, rfl, _, hw⟩ := DataW.trod_int Tryz.underlying5 h
  have : 0 ≤ k ∧ k ≤ 255 := by simpa [Lit.wf, IntKind.min, IntKind.max, IntKind.signed, IntKind.bits] using hw
  exact ⟨k.toNat, by rw [show ((k.toNat : Nat) : Int) = k by omega], by omega⟩
def I64E (x : Int) (cs : List Value) : Prop := cs = [.int .i64 x]
theorem open_i64 (n : Nat) (cs : List Value) (y : DataW H × List MemPlace) (h : DataW.trod enc Tryz.prog W 0 sp true n 3 cs = some y) : ∃ x, I64E x cs := by
  obtain ⟨k, rfl, _, hw⟩ := DataW.trod_int Tryz.underlying3 h
  exact ⟨k, rfl⟩
theorem i64_wf {n : Int} (h : (Lit.int .i64 n).wf = true) : n ≤ 9223372036854775807 := by
  have : -9223372036854775808 ≤ n ∧ n ≤ 9223372036854775807 := by simpa [Lit.wf, IntKind.min, IntKind.max, IntKind.signed, IntKind.bits] using h
  exact this.2
theorem open_bytes (n : Nat) (cs : List Value) (y : DataW H × List MemPlace) (h : DataW.trod enc Tryz.prog W 0 sp true n 37 cs = some y) : ∃ (l : Bs) (a : Option Addr) (c : Nat), cs = [.slice a l.length c] ∧ ∀ W', Below W.heap.size W W' → RV W' (.slice a l.length c) l := by
  cases n with
  | zero => simp [DataW.trod] at h
  | succ n =>
    obtain ⟨l, a, c, rfl, hlc, _, hrow⟩ := row_open (E := U8E) Tryz.underlying37 (cellsOf1 (t := 5) (by simp)) (by decide) h (open_u8 n)
    refine ⟨l, a, c, rfl, fun W' hb => ⟨a, c, rfl, ⟨fun x hx => ?_, hlc⟩, fun hp => ?_⟩⟩
    · obtain ⟨i, hi, rfl⟩ := List.getElem_of_mem hx
      obtain ⟨b, o, e, hr⟩ := hrow (by omega)
      obtain ⟨vs, _, _, h3⟩ := hr i _ (List.getElem?_eq_getElem hi)
      exact h3
    · obtain ⟨b, o, e, hr⟩ := hrow hp
      have hc : ∀ (j x : Nat), l[j]? = some x → W.cell? ⟨b, o + j, none⟩ = some (.int .u8 (x : Int)) := fun j x hj => by
        obtain ⟨vs, h1, h2, _⟩ := hr j x hj
        rw [h2] at h1
        have := h1 0 _ rfl
        rw [Nat.mul_one, Nat.add_zero] at this
        exact this
      obtain ⟨x0, hx0⟩ : ∃ x, l[0]? = some x := ⟨_, List.getElem?_eq_getElem hp⟩
      exact ⟨b, o, e, Nat.lt_of_lt_of_le (cell_lt' (hc 0 x0 hx0)) hb.size, fun j x hj => cells_below hb _ _ (hc j x hj)⟩
theorem open_ints (n : Nat) (cs : List Value) (y : DataW H × List MemPlace) (h : DataW.trod enc Tryz.prog W 0 sp true n 42 cs = some y) : ∃ (l : List Int) (a : Option Addr) (c : Nat), cs = [.slice a l.length c] ∧ (a = none → l.length = 0 ∧ c = 0) ∧ ∀ W', Below W.heap.size W W' → IR W' (.slice a l.length c) l := by
  cases n with
  | zero => simp [DataW.trod] at h
  | succ n =>
    obtain ⟨l, a, c, rfl, hlc, hnn, hrow⟩ := row_open (E := I64E) Tryz.underlying42 (cellsOf1 (t := 3) (by simp)) (by decide) h (open_i64 n)
    refine ⟨l, a, c, rfl, hnn, fun W' hb => ⟨a, c, rfl, fun hp => ?_⟩⟩
    obtain ⟨b, o, e, hr⟩ := hrow hp
    have hc : ∀ (j : Nat) (x : Int), l[j]? = some x → W.cell? ⟨b, o + j, none⟩ = some (.int .i64 x) := fun j x hj => by
      obtain ⟨vs, h1, h2⟩ := hr j x hj
      rw [show vs = _ from h2] at h1
      have := h1 0 _ rfl
      rw [Nat.mul_one, Nat.add_zero] at this
      exact this
    obtain ⟨x0, hx0⟩ : ∃ x, l[0]? = some x := ⟨_, List.getElem?_eq_getElem hp⟩
    exact ⟨b, o, e, Nat.lt_of_lt_of_le (cell_lt' (hc 0 x0 hx0)) hb.size, fun j x hj => cells_below hb _ _ (hc j x hj)⟩
def OpE (W : World) (x : OpD) (cs : List Value) : Prop := cs = [.int .i64 x.k, .int .i64 x.p, .slice x.ba x.bn x.bc, .slice x.ka x.kn x.kc, .int .i64 x.t] ∧ OpOK W x
theorem open_op (n : Nat) (cs : List Value) (y : DataW H × List MemPlace) (h : DataW.trod enc Tryz.prog W 0 sp true n 73 cs = some y) : ∃ x : OpD, OpE W x cs := by
  obtain ⟨xs, m, rfl, rfl, hl, hxs, hf⟩ := DataW.trod_struct Tryz.underlying73 h
  rw [cellsOf73] at hl
  have hxs : xs.length = 5 := hxs
  obtain ⟨c0, c1, c2, c3, c4, rfl⟩ : ∃ c0 c1 c2 c3 c4, cs = [c0, c1, c2, c3, c4] := by
    match cs, hl with
    | [c0, c1, c2, c3, c4], _ => exact ⟨c0, c1, c2, c3, c4, rfl⟩
  obtain ⟨y0, y1, y2, y3, y4, rfl⟩ : ∃ y0 y1 y2 y3 y4, xs = [y0, y1, y2, y3, y4] := by
    match xs, hxs with
    | [y0, y1, y2, y3, y4], _ => exact ⟨y0, y1, y2, y3, y4, rfl⟩
  have f0 : DataW.trod enc Tryz.prog W 0 sp true m 3 [c0] = some y0 := by
    have h : DataW.trod enc Tryz.prog W 0 sp true m 3 (([c0, c1, c2, c3, c4].drop 0).take (Tryz.prog.cellsOf 3)) = some y0 := hf 0 _ rfl
    rw [cellsOf1 (t := 3) (by simp)] at h
    exact h
  have f1 : DataW.trod enc Tryz.prog W 0 sp true m 3 [c1] = some y1 := by
    have h : DataW.trod enc Tryz.prog W 0 sp true m 3 (([c0, c1, c2, c3, c4].drop 1).take (Tryz.prog.cellsOf 3)) = some y1 := hf 1 _ rfl
    rw [cellsOf1 (t := 3) (by simp)] at h
    exact h
  have f2 : DataW.trod enc Tryz.prog W 0 sp true m 37 [c2] = some y2 := by
    have h : DataW.trod enc Tryz.prog W 0 sp true m 37 (([c0, c1, c2, c3, c4].drop 2).take (Tryz.prog.cellsOf 37)) = some y2 := hf 2 _ rfl
    rw [cellsOf1 (t := 37) (by simp)] at h
    exact h
  have f3 : DataW.trod enc Tryz.prog W 0 sp true m 42 [c3] = some y3 := by
    have h : DataW.trod enc Tryz.prog W 0 sp true m 42 (([c0, c1, c2, c3, c4].drop 3).take (Tryz.prog.cellsOf 42)) = some y3 := hf 3 _ rfl
    rw [cellsOf1 (t := 42) (by simp)] at h
    exact h
  have f4 : DataW.trod enc Tryz.prog W 0 sp true m 3 [c4] = some y4 := by
    have h : DataW.trod enc Tryz.prog W 0 sp true m 3 (([c0, c1, c2, c3, c4].drop 4).take (Tryz.prog.cellsOf 3)) = some y4 := hf 4 _ rfl
    rw [cellsOf1 (t := 3) (by simp)] at h
    exact h
  obtain ⟨k, e0, _, _⟩ := DataW.trod_int Tryz.underlying3 f0
  obtain ⟨p, e1, _, hp⟩ := DataW.trod_int Tryz.underlying3 f1
  obtain ⟨b, ba, bc, e2, hb⟩ := open_bytes m _ _ f2
  obtain ⟨l, ka, kc, e3, hkn, hkl⟩ := open_ints m _ _ f3
  obtain ⟨t, e4, _, _⟩ := DataW.trod_int Tryz.underlying3 f4
  injection e0 with e0 _
  injection e1 with e1 _
  injection e2 with e2 _
  injection e3 with e3 _
  injection e4 with e4 _
  subst e0; subst e1; subst e2; subst e3; subst e4
  exact ⟨⟨k, p, t, ba, b.length, bc, ka, l.length, kc, b, l⟩, rfl, ⟨i64_wf hp, hb, hkn, hkl⟩⟩
theorem open_ops (n : Nat) (cs : List Value) (y : DataW H × List MemPlace) (h : DataW.trod enc Tryz.prog W 0 sp true n 68 cs = some y) : ∃ l v, cs = [v] ∧ OpsV W v l := by
  cases n with
  | zero => simp [DataW.trod] at h
  | succ n =>
    obtain ⟨l, a, c, rfl, hlc, _, hrow⟩ := row_open (E := OpE W) Tryz.underlying68 cellsOf73 (by decide) h (open_op n)
    refine ⟨l, _, rfl, ⟨a, c, rfl, fun hp => ?_⟩, fun od hod => ?_⟩
    · obtain ⟨b, o, e, hr⟩ := hrow hp
      refine ⟨b, o, e, fun W' hb i od hi => ?_⟩
      obtain ⟨vs, h1, h2, _⟩ := hr i od hi
      rw [h2] at h1
      have q := fun j v hj => cells_below hb _ _ (h1 j v hj)
      exact ⟨q 0 _ rfl, q 1 _ rfl, q 2 _ rfl, q 3 _ rfl, q 4 _ rfl⟩
    · obtain ⟨i, hi, rfl⟩ := List.getElem_of_mem hod
      obtain ⟨b, o, e, hr⟩ := hrow (by omega)
      obtain ⟨vs, _, _, h3⟩ := hr i _ (List.getElem?_eq_getElem hi)
      exact h3
end
end Go.Tb
namespace Go.Proofs.YthejkfnigalniaaGreatDoor
open Go.ChangeShapes Go.WideShapes Go.ChangeAt Go.RowKit Go.Tb
theorem own : ownKnob Tryz.prog.godebug = none := by kernel_rfl
theorem u8_wf {z : Int} (h : (Lit.int .u8 z).wf = true) : ∃ n : Nat, z = n ∧ n < 256 := by
  have : 0 ≤ z ∧ z ≤ 255 := by simpa [Lit.wf, IntKind.min, IntKind.max, IntKind.signed, IntKind.bits] using h
  exact ⟨z.toNat, by omega, by omega⟩
noncomputable def wit (os : Os) : World := World.laidAll Tryz.prog os Rows.shadowPublishesRow.laid
theorem wit_os (os : Os) : (wit os).os = os := World.laidAll_os _ _ _
theorem laid_met (os : Os) (args : Array Value) : laidMetH Tryz.prog Rows.shadowPublishesRow.laid ((wit os).forCall (fun _ _ => 0) ⟨#[], args, []⟩).memory := by
  rw [MakeChecks.laidMetH_plain _ _ _ (by kernel_rfl)]
  have h : laidMet Tryz.prog Rows.shadowPublishesRow.laid (wit os) := laidMet_of_run' 8 (by kernel_rfl) (by kernel_rfl)
  exact h.of_heap (by simp [World.memory, World.forCall, Input.heap])
theorem laidOut : laidOutB Tryz.prog = true := by kernel_rfl
theorem read68 : Tryz.prog.readableRec 68 = true := by kernel_rfl
theorem lt68 : 68 < Tryz.prog.types.size := of_decide_eq_true (by kernel_rfl)
theorem shadowPublishes_lifted (os : Os) (started : os.Started) (H : Type) (enc : TypeId × Value → H) :
    ReturnsInHanded {} Tryz.checked os 8 .any (fun w args => (Rows.shadowPublishesSpec.pre enc Tryz.prog Tryz.f8 Rows.shadowPublishesRow.domain false w args ∧ laidMetH Tryz.prog Rows.shadowPublishesRow.laid w) ∧ sizedMet enc Tryz.prog Tryz.f8 (OpenSpec.ofChange Rows.shadowPublishesSpec) false w args)
      (Rows.shadowPublishesSpec.post enc Tryz.prog Tryz.f8 false true false false) := by
  refine returnsInHanded_of_change_and (C := Tryz.checked) (X := fun w _ => laidMetH Tryz.prog Rows.shadowPublishesRow.laid w) (fun _ _ _ hh h => h.of_heap hh) own started (by kernel_rfl) Tryz.func8
    (ChangeSpec.witness_shaped (enc := enc) (C := Tryz.checked) (os := os) (X := fun w _ => laidMetH Tryz.prog Rows.shadowPublishesRow.laid w) false (wit os) #[.int .u8 0, .int .i64 0, .slice none 0 0] 8 (wit_os os)
      (World.shaped_of_ZipB (by kernel_rfl) (by kernel_rfl)) (by kernel_rfl) (by kernel_rfl) (by kernel_rfl) (laid_met os _)) ?_
  intro W base args ds gs before hval0 hW hc _ hL _
  have hval : ∀ (j : Nat) t v, Tryz.f8.params[j]? = some t → args[j]? = some v → Value.okWide Tryz.prog W .any base t v := hval0
  have hW' := hW
  obtain ⟨p, q, hA0, hV, rfl, _, _⟩ := hW
  have hA : DataW.TrodAll enc Tryz.prog W 0 (fun _ => true) true Tryz.f8.params.toList args.toList ds p := hA0
  rw [Tryz.params8] at hA hval
  obtain ⟨v0, vs0, d0, ds0, p0, q0, hargs, rfl, rfl, h0, r0⟩ := trodAll_cons hA
  obtain ⟨v1, vs1, d1, ds1, p1, q1, ha1, rfl, rfl, h1, r1⟩ := trodAll_cons r0
  obtain ⟨v2, vs2, d2, ds2, p2, q2, ha2, rfl, rfl, h2, r2⟩ := trodAll_cons r1
  obtain ⟨rfl, rfl, rfl⟩ := trodAll_nil r2
  subst ha2
  subst ha1
  obtain rfl : args = #[v0, v1, v2] := by cases args; simp_all
  obtain ⟨x0, rfl, rfl, rfl, w0⟩ := open_int Tryz.underlying5 (hval 0 5 v0 rfl rfl) h0
  obtain ⟨x1, rfl, rfl, rfl, w1⟩ := open_int Tryz.underlying3 (hval 1 3 v1 rfl rfl) h1
  obtain ⟨rfl, rfl⟩ := trodVars_none hV
  simp only [List.append_nil, List.nil_append] at hW'
  have hlt : ∀ y ∈ p2, y.block < W.heap.size := fun y hy => by simpa using hW'.lt y hy
  obtain ⟨a2, n2, c2, rfl⟩ := okWide_slice Tryz.underlying68 (hval 2 68 v2 rfl rfl)
  have h2c := h2
  obtain ⟨nf, hf2⟩ := h2c
  obtain ⟨l, v, e0, hl⟩ := open_ops _ _ _ hf2
  have e1 : [Value.slice a2 n2 c2] = [v] := e0
  injection e1 with e1 _
  subst e1
  obtain ⟨a, rfl, hl0⟩ := u8_wf w0
  refine (law8_ok W a hl0 x1 hl).mono fun e W' ⟨he, hb⟩ => ?_
  subst he
  exact ⟨_, rfl, [.lit (.int .u8 (a : Int)), .lit (.int .i64 x1), d2], [], _, [], _, [], hW', trodAll_mk1 (shut_bool Tryz.underlying4 _),
    (trodAll_cons_mk (shut_int Tryz.underlying5 w0) (trodAll_cons_mk (shut_int Tryz.underlying3 w1) (trodAll_cons_mk (Below.trod laidOut read68 lt68 h2 hb.out hlt) trodAll_mk0))), rfl, hb.out.frame _, fun h => by cases h⟩
theorem shadowPublishes_row : Rows.ShadowPublishesSaid :=
  OpenClaim.holds_of_wide 8 Tryz.f8 rfl rfl rfl rfl rfl rfl rfl ⟨rfl, rfl, rfl, rfl, rfl⟩ rfl rfl rfl rfl rfl (by kernel_rfl) Tryz.func8 (by kernel_rfl)
    (of_decide_eq_true (by kernel_rfl)) (by unfold Func.isWrapper; first | (rw [if_pos (by decide +kernel)]; kernel_rfl) | (rw [if_neg (by decide +kernel)]; exact ⟨rfl, rfl⟩))
    (fun os started H enc _ => shadowPublishes_lifted os started H enc)
theorem shadowPublishes_holds : Rows.ShadowPublishesCardSaid :=
  Claim7.holds_tied_plain_at .later [] _ _ _ _ shadowPublishes_row (fun _ h => by cases h) (by kernel_rfl) (fun _ h => by cases h) shadowPublishes_row_tie rfl ⟨rfl, rfl⟩ (by kernel_rfl) rfl
    (fun f fn hf hfn => by
      obtain rfl : f = 8 := Option.some.inj ((show Tryz.prog.funcNamed "aumbry/aumbrylaw08.ShadowPublishes" = some 8 by kernel_rfl).symm.trans hf) |>.symm
      obtain rfl : fn = Tryz.f8 := (Option.some.inj (Tryz.func8.symm.trans hfn)).symm
      exact ⟨by kernel_rfl, fun j t ht => by
        rw [Tryz.params8] at ht
        have hm : t ∈ [5, 3, 68] := by simpa using Array.mem_of_getElem? ht
        have hall : ([5, 3, 68].all fun u => !Tryz.prog.wantsStandIn u) = true := by kernel_rfl
        exact (show Tryz.prog.wantsStandIn t = false by simpa using List.all_eq_true.1 hall t hm)⟩)
    (by kernel_rfl)
end Go.Proofs.YthejkfnigalniaaGreatDoor
