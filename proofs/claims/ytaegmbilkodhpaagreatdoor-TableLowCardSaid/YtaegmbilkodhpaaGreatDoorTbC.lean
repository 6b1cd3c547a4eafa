/- A part of the proof of TableLow: what a function of the program answers, walked by hand. Each theorem says its own conditions. -/
import Derived.Test.YtaegmbilkodhpaaGreatDoorTbB
import Derived.Test.YtaegmbilkodhpaaGreatDoorRoom
import Derived.Deep.RegionHeld3
import Derived.StillTailTactics
set_option linter.unusedVariables false
set_option linter.unusedSimpArgs false
set_option maxRecDepth 100000
set_option maxHeartbeats 1600000
namespace Go.Tb
open Go Go.RowKit Go.Proofs Go.Maps
theorem filter_ne_len {a : Nat} : ∀ {l : List Nat}, l.Nodup → l.length ≤ (l.filter fun x => !decide (x = a)).length + 1
  | [], _ => Nat.zero_le _
  | b :: l, h => by
    obtain ⟨h1, h2⟩ := List.nodup_cons.1 h
    have ih := filter_ne_len (a := a) h2
    by_cases e : b = a
    · subst e
      have : l.filter (fun x => !decide (x = b)) = l := List.filter_eq_self.2 fun x hx => by
        have : x ≠ b := fun e => h1 (e ▸ hx)
        simp [this]
      simp [List.filter_cons, this]
    · simp [List.filter_cons, e]; omega
theorem filter_out_len : ∀ (K l : List Nat), l.Nodup → l.length ≤ (l.filter fun x => !decide (x ∈ K)).length + K.length
  | [], l, _ => by rw [show l.filter (fun x => !decide (x ∈ ([] : List Nat))) = l from List.filter_eq_self.2 (by simp)]; simp
  | a :: K, l, h => by
    have ih := filter_out_len K l h
    have hn : (l.filter fun x => !decide (x ∈ K)).Nodup := h.filter _
    have h2 := filter_ne_len (a := a) hn
    rw [List.filter_filter] at h2
    have : (fun x => (!decide (x = a)) && !decide (x ∈ K)) = fun x => !decide (x ∈ a :: K) := by
      funext x
      by_cases e1 : x = a <;> by_cases e2 : x ∈ K <;> simp [e1, e2]
    rw [this] at h2
    simp only [List.length_cons]
    omega
theorem freeL_ge (K : List Nat) (N : Nat) : N ≤ (freeL K N).length + K.length := by
  have := filter_out_len K (List.range N) List.nodup_range
  simpa [freeL] using this
theorem ents_few {f : Nat → Nat} (h : ∀ p, f p ≠ 0 → p < 5) : ∀ k, (ents f k).length ≤ 5
  | 0 => by simp [ents]
  | k + 1 => by
    by_cases hk : k < 5
    · have := ents_len f (k + 1); omega
    · have h0 : ¬ 0 < f k := fun h1 => hk (h k (by omega))
      unfold ents
      rw [if_neg h0]
      exact ents_few h k
theorem ents_zero : ∀ k, ents (fun _ => 0) k = []
  | 0 => rfl
  | k + 1 => by unfold ents; rw [if_neg (by simp)]; exact ents_zero k
theorem keys_few {fo : Nat → Nat} (h : ∀ p, fo p ≠ 0 → p < 5) : (keys (lst (fun _ => 0) fo (fun _ => 0)) 3).length ≤ 16 := by
  have h1 := ents_few h 1024
  simp [keys, lst, secs, ents_zero]
  omega
theorem free_pos {fo : Nat → Nat} (h : ∀ p, fo p ≠ 0 → p < 5) : 114 ≤ (freeL (keys (lst (fun _ => 0) fo (fun _ => 0)) 3) 130).length := by
  have h1 := keys_few h
  have h2 := freeL_ge (keys (lst (fun _ => 0) fo (fun _ => 0)) 3) 130
  omega
theorem mem_freeL {K : List Nat} {N x : Nat} : x ∈ freeL K N ↔ x < N ∧ x ∉ K := by simp [freeL]
theorem free_in {fo : Nat → Nat} {x : Nat} (h : x ∈ freeL (keys (lst (fun _ => 0) fo (fun _ => 0)) 3) 130) : 2 ≤ x ∧ x < 130 := by
  obtain ⟨h1, h2⟩ := mem_freeL.1 h
  refine ⟨?_, h1⟩
  rcases Nat.lt_or_ge x 2 with h3 | h3
  · exfalso; apply h2
    have : x = 0 ∨ x = 1 := by omega
    rcases this with rfl | rfl <;> simp [keys]
  · exact h3
theorem CV.besides {B : Nat} {w w' : World} {cb fb db : Nat} {D : DataW Value} {n : Nat} {K : Nat → Prop} (H : CV B w cb fb db D n K) (P : Nat → Prop) (hP : ∀ x, P x → K x) (hc : ¬ P cb) (hf : ¬ P fb) (hs : ∀ k, k < w.heap.size → ¬ P k → w'.heap[k]? = w.heap[k]?) (hz : w.heap.size ≤ w'.heap.size) : CV B w' cb fb db D n K := by
  have e1 := hs cb (H.ks cb H.kc) hc
  have e2 := hs fb (H.ks fb H.kf) hf
  have hcc := fun o => (cell_of_heap (a := ⟨cb, o, none⟩) e1).1
  have hff := fun o => (cell_of_heap (a := ⟨cb, o, none⟩) e1).2
  refine { c0 := (hcc _).trans H.c0, c1 := (hcc _).trans H.c1, c2 := ?_, c3 := (hcc _).trans H.c3, cz := fun o ho => (hff o).trans (H.cz o ho), own := ?_, fr := fun y hy => ?_, kc := H.kc, kf := H.kf, kd := H.kd, ks := fun b hb => Nat.lt_of_lt_of_le (H.ks b hb) hz, Bc := H.Bc, Bf := H.Bf, cf := H.cf }
  · obtain ⟨k, h⟩ := H.c2; exact ⟨k, (hcc _).trans h⟩
  · obtain ⟨es, clock, hb, h⟩ := H.own
    exact ⟨es, clock, e2.trans hb, h⟩
  · obtain ⟨b, h1, h2, h3, h4⟩ := H.fr y hy
    exact ⟨b, h1, h2, h3, h4.same (hs b h4.lt (fun e => h3 (hP b e)))⟩
theorem turn_raw {w : World} {b : Blk} {v : Value} (h15 : w.cell? ⟨b.sb, 15, none⟩ = some v) (hz : w.frozen? ⟨b.sb, 15, none⟩ = false) :
    Calls Tryz.prog 40 #[.pointer (some ⟨b.sb, 0, none⟩)] w fun e w' => (∃ v, e = .returned v) ∧ w' = turnW w b := by
  have hl := cell_lt' h15
  go_enter Tryz.func40, Tryz.ntmps40
  go_wp2
  go_end0
  exact ⟨⟨_, rfl⟩, rfl⟩
end Go.Tb
namespace Go.Tb
open Go Go.RowKit Go.Proofs Go.Maps
theorem SpV.rmb {B : Nat} {w : World} {b : Blk} {D : DataW Value} {n : Nat} {fo : Nat → Nat} {K : Nat → Prop} (H : SpV B w b D n fo K) : RmB w b.sb b.db b.rb b.ob 130 (fun _ => 0) fo (fun _ => 0) := by
  obtain ⟨n1, n2, n3, n4, n5, n6, n7, n8, n9, n10, n11, n12, n13, n14, n15⟩ := nodup6 H.nd
  exact { s0 := H.s0, sp := fun i hi => ⟨H.sp i hi, by decide⟩, s13 := H.s13, s14 := H.s14, s16 := H.s16, sz := H.sz, d0 := H.d0, N := by decide, mo := H.mo, mr := H.mr, ne := ⟨Ne.symm n1, Ne.symm n5, Ne.symm n4⟩ }
theorem SpV.build {B : Nat} {w x : World} {b : Blk} {D D' : DataW Value} {n n' : Nat} {fo fo' : Nat → Nat} {K : Nat → Prop} (H : SpV B w b D n fo K)
    (hs : ∀ o, o ≠ 15 → o ≠ 16 → x.cell? ⟨b.sb, o, none⟩ = w.cell? ⟨b.sb, o, none⟩) (h15 : ∃ v, x.cell? ⟨b.sb, 15, none⟩ = some v) (h16 : ∃ v, x.cell? ⟨b.sb, 16, none⟩ = some v) (hz : ∀ o, o < 17 → x.frozen? ⟨b.sb, o, none⟩ = false)
    (hd : x.heap[b.db]? = w.heap[b.db]?) (hr : x.heap[b.rb]? = w.heap[b.rb]?) (hC : CV B x b.cb b.fb b.db D' n' K) (hm : MapV x b.ob fo')
    (hf : ∀ p, fo' p ≠ 0 → p < 5 ∧ 2 ≤ fo' p ∧ fo' p < 130 ∧ Maps.has D' (.int .i64 (fo' p : Int)) = true) : SpV B (turnW x b) b D' n' fo' K := by
  obtain ⟨n1, n2, n3, n4, n5, n6, n7, n8, n9, n10, n11, n12, n13, n14, n15⟩ := nodup6 H.nd
  obtain ⟨v15, h15⟩ := h15
  have hsb : b.sb < x.heap.size := cell_lt' h15
  have hhh := fun k => turnW_heap x b (k := k)
  have hdb : b.db < x.heap.size := hC.ks _ H.cv.kd
  have hob : b.ob < x.heap.size := hC.ks _ H.ko
  have hrb : b.rb < x.heap.size := hC.ks _ H.kr
  have hB : B ≤ x.heap.size := Nat.le_trans H.Bs (Nat.le_of_lt hsb)
  have hal : ∀ o, (turnW x b).cell? ⟨b.sb, o, none⟩ = (x.setCell ⟨b.sb, 15, none⟩ (.pointer (some ⟨x.heap.size, 0, none⟩))).cell? ⟨b.sb, o, none⟩ ∧ (turnW x b).frozen? ⟨b.sb, o, none⟩ = x.frozen? ⟨b.sb, o, none⟩ := fun o => by
    have := cell_of_heap (w := x.setCell ⟨b.sb, 15, none⟩ (.pointer (some ⟨x.heap.size, 0, none⟩))) (w' := turnW x b) (a := (⟨b.sb, o, none⟩ : Addr)) (Go.Deep.blk_alloc_lt _ _ b.sb (by simpa [World.setCell] using hsb))
    exact ⟨this.1, by rw [this.2, World.frozen?_setCell]⟩
  have hc0 : ∀ o, o ≠ 15 → (turnW x b).cell? ⟨b.sb, o, none⟩ = x.cell? ⟨b.sb, o, none⟩ := fun o ho => by
    rw [(hal o).1]
    exact World.cell?_setCell_other x _ _ _ (fun q => ho (by simp only [Addr.mk.injEq] at q; exact q.2.1.symm))
  have hc : ∀ o, o ≠ 15 → o ≠ 16 → (turnW x b).cell? ⟨b.sb, o, none⟩ = w.cell? ⟨b.sb, o, none⟩ := fun o ho h6 => (hc0 o ho).trans (hs o ho h6)
  have hdd := fun o => ((cell_of_heap (a := ⟨b.db, o, none⟩) ((hhh b.db hdb (Ne.symm n1)).trans hd)).1)
  refine { s0 := (hc _ (by decide) (by decide)).trans H.s0, s1 := (hc _ (by decide) (by decide)).trans H.s1, sp := fun i hi => (hc _ (by omega) (by omega)).trans (H.sp i hi), s13 := (hc _ (by decide) (by decide)).trans H.s13, s14 := (hc _ (by decide) (by decide)).trans H.s14, s15 := ⟨x.heap.size, ?_, ?_, hB, by omega, by omega⟩, s16 := ?_, sz := fun o ho => (hal o).2.trans (hz o ho), d0 := ?_, d2 := (hdd _).trans H.d2, cv := hC.beside H.ks n2 n3 (fun k hk hne => hhh k hk hne) (by rw [turnW_size]; omega), mo := hm.keep (hhh _ hob (Ne.symm n4)), mr := H.mr.keep ((hhh _ hrb (Ne.symm n5)).trans hr), ks := H.ks, ko := H.ko, kr := H.kr, Bs := H.Bs, Bo := H.Bo, nd := H.nd, fs := hf }
  · rw [(hal 15).1]; exact World.cell?_setCell_same x _ _ h15
  · have := (Go.MapKept.heap_alloc (x.setCell ⟨b.sb, 15, none⟩ (.pointer (some ⟨x.heap.size, 0, none⟩))) (.cells once0 139)).1
    have e : (x.setCell ⟨b.sb, 15, none⟩ (.pointer (some ⟨x.heap.size, 0, none⟩))).heap.size = x.heap.size := by simp [World.setCell]
    rw [e] at this
    exact OnceV.of_block this
  · obtain ⟨v, h⟩ := h16; exact ⟨v, (hc0 _ (by decide)).trans h⟩
  · obtain ⟨a, c, h⟩ := H.d0; exact ⟨a, c, (hdd _).trans h⟩
theorem ByR.keepX {w w' : World} {base n : Nat} {v : Value} (h : ByR w base v n) (h0 : 0 < n) (hk : ∀ (g x : Nat), g < w.heap.size → w.cell? ⟨g, 0, none⟩ = some (.int .u8 (x : Int)) → w'.heap[g]? = w.heap[g]?) : ByR w' base v n := by
  obtain ⟨g, c, rfl, hg, hgl, bs', hbs'⟩ := h.sum h0
  have hc := (hbs' 0 h0).2
  obtain ⟨bs, h1, h2⟩ := h
  refine ⟨bs, h1, h2.1, h2.2.imp id fun ⟨g2, cap, cur, e, hg2, hh, r⟩ => ⟨g2, cap, cur, e, hg2, ?_, r⟩⟩
  have : g2 = g := by injection e with e; injection e with e; injection e with e; exact e.symm
  subst this
  exact (hk g2 _ hgl hc).trans hh
theorem row_head {W : World} {base s len : Nat} {l : List Nat} {u : Value} (h : W.ownsRow base 3 1 u len ((s :: l).map encI)) : ∃ g c, u = .slice (some ⟨g, 0, none⟩) len c ∧ base ≤ g ∧ g < W.heap.size ∧ W.cell? ⟨g, 0, none⟩ = some (.int .i64 (s : Int)) := by
  rcases h.2 with ⟨_, h0⟩ | ⟨g, cap, cur, rfl, hg, _⟩
  · have := h.1; simp [h0] at this
  · refine ⟨g, cap, rfl, hg, (h.lt g rfl).2, ?_⟩
    have := h.cells rfl 0 (encI s) (by simp)
    exact this
theorem swrite_new (hF : Fours) (hP : PutC) {B : Nat} {w : World} {b : Blk} {D : DataW Value} {n : Nat} {fo : Nat → Nat} {K : Nat → Prop} (H : SpV B w b D n fo K) (hn : n < 20) {p : Nat} (hp : p < 5) (h0 : fo p = 0) {base m : Nat} {v : Value} (hv : ByR w base v m) (hm0 : 0 < m) (hm : m ≤ 248) :
    Calls Tryz.prog 29 #[.pointer (some ⟨b.sb, 0, none⟩), .int .i64 (p : Int), v] w fun e w' => e = .returned (.int .i64 0) ∧
      ∃ D' n' s, 0 < s ∧ n' ≤ n + 1 ∧ SpV B w' b D' n' (fun k => if k = p then s else fo k) K ∧ Below B w w' ∧ ∀ k, K k → ¬ OnceV w k → k ≠ b.cb → k ≠ b.fb → k ≠ b.sb → k ≠ b.ob → w'.heap[k]? = w.heap[k]? := by
  obtain ⟨n1, n2, n3, n4, n5, n6, n7, n8, n9, n10, n11, n12, n13, n14, n15⟩ := nodup6 H.nd
  obtain ⟨kb, h15, hO, hkB, hko, hks⟩ := H.s15
  obtain ⟨a, c, d0⟩ := H.d0
  have hsb : b.sb < w.heap.size := H.cv.ks _ H.ks
  have hdb : b.db < w.heap.size := H.cv.ks _ H.cv.kd
  have hob : b.ob < w.heap.size := H.cv.ks _ H.ko
  have hrb : b.rb < w.heap.size := H.cv.ks _ H.kr
  have hcb : b.cb < w.heap.size := H.cv.ks _ H.cv.kc
  have hfb : b.fb < w.heap.size := H.cv.ks _ H.cv.kf
  have hB : B ≤ w.heap.size := Nat.le_trans H.Bs (Nat.le_of_lt hsb)
  have hkd : kb ≠ b.db := fun e => by
    have := hO.c0.1; rw [e, d0] at this; cases this
  have hkr : kb ≠ b.rb := fun e => by
    have h1 := hO.c0.1; rw [e, (H.mr.at (i := 0) (by decide)).1] at h1; cases h1
  obtain ⟨hkc, hkf⟩ := hO.ne_cache H.cv
  have M := may_ok H.s0 H.d2 (p := p) (by omega)
  have T := turned_ok H.s14 H.s13 H.mo H.mr (p := p) (by omega) rfl
  rw [h0] at T
  have R := rooms_ok H.rmb h15 hO hks hkd hkr hko
  have hfp := free_pos (fun p hp => (H.fs p hp).1)
  have hfi := fun x => free_in (fo := fo) (x := x)
  generalize freeL (keys (lst (fun _ => 0) fo (fun _ => 0)) 3) 130 = L at R hfp hfi
  obtain ⟨s, l, rfl⟩ : ∃ s l, L = s :: l := by cases L with | nil => simp at hfp | cons s l => exact ⟨s, l, rfl⟩
  obtain ⟨hs2, hs3⟩ := hfi s (List.mem_cons_self)
  generalize hlen : (s :: l).length = len at R hfp
  clear hlen
  obtain ⟨a1, c1, cs, rfl, _⟩ := hv.shape
  have i1 : ¬ (248 : Int) < (m : Int) := by omega
  have i2 : decide ((248 : Int) < (m : Int)) = false := by simpa using i1
  have i3 : ¬ (len : Int) ≤ 18 := by omega
  have i5 : (0 : Int) < (len : Int) := by omega
  have i6 : 0 < len := by omega
  have i4 : decide ((len : Int) ≤ 18) = false := by simpa using i3
  have HHH := Lib.hid H
  have HV := Lib.hid hv
  have HM0 : Hid (0 < m ∧ m ≤ 248 ∧ n < 20) := Lib.hid ⟨hm0, hm, hn⟩
  have HO := Lib.hid hO
  have HFP := Lib.hid hfp
  clear H hv hO hm0 hm hn hfi hfp d0
  go_enter Tryz.func29, Tryz.ntmps29
  go_upto_region 10 with (first | (go_at_call 48; refine M.mono ?_; rintro e w5 ⟨rfl, hw⟩; replace hw := hw.symm; subst hw) | (go_at_call 59; refine T.mono ?_; rintro e w6 ⟨rfl, hw⟩; replace hw := hw.symm; subst hw) | (go_at_call 62; refine R.mono ?_; rintro e w7 ⟨u, rfl, hu, hrow, hx, hoo, hzz⟩))
  have HHH' := HHH.out
  obtain ⟨g, cg, rfl, hgb, hgl, hgc⟩ := row_head hrow
  have hbl := fun k h1 h2 h3 => hx.block k h1 h2 h3
  have hdb7 := hbl b.db hdb (Ne.symm n1) (Ne.symm hkd)
  have hob7 := hbl b.ob hob (Ne.symm n4) (Ne.symm hko)
  have hrb7 := hbl b.rb hrb (Ne.symm n5) (Ne.symm hkr)
  have hC1 := (HHH'.cv.once HO.out).besides (w' := w7) (fun k => k = b.sb ∨ k = kb) (fun x h => h.elim (fun e => .inl (e ▸ HHH'.ks)) .inr) (fun h => h.elim (Ne.symm n2) (fun e => hkc e.symm)) (fun h => h.elim (Ne.symm n3) (fun e => hkf e.symm)) (fun k hk hp => hbl k hk (fun e => hp (.inl e)) (fun e => hp (.inr e))) hx.size
  have hC2 := hC1.more (g := g) hgl (fun x b' hx' hat e => by
    obtain ⟨b2, k1, k2, k3, k4⟩ := HHH'.cv.fr x hx'
    have h5 := hat .nil
    rw [k1] at h5
    injection h5 with h5; injection h5 with h5; injection h5 with h5; injection h5 with h5
    have := k4.lt
    omega)
  have hv7 : ByR w7 base (.slice a1 m c1) m := HV.out.keepX HM0.out.1 (fun g2 x h1 h2 => hbl g2 h1 (fun e => by rw [e, HHH'.s0] at h2; cases h2) (fun e => by rw [e, HO.out.c0.1] at h2; cases h2))
  obtain ⟨a0, c0, d0⟩ := HHH'.d0
  have d07 : w7.cell? ⟨b.db, 0, none⟩ = some (.slice a0 130 c0) := (cell_of_heap (a := ⟨b.db, 0, none⟩) hdb7).1.trans d0
  have d27 : w7.cell? ⟨b.db, 2, none⟩ = some (.bool false) := (cell_of_heap (a := ⟨b.db, 2, none⟩) hdb7).1.trans HHH'.d2
  have s17 := (hoo 1 (by decide)).trans HHH'.s1
  have hsb7 : b.sb < w7.heap.size := Nat.lt_of_lt_of_le hsb hx.size
  have P := put_ok hF hP (b := b) s17 hsb7 hC2 HM0.out.2.2 d07 d27 hs3 hv7 HM0.out.1 HM0.out.2.1
  have HX := Lib.hid hx
  have HOO := Lib.hid hoo
  have HZZ := Lib.hid hzz
  have HU := Lib.hid hu
  have HGB := Lib.hid hgb
  have HGC := Lib.hid hgc
  have HMO7 := Lib.hid (HHH'.mo.keep hob7)
  have HB7 : Hid (w7.heap[b.db]? = w.heap[b.db]? ∧ w7.heap[b.ob]? = w.heap[b.ob]? ∧ w7.heap[b.rb]? = w.heap[b.rb]?) := Lib.hid ⟨hdb7, hob7, hrb7⟩
  clear hrow hx hoo hzz hu hbl hdb7 hob7 hrb7 hC1 hC2 hv7 d0 d07 d27 s17 hgb HHH' M T R HV
  go_upto_region 13 with (go_at_call 61; refine P.mono ?_; rintro e w8 ⟨rfl, D', n', hW, hxx, hn1, hn2⟩)
  obtain ⟨hC8, hfr8, hb8⟩ := hW
  have hgb := HGB.out
  have hsb8 := hfr8 b.sb (.inl (.inl HHH.out.ks)) n2 n3
  have hg8 := hfr8 g (.inr rfl) (by omega) (by omega)
  have hob8 := hfr8 b.ob (.inl (.inl HHH.out.ko)) (Ne.symm n11) (Ne.symm n13)
  have hdb8 := hfr8 b.db (.inl (.inl HHH.out.cv.kd)) n6 n7
  have hrb8 := hfr8 b.rb (.inl (.inl HHH.out.kr)) (Ne.symm n12) (Ne.symm n14)
  have c14 : w8.cell? ⟨b.sb, 14, none⟩ = some (.pointer (some ⟨b.ob, 0, none⟩)) := (cell_of_heap (a := ⟨b.sb, 14, none⟩) hsb8).1.trans ((HOO.out 14 (by decide)).trans HHH.out.s14)
  have cg8 : w8.cell? ⟨g, 0, none⟩ = some (.int .i64 (s : Int)) := (cell_of_heap (a := ⟨g, 0, none⟩) hg8).1.trans HGC.out
  have hm8 : MapV w8 b.ob fo := HMO7.out.keep hob8
  have HS := Lib.hid (fun x (hx : Below w8.heap.size w8 x) => (⟨cells_below hx _ _ c14, cells_below hx _ _ cg8⟩ : x.cell? ⟨b.sb, 14, none⟩ = some (.pointer (some ⟨b.ob, 0, none⟩)) ∧ x.cell? ⟨g, 0, none⟩ = some (.int .i64 (s : Int))))
  have hobl : b.ob < w8.heap.size := cell_lt' (hm8.at (i := 0) (by decide)).1
  have HSET := Lib.hid (fun x (hx : Below w8.heap.size w8 x) => set_ok (hm8.keep (hx.block _ hobl)) (p := p) (s := s) (by omega) (by omega))
  have HOS : Hid (∀ (x : World) (v : Value), (x.setCell ⟨b.ob, p, none⟩ v).cell? ⟨b.sb, 14, none⟩ = x.cell? ⟨b.sb, 14, none⟩ ∧ (x.setCell ⟨b.ob, p, none⟩ v).cell? ⟨g, 0, none⟩ = x.cell? ⟨g, 0, none⟩) := Lib.hid fun x v => ⟨World.cell?_setCell_other x _ _ _ (fun q => n4 (congrArg Addr.block q).symm), World.cell?_setCell_other x _ _ _ (fun q => by have := congrArg Addr.block q; simp at this; omega)⟩
  have HFR8 := Lib.hid hfr8
  have HC8 := Lib.hid hC8
  have HB8 := Lib.hid hb8
  have HXX := Lib.hid hxx
  have HN1 := Lib.hid hn1
  have HM8 := Lib.hid hm8
  have H8 : Hid (w8.heap[b.sb]? = w7.heap[b.sb]? ∧ w8.heap[b.ob]? = w7.heap[b.ob]? ∧ w8.heap[b.db]? = w7.heap[b.db]? ∧ w8.heap[b.rb]? = w7.heap[b.rb]?) := Lib.hid ⟨hsb8, hob8, hdb8, hrb8⟩
  have lsb8 := cell_lt' c14
  have lg8 := cell_lt' cg8
  clear hfr8 hC8 hb8 hxx hn1 hm8 hsb8 hg8 hob8 hdb8 hrb8 hn2 P
  go_upto_region 14 with fail
  go_wp2_with fail
  go_region_held3 (fun x => x.cell? ⟨b.sb, 14, none⟩ = some (.pointer (some ⟨b.ob, 0, none⟩)) ∧ x.cell? ⟨g, 0, none⟩ = some (.int .i64 (s : Int)))
    ((first | (refine HS.out _ ?_; (repeat (first | exact Below.refl _ _ | assumption | refine Below.drew ?_ | refine Below.allocs ?_ _)); done) | exact ⟨((HOS.out _ _).1).trans (HS.out _ (by (repeat (first | exact Below.refl _ _ | assumption | refine Below.drew ?_ | refine Below.allocs ?_ _)))).1, ((HOS.out _ _).2).trans (HS.out _ (by (repeat (first | exact Below.refl _ _ | assumption | refine Below.drew ?_ | refine Below.allocs ?_ _)))).2⟩))
    ((go_at_call 63; refine (HSET.out _ ?_).mono ?_; (repeat (first | exact Below.refl _ _ | assumption | refine Below.drew ?_ | refine Below.allocs ?_ _)); rintro e w9 ⟨rfl, rfl⟩))
  obtain ⟨X, hX⟩ : ∃ X, (w8.setCell ⟨b.ob, p, none⟩ (.int .u16 (s : Int))).drew = X := ⟨_, rfl⟩
  have hXh : ∀ k, k ≠ b.ob → X.heap[k]? = w8.heap[k]? := fun k hk => by
    rw [← hX]; exact heap_setCell_other w8 (⟨b.ob, p, none⟩ : Addr) k _ hk
  have hXs : X.heap.size = w8.heap.size := by rw [← hX]; simp [World.setCell]
  have hXm : MapV X b.ob (fun k => if k = p then s else fo k) := by
    rw [← hX]; exact HM8.out.set (by omega) (by omega)
  have hXB : Below B w8 X := by rw [← hX]; exact (below_set (Below.refl _ _) HHH.out.Bo _).drew
  rw [hX]
  obtain ⟨e1, e2, e3, e4⟩ := H8.out
  obtain ⟨f1, f2, f3⟩ := HB7.out
  have hsX := hXh b.sb n4
  have hcX : ∀ o, X.cell? ⟨b.sb, o, none⟩ = w7.cell? ⟨b.sb, o, none⟩ := fun o => (cell_of_heap (a := ⟨b.sb, o, none⟩) (hsX.trans e1)).1
  have hzX : ∀ o, o < 17 → X.frozen? ⟨b.sb, o, none⟩ = false := fun o ho => (cell_of_heap (a := ⟨b.sb, o, none⟩) (hsX.trans e1)).2.trans (HZZ.out o ho)
  have h15X : X.cell? ⟨b.sb, 15, none⟩ = some (.pointer (some ⟨kb, 0, none⟩)) := (hcX 15).trans ((HOO.out 15 (by decide)).trans h15)
  have TR := turn_raw h15X (hzX 15 (by decide))
  have hD' : ∀ q, (if q = p then s else fo q) ≠ 0 → q < 5 ∧ 2 ≤ (if q = p then s else fo q) ∧ (if q = p then s else fo q) < 130 ∧ Maps.has D' (.int .i64 (((if q = p then s else fo q) : Nat) : Int)) = true := fun q hq => by
    by_cases e : q = p
    · simp only [if_pos e] at hq ⊢
      exact ⟨by omega, hs2, hs3, by rw [HXX.out]; simp⟩
    · simp only [if_neg e] at hq ⊢
      obtain ⟨k1, k2, k3, k4⟩ := HHH.out.fs q hq
      exact ⟨k1, k2, k3, by rw [HXX.out, k4]; rfl⟩
  have hCX : CV B X b.cb b.fb b.db D' n' K := (HC8.out.beside (.inl (.inl HHH.out.ko)) (Ne.symm n11) (Ne.symm n13) (fun k hk hne => hXh k hne) (Nat.le_of_eq hXs.symm)).less (fun k hk => .inl (.inl hk)) HHH.out.cv.kc HHH.out.cv.kf HHH.out.cv.kd
  have hSP := HHH.out.build (x := X) (fun o h1 h2 => (hcX o).trans (HOO.out o h2)) ⟨_, h15X⟩ ⟨_, (hcX 16).trans HU.out⟩ hzX ((hXh b.db n8).trans (e3.trans f1)) ((hXh b.rb (Ne.symm n15)).trans (e4.trans f3)) hCX hXm hD'
  have hbT : Below B X (turnW X b) := ⟨rfl, rfl, rfl, by rw [turnW_size]; omega, fun k hk => turnW_heap X b (by have := HX.out.size; have := HB8.out.size; omega) (fun e => by have := HHH.out.Bs; omega)⟩
  have hbW : Below B w w7 := ⟨HX.out.os, HX.out.tape, HX.out.output, HX.out.size, fun k hk => HX.out.block k (by omega) (fun e => by have := HHH.out.Bs; omega) (by omega)⟩
  have hbel : Below B w (turnW X b) := ((hbW.trans HB8.out).trans hXB).trans hbT
  have hfin : ∀ k, K k → ¬ OnceV w k → k ≠ b.cb → k ≠ b.fb → k ≠ b.sb → k ≠ b.ob → (turnW X b).heap[k]? = w.heap[k]? := fun k hK hno h1 h2 h3 h4 => by
    have hkw : k < w.heap.size := HHH.out.cv.ks k hK
    rw [turnW_heap X b (by have := HX.out.size; have := HB8.out.size; omega) h3, hXh k h4, HFR8.out k (.inl (.inl hK)) h1 h2]
    by_cases ekb : k = kb
    · subst ekb; exact absurd HO.out hno
    · exact HX.out.block k hkw h3 ekb
  have HSP := Lib.hid hSP
  have HBEL := Lib.hid hbel
  have HFIN := Lib.hid hfin
  have HN := HN1.out
  clear hSP hbel hfin hD' hCX hXm hXh hcX hzX hbT hbW hX
  go_wp2_with (go_at_call 40; refine TR.mono ?_; rintro e w10 ⟨⟨v, rfl⟩, hw⟩; subst hw)
  go_ret
  exact ⟨rfl, D', n', s, by omega, HN, HSP.out, HBEL.out, HFIN.out⟩
end Go.Tb
namespace Go.Tb
open Go Go.RowKit Go.Proofs Go.Maps
theorem ByR.base {w : World} {base base' n : Nat} {v : Value} (h : ByR w base v n) (hb : base' ≤ base) : ByR w base' v n := h.keep (Below.refl _ _) hb
theorem eq62d {a b c d : Int} (ha : (Lit.int .i64 a).wf = true) (hb : (Lit.int .i64 b).wf = true) (hc : (Lit.int .i64 c).wf = true) (hd : (Lit.int .i64 d).wf = true) (w : World) : (Op.equalIn 10000 62 (.agg #[.int .i64 a, .int .i64 b]) (.agg #[.int .i64 c, .int .i64 d])).run Tryz.prog w = .ok (decide (a = c ∧ b = d)) w := by
  obtain ⟨r, h1, h2⟩ := eq62 ha hb hc hd w
  rw [h1]
  congr 1
  cases r with
  | true => exact (decide_eq_true (h2.1 rfl)).symm
  | false => exact (decide_eq_false fun h => by have := h2.2 h; cases this).symm
theorem wf0 : (Lit.int .i64 0).wf = true := by decide
def NoneB (E : DataW Value) (q oid k : Nat) : Prop := ∀ j, j < k → q * 62 + 1 + j ≠ oid → Maps.has E (.int .i64 ((q * 62 + 1 + j : Nat) : Int)) = false
theorem lay_ok (hP : PutC) {w : World} {tb eb sb : Nat} {E : DataW Value} {n : Nat} (ht0 : w.cell? ⟨tb, 0, none⟩ = some (.pointer (some ⟨sb, 0, none⟩))) (ht1 : w.cell? ⟨tb, 1, none⟩ = some (.map (some eb))) (h : EV w eb E n) (hwf : ∀ (x : Int) (p s : Int), (∀ z, E.atKey (.int .i64 x) z = .held (.agg #[.int .i64 p, .int .i64 s])) → (Lit.int .i64 p).wf = true ∧ (Lit.int .i64 s).wf = true ∧ p ≠ 0)
    {oid : Nat} (ho : 1 ≤ oid ∧ oid ≤ 16384) {pa sa : Int} (hpa : (Lit.int .i64 pa).wf = true) (hsa : (Lit.int .i64 sa).wf = true) {R : Ending → World → Prop}
    (hw : ∀ w1 v m, Below w.heap.size w w1 → ByR w1 w.heap.size v m → 0 < m → m ≤ 248 → Calls Tryz.prog 29 #[.pointer (some ⟨sb, 0, none⟩), .int .i64 (((oid - 1) / 62 : Nat) : Int), v] w1 R)
    (hd : ∀ w1, Below w.heap.size w w1 → (pa = 0 ∧ sa = 0) → NoneB E ((oid - 1) / 62) oid 62 → Calls Tryz.prog 55 #[.pointer (some ⟨sb, 0, none⟩), .int .i64 (((oid - 1) / 62 : Nat) : Int)] w1 R) (hR : ∀ e w', R e w' → ∃ v, e = .returned v) :
    Calls Tryz.prog 25 #[.pointer (some ⟨tb, 0, none⟩), .int .i64 (oid : Int), .agg #[.int .i64 pa, .int .i64 sa]] w R := by
  have hl := cell_lt' ht0
  have i1 : wrap64 ((oid : Int) - 1) = (oid : Int) - 1 := by simp [wrap64]; omega
  obtain ⟨q, hq⟩ : ∃ q : Nat, q = (oid - 1) / 62 := ⟨_, rfl⟩
  rw [← hq] at hw hd
  have hq2 : ((oid : Int) - 1) / 62 = (q : Int) := by omega
  have hql : q ≤ 265 := by omega
  have HW := Lib.hid hw
  have HD := Lib.hid hd
  have HE := Lib.hid h
  have HR := Lib.hid hR
  have HQQ := Lib.hid hq
  have HWF := Lib.hid hwf
  have HPA : Hid ((Lit.int .i64 pa).wf = true ∧ (Lit.int .i64 sa).wf = true) := Lib.hid ⟨hpa, hsa⟩
  clear hw hd h hR hq hwf hpa hsa
  go_enter Tryz.func25, Tryz.ntmps25
  go_wp2
  rw [hq2]
  clear hq2 i1
  have hb0 : Below w.heap.size w (w.alloc (.cells #[.int .i64 pa, .int .i64 sa] 62)) := Below.alloc (Below.refl _ _) (Nat.le_refl _) _
  have hc0 := cell_new w #[.int .i64 pa, .int .i64 sa] 62 0
  have hc1 := cell_new w #[.int .i64 pa, .int .i64 sa] 62 1
  have hlt0 : w.heap.size < (w.alloc (.cells #[.int .i64 pa, .int .i64 sa] 62)).heap.size := by simp
  generalize w.alloc (.cells #[.int .i64 pa, .int .i64 sa] 62) = W0 at hb0 hc0 hc1 hlt0 ⊢
  go_loopw [8, 14] (fun v8 v14 wr => ∃ k m : Nat, v14 = .int .i64 k ∧ k ≤ 62 ∧ ByR wr w.heap.size v8 m ∧ m ≤ 4 * k ∧ (m = 0 → (k ≤ (oid - 1) % 62 ∨ (pa = 0 ∧ sa = 0)) ∧ NoneB E q oid k) ∧ Below W0.heap.size W0 wr) (fun _ v14 _ => 62 - (Go.RowKit.intOf v14).toNat)
  case atStart => exact ⟨0, 0, rfl, by omega, ByR.nil _ _, by omega, fun _ => ⟨.inl (by omega), fun j h => absurd h (by omega)⟩, Below.refl _ _⟩
  case round =>
    obtain ⟨k, m, rfl, hk, hR1, hm, hz, hbl⟩ := hrel
    by_cases e : k = 62
    · subst e
      have hBw : Below w.heap.size w wr := Below.up hb0 hbl
      have c0 := (hBw.cell (p := ⟨tb, 0, none⟩) hl).trans ht0
      have hl2 := cell_lt' c0
      obtain ⟨a, c, cs, hv8, _⟩ := hR1.shape
      have HB := Lib.hid hBw
      have HR1 := Lib.hid hR1
      by_cases hm0 : m = 0
      · have hz0 := hz hm0
        have hz1 : pa = 0 ∧ sa = 0 := hz0.1.elim (fun h => by omega) id
        subst hm0
        subst hv8
        have C := HD.out wr hBw hz1 hz0.2
        clear hz hz0 hz1 hb0 hbl hR1 hBw HW
        go_hidden (go_wp2_with (go_at_call 55; refine C.mono ?_; rintro e w5 hr; obtain ⟨v, rfl⟩ := HR.out _ _ hr; have HQ := Lib.hid hr; clear hr))
        exact HQ.out
      · have C := HW.out wr _ m hBw hR1 (by omega) (by omega)
        subst hv8
        have hm1 : ¬ (m : Int) = 0 := by omega
        have hm2 : ((m : Int) == 0) = false := by simpa using hm1
        clear hz hb0 hbl hR1 hBw HD
        go_hidden (go_wp2_with (go_at_call 29; refine C.mono ?_; rintro e w5 hr; obtain ⟨v, rfl⟩ := HR.out _ _ hr; have HQ := Lib.hid hr; clear hr))
        exact HQ.out
    · have hk2 : k < 62 := by omega
      have i2 : (k : Int) < 62 := by omega
      have hBw : Below w.heap.size w wr := Below.up hb0 hbl
      have c1 := (hBw.cell (p := ⟨tb, 1, none⟩) hl).trans ht1
      have hl2 := cell_lt' c1
      have f0 := (hbl.cell (p := ⟨w.heap.size, 0, none⟩) hlt0).trans hc0
      have f1 := (hbl.cell (p := ⟨w.heap.size, 1, none⟩) hlt0).trans hc1
      have hl3 := cell_lt' f0
      obtain ⟨pe, se, hz1, hz2, hL⟩ := HE.out.look (x := q * 62 + 1 + k) (by omega)
      have hnz : pe = 0 ∧ se = 0 → Maps.has E (.int .i64 ((q * 62 + 1 + k : Nat) : Int)) = false := fun h0 => by
        cases hh : Maps.has E (.int .i64 ((q * 62 + 1 + k : Nat) : Int)) with
        | false => rfl
        | true =>
          obtain ⟨p', s', hv⟩ := HE.out.val _ hh
          obtain ⟨e1, e2⟩ := hz2 _ _ hv
          exact absurd (e1 ▸ h0.1) (HWF.out _ _ _ hv).2.2
      have HNZ := Lib.hid hnz
      clear hnz
      have hwe : (Lit.int .i64 pe).wf = true ∧ (Lit.int .i64 se).wf = true := by
        cases hh : Maps.has E (.int .i64 ((q * 62 + 1 + k : Nat) : Int)) with
        | false => obtain ⟨e1, e2⟩ := hz1 hh; subst e1; subst e2; exact ⟨wf0, wf0⟩
        | true =>
          obtain ⟨p', s', hv⟩ := HE.out.val _ hh
          obtain ⟨e1, e2⟩ := hz2 _ _ hv
          subst e1; subst e2
          exact ⟨(HWF.out _ _ _ hv).1, (HWF.out _ _ _ hv).2.1⟩
      have hL1 := hL wr (hBw.block eb HE.out.own.lt)
      have w1 : wrap64 ((q : Int) * 62) = (q : Int) * 62 := by simp [wrap64]; omega
      have hx : ((q * 62 + 1 + k : Nat) : Int) = (q : Int) * 62 + 1 + (k : Int) := by omega
      rw [hx] at hL1
      have hHB := Lib.hid hbl
      have hHR := Lib.hid hR1
      have hHZ := Lib.hid hz
      have HWE := Lib.hid hwe
      have HM := Lib.hid hm
      have hi4 : wrap64 (4 * (k : Int)) = 4 * (k : Int) := by simp [wrap64]; omega
      have HK : Hid (q = (oid - 1) / 62 ∧ k < 62) := Lib.hid ⟨HQQ.out, hk2⟩
      clear hL hx hbl hR1 hz hBw hz1 hz2 hwe hm HE HWF HW HD
      by_cases heq : q * 62 + 1 + k = oid
      · have heq1 : (q : Int) * 62 + 1 + (k : Int) = (oid : Int) := by omega
        rw [heq1] at hL1
        go_upto_region 9 with fail
        have HXW := HPA
        have HXZ : Hid (pa = 0 ∧ sa = 0 → m = 0 → (k + 1 ≤ (oid - 1) % 62 ∨ (pa = 0 ∧ sa = 0)) ∧ NoneB E q oid (k + 1)) := Lib.hid fun h h0 => ⟨.inr h, fun j hj hne => (hHZ.out h0).2 j (Nat.lt_of_le_of_ne (by omega) (fun e => hne (by rw [e]; exact heq))) hne⟩
        have hnew := cell_new wr #[.int .i64 pa, .int .i64 sa] 62
        have hc0 := hnew 0
        have hc1 := hnew 1
        have hbx : Below wr.heap.size wr (wr.alloc (.cells #[.int .i64 pa, .int .i64 sa] 62)) := Below.allocs (Below.refl _ _) _
        have hlx : wr.heap.size < (wr.alloc (.cells #[.int .i64 pa, .int .i64 sa] 62)).heap.size := by simp
        have hEQ := eq62d HXW.out.1 HXW.out.2 wf0 wf0 (wr.alloc (.cells #[.int .i64 pa, .int .i64 sa] 62))
        have hrx : ByR (wr.alloc (.cells #[.int .i64 pa, .int .i64 sa] 62)) w.heap.size u8 m := hHR.out.keep hbx (Nat.le_refl _)
        have FL := fill_ok hrx (m := 4 * k) HM.out (by omega)
        clear hnew
        generalize wr.alloc (.cells #[.int .i64 pa, .int .i64 sa] 62) = Wx at hc0 hc1 hbx hlx hEQ hrx FL ⊢
        have HBX := Lib.hid hbx
        have HRX := Lib.hid hrx
        clear hbx hrx
        have hcc0 : Wx.cell? ⟨wr.heap.size, 0, none⟩ = some (.int .i64 pa) := by rw [hc0]; rfl
        have hcc1 : Wx.cell? ⟨wr.heap.size, 1, none⟩ = some (.int .i64 sa) := by rw [hc1]; rfl
        clear hc0 hc1 hL1
        by_cases hzz : pa = 0 ∧ sa = 0
        · rw [decide_eq_true hzz] at hEQ
          have HZZ := Lib.hid hzz
          clear hzz FL hi4
          go_wp2_with fail
          have hbu := Below.up hHB.out HBX.out
          refine ⟨⟨k + 1, m, by simp, by omega, HRX.out, by have := HM.out; omega, HXZ.out HZZ.out, ⟨hbu.os, hbu.tape, hbu.output, hbu.size, hbu.block⟩⟩, by simp [Go.RowKit.intOf]; omega⟩
        · rw [decide_eq_false hzz] at hEQ
          clear hzz
          obtain ⟨n0, hn0l, hn0⟩ := u64_nat pa
          obtain ⟨n1, hn1l, hn1⟩ := u64_nat sa
          rw [show ((4 * k : Nat) : Int) = 4 * (k : Int) by omega] at FL
          have HN : Hid (n0 < 2 ^ 64 ∧ n1 < 2 ^ 64) := Lib.hid ⟨hn0l, hn1l⟩
          clear hn0l hn1l
          go_upto_region 11 with (go_at_call 53; refine FL.mono ?_; rintro e w6 ⟨⟨v', rfl, hr6⟩, hb6⟩)
          have hws6 : w.heap.size ≤ w6.heap.size := by have := HBX.out.size; have := hHB.out.size; have := hb6.size; omega
          have HS := Lib.hid (fun x (hx : Below w6.heap.size w6 x) => (⟨Lib.hid hx, (hx.cell (p := ⟨wr.heap.size, 0, none⟩) (Nat.lt_of_lt_of_le hlx hb6.size)).trans ((hb6.cell (p := ⟨wr.heap.size, 0, none⟩) hlx).trans hcc0), (hx.cell (p := ⟨wr.heap.size, 1, none⟩) (Nat.lt_of_lt_of_le hlx hb6.size)).trans ((hb6.cell (p := ⟨wr.heap.size, 1, none⟩) hlx).trans hcc1)⟩ : Hid (Below w6.heap.size w6 x) ∧ x.cell? ⟨wr.heap.size, 0, none⟩ = some (.int .i64 pa) ∧ x.cell? ⟨wr.heap.size, 1, none⟩ = some (.int .i64 sa)))
          have HP1 := Lib.hid (fun x (hx : Below w6.heap.size w6 x) => (hP x w.heap.size (4 * k) 2 v' n0 (hr6.keep hx (by have := HBX.out.size; have := hHB.out.size; omega)) (by have := HK.out.2; omega) (.inl rfl) HN.out.1).mono (R' := fun e w' => ∃ v2, e = .returned v2 ∧ Hid (ByR w' w.heap.size v2 (4 * k + 2)) ∧ Below w6.heap.size w6 w') fun e w' ⟨⟨v2, h1, h2⟩, h3⟩ => ⟨v2, h1, Lib.hid (h2.base (Nat.le_trans hws6 hx.size)), Below.up hx h3⟩)
          have HP2 := Lib.hid (fun x v2 (hr : Hid (ByR x w.heap.size v2 (4 * k + 2))) (hx : Below w6.heap.size w6 x) => (hP x w.heap.size (4 * k + 2) 2 v2 n1 hr.out (by have := HK.out.2; omega) (.inl rfl) HN.out.2).mono (R' := fun e w' => ∃ v3, e = .returned v3 ∧ Hid (ByR w' w.heap.size v3 (4 * k + 4)) ∧ Below w6.heap.size w6 w') fun e w' ⟨⟨v3, h1, h2⟩, h3⟩ => ⟨v3, h1, Lib.hid (h2.base (Nat.le_trans hws6 hx.size)), Below.up hx h3⟩)
          have HB6 := Lib.hid hb6
          obtain ⟨_, hy0, hy1⟩ := HS.out w6 (Below.refl _ _)
          have hl6 : wr.heap.size < w6.heap.size := Nat.lt_of_lt_of_le hlx hb6.size
          clear hr6 hb6 hcc0 hcc1 FL hEQ
          go_wp2_with fail
          go_region_held3 (fun x => Hid (Below w6.heap.size w6 x) ∧ x.cell? ⟨wr.heap.size, 0, none⟩ = some (.int .i64 pa) ∧ x.cell? ⟨wr.heap.size, 1, none⟩ = some (.int .i64 sa))
            ((refine HS.out _ ?_; (repeat (first | exact Below.refl _ _ | assumption | refine Below.drew ?_ | refine Below.allocs ?_ _))))
            ((first
              | (go_at_call_of 54 v'; refine (HP1.out _ ?_).mono ?_; (repeat (first | exact Below.refl _ _ | assumption | refine Below.drew ?_ | refine Below.allocs ?_ _)); rintro e w7 ⟨v2, rfl, hr7, hb7⟩)
              | (go_at_call 54; refine (HP2.out _ _ (by assumption) ?_).mono ?_; (repeat (first | exact Below.refl _ _ | assumption | refine Below.drew ?_ | refine Below.allocs ?_ _)); rintro e w8 ⟨v3, rfl, hr8, hb8⟩)))
          go_wp2_with fail
          have hbu := Below.up (Below.up (Below.up hHB.out HBX.out) HB6.out) hb8
          refine ⟨⟨k + 1, 4 * k + 4, by simp, by omega, hr8.out, by omega, fun h => by omega, ⟨hbu.os, hbu.tape, hbu.output, hbu.size, hbu.block⟩⟩, by simp [Go.RowKit.intOf]; omega⟩
      · have heq1 : ¬ (q : Int) * 62 + 1 + (k : Int) = (oid : Int) := by omega
        go_upto_region 9 with fail
        have HXW := HWE
        have HXZ : Hid (pe = 0 ∧ se = 0 → m = 0 → (k + 1 ≤ (oid - 1) % 62 ∨ (pa = 0 ∧ sa = 0)) ∧ NoneB E q oid (k + 1)) := Lib.hid fun h h0 => ⟨(hHZ.out h0).1.elim (fun h => .inl (by have := HK.out; omega)) .inr, fun j hj hne => (Nat.lt_or_eq_of_le (Nat.le_of_lt_succ hj)).elim (fun hlt => (hHZ.out h0).2 j hlt hne) (fun e => by rw [e]; exact HNZ.out h)⟩
        have hnew := cell_new wr #[.int .i64 pe, .int .i64 se] 62
        have hc0 := hnew 0
        have hc1 := hnew 1
        have hbx : Below wr.heap.size wr (wr.alloc (.cells #[.int .i64 pe, .int .i64 se] 62)) := Below.allocs (Below.refl _ _) _
        have hlx : wr.heap.size < (wr.alloc (.cells #[.int .i64 pe, .int .i64 se] 62)).heap.size := by simp
        have hEQ := eq62d HXW.out.1 HXW.out.2 wf0 wf0 (wr.alloc (.cells #[.int .i64 pe, .int .i64 se] 62))
        have hrx : ByR (wr.alloc (.cells #[.int .i64 pe, .int .i64 se] 62)) w.heap.size u8 m := hHR.out.keep hbx (Nat.le_refl _)
        have FL := fill_ok hrx (m := 4 * k) HM.out (by omega)
        clear hnew
        generalize wr.alloc (.cells #[.int .i64 pe, .int .i64 se] 62) = Wx at hc0 hc1 hbx hlx hEQ hrx FL ⊢
        have HBX := Lib.hid hbx
        have HRX := Lib.hid hrx
        clear hbx hrx
        have hcc0 : Wx.cell? ⟨wr.heap.size, 0, none⟩ = some (.int .i64 pe) := by rw [hc0]; rfl
        have hcc1 : Wx.cell? ⟨wr.heap.size, 1, none⟩ = some (.int .i64 se) := by rw [hc1]; rfl
        clear hc0 hc1 hL1
        by_cases hzz : pe = 0 ∧ se = 0
        · rw [decide_eq_true hzz] at hEQ
          have HZZ := Lib.hid hzz
          clear hzz FL hi4
          go_wp2_with fail
          have hbu := Below.up hHB.out HBX.out
          refine ⟨⟨k + 1, m, by simp, by omega, HRX.out, by have := HM.out; omega, HXZ.out HZZ.out, ⟨hbu.os, hbu.tape, hbu.output, hbu.size, hbu.block⟩⟩, by simp [Go.RowKit.intOf]; omega⟩
        · rw [decide_eq_false hzz] at hEQ
          clear hzz
          obtain ⟨n0, hn0l, hn0⟩ := u64_nat pe
          obtain ⟨n1, hn1l, hn1⟩ := u64_nat se
          rw [show ((4 * k : Nat) : Int) = 4 * (k : Int) by omega] at FL
          have HN : Hid (n0 < 2 ^ 64 ∧ n1 < 2 ^ 64) := Lib.hid ⟨hn0l, hn1l⟩
          clear hn0l hn1l
          go_upto_region 11 with (go_at_call 53; refine FL.mono ?_; rintro e w6 ⟨⟨v', rfl, hr6⟩, hb6⟩)
          have hws6 : w.heap.size ≤ w6.heap.size := by have := HBX.out.size; have := hHB.out.size; have := hb6.size; omega
          have HS := Lib.hid (fun x (hx : Below w6.heap.size w6 x) => (⟨Lib.hid hx, (hx.cell (p := ⟨wr.heap.size, 0, none⟩) (Nat.lt_of_lt_of_le hlx hb6.size)).trans ((hb6.cell (p := ⟨wr.heap.size, 0, none⟩) hlx).trans hcc0), (hx.cell (p := ⟨wr.heap.size, 1, none⟩) (Nat.lt_of_lt_of_le hlx hb6.size)).trans ((hb6.cell (p := ⟨wr.heap.size, 1, none⟩) hlx).trans hcc1)⟩ : Hid (Below w6.heap.size w6 x) ∧ x.cell? ⟨wr.heap.size, 0, none⟩ = some (.int .i64 pe) ∧ x.cell? ⟨wr.heap.size, 1, none⟩ = some (.int .i64 se)))
          have HP1 := Lib.hid (fun x (hx : Below w6.heap.size w6 x) => (hP x w.heap.size (4 * k) 2 v' n0 (hr6.keep hx (by have := HBX.out.size; have := hHB.out.size; omega)) (by have := HK.out.2; omega) (.inl rfl) HN.out.1).mono (R' := fun e w' => ∃ v2, e = .returned v2 ∧ Hid (ByR w' w.heap.size v2 (4 * k + 2)) ∧ Below w6.heap.size w6 w') fun e w' ⟨⟨v2, h1, h2⟩, h3⟩ => ⟨v2, h1, Lib.hid (h2.base (Nat.le_trans hws6 hx.size)), Below.up hx h3⟩)
          have HP2 := Lib.hid (fun x v2 (hr : Hid (ByR x w.heap.size v2 (4 * k + 2))) (hx : Below w6.heap.size w6 x) => (hP x w.heap.size (4 * k + 2) 2 v2 n1 hr.out (by have := HK.out.2; omega) (.inl rfl) HN.out.2).mono (R' := fun e w' => ∃ v3, e = .returned v3 ∧ Hid (ByR w' w.heap.size v3 (4 * k + 4)) ∧ Below w6.heap.size w6 w') fun e w' ⟨⟨v3, h1, h2⟩, h3⟩ => ⟨v3, h1, Lib.hid (h2.base (Nat.le_trans hws6 hx.size)), Below.up hx h3⟩)
          have HB6 := Lib.hid hb6
          obtain ⟨_, hy0, hy1⟩ := HS.out w6 (Below.refl _ _)
          have hl6 : wr.heap.size < w6.heap.size := Nat.lt_of_lt_of_le hlx hb6.size
          clear hr6 hb6 hcc0 hcc1 FL hEQ
          go_wp2_with fail
          go_region_held3 (fun x => Hid (Below w6.heap.size w6 x) ∧ x.cell? ⟨wr.heap.size, 0, none⟩ = some (.int .i64 pe) ∧ x.cell? ⟨wr.heap.size, 1, none⟩ = some (.int .i64 se))
            ((refine HS.out _ ?_; (repeat (first | exact Below.refl _ _ | assumption | refine Below.drew ?_ | refine Below.allocs ?_ _))))
            ((first
              | (go_at_call_of 54 v'; refine (HP1.out _ ?_).mono ?_; (repeat (first | exact Below.refl _ _ | assumption | refine Below.drew ?_ | refine Below.allocs ?_ _)); rintro e w7 ⟨v2, rfl, hr7, hb7⟩)
              | (go_at_call 54; refine (HP2.out _ _ (by assumption) ?_).mono ?_; (repeat (first | exact Below.refl _ _ | assumption | refine Below.drew ?_ | refine Below.allocs ?_ _)); rintro e w8 ⟨v3, rfl, hr8, hb8⟩)))
          go_wp2_with fail
          have hbu := Below.up (Below.up (Below.up hHB.out HBX.out) HB6.out) hb8
          refine ⟨⟨k + 1, 4 * k + 4, by simp, by omega, hr8.out, by omega, fun h => by omega, ⟨hbu.os, hbu.tape, hbu.output, hbu.size, hbu.block⟩⟩, by simp [Go.RowKit.intOf]; omega⟩
end Go.Tb
namespace Go.Tb
open Go Go.RowKit Go.Proofs Go.Maps
theorem SpV.move {B : Nat} {w w' : World} {b : Blk} {D : DataW Value} {n : Nat} {fo : Nat → Nat} {K : Nat → Prop} (H : SpV B w b D n fo K) (P : Nat → Prop) (hP : ∀ k, P k → K k ∧ ¬ OnceV w k ∧ k ≠ b.sb ∧ k ≠ b.db ∧ k ≠ b.cb ∧ k ≠ b.fb ∧ k ≠ b.ob ∧ k ≠ b.rb)
    (hs : ∀ k, k < w.heap.size → ¬ P k → w'.heap[k]? = w.heap[k]?) (hz : w.heap.size ≤ w'.heap.size) : SpV B w' b D n fo K := by
  have hsb : b.sb < w.heap.size := H.cv.ks _ H.ks
  have hdb : b.db < w.heap.size := H.cv.ks _ H.cv.kd
  have hob : b.ob < w.heap.size := H.cv.ks _ H.ko
  have hrb : b.rb < w.heap.size := H.cv.ks _ H.kr
  have e1 := hs b.sb hsb (fun h => (hP _ h).2.2.1 rfl)
  have e2 := hs b.db hdb (fun h => (hP _ h).2.2.2.1 rfl)
  have e3 := hs b.ob hob (fun h => (hP _ h).2.2.2.2.2.2.1 rfl)
  have e4 := hs b.rb hrb (fun h => (hP _ h).2.2.2.2.2.2.2 rfl)
  have hc := fun o => (cell_of_heap (a := ⟨b.sb, o, none⟩) e1).1
  have hz' := fun o => (cell_of_heap (a := ⟨b.sb, o, none⟩) e1).2
  have hd := fun o => (cell_of_heap (a := ⟨b.db, o, none⟩) e2).1
  obtain ⟨kb, k1, k2, k3, k4, k5⟩ := H.s15
  have e5 := hs kb k2.lt (fun h => (hP _ h).2.1 k2)
  exact { s0 := (hc _).trans H.s0, s1 := (hc _).trans H.s1, sp := fun i hi => (hc _).trans (H.sp i hi), s13 := (hc _).trans H.s13, s14 := (hc _).trans H.s14, s15 := ⟨kb, (hc _).trans k1, k2.same e5, k3, k4, k5⟩, s16 := (by obtain ⟨v, h⟩ := H.s16; exact ⟨v, (hc _).trans h⟩), sz := fun o ho => (hz' o).trans (H.sz o ho), d0 := (by obtain ⟨a, c, h⟩ := H.d0; exact ⟨a, c, (hd _).trans h⟩), d2 := (hd _).trans H.d2, cv := H.cv.besides P (fun k h => (hP k h).1) (fun h => (hP _ h).2.2.2.2.1 rfl) (fun h => (hP _ h).2.2.2.2.2.1 rfl) hs hz, mo := H.mo.keep e3, mr := H.mr.keep e4, ks := H.ks, ko := H.ko, kr := H.kr, Bs := H.Bs, Bo := H.Bo, nd := H.nd, fs := H.fs }
theorem SpV.below {B : Nat} {w w' : World} {b : Blk} {D : DataW Value} {n : Nat} {fo : Nat → Nat} {K : Nat → Prop} (H : SpV B w b D n fo K) (hb : Below w.heap.size w w') : SpV B w' b D n fo K :=
  H.move (fun _ => False) (fun _ h => h.elim) (fun k hk _ => hb.block k hk) hb.size
structure TbV (B : Nat) (w : World) (tb eb : Nat) (b : Blk) (E : DataW Value) (n : Nat) (D : DataW Value) (nf : Nat) (fo : Nat → Nat) (K : Nat → Prop) : Prop where
  t0 : w.cell? ⟨tb, 0, none⟩ = some (.pointer (some ⟨b.sb, 0, none⟩))
  t1 : w.cell? ⟨tb, 1, none⟩ = some (.map (some eb))
  ev : EV w eb E n
  wf : ∀ (x : Int) (p s : Int), (∀ z, E.atKey (.int .i64 x) z = .held (.agg #[.int .i64 p, .int .i64 s])) → (Lit.int .i64 p).wf = true ∧ (Lit.int .i64 s).wf = true ∧ p ≠ 0
  sp : SpV B w b D nf fo K
  kt : K tb
  ke : K eb
  nt : ∀ y ∈ [b.sb, b.db, b.cb, b.fb, b.ob, b.rb], y ≠ tb ∧ y ≠ eb
  Be : B ≤ eb
  cov : ∀ x : Nat, Maps.has E (.int .i64 (x : Int)) = true → 1 ≤ x ∧ fo ((x - 1) / 62) ≠ 0
theorem TbV.notOnce {B : Nat} {w : World} {tb eb : Nat} {b : Blk} {E : DataW Value} {n : Nat} {D : DataW Value} {nf : Nat} {fo : Nat → Nat} {K : Nat → Prop} (H : TbV B w tb eb b E n D nf fo K) : ¬ OnceV w tb ∧ ¬ OnceV w eb := by
  refine ⟨fun h => ?_, fun h => ?_⟩
  · have := h.c0.1; rw [H.t0] at this; cases this
  · obtain ⟨es, ck, hb, _⟩ := H.ev.own
    have h1 := h.1; simp [World.cell?, hb] at h1
theorem TbV.nes {B : Nat} {w : World} {tb eb : Nat} {b : Blk} {E : DataW Value} {n : Nat} {D : DataW Value} {nf : Nat} {fo : Nat → Nat} {K : Nat → Prop} (H : TbV B w tb eb b E n D nf fo K) :
    (tb ≠ b.sb ∧ tb ≠ b.db ∧ tb ≠ b.cb ∧ tb ≠ b.fb ∧ tb ≠ b.ob ∧ tb ≠ b.rb) ∧ (eb ≠ b.sb ∧ eb ≠ b.db ∧ eb ≠ b.cb ∧ eb ≠ b.fb ∧ eb ≠ b.ob ∧ eb ≠ b.rb) := by
  have h := H.nt
  simp only [List.mem_cons, List.not_mem_nil, or_false] at h
  have a1 := h b.sb (by simp); have a2 := h b.db (by simp); have a3 := h b.cb (by simp); have a4 := h b.fb (by simp); have a5 := h b.ob (by simp); have a6 := h b.rb (by simp)
  exact ⟨⟨a1.1.symm, a2.1.symm, a3.1.symm, a4.1.symm, a5.1.symm, a6.1.symm⟩, a1.2.symm, a2.2.symm, a3.2.symm, a4.2.symm, a5.2.symm, a6.2.symm⟩
theorem TbV.below {B : Nat} {w w' : World} {tb eb : Nat} {b : Blk} {E : DataW Value} {n : Nat} {D : DataW Value} {nf : Nat} {fo : Nat → Nat} {K : Nat → Prop} (H : TbV B w tb eb b E n D nf fo K) (hb : Below w.heap.size w w') : TbV B w' tb eb b E n D nf fo K :=
  { t0 := cells_below hb _ _ H.t0, t1 := cells_below hb _ _ H.t1, ev := H.ev.same (hb.block eb H.ev.own.lt), wf := H.wf, sp := H.sp.below hb, kt := H.kt, ke := H.ke, nt := H.nt, Be := H.Be, cov := H.cov }
theorem Below.down {B : Nat} {w w' : World} (h : Below w.heap.size w w') (hB : B ≤ w.heap.size) : Below B w w' := ⟨h.os, h.tape, h.output, h.size, fun k hk => h.block k (Nat.lt_of_lt_of_le hk hB)⟩
def LayP (E : DataW Value) (fo fo' : Nat → Nat) (q oid nf nf' : Nat) (z : Prop) : Prop :=
  (fo q ≠ 0 ∧ nf' = nf ∧ fo' = fo) ∨ (fo q = 0 ∧ nf' ≤ nf + 1 ∧ ∃ s, 0 < s ∧ fo' = fun k => if k = q then s else fo k) ∨ (z ∧ NoneB E q oid 62 ∧ nf' = nf ∧ fo' = fun k => if k = q then 0 else fo k)
theorem lay_sp (hF : Fours) (hP : PutC) {B : Nat} {w : World} {tb eb : Nat} {b : Blk} {E : DataW Value} {n : Nat} {D : DataW Value} {nf : Nat} {fo : Nat → Nat} {K : Nat → Prop} (H : TbV B w tb eb b E n D nf fo K) {x : Nat} (hx : 1 ≤ x ∧ x ≤ 310) {pa sa : Int} (hpa : (Lit.int .i64 pa).wf = true) (hsa : (Lit.int .i64 sa).wf = true) (hn : nf < 20) (hq : pa = 0 ∧ sa = 0 → fo ((x - 1) / 62) ≠ 0) :
    Calls Tryz.prog 25 #[.pointer (some ⟨tb, 0, none⟩), .int .i64 (x : Int), .agg #[.int .i64 pa, .int .i64 sa]] w fun e w' => e = .returned (.int .i64 0) ∧ ∃ D' nf' fo', SpV B w' b D' nf' fo' K ∧ Below B w w' ∧ (∀ k, K k → ¬ OnceV w k → k ≠ b.sb → k ≠ b.cb → k ≠ b.fb → k ≠ b.ob → w'.heap[k]? = w.heap[k]?) ∧ LayP E fo fo' ((x - 1) / 62) x nf nf' (pa = 0 ∧ sa = 0) := by
  have hq5 : (x - 1) / 62 < 5 := by omega
  have hBw : B ≤ w.heap.size := Nat.le_trans H.sp.Bs (Nat.le_of_lt (H.sp.cv.ks _ H.sp.ks))
  obtain ⟨⟨t1, t2, t3, t4, t5, t6⟩, u1, u2, u3, u4, u5, u6⟩ := H.nes
  have hks := H.sp.cv.ks
  refine lay_ok hP H.t0 H.t1 H.ev H.wf (by omega) hpa hsa ?_ ?_ (fun e w' h => ⟨_, h.1⟩)
  · intro w1 v m hb hv h0 hm
    have H1 := H.below hb
    have hno : ∀ k, K k → ¬ OnceV w k → ¬ OnceV w1 k := fun k hk h h1 => h (h1.same (hb.block k (hks k hk)).symm)
    by_cases hf : fo ((x - 1) / 62) = 0
    · refine (swrite_new hF hP H1.sp hn hq5 hf hv h0 hm).mono ?_
      rintro e w' ⟨rfl, D', n', s, hs, hn', hS, hB, hfr⟩
      exact ⟨rfl, D', n', _, hS, (Below.down hb hBw).trans hB, fun k hk ho k1 k2 k3 k4 => (hfr k hk (hno k hk ho) k2 k3 k1 k4).trans (hb.block k (hks k hk)), .inr (.inl ⟨hf, hn', s, hs, rfl⟩)⟩
    · refine (swrite_old hF hP H1.sp hn (by omega) (by omega) hv h0 hm).mono ?_
      rintro e w' ⟨rfl, D', hS, hB, hfr⟩
      exact ⟨rfl, D', nf, fo, hS, (Below.down hb hBw).trans hB, fun k hk ho k1 k2 k3 k4 => (hfr k hk k2 k3).trans (hb.block k (hks k hk)), .inl ⟨hf, rfl, rfl⟩⟩
  · intro w1 hb hz hnb
    have H1 := H.below hb
    refine (drop_ok H1.sp (by omega) (Nat.pos_of_ne_zero (hq hz))).mono ?_
    rintro e w' ⟨rfl, hS, hB, hfr⟩
    exact ⟨rfl, D, nf, _, hS, (Below.down hb hBw).trans hB, fun k hk ho k1 k2 k3 k4 => (hfr k hk k1 k4).trans (hb.block k (hks k hk)), .inr (.inr ⟨hz, hnb, rfl, rfl⟩)⟩
theorem SpV.more {B : Nat} {w : World} {b : Blk} {D : DataW Value} {n : Nat} {fo : Nat → Nat} {K : Nat → Prop} (H : SpV B w b D n fo K) {g : Nat} (hg : g < w.heap.size) (hf : ∀ x b', Maps.has D (.int .i64 x) = true → (∀ z, D.atKey (.int .i64 x) z = .held (.pointer (some ⟨b', 0, none⟩))) → b' ≠ g) : SpV B w b D n fo (fun k => K k ∨ k = g) :=
  { s0 := H.s0, s1 := H.s1, sp := H.sp, s13 := H.s13, s14 := H.s14, s15 := H.s15, s16 := H.s16, sz := H.sz, d0 := H.d0, d2 := H.d2, cv := H.cv.more hg hf, mo := H.mo, mr := H.mr, ks := .inl H.ks, ko := .inl H.ko, kr := .inl H.kr, Bs := H.Bs, Bo := H.Bo, nd := H.nd, fs := H.fs }
theorem SpV.less {B : Nat} {w : World} {b : Blk} {D : DataW Value} {n : Nat} {fo : Nat → Nat} {K K' : Nat → Prop} (H : SpV B w b D n fo K) (hk : ∀ k, K' k → K k) (k1 : K' b.sb) (k2 : K' b.ob) (k3 : K' b.rb) (k4 : K' b.cb) (k5 : K' b.fb) (k6 : K' b.db) : SpV B w b D n fo K' :=
  { s0 := H.s0, s1 := H.s1, sp := H.sp, s13 := H.s13, s14 := H.s14, s15 := H.s15, s16 := H.s16, sz := H.sz, d0 := H.d0, d2 := H.d2, cv := H.cv.less hk k4 k5 k6, mo := H.mo, mr := H.mr, ks := k1, ko := k2, kr := k3, Bs := H.Bs, Bo := H.Bo, nd := H.nd, fs := H.fs }
theorem TbV.newer {B : Nat} {w w' : World} {tb eb : Nat} {b : Blk} {E : DataW Value} {n : Nat} {D : DataW Value} {nf : Nat} {fo : Nat → Nat} {K : Nat → Prop} (H : TbV B w tb eb b E n D nf fo K) (hb : Below w.heap.size w w') {g : Nat} (hg : w.heap.size ≤ g) (hg2 : g < w'.heap.size) : TbV B w' tb eb b E n D nf fo (fun k => K k ∨ k = g) :=
  have H1 := H.below hb
  { t0 := H1.t0, t1 := H1.t1, ev := H1.ev, wf := H1.wf, kt := .inl H.kt, ke := .inl H.ke, nt := H.nt, Be := H.Be, cov := H.cov
    sp := H1.sp.more hg2 (fun x b' hx' hat e => by
      obtain ⟨b2, k1, k2, k3, k4⟩ := H.sp.cv.fr x hx'
      have h5 := hat .nil
      rw [k1] at h5
      injection h5 with h5; injection h5 with h5; injection h5 with h5; injection h5 with h5
      have := k4.lt
      omega) }
theorem lay_at (hF : Fours) (hP : PutC) {B : Nat} {w W : World} {tb eb : Nat} {b : Blk} {E : DataW Value} {n : Nat} {D : DataW Value} {nf : Nat} {fo : Nat → Nat} {K : Nat → Prop} (H : TbV B w tb eb b E n D nf fo K) (hb : Below w.heap.size w W) {g : Nat} (hg : w.heap.size ≤ g) (hg2 : g < W.heap.size) (hgo : ¬ OnceV W g) {x : Nat} (hx : 1 ≤ x ∧ x ≤ 310) {pa sa : Int} (hpa : (Lit.int .i64 pa).wf = true) (hsa : (Lit.int .i64 sa).wf = true) (hn : nf < 20) (hq : pa = 0 ∧ sa = 0 → fo ((x - 1) / 62) ≠ 0) :
    Calls Tryz.prog 25 #[.pointer (some ⟨tb, 0, none⟩), .int .i64 (x : Int), .agg #[.int .i64 pa, .int .i64 sa]] W fun e w' => e = .returned (.int .i64 0) ∧ ∃ D' nf' fo', SpV B w' b D' nf' fo' K ∧ Below B w w' ∧ w'.heap[tb]? = w.heap[tb]? ∧ w'.heap[eb]? = w.heap[eb]? ∧ w'.heap[g]? = W.heap[g]? ∧ LayP E fo fo' ((x - 1) / 62) x nf nf' (pa = 0 ∧ sa = 0) := by
  have H1 := H.newer hb hg hg2
  have hBw : B ≤ w.heap.size := Nat.le_trans H.sp.Bs (Nat.le_of_lt (H.sp.cv.ks _ H.sp.ks))
  obtain ⟨⟨t1, t2, t3, t4, t5, t6⟩, u1, u2, u3, u4, u5, u6⟩ := H.nes
  have hno := (H.below hb).notOnce
  have hks := H.sp.cv.ks
  have k1 := hks _ H.sp.ks; have k2 := hks _ H.sp.ko; have k3 := hks _ H.sp.cv.kc; have k4 := hks _ H.sp.cv.kf
  refine (lay_sp hF hP H1 hx hpa hsa hn hq).mono ?_
  rintro e w' ⟨rfl, D', nf', fo', hS, hB, hfr, hL⟩
  refine ⟨rfl, D', nf', fo', hS.less (fun k h => .inl h) H.sp.ks H.sp.ko H.sp.kr H.sp.cv.kc H.sp.cv.kf H.sp.cv.kd, (Below.down hb hBw).trans hB, ?_, ?_, ?_, hL⟩
  · exact (hfr tb (.inl H.kt) hno.1 t1 t3 t4 t5).trans (hb.block tb (cell_lt' H.t0))
  · exact (hfr eb (.inl H.ke) hno.2 u1 u3 u4 u5).trans (hb.block eb H.ev.own.lt)
  · exact hfr g (.inr rfl) hgo (by omega) (by omega) (by omega) (by omega)
end Go.Tb
namespace Go.Tb
open Go Go.RowKit Go.Proofs Go.Maps
theorem wf_n {n : Nat} (h : n < 2 ^ 62) : (Lit.int .i64 (n : Int)).wf = true := wf_nat h
theorem tset_ok (hF : Fours) (hP : PutC) {B : Nat} {w : World} {tb eb : Nat} {b : Blk} {E : DataW Value} {n : Nat} {D : DataW Value} {nf : Nat} {fo : Nat → Nat} {K : Nat → Prop} (H : TbV B w tb eb b E n D nf fo K) {x pg sl : Nat} (hx : 1 ≤ x ∧ x ≤ 310) (hp : 265 ≤ pg ∧ pg < 1024) (hs : sl ≤ 65535) (hn : nf < 20) (hne : n < 1000000) :
    Calls Tryz.prog 10 #[.pointer (some ⟨tb, 0, none⟩), .int .i64 (x : Int), .int .i64 (pg : Int), .int .i64 (sl : Int)] w fun e w' => e = .returned (.int .i64 0) ∧ ∃ D' nf' fo', TbV B w' tb eb b (E.put (.int .i64 (x : Int)) (.held (.agg #[.int .i64 (pg : Int), .int .i64 (sl : Int)]))) (n + 1) D' nf' fo' K ∧ Below B w w' ∧ LayP E fo fo' ((x - 1) / 62) x nf nf' False := by
  have hBw : B ≤ w.heap.size := Nat.le_trans H.sp.Bs (Nat.le_of_lt (H.sp.cv.ks _ H.sp.ks))
  have i1 : ¬ (x : Int) < 1 := by omega
  have i2 : ¬ (16384 : Int) < (x : Int) := by omega
  have hz0 : ¬ ((pg : Int) = 0 ∧ (sl : Int) = 0) := by omega
  have HL := Lib.hid (fun W (hb : Below w.heap.size w W) (hg2 : w.heap.size < W.heap.size) (hgo : ¬ OnceV W w.heap.size) => lay_at hF hP H hb (Nat.le_refl _) hg2 hgo hx (pa := (pg : Int)) (sa := (sl : Int)) (wf_n (by omega)) (wf_n (by omega)) hn (fun h => absurd h hz0))
  have HH := Lib.hid H
  have HX := Lib.hid hx
  have HP : Hid (265 ≤ pg ∧ pg < 1024) := Lib.hid hp
  have HSL := Lib.hid hs
  have HNE := Lib.hid hne
  have HB := Lib.hid hBw
  clear H hx hp hs hne hBw hz0
  go_enter Tryz.func10, Tryz.ntmps10
  go_wp2_with (first
    | (go_at_call 24; refine (may24 _ _ _ HP.out HSL.out).mono ?_; rintro e w5 ⟨rfl, hb5⟩
       have c50 := (hb5.cell (p := ⟨w.heap.size, 0, none⟩) (by simp)).trans (cell_new w #[.int .i64 (pg : Int), .int .i64 (sl : Int)] 62 0)
       have c51 := (hb5.cell (p := ⟨w.heap.size, 1, none⟩) (by simp)).trans (cell_new w #[.int .i64 (pg : Int), .int .i64 (sl : Int)] 62 1)
       have l5 : w.heap.size < w5.heap.size := cell_lt' c50
       have hbw5 : Below w.heap.size w w5 := Below.trans (Below.allocs (Below.refl _ _) _) (Below.down hb5 (by simp))
       have HC5 : Hid (w5.cell? ⟨w.heap.size, 0, none⟩ = some (.int .i64 (pg : Int)) ∧ w5.cell? ⟨w.heap.size, 1, none⟩ = some (.int .i64 (sl : Int))) := Lib.hid ⟨c50, c51⟩
       have ho5 : ¬ OnceV w5 w.heap.size := fun h => by have := h.c0.1; rw [HC5.out.1] at this; cases this
       have HL5 := Lib.hid (HL.out w5 hbw5 l5 ho5)
       have HB5 := Lib.hid hbw5
       clear hb5 hbw5 ho5)
    | (go_at_call 25; refine HL5.out.mono ?_; rintro e w6 ⟨rfl, hr6⟩; have HR6 := Lib.hid hr6; clear hr6))
  obtain ⟨D', nf', fo', hS, hB6, htb, heb, hbox, hLay⟩ := HR6.out
  have lW := l5
  have tl : tb < w.heap.size := cell_lt' HH.out.t0
  have c61 : w6.cell? ⟨tb, 1, none⟩ = some (.map (some eb)) := (cell_of_heap (a := ⟨tb, 1, none⟩) htb).1.trans HH.out.t1
  have g60 : w6.cell? ⟨w.heap.size, 0, none⟩ = some (.int .i64 (pg : Int)) := (cell_of_heap (a := ⟨w.heap.size, 0, none⟩) hbox).1.trans HC5.out.1
  have g61 : w6.cell? ⟨w.heap.size, 1, none⟩ = some (.int .i64 (sl : Int)) := (cell_of_heap (a := ⟨w.heap.size, 1, none⟩) hbox).1.trans HC5.out.2
  have t61 := cell_lt' c61
  have b61 := cell_lt' g60
  have hown : w6.ownsMap Tryz.prog 3 heldR eb n E := by
    obtain ⟨es, ck, hb, hr⟩ := HH.out.ev.own
    exact ⟨es, ck, heb.trans hb, hr⟩
  have HOW := Lib.hid hown
  clear hS hB6 htb heb hbox hLay hown c50 c51
  go_still_tail 6, (by kernel_rfl)
  change wpList _ _ _ _ _ w6.drew
  have hown6 : w6.drew.ownsMap Tryz.prog 3 heldR eb n E := HOW.out
  refine wpList_mapUpdate_own _ rfl _ _ _ 55 rfl 3 62 key3 Tryz.underlying55 heldR eb _ _ rfl hown6 (Nat.lt_trans HNE.out (by decide)) (.int .i64 (x : Int)) (.agg #[.int .i64 (pg : Int), .int .i64 (sl : Int)]) _ rfl rfl (key_nat (by have := HX.out; omega)) (.held (.agg #[.int .i64 (pg : Int), .int .i64 (sl : Int)])) [] rfl ?_
  intro w7 hm7 hg7
  obtain ⟨D', nf', fo', hS, hB6, htb, heb, hbox, hLay⟩ := HR6.out
  have HTB : Hid (TbV B w7 tb eb b (E.put (.int .i64 (x : Int)) (.held (.agg #[.int .i64 (pg : Int), .int .i64 (sl : Int)]))) (n + 1) D' nf' fo' K ∧ Below B w w7) := Lib.hid (by
    have hH := HH.out
    have hisM := hH.ev.own.isMap
    have hkl : WideAt.IsKeyLit (.int .i64 (x : Int)) := trivial
    obtain ⟨⟨t1, t2, t3, t4, t5, t6⟩, u1, u2, u3, u4, u5, u6⟩ := hH.nes
    have hno := hH.notOnce
    have hks := hH.sp.cv.ks
    have hbk : ∀ k, k < w6.heap.size → k ≠ eb → w7.heap[k]? = w6.heap[k]? := fun k hk hne => hg7.block k hk (fun e => hne (by cases e; rfl))
    have hebw := hH.ev.own.lt
    have hsp7 : SpV B w7 b D' nf' fo' K := hS.move (fun k => k = eb) (fun k h => by subst h; exact ⟨hH.ke, fun h => hno.2 (h.same heb.symm), u1, u2, u3, u4, u5, u6⟩) (fun k hk hp => hbk k hk hp) hg7.size
    have hte : tb ≠ eb := fun e => by
      obtain ⟨es, ck, hb, _⟩ := hH.ev.own
      have := hH.t0
      rw [e] at this
      simp [World.cell?, hb] at this
    have htb7 := (hbk tb t61 hte).trans htb
    refine ⟨{ t0 := (cell_of_heap (a := ⟨tb, 0, none⟩) htb7).1.trans hH.t0, t1 := (cell_of_heap (a := ⟨tb, 1, none⟩) htb7).1.trans hH.t1, ev := ⟨hm7, fun y hy => ?_⟩, wf := fun y p s hy => ?_, sp := hsp7, kt := hH.kt, ke := hH.ke, nt := hH.nt, Be := hH.Be, cov := fun y hy => ?_ }, ?_⟩
    · by_cases e : y = (x : Int)
      · subst e; exact ⟨_, _, fun z => atKey_put_same hisM hkl _ _⟩
      · rw [has_put_other (lit_ne e)] at hy
        obtain ⟨p, s, h⟩ := hH.ev.val y hy
        exact ⟨p, s, fun z => (atKey_put_other (lit_ne e) _ _).trans (h z)⟩
    · by_cases e : y = (x : Int)
      · subst e
        have h1 := hy .nil
        rw [atKey_put_same hisM hkl] at h1
        injection h1 with h1; injection h1 with h1
        simp only [Array.mk.injEq, List.cons.injEq, Value.int.injEq, and_true, true_and] at h1
        obtain ⟨e1, e2⟩ := h1
        subst e1; subst e2
        have := HP.out; have := HSL.out
        exact ⟨wf_n (by omega), wf_n (by omega), by omega⟩
      · exact hH.wf y p s (fun z => (atKey_put_other (lit_ne e) _ _).symm.trans (hy z))
    · have hxx := HX.out
      by_cases e : (y : Int) = (x : Int)
      · have e' : y = x := by omega
        subst e'
        refine ⟨hxx.1, ?_⟩
        rcases hLay with ⟨h1, _, rfl⟩ | ⟨h1, _, s, hs, rfl⟩ | ⟨h1, _⟩
        · exact h1
        · simp only [if_pos]; omega
        · exact absurd h1 (by have := HP.out; omega)
      · rw [has_put_other (lit_ne e)] at hy
        obtain ⟨k1, k2⟩ := hH.cov y hy
        refine ⟨k1, ?_⟩
        rcases hLay with ⟨h1, _, rfl⟩ | ⟨h1, _, s, hs, rfl⟩ | ⟨h1, _⟩
        · exact k2
        · simp only []
          split
          · omega
          · exact k2
        · exact absurd h1 (by have := HP.out; omega)
    · exact hB6.trans ⟨hg7.os, hg7.tape, hg7.output, hg7.size, fun k hk => hbk k (by have := hB6.size; have := HB.out; omega) (fun e => by have := hH.Be; omega)⟩)
  have HLY : Hid (LayP E fo fo' ((x - 1) / 62) x nf nf' False) := Lib.hid (by
    rcases hLay with h | h | ⟨h, _⟩
    · exact .inl h
    · exact .inr (.inl h)
    · exact absurd h (by have := HP.out; omega))
  clear hS hB6 htb heb hbox hLay hm7 hg7 hown6
  go_wp2_with fail
  go_ret
  exact ⟨rfl, D', nf', fo', HTB.out.1, HTB.out.2, HLY.out⟩
end Go.Tb
namespace Go.Tb
open Go Go.RowKit Go.Proofs Go.Maps Go.ChangeMaps Go.MapKept
theorem wfz : (Lit.int .i64 0).wf = true := by decide
def ClearP (B : Nat) (w w' : World) (tb eb : Nat) (b : Blk) (E : DataW Value) (n nf : Nat) (K : Nat → Prop) : Prop := ∃ E' D' fo', TbV B w' tb eb b E' n D' nf fo' K ∧ Below B w w' ∧ ∀ y : Int, Maps.has E' (.int .i64 y) = true → Maps.has E (.int .i64 y) = true
theorem tclear_ok (hF : Fours) (hP : PutC) {B : Nat} {w : World} {tb eb : Nat} {b : Blk} {E : DataW Value} {n : Nat} {D : DataW Value} {nf : Nat} {fo : Nat → Nat} {K : Nat → Prop} (H : TbV B w tb eb b E n D nf fo K) {x : Nat} (hx : 1 ≤ x ∧ x ≤ 310) (hn : nf < 20) :
    Calls Tryz.prog 11 #[.pointer (some ⟨tb, 0, none⟩), .int .i64 (x : Int)] w fun e w' => (∃ c : Int, e = .returned (.int .i64 c)) ∧ ClearP B w w' tb eb b E n nf K := by
  have hBw : B ≤ w.heap.size := Nat.le_trans H.sp.Bs (Nat.le_of_lt (H.sp.cv.ks _ H.sp.ks))
  have i1 : ¬ (x : Int) < 1 := by omega
  have i2 : ¬ (16384 : Int) < (x : Int) := by omega
  obtain ⟨p, s, hlk⟩ := H.ev.look_ok (x := x) (by omega)
  have tl := cell_lt' H.t0
  have hL1 := hlk w rfl
  have c0 := H.t0
  have c1 := H.t1
  cases hh : Maps.has E (.int .i64 (x : Int)) with
  | false =>
    rw [hh] at hL1
    have HH := Lib.hid H
    have HB := Lib.hid hBw
    clear H hlk hx hn hBw
    go_enter Tryz.func11, Tryz.ntmps11
    go_wp2
    go_ret
    exact ⟨⟨_, rfl⟩, E, D, fo, HH.out.below (by (repeat (first | exact Below.refl _ _ | assumption | refine Below.drew ?_ | refine Below.alloc ?_ (by first | (simp; done) | (simp; omega)) _))), Below.down (by (repeat (first | exact Below.refl _ _ | assumption | refine Below.drew ?_ | refine Below.alloc ?_ (by first | (simp; done) | (simp; omega)) _))) HB.out, fun _ h => h⟩
  | true =>
    rw [hh] at hL1
    have hcov := (H.cov x hh).2
    have HL := Lib.hid (fun W (hb : Below w.heap.size w W) (hg2 : w.heap.size < W.heap.size) (hgo : ¬ OnceV W w.heap.size) => lay_at hF hP H hb (Nat.le_refl _) hg2 hgo hx (pa := 0) (sa := 0) wfz wfz hn (fun _ => hcov))
    have HH := Lib.hid H
    have HX := Lib.hid hx
    have HB := Lib.hid hBw
    have HHAS := Lib.hid hh
    clear H hlk hx hBw hh hcov
    go_enter Tryz.func11, Tryz.ntmps11
    have hb0 : Below w.heap.size w (w.alloc (.cells #[.int .i64 p, .int .i64 s] 62)) := Below.allocs (Below.refl _ _) _
    have hc0 := cell_new w #[.int .i64 p, .int .i64 s] 62 0
    have hl0 : w.heap.size < (w.alloc (.cells #[.int .i64 p, .int .i64 s] 62)).heap.size := by simp
    have ho0 : ¬ OnceV (w.alloc (.cells #[.int .i64 p, .int .i64 s] 62)) w.heap.size := fun h => by
      have h1 := h.c0.1
      rw [hc0] at h1
      simp at h1
    have HL0 := Lib.hid (HL.out _ hb0 hl0 ho0)
    clear hb0 hc0 hl0 ho0 HL
    go_wp2_with (first
      | (go_at_call 25; refine HL0.out.mono ?_; rintro e w6 ⟨rfl, hr6⟩; have HR6 := Lib.hid hr6; clear hr6
         have c61 : w6.cell? ⟨tb, 1, none⟩ = some (.map (some eb)) := (by
           obtain ⟨D', nf', fo', hS, hB6, htb, heb, hbox, hLay⟩ := HR6.out
           exact (cell_of_heap (a := ⟨tb, 1, none⟩) htb).1.trans c1)
         have t61 := cell_lt' c61
         have hown : w6.ownsMap Tryz.prog 3 heldR eb n E := (by
           obtain ⟨D', nf', fo', hS, hB6, htb, heb, hbox, hLay⟩ := HR6.out
           obtain ⟨es, ck, hb, hr⟩ := HH.out.ev.own
           exact ⟨es, ck, heb.trans hb, hr⟩)
         have HOW := Lib.hid hown
         clear hown)
      | (at_delete; refine wpList_delete_own _ rfl _ _ 55 3 rfl 62 key3 Tryz.underlying55 heldR eb _ _ rfl HOW.out (.int .i64 (x : Int)) _ rfl (key_nat (by have := HX.out; omega)) ?_; intro w7 hm7 hg7; have HM7 := Lib.hid hm7; have HG7 := Lib.hid hg7; clear hm7 hg7))
    go_ret
    refine ⟨⟨_, rfl⟩, ?_⟩
    obtain ⟨D', nf', fo', hS, hB6, htb, heb, hbox, hLay⟩ := HR6.out
    have hH := HH.out
    have hm7 := HM7.out
    obtain ⟨es, ck, es', ck', hes, rfl⟩ := HG7.out
    obtain ⟨⟨t1, t2, t3, t4, t5, t6⟩, u1, u2, u3, u4, u5, u6⟩ := hH.nes
    have hno := hH.notOnce
    have hbk : ∀ k, k ≠ eb → (setBlock w6 eb (.map es' ck')).heap[k]? = w6.heap[k]? := fun k hne => heap_setBlock_other hes _ hne
    have hsz : (setBlock w6 eb (.map es' ck')).heap.size = w6.heap.size := by simp [setBlock]
    have hsp7 : SpV B (setBlock w6 eb (.map es' ck')) b D' nf' fo' K := hS.move (fun k => k = eb) (fun k h => by subst h; exact ⟨hH.ke, fun h => hno.2 (h.same heb.symm), u1, u2, u3, u4, u5, u6⟩) (fun k hk hp => hbk k hp) (Nat.le_of_eq hsz.symm)
    have hte : tb ≠ eb := fun e => by
      obtain ⟨es, ck, hb, _⟩ := hH.ev.own
      have := hH.t0
      rw [e] at this
      simp [World.cell?, hb] at this
    have htb7 := (hbk tb hte).trans htb
    have hhas : ∀ y : Int, Maps.has (E.del (.int .i64 (x : Int))) (.int .i64 y) = true → y ≠ (x : Int) ∧ Maps.has E (.int .i64 y) = true := fun y hy => by
      by_cases e : y = (x : Int)
      · subst e; rw [has_del_same] at hy; cases hy
      · exact ⟨e, by rw [has_del_other (lit_ne e)] at hy; exact hy⟩
    have hnf : nf' = nf ∧ ∀ y : Nat, y ≠ x → Maps.has E (.int .i64 (y : Int)) = true → fo' ((y - 1) / 62) ≠ 0 := by
      have hxx := HX.out
      rcases hLay with ⟨h1, h2, rfl⟩ | ⟨h1, _⟩ | ⟨_, h1, h2, rfl⟩
      · exact ⟨h2, fun y _ hy => (hH.cov y hy).2⟩
      · exact absurd h1 ((hH.cov x HHAS.out).2)
      · refine ⟨h2, fun y hne hy => ?_⟩
        obtain ⟨k1, k2⟩ := hH.cov y hy
        simp only []
        split
        · rename_i hq
          have := h1 ((y - 1) % 62) (Nat.mod_lt _ (by decide)) (by omega)
          rw [show ((x - 1) / 62 * 62 + 1 + (y - 1) % 62 : Nat) = y by omega, hy] at this
          cases this
        · exact k2
    obtain ⟨rfl, hcv⟩ := hnf
    refine ⟨_, D', fo', { t0 := (cell_of_heap (a := ⟨tb, 0, none⟩) htb7).1.trans hH.t0, t1 := (cell_of_heap (a := ⟨tb, 1, none⟩) htb7).1.trans hH.t1, ev := ⟨hm7, fun y hy => ?_⟩, wf := fun y p s hy => ?_, sp := hsp7, kt := hH.kt, ke := hH.ke, nt := hH.nt, Be := hH.Be, cov := fun y hy => ?_ }, ?_, fun y hy => (hhas y hy).2⟩
    · obtain ⟨e, hy2⟩ := hhas y hy
      obtain ⟨p, s, h⟩ := hH.ev.val y hy2
      exact ⟨p, s, fun z => (atKey_del_other (lit_ne e) _).trans (h z)⟩
    · by_cases e : y = (x : Int)
      · subst e
        have h1 := hy .nil
        rw [atKey_del_same] at h1
        cases h1
      · exact hH.wf y p s (fun z => (atKey_del_other (lit_ne e) _).symm.trans (hy z))
    · obtain ⟨e, hy2⟩ := hhas y hy
      exact ⟨(hH.cov y hy2).1, hcv y (by omega) hy2⟩
    · exact hB6.trans ⟨rfl, rfl, rfl, by rw [hsz]; exact Nat.le_refl _, fun k hk => hbk k (fun e => by have := hH.Be; omega)⟩
end Go.Tb
