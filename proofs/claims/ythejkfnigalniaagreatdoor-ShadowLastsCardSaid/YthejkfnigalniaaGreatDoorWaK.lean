/- A part of a proof about the shadow space: what a function of the program answers, walked by hand. Each theorem says its own conditions. -/
import Derived.Test.YthejkfnigalniaaGreatDoorWaJ
set_option linter.unusedVariables false
set_option linter.unusedSimpArgs false
set_option maxRecDepth 100000
set_option maxHeartbeats 800000
namespace Go.Tb
open Go Go.RowKit Go.Proofs Go.Maps Go.Sp
structure WC (c : Array Value) (db sb : Nat) (now last wanted : St) (torn : Bool) : Prop where
  sz : c.size = 6150
  d : c[0]? = some (.pointer (some ⟨db, 0, none⟩))
  s : c[1]? = some (.pointer (some ⟨sb, 0, none⟩))
  n : ∀ j v, (stL now)[j]? = some v → c[2 + j]? = some v
  l : ∀ j v, (stL last)[j]? = some v → c[2051 + j]? = some v
  q : ∀ j v, (stL wanted)[j]? = some v → c[4100 + j]? = some v
  t : c[6149]? = some (.bool torn)
structure WB (γ : Gh) (W : World) (wb db sb : Nat) (now last wanted : St) (torn : Bool) : Prop where
  tg : Tag γ W wb 33
  B : γ.B ≤ wb
  hk : ∃ c, W.heap[wb]? = some (.cells c 33 (0, 0)) ∧ WC c db sb now last wanted torn
section
variable {γ : Gh} {W : World} {wb db sb : Nat} {now last wanted : St} {torn : Bool}
theorem WB.c0 (h : WB γ W wb db sb now last wanted torn) : W.cell? ⟨wb, 0, none⟩ = some (.pointer (some ⟨db, 0, none⟩)) := by obtain ⟨c, h1, h2⟩ := h.hk; simp [World.cell?, h1, h2.d]
theorem WB.c1 (h : WB γ W wb db sb now last wanted torn) : W.cell? ⟨wb, 1, none⟩ = some (.pointer (some ⟨sb, 0, none⟩)) := by obtain ⟨c, h1, h2⟩ := h.hk; simp [World.cell?, h1, h2.s]
theorem WB.ct (h : WB γ W wb db sb now last wanted torn) : W.cell? ⟨wb, 6149, none⟩ = some (.bool torn) := by obtain ⟨c, h1, h2⟩ := h.hk; simp [World.cell?, h1, h2.t]
theorem WB.z (h : WB γ W wb db sb now last wanted torn) (o : Nat) : W.frozen? ⟨wb, o, none⟩ = false := by obtain ⟨c, h1, h2⟩ := h.hk; simp [World.frozen?, h1]
theorem WB.there (h : WB γ W wb db sb now last wanted torn) {o n : Nat} (hn : o + n ≤ 6150) : W.there wb o n := fun j hj => by
  obtain ⟨c, h1, h2⟩ := h.hk
  have hs := h2.sz
  exact ⟨by simp [World.cell?, h1, Array.getElem?_eq_getElem (show o + j < c.size by omega)], h.z _⟩
theorem WB.rn (h : WB γ W wb db sb now last wanted torn) : SR W wb 2 now := ⟨fun j v hj => by obtain ⟨c, h1, h2⟩ := h.hk; simp [World.cell?, h1, h2.n j v hj]⟩
theorem WB.rl (h : WB γ W wb db sb now last wanted torn) : SR W wb 2051 last := ⟨fun j v hj => by obtain ⟨c, h1, h2⟩ := h.hk; simp [World.cell?, h1, h2.l j v hj]⟩
theorem WB.rq (h : WB γ W wb db sb now last wanted torn) : SR W wb 4100 wanted := ⟨fun j v hj => by obtain ⟨c, h1, h2⟩ := h.hk; simp [World.cell?, h1, h2.q j v hj]⟩
theorem WB.lt (h : WB γ W wb db sb now last wanted torn) : wb < W.heap.size := cell_lt' h.c0
theorem WB.keep {S : TypeId → Bool} {W' : World} (h : WB γ W wb db sb now last wanted torn) (hs : Step γ S W W') (h33 : S 33 = false) : WB γ W' wb db sb now last wanted torn := by
  obtain ⟨c, h1, h2⟩ := h.hk
  exact ⟨hs.tg _ _ (by decide) h.lt h.tg, h.B, c, (hs.heap h.tg h33 h.lt).trans h1, h2⟩
theorem WB.more {γ' : Gh} (h : WB γ W wb db sb now last wanted torn) (hl : Gh.Le W γ γ') : WB γ' W wb db sb now last wanted torn := ⟨h.tg.more hl h.lt, by rw [hl.B]; exact h.B, h.hk⟩
theorem stL_lt {x : St} {j : Nat} {v : Value} (h : (stL x)[j]? = some v) : j < 2049 := by have := (List.getElem?_eq_some_iff.1 h).1; rwa [stL_len] at this
theorem WB.set {db' sb' : Nat} {now' last' wanted' : St} {torn' : Bool} (h : WB γ W wb db sb now last wanted torn) {o : Nat} (ho : o < 6150) {v : Value}
    (hc : ∀ c, WC c db sb now last wanted torn → WC (c.setIfInBounds o v) db' sb' now' last' wanted' torn') : WB γ (W.setCell ⟨wb, o, none⟩ v) wb db' sb' now' last' wanted' torn' ∧ Step γ (fun T => T == 33) W (W.setCell ⟨wb, o, none⟩ v) := by
  obtain ⟨c, h1, h2⟩ := h.hk
  have hcell : W.cell? ⟨wb, o, none⟩ = some (c.getD o undef) := by
    have hs := h2.sz
    simp only [World.cell?, h1]
    rw [Array.getElem?_eq_getElem (by omega)]
    simp [Array.getD, hs, ho]
  refine ⟨⟨h.tg.set hcell, h.B, c.setIfInBounds o v, ?_, hc c h2⟩, Step.set h.tg rfl h.B hcell⟩
  unfold World.setCell
  simp only [Array.getElem?_modify]
  rw [h1]
  simp
theorem WB.sets {now' last' wanted' : St} (h : WB γ W wb db sb now last wanted torn) {o : Nat} (x : St) (ho : o + 2049 ≤ 6150)
    (hc : ∀ c c' : Array Value, WC c db sb now last wanted torn → c'.size = c.size → (∀ j v, (stL x)[j]? = some v → c'[o + j]? = some v) → (∀ j, j < o ∨ o + 2049 ≤ j → c'[j]? = c[j]?) → WC c' db sb now' last' wanted' torn) : WB γ (W.setCells wb o (stL x)) wb db sb now' last' wanted' torn ∧ Step γ (fun T => T == 33) W (W.setCells wb o (stL x)) := by
  obtain ⟨c, h1, h2⟩ := h.hk
  obtain ⟨c', g1, g2, g3⟩ := setCells_block (stL x) o W c 33 (0, 0) h1 (by rw [stL_len, h2.sz]; exact ho)
  have hkd : kindOf (W.setCells wb o (stL x)) wb = kindOf W wb := by simp [kindOf, g1, h1]
  have hB := h.B
  refine ⟨⟨(Gh.kind_of hkd).trans h.tg, h.B, c', g1, hc c c' h2 g2 (fun j v hj => ?_) (fun j hj => ?_)⟩, ⟨⟨(setCells_os _ _ _).1, (setCells_os _ _ _).2.1, (setCells_os _ _ _).2.2, by rw [setCells_size]; exact Nat.le_refl _, fun k hk => setCells_other _ _ _ _ (by omega)⟩, fun k hk hS => setCells_other _ _ _ _ (fun e => by subst e; have := hS 33 h.tg; cases this), fun k T _ hk ht => ?_⟩⟩
  · rw [g3, if_pos ⟨by omega, by rw [stL_len]; have := stL_lt hj; omega⟩, show o + j - o = j by omega]; exact hj
  · rw [g3, if_neg (by rw [stL_len]; omega)]
  · by_cases e : k = wb
    · subst e; exact (Gh.kind_of hkd).trans ht
    · exact ht.same (setCells_other _ _ _ _ e)
end
theorem stL_get (x : St) (j : Nat) : (stL x)[j]? = if j < 1024 then some (.bool (x.on j)) else if j < 2048 then some (.string (txt (x.b (j - 1024)))) else if j = 2048 then some (.string (txt x.mt)) else none := by
  by_cases h1 : j < 1024
  · rw [if_pos h1]; exact stL_on x h1
  · rw [if_neg h1]
    by_cases h2 : j < 2048
    · rw [if_pos h2]
      have := stL_b x (p := j - 1024) (by omega)
      rwa [show 1024 + (j - 1024) = j by omega] at this
    · rw [if_neg h2]
      by_cases h3 : j = 2048
      · rw [if_pos h3, h3]; exact stL_mt x
      · rw [if_neg h3]; exact List.getElem?_eq_none (by rw [stL_len]; omega)
theorem aset (c : Array Value) {o k : Nat} (v : Value) (h : o ≠ k) : (c.setIfInBounds o v)[k]? = c[k]? := by rw [Array.getElem?_setIfInBounds, if_neg h]
theorem aset_same (c : Array Value) {o : Nat} (v : Value) (h : o < c.size) : (c.setIfInBounds o v)[o]? = some v := by rw [Array.getElem?_setIfInBounds, if_pos rfl, if_pos h]
section
variable {c : Array Value} {db sb : Nat} {now last wanted : St} {torn : Bool}
theorem WC.setS (h : WC c db sb now last wanted torn) (sb' : Nat) : WC (c.setIfInBounds 1 (.pointer (some ⟨sb', 0, none⟩))) db sb' now last wanted torn :=
  ⟨by simp [h.sz], (aset _ _ (by omega)).trans h.d, aset_same _ _ (by rw [h.sz]; omega), fun j v hj => (aset _ _ (by omega)).trans (h.n j v hj), fun j v hj => (aset _ _ (by omega)).trans (h.l j v hj), fun j v hj => (aset _ _ (by omega)).trans (h.q j v hj), (aset _ _ (by omega)).trans h.t⟩
theorem WC.setT (h : WC c db sb now last wanted torn) (t : Bool) : WC (c.setIfInBounds 6149 (.bool t)) db sb now last wanted t :=
  ⟨by simp [h.sz], (aset _ _ (by omega)).trans h.d, (aset _ _ (by omega)).trans h.s, fun j v hj => (aset _ _ (by have := stL_lt hj; omega)).trans (h.n j v hj), fun j v hj => (aset _ _ (by have := stL_lt hj; omega)).trans (h.l j v hj), fun j v hj => (aset _ _ (by have := stL_lt hj; omega)).trans (h.q j v hj), aset_same _ _ (by rw [h.sz]; omega)⟩
theorem WC.setOn (h : WC c db sb now last wanted torn) {p : Nat} (hp : p < 1024) (t : Bool) : WC (c.setIfInBounds (2 + p) (.bool t)) db sb { now with on := upd now.on p t } last wanted torn :=
  ⟨by simp [h.sz], (aset _ _ (by omega)).trans h.d, (aset _ _ (by omega)).trans h.s, fun j v hj => by
    by_cases e : j = p
    · subst e
      rw [stL_get, if_pos hp] at hj
      rw [aset_same _ _ (by rw [h.sz]; omega)]
      simpa [upd] using hj
    · rw [aset _ _ (by omega)]
      refine h.n j v ?_
      rw [← hj, stL_get, stL_get]
      simp [upd, e], fun j v hj => (aset _ _ (by omega)).trans (h.l j v hj), fun j v hj => (aset _ _ (by omega)).trans (h.q j v hj), (aset _ _ (by omega)).trans h.t⟩
theorem WC.setB (h : WC c db sb now last wanted torn) {p : Nat} (hp : p < 1024) (b : Bs) : WC (c.setIfInBounds (2 + 1024 + p) (.string (txt b))) db sb { now with b := upd now.b p b } last wanted torn :=
  ⟨by simp [h.sz], (aset _ _ (by omega)).trans h.d, (aset _ _ (by omega)).trans h.s, fun j v hj => by
    by_cases e : j = 1024 + p
    · subst e
      rw [stL_get, if_neg (by omega), if_pos (by omega)] at hj
      rw [show 2 + 1024 + p = 2 + (1024 + p) by omega, aset_same _ _ (by rw [h.sz]; omega)]
      have : 1024 + p - 1024 = p := by omega
      simpa [upd, this] using hj
    · rw [aset _ _ (by omega)]
      refine h.n j v ?_
      rw [← hj, stL_get, stL_get]
      by_cases h1 : j < 1024
      · simp [h1]
      · have : ¬ j - 1024 = p := by omega
        simp [h1, upd, this], fun j v hj => (aset _ _ (by omega)).trans (h.l j v hj), fun j v hj => (aset _ _ (by omega)).trans (h.q j v hj), (aset _ _ (by omega)).trans h.t⟩
end
section
variable {γ : Gh} {W : World} {wb db sb : Nat} {now last wanted : St} {torn : Bool}
theorem WB.setNow (h : WB γ W wb db sb now last wanted torn) (x : St) : WB γ (W.setCells wb 2 (stL x)) wb db sb x last wanted torn ∧ Step γ (fun T => T == 33) W (W.setCells wb 2 (stL x)) :=
  h.sets x (by omega) fun c c' hc hs h1 h2 => ⟨by rw [hs]; exact hc.sz, (h2 _ (by omega)).trans hc.d, (h2 _ (by omega)).trans hc.s, h1, fun j v hj => (h2 _ (by omega)).trans (hc.l j v hj), fun j v hj => (h2 _ (by omega)).trans (hc.q j v hj), (h2 _ (by omega)).trans hc.t⟩
theorem WB.setLast (h : WB γ W wb db sb now last wanted torn) (x : St) : WB γ (W.setCells wb 2051 (stL x)) wb db sb now x wanted torn ∧ Step γ (fun T => T == 33) W (W.setCells wb 2051 (stL x)) :=
  h.sets x (by omega) fun c c' hc hs h1 h2 => ⟨by rw [hs]; exact hc.sz, (h2 _ (by omega)).trans hc.d, (h2 _ (by omega)).trans hc.s, fun j v hj => (h2 _ (by have := stL_lt hj; omega)).trans (hc.n j v hj), h1, fun j v hj => (h2 _ (by omega)).trans (hc.q j v hj), (h2 _ (by omega)).trans hc.t⟩
theorem WB.setWanted (h : WB γ W wb db sb now last wanted torn) (x : St) : WB γ (W.setCells wb 4100 (stL x)) wb db sb now last x torn ∧ Step γ (fun T => T == 33) W (W.setCells wb 4100 (stL x)) :=
  h.sets x (by omega) fun c c' hc hs h1 h2 => ⟨by rw [hs]; exact hc.sz, (h2 _ (by omega)).trans hc.d, (h2 _ (by omega)).trans hc.s, fun j v hj => (h2 _ (by have := stL_lt hj; omega)).trans (hc.n j v hj), fun j v hj => (h2 _ (by have := stL_lt hj; omega)).trans (hc.l j v hj), h1, (h2 _ (by omega)).trans hc.t⟩
end
theorem u31 : ∃ d, Tryz.prog.underlying 31 = some d ∧ d.isRow = true := ⟨_, Tryz.underlying31, rfl⟩
theorem s31 : (Tryz.prog.info? 31).map (·.size) = some 2049 := by kernel_rfl
theorem stL_one (x : St) : (stL x).toArray.all (·.oneCell') = true := all_oneCell_toArray fun v hv => by
  simp only [stL, List.mem_append, List.mem_map, List.mem_singleton] at hv
  rcases hv with ⟨p, _, rfl⟩ | ⟨p, _, rfl⟩ | rfl <;> rfl
theorem load31 {W : World} {wb o : Nat} {x : St} (h : SR W wb o x) : (Instr.loadAt 31 (.pointer (some ⟨wb, o, none⟩))).run Tryz.prog W = .ok (.agg (stL x).toArray) W := by
  obtain ⟨d, hu, hd⟩ := u31
  exact run_loadAt_mid W wb o 31 (stL x) d h.r hu hd (by rw [stL_len]; exact s31)
theorem wpList_load31 {ops : Array Oper} {rest : List Oper} {op : Oper} {a : Act} {w : World} {Q : Exit → Act → World → Prop} {wb o : Nat} {x : St} (hgd : op.guard = none) (ho : ∃ t, op.op = .load 31 t ∧ a.eval t = .pointer (some ⟨wb, o, none⟩)) (hr : SR w wb o x)
    (h : wpList Tryz.prog ops Q rest (a.put op.dst (.agg (stL x).toArray)) w) : wpList Tryz.prog ops Q (op :: rest) a w := by
  obtain ⟨d, hu, hd⟩ := u31
  obtain ⟨t, ho, hx⟩ := ho
  exact wpList_load_mid hgd 31 t ho wb o hx (stL x) d hr.r hu hd (by rw [stL_len]; exact s31) h
theorem wpList_store31 {ops : Array Oper} {rest : List Oper} {op : Oper} {a : Act} {w : World} {Q : Exit → Act → World → Prop} {wb o : Nat} {x : St} (hgd : op.guard = none) (ho : ∃ t u, op.op = .store 31 t u ∧ a.eval t = .pointer (some ⟨wb, o, none⟩) ∧ a.eval u = .agg (stL x).toArray) (hr : w.there wb o 2049)
    (h : wpList Tryz.prog ops Q rest (a.put op.dst undef) (w.setCells wb o (stL x))) : wpList Tryz.prog ops Q (op :: rest) a w := by
  obtain ⟨t, u, ho, hx, hy⟩ := ho
  have := wpList_store_mid (P := Tryz.prog) (ops := ops) (rest := rest) (a := a) (w := w) (Q := Q) hgd 31 t u ho wb o (stL x).toArray hx hy (by rw [List.size_toArray, stL_len]; exact hr) (by rw [List.size_toArray, stL_len]; exact s31) (stL_one x)
  exact this (by simpa using h)
theorem store31 {W : World} {wb o : Nat} (x : St) (h : W.there wb o 2049) : (Instr.storeAt 31 (.pointer (some ⟨wb, o, none⟩)) (.agg (stL x).toArray)).run Tryz.prog W = .ok () (W.setCells wb o (stL x)) := by
  have := run_storeAt_mid (P := Tryz.prog) W wb o 31 (stL x).toArray (by rw [List.size_toArray, stL_len]; exact h) (by rw [List.size_toArray, stL_len]; exact s31) (stL_one x)
  simpa using this
end Go.Tb
namespace Go.Tb
open Go Go.RowKit Go.Proofs Go.Maps Go.Sp
def frm (n : Int) : Nat := 2 + (n % 40).toNat
theorem frm_in (n : Int) : 2 ≤ frm n ∧ frm n ≤ 41 := by unfold frm; omega
theorem tm40 (n : Int) : (n.tmod 40 + 40).tmod 40 = n % 40 ∧ -40 < n.tmod 40 ∧ n.tmod 40 < 40 := by
  have h := Int.tmod_eq_emod (a := n) (b := 40)
  have e : n.tmod 40 = n % 40 ∨ n.tmod 40 = n % 40 - 40 := by
    rw [h]; split
    · exact .inl (by omega)
    · exact .inr (by simp)
  have h1 : 0 ≤ n % 40 ∧ n % 40 < 40 := by omega
  rcases e with e | e
  · rw [e, Int.tmod_eq_emod_of_nonneg (by omega)]; omega
  · by_cases h0 : n % 40 = 0
    · have : n.tmod 40 = 0 := Int.tmod_eq_zero_of_dvd (Int.dvd_of_emod_eq_zero h0)
      rw [this, h0]; decide
    · rw [e, Int.tmod_eq_emod_of_nonneg (by omega)]; omega
theorem frames_ok (n : Int) (w : World) : Calls Tryz.prog 35 #[.int .i64 n] w fun e w' => e = .returned (.int .i64 (frm n : Nat)) ∧ w' = w := by
  obtain ⟨h1, h2, h3⟩ := tm40 n
  have HR : Hid (wrap64 (2 + (wrap64 (n.tmod 40 + 40)).tmod 40) = ((frm n : Nat) : Int)) := Lib.hid (by
    rw [show wrap64 (n.tmod 40 + 40) = n.tmod 40 + 40 by simp [wrap64]; omega, h1]
    have := frm_in n
    unfold frm at this ⊢
    simp [wrap64]; omega)
  generalize frm n = F at *
  clear h1 h2 h3
  go_enter Tryz.func35, Tryz.ntmps35
  go_wp2
  go_ret
  exact ⟨by rw [← HR.out]; rfl, rfl⟩
end Go.Tb
namespace Go.Tb
open Go Go.RowKit Go.Proofs Go.Maps Go.Sp
def WL (w W : World) (db sb wb : Nat) (s : Sp) (now last wanted : St) (torn : Bool) : Prop :=
  ∃ γ : Gh, (γ.B = w.heap.size ∧ γ.lim ≤ W.heap.size ∧ Below w.heap.size w W) ∧ SpV γ W sb db s ∧ WB γ W wb db sb now last wanted torn
structure By (x : St) : Prop where
  b : ∀ p, Go.Sp.bytes (x.b p)
  mt : Go.Sp.bytes x.mt
theorem readAll_in (x : St) : ∀ (l : List Nat) {s : Sp}, s.Ok → Ca.In s.c (readAll x l s).2.c (2 * l.length) ∧ (readAll x l s).2.Ok
  | [], s, h => ⟨Ca.In.refl _ _, h⟩
  | p :: l, s, h => by
    obtain ⟨i1, i2, _, _⟩ := read_in h (p : Int)
    unfold readAll
    split
    · exact ⟨i1.mono (by simp; omega), i2⟩
    · obtain ⟨j1, j2⟩ := readAll_in x l i2
      exact ⟨(i1.trans j1).mono (by simp; omega), j2⟩
theorem holds_in (x : St) {s : Sp} (h : s.Ok) : Ca.In s.c (x.holds s).2.c 2048 ∧ (x.holds s).2.Ok := by
  have hlen : (pgs s.own).length ≤ 1024 := by
    have := List.length_filter_le (fun p => decide (0 < s.own p)) (List.range 1024)
    simpa [pgs] using this
  obtain ⟨i1, i2⟩ := readAll_in x (pgs s.own) h
  unfold St.holds
  split
  · exact ⟨Ca.In.refl _ _, h⟩
  · split
    · exact ⟨Ca.In.refl _ _, h⟩
    · exact ⟨i1.mono (by omega), i2⟩
theorem open_bind {d : Dk} {F : Nat} {r : Rt} (hd : d.dead = false) (hF : 2 ≤ F ∧ F ≤ 1024) (h : d.open (F : Int) = (0, some (opened d F r))) : d.best.bind d.whole = some r := by
  unfold Dk.open at h
  have h1 : ¬ ((F : Int) < 2 ∨ (1024 : Int) < (F : Int)) := by omega
  rw [hd] at h
  simp only [h1, if_false] at h
  cases hb : d.best with
  | none => rw [hb] at h; simp at h
  | some r0 =>
    rw [hb] at h
    show d.whole r0 = some r
    simp only at h
    cases hw : d.whole r0 with
    | none => rw [hw] at h; simp at h
    | some r1 =>
      rw [hw] at h
      simp only [Bool.false_eq_true, if_false, Prod.mk.injEq, Option.some.injEq, true_and, Int.toNat_natCast] at h
      have := congrArg Sp.r h
      exact congrArg some this
theorem i3o : (Tryz.prog.info? 3).map (fun i => (i.size, i.bytes, i.zero)) = some (1, 8, some (.int .i64 0)) := by kernel_rfl
theorem wp_keep {w : World} {o : Oper} {a : Act} {K : Act → World → Prop} {Q : Exit → Act → World → Prop} {g base : Nat} {ka : Option Addr} {kn kc : Nat} {l : List Int} (s t : Operand)
    (ho : o.op = .call { callee := .builtin .append, args := #[s, t], argTypes := #[42, 42] }) (hs : a.eval s = .slice (some ⟨g, 0, none⟩) 0 0) (hx : a.eval t = .slice ka kn kc) (hov : w.ownsRow base 3 1 (.slice (some ⟨g, 0, none⟩) 0 0) 0 []) (hb : base ≤ w.heap.size)
    (hkn : ka = none → kn = 0 ∧ kc = 0) (hc : IR w (.slice ka kn kc) l) (hl : l.length ≤ 1000)
    (h : ∀ v' w', w'.ownsRow base 3 1 v' l.length (l.map fun x => Value.int .i64 x) → Below base w w' → K (a.put o.dst v') w') : o.wp Tryz.prog a w K Q := by
  obtain ⟨i, hi, hi2⟩ := Option.map_eq_some_iff.1 i3o
  injection hi2 with hz0 hz1
  injection hz1 with hz1 hz2
  obtain ⟨a', c', e, hr⟩ := hc
  injection e with e1 e2 e3
  subst e1 e3
  cases ka with
  | none =>
    obtain ⟨h1, h2⟩ := hkn rfl
    subst h2
    have hl0 : l = [] := List.length_eq_zero_iff.1 (by omega)
    subst hl0
    subst h1
    have hrun := run_append_owned_none (P := Tryz.prog) (w := w) base 42 o.type 3 i 1 Tryz.underlying42 hi _ 0 [] hov
    have hk := h _ w hov (Below.refl _ _)
    unfold Oper.wp
    simp [execOp, ho, resolve, invoke, builtin, hs, hx, hrun, Result.andThen]
    exact hk
  | some ad =>
    subst e2
    refine wp_append_own w s t 42 ho base 3 i (.int .i64 0) 1 8 Tryz.underlying42 hi hz2 hz0 hz1 rfl (by decide) _ 0 [] hs hov ad l.length kc (l.map fun x => Value.int .i64 x) hx (by simp) (fun j u hj => ?_) (fun u hu => ?_) (by simp only [maxLen]; omega) (by omega) hb fun v' w' h1 h2 _ => h v' w' (by simpa using h1) ((Below.refl base w).grown h2 hb fun k hk => (hov.lt k hk).1)
    · rw [List.getElem?_map] at hj
      obtain ⟨x, hx1, rfl⟩ := Option.map_eq_some_iff.1 hj
      obtain ⟨g', o', e1, _, hcell⟩ := hr (by have := (List.getElem?_eq_some_iff.1 hx1).1; omega)
      injection e1 with e1
      subst e1
      rw [add_cell]
      exact hcell j x hx1
    · obtain ⟨x, _, rfl⟩ := List.mem_map.1 hu; rfl
end Go.Tb
namespace Go.Tb
open Go Go.RowKit Go.Proofs Go.Maps Go.Sp
theorem own_IR {γ : Gh} {base : Nat} {w W : World} {v : Value} {l : List Int} (h : w.ownsRow base 3 1 v l.length (l.map fun x => Value.int .i64 x)) (hb : γ.lim ≤ base) (hs : Step γ dkS w W) : IR W v l := by
  have h1 := h.1
  rcases h.2 with ⟨rfl, h0⟩ | ⟨g, cap, cur, rfl, hg, hh, hcap, _⟩
  · exact ⟨none, 0, by rw [h0], fun hp => absurd h0 (by omega)⟩
  · have tg : Tag γ w g 3 := Tag.new (by omega) hh
    have lg := (Array.getElem?_eq_some_iff.1 hh).1
    refine ⟨_, _, rfl, fun _ => ⟨g, 0, rfl, Nat.lt_of_lt_of_le lg hs.size, fun j x hj => ?_⟩⟩
    have hc := h.cells rfl j (.int .i64 x) (by simp [hj])
    rw [add_cell] at hc
    exact cell_keep hs tg rfl hc
theorem op5 {W : World} {O : Nat} {k p t : Int} {b l : Value} (h : W.heap[O]? = some (.cells #[.int .i64 k, .int .i64 p, b, l, .int .i64 t] 73 (0, 0))) : W.cell? ⟨O, 0, none⟩ = some (.int .i64 k) ∧ W.cell? ⟨O, 1, none⟩ = some (.int .i64 p) ∧ W.cell? ⟨O, 2, none⟩ = some b ∧ W.cell? ⟨O, 3, none⟩ = some l ∧ W.cell? ⟨O, 4, none⟩ = some (.int .i64 t) ∧ O < W.heap.size := ⟨by simp [World.cell?, h], by simp [World.cell?, h], by simp [World.cell?, h], by simp [World.cell?, h], by simp [World.cell?, h], (Array.getElem?_eq_some_iff.1 h).1⟩
structure OnI (γ : Gh) (w W : World) (db wb sb O : Nat) (d : Dk) (now last wanted : St) (torn : Bool) (k p : Int) (b l : Value) (t : Int) : Prop where
  g : γ.B = w.heap.size ∧ γ.lim ≤ W.heap.size ∧ Below w.heap.size w W
  dk : DkV γ W db d
  wb : WB γ W wb db sb now last wanted torn
  op : W.heap[O]? = some (.cells #[.int .i64 k, .int .i64 p, b, l, .int .i64 t] 73 (0, 0)) ∧ Tag γ W O 73
theorem OnI.step {γ : Gh} {w W W' : World} {db wb sb O : Nat} {d d' : Dk} {now last wanted : St} {torn : Bool} {k p t : Int} {b l : Value} (h : OnI γ w W db wb sb O d now last wanted torn k p b l t) (hd : DkV γ W' db d') (hs : Step γ dkS W W') : OnI γ w W' db wb sb O d' now last wanted torn k p b l t :=
  have lO := (Array.getElem?_eq_some_iff.1 h.op.1).1
  ⟨⟨h.g.1, Nat.le_trans h.g.2.1 hs.size, h.g.2.2.trans (h.g.1 ▸ hs.be)⟩, hd, h.wb.keep hs rfl, (hs.heap h.op.2 rfl lO).trans h.op.1, hs.tg _ _ (by decide) lO h.op.2⟩
theorem OnI.below {γ : Gh} {w W W' : World} {db wb sb O : Nat} {d : Dk} {now last wanted : St} {torn : Bool} {k p t : Int} {b l : Value} (h : OnI γ w W db wb sb O d now last wanted torn k p b l t) (hb : Below W.heap.size W W') : OnI γ w W' db wb sb O d now last wanted torn k p b l t :=
  h.step (h.dk.keep (Step.below (S := fun _ => false) hb h.g.2.1) ⟨rfl, rfl, rfl, rfl⟩) (Step.below hb h.g.2.1)
theorem OnI.cells {γ : Gh} {w W : World} {db wb sb O : Nat} {d : Dk} {now last wanted : St} {torn : Bool} {k p t : Int} {b l : Value} (h : OnI γ w W db wb sb O d now last wanted torn k p b l t) : W.cell? ⟨wb, 0, none⟩ = some (.pointer (some ⟨db, 0, none⟩)) ∧ W.cell? ⟨O, 1, none⟩ = some (.int .i64 p) ∧ W.cell? ⟨O, 3, none⟩ = some l ∧ W.cell? ⟨O, 4, none⟩ = some (.int .i64 t) := by
  obtain ⟨o0, o1, o2, o3, o4, lO⟩ := op5 h.op.1
  exact ⟨h.wb.c0, o1, o3, o4⟩
theorem OnI.cells2 {γ : Gh} {S : TypeId → Bool} {w W W' : World} {db wb sb O : Nat} {d : Dk} {now last wanted : St} {torn : Bool} {k p t : Int} {b l : Value} (h : OnI γ w W db wb sb O d now last wanted torn k p b l t) (hs : Step γ S W W') (h33 : S 33 = false) (h73 : S 73 = false) : W'.cell? ⟨wb, 0, none⟩ = some (.pointer (some ⟨db, 0, none⟩)) ∧ W'.cell? ⟨O, 1, none⟩ = some (.int .i64 p) ∧ W'.cell? ⟨O, 3, none⟩ = some l ∧ W'.cell? ⟨O, 4, none⟩ = some (.int .i64 t) := by
  obtain ⟨o0, o1, o2, o3, o4, lO⟩ := op5 h.op.1
  exact ⟨cell_keep hs h.wb.tg h33 h.wb.c0, cell_keep hs h.op.2 h73 o1, cell_keep hs h.op.2 h73 o3, cell_keep hs h.op.2 h73 o4⟩
theorem clS33 : ∀ T, clS T = false → (fun T : TypeId => T == 33) T = false := fun T h => by simp [clS] at h; simp [h.1]
theorem opens_ok {w W : World} {db sb wb : Nat} {s : Sp} {now last wanted : St} {torn : Bool} {N k : Nat} (h : WL w W db sb wb s now last wanted torn) (hI : WI N k s now last wanted torn) (hk : k ≤ 100) (hlb : By last) (hqb : By wanted)
    {kd p t : Int} {ba ka : Option Addr} {bn bc kn kc : Nat} {l : List Int} (hkn : ka = none → kn = 0 ∧ kc = 0) (hl : l.length ≤ 1000) (hkr : ∀ W', Below w.heap.size w W' → IR W' (.slice ka kn kc) l) :
    Calls Tryz.prog 38 #[.pointer (some ⟨wb, 0, none⟩), opV kd p (.slice ba bn bc) (.slice ka kn kc) t] W fun e W' => e = .returned (.bool true) ∧ Hid (∃ sb' s' x, WL w W' db sb' wb s' x x x false ∧ WI N (k + 1) s' x x x false ∧ By x) := by
  unfold opV
  obtain ⟨γ, g, hsp, hwb⟩ := h
  obtain ⟨W1, hW1⟩ : ∃ W1, W.alloc (.cells #[.int .i64 kd, .int .i64 p, .slice ba bn bc, .slice ka kn kc, .int .i64 t] 73) = W1 := ⟨_, rfl⟩
  have hb1 : Below W.heap.size W W1 := hW1 ▸ Below.alloc (Below.refl _ _) (Nat.le_refl _) _
  have hO1 : W1.heap[W.heap.size]? = some (.cells #[.int .i64 kd, .int .i64 p, .slice ba bn bc, .slice ka kn kc, .int .i64 t] 73 (0, 0)) := hW1 ▸ (Go.MapKept.heap_alloc W _).1
  have hs1 : Step γ (fun _ => false) W W1 := Step.below hb1 g.2.1
  have hdk : DkV γ W db s.c.d := by obtain ⟨cb, rb, ob, kb, HU, HK⟩ := hsp; exact HU.ca.dk'
  have I1 : OnI γ w W1 db wb sb W.heap.size s.c.d now last wanted torn kd p (.slice ba bn bc) (.slice ka kn kc) t :=
    ⟨⟨g.1, Nat.le_trans g.2.1 hb1.size, g.2.2.trans (g.1 ▸ hs1.be)⟩, hdk.keep hs1 ⟨rfl, rfl, rfl, rfl⟩, hwb.keep hs1 rfl, hO1, Tag.new g.2.1 hO1⟩
  have OF := (off_ok I1.dk).mono (R' := fun e w' => (∃ v, e = .returned v) ∧ Hid (OnI γ w w' db wb sb W.heap.size { s.c.d with dead := true } now last wanted torn kd p (.slice ba bn bc) (.slice ka kn kc) t)) fun e w' ⟨h1, h2, h3⟩ => ⟨h1, Lib.hid (I1.step h2 h3)⟩
  have hcap : s.c.d.P.length < 2000000 := by have := hI.P; omega
  have c0 := I1.wb.c0
  have l0 := cell_lt' c0
  obtain ⟨o0, o1, o2, o3, o4, lO⟩ := op5 hO1
  have HW := Lib.hid hW1
  have HI := Lib.hid hI
  have HK := Lib.hid (And.intro hkn hkr)
  have HCAP := Lib.hid hcap
  clear hsp hwb hdk hO1 hb1 hs1 I1 hW1 hI hkn hkr hcap g
  go_enter Tryz.func38, Tryz.ntmps38
  go_upto_region 1 with fail
  rw [HW.out]
  go_upto_region 2 with (go_at_call 37; refine OF.mono ?_; rintro e w2 ⟨⟨v2, rfl⟩, hq2⟩)
  clear OF c0 l0 o0 o1 o2 o3 o4 lO
  have HS2 : Hid (∀ W', Below w2.heap.size w2 W' → W'.cell? ⟨wb, 0, none⟩ = some (.pointer (some ⟨db, 0, none⟩)) ∧ W'.cell? ⟨W.heap.size, 1, none⟩ = some (.int .i64 p) ∧ W'.cell? ⟨W.heap.size, 3, none⟩ = some (.slice ka kn kc) ∧ W'.cell? ⟨W.heap.size, 4, none⟩ = some (.int .i64 t)) := Lib.hid fun W' hb => by
    have I := hq2.out.below hb
    obtain ⟨o0, o1, o2, o3, o4, lO⟩ := op5 I.op.1
    exact ⟨I.wb.c0, o1, o3, o4⟩
  have ONC := Lib.hid (fun (W' : World) (v : Value) (hb : Below w2.heap.size w2 W') (ho : W'.ownsRow w2.heap.size 3 1 v l.length (l.map fun x => Value.int .i64 x)) => (don_ok (hq2.out.below hb).dk (hq2.out.below hb).g.2.1 HCAP.out t (fun W2 hs => own_IR ho hq2.out.g.2.1 hs) (by omega)).mono (R' := fun e w' => e = .returned (.int .i64 0) ∧ Hid (OnI γ w w' db wb sb W.heap.size (s.c.d.on (fun i => decide ((i : Int) = t)) (fun i => l.contains (i : Int))) now last wanted torn kd p (.slice ba bn bc) (.slice ka kn kc) t)) fun e w' ⟨h1, h2, h3⟩ => ⟨h1, Lib.hid ((hq2.out.below hb).step h2 h3)⟩)
  refine wp_region_held_drew (S := (fun W' => W'.cell? ⟨wb, 0, none⟩ = some (.pointer (some ⟨db, 0, none⟩)) ∧ W'.cell? ⟨W.heap.size, 1, none⟩ = some (.int .i64 p) ∧ W'.cell? ⟨W.heap.size, 3, none⟩ = some (.slice ka kn kc) ∧ W'.cell? ⟨W.heap.size, 4, none⟩ = some (.int .i64 t))) (by kernel_rfl) ?_ (fun hHeld => ?_)
  · (with_reducible refine HS2.out _ ?_; (repeat (first | with_reducible exact Below.refl _ _ | with_reducible assumption | with_reducible refine Below.drew ?_ | with_reducible refine Below.allocs ?_ _)); done)
  refine wpAnyH_take (i := 0) (oi := { dst := some 12, op := .move (.tmp 0), type := _, pos := _, after := _, guard := none }) (v := ?va1) rfl (by kernel_rfl) (by kernel_rfl) (by kernel_rfl) (fun _ _ _ h => h) (Or.inl ⟨by rfl, ?hya1⟩) (by assumption) ?resta1
  case hya1 => (intro w hSw; (try dsimp only at hSw); go_simp; try with_reducible rfl)
  try simp only [Act.put, List.setIfInBounds_toArray, List.set_cons_zero, List.set_cons_succ]
  refine wpAnyH_take (i := 1) (oi := { dst := some 13, op := .nilCheck (.tmp 12), type := _, pos := _, after := _, guard := none }) (v := ?va2) rfl (by kernel_rfl) (by kernel_rfl) (by kernel_rfl) (fun _ _ _ h => h) (Or.inl ⟨by rfl, ?hya2⟩) (by assumption) ?resta2
  case hya2 => (intro w hSw; (try dsimp only at hSw); go_simp; try with_reducible rfl)
  try simp only [Act.put, List.setIfInBounds_toArray, List.set_cons_zero, List.set_cons_succ]
  refine wpAnyH_take (i := 2) (oi := { dst := some 14, op := .fieldAddr 33 (.tmp 13) 0, type := _, pos := _, after := _, guard := none }) (v := ?va3) rfl (by kernel_rfl) (by kernel_rfl) (by kernel_rfl) (fun _ _ _ h => h) (Or.inl ⟨by rfl, ?hya3⟩) (by assumption) ?resta3
  case hya3 => (intro w hSw; (try dsimp only at hSw); go_simp; try with_reducible rfl)
  try simp only [Act.put, List.setIfInBounds_toArray, List.set_cons_zero, List.set_cons_succ]
  refine wpAnyH_take (i := 3) (oi := { dst := some 15, op := .load 26 (.tmp 14), type := _, pos := _, after := _, guard := none }) (v := ?va4) rfl (by kernel_rfl) (by kernel_rfl) (by kernel_rfl) (fun _ _ _ h => h) (Or.inl ⟨by rfl, ?hya4⟩) (by assumption) ?resta4
  case hya4 => (intro w hSw; (try dsimp only at hSw); go_simp; try with_reducible rfl)
  try simp only [Act.put, List.setIfInBounds_toArray, List.set_cons_zero, List.set_cons_succ]
  refine wpAnyH_take (i := 5) (oi := { dst := some 17, op := .fieldAddr 73 (.tmp 3) 3, type := _, pos := _, after := _, guard := none }) (v := ?va5) rfl (by kernel_rfl) (by kernel_rfl) (by kernel_rfl) (fun _ _ _ h => h) (Or.inl ⟨by rfl, ?hya5⟩) (by assumption) ?resta5
  case hya5 => (intro w hSw; (try dsimp only at hSw); go_simp; try with_reducible rfl)
  try simp only [Act.put, List.setIfInBounds_toArray, List.set_cons_zero, List.set_cons_succ]
  refine wpAnyH_take (i := 6) (oi := { dst := some 18, op := .load 42 (.tmp 17), type := _, pos := _, after := _, guard := none }) (v := ?va6) rfl (by kernel_rfl) (by kernel_rfl) (by kernel_rfl) (fun _ _ _ h => h) (Or.inl ⟨by rfl, ?hya6⟩) (by assumption) ?resta6
  case hya6 => (intro w hSw; (try dsimp only at hSw); go_simp; try with_reducible rfl)
  try simp only [Act.put, List.setIfInBounds_toArray, List.set_cons_zero, List.set_cons_succ]
  refine wpAnyH_take (i := 8) (oi := { dst := some 20, op := .fieldAddr 73 (.tmp 3) 4, type := _, pos := _, after := _, guard := none }) (v := ?va7) rfl (by kernel_rfl) (by kernel_rfl) (by kernel_rfl) (fun _ _ _ h => h) (Or.inl ⟨by rfl, ?hya7⟩) (by assumption) ?resta7
  case hya7 => (intro w hSw; (try dsimp only at hSw); go_simp; try with_reducible rfl)
  try simp only [Act.put, List.setIfInBounds_toArray, List.set_cons_zero, List.set_cons_succ]
  refine wpAnyH_take (i := 9) (oi := { dst := some 21, op := .load 3 (.tmp 20), type := _, pos := _, after := _, guard := none }) (v := ?va8) rfl (by kernel_rfl) (by kernel_rfl) (by kernel_rfl) (fun _ _ _ h => h) (Or.inl ⟨by rfl, ?hya8⟩) (by assumption) ?resta8
  case hya8 => (intro w hSw; (try dsimp only at hSw); go_simp; try with_reducible rfl)
  try simp only [Act.put, List.setIfInBounds_toArray, List.set_cons_zero, List.set_cons_succ]
  refine wpAnyH_ready (rs := [4]) (by kernel_rfl) (by simp) ?_
  refine AllReadyH.cons (o := { dst := some 16, op := .buildSlice 42 0 #[], type := _, pos := _, after := _, guard := none }) rfl (fun K hK => ?_) AllReadyH.nil
  go_simp
  refine hK.out _ _ ?_ (fun hHeld => ?_)
  · (with_reducible refine HS2.out _ ?_; (repeat (first | with_reducible exact Below.refl _ _ | with_reducible assumption | with_reducible refine Below.drew ?_ | with_reducible refine Below.allocs ?_ _)); done)
  clear hK K
  try simp only [Act.put, List.setIfInBounds_toArray, List.set_cons_zero, List.set_cons_succ]
  refine wpAnyH_ready (rs := [7]) (by kernel_rfl) (by simp) ?_
  refine AllReadyH.cons (o := { dst := some 19, op := .call { callee := .builtin .append, args := #[(.tmp 16), (.tmp 18)], argTypes := #[42, 42] }, type := _, pos := _, after := _, guard := none }) rfl (fun K hK => ?_) AllReadyH.nil
  refine wp_keep (base := w2.heap.size) (l := l) _ _ rfl rfl rfl (World.ownsRow_made w2.drew #[] 0 (Nat.le_refl _) (by decide) rfl) (by simp) HK.out.1 (HK.out.2 _ ((hq2.out.below (Below.alloc (Below.drew (Below.refl _ _)) (Nat.le_refl _) _)).g.2.2)) hl ?_
  intro v7 w7 ho7 hb7
  have hb7' : Below w2.heap.size w2 w7 := (Below.alloc (Below.drew (Below.refl _ _)) (Nat.le_refl _) _).trans hb7
  refine hK.out _ _ ?_ (fun hHeld => ?_)
  · (with_reducible refine HS2.out _ ?_; (repeat (first | with_reducible exact Below.refl _ _ | with_reducible assumption | with_reducible refine Below.drew ?_ | with_reducible refine Below.allocs ?_ _)); done)
  clear hK K
  try simp only [Act.put, List.setIfInBounds_toArray, List.set_cons_zero, List.set_cons_succ]
  refine wpAnyH_ready (rs := [10]) (by kernel_rfl) (by simp) ?_
  refine AllReadyH.cons (o := { dst := some 22, op := .call { callee := .value (.func 43), args := #[(.tmp 15), (.tmp 19), (.tmp 21)], argTypes := #[26, 42, 3] }, type := _, pos := _, after := _, guard := none }) rfl (fun K hK => ?_) AllReadyH.nil
  go_simp
  go_at_call 43
  refine (ONC.out _ _ hb7' ho7).mono ?_
  rintro e w8 ⟨rfl, hq8⟩
  refine hK.out _ _ ?_ (fun hHeld => ?_)
  · exact hq8.out.cells
  clear hK K
  try simp only [Act.put, List.setIfInBounds_toArray, List.set_cons_zero, List.set_cons_succ]
  refine wpAnyH_take (i := 11) (oi := { dst := some 23, op := .binOp .neq 35 (.tmp 22) (.const (.int .i64 0)) 35, type := _, pos := _, after := _, guard := none }) (v := ?va9) rfl (by kernel_rfl) (by kernel_rfl) (by kernel_rfl) (fun _ _ _ h => h) (Or.inl ⟨by rfl, ?hya9⟩) (by assumption) ?resta9
  case hya9 => (intro w hSw; (try dsimp only at hSw); go_simp; try with_reducible rfl)
  try simp only [Act.put, List.setIfInBounds_toArray, List.set_cons_zero, List.set_cons_succ]
  refine wpAnyH_done (by kernel_rfl) ?_ _
  clear ONC HS2 hq2 hb7 hb7' ho7
  have HS8 : Hid (∀ W', Below w8.heap.size w8 W' → W'.cell? ⟨wb, 0, none⟩ = some (.pointer (some ⟨db, 0, none⟩)) ∧ W'.cell? ⟨W.heap.size, 1, none⟩ = some (.int .i64 p) ∧ W'.cell? ⟨W.heap.size, 3, none⟩ = some (.slice ka kn kc) ∧ W'.cell? ⟨W.heap.size, 4, none⟩ = some (.int .i64 t)) := Lib.hid fun W' hb => (hq8.out.below hb).cells
  go_upto_region 4 with fail
  have FR := frames_ok p
  have HF := Lib.hid (frm_in p)
  obtain ⟨r, ho, hok, hways⟩ := HI.out.opens (fun i => decide ((i : Int) = t)) (fun i => l.contains (i : Int)) (F := frm p) (by have := frm_in p; omega) (by have := frm_in p; omega)
  generalize hd : s.c.d.on (fun i => decide ((i : Int) = t)) (fun i => l.contains (i : Int)) = d at *
  have hdd : d.dead = false ∧ d.P = [] ∧ 16 ≤ d.N := by rw [← hd]; exact ⟨rfl, rfl, by have h1 := HI.out.hN; have h2 := HI.out.hN2; show 16 ≤ s.c.d.N; omega⟩
  clear hd
  generalize frm p = F at *
  have hbd0 : (opened d F r).Bd 5000 := ⟨by show 0 + 5000 < 1000000000; decide, by show d.P.length + 5000 < 900000; rw [hdd.2.1]; decide⟩
  have OPN := Lib.hid (fun (W' : World) (hb : Below w8.heap.size w8 W') => (open_s (F := F) (hq8.out.below hb).dk (hq8.out.below hb).g.2.1 hok.c.d (by show d.P.length < _; rw [hdd.2.1]; decide) (by omega) hdd.1 (by have := HF.out; omega) (open_bind hdd.1 (by have := HF.out; omega) ho)).mono (R' := fun e w' => ∃ tb, e = .returned (.tuple #[.pointer (some ⟨tb, 0, none⟩), .int .i64 0]) ∧ Hid ((∃ γ : Gh, (γ.B = w.heap.size ∧ γ.lim ≤ w'.heap.size ∧ Below w.heap.size w w') ∧ SpV γ w' tb db (opened d F r) ∧ WB γ w' wb db sb now last wanted torn) ∧ w'.cell? ⟨wb, 0, none⟩ = some (.pointer (some ⟨db, 0, none⟩)) ∧ w'.cell? ⟨W.heap.size, 1, none⟩ = some (.int .i64 p) ∧ w'.cell? ⟨W.heap.size, 3, none⟩ = some (.slice ka kn kc) ∧ w'.cell? ⟨W.heap.size, 4, none⟩ = some (.int .i64 t))) fun e w' ⟨tb, h1, h2⟩ => ⟨tb, h1, Lib.hid (have I := hq8.out.below hb; ⟨⟨γ, ⟨I.g.1, Nat.le_trans I.g.2.1 h2.out.2.1.size, I.g.2.2.trans (I.g.1 ▸ h2.out.2.1.be)⟩, h2.out.1, I.wb.keep h2.out.2.1 rfl⟩, I.cells2 h2.out.2.1 rfl rfl⟩)⟩)
  refine wp_region_held_drew (S := (fun W' => W'.cell? ⟨wb, 0, none⟩ = some (.pointer (some ⟨db, 0, none⟩)) ∧ W'.cell? ⟨W.heap.size, 1, none⟩ = some (.int .i64 p) ∧ W'.cell? ⟨W.heap.size, 3, none⟩ = some (.slice ka kn kc) ∧ W'.cell? ⟨W.heap.size, 4, none⟩ = some (.int .i64 t))) (by kernel_rfl) ?_ (fun hHeld => ?_)
  · (with_reducible refine HS8.out _ ?_; (repeat (first | with_reducible exact Below.refl _ _ | with_reducible assumption | with_reducible refine Below.drew ?_ | with_reducible refine Below.allocs ?_ _)); done)
  refine wpAnyH_take (i := 0) (oi := { dst := some 25, op := .move (.tmp 0), type := _, pos := _, after := _, guard := none }) (v := ?vb1) rfl (by kernel_rfl) (by kernel_rfl) (by kernel_rfl) (fun _ _ _ h => h) (Or.inl ⟨by rfl, ?hyb1⟩) (by assumption) ?restb1
  case hyb1 => (intro w hSw; (try dsimp only at hSw); go_simp; try with_reducible rfl)
  try simp only [Act.put, List.setIfInBounds_toArray, List.set_cons_zero, List.set_cons_succ]
  refine wpAnyH_take (i := 1) (oi := { dst := some 26, op := .nilCheck (.tmp 25), type := _, pos := _, after := _, guard := none }) (v := ?vb2) rfl (by kernel_rfl) (by kernel_rfl) (by kernel_rfl) (fun _ _ _ h => h) (Or.inl ⟨by rfl, ?hyb2⟩) (by assumption) ?restb2
  case hyb2 => (intro w hSw; (try dsimp only at hSw); go_simp; try with_reducible rfl)
  try simp only [Act.put, List.setIfInBounds_toArray, List.set_cons_zero, List.set_cons_succ]
  refine wpAnyH_take (i := 2) (oi := { dst := some 27, op := .fieldAddr 33 (.tmp 26) 0, type := _, pos := _, after := _, guard := none }) (v := ?vb3) rfl (by kernel_rfl) (by kernel_rfl) (by kernel_rfl) (fun _ _ _ h => h) (Or.inl ⟨by rfl, ?hyb3⟩) (by assumption) ?restb3
  case hyb3 => (intro w hSw; (try dsimp only at hSw); go_simp; try with_reducible rfl)
  try simp only [Act.put, List.setIfInBounds_toArray, List.set_cons_zero, List.set_cons_succ]
  refine wpAnyH_take (i := 3) (oi := { dst := some 28, op := .load 26 (.tmp 27), type := _, pos := _, after := _, guard := none }) (v := ?vb4) rfl (by kernel_rfl) (by kernel_rfl) (by kernel_rfl) (fun _ _ _ h => h) (Or.inl ⟨by rfl, ?hyb4⟩) (by assumption) ?restb4
  case hyb4 => (intro w hSw; (try dsimp only at hSw); go_simp; try with_reducible rfl)
  try simp only [Act.put, List.setIfInBounds_toArray, List.set_cons_zero, List.set_cons_succ]
  refine wpAnyH_take (i := 4) (oi := { dst := some 29, op := .fieldAddr 73 (.tmp 3) 1, type := _, pos := _, after := _, guard := none }) (v := ?vb5) rfl (by kernel_rfl) (by kernel_rfl) (by kernel_rfl) (fun _ _ _ h => h) (Or.inl ⟨by rfl, ?hyb5⟩) (by assumption) ?restb5
  case hyb5 => (intro w hSw; (try dsimp only at hSw); go_simp; try with_reducible rfl)
  try simp only [Act.put, List.setIfInBounds_toArray, List.set_cons_zero, List.set_cons_succ]
  refine wpAnyH_take (i := 5) (oi := { dst := some 30, op := .load 3 (.tmp 29), type := _, pos := _, after := _, guard := none }) (v := ?vb6) rfl (by kernel_rfl) (by kernel_rfl) (by kernel_rfl) (fun _ _ _ h => h) (Or.inl ⟨by rfl, ?hyb6⟩) (by assumption) ?restb6
  case hyb6 => (intro w hSw; (try dsimp only at hSw); go_simp; try with_reducible rfl)
  try simp only [Act.put, List.setIfInBounds_toArray, List.set_cons_zero, List.set_cons_succ]
  refine wpAnyH_ready (rs := [6]) (by kernel_rfl) (by simp) ?_
  refine AllReadyH.cons (o := { dst := some 31, op := .call { callee := .value (.func 35), args := #[(.tmp 30)], argTypes := #[3] }, type := _, pos := _, after := _, guard := none }) rfl (fun K hK => ?_) AllReadyH.nil
  go_simp
  go_at_call 35
  refine (FR _).mono ?_
  rintro e w9 ⟨rfl, rfl⟩
  refine hK.out _ _ ?_ (fun hHeld => ?_)
  · (with_reducible refine HS8.out _ ?_; (repeat (first | with_reducible exact Below.refl _ _ | with_reducible assumption | with_reducible refine Below.drew ?_ | with_reducible refine Below.allocs ?_ _)); done)
  clear hK K
  try simp only [Act.put, List.setIfInBounds_toArray, List.set_cons_zero, List.set_cons_succ]
  refine wpAnyH_ready (rs := [7]) (by kernel_rfl) (by simp) ?_
  refine AllReadyH.cons (o := { dst := some 32, op := .call { callee := .value (.func 19), args := #[(.tmp 28), (.tmp 31)], argTypes := #[26, 3] }, type := _, pos := _, after := _, guard := none }) rfl (fun K hK => ?_) AllReadyH.nil
  go_simp
  go_at_call 19
  refine (OPN.out _ ?_).mono ?_
  · (repeat (first | with_reducible exact Below.refl _ _ | with_reducible assumption | with_reducible refine Below.drew ?_ | with_reducible refine Below.allocs ?_ _))
  rintro e w10 ⟨tb, rfl, hq10⟩
  refine hK.out _ _ ?_ (fun hHeld => ?_)
  · exact hq10.out.2
  clear hK K
  try simp only [Act.put, List.setIfInBounds_toArray, List.set_cons_zero, List.set_cons_succ]
  refine wpAnyH_take (i := 8) (oi := { dst := some 24, op := .move (.tmp 32), type := _, pos := _, after := _, guard := none }) (v := ?vb7) rfl (by kernel_rfl) (by kernel_rfl) (by kernel_rfl) (fun _ _ _ h => h) (Or.inl ⟨by rfl, ?hyb7⟩) (by assumption) ?restb7
  case hyb7 => (intro w hSw; (try dsimp only at hSw); go_simp; try with_reducible rfl)
  try simp only [Act.put, List.setIfInBounds_toArray, List.set_cons_zero, List.set_cons_succ]
  refine wpAnyH_take (i := 9) (oi := { dst := some 33, op := .extract (.tmp 24) 0, type := _, pos := _, after := _, guard := none }) (v := ?vb8) rfl (by kernel_rfl) (by kernel_rfl) (by kernel_rfl) (fun _ _ _ h => h) (Or.inl ⟨by rfl, ?hyb8⟩) (by assumption) ?restb8
  case hyb8 => (intro w hSw; (try dsimp only at hSw); go_simp; try with_reducible rfl)
  try simp only [Act.put, List.setIfInBounds_toArray, List.set_cons_zero, List.set_cons_succ]
  refine wpAnyH_take (i := 10) (oi := { dst := some 34, op := .extract (.tmp 24) 1, type := _, pos := _, after := _, guard := none }) (v := ?vb9) rfl (by kernel_rfl) (by kernel_rfl) (by kernel_rfl) (fun _ _ _ h => h) (Or.inl ⟨by rfl, ?hyb9⟩) (by assumption) ?restb9
  case hyb9 => (intro w hSw; (try dsimp only at hSw); go_simp; try with_reducible rfl)
  try simp only [Act.put, List.setIfInBounds_toArray, List.set_cons_zero, List.set_cons_succ]
  refine wpAnyH_take (i := 11) (oi := { dst := some 5, op := .assign (.tmp 33), type := _, pos := _, after := _, guard := none }) (v := ?vb10) rfl (by kernel_rfl) (by kernel_rfl) (by kernel_rfl) (fun _ _ _ h => h) (Or.inl ⟨by rfl, ?hyb10⟩) (by assumption) ?restb10
  case hyb10 => (intro w hSw; (try dsimp only at hSw); go_simp; try with_reducible rfl)
  try simp only [Act.put, List.setIfInBounds_toArray, List.set_cons_zero, List.set_cons_succ]
  refine wpAnyH_take (i := 12) (oi := { dst := some 6, op := .assign (.tmp 34), type := _, pos := _, after := _, guard := none }) (v := ?vb11) rfl (by kernel_rfl) (by kernel_rfl) (by kernel_rfl) (fun _ _ _ h => h) (Or.inl ⟨by rfl, ?hyb11⟩) (by assumption) ?restb11
  case hyb11 => (intro w hSw; (try dsimp only at hSw); go_simp; try with_reducible rfl)
  try simp only [Act.put, List.setIfInBounds_toArray, List.set_cons_zero, List.set_cons_succ]
  refine wpAnyH_done (by kernel_rfl) ?_ _
  obtain ⟨⟨γ2, g2, sp2, wb2⟩, _⟩ := hq10.out
  have c1 := wb2.c1
  have z1 := wb2.z 1
  have l1 := cell_lt' c1
  obtain ⟨wb3, st3⟩ := wb2.set (o := 1) (by omega) (v := .pointer (some ⟨tb, 0, none⟩)) (fun c hc => hc.setS tb)
  have sp3 := sp2.client (st3.mono clS33)
  have HB3 := Lib.hid (And.intro sp3 (And.intro wb3 st3))
  clear sp2 wb2 sp3 wb3 st3 OPN HS8 hq8 FR hq10
  go_upto_region 8 with fail
  refine take_last ?_
  intro W10 hW10
  rw [hW10] at HB3
  clear hW10 c1 z1 l1
  obtain ⟨sp3, wb3, st3⟩ := HB3.out
  have gl3 : γ2.lim ≤ W10.heap.size := Nat.le_trans g2.2.1 st3.size
  have gb3 : Below w.heap.size w W10 := g2.2.2.trans (g2.1 ▸ st3.be)
  obtain ⟨hin, hok2⟩ := holds_in last hok
  have H1 := (holds_ok (off := 2051) sp3 hok (bd_up hbd0 (Ca.In.refl _ 0) (by omega)) gl3 wb3.tg wb3.rl hlb.b hlb.mt).mono (R' := fun e W' => e = .returned (.bool (last.holds (opened d F r)).1) ∧ Hid (SpV γ2 W' tb db (last.holds (opened d F r)).2 ∧ WB γ2 W' wb db tb now last wanted torn ∧ (γ2.lim ≤ W'.heap.size ∧ Below w.heap.size w W'))) fun e W' ⟨h1, h2⟩ => ⟨h1, Lib.hid ⟨h2.out.1, wb3.keep h2.out.2 rfl, Nat.le_trans gl3 h2.out.2.size, gb3.trans (g2.1 ▸ h2.out.2.be)⟩⟩
  have hbd2 : (last.holds (opened d F r)).2.Bd 2100 := bd_up hbd0 hin (by omega)
  have l3 := wb3.lt
  clear sp3 wb3 st3 hin hbd0
  rcases hways with ⟨hy, hWI⟩ | ⟨hy, ht, hz, hWI⟩
  · rw [hy] at H1
    have HWI := Lib.hid hWI
    have HBY := Lib.hid hlb
    generalize (last.holds (opened d F r)).2 = s2 at *
    clear hy hWI
    go_upto_region 9 with (go_at_call 48; refine H1.mono ?_; rintro e w11 ⟨rfl, hq11⟩)
    obtain ⟨sp4, wb4, gl4, gb4⟩ := hq11.out
    have L0 := Lib.hid wb4.rl
    have t0 := Lib.hid (wb4.there (o := 4100) (n := 2049) (by omega))
    obtain ⟨wb5, st5⟩ := wb4.setWanted last
    have sp5 := sp4.client (st5.mono clS33)
    have gl2 := Nat.le_trans gl4 st5.size
    have gb2 := gb4.trans (g2.1 ▸ st5.be)
    obtain ⟨X0, hX0⟩ : ∃ X0, w11.setCells wb 4100 (stL last) = X0 := ⟨_, rfl⟩
    rw [hX0] at wb5 sp5 gl2 gb2
    have HX0 := Lib.hid hX0
    have H5 := Lib.hid (And.intro wb5 sp5)
    have l4 := wb4.lt
    clear sp4 wb4 wb5 sp5 st5 hX0 H1 hq11
    go_upto_region 12 with (first | ((with_reducible refine wpList_load31 (x := last) (o := 2051) (wb := wb) ?_ ?_ ?_ ?_); (with_reducible rfl); (exact ⟨_, rfl, rfl⟩); (exact L0.out)) | ((with_reducible refine wpList_store31 (x := last) (o := 4100) (wb := wb) ?_ ?_ ?_ ?_); (with_reducible rfl); (exact ⟨_, _, rfl, rfl, rfl⟩); (exact t0.out)))
    rw [HX0.out]
    clear L0 t0
    obtain ⟨wbA, spA⟩ := H5.out
    have L1 := Lib.hid wbA.rq
    have t1 := Lib.hid (wbA.there (o := 2051) (n := 2049) (by omega))
    obtain ⟨wbB, stB⟩ := wbA.setLast last
    have spB := spA.client (stB.mono clS33)
    have hlB := stB.size
    obtain ⟨X1, hX1⟩ : ∃ X1, X0.setCells wb 2051 (stL last) = X1 := ⟨_, rfl⟩
    rw [hX1] at wbB spB stB hlB
    have HX1 := Lib.hid hX1
    have L2 := Lib.hid wbB.rl
    have t2 := Lib.hid (wbB.there (o := 2) (n := 2049) (by omega))
    obtain ⟨wbC, stC⟩ := wbB.setNow last
    have spC' := spB.client (stC.mono clS33)
    have hlC := stC.size
    obtain ⟨X2, hX2⟩ : ∃ X2, X1.setCells wb 2 (stL last) = X2 := ⟨_, rfl⟩
    rw [hX2] at wbC spC' stC hlC
    have HX2 := Lib.hid hX2
    have ct := wbC.ct
    have zt := wbC.z 6149
    have ltX := cell_lt' ct
    have wl0 := wbA.lt
    have wl1 := wbB.lt
    obtain ⟨wbD, stD⟩ := wbC.set (o := 6149) (by omega) (v := .bool false) (fun c hc => hc.setT false)
    have HFIN : Hid (WL w (X2.setCell ⟨wb, 6149, none⟩ (.bool false)) db tb wb s2 last last last false) := Lib.hid ⟨γ2, ⟨g2.1, Nat.le_trans gl2 (Nat.le_trans hlB (Nat.le_trans hlC stD.size)), gb2.trans (g2.1 ▸ ((stB.be.trans stC.be).trans stD.be))⟩, spC'.client (stD.mono clS33), wbD⟩
    clear wbA spA wbB spB stB wbC spC' stC wbD stD hX1 hX2 hlB hlC
    go_upto_region 13 with (first | ((with_reducible refine wpList_load31 (x := last) (o := 4100) (wb := wb) ?_ ?_ ?_ ?_); (with_reducible rfl); (exact ⟨_, rfl, rfl⟩); (exact L1.out)) | ((with_reducible refine wpList_store31 (x := last) (o := 2051) (wb := wb) ?_ ?_ ?_ ?_); (with_reducible rfl); (exact ⟨_, _, rfl, rfl, rfl⟩); (exact t1.out)))
    rw [HX1.out]
    go_upto_region 14 with (first | ((with_reducible refine wpList_load31 (x := last) (o := 2051) (wb := wb) ?_ ?_ ?_ ?_); (with_reducible rfl); (exact ⟨_, rfl, rfl⟩); (exact L2.out)) | ((with_reducible refine wpList_store31 (x := last) (o := 2) (wb := wb) ?_ ?_ ?_ ?_); (with_reducible rfl); (exact ⟨_, _, rfl, rfl, rfl⟩); (exact t2.out)))
    rw [HX2.out]
    go_wp2_with fail
    go_ret
    exact ⟨rfl, Lib.hid ⟨_, _, _, HFIN.out, HWI.out, HBY.out⟩⟩
  · rw [hy] at H1
    have HWI := Lib.hid hWI
    have HBY := Lib.hid hqb
    generalize (last.holds (opened d F r)).2 = s1 at *
    clear hy hWI
    go_upto_region 10 with (go_at_call 48; refine H1.mono ?_; rintro e w11 ⟨rfl, hq11⟩)
    obtain ⟨sp4, wb4, gl4, gb4⟩ := hq11.out
    have H2 := (holds_ok (off := 4100) sp4 hok2 hbd2 gl4 wb4.tg wb4.rq hqb.b hqb.mt).mono (R' := fun e W' => e = .returned (.bool (wanted.holds s1).1) ∧ Hid (SpV γ2 W' tb db (wanted.holds s1).2 ∧ WB γ2 W' wb db tb now last wanted torn ∧ (γ2.lim ≤ W'.heap.size ∧ Below w.heap.size w W'))) fun e W' ⟨h1, h2⟩ => ⟨h1, Lib.hid ⟨h2.out.1, wb4.keep h2.out.2 rfl, Nat.le_trans gl4 h2.out.2.size, gb4.trans (g2.1 ▸ h2.out.2.be)⟩⟩
    have ct := wb4.ct
    rw [ht] at ct
    have l4 := cell_lt' ct
    rw [hz] at H2
    generalize (wanted.holds s1).2 = s2 at *
    clear sp4 wb4 hz H1 hq11
    go_upto_region 12 with (go_at_call 48; refine H2.mono ?_; rintro e w12 ⟨rfl, hq12⟩)
    obtain ⟨sp5, wb5, gl2, gb2⟩ := hq12.out
    have H5 := Lib.hid (And.intro wb5 sp5)
    clear ct l4 sp5 wb5 H2 hq12
    obtain ⟨wbA, spA⟩ := H5.out
    have L1 := Lib.hid wbA.rq
    have t1 := Lib.hid (wbA.there (o := 2051) (n := 2049) (by omega))
    obtain ⟨wbB, stB⟩ := wbA.setLast wanted
    have spB := spA.client (stB.mono clS33)
    have hlB := stB.size
    obtain ⟨X1, hX1⟩ : ∃ X1, w12.setCells wb 2051 (stL wanted) = X1 := ⟨_, rfl⟩
    rw [hX1] at wbB spB stB hlB
    have HX1 := Lib.hid hX1
    have L2 := Lib.hid wbB.rl
    have t2 := Lib.hid (wbB.there (o := 2) (n := 2049) (by omega))
    obtain ⟨wbC, stC⟩ := wbB.setNow wanted
    have spC' := spB.client (stC.mono clS33)
    have hlC := stC.size
    obtain ⟨X2, hX2⟩ : ∃ X2, X1.setCells wb 2 (stL wanted) = X2 := ⟨_, rfl⟩
    rw [hX2] at wbC spC' stC hlC
    have HX2 := Lib.hid hX2
    have ct := wbC.ct
    have zt := wbC.z 6149
    have ltX := cell_lt' ct
    have wl0 := wbA.lt
    have wl1 := wbB.lt
    obtain ⟨wbD, stD⟩ := wbC.set (o := 6149) (by omega) (v := .bool false) (fun c hc => hc.setT false)
    have HFIN : Hid (WL w (X2.setCell ⟨wb, 6149, none⟩ (.bool false)) db tb wb s2 wanted wanted wanted false) := Lib.hid ⟨γ2, ⟨g2.1, Nat.le_trans gl2 (Nat.le_trans hlB (Nat.le_trans hlC stD.size)), gb2.trans (g2.1 ▸ ((stB.be.trans stC.be).trans stD.be))⟩, spC'.client (stD.mono clS33), wbD⟩
    clear wbA spA wbB spB stB wbC spC' stC wbD stD hX1 hX2 hlB hlC
    go_upto_region 13 with (first | ((with_reducible refine wpList_load31 (x := wanted) (o := 4100) (wb := wb) ?_ ?_ ?_ ?_); (with_reducible rfl); (exact ⟨_, rfl, rfl⟩); (exact L1.out)) | ((with_reducible refine wpList_store31 (x := wanted) (o := 2051) (wb := wb) ?_ ?_ ?_ ?_); (with_reducible rfl); (exact ⟨_, _, rfl, rfl, rfl⟩); (exact t1.out)))
    rw [HX1.out]
    go_upto_region 14 with (first | ((with_reducible refine wpList_load31 (x := wanted) (o := 2051) (wb := wb) ?_ ?_ ?_ ?_); (with_reducible rfl); (exact ⟨_, rfl, rfl⟩); (exact L2.out)) | ((with_reducible refine wpList_store31 (x := wanted) (o := 2) (wb := wb) ?_ ?_ ?_ ?_); (with_reducible rfl); (exact ⟨_, _, rfl, rfl, rfl⟩); (exact t2.out)))
    rw [HX2.out]
    go_wp2_with fail
    go_ret
    exact ⟨rfl, Lib.hid ⟨_, _, _, HFIN.out, HWI.out, HBY.out⟩⟩
end Go.Tb
namespace Go.Tb
open Go Go.RowKit Go.Proofs Go.Maps Go.Sp
theorem WI.arm {N k : Nat} {s : Sp} {now last wanted : St} {torn : Bool} (h : WI N k s now last wanted torn) (n : Nat) : WI N (k + 1) (s.withC { s.c with d := { s.c.d with ar := n } }) now last wanted torn :=
  { hN := h.hN, hN2 := h.hN2, ok := ⟨⟨⟨h.ok.c.d.S, h.ok.c.d.P⟩, h.ok.c.dom, h.ok.c.inj⟩, h.ok.M, h.ok.own, h.ok.pg, h.ok.at'⟩, clk := by have := h.clk; show s.c.clk ≤ _; omega, P := by have := h.P; show s.c.d.P.length ≤ _; omega, dead := h.dead,
    live := fun hd => by
      obtain ⟨hI, hF, hO⟩ := h.live hd
      exact ⟨{ ok := ⟨⟨⟨h.ok.c.d.S, h.ok.c.d.P⟩, h.ok.c.dom, h.ok.c.inj⟩, h.ok.M, h.ok.own, h.ok.pg, h.ok.at'⟩, pub := hI.pub, np := hI.np, cl := hI.cl, nd := hI.nd, own1 := hI.own1, ownn := hI.ownn, odis := hI.odis, onew := hI.onew }, hF, hO⟩ }
theorem WL.below {w W W' : World} {db sb wb : Nat} {s : Sp} {now last wanted : St} {torn : Bool} (h : WL w W db sb wb s now last wanted torn) (hb : Below W.heap.size W W') : WL w W' db sb wb s now last wanted torn := by
  obtain ⟨γ, g, hs, hw⟩ := h
  have st : Step γ (fun _ => false) W W' := Step.below hb g.2.1
  exact ⟨γ, ⟨g.1, Nat.le_trans g.2.1 st.size, g.2.2.trans (g.1 ▸ st.be)⟩, hs.below hb g.2.1, hw.keep st rfl⟩
def DoesW (w : World) (db wb N k : Nat) (e : Ending) (W' : World) : Prop :=
  e = .returned (.bool true) ∧ Hid (∃ sb' s' now' last' wanted' torn', WL w W' db sb' wb s' now' last' wanted' torn' ∧ WI N (k + 1) s' now' last' wanted' torn' ∧ (By now' ∧ By last' ∧ By wanted'))
theorem SpV.arm {γ : Gh} {w w' : World} {sb db : Nat} {s : Sp} {d' : Dk} (H : SpV γ w sb db s) (hs : Step γ dkS w w') (hd : DkV γ w' db d') (hN : d'.N = s.c.d.N) : SpV γ w' sb db (s.withC { s.c with d := d' }) := by
  obtain ⟨cb, rb, ob, kb, HU, HK⟩ := H
  obtain ⟨fb, D, β, CH⟩ := HU.ca
  exact ⟨cb, rb, ob, kb, SpV.cache HU HK (hs.mono dkca) (CH.disk hs hd hN).in hN⟩
section
variable {w W : World} {db sb wb : Nat} {s : Sp} {now last wanted : St} {torn : Bool} {N k : Nat} {p t : Int} {ba ka : Option Addr} {bn bc kn kc : Nat} {l : List Int}
theorem world_crash (h : WL w W db sb wb s now last wanted torn) (hI : WI N k s now last wanted torn) (hk : k ≤ 100) (hB : By now ∧ By last ∧ By wanted)
    (hkn : ka = none → kn = 0 ∧ kc = 0) (hl : l.length ≤ 1000) (hkr : ∀ W', Below w.heap.size w W' → IR W' (.slice ka kn kc) l) :
    Calls Tryz.prog 36 #[.pointer (some ⟨wb, 0, none⟩), opV 6 p (.slice ba bn bc) (.slice ka kn kc) t] W (DoesW w db wb N k) := by
  have OP := Lib.hid (fun (W1 : World) (hb : Below W.heap.size W W1) => opens_ok (kd := 6) (p := p) (t := t) (ba := ba) (bn := bn) (bc := bc) (h.below hb) hI hk hB.2.1 hB.2.2 hkn hl hkr)
  have HW := Lib.hid (Below.alloc (Below.refl W.heap.size W) (Nat.le_refl _) (.cells #[.int .i64 6, .int .i64 p, .slice ba bn bc, .slice ka kn kc, .int .i64 t] 73))
  unfold opV at *
  clear h hI hkn hkr hB
  go_enter Tryz.func36, Tryz.ntmps36
  go_wp2_with (go_at_call 38; refine (OP.out _ HW.out).mono ?_; rintro e w5 ⟨rfl, hq5⟩)
  go_ret
  obtain ⟨sb', s', x, h1, h2, h3⟩ := hq5.out
  exact ⟨rfl, Lib.hid ⟨_, _, _, _, _, _, h1, h2, h3, h3, h3⟩⟩
theorem world_arm (h : WL w W db sb wb s now last wanted torn) (hI : WI N k s now last wanted torn) (hB : By now ∧ By last ∧ By wanted) (hp : p ≤ 9223372036854775807) :
    Calls Tryz.prog 36 #[.pointer (some ⟨wb, 0, none⟩), opV 7 p (.slice ba bn bc) (.slice ka kn kc) t] W (DoesW w db wb N k) := by
  unfold opV
  obtain ⟨W1, hW1⟩ : ∃ W1, W.alloc (.cells #[.int .i64 7, .int .i64 p, .slice ba bn bc, .slice ka kn kc, .int .i64 t] 73) = W1 := ⟨_, rfl⟩
  have hb1 : Below W.heap.size W W1 := hW1 ▸ Below.alloc (Below.refl _ _) (Nat.le_refl _) _
  have hO1 : W1.heap[W.heap.size]? = some (.cells #[.int .i64 7, .int .i64 p, .slice ba bn bc, .slice ka kn kc, .int .i64 t] 73 (0, 0)) := hW1 ▸ (Go.MapKept.heap_alloc W _).1
  have h1 := Lib.hid (h.below hb1)
  have HS := Lib.hid (fun (W2 : World) (hb : Below W1.heap.size W1 W2) => show W2.cell? ⟨wb, 0, none⟩ = some (.pointer (some ⟨db, 0, none⟩)) ∧ W2.cell? ⟨W.heap.size, 1, none⟩ = some (.int .i64 p) from by
    obtain ⟨γ, g, hs, hw⟩ := h1.out
    exact ⟨cells_below hb _ _ hw.c0, cells_below hb _ _ (op5 hO1).2.1⟩)
  have AR := Lib.hid (fun (W2 : World) (hb : Below W1.heap.size W1 W2) => show Calls Tryz.prog 40 #[.pointer (some ⟨db, 0, none⟩), .int .i64 p] W2 (fun e w' => (∃ v, e = .returned v) ∧ Hid (∃ s', WL w w' db sb wb s' now last wanted torn ∧ WI N (k + 1) s' now last wanted torn ∧ w'.cell? ⟨wb, 0, none⟩ = some (.pointer (some ⟨db, 0, none⟩)) ∧ w'.cell? ⟨W.heap.size, 1, none⟩ = some (.int .i64 p))) from by
    obtain ⟨γ, g0, hs0, hw0⟩ := h
    have hb2 : Below W.heap.size W W2 := Below.up hb1 hb
    have st2 : Step γ (fun _ => false) W W2 := Step.below hb2 g0.2.1
    have g : γ.B = w.heap.size ∧ γ.lim ≤ W2.heap.size ∧ Below w.heap.size w W2 := ⟨g0.1, Nat.le_trans g0.2.1 st2.size, g0.2.2.trans (g0.1 ▸ st2.be)⟩
    have hs := hs0.below hb2 g0.2.1
    have hw := hw0.keep st2 rfl
    have hO2 := (hb.block _ (Array.getElem?_eq_some_iff.1 hO1).1).trans hO1
    have tO : Tag γ W2 W.heap.size 73 := Tag.new g0.2.1 hO2
    have hdk : DkV γ W2 db s.c.d := by obtain ⟨cb, rb, ob, kb, HU, HK⟩ := hs; exact HU.ca.dk'
    refine (arm_ok hdk p hp).mono ?_
    rintro e w' ⟨h1, h2, h3⟩
    refine ⟨h1, Lib.hid ?_⟩
    have kc : w'.cell? ⟨wb, 0, none⟩ = some (.pointer (some ⟨db, 0, none⟩)) ∧ w'.cell? ⟨W.heap.size, 1, none⟩ = some (.int .i64 p) := ⟨(hw.keep h3 rfl).c0, cell_keep h3 tO rfl (op5 hO2).2.1⟩
    have gg : γ.B = w.heap.size ∧ γ.lim ≤ w'.heap.size ∧ Below w.heap.size w w' := ⟨g.1, Nat.le_trans g.2.1 h3.size, g.2.2.trans (g.1 ▸ h3.be)⟩
    by_cases hc : s.c.d.dead = true ∨ p < 0
    · rw [if_pos hc] at h2
      exact ⟨s.withC { s.c with d := s.c.d }, ⟨γ, gg, hs.arm h3 h2 rfl, hw.keep h3 rfl⟩, hI.more, kc⟩
    · rw [if_neg hc] at h2
      exact ⟨_, ⟨γ, gg, hs.arm h3 h2 rfl, hw.keep h3 rfl⟩, WI.arm hI p.toNat, kc⟩)
  obtain ⟨o0, o1, o2, o3, o4, lO⟩ := op5 hO1
  have HW := Lib.hid hW1
  have HBY := Lib.hid hB
  clear h hI hB hb1 hO1 hW1 h1 o1 o2 o3 o4
  go_enter Tryz.func36, Tryz.ntmps36
  go_upto_region 1 with fail
  rw [HW.out]
  go_upto_region 4 with fail
  refine wp_region_held_drew (S := (fun W' => W'.cell? ⟨wb, 0, none⟩ = some (.pointer (some ⟨db, 0, none⟩)) ∧ W'.cell? ⟨W.heap.size, 1, none⟩ = some (.int .i64 p))) (by kernel_rfl) ?_ (fun hHeld => ?_)
  · (with_reducible refine HS.out _ ?_; (repeat (first | with_reducible exact Below.refl _ _ | with_reducible assumption | with_reducible refine Below.drew ?_ | with_reducible refine Below.allocs ?_ _)); done)
  refine wpAnyH_take (i := 0) (oi := { dst := some 18, op := .move (.tmp 0), type := _, pos := _, after := _, guard := none }) (v := ?va1) rfl (by kernel_rfl) (by kernel_rfl) (by kernel_rfl) (fun _ _ _ h => h) (Or.inl ⟨by rfl, ?hya1⟩) (by assumption) ?resta1
  case hya1 => (intro w hSw; (try dsimp only at hSw); go_simp; try with_reducible rfl)
  try simp only [Act.put, List.setIfInBounds_toArray, List.set_cons_zero, List.set_cons_succ]
  refine wpAnyH_take (i := 1) (oi := { dst := some 19, op := .nilCheck (.tmp 18), type := _, pos := _, after := _, guard := none }) (v := ?va2) rfl (by kernel_rfl) (by kernel_rfl) (by kernel_rfl) (fun _ _ _ h => h) (Or.inl ⟨by rfl, ?hya2⟩) (by assumption) ?resta2
  case hya2 => (intro w hSw; (try dsimp only at hSw); go_simp; try with_reducible rfl)
  try simp only [Act.put, List.setIfInBounds_toArray, List.set_cons_zero, List.set_cons_succ]
  refine wpAnyH_take (i := 2) (oi := { dst := some 20, op := .fieldAddr 33 (.tmp 19) 0, type := _, pos := _, after := _, guard := none }) (v := ?va3) rfl (by kernel_rfl) (by kernel_rfl) (by kernel_rfl) (fun _ _ _ h => h) (Or.inl ⟨by rfl, ?hya3⟩) (by assumption) ?resta3
  case hya3 => (intro w hSw; (try dsimp only at hSw); go_simp; try with_reducible rfl)
  try simp only [Act.put, List.setIfInBounds_toArray, List.set_cons_zero, List.set_cons_succ]
  refine wpAnyH_take (i := 3) (oi := { dst := some 21, op := .load 26 (.tmp 20), type := _, pos := _, after := _, guard := none }) (v := ?va4) rfl (by kernel_rfl) (by kernel_rfl) (by kernel_rfl) (fun _ _ _ h => h) (Or.inl ⟨by rfl, ?hya4⟩) (by assumption) ?resta4
  case hya4 => (intro w hSw; (try dsimp only at hSw); go_simp; try with_reducible rfl)
  try simp only [Act.put, List.setIfInBounds_toArray, List.set_cons_zero, List.set_cons_succ]
  refine wpAnyH_take (i := 4) (oi := { dst := some 22, op := .fieldAddr 73 (.tmp 3) 1, type := _, pos := _, after := _, guard := none }) (v := ?va5) rfl (by kernel_rfl) (by kernel_rfl) (by kernel_rfl) (fun _ _ _ h => h) (Or.inl ⟨by rfl, ?hya5⟩) (by assumption) ?resta5
  case hya5 => (intro w hSw; (try dsimp only at hSw); go_simp; try with_reducible rfl)
  try simp only [Act.put, List.setIfInBounds_toArray, List.set_cons_zero, List.set_cons_succ]
  refine wpAnyH_take (i := 5) (oi := { dst := some 23, op := .load 3 (.tmp 22), type := _, pos := _, after := _, guard := none }) (v := ?va6) rfl (by kernel_rfl) (by kernel_rfl) (by kernel_rfl) (fun _ _ _ h => h) (Or.inl ⟨by rfl, ?hya6⟩) (by assumption) ?resta6
  case hya6 => (intro w hSw; (try dsimp only at hSw); go_simp; try with_reducible rfl)
  try simp only [Act.put, List.setIfInBounds_toArray, List.set_cons_zero, List.set_cons_succ]
  refine wpAnyH_ready (rs := [6]) (by kernel_rfl) (by simp) ?_
  refine AllReadyH.cons (o := { dst := some 24, op := .call { callee := .value (.func 40), args := #[(.tmp 21), (.tmp 23)], argTypes := #[26, 3] }, type := _, pos := _, after := _, guard := none }) rfl (fun K hK => ?_) AllReadyH.nil
  go_simp
  go_at_call 40
  refine (AR.out _ ?_).mono ?_
  · (repeat (first | with_reducible exact Below.refl _ _ | with_reducible assumption | with_reducible refine Below.drew ?_ | with_reducible refine Below.allocs ?_ _))
  rintro e w5 ⟨⟨v5, rfl⟩, hq5⟩
  refine hK.out _ _ ?_ (fun hHeld => ?_)
  · (obtain ⟨s', h1, h2, h3⟩ := hq5.out; exact h3)
  clear hK K
  try simp only [Act.put, List.setIfInBounds_toArray, List.set_cons_zero, List.set_cons_succ]
  refine wpAnyH_done (by kernel_rfl) ?_ _
  go_wp2_with fail
  go_ret
  obtain ⟨s', h1, h2, _⟩ := hq5.out
  exact ⟨rfl, Lib.hid ⟨_, _, _, _, _, _, h1, h2, HBY.out⟩⟩
end
end Go.Tb
