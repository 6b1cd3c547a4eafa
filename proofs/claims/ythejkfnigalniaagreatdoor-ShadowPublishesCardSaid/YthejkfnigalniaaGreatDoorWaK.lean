/- A part of a proof about the shadow space: what a function of the program answers, walked by hand. Each theorem says its own conditions. -/
import Derived.Test.YthejkfnigalniaaGreatDoorWaJ
import Derived.Test.YthejkfnigalniaaGreatDoorPlb
set_option linter.unusedVariables false
set_option linter.unusedSimpArgs false
set_option maxRecDepth 100000
set_option maxHeartbeats 800000
namespace Go.Tb
open Go Go.RowKit Go.Proofs Go.Maps Go.Sp
structure WC (c : Array Value) (db sb : Nat) (now last wanted : St) (torn : Bool) : Prop where
  sz : c.size = 6150
  d : c[0]? = some (.pointer (some ⟨db, 0, none⟩))
  s : c[1]? = some (.pointer (some ⟨sb, 0, none⟩))
  n : ∀ j v, (stL now)[j]? = some v → c[2 + j]? = some v
  l : ∀ j v, (stL last)[j]? = some v → c[2051 + j]? = some v
  q : ∀ j v, (stL wanted)[j]? = some v → c[4100 + j]? = some v
  t : c[6149]? = some (.bool torn)
structure WB (γ : Gh) (W : World) (wb db sb : Nat) (now last wanted : St) (torn : Bool) : Prop where
  tg : Tag γ W wb 33
  B : γ.B ≤ wb
  hk : ∃ c, W.heap[wb]? = some (.cells c 33 (0, 0)) ∧ WC c db sb now last wanted torn
section
variable {γ : Gh} {W : World} {wb db sb : Nat} {now last wanted : St} {torn : Bool}
theorem WB.c0 (h : WB γ W wb db sb now last wanted torn) : W.cell? ⟨wb, 0, none⟩ = some (.pointer (some ⟨db, 0, none⟩)) := by obtain ⟨c, h1, h2⟩ := h.hk; simp [World.cell?, h1, h2.d]
theorem WB.c1 (h : WB γ W wb db sb now last wanted torn) : W.cell? ⟨wb, 1, none⟩ = some (.pointer (some ⟨sb, 0, none⟩)) := by obtain ⟨c, h1, h2⟩ := h.hk; simp [World.cell?, h1, h2.s]
theorem WB.ct (h : WB γ W wb db sb now last wanted torn) : W.cell? ⟨wb, 6149, none⟩ = some (.bool torn) := by obtain ⟨c, h1, h2⟩ := h.hk; simp [World.cell?, h1, h2.t]
theorem WB.z (h : WB γ W wb db sb now last wanted torn) (o : Nat) : W.frozen? ⟨wb, o, none⟩ = false := by obtain ⟨c, h1, h2⟩ := h.hk; simp [World.frozen?, h1]
theorem WB.there (h : WB γ W wb db sb now last wanted torn) {o n : Nat} (hn : o + n ≤ 6150) : W.there wb o n := fun j hj => by
  obtain ⟨c, h1, h2⟩ := h.hk
  have hs := h2.sz
  exact ⟨by simp [World.cell?, h1, Array.getElem?_eq_getElem (show o + j < c.size by omega)], h.z _⟩
theorem WB.rn (h : WB γ W wb db sb now last wanted torn) : SR W wb 2 now := ⟨fun j v hj => by obtain ⟨c, h1, h2⟩ := h.hk; simp [World.cell?, h1, h2.n j v hj]⟩
theorem WB.rl (h : WB γ W wb db sb now last wanted torn) : SR W wb 2051 last := ⟨fun j v hj => by obtain ⟨c, h1, h2⟩ := h.hk; simp [World.cell?, h1, h2.l j v hj]⟩
theorem WB.rq (h : WB γ W wb db sb now last wanted torn) : SR W wb 4100 wanted := ⟨fun j v hj => by obtain ⟨c, h1, h2⟩ := h.hk; simp [World.cell?, h1, h2.q j v hj]⟩
theorem WB.lt (h : WB γ W wb db sb now last wanted torn) : wb < W.heap.size := cell_lt' h.c0
theorem WB.keep {S : TypeId → Bool} {W' : World} (h : WB γ W wb db sb now last wanted torn) (hs : Step γ S W W') (h33 : S 33 = false) : WB γ W' wb db sb now last wanted torn := by
  obtain ⟨c, h1, h2⟩ := h.hk
  exact ⟨hs.tg _ _ (by decide) h.lt h.tg, h.B, c, (hs.heap h.tg h33 h.lt).trans h1, h2⟩
theorem WB.more {γ' : Gh} (h : WB γ W wb db sb now last wanted torn) (hl : Gh.Le W γ γ') : WB γ' W wb db sb now last wanted torn := ⟨h.tg.more hl h.lt, by rw [hl.B]; exact h.B, h.hk⟩
theorem stL_lt {x : St} {j : Nat} {v : Value} (h : (stL x)[j]? = some v) : j < 2049 := by have := (List.getElem?_eq_some_iff.1 h).1; rwa [stL_len] at this
theorem WB.set {db' sb' : Nat} {now' last' wanted' : St} {torn' : Bool} (h : WB γ W wb db sb now last wanted torn) {o : Nat} (ho : o < 6150) {v : Value}
    (hc : ∀ c, WC c db sb now last wanted torn → WC (c.setIfInBounds o v) db' sb' now' last' wanted' torn') : WB γ (W.setCell ⟨wb, o, none⟩ v) wb db' sb' now' last' wanted' torn' ∧ Step γ (fun T => T == 33) W (W.setCell ⟨wb, o, none⟩ v) := by
  obtain ⟨c, h1, h2⟩ := h.hk
  have hcell : W.cell? ⟨wb, o, none⟩ = some (c.getD o undef) := by
    have hs := h2.sz
    simp only [World.cell?, h1]
    rw [Array.getElem?_eq_getElem (by omega)]
    simp [Array.getD, hs, ho]
  refine ⟨⟨h.tg.set hcell, h.B, c.setIfInBounds o v, ?_, hc c h2⟩, Step.set h.tg rfl h.B hcell⟩
  unfold World.setCell
  simp only [Array.getElem?_modify]
  rw [h1]
  simp
theorem WB.sets {now' last' wanted' : St} (h : WB γ W wb db sb now last wanted torn) {o : Nat} (x : St) (ho : o + 2049 ≤ 6150)
    (hc : ∀ c c' : Array Value, WC c db sb now last wanted torn → c'.size = c.size → (∀ j v, (stL x)[j]? = some v → c'[o + j]? = some v) → (∀ j, j < o ∨ o + 2049 ≤ j → c'[j]? = c[j]?) → WC c' db sb now' last' wanted' torn) : WB γ (W.setCells wb o (stL x)) wb db sb now' last' wanted' torn ∧ Step γ (fun T => T == 33) W (W.setCells wb o (stL x)) := by
  obtain ⟨c, h1, h2⟩ := h.hk
  obtain ⟨c', g1, g2, g3⟩ := setCells_block (stL x) o W c 33 (0, 0) h1 (by rw [stL_len, h2.sz]; exact ho)
  have hkd : kindOf (W.setCells wb o (stL x)) wb = kindOf W wb := by simp [kindOf, g1, h1]
  have hB := h.B
  refine ⟨⟨(Gh.kind_of hkd).trans h.tg, h.B, c', g1, hc c c' h2 g2 (fun j v hj => ?_) (fun j hj => ?_)⟩, ⟨⟨(setCells_os _ _ _).1, (setCells_os _ _ _).2.1, (setCells_os _ _ _).2.2, by rw [setCells_size]; exact Nat.le_refl _, fun k hk => setCells_other _ _ _ _ (by omega)⟩, fun k hk hS => setCells_other _ _ _ _ (fun e => by subst e; have := hS 33 h.tg; cases this), fun k T _ hk ht => ?_⟩⟩
  · rw [g3, if_pos ⟨by omega, by rw [stL_len]; have := stL_lt hj; omega⟩, show o + j - o = j by omega]; exact hj
  · rw [g3, if_neg (by rw [stL_len]; omega)]
  · by_cases e : k = wb
    · subst e; exact (Gh.kind_of hkd).trans ht
    · exact ht.same (setCells_other _ _ _ _ e)
end
theorem stL_get (x : St) (j : Nat) : (stL x)[j]? = if j < 1024 then some (.bool (x.on j)) else if j < 2048 then some (.string (txt (x.b (j - 1024)))) else if j = 2048 then some (.string (txt x.mt)) else none := by
  by_cases h1 : j < 1024
  · rw [if_pos h1]; exact stL_on x h1
  · rw [if_neg h1]
    by_cases h2 : j < 2048
    · rw [if_pos h2]
      have := stL_b x (p := j - 1024) (by omega)
      rwa [show 1024 + (j - 1024) = j by omega] at this
    · rw [if_neg h2]
      by_cases h3 : j = 2048
      · rw [if_pos h3, h3]; exact stL_mt x
      · rw [if_neg h3]; exact List.getElem?_eq_none (by rw [stL_len]; omega)
theorem aset (c : Array Value) {o k : Nat} (v : Value) (h : o ≠ k) : (c.setIfInBounds o v)[k]? = c[k]? := by rw [Array.getElem?_setIfInBounds, if_neg h]
theorem aset_same (c : Array Value) {o : Nat} (v : Value) (h : o < c.size) : (c.setIfInBounds o v)[o]? = some v := by rw [Array.getElem?_setIfInBounds, if_pos rfl, if_pos h]
section
variable {c : Array Value} {db sb : Nat} {now last wanted : St} {torn : Bool}
theorem WC.setS (h : WC c db sb now last wanted torn) (sb' : Nat) : WC (c.setIfInBounds 1 (.pointer (some ⟨sb', 0, none⟩))) db sb' now last wanted torn :=
  ⟨by simp [h.sz], (aset _ _ (by omega)).trans h.d, aset_same _ _ (by rw [h.sz]; omega), fun j v hj => (aset _ _ (by omega)).trans (h.n j v hj), fun j v hj => (aset _ _ (by omega)).trans (h.l j v hj), fun j v hj => (aset _ _ (by omega)).trans (h.q j v hj), (aset _ _ (by omega)).trans h.t⟩
theorem WC.setT (h : WC c db sb now last wanted torn) (t : Bool) : WC (c.setIfInBounds 6149 (.bool t)) db sb now last wanted t :=
  ⟨by simp [h.sz], (aset _ _ (by omega)).trans h.d, (aset _ _ (by omega)).trans h.s, fun j v hj => (aset _ _ (by have := stL_lt hj; omega)).trans (h.n j v hj), fun j v hj => (aset _ _ (by have := stL_lt hj; omega)).trans (h.l j v hj), fun j v hj => (aset _ _ (by have := stL_lt hj; omega)).trans (h.q j v hj), aset_same _ _ (by rw [h.sz]; omega)⟩
theorem WC.setOn (h : WC c db sb now last wanted torn) {p : Nat} (hp : p < 1024) (t : Bool) : WC (c.setIfInBounds (2 + p) (.bool t)) db sb { now with on := upd now.on p t } last wanted torn :=
  ⟨by simp [h.sz], (aset _ _ (by omega)).trans h.d, (aset _ _ (by omega)).trans h.s, fun j v hj => by
    by_cases e : j = p
    · subst e
      rw [stL_get, if_pos hp] at hj
      rw [aset_same _ _ (by rw [h.sz]; omega)]
      simpa [upd] using hj
    · rw [aset _ _ (by omega)]
      refine h.n j v ?_
      rw [← hj, stL_get, stL_get]
      simp [upd, e], fun j v hj => (aset _ _ (by omega)).trans (h.l j v hj), fun j v hj => (aset _ _ (by omega)).trans (h.q j v hj), (aset _ _ (by omega)).trans h.t⟩
theorem WC.setB (h : WC c db sb now last wanted torn) {p : Nat} (hp : p < 1024) (b : Bs) : WC (c.setIfInBounds (2 + 1024 + p) (.string (txt b))) db sb { now with b := upd now.b p b } last wanted torn :=
  ⟨by simp [h.sz], (aset _ _ (by omega)).trans h.d, (aset _ _ (by omega)).trans h.s, fun j v hj => by
    by_cases e : j = 1024 + p
    · subst e
      rw [stL_get, if_neg (by omega), if_pos (by omega)] at hj
      rw [show 2 + 1024 + p = 2 + (1024 + p) by omega, aset_same _ _ (by rw [h.sz]; omega)]
      have : 1024 + p - 1024 = p := by omega
      simpa [upd, this] using hj
    · rw [aset _ _ (by omega)]
      refine h.n j v ?_
      rw [← hj, stL_get, stL_get]
      by_cases h1 : j < 1024
      · simp [h1]
      · have : ¬ j - 1024 = p := by omega
        simp [h1, upd, this], fun j v hj => (aset _ _ (by omega)).trans (h.l j v hj), fun j v hj => (aset _ _ (by omega)).trans (h.q j v hj), (aset _ _ (by omega)).trans h.t⟩
end
section
variable {γ : Gh} {W : World} {wb db sb : Nat} {now last wanted : St} {torn : Bool}
theorem WB.setNow (h : WB γ W wb db sb now last wanted torn) (x : St) : WB γ (W.setCells wb 2 (stL x)) wb db sb x last wanted torn ∧ Step γ (fun T => T == 33) W (W.setCells wb 2 (stL x)) :=
  h.sets x (by omega) fun c c' hc hs h1 h2 => ⟨by rw [hs]; exact hc.sz, (h2 _ (by omega)).trans hc.d, (h2 _ (by omega)).trans hc.s, h1, fun j v hj => (h2 _ (by omega)).trans (hc.l j v hj), fun j v hj => (h2 _ (by omega)).trans (hc.q j v hj), (h2 _ (by omega)).trans hc.t⟩
theorem WB.setLast (h : WB γ W wb db sb now last wanted torn) (x : St) : WB γ (W.setCells wb 2051 (stL x)) wb db sb now x wanted torn ∧ Step γ (fun T => T == 33) W (W.setCells wb 2051 (stL x)) :=
  h.sets x (by omega) fun c c' hc hs h1 h2 => ⟨by rw [hs]; exact hc.sz, (h2 _ (by omega)).trans hc.d, (h2 _ (by omega)).trans hc.s, fun j v hj => (h2 _ (by have := stL_lt hj; omega)).trans (hc.n j v hj), h1, fun j v hj => (h2 _ (by omega)).trans (hc.q j v hj), (h2 _ (by omega)).trans hc.t⟩
theorem WB.setWanted (h : WB γ W wb db sb now last wanted torn) (x : St) : WB γ (W.setCells wb 4100 (stL x)) wb db sb now last x torn ∧ Step γ (fun T => T == 33) W (W.setCells wb 4100 (stL x)) :=
  h.sets x (by omega) fun c c' hc hs h1 h2 => ⟨by rw [hs]; exact hc.sz, (h2 _ (by omega)).trans hc.d, (h2 _ (by omega)).trans hc.s, fun j v hj => (h2 _ (by have := stL_lt hj; omega)).trans (hc.n j v hj), fun j v hj => (h2 _ (by have := stL_lt hj; omega)).trans (hc.l j v hj), h1, (h2 _ (by omega)).trans hc.t⟩
end
theorem u31 : ∃ d, Tryz.prog.underlying 31 = some d ∧ d.isRow = true := ⟨_, Tryz.underlying31, rfl⟩
theorem s31 : (Tryz.prog.info? 31).map (·.size) = some 2049 := by kernel_rfl
theorem stL_one (x : St) : (stL x).toArray.all (·.oneCell') = true := all_oneCell_toArray fun v hv => by
  simp only [stL, List.mem_append, List.mem_map, List.mem_singleton] at hv
  rcases hv with ⟨p, _, rfl⟩ | ⟨p, _, rfl⟩ | rfl <;> rfl
theorem load31 {W : World} {wb o : Nat} {x : St} (h : SR W wb o x) : (Instr.loadAt 31 (.pointer (some ⟨wb, o, none⟩))).run Tryz.prog W = .ok (.agg (stL x).toArray) W := by
  obtain ⟨d, hu, hd⟩ := u31
  exact run_loadAt_mid W wb o 31 (stL x) d h.r hu hd (by rw [stL_len]; exact s31)
theorem wpList_load31 {ops : Array Oper} {rest : List Oper} {op : Oper} {a : Act} {w : World} {Q : Exit → Act → World → Prop} {wb o : Nat} {x : St} (hgd : op.guard = none) (ho : ∃ t, op.op = .load 31 t ∧ a.eval t = .pointer (some ⟨wb, o, none⟩)) (hr : SR w wb o x)
    (h : wpList Tryz.prog ops Q rest (a.put op.dst (.agg (stL x).toArray)) w) : wpList Tryz.prog ops Q (op :: rest) a w := by
  obtain ⟨d, hu, hd⟩ := u31
  obtain ⟨t, ho, hx⟩ := ho
  exact wpList_load_mid hgd 31 t ho wb o hx (stL x) d hr.r hu hd (by rw [stL_len]; exact s31) h
theorem wpList_store31 {ops : Array Oper} {rest : List Oper} {op : Oper} {a : Act} {w : World} {Q : Exit → Act → World → Prop} {wb o : Nat} {x : St} (hgd : op.guard = none) (ho : ∃ t u, op.op = .store 31 t u ∧ a.eval t = .pointer (some ⟨wb, o, none⟩) ∧ a.eval u = .agg (stL x).toArray) (hr : w.there wb o 2049)
    (h : wpList Tryz.prog ops Q rest (a.put op.dst undef) (w.setCells wb o (stL x))) : wpList Tryz.prog ops Q (op :: rest) a w := by
  obtain ⟨t, u, ho, hx, hy⟩ := ho
  have := wpList_store_mid (P := Tryz.prog) (ops := ops) (rest := rest) (a := a) (w := w) (Q := Q) hgd 31 t u ho wb o (stL x).toArray hx hy (by rw [List.size_toArray, stL_len]; exact hr) (by rw [List.size_toArray, stL_len]; exact s31) (stL_one x)
  exact this (by simpa using h)
theorem store31 {W : World} {wb o : Nat} (x : St) (h : W.there wb o 2049) : (Instr.storeAt 31 (.pointer (some ⟨wb, o, none⟩)) (.agg (stL x).toArray)).run Tryz.prog W = .ok () (W.setCells wb o (stL x)) := by
  have := run_storeAt_mid (P := Tryz.prog) W wb o 31 (stL x).toArray (by rw [List.size_toArray, stL_len]; exact h) (by rw [List.size_toArray, stL_len]; exact s31) (stL_one x)
  simpa using this
end Go.Tb
namespace Go.Tb
open Go Go.RowKit Go.Proofs Go.Maps Go.Sp
def frm (n : Int) : Nat := 2 + (n % 40).toNat
theorem frm_in (n : Int) : 2 ≤ frm n ∧ frm n ≤ 41 := by unfold frm; omega
theorem tm40 (n : Int) : (n.tmod 40 + 40).tmod 40 = n % 40 ∧ -40 < n.tmod 40 ∧ n.tmod 40 < 40 := by
  have h := Int.tmod_eq_emod (a := n) (b := 40)
  have e : n.tmod 40 = n % 40 ∨ n.tmod 40 = n % 40 - 40 := by
    rw [h]; split
    · exact .inl (by omega)
    · exact .inr (by simp)
  have h1 : 0 ≤ n % 40 ∧ n % 40 < 40 := by omega
  rcases e with e | e
  · rw [e, Int.tmod_eq_emod_of_nonneg (by omega)]; omega
  · by_cases h0 : n % 40 = 0
    · have : n.tmod 40 = 0 := Int.tmod_eq_zero_of_dvd (Int.dvd_of_emod_eq_zero h0)
      rw [this, h0]; decide
    · rw [e, Int.tmod_eq_emod_of_nonneg (by omega)]; omega
theorem frames_ok (n : Int) (w : World) : Calls Tryz.prog 35 #[.int .i64 n] w fun e w' => e = .returned (.int .i64 (frm n : Nat)) ∧ w' = w := by
  obtain ⟨h1, h2, h3⟩ := tm40 n
  have HR : Hid (wrap64 (2 + (wrap64 (n.tmod 40 + 40)).tmod 40) = ((frm n : Nat) : Int)) := Lib.hid (by
    rw [show wrap64 (n.tmod 40 + 40) = n.tmod 40 + 40 by simp [wrap64]; omega, h1]
    have := frm_in n
    unfold frm at this ⊢
    simp [wrap64]; omega)
  generalize frm n = F at *
  clear h1 h2 h3
  go_enter Tryz.func35, Tryz.ntmps35
  go_wp2
  go_ret
  exact ⟨by rw [← HR.out]; rfl, rfl⟩
end Go.Tb
namespace Go.Tb
open Go Go.RowKit Go.Proofs Go.Maps Go.Sp
def WL (w W : World) (db sb wb : Nat) (s : Sp) (now last wanted : St) (torn : Bool) : Prop :=
  ∃ γ : Gh, (γ.B = w.heap.size ∧ γ.lim ≤ W.heap.size ∧ Below w.heap.size w W) ∧ SpV γ W sb db s ∧ WB γ W wb db sb now last wanted torn
structure By (x : St) : Prop where
  b : ∀ p, Go.Sp.bytes (x.b p)
  mt : Go.Sp.bytes x.mt
theorem readAll_in (x : St) : ∀ (l : List Nat) {s : Sp}, s.Ok → Ca.In s.c (readAll x l s).2.c (2 * l.length) ∧ (readAll x l s).2.Ok
  | [], s, h => ⟨Ca.In.refl _ _, h⟩
  | p :: l, s, h => by
    obtain ⟨i1, i2, _, _⟩ := read_in h (p : Int)
    unfold readAll
    split
    · exact ⟨i1.mono (by simp; omega), i2⟩
    · obtain ⟨j1, j2⟩ := readAll_in x l i2
      exact ⟨(i1.trans j1).mono (by simp; omega), j2⟩
theorem holds_in (x : St) {s : Sp} (h : s.Ok) : Ca.In s.c (x.holds s).2.c 2048 ∧ (x.holds s).2.Ok := by
  have hlen : (pgs s.own).length ≤ 1024 := by
    have := List.length_filter_le (fun p => decide (0 < s.own p)) (List.range 1024)
    simpa [pgs] using this
  obtain ⟨i1, i2⟩ := readAll_in x (pgs s.own) h
  unfold St.holds
  split
  · exact ⟨Ca.In.refl _ _, h⟩
  · split
    · exact ⟨Ca.In.refl _ _, h⟩
    · exact ⟨i1.mono (by omega), i2⟩
theorem open_bind {d : Dk} {F : Nat} {r : Rt} (hd : d.dead = false) (hF : 2 ≤ F ∧ F ≤ 1024) (h : d.open (F : Int) = (0, some (opened d F r))) : d.best.bind d.whole = some r := by
  unfold Dk.open at h
  have h1 : ¬ ((F : Int) < 2 ∨ (1024 : Int) < (F : Int)) := by omega
  rw [hd] at h
  simp only [h1, if_false] at h
  cases hb : d.best with
  | none => rw [hb] at h; simp at h
  | some r0 =>
    rw [hb] at h
    show d.whole r0 = some r
    simp only at h
    cases hw : d.whole r0 with
    | none => rw [hw] at h; simp at h
    | some r1 =>
      rw [hw] at h
      simp only [Bool.false_eq_true, if_false, Prod.mk.injEq, Option.some.injEq, true_and, Int.toNat_natCast] at h
      have := congrArg Sp.r h
      exact congrArg some this
theorem i3o : (Tryz.prog.info? 3).map (fun i => (i.size, i.bytes, i.zero)) = some (1, 8, some (.int .i64 0)) := by kernel_rfl
theorem wp_keep {w : World} {o : Oper} {a : Act} {K : Act → World → Prop} {Q : Exit → Act → World → Prop} {g base : Nat} {ka : Option Addr} {kn kc : Nat} {l : List Int} (s t : Operand)
    (ho : o.op = .call { callee := .builtin .append, args := #[s, t], argTypes := #[42, 42] }) (hs : a.eval s = .slice (some ⟨g, 0, none⟩) 0 0) (hx : a.eval t = .slice ka kn kc) (hov : w.ownsRow base 3 1 (.slice (some ⟨g, 0, none⟩) 0 0) 0 []) (hb : base ≤ w.heap.size)
    (hkn : ka = none → kn = 0 ∧ kc = 0) (hc : IR w (.slice ka kn kc) l) (hl : l.length ≤ 1000)
    (h : ∀ v' w', w'.ownsRow base 3 1 v' l.length (l.map fun x => Value.int .i64 x) → Below base w w' → K (a.put o.dst v') w') : o.wp Tryz.prog a w K Q := by
  obtain ⟨i, hi, hi2⟩ := Option.map_eq_some_iff.1 i3o
  injection hi2 with hz0 hz1
  injection hz1 with hz1 hz2
  obtain ⟨a', c', e, hr⟩ := hc
  injection e with e1 e2 e3
  subst e1 e3
  cases ka with
  | none =>
    obtain ⟨h1, h2⟩ := hkn rfl
    subst h2
    have hl0 : l = [] := List.length_eq_zero_iff.1 (by omega)
    subst hl0
    subst h1
    have hrun := run_append_owned_none (P := Tryz.prog) (w := w) base 42 o.type 3 i 1 Tryz.underlying42 hi _ 0 [] hov
    have hk := h _ w hov (Below.refl _ _)
    unfold Oper.wp
    simp [execOp, ho, resolve, invoke, builtin, hs, hx, hrun, Result.andThen]
    exact hk
  | some ad =>
    subst e2
    refine wp_append_own w s t 42 ho base 3 i (.int .i64 0) 1 8 Tryz.underlying42 hi hz2 hz0 hz1 rfl (by decide) _ 0 [] hs hov ad l.length kc (l.map fun x => Value.int .i64 x) hx (by simp) (fun j u hj => ?_) (fun u hu => ?_) (by simp only [maxLen]; omega) (by omega) hb fun v' w' h1 h2 _ => h v' w' (by simpa using h1) ((Below.refl base w).grown h2 hb fun k hk => (hov.lt k hk).1)
    · rw [List.getElem?_map] at hj
      obtain ⟨x, hx1, rfl⟩ := Option.map_eq_some_iff.1 hj
      obtain ⟨g', o', e1, _, hcell⟩ := hr (by have := (List.getElem?_eq_some_iff.1 hx1).1; omega)
      injection e1 with e1
      subst e1
      rw [add_cell]
      exact hcell j x hx1
    · obtain ⟨x, _, rfl⟩ := List.mem_map.1 hu; rfl
end Go.Tb
namespace Go.Tb
open Go Go.RowKit Go.Proofs Go.Maps Go.Sp
theorem own_IR {γ : Gh} {base : Nat} {w W : World} {v : Value} {l : List Int} (h : w.ownsRow base 3 1 v l.length (l.map fun x => Value.int .i64 x)) (hb : γ.lim ≤ base) (hs : Step γ dkS w W) : IR W v l := by
  have h1 := h.1
  rcases h.2 with ⟨rfl, h0⟩ | ⟨g, cap, cur, rfl, hg, hh, hcap, _⟩
  · exact ⟨none, 0, by rw [h0], fun hp => absurd h0 (by omega)⟩
  · have tg : Tag γ w g 3 := Tag.new (by omega) hh
    have lg := (Array.getElem?_eq_some_iff.1 hh).1
    refine ⟨_, _, rfl, fun _ => ⟨g, 0, rfl, Nat.lt_of_lt_of_le lg hs.size, fun j x hj => ?_⟩⟩
    have hc := h.cells rfl j (.int .i64 x) (by simp [hj])
    rw [add_cell] at hc
    exact cell_keep hs tg rfl hc
theorem op5 {W : World} {O : Nat} {k p t : Int} {b l : Value} (h : W.heap[O]? = some (.cells #[.int .i64 k, .int .i64 p, b, l, .int .i64 t] 73 (0, 0))) : W.cell? ⟨O, 0, none⟩ = some (.int .i64 k) ∧ W.cell? ⟨O, 1, none⟩ = some (.int .i64 p) ∧ W.cell? ⟨O, 2, none⟩ = some b ∧ W.cell? ⟨O, 3, none⟩ = some l ∧ W.cell? ⟨O, 4, none⟩ = some (.int .i64 t) ∧ O < W.heap.size := ⟨by simp [World.cell?, h], by simp [World.cell?, h], by simp [World.cell?, h], by simp [World.cell?, h], by simp [World.cell?, h], (Array.getElem?_eq_some_iff.1 h).1⟩
structure OnI (γ : Gh) (w W : World) (db wb sb O : Nat) (d : Dk) (now last wanted : St) (torn : Bool) (k p : Int) (b l : Value) (t : Int) : Prop where
  g : γ.B = w.heap.size ∧ γ.lim ≤ W.heap.size ∧ Below w.heap.size w W
  dk : DkV γ W db d
  wb : WB γ W wb db sb now last wanted torn
  op : W.heap[O]? = some (.cells #[.int .i64 k, .int .i64 p, b, l, .int .i64 t] 73 (0, 0)) ∧ Tag γ W O 73
theorem OnI.step {γ : Gh} {w W W' : World} {db wb sb O : Nat} {d d' : Dk} {now last wanted : St} {torn : Bool} {k p t : Int} {b l : Value} (h : OnI γ w W db wb sb O d now last wanted torn k p b l t) (hd : DkV γ W' db d') (hs : Step γ dkS W W') : OnI γ w W' db wb sb O d' now last wanted torn k p b l t :=
  have lO := (Array.getElem?_eq_some_iff.1 h.op.1).1
  ⟨⟨h.g.1, Nat.le_trans h.g.2.1 hs.size, h.g.2.2.trans (h.g.1 ▸ hs.be)⟩, hd, h.wb.keep hs rfl, (hs.heap h.op.2 rfl lO).trans h.op.1, hs.tg _ _ (by decide) lO h.op.2⟩
theorem OnI.below {γ : Gh} {w W W' : World} {db wb sb O : Nat} {d : Dk} {now last wanted : St} {torn : Bool} {k p t : Int} {b l : Value} (h : OnI γ w W db wb sb O d now last wanted torn k p b l t) (hb : Below W.heap.size W W') : OnI γ w W' db wb sb O d now last wanted torn k p b l t :=
  h.step (h.dk.keep (Step.below (S := fun _ => false) hb h.g.2.1) ⟨rfl, rfl, rfl, rfl⟩) (Step.below hb h.g.2.1)
theorem OnI.cells {γ : Gh} {w W : World} {db wb sb O : Nat} {d : Dk} {now last wanted : St} {torn : Bool} {k p t : Int} {b l : Value} (h : OnI γ w W db wb sb O d now last wanted torn k p b l t) : W.cell? ⟨wb, 0, none⟩ = some (.pointer (some ⟨db, 0, none⟩)) ∧ W.cell? ⟨O, 1, none⟩ = some (.int .i64 p) ∧ W.cell? ⟨O, 3, none⟩ = some l ∧ W.cell? ⟨O, 4, none⟩ = some (.int .i64 t) := by
  obtain ⟨o0, o1, o2, o3, o4, lO⟩ := op5 h.op.1
  exact ⟨h.wb.c0, o1, o3, o4⟩
theorem OnI.cells2 {γ : Gh} {S : TypeId → Bool} {w W W' : World} {db wb sb O : Nat} {d : Dk} {now last wanted : St} {torn : Bool} {k p t : Int} {b l : Value} (h : OnI γ w W db wb sb O d now last wanted torn k p b l t) (hs : Step γ S W W') (h33 : S 33 = false) (h73 : S 73 = false) : W'.cell? ⟨wb, 0, none⟩ = some (.pointer (some ⟨db, 0, none⟩)) ∧ W'.cell? ⟨O, 1, none⟩ = some (.int .i64 p) ∧ W'.cell? ⟨O, 3, none⟩ = some l ∧ W'.cell? ⟨O, 4, none⟩ = some (.int .i64 t) := by
  obtain ⟨o0, o1, o2, o3, o4, lO⟩ := op5 h.op.1
  exact ⟨cell_keep hs h.wb.tg h33 h.wb.c0, cell_keep hs h.op.2 h73 o1, cell_keep hs h.op.2 h73 o3, cell_keep hs h.op.2 h73 o4⟩
theorem clS33 : ∀ T, clS T = false → (fun T : TypeId => T == 33) T = false := fun T h => by simp [clS] at h; simp [h.1]
end Go.Tb
namespace Go.Tb
open Go Go.RowKit Go.Proofs Go.Maps Go.Sp
theorem WI.arm {N k : Nat} {s : Sp} {now last wanted : St} {torn : Bool} (h : WI N k s now last wanted torn) (n : Nat) : WI N (k + 1) (s.withC { s.c with d := { s.c.d with ar := n } }) now last wanted torn :=
  { hN := h.hN, hN2 := h.hN2, ok := ⟨⟨⟨h.ok.c.d.S, h.ok.c.d.P⟩, h.ok.c.dom, h.ok.c.inj⟩, h.ok.M, h.ok.own, h.ok.pg, h.ok.at'⟩, clk := by have := h.clk; show s.c.clk ≤ _; omega, P := by have := h.P; show s.c.d.P.length ≤ _; omega, dead := h.dead,
    live := fun hd => by
      obtain ⟨hI, hF, hO⟩ := h.live hd
      exact ⟨{ ok := ⟨⟨⟨h.ok.c.d.S, h.ok.c.d.P⟩, h.ok.c.dom, h.ok.c.inj⟩, h.ok.M, h.ok.own, h.ok.pg, h.ok.at'⟩, pub := hI.pub, np := hI.np, cl := hI.cl, nd := hI.nd, own1 := hI.own1, ownn := hI.ownn, odis := hI.odis, onew := hI.onew }, hF, hO⟩ }
theorem WL.below {w W W' : World} {db sb wb : Nat} {s : Sp} {now last wanted : St} {torn : Bool} (h : WL w W db sb wb s now last wanted torn) (hb : Below W.heap.size W W') : WL w W' db sb wb s now last wanted torn := by
  obtain ⟨γ, g, hs, hw⟩ := h
  have st : Step γ (fun _ => false) W W' := Step.below hb g.2.1
  exact ⟨γ, ⟨g.1, Nat.le_trans g.2.1 st.size, g.2.2.trans (g.1 ▸ st.be)⟩, hs.below hb g.2.1, hw.keep st rfl⟩
def DoesW (w : World) (db wb N k : Nat) (A : Prop) (e : Ending) (W' : World) : Prop :=
  e = .returned (.bool true) ∧ Hid (∃ sb' s' now' last' wanted' torn', WL w W' db sb' wb s' now' last' wanted' torn' ∧ WI N (k + 1) s' now' last' wanted' torn' ∧ (By now' ∧ By last' ∧ By wanted') ∧ (A → s'.c.d.Al))
theorem SpV.arm {γ : Gh} {w w' : World} {sb db : Nat} {s : Sp} {d' : Dk} (H : SpV γ w sb db s) (hs : Step γ dkS w w') (hd : DkV γ w' db d') (hN : d'.N = s.c.d.N) : SpV γ w' sb db (s.withC { s.c with d := d' }) := by
  obtain ⟨cb, rb, ob, kb, HU, HK⟩ := H
  obtain ⟨fb, D, β, CH⟩ := HU.ca
  exact ⟨cb, rb, ob, kb, SpV.cache HU HK (hs.mono dkca) (CH.disk hs hd hN).in hN⟩
end Go.Tb
