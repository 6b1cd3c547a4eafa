/- The program's checker of one function, and what a primitive takes by the reference, walked by hand. Each says its own conditions. -/
import Derived.Test.YtllpjpgpanjbiaaGreatDoorCk2
import Derived.Recover
import Derived.Defers
import Derived.Laws.Pointers
import Derived.Test.YtllpjpgpanjbiaaGreatDoorCk1
import Derived.Lib.Strings
set_option linter.unusedVariables false
set_option linter.unusedSimpArgs false
set_option maxRecDepth 100000
set_option maxHeartbeats 1600000
namespace Go.Ck
open Go Go.RowKit Go.Proofs
theorem assert_wrong (v : Value) (w : World) : (Instr.typeAssert (.iface 110 v) 20 110 true).run Tryz.prog w = .ok (.tuple #[v, .bool true]) w := by
  simp [Instr.typeAssert, run_underlying Tryz.underlying110]
theorem catch_panicking (b : Nat) (x : Bool) (w : World) (hp : b < w.heap.size) (hc : w.cell? ⟨b, 0, none⟩ = some (.bool x)) (hz : w.frozen? ⟨b, 0, none⟩ = false) :
    CallsD Tryz.prog 48 #[.pointer (some ⟨b, 0, none⟩)] (.panicking [{ v := wrongV, recovered := false }]) w fun e u' w' =>
      e = .returned (.tuple #[]) ∧ u' = .panicking [{ v := wrongV, recovered := true }] ∧ w' = (w.setCell ⟨b, 0, none⟩ (.bool false)).alloc (.cells #[] 110) := by
  refine callsD_of_wpS Tryz.func48 rfl fun c₀ cs hu => ?_
  unfold wrongV at *
  have hta := assert_wrong
  have hb := Below.alloc (Below.refl w.heap.size w) (Nat.le_refl _) (.cells #[] 110)
  have hc2 : (w.alloc (.cells #[] 110)).cell? ⟨b, 0, none⟩ = some (.bool x) := (hb.cell (p := ⟨b, 0, none⟩) hp).trans hc
  have hz2 : (w.alloc (.cells #[] 110)).frozen? ⟨b, 0, none⟩ = false := (hb.frozen (p := ⟨b, 0, none⟩) hp).trans hz
  clear hb
  apply wpS_seq
  apply wpS_region
  simp [wpOpsS, go_sem, recoverD, hu, Tryz.ntmps48, Exit.thenS]
  refine wpS_of_wp ?_
  simp only [Array.replicate_succ, Array.replicate_zero, List.push_toArray, List.append_toArray, List.nil_append, List.cons_append]
  go_wp2
  simp [bodyPostS, results, Tryz.results48]
theorem catch_idle (b : Nat) (w : World) :
    CallsD Tryz.prog 48 #[.pointer (some ⟨b, 0, none⟩)] .returning w fun e u' w' => e = .returned (.tuple #[]) ∧ u' = .returning ∧ w' = w := by
  refine callsD_of_wpS Tryz.func48 rfl fun c₀ cs hu => ?_
  apply wpS_seq
  apply wpS_region
  simp [wpOpsS, go_sem, recoverD, hu, Tryz.ntmps48, Exit.thenS]
  refine wpS_of_wp ?_
  simp only [Array.replicate_succ, Array.replicate_zero, List.push_toArray, List.append_toArray, List.nil_append, List.cons_append]
  go_wp2
  cases c₀
  simp_all [bodyPostS, results, Tryz.results48]
end Go.Ck
set_option maxHeartbeats 4000000
namespace Go.Ck
open Go Go.RowKit Go.Proofs
def insC (x : Ins) : List Value := [.int .u8 x.op, .int .i64 x.a, .int .i64 x.b, .int .i64 x.c, .string x.t]
def CodeV (W : World) (v : Value) (code : List Ins) : Prop :=
  ∃ a c, v = .slice a code.length c ∧ code.length ≤ c ∧ (0 < code.length → ∃ g o, a = some ⟨g, o, none⟩ ∧ ∀ i x, code[i]? = some x → ∀ j u, (insC x)[j]? = some u → W.cell? ⟨g, o + i * 5 + j, none⟩ = some u)
def FunsV (W : World) (v : Value) (funs : List (List Ins)) : Prop :=
  ∃ a c, v = .slice a funs.length c ∧ funs.length ≤ c ∧ (0 < funs.length → ∃ g o, a = some ⟨g, o, none⟩ ∧ ∀ i code, funs[i]? = some code → ∃ u, W.cell? ⟨g, o + i, none⟩ = some u ∧ CodeV W u code)
theorem cell_lt' {w : World} {b o : Nat} {v : Value} (h : w.cell? ⟨b, o, none⟩ = some v) : b < w.heap.size := by
  by_cases hb : b < w.heap.size
  · exact hb
  · simp [World.cell?, Array.getElem?_eq_none (Nat.le_of_not_lt hb)] at h
theorem CodeV.below {W W' : World} {v : Value} {code : List Ins} (h : CodeV W v code) (hb : Below W.heap.size W W') : CodeV W' v code := by
  obtain ⟨a, c, h1, h2, h3⟩ := h
  refine ⟨a, c, h1, h2, fun h0 => ?_⟩
  obtain ⟨g, o, e, hc⟩ := h3 h0
  exact ⟨g, o, e, fun i x hx j u hu => by rw [hb.cell (by exact cell_lt' (hc i x hx j u hu))]; exact hc i x hx j u hu⟩
theorem CodeV.at {W : World} {a : Option Addr} {n c : Nat} {code : List Ins} (h : CodeV W (.slice a n c) code) {i : Nat} {x : Ins} (hx : code[i]? = some x) : n = code.length ∧ n ≤ c ∧ ∃ g o, a = some ⟨g, o, none⟩ ∧ W.cell? ⟨g, o + i * 5, none⟩ = some (.int .u8 x.op) ∧ W.cell? ⟨g, o + i * 5 + 1, none⟩ = some (.int .i64 x.a) ∧ W.cell? ⟨g, o + i * 5 + 2, none⟩ = some (.int .i64 x.b) ∧ W.cell? ⟨g, o + i * 5 + 3, none⟩ = some (.int .i64 x.c) ∧ W.cell? ⟨g, o + i * 5 + 4, none⟩ = some (.string x.t) := by
  obtain ⟨a', c', h1, h2, h3⟩ := h
  cases h1
  obtain ⟨g, o, e, hc⟩ := h3 (by have := (List.getElem?_eq_some_iff.1 hx).1; omega)
  exact ⟨rfl, h2, g, o, e, hc i x hx 0 _ rfl, hc i x hx 1 _ rfl, hc i x hx 2 _ rfl, hc i x hx 3 _ rfl, hc i x hx 4 _ rfl⟩
theorem makeFn (fn : _root_.Go.Fn) (first cap : Array Value) (w : World) : (Instr.makeFunc fn first cap).run Tryz.prog w = .ok (.func fn first cap) w := rfl
theorem makeM (w : World) : (Instr.makeMap 113 none).run Tryz.prog w = .ok (.map (some w.heap.size)) (w.alloc (.map #[] 0)) := by
  simp [Instr.makeMap, run_underlying Tryz.underlying113]
theorem EVs.len {w : World} {base : Nat} {q : Option Nat} {K : Know} {l : List MapEntry} (h : EVs w base q K l) : l.length = K.length := by
  induction h with
  | nil => rfl
  | cons _ _ ih => simp [ih]
def meas (n pb m : Nat) (w : World) : Nat :=
  n + 1 - ((match w.heap[m]? with | some (.map es _) => es.size | _ => 0) - (match w.cell? ⟨pb, 8, none⟩ with | some (.slice _ k _) => k | _ => 0))
theorem QV.slice' {w : World} {base : Nat} {v : Value} {l : List Int} (h : QV w base v l) : ∃ a c, v = .slice a l.length c := by
  rcases h with ⟨h, rfl⟩ | ⟨g, o, cap, cur, h, _⟩
  · exact ⟨_, _, h⟩
  · exact ⟨_, _, h⟩
theorem meas_eq {p : Pl} {F : Fn} {w : World} {K : Know} {lv : Value} {left : List Int} (h : WK p F w K lv left) (n : Nat) : meas n p.pb p.m w = n + 1 - (K.length - left.length) := by
  obtain ⟨es, clock, h1, h2⟩ := h.known
  obtain ⟨a, c, rfl⟩ := h.queue.slice'
  have h3 : w.cell? ⟨p.pb, 8, none⟩ = some (.slice a left.length c) := (h.cells 8).1
  have h4 : es.size = K.length := by rw [← Array.length_toList]; exact h2.len
  unfold meas
  rw [h1, h3]
  simp only [h4]
theorem WK.pop {p : Pl} {F : Fn} {w : World} {K : Know} {g o cap : Nat} {q : Int} {rest : List Int} (h : WK p F w K (.slice (some ⟨g, o, none⟩) (rest.length + 1) cap) (q :: rest)) (o' : Nat) (ho : o' = o + 1 ∨ (cap = 1 ∧ o' = o)) :
    WK p F (w.setCell ⟨p.pb, 8, none⟩ (.slice (some ⟨g, o', none⟩) rest.length (cap - 1))) K (.slice (some ⟨g, o', none⟩) rest.length (cap - 1)) rest ∧ Kept p (some g) (some g) w (w.setCell ⟨p.pb, 8, none⟩ (.slice (some ⟨g, o', none⟩) rest.length (cap - 1))) := by
  have w6 : ∀ b, b ≠ p.pb → (w.setCell ⟨p.pb, 8, none⟩ (.slice (some ⟨g, o', none⟩) rest.length (cap - 1))).heap[b]? = w.heap[b]? := fun b hb => heap_setCell_other w ⟨p.pb, 8, none⟩ b _ hb
  have hne := h.ne
  refine ⟨⟨by rw [heap_setCell_same w p.pb 8 _ _ _ h.blk]; rfl, h.pbge, h.mge, h.known.mono (w6 _ (Ne.symm hne.1)) fun g' cur h1 h2 h3 => ⟨(w6 g' (by rintro rfl; rw [h.blk] at h3; cases h3)).trans h3, h2⟩, ?_, h.n⟩, ⟨rfl, rfl, rfl, by simp, fun b _ h1 _ _ => w6 b h1, fun k hk => .inl hk⟩⟩
  rcases h.queue with ⟨h', _⟩ | ⟨g', o2, cap', cur, h1, h2, h3, h4, h5, h6⟩
  · cases h'
  · cases h1
    have hg : g ≠ p.pb := by rintro rfl; rw [h.blk] at h3; cases h3
    simp only [List.length_cons] at h5 h6
    refine .inr ⟨g, o', cap - 1, cur, rfl, h2, (w6 g hg).trans h3, by omega, by omega, ?_⟩
    rcases ho with rfl | ⟨rfl, rfl⟩
    · have : (cur.toList.drop o).take (rest.length + 1) = intV q :: rest.map intV := h6
      have h7 := congrArg (List.drop 1) this
      rw [List.drop_take, List.drop_drop] at h7
      simpa [Nat.add_comm] using h7
    · have : rest = [] := List.eq_nil_of_length_eq_zero (by omega)
      subst this
      simp
end Go.Ck
namespace Go.Ck
open Go Go.RowKit Go.Proofs
theorem three_new (w : World) (A B C : Obj) : (((w.alloc A).alloc B).alloc C).drew.heap[w.heap.size + 1 + 1]? = some C := by
  have e : ((w.alloc A).alloc B).heap.size = w.heap.size + 1 + 1 := by simp
  rw [← e]
  exact heap_alloc_new ((w.alloc A).alloc B) C
theorem inv0 (F : Fn) : toP F.code.length [] [] (init F) = if 0 < F.code.length then some ([init F], [0]) else none := by
  unfold toP init look
  by_cases h : 0 < F.code.length
  · rw [if_pos h, if_pos ⟨Int.le_refl _, by simp only; omega⟩]; rfl
  · rw [if_neg h, if_neg (by simp only; omega)]
theorem num0 {F : Fn} (h : 0 < F.code.length) : NumR F.code.length 0 [init F] [0] := by
  refine ⟨by simp, rfl, fun e he => ?_, fun e he => ?_⟩
  · obtain rfl := List.mem_singleton.1 he
    have := least_bd F.f
    show 0 ≤ least F.f ∧ least F.f ≤ _ ∧ ([] : List Int).length ≤ 0
    exact ⟨this.1, by omega, Nat.le_refl _⟩
  · obtain rfl := List.mem_singleton.1 he
    show (0 : Int) ≤ 0 ∧ (0 : Int) < _
    omega
def Loop (p : Pl) (F : Fn) (W3 wr : World) (lv : Value) (left : List Int) : Prop := ∃ K r, WK p F wr K lv left ∧ Inv F K left ∧ NumR F.code.length r K left ∧ Below p.base W3 wr
noncomputable def goodB (F : Fn) : Bool := by classical exact decide (Good F)
theorem goodB_t {F : Fn} (h : Good F) : goodB F = true := by unfold goodB; simp [h]
theorem goodB_f {F : Fn} (h : ¬ Good F) : goodB F = false := by unfold goodB; simp [h]
theorem CodeV.keep {W W' : World} {v : Value} {code : List Ins} (h : CodeV W v code) {n : Nat} (hn : ∀ b o u, W.cell? ⟨b, o, none⟩ = some u → b < W.heap.size → b < n → W'.cell? ⟨b, o, none⟩ = some u) (hb : ∀ a l c, v = .slice (some a) l c → a.block < n) : CodeV W' v code := by
  obtain ⟨a, c, h1, h2, h3⟩ := h
  refine ⟨a, c, h1, h2, fun h0 => ?_⟩
  obtain ⟨g, o, e, hc⟩ := h3 h0
  subst e
  exact ⟨g, o, rfl, fun i x hx j u hu => hn _ _ _ (hc i x hx j u hu) (cell_lt' (hc i x hx j u hu)) (hb _ _ _ h1)⟩
theorem round_facts {p : Pl} {F : Fn} {W3 wr : World} {lv : Value} {q : Int} {rest : List Int} (h : Loop p F W3 wr lv (q :: rest)) (hlen : F.code.length ≤ 60000) (hins : ∀ x ∈ F.code, InsN x)
    (hcv : ∀ w, Below p.base W3 w → CodeV w (.slice p.ca F.code.length p.cc) F.code) (hT : ∀ w, Below p.base W3 w → TakesV p.base w) :
    ∃ g o cap, lv = .slice (some ⟨g, o, none⟩) (rest.length + 1) cap ∧ 1 ≤ cap ∧ rest.length + 1 ≤ cap ∧ rest.length ≤ 60000 ∧ wr.cell? ⟨g, o, none⟩ = some (.int .i64 q) ∧ wr.cell? ⟨p.pb, 8, none⟩ = some (.slice (some ⟨g, o, none⟩) (rest.length + 1) cap) ∧ wr.frozen? ⟨p.pb, 8, none⟩ = false ∧ 0 ≤ q ∧ q < F.code.length ∧
      ∃ (x : Ins) (qn : Nat) (cg co : Nat) (sh : Int), q = (qn : Int) ∧ p.ca = some ⟨cg, co, none⟩ ∧ ∀ o', (o' = o + 1 ∨ (cap = 1 ∧ o' = o)) → ∀ V, V = (wr.setCell ⟨p.pb, 8, none⟩ (.slice (some ⟨g, o', none⟩) rest.length (cap - 1))).drew → ∃ sv : Value,
        (V.cell? ⟨p.pb, 1, none⟩ = some (.slice p.ca F.code.length p.cc) ∧ V.cell? ⟨p.pb, 7, none⟩ = some (.map (some p.m)) ∧ V.cell? ⟨cg, co + qn * 5, none⟩ = some (.int .u8 x.op) ∧ V.cell? ⟨cg, co + qn * 5 + 1, none⟩ = some (.int .i64 x.a) ∧ V.cell? ⟨cg, co + qn * 5 + 2, none⟩ = some (.int .i64 x.b) ∧ V.cell? ⟨cg, co + qn * 5 + 3, none⟩ = some (.int .i64 x.c) ∧ V.cell? ⟨cg, co + qn * 5 + 4, none⟩ = some (.string x.t)) ∧
        (Instr.lookup 113 (.map (some p.m)) (.int .i64 q) false).run Tryz.prog V = .ok (.agg #[.int .i64 sh, sv]) V ∧
        Calls Tryz.prog 51 #[.pointer (some ⟨p.pb, 0, none⟩), .int .i64 q, insA x, .agg #[.int .i64 sh, sv]] V fun e w' =>
          (e = .returned (.tuple #[]) ∧ (w'.cell? ⟨p.pb, 1, none⟩ = some (.slice p.ca F.code.length p.cc) ∧ w'.cell? ⟨p.pb, 7, none⟩ = some (.map (some p.m)) ∧ w'.cell? ⟨cg, co + qn * 5, none⟩ = some (.int .u8 x.op) ∧ w'.cell? ⟨cg, co + qn * 5 + 1, none⟩ = some (.int .i64 x.a) ∧ w'.cell? ⟨cg, co + qn * 5 + 2, none⟩ = some (.int .i64 x.b) ∧ w'.cell? ⟨cg, co + qn * 5 + 3, none⟩ = some (.int .i64 x.c) ∧ w'.cell? ⟨cg, co + qn * 5 + 4, none⟩ = some (.string x.t)) ∧ Hid (∃ lv' left', Loop p F W3 w' lv' left' ∧ meas F.code.length p.pb p.m w' < meas F.code.length p.pb p.m wr)) ∨ (e = .panicked [⟨wrongV, false, false⟩] ∧ Hid (¬ Good F ∧ Below p.base W3 w')) := by
  obtain ⟨K, r, hw, hI, hN, hB⟩ := h
  rcases hq : hw.queue with ⟨h', _⟩ | ⟨g, o, cap, cur, rfl, h2, h3, h4, h5, h6⟩
  · rename_i h''; cases h''
  obtain ⟨s, hs⟩ := hI.mem q List.mem_cons_self
  obtain ⟨q0, q1⟩ := hI.dom q s hs
  obtain ⟨qn, rfl⟩ : ∃ qn : Nat, q = qn := ⟨q.toNat, by omega⟩
  have hxx : F.code[qn]? = some (F.code[qn]'(by omega)) := List.getElem?_eq_getElem _
  obtain ⟨x, hx⟩ : ∃ x, F.code[qn]? = some x := ⟨_, hxx⟩
  have hll := hN.len
  have hKn := hN.le
  simp only [List.length_cons] at h5 hll
  have c1 := QV.cell (w := wr) (base := p.base) (g := g) (o := o) (cap := cap) (l := (qn : Int) :: rest) hw.queue (i := 0) rfl
  obtain ⟨_, _, cg, co, hca, _⟩ := (hcv wr hB).at hx
  have hmem : x ∈ F.code := List.mem_of_getElem? hx
  have hnr : ∀ e ∈ K, 0 ≤ e.2.h ∧ e.2.h ≤ 1 + 256 * (r : Int) ∧ e.2.tr.length ≤ r := hN.ht
  refine ⟨g, o, cap, rfl, by omega, h5, by omega, by simpa using c1, (hw.cells 8).1, (hw.cells 8).2, q0, q1, x, qn, cg, co, s.h, rfl, hca, fun o' ho V hV => ?_⟩
  obtain ⟨hwp, hkp⟩ := hw.pop o' ho
  have hwV : WK p F V K (.slice (some ⟨g, o', none⟩) rest.length (cap - 1)) rest := by rw [hV]; exact hwp.grow ((Below.refl _ _).drew)
  have hBV : Below p.base W3 V := by rw [hV]; exact hB.trans ((Kept.below (lv := .slice (some ⟨g, o, none⟩) (rest.length + 1) cap) (q' := some g) hkp hw).drew)
  obtain ⟨sv, hsv, _, hlk⟩ := look_run_hit hwV.known hs
  obtain ⟨_, _, cg', co', hca', y0, y1, y2, y3, y4⟩ := (hcv V hBV).at hx
  rw [hca] at hca'
  cases hca'
  refine ⟨sv, ⟨(hwV.cells 1).1, (hwV.cells 7).1, y0, y1, y2, y3, y4⟩, hlk, ?_⟩
  have hsb := hnr _ (look_mem hs)
  simp only at hsb
  have hpre : Pre p F V K (.slice (some ⟨g, o', none⟩) rest.length (cap - 1)) sv rest s qn x F.code.length :=
    ⟨hwV, hsv, hI.tri _ s hs, ⟨by omega, fun e he => by have := (hnr e he).2.2; omega⟩, by omega, by omega, hsb.1, by omega, hins x hmem, q0, by omega, hT V hBV, fun e he => by have := hnr e he; omega⟩
  have hst := step_ok hI (left := rest) (p := (qn : Int)) (fun a ha => List.mem_cons.1 ha) (fun a ha => List.mem_cons_of_mem _ ha) List.mem_cons_self
  have hstX : stepP F K rest qn = stepX F K rest qn x s := by unfold stepP; rw [hs, show ((qn : Int)).toNat = qn by omega, hx]; first | done | rfl
  rw [hstX] at hst
  refine (step_walk hpre).mono fun e w' hp => ?_
  rcases hp with ⟨K', l', e1, e2, lv', e3, e4⟩ | ⟨e1, e2, e3⟩
  · have hI' : Inv F K' l' := by
      rcases hst with ⟨K2, l2, t1, t2⟩ | ⟨t1, _⟩
      · rw [e1] at t1; cases t1; exact t2
      · rw [e1] at t1; cases t1
    have hN' : NumR F.code.length (r + 1) K' l' := by
      unfold stepX at e1
      cases hr : stepR F.f F.gb F.gc K qn x s with
      | none => rw [hr] at e1; cases e1
      | some l =>
        rw [hr] at e1
        exact (hN.pop rfl).all (stepR_num (hins x hmem) hsb hr) e1
    have hl' := hN'.len
    have hK' := hN'.le
    have hB' := hBV.trans (e4.below hwV)
    obtain ⟨_, _, cg2, co2, hca2, u0, u1, u2, u3, u4⟩ := (hcv w' hB').at hx
    rw [hca] at hca2
    cases hca2
    refine .inl ⟨e2, ⟨(e3.cells 1).1, (e3.cells 7).1, u0, u1, u2, u3, u4⟩, Lib.hid ⟨lv', l', ⟨K', r + 1, e3, hI', hN', hBV.trans (e4.below hwV)⟩, ?_⟩⟩
    rw [meas_eq e3, meas_eq hw]
    simp only [List.length_cons]
    omega
  · refine .inr ⟨e2, Lib.hid ⟨?_, hBV.trans e3⟩⟩
    rcases hst with ⟨K2, l2, t1, _⟩ | ⟨_, t2⟩
    · rw [e1] at t1; cases t1
    · exact t2
end Go.Ck
namespace Go.Ck
open Go Go.RowKit Go.Proofs
theorem res_cell {x : World} {n : Nat} {b b' : Bool} (h : x.heap[n]? = some (.cells #[.bool b] 4 (0, 0))) (o : Obj) : ((x.setCell ⟨n, 0, none⟩ (.bool b')).alloc o).cell? ⟨n, 0, none⟩ = some (.bool b') ∧ (x.setCell ⟨n, 0, none⟩ (.bool b')).cell? ⟨n, 0, none⟩ = some (.bool b') := by
  have h1 := heap_setCell_same x n 0 _ 4 (.bool b') h
  have h2 : ((x.setCell ⟨n, 0, none⟩ (.bool b')).alloc o).heap[n]? = _ := (Below.heap_alloc _ o n (by simpa using (Array.getElem?_eq_some_iff.1 h).1)).trans h1
  exact ⟨by simp [World.cell?, h2], by simp [World.cell?, h1]⟩
def PQ (n : Nat) (D : List Deferred) (G : World → Prop) (Q : Exit → Act → World → Prop) : Exit → Act → World → Prop
  | .panic c, a, w => a.tmps.getD 4 undef = .pointer (some ⟨n, 0, none⟩) ∧ a.defers = D ∧ c = [⟨wrongV, false, false⟩] ∧ Hid (G w)
  | e, a, w => Q e a w
theorem PQ.imp {n : Nat} {D : List Deferred} {G : World → Prop} {Q : Exit → Act → World → Prop} (h : ∀ a w, a.tmps.getD 4 undef = .pointer (some ⟨n, 0, none⟩) → a.defers = D → Hid (G w) → Q (.panic [⟨wrongV, false, false⟩]) a w) : ∀ e a w, PQ n D G Q e a w → Q e a w := fun e a w hp => by
  cases e with
  | panic c => obtain ⟨h1, h2, rfl, h4⟩ := hp; exact h a w h1 h2 h4
  | _ => exact hp
theorem PQ.put {n : Nat} {D : List Deferred} {G : World → Prop} {Q : Exit → Act → World → Prop} (d : Nat) (hd : d ≠ 4) (v : Value) (c : List PanicEntry) (a : Act) (w : World) (h : PQ n D G Q (.panic c) (a.put (some d) v) w) : PQ n D G Q (.panic c) a w := by
  obtain ⟨h1, h2, h3⟩ := h
  refine ⟨?_, h2, h3⟩
  rw [← h1]
  simp [Act.put, Array.getD_eq_getD_getElem?, Array.getElem?_setIfInBounds_ne hd]
theorem runs_code {w : World} {kb m fc bc : Nat} {ca : Option Addr} {cc : Nat} {code : List Ins} {g1 o1 : Nat} {f : Nat} {by_ : Ins} {g2 o2 : Nat}
    (k0 : w.cell? ⟨kb, 0, none⟩ = some (.slice (some ⟨g1, o1, none⟩) m fc)) (k2 : w.cell? ⟨kb, 2, none⟩ = some (.slice (some ⟨g2, o2, none⟩) m bc)) (hf : f < m) (hm : m ≤ 60000)
    (c0 : w.cell? ⟨g1, o1 + f, none⟩ = some (.slice ca code.length cc)) (hcv : CodeV w (.slice ca code.length cc) code) (hlen : code.length ≤ 60000) (hins : ∀ x ∈ code, InsN x) {B : Nat} (hT : TakesV B w) (hB : B ≤ w.heap.size)
    (b0 : w.cell? ⟨g2, o2 + f * 5, none⟩ = some (.int .u8 by_.op)) (b1 : w.cell? ⟨g2, o2 + f * 5 + 1, none⟩ = some (.int .i64 by_.a)) (b2 : w.cell? ⟨g2, o2 + f * 5 + 2, none⟩ = some (.int .i64 by_.b)) (b3 : w.cell? ⟨g2, o2 + f * 5 + 3, none⟩ = some (.int .i64 by_.c)) (b4 : w.cell? ⟨g2, o2 + f * 5 + 4, none⟩ = some (.string by_.t)) :
    Calls Tryz.prog 27 #[.pointer (some ⟨kb, 0, none⟩), .int .i64 f] w fun e w' => e = .returned (.bool (goodB ⟨f, by_.b, by_.c, code⟩)) ∧ Below w.heap.size w w' := by
  have HS : Hid (∀ x, Below w.heap.size w x → x.cell? ⟨kb, 0, none⟩ = some (.slice (some ⟨g1, o1, none⟩) m fc) ∧ x.cell? ⟨kb, 2, none⟩ = some (.slice (some ⟨g2, o2, none⟩) m bc) ∧ x.cell? ⟨g1, o1 + f, none⟩ = some (.slice ca code.length cc) ∧ x.cell? ⟨g2, o2 + f * 5, none⟩ = some (.int .u8 by_.op) ∧ x.cell? ⟨g2, o2 + f * 5 + 1, none⟩ = some (.int .i64 by_.a) ∧ x.cell? ⟨g2, o2 + f * 5 + 2, none⟩ = some (.int .i64 by_.b) ∧ x.cell? ⟨g2, o2 + f * 5 + 3, none⟩ = some (.int .i64 by_.c) ∧ x.cell? ⟨g2, o2 + f * 5 + 4, none⟩ = some (.string by_.t)) := Lib.hid fun x hx => by
    have l0 := cell_lt' k0; have l1 := cell_lt' c0; have l2 := cell_lt' b0
    exact ⟨by rw [hx.cell (by exact l0)]; exact k0, by rw [hx.cell (by exact l0)]; exact k2, by rw [hx.cell (by exact l1)]; exact c0, by rw [hx.cell (by exact l2)]; exact b0, by rw [hx.cell (by exact l2)]; exact b1, by rw [hx.cell (by exact l2)]; exact b2, by rw [hx.cell (by exact l2)]; exact b3, by rw [hx.cell (by exact l2)]; exact b4⟩
  have hmf := makeFn
  have hmm := makeM
  have i1 : (f : Int) < (m : Int) := by omega
  have i0 : (0 : Int) ≤ (f : Int) := by omega
  have im : (m : Int) ≤ 60000 := by omega
  have HB1 : Hid (Below w.heap.size w (w.alloc (.cells #[.bool false] 4)).drew) := Lib.hid ((Below.refl _ _).alloc (Nat.le_refl _) _).drew
  obtain ⟨W3, hW3⟩ : ∃ W3, W3 = (((w.alloc (.cells #[.bool false] 4)).alloc (.map #[] 0)).alloc (.cells #[.int .i64 f, .slice ca code.length cc, .int .u8 by_.op, .int .i64 by_.a, .int .i64 by_.b, .int .i64 by_.c, .string by_.t, .map (some (w.heap.size + 1)), .slice none 0 0] 115)).drew := ⟨_, rfl⟩
  have hb3 : Below w.heap.size w W3 := by rw [hW3]; exact ((((Below.refl _ _).alloc (Nat.le_refl _) _).alloc (by simp) _).alloc (by simp; omega) _).drew
  have hs3 : W3.heap.size = w.heap.size + 1 + 1 + 1 := by rw [hW3]; simp
  obtain ⟨p, hp⟩ : ∃ p, p = (⟨w.heap.size + 1, w.heap.size + 1 + 1, w.heap.size + 1, ca, cc, by_.op, by_.a, by_.t⟩ : Pl) := ⟨_, rfl⟩
  obtain ⟨F, hF⟩ : ∃ F, F = (⟨f, by_.b, by_.c, code⟩ : Fn) := ⟨_, rfl⟩
  have hpb : p.pb = w.heap.size + 1 + 1 := by rw [hp]
  have hpm : p.m = w.heap.size + 1 := by rw [hp]
  have hpB : p.base = w.heap.size + 1 := by rw [hp]
  have hpca : p.ca = ca := by rw [hp]
  have hpcc : p.cc = cc := by rw [hp]
  have hFc : F.code = code := by rw [hF]
  have hFf : F.f = f := by rw [hF]
  rw [← hF]
  have z0 : W3.heap[w.heap.size]? = some (.cells #[.bool false] 4 (0, 0)) := by
    rw [hW3]
    exact (Below.heap_alloc _ _ _ (by simp; omega)).trans ((Below.heap_alloc _ _ _ (by simp)).trans (heap_alloc_new w _))
  have hwk : WK p F W3 [] (.slice none 0 0) [] := by
    refine ⟨?_, by omega, by omega, ⟨#[], 0, ?_, .nil⟩, .inl ⟨rfl, rfl⟩, by rw [hFc]; omega⟩
    · rw [hW3, hp, hF]; exact three_new w _ _ _
    · rw [hpm, hW3]
      exact (Below.heap_alloc _ _ _ (by simp)).trans (two_new w _ _)
  have hbw : ∀ x, Below p.base W3 x → Below w.heap.size w x := fun x hx => hb3.trans (hx.mono (by omega))
  have HBW := Lib.hid hbw
  have HZ : Hid (∀ x, Below p.base W3 x → x.cell? ⟨w.heap.size, 0, none⟩ = some (.bool false) ∧ x.frozen? ⟨w.heap.size, 0, none⟩ = false ∧ w.heap.size < x.heap.size ∧ x.heap[w.heap.size]? = some (.cells #[.bool false] 4 (0, 0))) := Lib.hid fun x hx => by
    have h := (hx.block w.heap.size (by omega)).trans z0
    exact ⟨by simp [World.cell?, h], by simp [World.frozen?, h], (Array.getElem?_eq_some_iff.1 h).1, h⟩
  have HRF : Hid (∀ wr lv q rest, Loop p F W3 wr lv (q :: rest) → _) := Lib.hid fun wr lv q rest hloop => round_facts (p := p) (F := F) (W3 := W3) (wr := wr) (lv := lv) (q := q) (rest := rest) hloop (by rw [hFc]; exact hlen) (by rw [hFc]; exact hins)
    (fun x hx => by rw [hpca, hpcc, hFc]; exact hcv.below (hbw x hx)) (fun x hx => by
      have hbx := hbw x hx
      exact fun W s hb => hT W s ((hbx.mono hB).trans (hb.mono (by omega))))
  rw [hpb, hpm, hpca, hpcc, hFc] at HRF
  have HTO : Hid (Calls Tryz.prog 49 #[.pointer (some ⟨w.heap.size + 1 + 1, 0, none⟩), .int .i64 0, .agg #[.int .i64 (least f), .slice none 0 0]] W3 fun e w' => (e = .returned (.tuple #[]) ∧ Hid (∃ lv left, Loop p F W3 w' lv left)) ∨ (e = .panicked [⟨wrongV, false, false⟩] ∧ Hid (¬ Good F ∧ Below p.base W3 w'))) := Lib.hid (by
    have h := to_spec (s := ⟨least F.f, []⟩) (v := .slice none 0 0) (q := 0) hwk ⟨none, 0, rfl, Nat.le_refl _, fun h => absurd h (Nat.lt_irrefl _)⟩ ⟨by simp, fun e he => (by cases he)⟩
    rw [show ((0 : Int), (⟨least F.f, []⟩ : St)) = init F from rfl, inv0] at h
    rw [hpb, hFf] at h
    refine h.mono fun e w' hp => ?_
    rcases hp with ⟨K', l', h1, h2, lv', h3, h4⟩ | ⟨h1, h2, h3⟩
    · split at h1
      · rename_i hn
        cases h1
        exact .inl ⟨h2, Lib.hid ⟨lv', _, _, 0, h3, inv_start hn, num0 hn, h4.below hwk⟩⟩
      · cases h1
    · split at h1
      · cases h1
      · rename_i hn
        exact .inr ⟨h2, Lib.hid ⟨fun hg => hn (good_pos hg), h3⟩⟩)
  have HL : Hid (Calls Tryz.prog 50 #[.pointer (some ⟨w.heap.size + 1 + 1, 0, none⟩)] W3 fun e w' => e = .returned (.int .i64 (least f)) ∧ w' = W3) := Lib.hid (least_ok W3 (w.heap.size + 1 + 1) f (by have := (hwk.cells 0).1; rw [hpb] at this; rw [this, ← hFf]; rfl))
  have hl0 := z0
  have HPB := Lib.hid hpb
  clear hp hF hpb hpm hpB hpca hpcc hFc hFf k0 k2 c0 b0 b1 b2 b3 b4 hcv hins hT z0 hwk hbw hl0
  go_enter_defers Tryz.func27, Tryz.ntmps27
  go_wp2
  go_region_held3 (fun x => Hid (Below w.heap.size w x) ∧ x.cell? ⟨kb, 0, none⟩ = some (.slice (some ⟨g1, o1, none⟩) m fc) ∧ x.cell? ⟨kb, 2, none⟩ = some (.slice (some ⟨g2, o2, none⟩) m bc) ∧ x.cell? ⟨g1, o1 + f, none⟩ = some (.slice ca code.length cc) ∧ x.cell? ⟨g2, o2 + f * 5, none⟩ = some (.int .u8 by_.op) ∧ x.cell? ⟨g2, o2 + f * 5 + 1, none⟩ = some (.int .i64 by_.a) ∧ x.cell? ⟨g2, o2 + f * 5 + 2, none⟩ = some (.int .i64 by_.b) ∧ x.cell? ⟨g2, o2 + f * 5 + 3, none⟩ = some (.int .i64 by_.c) ∧ x.cell? ⟨g2, o2 + f * 5 + 4, none⟩ = some (.string by_.t))
    ((first | exact ⟨HB1, HS.out _ HB1.out⟩ | (have hh := (‹Hid (Below w.heap.size w _) ∧ _›).1.out; have hk := hh.alloc hh.size (.map #[] 0); exact ⟨Lib.hid hk, HS.out _ hk⟩) | (have hh := (‹Hid (Below w.heap.size w _) ∧ _›).1.out; exact ⟨Lib.hid (hh.alloc hh.size _), HS.out _ (hh.alloc hh.size _)⟩))) (fail)
  clear HS HB1
  have EW := Lib.hid hW3
  have HEQ := hW3
  rw [← hW3]
  clear hW3 EW HEQ hb3
  go_wp2_with fail
  refine HL.out.mono ?_
  rintro e w' ⟨rfl, hww⟩
  rw [hww]
  clear hww
  go_wp2_with fail
  refine HTO.out.mono ?_
  rintro e w4 (⟨rfl, HLO⟩ | ⟨rfl, HN⟩)
  · go_wp2
    go_loopw [6] (fun _ wr => ∃ lv left, Hid (Loop p F W3 wr lv left)) (fun _ wr => meas code.length (w.heap.size + 1 + 1) (w.heap.size + 1) wr)
    case atStart => obtain ⟨lv, left, h⟩ := HLO.out; exact ⟨lv, left, Lib.hid h⟩
    case round =>
      obtain ⟨lv, left, hLp⟩ := hrel
      cases left with
      | nil =>
        have hq : ∃ a c, lv = .slice a 0 c ∧ wr.cell? ⟨w.heap.size + 1 + 1, 8, none⟩ = some (.slice a 0 c) ∧ Below p.base W3 wr ∧ Good F := by
          obtain ⟨K, r, h1, h2, h3, h4⟩ := hLp.out
          obtain ⟨a, c, rfl⟩ := h1.queue.slice'
          have := (h1.cells 8).1
          rw [HPB.out] at this
          exact ⟨a, c, rfl, this, h4, good_of h2⟩
        obtain ⟨a, c, rfl, hc8, hbl, hgood⟩ := hq
        obtain ⟨y0, y1, y2, y3⟩ := HZ.out _ hbl
        have HE := Lib.hid (HBW.out _ hbl)
        have HG := Lib.hid (goodB_t hgood)
        clear hLp hbl hgood
        go_wp2
        refine leaves_cons (f := 48) (args := #[.pointer (some ⟨w.heap.size, 0, none⟩)]) (by simp) (by simp [go_sem]) ?_
        refine (catch_idle w.heap.size _).mono ?_
        rintro e u' w'' ⟨rfl, rfl, rfl⟩
        simp [Leaves, settle, results, Tryz.results27, go_sem]
        rw [(res_cell y3 (.cells #[] 0)).2]
        exact ⟨_, rfl, by rw [HG.out], HE.out.setCell (Nat.le_refl _) _⟩
      | cons q rest =>
        obtain ⟨g, o, cap, rfl, hc1, hrc, hr6, y0, y8, y8f, q0, q1, x, qn, cg, co, sh, rfl, hca, hV⟩ := HRF.out _ _ _ _ hLp.out
        have HV := Lib.hid hV
        have hrl : (0 : Int) < ((rest.length + 1 : Nat) : Int) := by omega
        have hr1 : (1 : Int) ≤ ((rest.length + 1 : Nat) : Int) := by omega
        have hr2 : ((rest.length + 1 : Nat) : Int) ≤ (cap : Int) := by omega
        have hr3 : (1 : Int) ≤ (cap : Int) := by omega
        have hrs : rest.length + 1 - 1 = rest.length := by omega
        clear hV hLp HRF
        by_cases hcap : cap = 1
        · subst hcap
          go_wp2_with fail
          obtain ⟨sv, hcc, hlk, hcall⟩ := HV.out (o) (by simp) ((wr.setCell ⟨w.heap.size + 1 + 1, 8, none⟩ (.slice (some ⟨g, o, none⟩) rest.length 0)).drew) (by simp)
          have HC := Lib.hid hcall
          clear hcall HV
          refine Code.wp_mono (PQ.imp (n := w.heap.size) (D := [{ target := .fn (.func 48) #[.pointer (some ⟨w.heap.size, 0, none⟩)], args := #[] }]) (G := fun x => ¬ Good F ∧ Below p.base W3 x) ?himpq) ?_
          case himpq =>
            intro a' w4 ht hd HN
            simp only [Exit.inBlock]
            show Leaves Tryz.prog Tryz.f27 a'.tmps _ a'.defers (.panicking _) w4
            rw [hd]
            have ht2 : a'.tmps[4]?.getD undef = .pointer (some ⟨w.heap.size, 0, none⟩) := by simpa [Array.getD_eq_getD_getElem?] using ht
            refine leaves_cons (f := 48) (args := #[.pointer (some ⟨w.heap.size, 0, none⟩)]) (by simp) (by simp [go_sem, ht2]) ?_
            obtain ⟨y0, y1, y2, y3⟩ := HZ.out _ HN.out.2
            refine (catch_panicking w.heap.size false _ y2 y0 y1).mono ?_
            rintro e u' w'' ⟨rfl, rfl, rfl⟩
            have HE := Lib.hid (HBW.out _ HN.out.2)
            have HG := Lib.hid (goodB_f HN.out.1)
            clear HN
            simp [Leaves, settle, results, Tryz.results27, go_sem, ht2]
            rw [(res_cell y3 _).1]
            exact ⟨_, rfl, by rw [HG.out], ((HE.out.setCell (Nat.le_refl _) _).alloc (by simpa using HE.out.size) _)⟩
          refine wp_region_held_drew (S := (fun x_ => x_.cell? ⟨w.heap.size + 1 + 1, 1, none⟩ = some (.slice ca code.length cc) ∧ x_.cell? ⟨w.heap.size + 1 + 1, 7, none⟩ = some (.map (some (w.heap.size + 1))) ∧ x_.cell? ⟨cg, co + qn * 5, none⟩ = some (.int .u8 x.op) ∧ x_.cell? ⟨cg, co + qn * 5 + 1, none⟩ = some (.int .i64 x.a) ∧ x_.cell? ⟨cg, co + qn * 5 + 2, none⟩ = some (.int .i64 x.b) ∧ x_.cell? ⟨cg, co + qn * 5 + 3, none⟩ = some (.int .i64 x.c) ∧ x_.cell? ⟨cg, co + qn * 5 + 4, none⟩ = some (.string x.t))) (by kernel_rfl) ?_ (fun hHeld => ?_)
          · exact hcc
          refine wpAnyH_take (i := 0) (oi := { dst := some 52, op := .move (.tmp 5), type := _, pos := _, after := _, guard := none }) (v := ?vq1) rfl (by kernel_rfl) (by kernel_rfl) (by kernel_rfl) (fun c' a' w' h' => PQ.put 52 (by decide) _ c' a' w' h') (Or.inl ⟨by rfl, ?hyq1⟩) (by assumption) ?restq1
          case hyq1 => (intro w hSw; (try dsimp only at hSw); go_simp; try with_reducible rfl)
          try simp only [Act.put, List.setIfInBounds_toArray, List.set_cons_zero, List.set_cons_succ]
          refine wpAnyH_take (i := 1) (oi := { dst := some 53, op := .move (.tmp 6), type := _, pos := _, after := _, guard := none }) (v := ?vq2) rfl (by kernel_rfl) (by kernel_rfl) (by kernel_rfl) (fun c' a' w' h' => PQ.put 53 (by decide) _ c' a' w' h') (Or.inl ⟨by rfl, ?hyq2⟩) (by assumption) ?restq2
          case hyq2 => (intro w hSw; (try dsimp only at hSw); go_simp; try with_reducible rfl)
          try simp only [Act.put, List.setIfInBounds_toArray, List.set_cons_zero, List.set_cons_succ]
          refine wpAnyH_take (i := 2) (oi := { dst := some 54, op := .move (.tmp 5), type := _, pos := _, after := _, guard := none }) (v := ?vq3) rfl (by kernel_rfl) (by kernel_rfl) (by kernel_rfl) (fun c' a' w' h' => PQ.put 54 (by decide) _ c' a' w' h') (Or.inl ⟨by rfl, ?hyq3⟩) (by assumption) ?restq3
          case hyq3 => (intro w hSw; (try dsimp only at hSw); go_simp; try with_reducible rfl)
          try simp only [Act.put, List.setIfInBounds_toArray, List.set_cons_zero, List.set_cons_succ]
          refine wpAnyH_take (i := 3) (oi := { dst := some 55, op := .nilCheck (.tmp 54), type := _, pos := _, after := _, guard := none }) (v := ?vq4) rfl (by kernel_rfl) (by kernel_rfl) (by kernel_rfl) (fun c' a' w' h' => PQ.put 55 (by decide) _ c' a' w' h') (Or.inl ⟨by rfl, ?hyq4⟩) (by assumption) ?restq4
          case hyq4 => (intro w hSw; (try dsimp only at hSw); go_simp; try with_reducible rfl)
          try simp only [Act.put, List.setIfInBounds_toArray, List.set_cons_zero, List.set_cons_succ]
          refine wpAnyH_take (i := 4) (oi := { dst := some 56, op := .fieldAddr 115 (.tmp 55) 1, type := _, pos := _, after := _, guard := none }) (v := ?vq5) rfl (by kernel_rfl) (by kernel_rfl) (by kernel_rfl) (fun c' a' w' h' => PQ.put 56 (by decide) _ c' a' w' h') (Or.inl ⟨by rfl, ?hyq5⟩) (by assumption) ?restq5
          case hyq5 => (intro w hSw; (try dsimp only at hSw); go_simp; try with_reducible rfl)
          try simp only [Act.put, List.setIfInBounds_toArray, List.set_cons_zero, List.set_cons_succ]
          refine wpAnyH_take (i := 5) (oi := { dst := some 57, op := .load 26 (.tmp 56), type := _, pos := _, after := _, guard := none }) (v := ?vq6) rfl (by kernel_rfl) (by kernel_rfl) (by kernel_rfl) (fun c' a' w' h' => PQ.put 57 (by decide) _ c' a' w' h') (Or.inl ⟨by rfl, ?hyq6⟩) (by assumption) ?restq6
          case hyq6 => (intro w hSw; (try dsimp only at hSw); go_simp; try with_reducible rfl)
          try simp only [Act.put, List.setIfInBounds_toArray, List.set_cons_zero, List.set_cons_succ]
          refine wpAnyH_take (i := 6) (oi := { dst := some 58, op := .move (.tmp 6), type := _, pos := _, after := _, guard := none }) (v := ?vq7) rfl (by kernel_rfl) (by kernel_rfl) (by kernel_rfl) (fun c' a' w' h' => PQ.put 58 (by decide) _ c' a' w' h') (Or.inl ⟨by rfl, ?hyq7⟩) (by assumption) ?restq7
          case hyq7 => (intro w hSw; (try dsimp only at hSw); go_simp; try with_reducible rfl)
          try simp only [Act.put, List.setIfInBounds_toArray, List.set_cons_zero, List.set_cons_succ]
          refine wpAnyH_take (i := 7) (oi := { dst := some 59, op := .indexAddr 26 (.tmp 57) (.tmp 58), type := _, pos := _, after := _, guard := none }) (v := ?vq8) rfl (by kernel_rfl) (by kernel_rfl) (by kernel_rfl) (fun c' a' w' h' => PQ.put 59 (by decide) _ c' a' w' h') (Or.inl ⟨by rfl, ?hyq8⟩) (by assumption) ?restq8
          case hyq8 => (intro w hSw; (try dsimp only at hSw); go_simp; try with_reducible rfl)
          try simp only [Act.put, List.setIfInBounds_toArray, List.set_cons_zero, List.set_cons_succ]
          refine wpAnyH_take (i := 8) (oi := { dst := some 60, op := .load 48 (.tmp 59), type := _, pos := _, after := _, guard := none }) (v := ?vq9) rfl (by kernel_rfl) (by kernel_rfl) (by kernel_rfl) (fun c' a' w' h' => PQ.put 60 (by decide) _ c' a' w' h') (Or.inl ⟨by rfl, ?hyq9⟩) (by assumption) ?restq9
          case hyq9 => (intro w hSw; (try dsimp only at hSw); go_simp; try with_reducible rfl)
          try simp only [Act.put, List.setIfInBounds_toArray, List.set_cons_zero, List.set_cons_succ]
          refine wpAnyH_take (i := 9) (oi := { dst := some 61, op := .move (.tmp 5), type := _, pos := _, after := _, guard := none }) (v := ?vq10) rfl (by kernel_rfl) (by kernel_rfl) (by kernel_rfl) (fun c' a' w' h' => PQ.put 61 (by decide) _ c' a' w' h') (Or.inl ⟨by rfl, ?hyq10⟩) (by assumption) ?restq10
          case hyq10 => (intro w hSw; (try dsimp only at hSw); go_simp; try with_reducible rfl)
          try simp only [Act.put, List.setIfInBounds_toArray, List.set_cons_zero, List.set_cons_succ]
          refine wpAnyH_take (i := 10) (oi := { dst := some 62, op := .nilCheck (.tmp 61), type := _, pos := _, after := _, guard := none }) (v := ?vq11) rfl (by kernel_rfl) (by kernel_rfl) (by kernel_rfl) (fun c' a' w' h' => PQ.put 62 (by decide) _ c' a' w' h') (Or.inl ⟨by rfl, ?hyq11⟩) (by assumption) ?restq11
          case hyq11 => (intro w hSw; (try dsimp only at hSw); go_simp; try with_reducible rfl)
          try simp only [Act.put, List.setIfInBounds_toArray, List.set_cons_zero, List.set_cons_succ]
          refine wpAnyH_take (i := 11) (oi := { dst := some 63, op := .fieldAddr 115 (.tmp 62) 3, type := _, pos := _, after := _, guard := none }) (v := ?vq12) rfl (by kernel_rfl) (by kernel_rfl) (by kernel_rfl) (fun c' a' w' h' => PQ.put 63 (by decide) _ c' a' w' h') (Or.inl ⟨by rfl, ?hyq12⟩) (by assumption) ?restq12
          case hyq12 => (intro w hSw; (try dsimp only at hSw); go_simp; try with_reducible rfl)
          try simp only [Act.put, List.setIfInBounds_toArray, List.set_cons_zero, List.set_cons_succ]
          refine wpAnyH_take (i := 12) (oi := { dst := some 64, op := .load 113 (.tmp 63), type := _, pos := _, after := _, guard := none }) (v := ?vq13) rfl (by kernel_rfl) (by kernel_rfl) (by kernel_rfl) (fun c' a' w' h' => PQ.put 64 (by decide) _ c' a' w' h') (Or.inl ⟨by rfl, ?hyq13⟩) (by assumption) ?restq13
          case hyq13 => (intro w hSw; (try dsimp only at hSw); go_simp; try with_reducible rfl)
          try simp only [Act.put, List.setIfInBounds_toArray, List.set_cons_zero, List.set_cons_succ]
          refine wpAnyH_take (i := 13) (oi := { dst := some 65, op := .move (.tmp 6), type := _, pos := _, after := _, guard := none }) (v := ?vq14) rfl (by kernel_rfl) (by kernel_rfl) (by kernel_rfl) (fun c' a' w' h' => PQ.put 65 (by decide) _ c' a' w' h') (Or.inl ⟨by rfl, ?hyq14⟩) (by assumption) ?restq14
          case hyq14 => (intro w hSw; (try dsimp only at hSw); go_simp; try with_reducible rfl)
          try simp only [Act.put, List.setIfInBounds_toArray, List.set_cons_zero, List.set_cons_succ]
          refine wpAnyH_ready (rs := [14]) (by kernel_rfl) (by simp) ?_
          refine AllReadyH.cons (o := { dst := some 66, op := .lookup 113 (.tmp 64) (.tmp 65) false, type := _, pos := _, after := _, guard := none }) rfl (fun K hK => ?_) AllReadyH.nil
          go_simp
          refine hK.out _ _ ?_ (fun hHeld => ?_)
          · exact hcc
          clear hK K
          try simp only [Act.put, List.setIfInBounds_toArray, List.set_cons_zero, List.set_cons_succ]
          refine wpAnyH_ready (rs := [15]) (by kernel_rfl) (by simp) ?_
          refine AllReadyH.cons (o := { dst := some 67, op := .call { callee := .value (.func 51), args := #[.tmp 52, .tmp 53, .tmp 60, .tmp 66], argTypes := _ }, type := _, pos := _, after := _, guard := none }) rfl (fun K hK => ?_) AllReadyH.nil
          go_simp
          go_at_call 51
          refine HC.out.mono ?_
          rintro e w5 (⟨rfl, hcc5, HL5⟩ | ⟨rfl, HN⟩)
          · refine hK.out _ _ ?_ (fun hHeld => ?_)
            · exact hcc5
            clear hK K
            try simp only [Act.put, List.setIfInBounds_toArray, List.set_cons_zero, List.set_cons_succ]
            refine wpAnyH_done (by kernel_rfl) ?_ _
            simp only [PQ]
            go_wp2
            go_roundw
            case rel =>
              obtain ⟨lv5, left5, h5, _⟩ := HL5.out
              rw [hca]
              (repeat apply Exists.intro)
              exact ⟨⟨lv5, left5, Lib.hid h5⟩, rfl⟩
            case measure => obtain ⟨lv5, left5, _, h5⟩ := HL5.out; exact h5
          · exact ⟨rfl, rfl, rfl, HN⟩
        · go_wp2_with fail
          obtain ⟨sv, hcc, hlk, hcall⟩ := HV.out (o + 1) (.inl rfl) ((wr.setCell ⟨w.heap.size + 1 + 1, 8, none⟩ (.slice (some ⟨g, o + 1, none⟩) rest.length (cap - 1))).drew) (by simp)
          have HC := Lib.hid hcall
          clear hcall HV
          refine Code.wp_mono (PQ.imp (n := w.heap.size) (D := [{ target := .fn (.func 48) #[.pointer (some ⟨w.heap.size, 0, none⟩)], args := #[] }]) (G := fun x => ¬ Good F ∧ Below p.base W3 x) ?himpr) ?_
          case himpr =>
            intro a' w4 ht hd HN
            simp only [Exit.inBlock]
            show Leaves Tryz.prog Tryz.f27 a'.tmps _ a'.defers (.panicking _) w4
            rw [hd]
            have ht2 : a'.tmps[4]?.getD undef = .pointer (some ⟨w.heap.size, 0, none⟩) := by simpa [Array.getD_eq_getD_getElem?] using ht
            refine leaves_cons (f := 48) (args := #[.pointer (some ⟨w.heap.size, 0, none⟩)]) (by simp) (by simp [go_sem, ht2]) ?_
            obtain ⟨y0, y1, y2, y3⟩ := HZ.out _ HN.out.2
            refine (catch_panicking w.heap.size false _ y2 y0 y1).mono ?_
            rintro e u' w'' ⟨rfl, rfl, rfl⟩
            have HE := Lib.hid (HBW.out _ HN.out.2)
            have HG := Lib.hid (goodB_f HN.out.1)
            clear HN
            simp [Leaves, settle, results, Tryz.results27, go_sem, ht2]
            rw [(res_cell y3 _).1]
            exact ⟨_, rfl, by rw [HG.out], ((HE.out.setCell (Nat.le_refl _) _).alloc (by simpa using HE.out.size) _)⟩
          refine wp_region_held_drew (S := (fun x_ => x_.cell? ⟨w.heap.size + 1 + 1, 1, none⟩ = some (.slice ca code.length cc) ∧ x_.cell? ⟨w.heap.size + 1 + 1, 7, none⟩ = some (.map (some (w.heap.size + 1))) ∧ x_.cell? ⟨cg, co + qn * 5, none⟩ = some (.int .u8 x.op) ∧ x_.cell? ⟨cg, co + qn * 5 + 1, none⟩ = some (.int .i64 x.a) ∧ x_.cell? ⟨cg, co + qn * 5 + 2, none⟩ = some (.int .i64 x.b) ∧ x_.cell? ⟨cg, co + qn * 5 + 3, none⟩ = some (.int .i64 x.c) ∧ x_.cell? ⟨cg, co + qn * 5 + 4, none⟩ = some (.string x.t))) (by kernel_rfl) ?_ (fun hHeld => ?_)
          · exact hcc
          refine wpAnyH_take (i := 0) (oi := { dst := some 52, op := .move (.tmp 5), type := _, pos := _, after := _, guard := none }) (v := ?vr1) rfl (by kernel_rfl) (by kernel_rfl) (by kernel_rfl) (fun c' a' w' h' => PQ.put 52 (by decide) _ c' a' w' h') (Or.inl ⟨by rfl, ?hyr1⟩) (by assumption) ?restr1
          case hyr1 => (intro w hSw; (try dsimp only at hSw); go_simp; try with_reducible rfl)
          try simp only [Act.put, List.setIfInBounds_toArray, List.set_cons_zero, List.set_cons_succ]
          refine wpAnyH_take (i := 1) (oi := { dst := some 53, op := .move (.tmp 6), type := _, pos := _, after := _, guard := none }) (v := ?vr2) rfl (by kernel_rfl) (by kernel_rfl) (by kernel_rfl) (fun c' a' w' h' => PQ.put 53 (by decide) _ c' a' w' h') (Or.inl ⟨by rfl, ?hyr2⟩) (by assumption) ?restr2
          case hyr2 => (intro w hSw; (try dsimp only at hSw); go_simp; try with_reducible rfl)
          try simp only [Act.put, List.setIfInBounds_toArray, List.set_cons_zero, List.set_cons_succ]
          refine wpAnyH_take (i := 2) (oi := { dst := some 54, op := .move (.tmp 5), type := _, pos := _, after := _, guard := none }) (v := ?vr3) rfl (by kernel_rfl) (by kernel_rfl) (by kernel_rfl) (fun c' a' w' h' => PQ.put 54 (by decide) _ c' a' w' h') (Or.inl ⟨by rfl, ?hyr3⟩) (by assumption) ?restr3
          case hyr3 => (intro w hSw; (try dsimp only at hSw); go_simp; try with_reducible rfl)
          try simp only [Act.put, List.setIfInBounds_toArray, List.set_cons_zero, List.set_cons_succ]
          refine wpAnyH_take (i := 3) (oi := { dst := some 55, op := .nilCheck (.tmp 54), type := _, pos := _, after := _, guard := none }) (v := ?vr4) rfl (by kernel_rfl) (by kernel_rfl) (by kernel_rfl) (fun c' a' w' h' => PQ.put 55 (by decide) _ c' a' w' h') (Or.inl ⟨by rfl, ?hyr4⟩) (by assumption) ?restr4
          case hyr4 => (intro w hSw; (try dsimp only at hSw); go_simp; try with_reducible rfl)
          try simp only [Act.put, List.setIfInBounds_toArray, List.set_cons_zero, List.set_cons_succ]
          refine wpAnyH_take (i := 4) (oi := { dst := some 56, op := .fieldAddr 115 (.tmp 55) 1, type := _, pos := _, after := _, guard := none }) (v := ?vr5) rfl (by kernel_rfl) (by kernel_rfl) (by kernel_rfl) (fun c' a' w' h' => PQ.put 56 (by decide) _ c' a' w' h') (Or.inl ⟨by rfl, ?hyr5⟩) (by assumption) ?restr5
          case hyr5 => (intro w hSw; (try dsimp only at hSw); go_simp; try with_reducible rfl)
          try simp only [Act.put, List.setIfInBounds_toArray, List.set_cons_zero, List.set_cons_succ]
          refine wpAnyH_take (i := 5) (oi := { dst := some 57, op := .load 26 (.tmp 56), type := _, pos := _, after := _, guard := none }) (v := ?vr6) rfl (by kernel_rfl) (by kernel_rfl) (by kernel_rfl) (fun c' a' w' h' => PQ.put 57 (by decide) _ c' a' w' h') (Or.inl ⟨by rfl, ?hyr6⟩) (by assumption) ?restr6
          case hyr6 => (intro w hSw; (try dsimp only at hSw); go_simp; try with_reducible rfl)
          try simp only [Act.put, List.setIfInBounds_toArray, List.set_cons_zero, List.set_cons_succ]
          refine wpAnyH_take (i := 6) (oi := { dst := some 58, op := .move (.tmp 6), type := _, pos := _, after := _, guard := none }) (v := ?vr7) rfl (by kernel_rfl) (by kernel_rfl) (by kernel_rfl) (fun c' a' w' h' => PQ.put 58 (by decide) _ c' a' w' h') (Or.inl ⟨by rfl, ?hyr7⟩) (by assumption) ?restr7
          case hyr7 => (intro w hSw; (try dsimp only at hSw); go_simp; try with_reducible rfl)
          try simp only [Act.put, List.setIfInBounds_toArray, List.set_cons_zero, List.set_cons_succ]
          refine wpAnyH_take (i := 7) (oi := { dst := some 59, op := .indexAddr 26 (.tmp 57) (.tmp 58), type := _, pos := _, after := _, guard := none }) (v := ?vr8) rfl (by kernel_rfl) (by kernel_rfl) (by kernel_rfl) (fun c' a' w' h' => PQ.put 59 (by decide) _ c' a' w' h') (Or.inl ⟨by rfl, ?hyr8⟩) (by assumption) ?restr8
          case hyr8 => (intro w hSw; (try dsimp only at hSw); go_simp; try with_reducible rfl)
          try simp only [Act.put, List.setIfInBounds_toArray, List.set_cons_zero, List.set_cons_succ]
          refine wpAnyH_take (i := 8) (oi := { dst := some 60, op := .load 48 (.tmp 59), type := _, pos := _, after := _, guard := none }) (v := ?vr9) rfl (by kernel_rfl) (by kernel_rfl) (by kernel_rfl) (fun c' a' w' h' => PQ.put 60 (by decide) _ c' a' w' h') (Or.inl ⟨by rfl, ?hyr9⟩) (by assumption) ?restr9
          case hyr9 => (intro w hSw; (try dsimp only at hSw); go_simp; try with_reducible rfl)
          try simp only [Act.put, List.setIfInBounds_toArray, List.set_cons_zero, List.set_cons_succ]
          refine wpAnyH_take (i := 9) (oi := { dst := some 61, op := .move (.tmp 5), type := _, pos := _, after := _, guard := none }) (v := ?vr10) rfl (by kernel_rfl) (by kernel_rfl) (by kernel_rfl) (fun c' a' w' h' => PQ.put 61 (by decide) _ c' a' w' h') (Or.inl ⟨by rfl, ?hyr10⟩) (by assumption) ?restr10
          case hyr10 => (intro w hSw; (try dsimp only at hSw); go_simp; try with_reducible rfl)
          try simp only [Act.put, List.setIfInBounds_toArray, List.set_cons_zero, List.set_cons_succ]
          refine wpAnyH_take (i := 10) (oi := { dst := some 62, op := .nilCheck (.tmp 61), type := _, pos := _, after := _, guard := none }) (v := ?vr11) rfl (by kernel_rfl) (by kernel_rfl) (by kernel_rfl) (fun c' a' w' h' => PQ.put 62 (by decide) _ c' a' w' h') (Or.inl ⟨by rfl, ?hyr11⟩) (by assumption) ?restr11
          case hyr11 => (intro w hSw; (try dsimp only at hSw); go_simp; try with_reducible rfl)
          try simp only [Act.put, List.setIfInBounds_toArray, List.set_cons_zero, List.set_cons_succ]
          refine wpAnyH_take (i := 11) (oi := { dst := some 63, op := .fieldAddr 115 (.tmp 62) 3, type := _, pos := _, after := _, guard := none }) (v := ?vr12) rfl (by kernel_rfl) (by kernel_rfl) (by kernel_rfl) (fun c' a' w' h' => PQ.put 63 (by decide) _ c' a' w' h') (Or.inl ⟨by rfl, ?hyr12⟩) (by assumption) ?restr12
          case hyr12 => (intro w hSw; (try dsimp only at hSw); go_simp; try with_reducible rfl)
          try simp only [Act.put, List.setIfInBounds_toArray, List.set_cons_zero, List.set_cons_succ]
          refine wpAnyH_take (i := 12) (oi := { dst := some 64, op := .load 113 (.tmp 63), type := _, pos := _, after := _, guard := none }) (v := ?vr13) rfl (by kernel_rfl) (by kernel_rfl) (by kernel_rfl) (fun c' a' w' h' => PQ.put 64 (by decide) _ c' a' w' h') (Or.inl ⟨by rfl, ?hyr13⟩) (by assumption) ?restr13
          case hyr13 => (intro w hSw; (try dsimp only at hSw); go_simp; try with_reducible rfl)
          try simp only [Act.put, List.setIfInBounds_toArray, List.set_cons_zero, List.set_cons_succ]
          refine wpAnyH_take (i := 13) (oi := { dst := some 65, op := .move (.tmp 6), type := _, pos := _, after := _, guard := none }) (v := ?vr14) rfl (by kernel_rfl) (by kernel_rfl) (by kernel_rfl) (fun c' a' w' h' => PQ.put 65 (by decide) _ c' a' w' h') (Or.inl ⟨by rfl, ?hyr14⟩) (by assumption) ?restr14
          case hyr14 => (intro w hSw; (try dsimp only at hSw); go_simp; try with_reducible rfl)
          try simp only [Act.put, List.setIfInBounds_toArray, List.set_cons_zero, List.set_cons_succ]
          refine wpAnyH_ready (rs := [14]) (by kernel_rfl) (by simp) ?_
          refine AllReadyH.cons (o := { dst := some 66, op := .lookup 113 (.tmp 64) (.tmp 65) false, type := _, pos := _, after := _, guard := none }) rfl (fun K hK => ?_) AllReadyH.nil
          go_simp
          refine hK.out _ _ ?_ (fun hHeld => ?_)
          · exact hcc
          clear hK K
          try simp only [Act.put, List.setIfInBounds_toArray, List.set_cons_zero, List.set_cons_succ]
          refine wpAnyH_ready (rs := [15]) (by kernel_rfl) (by simp) ?_
          refine AllReadyH.cons (o := { dst := some 67, op := .call { callee := .value (.func 51), args := #[.tmp 52, .tmp 53, .tmp 60, .tmp 66], argTypes := _ }, type := _, pos := _, after := _, guard := none }) rfl (fun K hK => ?_) AllReadyH.nil
          go_simp
          go_at_call 51
          refine HC.out.mono ?_
          rintro e w5 (⟨rfl, hcc5, HL5⟩ | ⟨rfl, HN⟩)
          · refine hK.out _ _ ?_ (fun hHeld => ?_)
            · exact hcc5
            clear hK K
            try simp only [Act.put, List.setIfInBounds_toArray, List.set_cons_zero, List.set_cons_succ]
            refine wpAnyH_done (by kernel_rfl) ?_ _
            simp only [PQ]
            go_wp2
            go_roundw
            case rel =>
              obtain ⟨lv5, left5, h5, _⟩ := HL5.out
              rw [hca]
              (repeat apply Exists.intro)
              exact ⟨⟨lv5, left5, Lib.hid h5⟩, rfl⟩
            case measure => obtain ⟨lv5, left5, _, h5⟩ := HL5.out; exact h5
          · exact ⟨rfl, rfl, rfl, HN⟩
  · go_wp2
    refine leaves_cons (f := 48) (args := #[.pointer (some ⟨w.heap.size, 0, none⟩)]) (by simp) (by simp [go_sem]) ?_
    obtain ⟨y0, y1, y2, y3⟩ := HZ.out _ HN.out.2
    refine (catch_panicking w.heap.size false _ y2 y0 y1).mono ?_
    rintro e u' w'' ⟨rfl, rfl, rfl⟩
    have HE := Lib.hid (HBW.out _ HN.out.2)
    have HG := Lib.hid (goodB_f HN.out.1)
    clear HN
    simp [Leaves, settle, results, Tryz.results27, go_sem]
    rw [(res_cell y3 _).1]
    exact ⟨_, rfl, by rw [HG.out], ((HE.out.setCell (Nat.le_refl _) _).alloc (by simpa using HE.out.size) _)⟩
end Go.Ck
namespace Go.Ck
open Go Go.RowKit Go.Proofs
theorem list_beq {a b : ByteArray} : (a.data.toList == b.data.toList) = decide (a = b) := by
  by_cases h : a = b
  · simp [h]
  · have : a.data.toList ≠ b.data.toList := fun hc => h (by
      have := congrArg List.toArray hc; simp at this
      cases a; cases b; simpa using this)
    rw [decide_eq_false h, beq_eq_false_iff_ne]; exact this
theorem str_ne {name b : ByteArray} (h : name ≠ b) : (name.toList == b.data.toList) = false := by
  rw [Lib.toList_data, list_beq, decide_eq_false h]
theorem takesR_ok (w : World) (s : ByteArray) : Calls Tryz.prog 28 #[.string s] w fun e w' => e = .returned (.tuple #[.int .i64 (takesN s), .bool (isPrim s)]) ∧ w' = w := by
  by_cases h0 : s = ⟨#[112, 114, 105, 110, 116]⟩
  · subst h0
    go_enter Tryz.func28, Tryz.ntmps28
    go_wp2
    go_ret2
    exact ⟨by rfl, rfl⟩
  have e0 : (s.toList == [112, 114, 105, 110, 116]) = false := str_ne h0
  by_cases h1 : s = ⟨#[105, 116, 111, 115]⟩
  · subst h1
    clear h0 e0
    go_enter Tryz.func28, Tryz.ntmps28
    go_wp2
    go_ret2
    exact ⟨by rfl, rfl⟩
  have e1 : (s.toList == [105, 116, 111, 115]) = false := str_ne h1
  by_cases h2 : s = ⟨#[115, 105, 122, 101]⟩
  · subst h2
    clear h0 e0 h1 e1
    go_enter Tryz.func28, Tryz.ntmps28
    go_wp2
    go_ret2
    exact ⟨by rfl, rfl⟩
  have e2 : (s.toList == [115, 105, 122, 101]) = false := str_ne h2
  by_cases h3 : s = ⟨#[110, 111, 116]⟩
  · subst h3
    clear h0 e0 h1 e1 h2 e2
    go_enter Tryz.func28, Tryz.ntmps28
    go_wp2
    go_ret2
    exact ⟨by rfl, rfl⟩
  have e3 : (s.toList == [110, 111, 116]) = false := str_ne h3
  by_cases h4 : s = ⟨#[114, 101, 102]⟩
  · subst h4
    clear h0 e0 h1 e1 h2 e2 h3 e3
    go_enter Tryz.func28, Tryz.ntmps28
    go_wp2
    go_ret2
    exact ⟨by rfl, rfl⟩
  have e4 : (s.toList == [114, 101, 102]) = false := str_ne h4
  by_cases h5 : s = ⟨#[108, 101, 110]⟩
  · subst h5
    clear h0 e0 h1 e1 h2 e2 h3 e3 h4 e4
    go_enter Tryz.func28, Tryz.ntmps28
    go_wp2
    go_ret2
    exact ⟨by rfl, rfl⟩
  have e5 : (s.toList == [108, 101, 110]) = false := str_ne h5
  by_cases h6 : s = ⟨#[99, 111, 109, 109, 105, 116]⟩
  · subst h6
    clear h0 e0 h1 e1 h2 e2 h3 e3 h4 e4 h5 e5
    go_enter Tryz.func28, Tryz.ntmps28
    go_wp2
    go_ret2
    exact ⟨by rfl, rfl⟩
  have e6 : (s.toList == [99, 111, 109, 109, 105, 116]) = false := str_ne h6
  by_cases h7 : s = ⟨#[97, 98, 111, 114, 116]⟩
  · subst h7
    clear h0 e0 h1 e1 h2 e2 h3 e3 h4 e4 h5 e5 h6 e6
    go_enter Tryz.func28, Tryz.ntmps28
    go_wp2
    go_ret2
    exact ⟨by rfl, rfl⟩
  have e7 : (s.toList == [97, 98, 111, 114, 116]) = false := str_ne h7
  by_cases h8 : s = ⟨#[126]⟩
  · subst h8
    clear h0 e0 h1 e1 h2 e2 h3 e3 h4 e4 h5 e5 h6 e6 h7 e7
    go_enter Tryz.func28, Tryz.ntmps28
    go_wp2
    go_ret2
    exact ⟨by rfl, rfl⟩
  have e8 : (s.toList == [126]) = false := str_ne h8
  by_cases h9 : s = ⟨#[33]⟩
  · subst h9
    clear h0 e0 h1 e1 h2 e2 h3 e3 h4 e4 h5 e5 h6 e6 h7 e7 h8 e8
    go_enter Tryz.func28, Tryz.ntmps28
    go_wp2
    go_ret2
    exact ⟨by rfl, rfl⟩
  have e9 : (s.toList == [33]) = false := str_ne h9
  by_cases h10 : s = ⟨#[115, 97, 109, 101]⟩
  · subst h10
    clear h0 e0 h1 e1 h2 e2 h3 e3 h4 e4 h5 e5 h6 e6 h7 e7 h8 e8 h9 e9
    go_enter Tryz.func28, Tryz.ntmps28
    go_wp2
    go_ret2
    exact ⟨by rfl, rfl⟩
  have e10 : (s.toList == [115, 97, 109, 101]) = false := str_ne h10
  by_cases h11 : s = ⟨#[97, 114, 114, 97, 121]⟩
  · subst h11
    clear h0 e0 h1 e1 h2 e2 h3 e3 h4 e4 h5 e5 h6 e6 h7 e7 h8 e8 h9 e9 h10 e10
    go_enter Tryz.func28, Tryz.ntmps28
    go_wp2
    go_ret2
    exact ⟨by rfl, rfl⟩
  have e11 : (s.toList == [97, 114, 114, 97, 121]) = false := str_ne h11
  by_cases h12 : s = ⟨#[103, 101, 116]⟩
  · subst h12
    clear h0 e0 h1 e1 h2 e2 h3 e3 h4 e4 h5 e5 h6 e6 h7 e7 h8 e8 h9 e9 h10 e10 h11 e11
    go_enter Tryz.func28, Tryz.ntmps28
    go_wp2
    go_ret2
    exact ⟨by rfl, rfl⟩
  have e12 : (s.toList == [103, 101, 116]) = false := str_ne h12
  by_cases h13 : s = ⟨#[43]⟩
  · subst h13
    clear h0 e0 h1 e1 h2 e2 h3 e3 h4 e4 h5 e5 h6 e6 h7 e7 h8 e8 h9 e9 h10 e10 h11 e11 h12 e12
    go_enter Tryz.func28, Tryz.ntmps28
    go_wp2
    go_ret2
    exact ⟨by rfl, rfl⟩
  have e13 : (s.toList == [43]) = false := str_ne h13
  by_cases h14 : s = ⟨#[45]⟩
  · subst h14
    clear h0 e0 h1 e1 h2 e2 h3 e3 h4 e4 h5 e5 h6 e6 h7 e7 h8 e8 h9 e9 h10 e10 h11 e11 h12 e12 h13 e13
    go_enter Tryz.func28, Tryz.ntmps28
    go_wp2
    go_ret2
    exact ⟨by rfl, rfl⟩
  have e14 : (s.toList == [45]) = false := str_ne h14
  by_cases h15 : s = ⟨#[42]⟩
  · subst h15
    clear h0 e0 h1 e1 h2 e2 h3 e3 h4 e4 h5 e5 h6 e6 h7 e7 h8 e8 h9 e9 h10 e10 h11 e11 h12 e12 h13 e13 h14 e14
    go_enter Tryz.func28, Tryz.ntmps28
    go_wp2
    go_ret2
    exact ⟨by rfl, rfl⟩
  have e15 : (s.toList == [42]) = false := str_ne h15
  by_cases h16 : s = ⟨#[100, 105, 118]⟩
  · subst h16
    clear h0 e0 h1 e1 h2 e2 h3 e3 h4 e4 h5 e5 h6 e6 h7 e7 h8 e8 h9 e9 h10 e10 h11 e11 h12 e12 h13 e13 h14 e14 h15 e15
    go_enter Tryz.func28, Tryz.ntmps28
    go_wp2
    go_ret2
    exact ⟨by rfl, rfl⟩
  have e16 : (s.toList == [100, 105, 118]) = false := str_ne h16
  by_cases h17 : s = ⟨#[109, 111, 100]⟩
  · subst h17
    clear h0 e0 h1 e1 h2 e2 h3 e3 h4 e4 h5 e5 h6 e6 h7 e7 h8 e8 h9 e9 h10 e10 h11 e11 h12 e12 h13 e13 h14 e14 h15 e15 h16 e16
    go_enter Tryz.func28, Tryz.ntmps28
    go_wp2
    go_ret2
    exact ⟨by rfl, rfl⟩
  have e17 : (s.toList == [109, 111, 100]) = false := str_ne h17
  by_cases h18 : s = ⟨#[60]⟩
  · subst h18
    clear h0 e0 h1 e1 h2 e2 h3 e3 h4 e4 h5 e5 h6 e6 h7 e7 h8 e8 h9 e9 h10 e10 h11 e11 h12 e12 h13 e13 h14 e14 h15 e15 h16 e16 h17 e17
    go_enter Tryz.func28, Tryz.ntmps28
    go_wp2
    go_ret2
    exact ⟨by rfl, rfl⟩
  have e18 : (s.toList == [60]) = false := str_ne h18
  by_cases h19 : s = ⟨#[60, 61]⟩
  · subst h19
    clear h0 e0 h1 e1 h2 e2 h3 e3 h4 e4 h5 e5 h6 e6 h7 e7 h8 e8 h9 e9 h10 e10 h11 e11 h12 e12 h13 e13 h14 e14 h15 e15 h16 e16 h17 e17 h18 e18
    go_enter Tryz.func28, Tryz.ntmps28
    go_wp2
    go_ret2
    exact ⟨by rfl, rfl⟩
  have e19 : (s.toList == [60, 61]) = false := str_ne h19
  by_cases h20 : s = ⟨#[62]⟩
  · subst h20
    clear h0 e0 h1 e1 h2 e2 h3 e3 h4 e4 h5 e5 h6 e6 h7 e7 h8 e8 h9 e9 h10 e10 h11 e11 h12 e12 h13 e13 h14 e14 h15 e15 h16 e16 h17 e17 h18 e18 h19 e19
    go_enter Tryz.func28, Tryz.ntmps28
    go_wp2
    go_ret2
    exact ⟨by rfl, rfl⟩
  have e20 : (s.toList == [62]) = false := str_ne h20
  by_cases h21 : s = ⟨#[62, 61]⟩
  · subst h21
    clear h0 e0 h1 e1 h2 e2 h3 e3 h4 e4 h5 e5 h6 e6 h7 e7 h8 e8 h9 e9 h10 e10 h11 e11 h12 e12 h13 e13 h14 e14 h15 e15 h16 e16 h17 e17 h18 e18 h19 e19 h20 e20
    go_enter Tryz.func28, Tryz.ntmps28
    go_wp2
    go_ret2
    exact ⟨by rfl, rfl⟩
  have e21 : (s.toList == [62, 61]) = false := str_ne h21
  by_cases h22 : s = ⟨#[61]⟩
  · subst h22
    clear h0 e0 h1 e1 h2 e2 h3 e3 h4 e4 h5 e5 h6 e6 h7 e7 h8 e8 h9 e9 h10 e10 h11 e11 h12 e12 h13 e13 h14 e14 h15 e15 h16 e16 h17 e17 h18 e18 h19 e19 h20 e20 h21 e21
    go_enter Tryz.func28, Tryz.ntmps28
    go_wp2
    go_ret2
    exact ⟨by rfl, rfl⟩
  have e22 : (s.toList == [61]) = false := str_ne h22
  by_cases h23 : s = ⟨#[60, 62]⟩
  · subst h23
    clear h0 e0 h1 e1 h2 e2 h3 e3 h4 e4 h5 e5 h6 e6 h7 e7 h8 e8 h9 e9 h10 e10 h11 e11 h12 e12 h13 e13 h14 e14 h15 e15 h16 e16 h17 e17 h18 e18 h19 e19 h20 e20 h21 e21 h22 e22
    go_enter Tryz.func28, Tryz.ntmps28
    go_wp2
    go_ret2
    exact ⟨by rfl, rfl⟩
  have e23 : (s.toList == [60, 62]) = false := str_ne h23
  by_cases h24 : s = ⟨#[94]⟩
  · subst h24
    clear h0 e0 h1 e1 h2 e2 h3 e3 h4 e4 h5 e5 h6 e6 h7 e7 h8 e8 h9 e9 h10 e10 h11 e11 h12 e12 h13 e13 h14 e14 h15 e15 h16 e16 h17 e17 h18 e18 h19 e19 h20 e20 h21 e21 h22 e22 h23 e23
    go_enter Tryz.func28, Tryz.ntmps28
    go_wp2
    go_ret2
    exact ⟨by rfl, rfl⟩
  have e24 : (s.toList == [94]) = false := str_ne h24
  by_cases h25 : s = ⟨#[58, 61]⟩
  · subst h25
    clear h0 e0 h1 e1 h2 e2 h3 e3 h4 e4 h5 e5 h6 e6 h7 e7 h8 e8 h9 e9 h10 e10 h11 e11 h12 e12 h13 e13 h14 e14 h15 e15 h16 e16 h17 e17 h18 e18 h19 e19 h20 e20 h21 e21 h22 e22 h23 e23 h24 e24
    go_enter Tryz.func28, Tryz.ntmps28
    go_wp2
    go_ret2
    exact ⟨by rfl, rfl⟩
  have e25 : (s.toList == [58, 61]) = false := str_ne h25
  by_cases h26 : s = ⟨#[112, 117, 116]⟩
  · subst h26
    clear h0 e0 h1 e1 h2 e2 h3 e3 h4 e4 h5 e5 h6 e6 h7 e7 h8 e8 h9 e9 h10 e10 h11 e11 h12 e12 h13 e13 h14 e14 h15 e15 h16 e16 h17 e17 h18 e18 h19 e19 h20 e20 h21 e21 h22 e22 h23 e23 h24 e24 h25 e25
    go_enter Tryz.func28, Tryz.ntmps28
    go_wp2
    go_ret2
    exact ⟨by rfl, rfl⟩
  have e26 : (s.toList == [112, 117, 116]) = false := str_ne h26
  have hn : takesN s = 0 ∧ isPrim s = false := by
    have key : ∀ l : List UInt8, s.data.toList = l → s = ⟨l.toArray⟩ := fun l h => by subst h; simp
    have n1 : s.data.toList ∉ t1 := fun h => by simp only [t1, List.mem_cons, List.not_mem_nil, or_false] at h; rcases h with h | h | h | h | h | h | h | h | h | h <;> have := key _ h <;> contradiction
    have n2 : s.data.toList ∉ t2 := fun h => by simp only [t2, List.mem_cons, List.not_mem_nil, or_false] at h; rcases h with h | h | h | h | h | h | h | h | h | h | h | h | h | h | h | h <;> have := key _ h <;> contradiction
    have n3 : s.data.toList ∉ t3 := fun h => by simp only [t3, List.mem_cons, List.not_mem_nil, or_false] at h; have := key _ h; contradiction
    simp [takesN, isPrim, n1, n2, n3]
  rw [hn.1, hn.2]
  clear hn h0 h1 h2 h3 h4 h5 h6 h7 h8 h9 h10 h11 h12 h13 h14 h15 h16 h17 h18 h19 h20 h21 h22 h23 h24 h25 h26
  go_enter Tryz.func28, Tryz.ntmps28
  go_wp2
  go_ret2
  exact ⟨rfl, rfl⟩
end Go.Ck
namespace Go.Ck
open Go Go.RowKit Go.Proofs
theorem within_ok (w : World) (x l m : Int) : Calls Tryz.prog 29 #[.int .i64 x, .int .i64 l, .int .i64 m] w fun e w' => e = .returned (.bool (decide (l ≤ x ∧ x ≤ m))) ∧ w' = w := by
  by_cases h1 : l ≤ x
  · by_cases h2 : x ≤ m
    · have e : decide (l ≤ x ∧ x ≤ m) = true := by simp [h1, h2]
      rw [e]
      go_enter Tryz.func29, Tryz.ntmps29
      go_wp2
      go_ret
      exact ⟨rfl, rfl⟩
    · have e : decide (l ≤ x ∧ x ≤ m) = false := by simp [h1, h2]
      rw [e]
      go_enter Tryz.func29, Tryz.ntmps29
      go_wp2
      go_ret
      exact ⟨rfl, rfl⟩
  · have e : decide (l ≤ x ∧ x ≤ m) = false := by simp [h1]
    rw [e]
    go_enter Tryz.func29, Tryz.ntmps29
    go_wp2
    go_ret
    exact ⟨rfl, rfl⟩
theorem has_ok (w : World) (x l m : Int) : Calls Tryz.prog 47 #[.agg #[.int .i64 l, .int .i64 m], .int .i64 x] w fun e w' => e = .returned (.bool (decide (l ≤ x ∧ x ≤ m))) ∧ Below w.heap.size w w' := by
  have hb1 : Below w.heap.size w (w.alloc (.cells #[.int .i64 l, .int .i64 m] 107)) := (Below.refl _ _).alloc (Nat.le_refl _) _
  have HB := Lib.hid hb1
  clear hb1
  by_cases h1 : l ≤ x
  · by_cases h2 : x ≤ m
    · have e : decide (l ≤ x ∧ x ≤ m) = true := by simp [h1, h2]
      rw [e]
      go_enter Tryz.func47, Tryz.ntmps47
      go_wp2
      go_ret
      exact ⟨rfl, HB.out⟩
    · have e : decide (l ≤ x ∧ x ≤ m) = false := by simp [h1, h2]
      rw [e]
      go_enter Tryz.func47, Tryz.ntmps47
      go_wp2
      go_ret
      exact ⟨rfl, HB.out⟩
  · have e : decide (l ≤ x ∧ x ≤ m) = false := by simp [h1]
    rw [e]
    go_enter Tryz.func47, Tryz.ntmps47
    go_wp2
    go_ret
    exact ⟨rfl, HB.out⟩
theorem has_t {w : World} {x l m : Int} (h : l ≤ x ∧ x ≤ m) : Calls Tryz.prog 47 #[.agg #[.int .i64 l, .int .i64 m], .int .i64 x] w fun e w' => e = .returned (.bool true) ∧ Below w.heap.size w w' := by
  have := has_ok w x l m
  rw [decide_eq_true h] at this
  exact this
theorem has_f {w : World} {x l m : Int} (h : ¬ (l ≤ x ∧ x ≤ m)) : Calls Tryz.prog 47 #[.agg #[.int .i64 l, .int .i64 m], .int .i64 x] w fun e w' => e = .returned (.bool false) ∧ Below w.heap.size w w' := by
  have := has_ok w x l m
  rw [decide_eq_false h] at this
  exact this
end Go.Ck
namespace Go.Ck
open Go Go.RowKit Go.Proofs
def minI : Int := -4611686018427387904
def maxI : Int := 4611686018427387903
def opP (m n r : Int) (x : Ins) : Prop :=
  if x.op = 1 then -4611686018427387904 ≤ x.a ∧ x.a ≤ 4611686018427387903 ∧ x.b = 0 ∧ x.c = 0 ∧ x.t.size = 0
  else if x.op = 2 then x.a = 0 ∧ x.b = 0 ∧ x.c = 0 ∧ x.t.size ≤ 16384
  else if x.op = 6 then 1 ≤ x.a ∧ 1 ≤ x.b ∧ x.a + x.b ≤ m ∧ 0 ≤ x.c ∧ x.c ≤ 65535 ∧ x.t.size = 0
  else if x.op = 7 ∨ x.op = 8 ∨ x.op = 15 ∨ x.op = 17 ∨ x.op = 19 ∨ x.op = 21 ∨ x.op = 25 then x.a = 0 ∧ x.b = 0 ∧ x.c = 0 ∧ x.t.size = 0
  else if x.op = 9 ∨ x.op = 10 ∨ x.op = 18 then 0 ≤ x.a ∧ x.a ≤ n - 1 ∧ x.b = 0 ∧ x.c = 0 ∧ x.t.size = 0
  else if x.op = 11 then 2 ≤ x.a ∧ x.a ≤ 65535 ∧ x.b = 0 ∧ x.c = 0 ∧ x.t.size = 0
  else if x.op = 13 ∨ x.op = 22 then 0 ≤ x.a ∧ x.a ≤ 65535 ∧ 0 ≤ x.b ∧ x.b ≤ 1 ∧ x.c = 0 ∧ x.t.size = 0
  else if x.op = 3 ∨ x.op = 4 ∨ x.op = 5 ∨ x.op = 12 ∨ x.op = 14 ∨ x.op = 20 then 0 ≤ x.a ∧ x.a ≤ 65535 ∧ x.b = 0 ∧ x.c = 0 ∧ x.t.size = 0
  else if x.op = 16 then x.a = 0 ∧ x.b = 0 ∧ x.c = 0 ∧ isPrim x.t = true
  else if x.op = 23 then 0 ≤ x.a ∧ x.a ≤ r - 1 ∧ 0 ≤ x.b ∧ x.b ≤ n - 1 ∧ x.c = 0 ∧ x.t.size = 0
  else if x.op = 24 then 0 ≤ x.a ∧ x.a ≤ r - 1 ∧ x.b = 0 ∧ x.c = 0 ∧ x.t.size = 0
  else False
open Classical in
noncomputable def opB (m n r : Int) (x : Ins) : Bool := decide (opP m n r x)
theorem opB_t {m n r : Int} {x : Ins} (h : opP m n r x) : opB m n r x = true := by unfold opB; simp [h]
theorem opB_f {m n r : Int} {x : Ins} (h : ¬ opP m n r x) : opB m n r x = false := by unfold opB; simp [h]
theorem str0 {s : ByteArray} (h : s.size = 0) : s = ⟨#[]⟩ := by
  cases s with | mk d => have : d = #[] := by simpa [ByteArray.size] using h
                         rw [this]
theorem empty0 : (⟨#[]⟩ : ByteArray) = ByteArray.empty := rfl
theorem str_ne0 {s : ByteArray} (h : ¬ s.size = 0) : s.toList.isEmpty = false := by
  cases hs : s.toList with
  | nil => exfalso; rw [Lib.toList_data] at hs; exact h (by simpa [ByteArray.size, ← Array.length_toList] using congrArg List.length hs)
  | cons a l => rfl
def OpsC (k : Int) : Prop := ∀ {w : World} {kb m fc r rc n B : Nat} {ca ra : Option Addr} {cc g1 o1 f : Nat} {x : Ins} (k0 : w.cell? ⟨kb, 0, none⟩ = some (.slice (some ⟨g1, o1, none⟩) m fc)) (k1 : w.cell? ⟨kb, 1, none⟩ = some (.slice ra r rc)) (hf : f < m) (hm : m ≤ 60000) (hn : n ≤ 60000) (hr : r ≤ 60000) (c0 : w.cell? ⟨g1, o1 + f, none⟩ = some (.slice ca n cc)) (hT : TakesV B w) (hB : B ≤ w.heap.size) (ha : -9223372036854775808 ≤ x.a ∧ x.a ≤ 9223372036854775807) (hx : x.op = k), Calls Tryz.prog 25 #[.pointer (some ⟨kb, 0, none⟩), .int .i64 f, insA x] w fun e w' => e = .returned (.bool (opB m n r x)) ∧ Below w.heap.size w w'
def OpsR (k : Int) : Prop := ∀ {w : World} {m fc r rc n : Nat} {ca ra : Option Addr} {cc g1 o1 f : Nat} {x : Ins} (hf : f < m) (hm : m ≤ 60000) (hn : n ≤ 60000) (hr : r ≤ 60000) (c0 : w.cell? ⟨g1, o1 + f, none⟩ = some (.slice ca n cc)) (ha : -9223372036854775808 ≤ x.a ∧ x.a ≤ 9223372036854775807) (hb : -9223372036854775808 ≤ x.b ∧ x.b ≤ 9223372036854775807) (hx : x.op = k), Calls Tryz.prog 16 #[.agg #[.slice (some ⟨g1, o1, none⟩) m fc, .slice ra r rc], .int .i64 f, insA x] w fun e w' => e = .returned (.bool (opB m n r x)) ∧ Below w.heap.size w w'
end Go.Ck
