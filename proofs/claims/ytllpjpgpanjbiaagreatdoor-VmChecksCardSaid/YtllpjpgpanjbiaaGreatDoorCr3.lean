/- The reference's checker of one function, and both checkers of code whole, walked by hand: both answer as the plain definition says. Each says its own conditions. -/
import Derived.Test.YtllpjpgpanjbiaaGreatDoorCr2a
import Derived.Test.YtllpjpgpanjbiaaGreatDoorCr2b
import Derived.Test.YtllpjpgpanjbiaaGreatDoorCr2c
import Derived.Test.YtllpjpgpanjbiaaGreatDoorCk3
import Derived.Test.YtllpjpgpanjbiaaGreatDoorCk4a
import Derived.Test.YtllpjpgpanjbiaaGreatDoorCk4b
import Derived.Test.YtllpjpgpanjbiaaGreatDoorCk4c
import Derived.Test.YtllpjpgpanjbiaaGreatDoorCk4d
set_option linter.unusedVariables false
set_option linter.unusedSimpArgs false
set_option maxRecDepth 100000
set_option maxHeartbeats 1600000
namespace Go.Ck
open Go Go.RowKit Go.Proofs
theorem stepR_ok {p : Pr} {F : Fn} {w : World} {K : Know} {lv : Value} {left : List Int} {s : St} {qn N g1 o1 m fc cg co cc : Nat} {x : Ins} (C : CodeAt p F w qn x g1 o1 m fc cg co cc) (H : PreR p F w K lv left s qn x N) (ho : 1 ≤ x.op ∧ x.op ≤ 25) :
    Calls Tryz.prog 31 #[.pointer (some ⟨p.pb, 0, none⟩), .int .i64 qn] w fun e w' => e = .returned (.tuple #[]) ∧ StepR (stepX F K left qn x s) p F lv w w' := by
  obtain ⟨op, xa, xb, xc, xt⟩ := x
  simp only at ho
  by_cases n1 : op = 1
  · subst n1; exact stepR_int _ _ _ _ _ _ _ _ _ _ _ _ _ _ _ _ _ _ _ _ C H
  by_cases n2 : op = 2
  · subst n2; exact stepR_str _ _ _ _ _ _ _ _ _ _ _ _ _ _ _ _ _ _ _ _ C H
  by_cases n3 : op = 3
  · subst n3; exact stepR_local _ _ _ _ _ _ _ _ _ _ _ _ _ _ _ _ _ _ _ _ C H
  by_cases n4 : op = 4
  · subst n4; exact stepR_env _ _ _ _ _ _ _ _ _ _ _ _ _ _ _ _ _ _ _ _ C H
  by_cases n5 : op = 5
  · subst n5; exact stepR_mate _ _ _ _ _ _ _ _ _ _ _ _ _ _ _ _ _ _ _ _ C H
  by_cases n6 : op = 6
  · subst n6; exact stepR_group _ _ _ _ _ _ _ _ _ _ _ _ _ _ _ _ _ _ _ _ C H
  by_cases n7 : op = 7
  · subst n7; exact stepR_call _ _ _ _ _ _ _ _ _ _ _ _ _ _ _ _ _ _ _ _ C H
  by_cases n8 : op = 8
  · subst n8; exact stepR_ret _ _ _ _ _ _ _ _ _ _ _ _ _ _ _ _ _ _ _ _ C H
  by_cases n9 : op = 9
  · subst n9; exact stepR_jump _ _ _ _ _ _ _ _ _ _ _ _ _ _ _ _ _ _ _ _ C H
  by_cases n10 : op = 10
  · subst n10; exact stepR_if _ _ _ _ _ _ _ _ _ _ _ _ _ _ _ _ _ _ _ _ C H
  by_cases n11 : op = 11
  · subst n11; exact stepR_tuple _ _ _ _ _ _ _ _ _ _ _ _ _ _ _ _ _ _ _ _ C H
  by_cases n12 : op = 12
  · subst n12; exact stepR_field _ _ _ _ _ _ _ _ _ _ _ _ _ _ _ _ _ _ _ _ C H
  by_cases n13 : op = 13
  · subst n13; exact stepR_con _ _ _ _ _ _ _ _ _ _ _ _ _ _ _ _ _ _ _ _ C H
  by_cases n14 : op = 14
  · subst n14; exact stepR_is _ _ _ _ _ _ _ _ _ _ _ _ _ _ _ _ _ _ _ _ C H
  by_cases n15 : op = 15
  · subst n15; exact stepR_pay _ _ _ _ _ _ _ _ _ _ _ _ _ _ _ _ _ _ _ _ C H
  by_cases n16 : op = 16
  · subst n16; exact stepR_prim _ _ _ _ _ _ _ _ _ _ _ _ _ _ _ _ _ _ _ _ C H
  by_cases n17 : op = 17
  · subst n17; exact stepR_raise _ _ _ _ _ _ _ _ _ _ _ _ _ _ _ _ _ _ _ _ C H
  by_cases n18 : op = 18
  · subst n18; exact stepR_try _ _ _ _ _ _ _ _ _ _ _ _ _ _ _ _ _ _ _ _ C H
  by_cases n19 : op = 19
  · subst n19; exact stepR_end _ _ _ _ _ _ _ _ _ _ _ _ _ _ _ _ _ _ _ _ C H
  by_cases n20 : op = 20
  · subst n20; exact stepR_slide _ _ _ _ _ _ _ _ _ _ _ _ _ _ _ _ _ _ _ _ C H
  by_cases n21 : op = 21
  · subst n21; exact stepR_pop _ _ _ _ _ _ _ _ _ _ _ _ _ _ _ _ _ _ _ _ C H
  by_cases n22 : op = 22
  · subst n22; exact stepR_exn _ _ _ _ _ _ _ _ _ _ _ _ _ _ _ _ _ _ _ _ C H
  by_cases n23 : op = 23
  · subst n23; exact stepR_root _ _ _ _ _ _ _ _ _ _ _ _ _ _ _ _ _ _ _ _ C H
  by_cases n24 : op = 24
  · subst n24; exact stepR_bind _ _ _ _ _ _ _ _ _ _ _ _ _ _ _ _ _ _ _ _ C H
  by_cases n25 : op = 25
  · subst n25; exact stepR_halt _ _ _ _ _ _ _ _ _ _ _ _ _ _ _ _ _ _ _ _ C H
  omega
end Go.Ck
namespace Go.Ck
open Go Go.RowKit Go.Proofs
def cntK (n : Nat) (K : Know) : Nat := (List.range n).countP fun (i : Nat) => (look K (i : Int)).isSome
theorem cntK_succ (n : Nat) (K : Know) : cntK (n + 1) K = cntK n K + (if (look K (n : Int)).isSome then 1 else 0) := by
  unfold cntK
  rw [List.range_succ, List.countP_append]
  simp [List.countP_cons]
theorem look_put {K : Know} {e : Int × St} {i : Int} (h : i ≠ e.1) : look (K ++ [e]) i = look K i := by
  rw [look_append, if_neg (Ne.symm h), Option.or_none]
theorem cntK_put {K : Know} {q : Nat} {s : St} (hk : look K q = none) : ∀ n : Nat, cntK n (K ++ [((q : Int), s)]) = cntK n K + (if q < n then 1 else 0)
  | 0 => by simp [cntK]
  | n + 1 => by
    rw [cntK_succ, cntK_succ, cntK_put hk n]
    by_cases e : q = n
    · subst e
      have h2 : look (K ++ [((q : Int), s)]) (q : Int) = some s := by rw [look_append, hk]; simp
      rw [h2, hk]
      simp
    · rw [look_put (by simp; omega)]
      by_cases h3 : q < n
      · rw [if_pos h3, if_pos (show q < n + 1 by omega)]; omega
      · rw [if_neg h3, if_neg (show ¬ q < n + 1 by omega)]; omega
theorem cntK_to {n : Nat} {K K' : Know} {left l' : List Int} {e : Int × St} (h : cntK n K = K.length) (ht : toP n K left e = some (K', l')) : cntK n K' = K'.length := by
  unfold toP at ht
  split at ht
  · rename_i hr
    split at ht
    · split at ht
      · cases ht; exact h
      · cases ht
    · rename_i hk
      cases ht
      obtain ⟨q, s⟩ := e
      obtain ⟨qn, rfl⟩ : ∃ qn : Nat, q = qn := ⟨q.toNat, by simp only at hr; omega⟩
      rw [cntK_put hk, h, if_pos (by simp only at hr; omega)]
      simp
  · cases ht
theorem cntK_all {n : Nat} : ∀ {es : List (Int × St)} {K K' : Know} {left l' : List Int}, cntK n K = K.length → toAll n K left es = some (K', l') → cntK n K' = K'.length
  | [], K, K', left, l', h, ht => by cases ht; exact h
  | e :: es, K, K', left, l', h, ht => by
    have ht : (match toP n K left e with | none => none | some (K', l') => toAll n K' l' es) = some (K', l') := ht
    cases hp : toP n K left e with
    | none => rw [hp] at ht; cases ht
    | some r' =>
      obtain ⟨K1, l1⟩ := r'
      rw [hp] at ht
      exact cntK_all (cntK_to h hp) ht
def isT : Option Value → Bool
  | some (.bool b) => b
  | _ => false
def cntW (n : Nat) (cs : Array Value) : Nat := (List.range n).countP fun i => isT cs[i * 3]?
def measR (n pb ab : Nat) (w : World) : Nat :=
  if isT (w.cell? ⟨pb, 8, none⟩) then 0 else n + 2 - ((match w.heap[ab]? with | some (.cells cs _ _) => cntW n cs | _ => 0) - (match w.cell? ⟨pb, 7, none⟩ with | some (.slice _ k _) => k | _ => 0))
theorem measR_eq {p : Pr} {F : Fn} {w : World} {K : Know} {lv : Value} {left : List Int} (h : RK p F w K lv left false) (hc : cntK F.code.length K = K.length) : measR F.code.length p.pb p.m w = F.code.length + 2 - (K.length - left.length) := by
  obtain ⟨cs, h1, h2, h3⟩ := h.known
  obtain ⟨a, c, rfl⟩ := h.queue.slice'
  have h7 : w.cell? ⟨p.pb, 7, none⟩ = some (.slice a left.length c) := (h.cells 7).1
  have h8 : w.cell? ⟨p.pb, 8, none⟩ = some (.bool false) := (h.cells 8).1
  have h4 : cntW F.code.length cs = K.length := by
    rw [← hc]
    unfold cntW cntK
    refine List.countP_congr fun i hi => ?_
    have hi' := List.mem_range.1 hi
    cases hl : look K i with
    | none => rw [(h3 i hi').1 hl]; simp [isT]
    | some s => rw [((h3 i hi').2 s hl).1]; simp [isT]
  unfold measR
  rw [h1, h7, h8]
  simp only [h4, isT]
  simp
theorem measR_bad {p : Pr} {F : Fn} {w : World} {K : Know} {lv : Value} {left : List Int} (h : RK p F w K lv left true) : measR F.code.length p.pb p.m w = 0 := by
  have h8 : w.cell? ⟨p.pb, 8, none⟩ = some (.bool true) := (h.cells 8).1
  unfold measR
  rw [h8]; rfl
def LoopR (p : Pr) (F : Fn) (W3 wr : World) (lv : Value) (left : List Int) (bad : Bool) : Prop := ∃ K, RK p F wr K lv left bad ∧ Below p.base W3 wr ∧ ((bad = false ∧ ∃ r, Inv F K left ∧ NumR F.code.length r K left ∧ cntK F.code.length K = K.length) ∨ (bad = true ∧ ¬ Good F))
theorem RK.pop {p : Pr} {F : Fn} {w : World} {K : Know} {a : Option Addr} {cap : Nat} {q : Int} {rest : List Int} (h : RK p F w K (.slice a (rest.length + 1) cap) (rest ++ [q]) false) :
    RK p F (w.setCell ⟨p.pb, 7, none⟩ (.slice a rest.length cap)) K (.slice a rest.length cap) rest false ∧ Kept p.toPl (Value.slice a (rest.length + 1) cap).ownBlock (Value.slice a rest.length cap).ownBlock w (w.setCell ⟨p.pb, 7, none⟩ (.slice a rest.length cap)) := by
  have w6 : ∀ b, b ≠ p.pb → (w.setCell ⟨p.pb, 7, none⟩ (.slice a rest.length cap)).heap[b]? = w.heap[b]? := fun b hb => heap_setCell_other w ⟨p.pb, 7, none⟩ b _ hb
  have hne := h.ne
  have hown : (Value.slice a rest.length cap).ownBlock = (Value.slice a (rest.length + 1) cap).ownBlock := by cases a <;> rfl
  rw [hown]
  refine ⟨⟨by rw [heap_setCell_same w p.pb 7 _ _ _ h.blk]; rfl, h.pbge, h.mge, ?_, ?_, h.n⟩, ⟨rfl, rfl, rfl, by simp, fun b _ h1 _ _ => w6 b h1, fun k hk => .inl hk⟩⟩
  · rw [hown]
    exact h.known.mono (w6 _ (Ne.symm hne.1)) fun g' cur h1 h2 h3 => ⟨(w6 g' (by rintro rfl; rw [h.blk] at h3; cases h3)).trans h3, h2⟩
  · rcases h.queue with ⟨h', h''⟩ | ⟨g', o2, cap', cur, h1, h2, h3, h4, h5, h6⟩
    · simp at h''
    · simp only [List.length_append, List.length_singleton] at h1
      cases h1
      have hg : g' ≠ p.pb := by rintro rfl; rw [h.blk] at h3; cases h3
      simp only [List.length_append, List.length_singleton] at h5 h6
      refine .inr ⟨g', o2, cap, cur, rfl, h2, (w6 g' hg).trans h3, by omega, by omega, ?_⟩
      have h7 := congrArg (List.take rest.length) h6
      rw [List.take_take, Nat.min_eq_left (by omega), List.map_append, List.take_left' (by simp)] at h7
      exact h7
theorem roundR_facts {p : Pr} {F : Fn} {W3 wr : World} {lv : Value} {q : Int} {rest : List Int} {g1 o1 m fc cc : Nat} {ca : Option Addr} (h : LoopR p F W3 wr lv (rest ++ [q]) false) (hlen : F.code.length ≤ 60000) (hins : ∀ x ∈ F.code, InsN x ∧ 1 ≤ x.op ∧ x.op ≤ 25)
    (hfu : p.funs = .slice (some ⟨g1, o1, none⟩) m fc) (hf : F.f < m) (hm : m ≤ 60000) (hrow : ∀ w, Below p.base W3 w → w.cell? ⟨g1, o1 + F.f, none⟩ = some (.slice ca F.code.length cc)) (hcv : ∀ w, Below p.base W3 w → CodeV w (.slice ca F.code.length cc) F.code) :
    ∃ g o cap qn, q = ((qn : Nat) : Int) ∧ lv = .slice (some ⟨g, o, none⟩) (rest.length + 1) cap ∧ rest.length + 1 ≤ cap ∧ rest.length ≤ 60000 ∧ wr.cell? ⟨g, o + rest.length, none⟩ = some (.int .i64 q) ∧ wr.cell? ⟨p.pb, 7, none⟩ = some (.slice (some ⟨g, o, none⟩) (rest.length + 1) cap) ∧ wr.frozen? ⟨p.pb, 7, none⟩ = false ∧ wr.cell? ⟨p.pb, 8, none⟩ = some (.bool false) ∧ p.pb < wr.heap.size ∧ g < wr.heap.size ∧ g ≠ p.pb ∧
      ∀ V, V = (wr.setCell ⟨p.pb, 7, none⟩ (.slice (some ⟨g, o, none⟩) rest.length cap)).drew ∨ V = (wr.setCell ⟨p.pb, 7, none⟩ (.slice (some ⟨g, o, none⟩) rest.length cap)) ∨ V = (wr.setCell ⟨p.pb, 7, none⟩ (.slice (some ⟨g, o, none⟩) rest.length cap)).drew.drew →
        Calls Tryz.prog 31 #[.pointer (some ⟨p.pb, 0, none⟩), .int .i64 q] V fun e w' =>
          e = .returned (.tuple #[]) ∧ Hid (∃ lv' left' bad', LoopR p F W3 w' lv' left' bad' ∧ measR F.code.length p.pb p.m w' < measR F.code.length p.pb p.m wr) := by
  obtain ⟨K, hw, hB, hcase⟩ := h
  obtain ⟨r, hI, hN, hC⟩ : ∃ r, Inv F K (rest ++ [q]) ∧ NumR F.code.length r K (rest ++ [q]) ∧ cntK F.code.length K = K.length := by
    rcases hcase with ⟨_, h⟩ | ⟨h, _⟩
    · exact h
    · cases h
  have hq := hw.queue
  rcases hw.queue with ⟨h', h''⟩ | ⟨g, o, cap, cur, rfl, h2, h3, h4, h5, h6⟩
  · simp at h''
  have hmemq : q ∈ rest ++ [q] := by simp
  obtain ⟨s, hs⟩ := hI.mem q hmemq
  obtain ⟨q0, q1⟩ := hI.dom q s hs
  obtain ⟨qn, rfl⟩ : ∃ qn : Nat, q = qn := ⟨q.toNat, by omega⟩
  have hxx : F.code[qn]? = some (F.code[qn]'(by omega)) := List.getElem?_eq_getElem _
  obtain ⟨x, hx⟩ : ∃ x, F.code[qn]? = some x := ⟨_, hxx⟩
  have hll := hN.len
  have hKn := hN.le
  simp only [List.length_append, List.length_singleton] at h5 hll hw
  have c1 := QV.cell (w := wr) (base := p.base) (g := g) (o := o) (cap := cap) (l := rest ++ [(qn : Int)]) hq (i := rest.length) (t := qn) (by simp)
  have hmem : x ∈ F.code := List.mem_of_getElem? hx
  have hnr : ∀ e ∈ K, 0 ≤ e.2.h ∧ e.2.h ≤ 1 + 256 * (r : Int) ∧ e.2.tr.length ≤ r := hN.ht
  refine ⟨g, o, cap, qn, rfl, by simp, by omega, by omega, c1, (hw.cells 7).1, (hw.cells 7).2, (hw.cells 8).1, hw.pblt, (Array.getElem?_eq_some_iff.1 h3).1, (by rintro rfl; rw [hw.blk] at h3; cases h3), fun V hV => ?_⟩
  obtain ⟨hwp, hkp⟩ := hw.pop
  have hwV : RK p F V K (.slice (some ⟨g, o, none⟩) rest.length cap) rest false := by
    rcases hV with rfl | rfl | rfl
    · exact hwp.grow (Below.refl _ _).drew
    · exact hwp
    · exact hwp.grow (Below.refl _ _).drew.drew
  have hkV : Below p.base wr V := by
    have := Kept.belowR hkp hw
    rcases hV with rfl | rfl | rfl
    · exact this.drew
    · exact this
    · exact this.drew.drew
  have hBV : Below p.base W3 V := hB.trans hkV
  obtain ⟨_, _, cg, co, hca, y0, y1, y2, y3, y4⟩ := (hcv V hBV).at hx
  have hCA : CodeAt p F V qn x g1 o1 m fc cg co cc := ⟨hfu, hf, hm, by rw [hrow V hBV, hca], y0, y1, y2, y3, y4⟩
  have hsb := hnr _ (look_mem hs)
  simp only at hsb
  have hpre : PreR p F V K (.slice (some ⟨g, o, none⟩) rest.length cap) rest s qn x F.code.length :=
    ⟨hwV, hs, by omega, by omega, hI.tri _ s hs, hI.dom, ⟨by omega, fun e he => by have := (hnr e he).2.2; omega⟩, by omega, by omega, hsb.1, by omega, (hins x hmem).1, fun e he => by have := hnr e he; omega⟩
  have hst := step_ok hI (left := rest) (p := (qn : Int)) (fun a ha => by simp at ha; exact ha.symm) (fun a ha => by simp [ha]) hmemq
  have hstX : stepP F K rest qn = stepX F K rest qn x s := by unfold stepP; rw [hs, show ((qn : Int)).toNat = qn by omega, hx]; first | done | rfl
  rw [hstX] at hst
  refine (stepR_ok hCA hpre (hins x hmem).2).mono fun e w' hp => ?_
  obtain ⟨e1, K', l', lv', bad', g1', g2', g3'⟩ := hp
  have hB' := hBV.trans (Kept.belowR g2' hwV)
  rcases g3' with ⟨t1, rfl⟩ | ⟨t1, rfl⟩
  · have hI' : Inv F K' l' := by
      rcases hst with ⟨K2, l2, u1, u2⟩ | ⟨u1, _⟩
      · rw [t1] at u1; cases u1; exact u2
      · rw [t1] at u1; cases u1
    have hNC : NumR F.code.length (r + 1) K' l' ∧ cntK F.code.length K' = K'.length := by
      unfold stepX at t1
      cases hr : stepR F.f F.gb F.gc K qn x s with
      | none => rw [hr] at t1; cases t1
      | some l =>
        rw [hr] at t1
        exact ⟨(hN.pop (by simp)).all (stepR_num (hins x hmem).1 hsb hr) t1, cntK_all hC t1⟩
    have hl' := hNC.1.len
    have hK' := hNC.1.le
    refine ⟨e1, Lib.hid ⟨lv', l', false, ⟨K', g1', hB', .inl ⟨rfl, r + 1, hI', hNC⟩⟩, ?_⟩⟩
    rw [measR_eq g1' hNC.2, measR_eq hw hC]
    simp only [List.length_append, List.length_singleton]
    omega
  · refine ⟨e1, Lib.hid ⟨lv', l', true, ⟨K', g1', hB', .inr ⟨rfl, ?_⟩⟩, ?_⟩⟩
    · rcases hst with ⟨K2, l2, u1, _⟩ | ⟨_, u2⟩
      · rw [t1] at u1; cases u1
      · exact u2
    · rw [measR_bad g1', measR_eq hw hC]
      simp only [List.length_append, List.length_singleton]
      omega
end Go.Ck
namespace Go.Ck
open Go Go.RowKit Go.Proofs
theorem i93 : (Tryz.prog.info? 93).map (fun i => (i.size, i.bytes, i.zero)) = some (3, 40, some (.agg #[.bool false, .int .i64 0, .slice none 0 0])) := by kernel_rfl
def atZ (n : Nat) : Array Value := madeCells #[.bool false, .int .i64 0, .slice none 0 0] (n * 3)
theorem mk89 {n : Nat} (hn : n ≤ 60000) (w : World) : (Instr.makeSlice 89 (.int .i64 (n : Int)) (.int .i64 (n : Int))).run Tryz.prog w = .ok (.slice (some ⟨w.heap.size, 0, none⟩) n n) (w.alloc (.cells (atZ n) 93)) := by
  obtain ⟨i, hi, hi2⟩ := Option.map_eq_some_iff.1 i93
  injection hi2 with h1 h2
  injection h2 with h2 h3
  have := run_makeSlice (P := Tryz.prog) w 89 93 i (.agg #[.bool false, .int .i64 0, .slice none 0 0]) Tryz.underlying89 hi h3 .i64 .i64 (n : Int) (n : Int) (by omega) (by omega) (by rw [h1]; omega) (by rw [h2]; omega) (by omega)
  rw [this, h1]
  rfl
theorem atZ_get {n i : Nat} (hi : i < n) : (atZ n)[i * 3]? = some (.bool false) := by
  unfold atZ madeCells
  rw [Array.getElem?_map, Array.getElem?_range, if_pos (by omega)]
  simp
theorem atZ_size (n : Nat) : (atZ n).size = n * 3 := size_madeCells _ _
theorem nil_or_snoc (l : List Int) : l = [] ∨ ∃ r q, l = r ++ [q] := by
  rcases List.eq_nil_or_concat l with h | ⟨r, q, h⟩
  · exact .inl h
  · exact .inr ⟨r, q, by rw [h, List.concat_eq_append]⟩
theorem runsR_ok {w : World} {m fc f r rc : Nat} {ca ra : Option Addr} {cc : Nat} {code : List Ins} {g1 o1 : Nat} {first many caught : Int} (hf : f < m) (hm : m ≤ 60000)
    (c0 : w.cell? ⟨g1, o1 + f, none⟩ = some (.slice ca code.length cc)) (hcv : CodeV w (.slice ca code.length cc) code) (hlen : code.length ≤ 60000) (hins : ∀ x ∈ code, InsN x ∧ 1 ≤ x.op ∧ x.op ≤ 25) :
    Calls Tryz.prog 18 #[.agg #[.slice (some ⟨g1, o1, none⟩) m fc, .slice ra r rc], .int .i64 f, .agg #[.int .i64 first, .int .i64 many, .int .i64 caught]] w fun e w' => e = .returned (.bool (goodB ⟨f, many, caught, code⟩)) ∧ Below w.heap.size w w' := by
  obtain ⟨W3, hW3⟩ : ∃ W3, W3 = ((((w.alloc (.cells #[.slice (some ⟨g1, o1, none⟩) m fc, .slice ra r rc] 25)).alloc (.cells #[.int .i64 first, .int .i64 many, .int .i64 caught] 74)).alloc (.cells (atZ code.length) 93)).alloc (.cells #[.slice (some ⟨g1, o1, none⟩) m fc, .slice ra r rc, .int .i64 f, .int .i64 first, .int .i64 many, .int .i64 caught, .slice (some ⟨w.heap.size + 1 + 1, 0, none⟩) code.length code.length, .slice none 0 0, .bool false] 91)).drew := ⟨_, rfl⟩
  have hb3 : Below w.heap.size w W3 := by rw [hW3]; exact (((((Below.refl _ _).alloc (Nat.le_refl _) _).alloc (by simp) _).alloc (by simp; omega) _).alloc (by simp; omega) _).drew
  have hs3 : W3.heap.size = w.heap.size + 1 + 1 + 1 + 1 := by rw [hW3]; simp
  obtain ⟨p, hp⟩ : ∃ p : Pr, p = { base := w.heap.size + 1 + 1, pb := w.heap.size + 1 + 1 + 1, m := w.heap.size + 1 + 1, ca := none, cc := 0, op := 0, a := 0, t := ⟨#[]⟩, funs := .slice (some ⟨g1, o1, none⟩) m fc, roots := .slice ra r rc, first := first } := ⟨_, rfl⟩
  obtain ⟨F, hF⟩ : ∃ F, F = (⟨f, many, caught, code⟩ : Fn) := ⟨_, rfl⟩
  have hpb : p.pb = w.heap.size + 1 + 1 + 1 := by rw [hp]
  have hpm : p.m = w.heap.size + 1 + 1 := by rw [hp]
  have hpB : p.base = w.heap.size + 1 + 1 := by rw [hp]
  have hpf : p.funs = .slice (some ⟨g1, o1, none⟩) m fc := by rw [hp]
  have hFc : F.code = code := by rw [hF]
  have hFf : F.f = f := by rw [hF]
  rw [← hF]
  have hwk : RK p F W3 [] (.slice none 0 0) [] false := by
    refine ⟨?_, by omega, by omega, ⟨atZ code.length, ?_, by rw [hFc]; exact atZ_size _, fun i hi => ⟨fun _ => atZ_get (by rw [← hFc]; exact hi), fun s hs => by cases hs⟩⟩, .inl ⟨rfl, rfl⟩, by rw [hFc]; omega⟩
    · rw [hW3, hp, hF]
      have e : (((w.alloc (.cells #[.slice (some ⟨g1, o1, none⟩) m fc, .slice ra r rc] 25)).alloc (.cells #[.int .i64 first, .int .i64 many, .int .i64 caught] 74)).alloc (.cells (atZ code.length) 93)).heap.size = w.heap.size + 1 + 1 + 1 := by simp
      show _[w.heap.size + 1 + 1 + 1]? = _
      rw [← e]
      exact heap_alloc_new (((w.alloc (.cells #[.slice (some ⟨g1, o1, none⟩) m fc, .slice ra r rc] 25)).alloc (.cells #[.int .i64 first, .int .i64 many, .int .i64 caught] 74)).alloc (.cells (atZ code.length) 93)) _
    · rw [hpm, hW3]
      exact (Below.heap_alloc _ _ _ (by simp)).trans (three_new w _ _ _)
  have hbw : ∀ x, Below p.base W3 x → Below w.heap.size w x := fun x hx => hb3.trans (hx.mono (by omega))
  have HBW := Lib.hid hbw
  have gl := cell_lt' c0
  have HRF : Hid (∀ wr lv rest q, LoopR p F W3 wr lv (rest ++ [q]) false → _) := Lib.hid fun wr lv rest q hloop => roundR_facts (p := p) (F := F) (W3 := W3) (wr := wr) (lv := lv) (q := q) (rest := rest) hloop (by rw [hFc]; exact hlen) (by rw [hFc]; exact hins) hpf (by rw [hFf]; exact hf) hm
    (ca := ca) (cc := cc) (fun x hx => by rw [hFf, hFc, (hbw x hx).cell (by exact gl)]; exact c0) (fun x hx => by rw [hFc]; exact hcv.below (hbw x hx))
  rw [hpb, hpm, hFc] at HRF
  have HTO : Hid (∀ X, Below W3.heap.size W3 X → Calls Tryz.prog 30 #[.pointer (some ⟨w.heap.size + 1 + 1 + 1, 0, none⟩), .int .i64 0, .agg #[.bool false, .int .i64 (least f), .slice none 0 0]] X fun e w' => e = .returned (.tuple #[]) ∧ Hid (∃ lv left bad, LoopR p F W3 w' lv left bad)) := Lib.hid fun X hX => by
    have h := toR_spec (b := false) (s := ⟨least F.f, []⟩) (v := .slice none 0 0) (q := 0) (hwk.grow hX) ⟨none, 0, rfl, Nat.le_refl _, fun h => absurd h (Nat.lt_irrefl _)⟩ ⟨by simp, fun e he => (by cases he)⟩ (by simp)
    rw [show ((0 : Int), (⟨least F.f, []⟩ : St)) = init F from rfl] at h
    unfold stA at h
    simp only at h
    rw [hpb, hFf] at h
    refine h.mono fun e w' ⟨h1, K', l', lv', bad', k1, k2, k3⟩ => ⟨h1, Lib.hid ⟨lv', l', bad', K', k1, (hX.mono (by omega)).trans (Kept.belowR k2 (hwk.grow hX)), ?_⟩⟩
    rcases k3 with ⟨t1, rfl⟩ | ⟨t1, rfl, rfl, rfl⟩
    · have hc := cntK_to (n := F.code.length) (K := []) (left := []) (by unfold cntK; simp [look]) t1
      rw [inv0] at t1
      split at t1
      · rename_i hn
        cases t1
        exact .inl ⟨rfl, 0, inv_start hn, num0 hn, hc⟩
      · cases t1
    · rw [inv0] at t1
      split at t1
      · cases t1
      · rename_i hn
        exact .inr ⟨rfl, fun hg => hn (good_pos hg)⟩
  have HCE : Hid (∀ wr lv left bad, LoopR p F W3 wr lv left bad → ∃ a c, lv = .slice a left.length c ∧ wr.cell? ⟨w.heap.size + 1 + 1 + 1, 7, none⟩ = some lv ∧ wr.cell? ⟨w.heap.size + 1 + 1 + 1, 8, none⟩ = some (.bool bad) ∧ w.heap.size + 1 + 1 + 1 < wr.heap.size ∧ Hid (Below w.heap.size w wr) ∧ Hid (bad = false → left = [] → Good F) ∧ Hid (bad = true → ¬ Good F)) := Lib.hid fun wr lv left bad ⟨K, k1, k2, k3⟩ => by
    obtain ⟨a, c, e⟩ := k1.queue.slice'
    have hpl := k1.pblt
    have z7 := (k1.cells 7).1
    have z8 := (k1.cells 8).1
    rw [hpb] at hpl z7 z8
    refine ⟨a, c, e, z7, z8, hpl, Lib.hid (hbw _ k2), Lib.hid fun hb hl => ?_, Lib.hid fun hb => ?_⟩
    · rcases k3 with ⟨_, r, t1, t2⟩ | ⟨t1, _⟩
      · subst hl; exact good_of t1
      · rw [hb] at t1; cases t1
    · rcases k3 with ⟨t1, _⟩ | ⟨_, t1⟩
      · rw [hb] at t1; cases t1
      · exact t1
  have i1 : (f : Int) < (m : Int) := by omega
  have i0 : (0 : Int) ≤ (f : Int) := by omega
  have im : (m : Int) ≤ 60000 := by omega
  have MK := fun w => mk89 hlen w
  clear hp hF hpb hpm hpB hpf hFc hFf hcv hins hwk hbw hb3
  go_enter Tryz.func18, Tryz.ntmps18
  go_wp2
  go_region
  all_goals
    rw [← hW3]
    clear hW3 MK
    go_wp2_with fail
  all_goals
    first
      | (have hl : least f = 1 := by (unfold least; split <;> omega))
      | (have hl : least f = 0 := by (unfold least; split <;> omega))
    rw [hl] at HTO
    refine (HTO.out _ ((Below.refl _ _).alloc (Nat.le_refl _) _)).mono ?_
    rintro e w5 ⟨rfl, HL⟩
    clear HTO
    go_wp2
    go_loopw [] (fun wr => ∃ lv left bad, Hid (LoopR p F W3 wr lv left bad)) (fun wr => measR code.length (w.heap.size + 1 + 1 + 1) (w.heap.size + 1 + 1) wr)
    case atStart => obtain ⟨lv, left, bad, h⟩ := HL.out; exact ⟨lv, left, bad, Lib.hid h⟩
    case round =>
      obtain ⟨lv, left, bad, hL⟩ := hrel
      obtain ⟨a, c, rfl, z7, z8, zl, HB, HG1, HG2⟩ := HCE.out _ _ _ _ hL.out
      rcases nil_or_snoc left with rfl | ⟨rest, q, rfl⟩
      · clear HRF HCE
        cases bad
        · have HG := Lib.hid (goodB_t (HG1.out rfl rfl))
          clear HG1 HG2
          go_wp2
          go_ret
          exact ⟨by rw [HG.out]; first | done | rfl, HB.out⟩
        · have HG := Lib.hid (goodB_f (HG2.out rfl))
          clear HG1 HG2
          go_wp2
          go_ret
          exact ⟨by rw [HG.out]; first | done | rfl, HB.out⟩
      · cases bad
        · obtain ⟨g, o, cap, qn, rfl, e0, hcap, hrl, y1, y2, y3, y4, y5, y6, y7, HV⟩ := HRF.out _ _ _ _ hL.out
          injection e0 with e0 e0' e0''
          subst e0 e0''
          have HV := Lib.hid HV
          clear HRF HCE HG1 HG2 z7 z8
          have u1' : (0 : Int) < (rest.length : Int) + 1 := by omega
          have u2' : IntKind.i64.wrap ((rest.length : Int) + 1 - 1) = (rest.length : Int) := by rw [IntKind.wrap_i64]; omega
          have u3' : (rest.length : Int) < (rest.length : Int) + 1 := by omega
          have u1 : (0 : Int) < ((rest.length + 1 : Nat) : Int) := by omega
          have u2 : IntKind.i64.wrap (((rest.length + 1 : Nat) : Int) - 1) = (rest.length : Int) := by rw [IntKind.wrap_i64]; omega
          have u3 : (rest.length : Int) < ((rest.length + 1 : Nat) : Int) := by omega
          have u4 : (0 : Int) ≤ (rest.length : Int) := by omega
          go_wp2
          go_region
          all_goals
            go_wp2
            go_region
            all_goals
              go_wp2_with fail
              refine (HV.out _ (.inr (.inr rfl))).mono ?_
              rintro e w6 ⟨rfl, HL6⟩
              clear HV
              go_wp2
              go_roundw
              case rel => obtain ⟨lv', left', bad', h6, _⟩ := HL6.out; exact ⟨lv', left', bad', Lib.hid h6⟩
              case measure => obtain ⟨lv', left', bad', _, h6⟩ := HL6.out; exact h6
        · have HG := Lib.hid (goodB_f (HG2.out rfl))
          have hpos : (0 : Int) < ((rest ++ [q]).length : Int) := by simp only [List.length_append, List.length_singleton]; omega
          clear HG1 HG2 HRF HCE
          go_wp2
          go_ret
          exact ⟨by rw [HG.out]; first | done | rfl, HB.out⟩
end Go.Ck
set_option maxHeartbeats 4000000
namespace Go.Ck
open Go Go.RowKit Go.Proofs
theorem opsC_ok {w : World} {kb m fc r rc n B : Nat} {ca ra : Option Addr} {cc g1 o1 f : Nat} {x : Ins}
    (k0 : w.cell? ⟨kb, 0, none⟩ = some (.slice (some ⟨g1, o1, none⟩) m fc)) (k1 : w.cell? ⟨kb, 1, none⟩ = some (.slice ra r rc)) (hf : f < m) (hm : m ≤ 60000) (hn : n ≤ 60000) (hr : r ≤ 60000)
    (c0 : w.cell? ⟨g1, o1 + f, none⟩ = some (.slice ca n cc)) (hT : TakesV B w) (hB : B ≤ w.heap.size) (ha : -9223372036854775808 ≤ x.a ∧ x.a ≤ 9223372036854775807) :
    Calls Tryz.prog 25 #[.pointer (some ⟨kb, 0, none⟩), .int .i64 f, insA x] w fun e w' => e = .returned (.bool (opB m n r x)) ∧ Below w.heap.size w w' := by
  by_cases n1 : x.op = 1
  · exact opsC_1 k0 k1 hf hm hn hr c0 hT hB ha n1
  by_cases n2 : x.op = 2
  · exact opsC_2 k0 k1 hf hm hn hr c0 hT hB ha n2
  by_cases n3 : x.op = 3
  · exact opsC_3 k0 k1 hf hm hn hr c0 hT hB ha n3
  by_cases n4 : x.op = 4
  · exact opsC_4 k0 k1 hf hm hn hr c0 hT hB ha n4
  by_cases n5 : x.op = 5
  · exact opsC_5 k0 k1 hf hm hn hr c0 hT hB ha n5
  by_cases n6 : x.op = 6
  · exact opsC_6 k0 k1 hf hm hn hr c0 hT hB ha n6
  by_cases n7 : x.op = 7
  · exact opsC_7 k0 k1 hf hm hn hr c0 hT hB ha n7
  by_cases n8 : x.op = 8
  · exact opsC_8 k0 k1 hf hm hn hr c0 hT hB ha n8
  by_cases n9 : x.op = 9
  · exact opsC_9 k0 k1 hf hm hn hr c0 hT hB ha n9
  by_cases n10 : x.op = 10
  · exact opsC_10 k0 k1 hf hm hn hr c0 hT hB ha n10
  by_cases n11 : x.op = 11
  · exact opsC_11 k0 k1 hf hm hn hr c0 hT hB ha n11
  by_cases n12 : x.op = 12
  · exact opsC_12 k0 k1 hf hm hn hr c0 hT hB ha n12
  by_cases n13 : x.op = 13
  · exact opsC_13 k0 k1 hf hm hn hr c0 hT hB ha n13
  by_cases n14 : x.op = 14
  · exact opsC_14 k0 k1 hf hm hn hr c0 hT hB ha n14
  by_cases n15 : x.op = 15
  · exact opsC_15 k0 k1 hf hm hn hr c0 hT hB ha n15
  by_cases n16 : x.op = 16
  · exact opsC_16 k0 k1 hf hm hn hr c0 hT hB ha n16
  by_cases n17 : x.op = 17
  · exact opsC_17 k0 k1 hf hm hn hr c0 hT hB ha n17
  by_cases n18 : x.op = 18
  · exact opsC_18 k0 k1 hf hm hn hr c0 hT hB ha n18
  by_cases n19 : x.op = 19
  · exact opsC_19 k0 k1 hf hm hn hr c0 hT hB ha n19
  by_cases n20 : x.op = 20
  · exact opsC_20 k0 k1 hf hm hn hr c0 hT hB ha n20
  by_cases n21 : x.op = 21
  · exact opsC_21 k0 k1 hf hm hn hr c0 hT hB ha n21
  by_cases n22 : x.op = 22
  · exact opsC_22 k0 k1 hf hm hn hr c0 hT hB ha n22
  by_cases n23 : x.op = 23
  · exact opsC_23 k0 k1 hf hm hn hr c0 hT hB ha n23
  by_cases n24 : x.op = 24
  · exact opsC_24 k0 k1 hf hm hn hr c0 hT hB ha n24
  by_cases n25 : x.op = 25
  · exact opsC_25 k0 k1 hf hm hn hr c0 hT hB ha n25
  exact opsC_0 k0 k1 hf hm hn hr c0 hT hB ha ⟨n1, n2, n3, n4, n5, n6, n7, n8, n9, n10, n11, n12, n13, n14, n15, n16, n17, n18, n19, n20, n21, n22, n23, n24, n25⟩
theorem opsR_ok {w : World} {m fc r rc n : Nat} {ca ra : Option Addr} {cc g1 o1 f : Nat} {x : Ins}
    (hf : f < m) (hm : m ≤ 60000) (hn : n ≤ 60000) (hr : r ≤ 60000)
    (c0 : w.cell? ⟨g1, o1 + f, none⟩ = some (.slice ca n cc)) (ha : -9223372036854775808 ≤ x.a ∧ x.a ≤ 9223372036854775807) (hb : -9223372036854775808 ≤ x.b ∧ x.b ≤ 9223372036854775807) :
    Calls Tryz.prog 16 #[.agg #[.slice (some ⟨g1, o1, none⟩) m fc, .slice ra r rc], .int .i64 f, insA x] w fun e w' => e = .returned (.bool (opB m n r x)) ∧ Below w.heap.size w w' := by
  by_cases n1 : x.op = 1
  · exact opsR_1 hf hm hn hr c0 ha hb n1
  by_cases n2 : x.op = 2
  · exact opsR_2 hf hm hn hr c0 ha hb n2
  by_cases n3 : x.op = 3
  · exact opsR_3 hf hm hn hr c0 ha hb n3
  by_cases n4 : x.op = 4
  · exact opsR_4 hf hm hn hr c0 ha hb n4
  by_cases n5 : x.op = 5
  · exact opsR_5 hf hm hn hr c0 ha hb n5
  by_cases n6 : x.op = 6
  · exact opsR_6 hf hm hn hr c0 ha hb n6
  by_cases n7 : x.op = 7
  · exact opsR_7 hf hm hn hr c0 ha hb n7
  by_cases n8 : x.op = 8
  · exact opsR_8 hf hm hn hr c0 ha hb n8
  by_cases n9 : x.op = 9
  · exact opsR_9 hf hm hn hr c0 ha hb n9
  by_cases n10 : x.op = 10
  · exact opsR_10 hf hm hn hr c0 ha hb n10
  by_cases n11 : x.op = 11
  · exact opsR_11 hf hm hn hr c0 ha hb n11
  by_cases n12 : x.op = 12
  · exact opsR_12 hf hm hn hr c0 ha hb n12
  by_cases n13 : x.op = 13
  · exact opsR_13 hf hm hn hr c0 ha hb n13
  by_cases n14 : x.op = 14
  · exact opsR_14 hf hm hn hr c0 ha hb n14
  by_cases n15 : x.op = 15
  · exact opsR_15 hf hm hn hr c0 ha hb n15
  by_cases n16 : x.op = 16
  · exact opsR_16 hf hm hn hr c0 ha hb n16
  by_cases n17 : x.op = 17
  · exact opsR_17 hf hm hn hr c0 ha hb n17
  by_cases n18 : x.op = 18
  · exact opsR_18 hf hm hn hr c0 ha hb n18
  by_cases n19 : x.op = 19
  · exact opsR_19 hf hm hn hr c0 ha hb n19
  by_cases n20 : x.op = 20
  · exact opsR_20 hf hm hn hr c0 ha hb n20
  by_cases n21 : x.op = 21
  · exact opsR_21 hf hm hn hr c0 ha hb n21
  by_cases n22 : x.op = 22
  · exact opsR_22 hf hm hn hr c0 ha hb n22
  by_cases n23 : x.op = 23
  · exact opsR_23 hf hm hn hr c0 ha hb n23
  by_cases n24 : x.op = 24
  · exact opsR_24 hf hm hn hr c0 ha hb n24
  by_cases n25 : x.op = 25
  · exact opsR_25 hf hm hn hr c0 ha hb n25
  exact opsR_0 hf hm hn hr c0 ha hb ⟨n1, n2, n3, n4, n5, n6, n7, n8, n9, n10, n11, n12, n13, n14, n15, n16, n17, n18, n19, n20, n21, n22, n23, n24, n25⟩
end Go.Ck
namespace Go.Ck
open Go Go.RowKit Go.Proofs
abbrev Rts := List (ByteArray × ByteArray)
def RootsV (W : World) (v : Value) (rs : Rts) : Prop :=
  ∃ a c, v = .slice a rs.length c ∧ rs.length ≤ c ∧ (∀ (i : Nat) x, rs[i]? = some x → ∃ g o, a = some ⟨g, o, none⟩ ∧ W.cell? ⟨g, o + i * 2, none⟩ = some (.string x.1) ∧ W.cell? ⟨g, o + i * 2 + 1, none⟩ = some (.string x.2))
theorem RootsV.below {W W' : World} {v : Value} {rs : Rts} (h : RootsV W v rs) (hb : Below W.heap.size W W') : RootsV W' v rs := by
  obtain ⟨a, c, h1, h2, h3⟩ := h
  refine ⟨a, c, h1, h2, fun i x hx => ?_⟩
  obtain ⟨g, o, k1, k2, k3⟩ := h3 i x hx
  exact ⟨g, o, k1, by rw [hb.cell (by exact cell_lt' k2)]; exact k2, by rw [hb.cell (by exact cell_lt' k2)]; exact k3⟩
theorem RootsV.take {W : World} {a : Option Addr} {n c k : Nat} {rs : Rts} (h : RootsV W (.slice a n c) rs) (hk : k ≤ rs.length) : RootsV W (.slice a k c) (rs.take k) := by
  obtain ⟨a', c', h1, h2, h3⟩ := h
  cases h1
  refine ⟨a, c, by simp [Nat.min_eq_left hk], by simp; omega, fun i x hx => ?_⟩
  rw [List.getElem?_take] at hx
  split at hx
  · exact h3 i x hx
  · cases hx
def Named (rs : Rts) (name : ByteArray) : Prop := ∃ x ∈ rs, x.1 = name
theorem index_ok {w : World} {v : Value} {rs : Rts} {pb : Nat} {name : ByteArray} (h : RootsV w v rs) (hl : rs.length ≤ 60000) (hp : w.cell? ⟨pb, 0, none⟩ = some (.string name)) :
    Calls Tryz.prog 80 #[v, .func (.func 45) #[] #[.pointer (some ⟨pb, 0, none⟩)]] w fun e w' => (∃ k : Int, e = .returned (.int .i64 k) ∧ Hid (0 ≤ k ↔ Named rs name)) ∧ Below w.heap.size w w' := by
  obtain ⟨a, c, rfl, hc, hr⟩ := id h
  have HR := Lib.hid h
  have HP := Lib.hid hp
  clear h hr hc hp
  go_enter Tryz.func80, Tryz.ntmps80
  go_wp2
  go_loopw [5, 8] (fun _ j wr => ∃ r : Nat, r ≤ rs.length ∧ j = .int .i64 r ∧ Hid (∀ x ∈ rs.take r, x.1 ≠ name) ∧ Hid (Below w.heap.size w wr)) (fun _ j _ => rs.length - (intOf j).toNat)
  case atStart => exact ⟨0, Nat.zero_le _, rfl, Lib.hid (by simp), Lib.hid (by (repeat' first | exact Below.refl _ _ | refine Below.drew ?_ | refine Below.alloc ?_ (by first | omega | (simp; done) | (simp; omega)) _ | refine Below.setCell ?_ (by first | omega | (simp; done) | (simp; omega)) _))⟩
  case round =>
    obtain ⟨r, hr, rfl, hE, hO⟩ := hrel
    by_cases hlt : r < rs.length
    · obtain ⟨x, hx⟩ : ∃ x, rs[r]? = some x := ⟨rs[r], List.getElem?_eq_getElem hlt⟩
      obtain ⟨a', c', h1, h2, h3⟩ := HR.out.below hO.out
      cases h1
      obtain ⟨g, o, rfl, k1, k2⟩ := h3 r x hx
      have hp : wr.cell? ⟨pb, 0, none⟩ = some (.string name) := by rw [hO.out.cell (by exact cell_lt' HP.out)]; exact HP.out
      have i1 : (r : Int) < (rs.length : Int) := by omega
      have i0 : (0 : Int) ≤ (r : Int) := by omega
      have hb32 : (rs.length : Int) ≤ 100000 := by omega
      have HX := Lib.hid hx
      obtain ⟨n, s⟩ := x
      simp only at k1 k2
      clear hx h2 h3
      have hpa : (wr.alloc (.cells #[.string n, .string s] 66)).cell? ⟨pb, 0, none⟩ = some (.string name) := by rw [((Below.refl wr.heap.size wr).alloc (Nat.le_refl _) _).cell (by exact cell_lt' hp)]; exact hp
      have hpd : (wr.alloc (.cells #[.string n, .string s] 66)).drew.cell? ⟨pb, 0, none⟩ = some (.string name) := hpa
      by_cases hn : n = name
      · subst hn
        go_wp2
        go_ret
        exact ⟨⟨r, rfl, Lib.hid ⟨fun _ => ⟨_, List.mem_of_getElem? HX.out, rfl⟩, fun _ => by omega⟩⟩, hO.out.trans ((Below.refl _ _).alloc hO.out.size _)⟩
      · have e0 : (n.toList == name.toList) = false := by rw [Lib.toList_data name]; exact str_ne hn
        have HO2 := Lib.hid (hO.out.alloc hO.out.size (.cells #[.string n, .string s] 66))
        have HE2 : Hid (∀ x ∈ rs.take (r + 1), x.1 ≠ name) := Lib.hid (by
          intro x hx
          rw [List.take_add_one, HX.out] at hx
          rcases List.mem_append.1 hx with h | h
          · exact hE.out x h
          · simp at h; subst h; exact hn)
        clear hO hE
        go_wp2
        go_roundw
        case rel => exact ⟨r + 1, by omega, by simp, HE2, HO2⟩
        case measure => simp [intOf]; omega
    · have i1 : ¬ (r : Int) < (rs.length : Int) := by omega
      go_wp2
      go_ret
      refine ⟨⟨-1, rfl, Lib.hid ⟨fun h => by omega, fun ⟨x, hx, h2⟩ => absurd h2 (hE.out x (by rw [List.take_of_length_le (by omega)]; exact hx))⟩⟩, hO.out⟩
end Go.Ck
namespace Go.Ck
open Go Go.RowKit Go.Proofs
def okR (rs : Rts) (i : Nat) (x : ByteArray × ByteArray) : Prop := 1 ≤ x.1.size ∧ x.1.size ≤ 32 ∧ 1 ≤ x.2.size ∧ x.2.size ≤ 200 ∧ ¬ Named (rs.take i) x.1
def rootP (rs : Rts) : Prop := rs.length ≤ 24 ∧ ∀ (i : Nat) x, rs[i]? = some x → okR rs i x
open Classical in
noncomputable def rootB (rs : Rts) : Bool := decide (rootP rs)
theorem rootB_t {rs : Rts} (h : rootP rs) : rootB rs = true := by unfold rootB; simp [h]
theorem rootB_f {rs : Rts} (h : ¬ rootP rs) : rootB rs = false := by unfold rootB; simp [h]
theorem emp_t {s : ByteArray} (h : s.size = 0) : s.toList.isEmpty = true := by rw [str0 h, Lib.toList_data]; rfl
theorem contains_ok {w : World} {v : Value} {rs : Rts} {pb : Nat} {name : ByteArray} (h : RootsV w v rs) (hl : rs.length ≤ 60000) (hp : w.cell? ⟨pb, 0, none⟩ = some (.string name)) :
    Calls Tryz.prog 44 #[v, .func (.func 45) #[] #[.pointer (some ⟨pb, 0, none⟩)]] w fun e w' => (∃ b : Bool, e = .returned (.bool b) ∧ Hid (b = true ↔ Named rs name)) ∧ Below w.heap.size w w' := by
  have HI := Lib.hid (index_ok h hl hp)
  clear h hp
  go_enter Tryz.func44, Tryz.ntmps44
  go_wp2_with fail
  refine HI.out.mono ?_
  rintro e w5 ⟨⟨k, rfl, hk⟩, hb⟩
  go_wp2
  go_ret
  exact ⟨⟨decide (0 ≤ k), rfl, Lib.hid (by simpa using hk.out)⟩, hb⟩
theorem rootedC_ok {w : World} {v : Value} {rs : Rts} {kb : Nat} (h : RootsV w v rs) (hl : rs.length ≤ 60000) (hp : w.cell? ⟨kb, 1, none⟩ = some v) :
    Calls Tryz.prog 24 #[.pointer (some ⟨kb, 0, none⟩)] w fun e w' => e = .returned (.bool (rootB rs)) ∧ Below w.heap.size w w' := by
  obtain ⟨a, c, rfl, hc, hr⟩ := id h
  have HR := Lib.hid h
  have HP := Lib.hid hp
  have HC := Lib.hid hc
  clear h hr hc
  go_enter Tryz.func24, Tryz.ntmps24
  go_wp2
  clear hp
  go_loopw [3, 4, 5, 12] (fun _ _ _ j wr => ∃ r : Nat, r ≤ rs.length ∧ j = .int .i64 r ∧ Hid (∀ (i : Nat) x, i < r → rs[i]? = some x → okR rs i x) ∧ Hid (Below w.heap.size w wr)) (fun _ _ _ j _ => rs.length - (intOf j).toNat)
  case atStart => exact ⟨0, Nat.zero_le _, rfl, Lib.hid (by simp), Lib.hid (by (repeat' first | exact Below.refl _ _ | refine Below.drew ?_ | refine Below.alloc ?_ (by first | omega | (simp; done) | (simp; omega)) _ | refine Below.setCell ?_ (by first | omega | (simp; done) | (simp; omega)) _))⟩
  case round =>
    obtain ⟨r, hr, rfl, hE, hO⟩ := hrel
    have hp : wr.cell? ⟨kb, 1, none⟩ = some (.slice a rs.length c) := by rw [hO.out.cell (by exact cell_lt' HP.out)]; exact HP.out
    by_cases hlt : r < rs.length
    · obtain ⟨x, hx⟩ : ∃ x, rs[r]? = some x := ⟨rs[r], List.getElem?_eq_getElem hlt⟩
      obtain ⟨a', c', h1, h2, h3⟩ := HR.out.below hO.out
      cases h1
      obtain ⟨g, o, rfl, k1, k2⟩ := h3 r x hx
      have i1 : (r : Int) < (rs.length : Int) := by omega
      have i0 : (0 : Int) ≤ (r : Int) := by omega
      have hb32 : (rs.length : Int) ≤ 100000 := by omega
      have HX := Lib.hid hx
      obtain ⟨n, s⟩ := x
      simp only at k1 k2
      have HW : Hid (Below w.heap.size w (wr.alloc (.cells #[.string n, .string s] 66))) := Lib.hid (hO.out.alloc hO.out.size _)
      have hpa : (wr.alloc (.cells #[.string n, .string s] 66)).cell? ⟨kb, 1, none⟩ = some (.slice (some ⟨g, o, none⟩) rs.length c) := by rw [((Below.refl wr.heap.size wr).alloc (Nat.le_refl _) _).cell (by exact cell_lt' hp)]; exact hp
      have HI := Lib.hid (contains_ok (pb := wr.heap.size) (name := n) ((HR.out.below HW.out).take (k := r) (by omega)) (by simp; omega) (by simp [go_sem]))
      have i2 : (r : Int) ≤ (c : Int) := by have := HC.out; omega
      clear hx h2 h3
      go_wp2_with fail
      refine HI.out.mono ?_
      rintro e w5 ⟨⟨b, rfl, hk⟩, hb⟩
      have q0 := hb.cell (p := ⟨wr.heap.size, 0, none⟩) (by simp)
      have q1 := hb.cell (p := ⟨wr.heap.size, 1, none⟩) (by simp)
      simp [go_sem] at q0 q1
      have HB5 : Hid (Below w.heap.size w w5) := Lib.hid (HW.out.trans (hb.mono HW.out.size))
      clear hb HI hpa k1 k2 hp i2
      cases b with
      | true =>
        have HK := Lib.hid (hk.out.1 rfl)
        clear hk
        go_wp2
        go_ret
        exact ⟨by rw [rootB_f (fun h => (h.2 r _ HX.out).2.2.2.2 HK.out)]; rfl, HB5.out⟩
      | false =>
        have HN : Hid (¬ Named (rs.take r) n) := Lib.hid (fun h => by have := hk.out.2 h; cases this)
        by_cases z1 : n.size = 0
        · have e1 := emp_t z1
          go_wp2
          go_ret
          exact ⟨by rw [rootB_f (fun h => by have := (h.2 r _ HX.out).1; simp at this; omega)]; rfl, HB5.out⟩
        have e1 := str_ne0 z1
        by_cases z2 : s.size = 0
        · have e2 := emp_t z2
          go_wp2
          go_ret
          exact ⟨by rw [rootB_f (fun h => by have := (h.2 r _ HX.out).2.2.1; simp at this; omega)]; rfl, HB5.out⟩
        have e2 := str_ne0 z2
        by_cases z3 : n.size ≤ 32
        · have z3' : ¬ (32 : Int) < n.size := by omega
          by_cases z4 : s.size ≤ 200
          · have z4' : ¬ (200 : Int) < s.size := by omega
            have HO : Hid (okR rs r (n, s)) := Lib.hid ⟨by simp; omega, z3, by simp; omega, z4, HN.out⟩
            have HE2 : Hid (∀ (i : Nat) x, i < r + 1 → rs[i]? = some x → okR rs i x) := Lib.hid (by
              intro i x hi hx
              by_cases hir : i = r
              · subst hir; rw [HX.out] at hx; cases hx; exact HO.out
              · exact hE.out i x (by omega) hx)
            clear hE hk
            go_wp2
            go_roundw
            case rel => exact ⟨r + 1, by omega, by simp, HE2, HB5⟩
            case measure => simp [intOf]; omega
          · have z4' : (200 : Int) < s.size := by omega
            go_wp2
            go_ret
            exact ⟨by rw [rootB_f (fun h => by have := (h.2 r _ HX.out).2.2.2.1; simp at this; omega)]; rfl, HB5.out⟩
        · have z3' : (32 : Int) < n.size := by omega
          go_wp2
          go_ret
          exact ⟨by rw [rootB_f (fun h => by have := (h.2 r _ HX.out).2.1; simp at this; omega)]; rfl, HB5.out⟩
    · have i1 : ¬ (r : Int) < (rs.length : Int) := by omega
      have i2 : (rs.length : Int) ≤ 60000 := by omega
      go_wp2
      go_ret
      refine ⟨?_, hO.out⟩
      show Ending.returned (Value.bool _) = Ending.returned (Value.bool _)
      refine congrArg (fun z => Ending.returned (Value.bool z)) ?_
      refine decide_eq_decide.2 ⟨fun h => ⟨by omega, fun i x hx => hE.out i x (by have := (List.getElem?_eq_some_iff.1 hx).1; omega) hx⟩, fun h => by have := h.1; omega⟩
end Go.Ck
namespace Go.Ck
open Go Go.RowKit Go.Proofs
theorem rootedR_ok {w : World} {v : Value} {rs : Rts} (h : RootsV w v rs) (hl : rs.length ≤ 60000) :
    Calls Tryz.prog 15 #[v] w fun e w' => e = .returned (.bool (rootB rs)) ∧ Below w.heap.size w w' := by
  obtain ⟨a, c, rfl, hc, hr⟩ := id h
  have HR := Lib.hid h
  clear h hr hc
  by_cases hm : rs.length ≤ 24
  · have hm' : ¬ (24 : Int) < (rs.length : Int) := by omega
    go_enter Tryz.func15, Tryz.ntmps15
    go_wp2
    go_loopw [3, 4] (fun j _ wr => ∃ r : Nat, r ≤ rs.length ∧ j = .int .i64 r ∧ Hid (∀ (i : Nat) x, i < r → rs[i]? = some x → okR rs i x) ∧ Hid (Below w.heap.size w wr)) (fun j _ _ => rs.length - (intOf j).toNat)
    case atStart => exact ⟨0, Nat.zero_le _, rfl, Lib.hid (by simp), Lib.hid (by (repeat' first | exact Below.refl _ _ | refine Below.drew ?_ | refine Below.alloc ?_ (by first | omega | (simp; done) | (simp; omega)) _ | refine Below.setCell ?_ (by first | omega | (simp; done) | (simp; omega)) _))⟩
    case round =>
      obtain ⟨r, hr, rfl, hE, hO⟩ := hrel
      by_cases hlt : r < rs.length
      · obtain ⟨x, hx⟩ : ∃ x, rs[r]? = some x := ⟨rs[r], List.getElem?_eq_getElem hlt⟩
        obtain ⟨a', c', h1, h2, h3⟩ := HR.out.below hO.out
        cases h1
        obtain ⟨g, o, rfl, k1, k2⟩ := h3 r x hx
        have i1 : (r : Int) < (rs.length : Int) := by omega
        have i0 : (0 : Int) ≤ (r : Int) := by omega
        have HX := Lib.hid hx
        obtain ⟨n, s⟩ := x
        simp only at k1 k2
        clear hx h2 h3
        by_cases z1 : n.size = 0
        · have e1 : (n.size : Int) < 1 := by omega
          go_wp2
          go_ret
          exact ⟨by rw [rootB_f (fun h => by have := (h.2 r _ HX.out).1; simp at this; omega)]; rfl, hO.out⟩
        have e1 : ¬ (n.size : Int) < 1 := by omega
        by_cases z3 : n.size ≤ 32
        · have e3 : ¬ (32 : Int) < (n.size : Int) := by omega
          by_cases z2 : s.size = 0
          · have e2 : (s.size : Int) < 1 := by omega
            go_wp2
            go_ret
            exact ⟨by rw [rootB_f (fun h => by have := (h.2 r _ HX.out).2.2.1; simp at this; omega)]; rfl, hO.out⟩
          have e2 : ¬ (s.size : Int) < 1 := by omega
          by_cases z4 : s.size ≤ 200
          · have e4 : ¬ (200 : Int) < (s.size : Int) := by omega
            go_wp2
            go_loopw [4] (fun j wr => ∃ k : Nat, k ≤ r ∧ j = .int .i64 k ∧ Hid (∀ x ∈ rs.take k, x.1 ≠ n) ∧ Hid (Below w.heap.size w wr)) (fun j _ => r - (intOf j).toNat)
            case atStart => exact ⟨0, Nat.zero_le _, rfl, Lib.hid (by simp), hO⟩
            case round =>
              obtain ⟨k, hk, rfl, hM, hP⟩ := hrel
              by_cases hkr : k < r
              · obtain ⟨y, hy⟩ : ∃ y, rs[k]? = some y := ⟨rs[k], List.getElem?_eq_getElem (by omega)⟩
                obtain ⟨a', c', h1, h2, h3⟩ := HR.out.below hP.out
                cases h1
                obtain ⟨g', o', hgg, q1, q2⟩ := h3 k y hy
                cases hgg
                obtain ⟨_, _, hgg, p1, p2⟩ := h3 r _ HX.out
                cases hgg
                have j1 : (k : Int) < (r : Int) := by omega
                have j0 : (0 : Int) ≤ (k : Int) := by omega
                have j2 : (k : Int) < (rs.length : Int) := by omega
                have q1d := q1
                have p1d := p1
                rw [← World.cell?_drew] at q1d p1d
                have HY := Lib.hid hy
                obtain ⟨ny, sy⟩ := y
                simp only at q1 q2 p1 p2 q1d p1d
                clear h2 h3 hy
                by_cases hny : ny = n
                · subst hny
                  go_wp2
                  go_region_held3 (fun z => z = wr.drew) ((first | rfl | assumption)) (fail)
                  go_wp2
                  go_ret
                  exact ⟨by rw [rootB_f (fun h => (h.2 r _ HX.out).2.2.2.2 ⟨(ny, sy), List.mem_of_getElem? (i := k) (by rw [List.getElem?_take, if_pos hkr]; exact HY.out), rfl⟩)]; rfl, hP.out.drew⟩
                · have e0 : (ny.toList == n.toList) = false := by rw [Lib.toList_data n]; exact str_ne hny
                  have HM2 : Hid (∀ x ∈ rs.take (k + 1), x.1 ≠ n) := Lib.hid (by
                    intro x hx
                    rw [List.take_add_one, HY.out] at hx
                    rcases List.mem_append.1 hx with h | h
                    · exact hM.out x h
                    · simp at h; subst h; exact hny)
                  have HP2 := Lib.hid hP.out.drew
                  clear hM hP
                  go_wp2
                  go_region_held3 (fun z => z = wr.drew) ((first | rfl | assumption)) (fail)
                  go_wp2
                  go_roundw
                  case rel => exact ⟨k + 1, by omega, by simp, HM2, HP2⟩
                  case measure => simp [intOf]; omega
              · have j1 : ¬ (k : Int) < (r : Int) := by omega
                have HO2 : Hid (okR rs r (n, s)) := Lib.hid ⟨by simp; omega, z3, by simp; omega, z4, fun ⟨x, hx, h2⟩ => hM.out x (by rw [show k = r from by omega]; exact hx) h2⟩
                have HE2 : Hid (∀ (i : Nat) x, i < r + 1 → rs[i]? = some x → okR rs i x) := Lib.hid (by
                  intro i x hi hx
                  by_cases hir : i = r
                  · subst hir; rw [HX.out] at hx; cases hx; exact HO2.out
                  · exact hE.out i x (by omega) hx)
                clear hE hM
                go_wp2
                go_roundw
                case rel => exact ⟨r + 1, by omega, by simp, HE2, hP⟩
                case measure => simp [intOf]; omega
          · have e4 : (200 : Int) < (s.size : Int) := by omega
            go_wp2
            go_ret
            exact ⟨by rw [rootB_f (fun h => by have := (h.2 r _ HX.out).2.2.2.1; simp at this; omega)]; rfl, hO.out⟩
        · have e3 : (32 : Int) < (n.size : Int) := by omega
          go_wp2
          go_ret
          exact ⟨by rw [rootB_f (fun h => by have := (h.2 r _ HX.out).2.1; simp at this; omega)]; rfl, hO.out⟩
      · have i1 : ¬ (r : Int) < (rs.length : Int) := by omega
        go_wp2
        go_ret
        exact ⟨by rw [rootB_t ⟨hm, fun i x hx => hE.out i x (by have := (List.getElem?_eq_some_iff.1 hx).1; omega) hx⟩]; rfl, hO.out⟩
  · have hm' : (24 : Int) < (rs.length : Int) := by omega
    go_enter Tryz.func15, Tryz.ntmps15
    go_wp2
    go_ret
    exact ⟨by rw [rootB_f (fun h => hm h.1)]; rfl, Below.refl _ _⟩
end Go.Ck
set_option maxHeartbeats 1600000
namespace Go.Ck
open Go Go.RowKit Go.Proofs
abbrev Gs := List (Option Ins)
def putG (x : Ins) (A : Nat) (L : Gs) : Nat → Option Gs
  | 0 => some L
  | r + 1 => match putG x A L r with
    | none => none
    | some L' => match L'[A + r]? with
      | some none => some (L'.set (A + r) (some x))
      | _ => none
def grpX (L : Gs) (x : Ins) : Option Gs := if x.op = 6 then putG x x.a.toNat L x.b.toNat else some L
def grpI (l : List Ins) (o : Option Gs) : Option Gs := l.foldl (fun o x => o.bind fun L => grpX L x) o
def grpF (l : List (List Ins)) (o : Option Gs) : Option Gs := l.foldl (fun o c => grpI c o) o
theorem putG_none {x : Ins} {A : Nat} {L : Gs} {r : Nat} (h : putG x A L r = none) : ∀ k, putG x A L (r + k) = none
  | 0 => h
  | k + 1 => by show (match putG x A L (r + k) with | none => none | some L' => _) = none; rw [putG_none h k]
theorem putG_len {x : Ins} {A : Nat} {L : Gs} : ∀ {r : Nat} {L' : Gs}, putG x A L r = some L' → L'.length = L.length
  | 0, L', h => by cases h; rfl
  | r + 1, L', h => by
    have h : (match putG x A L r with | none => none | some L' => match L'[A + r]? with | some none => some (L'.set (A + r) (some x)) | _ => none) = some L' := h
    cases hp : putG x A L r with
    | none => rw [hp] at h; cases h
    | some L1 =>
      rw [hp] at h
      simp only at h
      split at h
      · cases h; rw [List.length_set]; exact putG_len hp
      · cases h
theorem grpX_len {L L' : Gs} {x : Ins} (h : grpX L x = some L') : L'.length = L.length := by
  unfold grpX at h
  split at h
  · exact putG_len h
  · cases h; rfl
theorem grpI_none : ∀ l : List Ins, grpI l none = none
  | [] => rfl
  | x :: l => grpI_none l
theorem grpF_none : ∀ l : List (List Ins), grpF l none = none
  | [] => rfl
  | c :: l => by show grpF l (grpI c none) = none; rw [grpI_none, grpF_none l]
theorem grpI_snoc (l : List Ins) (x : Ins) (o : Option Gs) : grpI (l ++ [x]) o = (grpI l o).bind fun L => grpX L x := by
  unfold grpI; rw [List.foldl_append]; rfl
theorem grpI_append (l l' : List Ins) (o : Option Gs) : grpI (l ++ l') o = grpI l' (grpI l o) := by unfold grpI; rw [List.foldl_append]
theorem grpF_snoc (l : List (List Ins)) (c : List Ins) (o : Option Gs) : grpF (l ++ [c]) o = grpI c (grpF l o) := by unfold grpF; rw [List.foldl_append]; rfl
theorem grpF_append (l l' : List (List Ins)) (o : Option Gs) : grpF (l ++ l') o = grpF l' (grpF l o) := by unfold grpF; rw [List.foldl_append]
theorem grpI_len : ∀ {l : List Ins} {L L' : Gs}, grpI l (some L) = some L' → L'.length = L.length
  | [], L, L', h => by cases h; rfl
  | x :: l, L, L', h => by
    have h : grpI l (grpX L x) = some L' := h
    cases hx : grpX L x with
    | none => rw [hx, grpI_none] at h; cases h
    | some L1 => rw [hx] at h; rw [grpI_len h, grpX_len hx]
theorem grpF_len : ∀ {l : List (List Ins)} {L L' : Gs}, grpF l (some L) = some L' → L'.length = L.length
  | [], L, L', h => by cases h; rfl
  | c :: l, L, L', h => by
    have h : grpF l (grpI c (some L)) = some L' := h
    cases hx : grpI c (some L) with
    | none => rw [hx, grpF_none] at h; cases h
    | some L1 => rw [hx] at h; rw [grpF_len h, grpI_len hx]
theorem grpI_take {l : List Ins} {o : Option Gs} {i : Nat} (h : grpI (l.take i) o = none) : grpI l o = none := by
  have : grpI (l.take i ++ l.drop i) o = none := by rw [grpI_append, h, grpI_none]
  rwa [List.take_append_drop] at this
theorem grpF_take {l : List (List Ins)} {o : Option Gs} {i : Nat} (h : grpF (l.take i) o = none) : grpF l o = none := by
  have : grpF (l.take i ++ l.drop i) o = none := by rw [grpF_append, h, grpF_none]
  rwa [List.take_append_drop] at this
theorem take_snoc {α : Type} {l : List α} {i : Nat} {x : α} (h : l[i]? = some x) : l.take (i + 1) = l.take i ++ [x] := by rw [List.take_add_one, h]; rfl
theorem opP_ins {m n r : Int} {x : Ins} (h : opP m n r x) (hm : m ≤ 256) (hn : n ≤ 256) : InsN x ∧ 1 ≤ x.op ∧ x.op ≤ 25 := by
  unfold opP at h
  unfold InsN
  by_cases o1 : x.op = 1
  · rw [if_pos o1] at h; omega
  rw [if_neg o1] at h
  by_cases o2 : x.op = 2
  · rw [if_pos o2] at h; omega
  rw [if_neg o2] at h
  by_cases o6 : x.op = 6
  · rw [if_pos o6] at h; omega
  rw [if_neg o6] at h
  by_cases o7 : x.op = 7 ∨ x.op = 8 ∨ x.op = 15 ∨ x.op = 17 ∨ x.op = 19 ∨ x.op = 21 ∨ x.op = 25
  · rw [if_pos o7] at h; omega
  rw [if_neg o7] at h
  by_cases o9 : x.op = 9 ∨ x.op = 10 ∨ x.op = 18
  · rw [if_pos o9] at h; omega
  rw [if_neg o9] at h
  by_cases o11 : x.op = 11
  · rw [if_pos o11] at h; omega
  rw [if_neg o11] at h
  by_cases o13 : x.op = 13 ∨ x.op = 22
  · rw [if_pos o13] at h; omega
  rw [if_neg o13] at h
  by_cases o3 : x.op = 3 ∨ x.op = 4 ∨ x.op = 5 ∨ x.op = 12 ∨ x.op = 14 ∨ x.op = 20
  · rw [if_pos o3] at h; omega
  rw [if_neg o3] at h
  by_cases o16 : x.op = 16
  · rw [if_pos o16] at h; omega
  rw [if_neg o16] at h
  by_cases o23 : x.op = 23
  · rw [if_pos o23] at h; omega
  rw [if_neg o23] at h
  by_cases o24 : x.op = 24
  · rw [if_pos o24] at h; omega
  rw [if_neg o24] at h
  exact h.elim
theorem opP_grp {m n r : Int} {x : Ins} (h : opP m n r x) (ho : x.op = 6) : 1 ≤ x.a ∧ 1 ≤ x.b ∧ x.a + x.b ≤ m := by
  unfold opP at h
  rw [if_neg (by omega), if_neg (by omega), if_pos ho] at h
  exact ⟨h.1, h.2.1, h.2.2.1⟩
def zIns : Ins := ⟨0, 0, 0, 0, ⟨#[]⟩⟩
def byG (L : Gs) (f : Nat) : Ins := ((L[f]?).join).getD zIns
def opsP (funs : List (List Ins)) (r : Nat) : Prop := ∀ c ∈ funs, ∀ x ∈ c, opP funs.length c.length r x
def runP (L : Gs) (f : Nat) (c : List Ins) : Prop := (0 < f → L[f]? ≠ some none) ∧ Good ⟨f, (byG L f).b, (byG L f).c, c⟩
def checkP (funs : List (List Ins)) (rs : Rts) : Prop :=
  funs ≠ [] ∧ rootP rs ∧ opsP funs rs.length ∧ ∃ L, grpF funs (some (List.replicate funs.length none)) = some L ∧ ∀ f c, funs[f]? = some c → runP L f c
open Classical in
noncomputable def checkI (funs : List (List Ins)) (rs : Rts) : Int := if checkP funs rs then 0 else 17
theorem checkI_t {funs : List (List Ins)} {rs : Rts} (h : checkP funs rs) : checkI funs rs = 0 := by unfold checkI; rw [if_pos h]
theorem checkI_f {funs : List (List Ins)} {rs : Rts} (h : ¬ checkP funs rs) : checkI funs rs = 17 := by unfold checkI; rw [if_neg h]
def GrpC (w : World) (gb : Nat) (L : Gs) : Prop :=
  ∃ cs : Array Value, w.heap[gb]? = some (.cells cs 48 (0, 0)) ∧ cs.size = L.length * 5 ∧ ∀ (i : Nat) o, L[i]? = some o → (∀ x, o = some x → x.op = 6) ∧ ∀ j u, (insC (o.getD zIns))[j]? = some u → cs[i * 5 + j]? = some u
def grpV (x : Ins) : List Value := [.int .i64 x.a, .int .i64 x.b, .int .i64 x.c]
def GrpR (w : World) (gb : Nat) (L : Gs) : Prop :=
  ∃ cs : Array Value, w.heap[gb]? = some (.cells cs 74 (0, 0)) ∧ cs.size = L.length * 3 ∧ ∀ (i : Nat) o, L[i]? = some o → (∀ x, o = some x → 1 ≤ x.b) ∧ ∀ j u, (grpV (o.getD zIns))[j]? = some u → cs[i * 3 + j]? = some u
theorem GrpC.keep {w w' : World} {gb : Nat} {L : Gs} (h : GrpC w gb L) (hb : w'.heap[gb]? = w.heap[gb]?) : GrpC w' gb L := by
  obtain ⟨cs, h1, h2⟩ := h; exact ⟨cs, hb.trans h1, h2⟩
theorem GrpR.keep {w w' : World} {gb : Nat} {L : Gs} (h : GrpR w gb L) (hb : w'.heap[gb]? = w.heap[gb]?) : GrpR w' gb L := by
  obtain ⟨cs, h1, h2⟩ := h; exact ⟨cs, hb.trans h1, h2⟩
theorem GrpC.at {w : World} {gb : Nat} {L : Gs} (h : GrpC w gb L) {i : Nat} {o : Option Ins} (hi : L[i]? = some o) :
    w.cell? ⟨gb, i * 5, none⟩ = some (.int .u8 (o.getD zIns).op) ∧ w.cell? ⟨gb, i * 5 + 1, none⟩ = some (.int .i64 (o.getD zIns).a) ∧ w.cell? ⟨gb, i * 5 + 2, none⟩ = some (.int .i64 (o.getD zIns).b) ∧ w.cell? ⟨gb, i * 5 + 3, none⟩ = some (.int .i64 (o.getD zIns).c) ∧ w.cell? ⟨gb, i * 5 + 4, none⟩ = some (.string (o.getD zIns).t) ∧ ∀ j, w.frozen? ⟨gb, j, none⟩ = false := by
  obtain ⟨cs, h1, h2, h3⟩ := h
  have h4 := (h3 i o hi).2
  have k : ∀ j u, (insC (o.getD zIns))[j]? = some u → w.cell? ⟨gb, i * 5 + j, none⟩ = some u := fun j u hj => by simp [World.cell?, h1, h4 j u hj]
  exact ⟨k 0 _ rfl, k 1 _ rfl, k 2 _ rfl, k 3 _ rfl, k 4 _ rfl, fun j => by simp [World.frozen?, h1]⟩
theorem GrpR.at {w : World} {gb : Nat} {L : Gs} (h : GrpR w gb L) {i : Nat} {o : Option Ins} (hi : L[i]? = some o) :
    w.cell? ⟨gb, i * 3, none⟩ = some (.int .i64 (o.getD zIns).a) ∧ w.cell? ⟨gb, i * 3 + 1, none⟩ = some (.int .i64 (o.getD zIns).b) ∧ w.cell? ⟨gb, i * 3 + 2, none⟩ = some (.int .i64 (o.getD zIns).c) ∧ ∀ j, w.frozen? ⟨gb, j, none⟩ = false := by
  obtain ⟨cs, h1, h2, h3⟩ := h
  have h4 := (h3 i o hi).2
  have k : ∀ j u, (grpV (o.getD zIns))[j]? = some u → w.cell? ⟨gb, i * 3 + j, none⟩ = some u := fun j u hj => by simp [World.cell?, h1, h4 j u hj]
  exact ⟨k 0 _ rfl, k 1 _ rfl, k 2 _ rfl, fun j => by simp [World.frozen?, h1]⟩
theorem set_cell {cs : Array Value} {a b : Nat} {v : Value} (h : a ≠ b) : (cs.setIfInBounds a v)[b]? = cs[b]? := Array.getElem?_setIfInBounds_ne h
theorem GrpC.put {w w' : World} {gb : Nat} {L : Gs} (h : GrpC w gb L) {i : Nat} {x : Ins} (hi : i < L.length) (hx : x.op = 6)
    (hm : ∀ cs, w.heap[gb]? = some (.cells cs 48 (0, 0)) → w'.heap[gb]? = some (.cells (((((cs.setIfInBounds (i * 5) (.int .u8 x.op)).setIfInBounds (i * 5 + 1) (.int .i64 x.a)).setIfInBounds (i * 5 + 2) (.int .i64 x.b)).setIfInBounds (i * 5 + 3) (.int .i64 x.c)).setIfInBounds (i * 5 + 4) (.string x.t)) 48 (0, 0))) : GrpC w' gb (L.set i (some x)) := by
  obtain ⟨cs, h1, h2, h3⟩ := h
  refine ⟨_, hm cs h1, by simp [h2], fun k o hk => ?_⟩
  by_cases e : k = i
  · subst e
    rw [List.getElem?_set_self hi] at hk
    cases hk
    refine ⟨fun y hy => by cases hy; exact hx, fun j u hj => ?_⟩
    match j, hj with
    | 0, hj => cases hj; rw [set_cell (by omega), set_cell (by omega), set_cell (by omega), set_cell (by omega)]; exact Array.getElem?_setIfInBounds_self_of_lt (by omega)
    | 1, hj => cases hj; rw [set_cell (by omega), set_cell (by omega), set_cell (by omega)]; exact Array.getElem?_setIfInBounds_self_of_lt (by simp; omega)
    | 2, hj => cases hj; rw [set_cell (by omega), set_cell (by omega)]; exact Array.getElem?_setIfInBounds_self_of_lt (by simp; omega)
    | 3, hj => cases hj; rw [set_cell (by omega)]; exact Array.getElem?_setIfInBounds_self_of_lt (by simp; omega)
    | 4, hj => cases hj; exact Array.getElem?_setIfInBounds_self_of_lt (by simp; omega)
  · rw [List.getElem?_set_ne (Ne.symm e)] at hk
    refine ⟨(h3 k o hk).1, fun j u hj => ?_⟩
    have hj5 : j < 5 := by have := (List.getElem?_eq_some_iff.1 hj).1; exact this
    rw [set_cell (by omega), set_cell (by omega), set_cell (by omega), set_cell (by omega), set_cell (by omega)]
    exact (h3 k o hk).2 j u hj
theorem GrpR.put {w w' : World} {gb : Nat} {L : Gs} (h : GrpR w gb L) {i : Nat} {x : Ins} (hi : i < L.length) (hx : 1 ≤ x.b)
    (hm : ∀ cs, w.heap[gb]? = some (.cells cs 74 (0, 0)) → w'.heap[gb]? = some (.cells (((cs.setIfInBounds (i * 3) (.int .i64 x.a)).setIfInBounds (i * 3 + 1) (.int .i64 x.b)).setIfInBounds (i * 3 + 2) (.int .i64 x.c)) 74 (0, 0))) : GrpR w' gb (L.set i (some x)) := by
  obtain ⟨cs, h1, h2, h3⟩ := h
  refine ⟨_, hm cs h1, by simp [h2], fun k o hk => ?_⟩
  by_cases e : k = i
  · subst e
    rw [List.getElem?_set_self hi] at hk
    cases hk
    refine ⟨fun y hy => by cases hy; exact hx, fun j u hj => ?_⟩
    match j, hj with
    | 0, hj => cases hj; rw [set_cell (by omega), set_cell (by omega)]; exact Array.getElem?_setIfInBounds_self_of_lt (by omega)
    | 1, hj => cases hj; rw [set_cell (by omega)]; exact Array.getElem?_setIfInBounds_self_of_lt (by simp; omega)
    | 2, hj => cases hj; exact Array.getElem?_setIfInBounds_self_of_lt (by simp; omega)
  · rw [List.getElem?_set_ne (Ne.symm e)] at hk
    refine ⟨(h3 k o hk).1, fun j u hj => ?_⟩
    have hj5 : j < 3 := by have := (List.getElem?_eq_some_iff.1 hj).1; exact this
    rw [set_cell (by omega), set_cell (by omega), set_cell (by omega)]
    exact (h3 k o hk).2 j u hj
end Go.Ck
namespace Go.Ck
open Go Go.RowKit Go.Proofs
def pG (gb : Nat) : Pl := ⟨gb, gb, gb, none, 0, 0, 0, ⟨#[]⟩⟩
abbrev KeptG (gb : Nat) (w w' : World) : Prop := Kept (pG gb) none none w w'
theorem KeptG.cell {gb : Nat} {w w' : World} (h : KeptG gb w w') {b o : Nat} {v : Value} (hb : b ≠ gb) (hc : w.cell? ⟨b, o, none⟩ = some v) : w'.cell? ⟨b, o, none⟩ = some v := by
  rw [World.cell?_of_block (w := w) (a := ⟨b, o, none⟩) (h.block b (cell_lt' hc) hb hb (by simp))]; exact hc
theorem KeptG.below {gb B : Nat} {w w' : World} (h : KeptG gb w w') (hB : B ≤ gb) (hl : gb < w.heap.size) : Below B w w' :=
  ⟨h.os, h.tape, h.output, h.size, fun b hb => h.block b (by omega) (by show b ≠ gb; omega) (by show b ≠ gb; omega) (by simp)⟩
theorem KeptG.of_below {gb : Nat} {w w' : World} (h : Below w.heap.size w w') : KeptG gb w w' := Kept.of_below h
theorem groupC_ok {w : World} {kb gb m : Nat} {L : Gs} {x : Ins} (hG : GrpC w gb L) (hL : L.length = m) (hm : m ≤ 60000) (k2 : w.cell? ⟨kb, 2, none⟩ = some (.slice (some ⟨gb, 0, none⟩) m m)) (hne : kb ≠ gb) (hx : x.op = 6 → 1 ≤ x.a ∧ 1 ≤ x.b ∧ x.a + x.b ≤ m) :
    Calls Tryz.prog 26 #[.pointer (some ⟨kb, 0, none⟩), insA x] w fun e w' => e = .returned (.bool (grpX L x).isSome) ∧ Hid (KeptG gb w w') ∧ Hid (∀ L', grpX L x = some L' → GrpC w' gb L') := by
  have hgl : gb < w.heap.size := by obtain ⟨cs, h, _⟩ := hG; exact (Array.getElem?_eq_some_iff.1 h).1
  have hkl := cell_lt' k2
  obtain ⟨W2, hW2⟩ : ∃ W2, W2 = w.alloc (.cells #[.int .u8 x.op, .int .i64 x.a, .int .i64 x.b, .int .i64 x.c, .string x.t] 48) := ⟨_, rfl⟩
  have hb2 : Below w.heap.size w W2 := by rw [hW2]; exact (Below.refl _ _).alloc (Nat.le_refl _) _
  have HB2 := Lib.hid hb2
  have hs2 : W2.heap.size = w.heap.size + 1 := by rw [hW2]; simp
  have d0 : W2.cell? ⟨w.heap.size, 0, none⟩ = some (.int .u8 x.op) := by rw [hW2]; simp [go_sem]
  have d1 : W2.cell? ⟨w.heap.size, 1, none⟩ = some (.int .i64 x.a) := by rw [hW2]; simp [go_sem]
  have d2 : W2.cell? ⟨w.heap.size, 2, none⟩ = some (.int .i64 x.b) := by rw [hW2]; simp [go_sem]
  have d3 : W2.cell? ⟨w.heap.size, 3, none⟩ = some (.int .i64 x.c) := by rw [hW2]; simp [go_sem]
  have d4 : W2.cell? ⟨w.heap.size, 4, none⟩ = some (.string x.t) := by rw [hW2]; simp [go_sem]
  have hG2 : GrpC W2 gb L := hG.keep (hb2.block _ hgl)
  have k22 : W2.cell? ⟨kb, 2, none⟩ = some (.slice (some ⟨gb, 0, none⟩) m m) := by rw [hb2.cell (by exact hkl)]; exact k2
  by_cases ho : x.op = 6
  · obtain ⟨h1, h2, h3⟩ := hx ho
    have hg : grpX L x = putG x x.a.toNat L x.b.toNat := by unfold grpX; rw [if_pos ho]
    obtain ⟨A, hA⟩ : ∃ A : Nat, x.a = A := ⟨x.a.toNat, by omega⟩
    obtain ⟨B, hB⟩ : ∃ B : Nat, x.b = B := ⟨x.b.toNat, by omega⟩
    rw [hA, hB] at hg
    simp only [Int.toNat_natCast] at hg
    have HX := Lib.hid (show x = ⟨x.op, x.a, x.b, x.c, x.t⟩ from rfl)
    obtain ⟨op, xa, xb, xc, xt⟩ := x
    simp only at ho hA hB h1 h2 h3 d0 d1 d2 d3 d4 hW2
    subst ho hA hB
    have hmi : ((A : Int) + (B : Int)) ≤ 60000 := by have : (m : Int) ≤ 60000 := by omega
                                                     omega
    have hm' : (m : Int) ≤ 60000 := by omega
    have hwr : IntKind.i64.wrap ((A : Int) + (B : Int)) = (A : Int) + (B : Int) := by rw [IntKind.wrap_i64]; omega
    have HG2 := Lib.hid hG2
    have HCL : Hid (∀ x, KeptG gb W2 x → x.cell? ⟨w.heap.size, 0, none⟩ = some (.int .u8 6) ∧ x.cell? ⟨w.heap.size, 1, none⟩ = some (.int .i64 A) ∧ x.cell? ⟨w.heap.size, 2, none⟩ = some (.int .i64 B) ∧ x.cell? ⟨w.heap.size, 3, none⟩ = some (.int .i64 xc) ∧ x.cell? ⟨w.heap.size, 4, none⟩ = some (.string xt) ∧ x.cell? ⟨kb, 2, none⟩ = some (.slice (some ⟨gb, 0, none⟩) m m)) := Lib.hid fun x hk =>
      ⟨hk.cell (by omega) d0, hk.cell (by omega) d1, hk.cell (by omega) d2, hk.cell (by omega) d3, hk.cell (by omega) d4, hk.cell hne k22⟩
    clear hG hG2 k2 hb2 hkl HX h1 h2
    unfold insA
    go_enter Tryz.func26, Tryz.ntmps26
    go_upto_region 1 with (fail)
    rw [← hW2]
    clear hW2
    go_wp2
    go_loopw [5] (fun j wr => ∃ r : Nat, r ≤ B ∧ j = .int .i64 ((A : Int) + r) ∧ Hid (∃ L', putG ⟨6, A, B, xc, xt⟩ A L r = some L' ∧ GrpC wr gb L') ∧ Hid (KeptG gb W2 wr)) (fun j _ => A + B - (intOf j).toNat)
    case atStart => exact ⟨0, Nat.zero_le _, by simp, Lib.hid ⟨L, rfl, HG2.out⟩, Lib.hid (KeptG.of_below (Below.refl _ _))⟩
    case round =>
      obtain ⟨r, hr, rfl, hE, hO⟩ := hrel
      obtain ⟨c0, c1, c2, c3, c4, c5⟩ := HCL.out _ hO.out
      obtain ⟨L', hput, hG'⟩ := hE.out
      have hlen' := putG_len hput
      have HP := Lib.hid hput
      have HK : Hid (KeptG gb w wr) := Lib.hid ((KeptG.of_below HB2.out).trans hO.out)
      by_cases hlt : r < B
      · have hil : A + r < L'.length := by omega
        obtain ⟨o, hoi⟩ : ∃ o, L'[A + r]? = some o := ⟨L'[A + r], List.getElem?_eq_getElem hil⟩
        obtain ⟨y0, y1, y2, y3, y4, yz⟩ := hG'.at hoi
        have yz0 := yz ((A + r) * 5)
        have yz1 := yz ((A + r) * 5 + 1)
        have yz2 := yz ((A + r) * 5 + 2)
        have yz3 := yz ((A + r) * 5 + 3)
        have yz4 := yz ((A + r) * 5 + 4)
        have j0 : ((A : Int) + (r : Int)) < (A : Int) + (B : Int) := by omega
        have j1 : (0 : Int) ≤ (A : Int) + (r : Int) := by omega
        have j2 : (A : Int) + (r : Int) < (m : Int) := by omega
        have j3 : ((A : Int) + (r : Int)).toNat = A + r := by omega
        have j4 : IntKind.i64.wrap ((A : Int) + (r : Int) + 1) = (A : Int) + (r : Int) + 1 := by rw [IntKind.wrap_i64]; omega
        have hgw : gb < wr.heap.size := cell_lt' y0
        cases o with
        | some y =>
          have hop : y.op = 6 := by obtain ⟨cs, _, _, h⟩ := hG'; exact (h _ _ hoi).1 _ rfl
          simp only [Option.getD_some] at y0 y1 y2 y3 y4
          rw [hop] at y0
          have hnone : grpX L ⟨6, A, B, xc, xt⟩ = none := by
            rw [hg]
            have : putG ⟨6, (A : Int), (B : Int), xc, xt⟩ A L (r + 1) = none := by
              show (match putG ⟨6, (A : Int), (B : Int), xc, xt⟩ A L r with | none => none | some L' => _) = none
              rw [hput]; simp only; rw [hoi]
            have h := putG_none this (B - (r + 1))
            rwa [show r + 1 + (B - (r + 1)) = B by omega] at h
          have HN := Lib.hid hnone
          clear hput hG' hE HG2 hg yz hnone
          go_wp2
          go_ret
          exact ⟨by rw [HN.out]; rfl, HK, Lib.hid (fun L' h => by rw [HN.out] at h; cases h)⟩
        | none =>
          simp only [Option.getD_none] at y0 y1 y2 y3 y4
          unfold zIns at y0 y1 y2 y3 y4
          simp only at y0 y1 y2 y3 y4
          have hsome : putG ⟨6, (A : Int), (B : Int), xc, xt⟩ A L (r + 1) = some (L'.set (A + r) (some ⟨6, A, B, xc, xt⟩)) := by
            show (match putG ⟨6, (A : Int), (B : Int), xc, xt⟩ A L r with | none => none | some L' => _) = _
            rw [hput]; simp only; rw [hoi]
          have HS := Lib.hid hsome
          obtain ⟨W5, hW5⟩ : ∃ W5, W5 = ((((wr.setCell ⟨gb, (A + r) * 5, none⟩ (.int .u8 6)).setCell ⟨gb, (A + r) * 5 + 1, none⟩ (.int .i64 A)).setCell ⟨gb, (A + r) * 5 + 2, none⟩ (.int .i64 B)).setCell ⟨gb, (A + r) * 5 + 3, none⟩ (.int .i64 xc)).setCell ⟨gb, (A + r) * 5 + 4, none⟩ (.string xt) := ⟨_, rfl⟩
          have hG5 : GrpC W5 gb (L'.set (A + r) (some ⟨6, A, B, xc, xt⟩)) := hG'.put hil rfl fun cs hcs => by
            rw [hW5]
            exact heap_setCell_same _ gb _ _ _ _ (heap_setCell_same _ gb _ _ _ _ (heap_setCell_same _ gb _ _ _ _ (heap_setCell_same _ gb _ _ _ _ (heap_setCell_same _ gb _ _ _ _ hcs))))
          have hK5 : KeptG gb wr W5 := by
            refine ⟨by rw [hW5]; rfl, by rw [hW5]; rfl, by rw [hW5]; rfl, by rw [hW5]; simp, fun b hb h1 _ _ => ?_, fun k hk => by cases hk⟩
            have h1 : b ≠ gb := h1
            rw [hW5, heap_setCell_other _ ⟨gb, (A + r) * 5 + 4, none⟩ b _ h1, heap_setCell_other _ ⟨gb, (A + r) * 5 + 3, none⟩ b _ h1, heap_setCell_other _ ⟨gb, (A + r) * 5 + 2, none⟩ b _ h1, heap_setCell_other _ ⟨gb, (A + r) * 5 + 1, none⟩ b _ h1, heap_setCell_other _ ⟨gb, (A + r) * 5, none⟩ b _ h1]
          have HF5 : Hid (GrpC W5.drew gb (L'.set (A + r) (some ⟨6, A, B, xc, xt⟩)) ∧ KeptG gb W2 W5.drew) := Lib.hid ⟨hG5.keep rfl, (hO.out.trans hK5).trans (KeptG.of_below (Below.refl _ _).drew)⟩
          clear hput hG' hE HG2 hg yz hsome hG5 hK5
          go_wp2
          go_region
          all_goals
            rw [← hW5]
            clear hW5
            go_wp2
            go_roundw
            case rel => exact ⟨r + 1, by omega, by simp; omega, Lib.hid ⟨_, HS.out, HF5.out.1⟩, Lib.hid HF5.out.2⟩
            case measure => simp [intOf]; omega
      · obtain rfl : r = B := by omega
        have HFIN : Hid (grpX L ⟨6, A, r, xc, xt⟩ = some L') := Lib.hid (hg.trans hput)
        have HGF := Lib.hid hG'
        have j0 : ¬ ((A : Int) + (r : Int)) < (A : Int) + (r : Int) := by omega
        clear hput hG' hE HG2 hg
        go_wp2
        go_ret
        exact ⟨by rw [HFIN.out]; rfl, HK, Lib.hid (fun L2 h => by rw [HFIN.out] at h; cases h; exact HGF.out)⟩
  · have hg : grpX L x = some L := by unfold grpX; rw [if_neg ho]
    have hd : (x.op == 6) = false := by simpa using ho
    have HG2 := Lib.hid hG2
    clear hG hG2 k2 hb2 hkl
    unfold insA
    go_enter Tryz.func26, Tryz.ntmps26
    go_upto_region 1 with (fail)
    rw [← hW2]
    clear hW2
    go_wp2
    go_ret
    exact ⟨by rw [hg]; rfl, Lib.hid (KeptG.of_below HB2.out), Lib.hid (fun L2 h => by rw [hg] at h; cases h; exact HG2.out)⟩
end Go.Ck
namespace Go.Ck
open Go Go.RowKit Go.Proofs
theorem i48 : (Tryz.prog.info? 48).map (fun i => (i.size, i.bytes, i.zero)) = some (5, 48, some (.agg #[.int .u8 0, .int .i64 0, .int .i64 0, .int .i64 0, .string ⟨#[]⟩])) := by kernel_rfl
theorem i74 : (Tryz.prog.info? 74).map (fun i => (i.size, i.bytes, i.zero)) = some (3, 24, some (.agg #[.int .i64 0, .int .i64 0, .int .i64 0])) := by kernel_rfl
def byZ (n : Nat) : Array Value := madeCells #[.int .u8 0, .int .i64 0, .int .i64 0, .int .i64 0, .string ⟨#[]⟩] (n * 5)
def grZ (n : Nat) : Array Value := madeCells #[.int .i64 0, .int .i64 0, .int .i64 0] (n * 3)
theorem mk26 {n : Nat} (hn : n ≤ 60000) (w : World) : (Instr.makeSlice 26 (.int .i64 (n : Int)) (.int .i64 (n : Int))).run Tryz.prog w = .ok (.slice (some ⟨w.heap.size, 0, none⟩) n n) (w.alloc (.cells (byZ n) 48)) := by
  obtain ⟨i, hi, hi2⟩ := Option.map_eq_some_iff.1 i48
  injection hi2 with h1 h2
  injection h2 with h2 h3
  have := run_makeSlice (P := Tryz.prog) w 26 48 i _ Tryz.underlying26 hi h3 .i64 .i64 (n : Int) (n : Int) (by omega) (by omega) (by rw [h1]; omega) (by rw [h2]; omega) (by omega)
  rw [this, h1]
  rfl
theorem mk69 {n : Nat} (hn : n ≤ 60000) (w : World) : (Instr.makeSlice 69 (.int .i64 (n : Int)) (.int .i64 (n : Int))).run Tryz.prog w = .ok (.slice (some ⟨w.heap.size, 0, none⟩) n n) (w.alloc (.cells (grZ n) 74)) := by
  obtain ⟨i, hi, hi2⟩ := Option.map_eq_some_iff.1 i74
  injection hi2 with h1 h2
  injection h2 with h2 h3
  have := run_makeSlice (P := Tryz.prog) w 69 74 i _ Tryz.underlying69 hi h3 .i64 .i64 (n : Int) (n : Int) (by omega) (by omega) (by rw [h1]; omega) (by rw [h2]; omega) (by omega)
  rw [this, h1]
  rfl
theorem mod5 (i j : Nat) (hj : j < 5) : (i * 5 + j) % 5 = j := by omega
theorem mod3 (i j : Nat) (hj : j < 3) : (i * 3 + j) % 3 = j := by omega
theorem byZ_grp {w : World} {gb n : Nat} (h : w.heap[gb]? = some (.cells (byZ n) 48 (0, 0))) : GrpC w gb (List.replicate n none) := by
  refine ⟨_, h, by rw [List.length_replicate]; exact size_madeCells _ _, fun i o hi => ?_⟩
  have hin : i < n := by have := (List.getElem?_eq_some_iff.1 hi).1; simpa using this
  have ho : o = none := by rw [List.getElem?_replicate, if_pos hin] at hi; cases hi; rfl
  subst ho
  refine ⟨fun x hx => (by cases hx), fun j u hj => ?_⟩
  have hj5 : j < 5 := (List.getElem?_eq_some_iff.1 hj).1
  unfold byZ madeCells
  rw [Array.getElem?_map, Array.getElem?_range, if_pos (by omega)]
  match j, hj with
  | 0, hj => cases hj; simp [mod5]; rfl
  | 1, hj => cases hj; simp [mod5]; rfl
  | 2, hj => cases hj; simp [mod5]; rfl
  | 3, hj => cases hj; simp [mod5]; rfl
  | 4, hj => cases hj; simp [mod5]; rfl
theorem grZ_grp {w : World} {gb n : Nat} (h : w.heap[gb]? = some (.cells (grZ n) 74 (0, 0))) : GrpR w gb (List.replicate n none) := by
  refine ⟨_, h, by rw [List.length_replicate]; exact size_madeCells _ _, fun i o hi => ?_⟩
  have hin : i < n := by have := (List.getElem?_eq_some_iff.1 hi).1; simpa using this
  have ho : o = none := by rw [List.getElem?_replicate, if_pos hin] at hi; cases hi; rfl
  subst ho
  refine ⟨fun x hx => (by cases hx), fun j u hj => ?_⟩
  have hj5 : j < 3 := (List.getElem?_eq_some_iff.1 hj).1
  unfold grZ madeCells
  rw [Array.getElem?_map, Array.getElem?_range, if_pos (by omega)]
  match j, hj with
  | 0, hj => cases hj; simp [mod3]; rfl
  | 1, hj => cases hj; simp [mod3]; rfl
  | 2, hj => cases hj; simp [mod3]; rfl
end Go.Ck
namespace Go.Ck
open Go Go.RowKit Go.Proofs
def rng (n : Int) : Prop := -9223372036854775808 ≤ n ∧ n ≤ 9223372036854775807
theorem FunsV.below {W W' : World} {v : Value} {funs : List (List Ins)} (h : FunsV W v funs) (hb : Below W.heap.size W W') : FunsV W' v funs := by
  obtain ⟨a, c, h1, h2, h3⟩ := h
  refine ⟨a, c, h1, h2, fun h0 => ?_⟩
  obtain ⟨g, o, e, hc⟩ := h3 h0
  refine ⟨g, o, e, fun i code hx => ?_⟩
  obtain ⟨u, k1, k2⟩ := hc i code hx
  exact ⟨u, by rw [hb.cell (by exact cell_lt' k1)]; exact k1, k2.below hb⟩
theorem FunsV.at {W : World} {a : Option Addr} {n c : Nat} {funs : List (List Ins)} (h : FunsV W (.slice a n c) funs) {i : Nat} {code : List Ins} (hx : funs[i]? = some code) : n = funs.length ∧ n ≤ c ∧ ∃ g o ca cc, a = some ⟨g, o, none⟩ ∧ W.cell? ⟨g, o + i, none⟩ = some (.slice ca code.length cc) ∧ CodeV W (.slice ca code.length cc) code := by
  obtain ⟨a', c', h1, h2, h3⟩ := h
  cases h1
  obtain ⟨g, o, e, hc⟩ := h3 (by have := (List.getElem?_eq_some_iff.1 hx).1; omega)
  obtain ⟨u, k1, k2⟩ := hc i code hx
  obtain ⟨ca, cc, e2, k3⟩ := id k2
  subst e2
  exact ⟨rfl, h2, g, o, ca, cc, e, k1, k2⟩
theorem checkP_ops {funs : List (List Ins)} {rs : Rts} (h : checkP funs rs) {f : Nat} {c : List Ins} {x : Ins} (hc : funs[f]? = some c) (hx : x ∈ c) : opP funs.length c.length rs.length x := h.2.2.1 c (List.mem_of_getElem? hc) x hx
theorem checkC_ok {w : World} {funs : List (List Ins)} {rs : Rts} {fv rv : Value} (hf : FunsV w fv funs) (hr : RootsV w rv rs) (hm : funs.length ≤ 250) (hn : ∀ c ∈ funs, c.length ≤ 250) (hrs : rs.length ≤ 60000) (hI : ∀ c ∈ funs, ∀ x ∈ c, rng x.a ∧ rng x.b) {B : Nat} (hT : TakesV B w) (hB : B ≤ w.heap.size) :
    Calls Tryz.prog 12 #[.agg #[fv, rv]] w fun e w' => e = .returned (.int .i64 (checkI funs rs)) ∧ Below w.heap.size w w' := by
  obtain ⟨fa, fc, rfl, hfc, _⟩ := id hf
  obtain ⟨ra, rc, rfl, hrc, _⟩ := id hr
  obtain ⟨W3, hW3⟩ : ∃ W3, W3 = (((w.alloc (.cells #[.slice fa funs.length fc, .slice ra rs.length rc] 25)).alloc (.cells (byZ funs.length) 48)).alloc (.cells #[.slice fa funs.length fc, .slice ra rs.length rc, .slice (some ⟨w.heap.size + 1, 0, none⟩) funs.length funs.length] 82)).drew := ⟨_, rfl⟩
  have hb3 : Below w.heap.size w W3 := by rw [hW3]; exact ((((Below.refl _ _).alloc (Nat.le_refl _) _).alloc (by simp) _).alloc (by simp; omega) _).drew
  have hs3 : W3.heap.size = w.heap.size + 1 + 1 + 1 := by rw [hW3]; simp
  have b0 : W3.cell? ⟨w.heap.size, 0, none⟩ = some (.slice fa funs.length fc) := by rw [hW3]; simp [go_sem]
  have b1 : W3.cell? ⟨w.heap.size, 1, none⟩ = some (.slice ra rs.length rc) := by rw [hW3]; simp [go_sem]
  have k0 : W3.cell? ⟨w.heap.size + 1 + 1, 0, none⟩ = some (.slice fa funs.length fc) := by rw [hW3]; simp [go_sem]
  have k1 : W3.cell? ⟨w.heap.size + 1 + 1, 1, none⟩ = some (.slice ra rs.length rc) := by rw [hW3]; simp [go_sem]
  have k2 : W3.cell? ⟨w.heap.size + 1 + 1, 2, none⟩ = some (.slice (some ⟨w.heap.size + 1, 0, none⟩) funs.length funs.length) := by rw [hW3]; simp [go_sem]
  have hg3 : GrpC W3 (w.heap.size + 1) (List.replicate funs.length none) := byZ_grp (by rw [hW3]; exact (Below.heap_alloc _ _ _ (by simp)).trans (two_new w _ _))
  have HROOT := Lib.hid (rootedC_ok (hr.below hb3) hrs k1)
  have HLOW : Hid (∀ x, KeptG (w.heap.size + 1) W3 x → Below w.heap.size w x) := Lib.hid fun x hx => hb3.trans ((hx.below (B := w.heap.size) (by omega) (by omega)))
  have HCE : Hid (∀ x, KeptG (w.heap.size + 1) W3 x → x.cell? ⟨w.heap.size, 0, none⟩ = some (.slice fa funs.length fc) ∧ x.cell? ⟨w.heap.size + 1 + 1, 0, none⟩ = some (.slice fa funs.length fc) ∧ x.cell? ⟨w.heap.size + 1 + 1, 1, none⟩ = some (.slice ra rs.length rc) ∧ x.cell? ⟨w.heap.size + 1 + 1, 2, none⟩ = some (.slice (some ⟨w.heap.size + 1, 0, none⟩) funs.length funs.length) ∧ w.heap.size + 1 + 1 < x.heap.size) := Lib.hid fun x hx =>
    ⟨hx.cell (by omega) b0, hx.cell (by omega) k0, hx.cell (by omega) k1, hx.cell (by omega) k2, by have := hx.size; omega⟩
  have HG3 := Lib.hid hg3
  have HB3 := Lib.hid hb3
  have HFV := Lib.hid hf
  have MK := fun w => mk26 (n := funs.length) (by omega) w
  have im : (funs.length : Int) ≤ 250 := by omega
  clear hf hr hb3 hg3
  by_cases h0 : funs = []
  · subst h0
    have hI0 : checkI [] rs = 17 := checkI_f (fun h => h.1 rfl)
    rw [hI0]
    clear HROOT HLOW HCE HG3 HFV MK
    have MK : ∀ w : World, (Instr.makeSlice 26 (.int .i64 0) (.int .i64 0)).run Tryz.prog w = .ok (.slice (some ⟨w.heap.size, 0, none⟩) 0 0) (w.alloc (.cells (byZ 0) 48)) := fun w => mk26 (n := 0) (by omega) w
    go_enter Tryz.func12, Tryz.ntmps12
    go_wp2
    go_region
    all_goals
      simp only [List.length_nil] at hW3
      rw [← hW3]
      clear hW3
      go_wp2
      go_ret
      exact ⟨rfl, HB3.out⟩
  have hpos : 0 < funs.length := List.length_pos_iff.2 h0
  have hz : ¬ ((funs.length : Int) = 0) := by omega
  have hzb : ((funs.length : Int) == 0) = false := by simpa using hz
  by_cases hroot : rootP rs
  · rw [rootB_t hroot] at HROOT
    go_enter Tryz.func12, Tryz.ntmps12
    go_wp2
    go_region
    all_goals
      rw [← hW3]
      clear hW3 MK
      go_wp2_with fail
      refine HROOT.out.mono ?_
      rintro e w4 ⟨rfl, hb4⟩
      have HK4 : Hid (KeptG (w.heap.size + 1) W3 w4) := Lib.hid (KeptG.of_below hb4)
      obtain ⟨z0, z1, z2, z3, z4⟩ := HCE.out _ HK4.out
      have HG4 := Lib.hid (HG3.out.keep (hb4.block (w.heap.size + 1) (by omega)))
      clear hb4 HROOT
      go_wp2
      go_loopw [28] (fun j wr => ∃ k : Nat, k ≤ funs.length ∧ j = .int .i64 k ∧ Hid (∃ L, grpF (funs.take k) (some (List.replicate funs.length none)) = some L ∧ GrpC wr (w.heap.size + 1) L) ∧ Hid (∀ f c, funs[f]? = some c → f < k → ∀ x ∈ c, opP funs.length c.length rs.length x) ∧ Hid (KeptG (w.heap.size + 1) W3 wr)) (fun j _ => funs.length - (intOf j).toNat)
      case atStart => exact ⟨0, Nat.zero_le _, rfl, Lib.hid ⟨_, rfl, HG4.out⟩, Lib.hid (fun f c _ hf => absurd hf (Nat.not_lt_zero _)), HK4⟩
      case round =>
        obtain ⟨k, hk, rfl, hGK, hOK, hKK⟩ := hrel
        obtain ⟨q0, q1, q2, q3, q4⟩ := HCE.out _ hKK.out
        have HLW := Lib.hid (HLOW.out _ hKK.out)
        obtain ⟨L, hL1, hL2⟩ := hGK.out
        have HL1 := Lib.hid hL1
        have hLl : L.length = funs.length := by rw [grpF_len hL1]; simp
        by_cases hlt : k < funs.length
        · obtain ⟨code, hcode⟩ : ∃ code, funs[k]? = some code := ⟨funs[k], List.getElem?_eq_getElem hlt⟩
          have hn1 := hn code (List.mem_of_getElem? hcode)
          obtain ⟨_, _, g1, o1, ca, cc, rfl, c0w, hcv⟩ := HFV.out.at hcode
          have HFC := Lib.hid hcode
          have HCV := Lib.hid hcv
          have hcc : code.length ≤ cc := by obtain ⟨a', c', e, h, _⟩ := hcv; cases e; exact h
          have HC0 : Hid (∀ x, Below w.heap.size w x → x.cell? ⟨g1, o1 + k, none⟩ = some (.slice ca code.length cc)) := Lib.hid fun x hx => by rw [hx.cell (by exact cell_lt' c0w)]; exact c0w
          have c0 := HC0.out _ HLW.out
          have HL2 := Lib.hid hL2
          have y1 : (k : Int) < (funs.length : Int) := by omega
          have y0 : (0 : Int) ≤ (k : Int) := by omega
          have yn : (code.length : Int) ≤ 250 := by omega
          have hgl := cell_lt' c0
          clear hL1 hL2 hGK hcv hcode
          go_wp2
          go_loopw [35] (fun j wr2 => ∃ i : Nat, i ≤ code.length ∧ j = .int .i64 i ∧ Hid (∃ L', grpI (code.take i) (some L) = some L' ∧ GrpC wr2 (w.heap.size + 1) L') ∧ Hid (∀ x ∈ code.take i, opP funs.length code.length rs.length x) ∧ Hid (KeptG (w.heap.size + 1) W3 wr2)) (fun j _ => code.length - (intOf j).toNat)
          case atStart => exact ⟨0, Nat.zero_le _, rfl, Lib.hid ⟨_, rfl, HL2.out⟩, Lib.hid (fun x hx => by simp at hx), hKK⟩
          case round =>
            obtain ⟨i, hi, rfl, hGI, hOI, hKI⟩ := hrel
            obtain ⟨p0, p1, p2, p3, p4⟩ := HCE.out _ hKI.out
            have HLI := Lib.hid (HLOW.out _ hKI.out)
            obtain ⟨L', hI1, hI2⟩ := hGI.out
            have hLl' : L'.length = funs.length := by rw [grpI_len hI1, hLl]
            by_cases hlti : i < code.length
            · obtain ⟨x, hx⟩ : ∃ x, code[i]? = some x := ⟨code[i], List.getElem?_eq_getElem hlti⟩
              obtain ⟨_, _, cg, co, rfl, x0, x1, x2, x3, x4⟩ := (HCV.out.below HLI.out).at hx
              have c0i := HC0.out _ HLI.out
              have hxm : x ∈ code := List.mem_of_getElem? hx
              obtain ⟨⟨ra1, ra2⟩, hrb⟩ := hI code (List.mem_of_getElem? HFC.out) x hxm
              have gl2 := cell_lt' x0
              have ii1 : (i : Int) < (code.length : Int) := by omega
              have ii0 : (0 : Int) ≤ (i : Int) := by omega
              obtain ⟨X2, hX2⟩ : ∃ X2, X2 = wr.alloc (.cells #[.int .u8 x.op, .int .i64 x.a, .int .i64 x.b, .int .i64 x.c, .string x.t] 48) := ⟨_, rfl⟩
              have hbX : Below wr.heap.size wr X2 := by rw [hX2]; exact (Below.refl _ _).alloc (Nat.le_refl _) _
              have hsX : X2.heap.size = wr.heap.size + 1 := by rw [hX2]; simp
              have v0 : X2.cell? ⟨wr.heap.size, 0, none⟩ = some (.int .u8 x.op) := by rw [hX2]; simp [go_sem]
              have v1 : X2.cell? ⟨wr.heap.size, 1, none⟩ = some (.int .i64 x.a) := by rw [hX2]; simp [go_sem]
              have v2 : X2.cell? ⟨wr.heap.size, 2, none⟩ = some (.int .i64 x.b) := by rw [hX2]; simp [go_sem]
              have v3 : X2.cell? ⟨wr.heap.size, 3, none⟩ = some (.int .i64 x.c) := by rw [hX2]; simp [go_sem]
              have v4 : X2.cell? ⟨wr.heap.size, 4, none⟩ = some (.string x.t) := by rw [hX2]; simp [go_sem]
              have hKX : KeptG (w.heap.size + 1) W3 X2 := hKI.out.trans (KeptG.of_below hbX)
              obtain ⟨t0, t1, t2, t3, t4⟩ := HCE.out _ hKX
              have H25 := Lib.hid (opsC_ok (w := X2) (kb := w.heap.size + 1 + 1) (f := k) (x := x) t1 t2 hlt (by omega) (by omega : code.length ≤ 60000) hrs (HC0.out _ (HLOW.out _ hKX)) (hT.at ((HLOW.out _ hKX).mono hB)) (by have := (HLOW.out _ hKX).size; omega) ⟨ra1, ra2⟩)
              unfold insA at H25
              have H5 : Hid (∀ x5, Below X2.heap.size X2 x5 → (x5.cell? ⟨wr.heap.size, 0, none⟩ = some (.int .u8 x.op) ∧ x5.cell? ⟨wr.heap.size, 1, none⟩ = some (.int .i64 x.a) ∧ x5.cell? ⟨wr.heap.size, 2, none⟩ = some (.int .i64 x.b) ∧ x5.cell? ⟨wr.heap.size, 3, none⟩ = some (.int .i64 x.c) ∧ x5.cell? ⟨wr.heap.size, 4, none⟩ = some (.string x.t)) ∧ Below w.heap.size w x5 ∧
                  (opP funs.length code.length rs.length x → Calls Tryz.prog 26 #[.pointer (some ⟨w.heap.size + 1 + 1, 0, none⟩), .agg #[.int .u8 x.op, .int .i64 x.a, .int .i64 x.b, .int .i64 x.c, .string x.t]] x5 fun e w' => e = .returned (.bool (grpX L' x).isSome) ∧ Hid (KeptG (w.heap.size + 1) W3 w') ∧ Hid (∀ L'', grpX L' x = some L'' → GrpC w' (w.heap.size + 1) L''))) := Lib.hid fun x5 h5 => by
                have hK5 : KeptG (w.heap.size + 1) W3 x5 := hKX.trans (KeptG.of_below h5)
                refine ⟨⟨by rw [h5.cell (by exact cell_lt' v0)]; exact v0, by rw [h5.cell (by exact cell_lt' v1)]; exact v1, by rw [h5.cell (by exact cell_lt' v2)]; exact v2, by rw [h5.cell (by exact cell_lt' v3)]; exact v3, by rw [h5.cell (by exact cell_lt' v4)]; exact v4⟩, HLOW.out _ hK5, fun hop => ?_⟩
                have hgI : w.heap.size + 1 < wr.heap.size := by omega
                exact (groupC_ok (kb := w.heap.size + 1 + 1) (hI2.keep ((h5.block _ (by omega)).trans (hbX.block _ hgI))) hLl' (by omega) (HCE.out _ hK5).2.2.2.1 (by omega) (opP_grp hop)).mono fun e w' ⟨u1, u2, u3⟩ => ⟨u1, Lib.hid (hK5.trans u2.out), u3⟩
              have HI1 := Lib.hid hI1
              have HXX := Lib.hid hx
              clear hI1 hI2 hGI hbX hKX hx
              go_wp2_with fail
              rw [← hX2]
              clear hX2
              refine H25.out.mono ?_
              rintro e w5 ⟨rfl, hb5⟩
              obtain ⟨⟨s0, s1, s2, s3, s4⟩, hbl5, h26⟩ := H5.out _ hb5
              have HBL5 := Lib.hid hbl5
              clear hb5 H5 H25 hbl5
              by_cases hop : opP funs.length code.length rs.length x
              · have H26 := Lib.hid (h26 hop)
                clear h26
                rw [opB_t hop]
                go_wp2_with fail
                refine H26.out.mono ?_
                rintro e w6 ⟨rfl, HK6, HG6⟩
                cases hgx : grpX L' x with
                | some L'' =>
                  rw [hgx] at HG6
                  have HG7 := Lib.hid (HG6.out _ rfl)
                  have HGX := Lib.hid hgx
                  clear hgx HG6 H26
                  simp only [Option.isSome_some]
                  go_wp2
                  go_roundw
                  case rel =>
                    refine ⟨i + 1, by omega, by simp, Lib.hid ⟨L'', ?_, HG7.out⟩, Lib.hid fun y hy => ?_, HK6⟩
                    · rw [take_snoc HXX.out, grpI_snoc, HI1.out]; exact HGX.out
                    · rw [take_snoc HXX.out] at hy
                      rcases List.mem_append.1 hy with h | h
                      · exact hOI.out y h
                      · obtain rfl := List.mem_singleton.1 h; exact hop
                  case measure => simp [intOf]; omega
                | none =>
                  have HGX := Lib.hid hgx
                  have HB6 := Lib.hid (HLOW.out _ HK6.out)
                  clear hgx HG6 H26
                  simp only [Option.isSome_none]
                  go_wp2
                  go_ret
                  refine ⟨congrArg (fun z => Ending.returned (Value.int .i64 z)) (checkI_f fun hc => ?_).symm, HB6.out⟩
                  obtain ⟨LL, hLL, _⟩ := hc.2.2.2
                  have z1 : grpI (code.take (i + 1)) (some L) = none := by rw [take_snoc HXX.out, grpI_snoc, HI1.out]; exact HGX.out
                  have z2 : grpF (funs.take (k + 1)) (some (List.replicate funs.length none)) = none := by
                    rw [take_snoc HFC.out, grpF_snoc, HL1.out]; exact grpI_take z1
                  rw [grpF_take z2] at hLL; cases hLL
              · rw [opB_f hop]
                clear h26
                go_wp2
                go_ret
                refine ⟨congrArg (fun z => Ending.returned (Value.int .i64 z)) (checkI_f fun hc => hop (checkP_ops hc HFC.out hxm)).symm, HBL5.out⟩
            · obtain rfl : i = code.length := by omega
              have HFIN : Hid (grpF (funs.take (k + 1)) (some (List.replicate funs.length none)) = some L') := Lib.hid (by rw [take_snoc HFC.out, grpF_snoc, HL1.out]; rw [List.take_length] at hI1; exact hI1)
              have HGF := Lib.hid hI2
              clear hI1 hI2 hGI
              go_wp2
              go_roundw
              case rel =>
                refine ⟨k + 1, by omega, by simp, Lib.hid ⟨L', HFIN.out, HGF.out⟩, Lib.hid fun f c hfc hfk y hy => ?_, hKI⟩
                by_cases e : f = k
                · subst e
                  rw [HFC.out] at hfc; cases hfc
                  exact hOI.out y (by rw [List.take_length]; exact hy)
                · exact hOK.out f c hfc (by omega) y hy
              case measure => simp [intOf]; omega
        · obtain rfl : k = funs.length := by omega
          have HGT : Hid (grpF funs (some (List.replicate funs.length none)) = some L) := Lib.hid (by rw [List.take_length] at hL1; exact hL1)
          have HOPS : Hid (opsP funs rs.length) := Lib.hid fun c hc x hx => by
            obtain ⟨f, hf, rfl⟩ := List.getElem_of_mem hc
            exact hOK.out f _ (List.getElem?_eq_getElem hf) hf x hx
          have HGL := Lib.hid hL2
          have hr0 := Lib.hid hroot
          clear hL1 hL2 hGK
          go_wp2
          go_loopw [55] (fun j wr => ∃ k : Nat, k ≤ funs.length ∧ j = .int .i64 k ∧ Hid (∀ f c, funs[f]? = some c → f < k → runP L f c) ∧ Hid (KeptG (w.heap.size + 1) W3 wr) ∧ Hid (GrpC wr (w.heap.size + 1) L)) (fun j _ => funs.length - (intOf j).toNat)
          case atStart => exact ⟨0, Nat.zero_le _, rfl, Lib.hid (fun f c _ h => absurd h (Nat.not_lt_zero _)), hKK, HGL⟩
          case round =>
            obtain ⟨k, hk, rfl, hRK, hKI, hGI⟩ := hrel
            obtain ⟨p0, p1, p2, p3, p4⟩ := HCE.out _ hKI.out
            have HLI := Lib.hid (HLOW.out _ hKI.out)
            by_cases hlt : k < funs.length
            · obtain ⟨code, hcode⟩ : ∃ code, funs[k]? = some code := ⟨funs[k], List.getElem?_eq_getElem hlt⟩
              have hcm := List.mem_of_getElem? hcode
              have hn1 := hn code hcm
              obtain ⟨_, _, g1, o1, ca, cc, rfl, c0w, hcv⟩ := HFV.out.at hcode
              have HFC := Lib.hid hcode
              obtain ⟨o, ho⟩ : ∃ o, L[k]? = some o := ⟨L[k]'(by omega), List.getElem?_eq_getElem _⟩
              have hby : byG L k = o.getD zIns := by unfold byG; rw [ho]; rfl
              obtain ⟨s0, s1, s2, s3, s4, _⟩ := hGI.out.at ho
              have H27 := Lib.hid (runs_code (w := wr) (kb := w.heap.size + 1 + 1) (f := k) (by_ := o.getD zIns) (o2 := 0) p1 p3 hlt (by omega) (by rw [HLI.out.cell (by exact cell_lt' c0w)]; exact c0w) (hcv.below HLI.out) (by omega) (fun x hx => (opP_ins (HOPS.out code hcm x hx) (by omega) (by omega)).1) (hT.at (HLI.out.mono hB)) (by have := HLI.out.size; omega)
                (by rw [Nat.zero_add]; exact s0) (by rw [Nat.zero_add]; exact s1) (by rw [Nat.zero_add]; exact s2) (by rw [Nat.zero_add]; exact s3) (by rw [Nat.zero_add]; exact s4))
              rw [← hby] at H27
              have y1 : (k : Int) < (funs.length : Int) := by omega
              have y0 : (0 : Int) ≤ (k : Int) := by omega
              have HO := Lib.hid ho
              have hgl := cell_lt' s0
              have HKB : Hid (∀ x, Below wr.heap.size wr x → Below w.heap.size w x ∧ KeptG (w.heap.size + 1) W3 x ∧ GrpC x (w.heap.size + 1) L) := Lib.hid fun x hx => by
                have := hKI.out.trans (KeptG.of_below (gb := w.heap.size + 1) hx)
                exact ⟨HLOW.out _ this, this, hGI.out.keep (hx.block _ hgl)⟩
              have HRP : Hid (runP L k code → ∀ f c, funs[f]? = some c → f < k + 1 → runP L f c) := Lib.hid fun hp f c hfc hfk => by
                by_cases e : f = k
                · subst e; rw [HFC.out] at hfc; cases hfc; exact hp
                · exact hRK.out f c hfc (by omega)
              have HBAD : Hid (¬ runP L k code → ∀ x, Below w.heap.size w x → Ending.returned (Value.int .i64 17) = .returned (.int .i64 (checkI funs rs)) ∧ Below w.heap.size w x) := Lib.hid fun hp x hx => by
                refine ⟨congrArg (fun z => Ending.returned (Value.int .i64 z)) (checkI_f fun hc => hp ?_).symm, hx⟩
                obtain ⟨LL, hLL, h⟩ := hc.2.2.2
                rw [HGT.out] at hLL; cases hLL
                exact h k code HFC.out
              clear hby ho hcode hcv
              by_cases hk0 : 0 < k
              · have hk0' : (0 : Int) < (k : Int) := by omega
                cases o with
                | none =>
                  simp only [Option.getD_none] at s0
                  unfold zIns at s0
                  simp only at s0
                  have HB1 := Lib.hid (HBAD.out (fun h => h.1 hk0 HO.out) _ HLI.out)
                  clear HBAD HRP HKB H27
                  go_wp2
                  go_ret
                  exact HB1.out
                | some y =>
                  have hop : y.op = 6 := by obtain ⟨cs, _, _, h⟩ := hGI.out; exact (h _ _ HO.out).1 _ rfl
                  simp only [Option.getD_some] at s0
                  rw [hop] at s0
                  go_wp2_with fail
                  refine H27.out.mono ?_
                  rintro e w6 ⟨rfl, hb6⟩
                  have HK6 := Lib.hid (HKB.out _ hb6)
                  clear H27 hb6
                  by_cases hg : Good ⟨k, (byG L k).b, (byG L k).c, code⟩
                  · have HR1 := Lib.hid (HRP.out ⟨fun _ => by rw [HO.out]; simp, hg⟩)
                    rw [goodB_t hg]
                    clear HRP HBAD hg
                    go_wp2
                    go_roundw
                    case rel => exact ⟨k + 1, by omega, by simp, HR1, Lib.hid HK6.out.2.1, Lib.hid HK6.out.2.2⟩
                    case measure => simp [intOf]; omega
                  · have HB1 := Lib.hid (HBAD.out (fun h => hg h.2) _ HK6.out.1)
                    rw [goodB_f hg]
                    clear HRP HBAD hg
                    go_wp2
                    go_ret
                    exact HB1.out
              · have hk0' : ¬ (0 : Int) < (k : Int) := by omega
                go_wp2_with fail
                refine H27.out.mono ?_
                rintro e w6 ⟨rfl, hb6⟩
                have HK6 := Lib.hid (HKB.out _ hb6)
                clear H27 hb6
                by_cases hg : Good ⟨k, (byG L k).b, (byG L k).c, code⟩
                · have HR1 := Lib.hid (HRP.out ⟨fun h => absurd h hk0, hg⟩)
                  rw [goodB_t hg]
                  clear HRP HBAD hg
                  go_wp2
                  go_roundw
                  case rel => exact ⟨k + 1, by omega, by simp, HR1, Lib.hid HK6.out.2.1, Lib.hid HK6.out.2.2⟩
                  case measure => simp [intOf]; omega
                · have HB1 := Lib.hid (HBAD.out (fun h => hg h.2) _ HK6.out.1)
                  rw [goodB_f hg]
                  clear HRP HBAD hg
                  go_wp2
                  go_ret
                  exact HB1.out
            · obtain rfl : k = funs.length := by omega
              have HOKK : Hid (checkI funs rs = 0) := Lib.hid (checkI_t ⟨h0, hr0.out, HOPS.out, L, HGT.out, fun f c hfc => hRK.out f c hfc (List.getElem?_eq_some_iff.1 hfc).1⟩)
              go_wp2
              go_ret
              exact ⟨by rw [HOKK.out]; first | done | rfl, HLI.out⟩
  · have hI0 : checkI funs rs = 17 := checkI_f (fun h => hroot h.2.1)
    rw [hI0]
    rw [rootB_f hroot] at HROOT
    clear HLOW HCE HG3 HFV
    go_enter Tryz.func12, Tryz.ntmps12
    go_wp2
    go_region
    all_goals
      rw [← hW3]
      clear hW3 MK
      go_wp2_with fail
      refine HROOT.out.mono ?_
      rintro e w4 ⟨rfl, hb4⟩
      have HB4 := Lib.hid (HB3.out.trans (hb4.mono HB3.out.size))
      clear hb4
      go_wp2
      go_ret
      exact ⟨rfl, HB4.out⟩
end Go.Ck
namespace Go.Ck
open Go Go.RowKit Go.Proofs
def AllG (m : Nat) (L : Gs) : Prop := ∀ f, 0 < f → f < m → L[f]? ≠ some none
theorem groupsR_ok {w : World} {funs : List (List Ins)} {fv : Value} {ra : Option Addr} {r rc : Nat} (hf : FunsV w fv funs) (hm : funs.length ≤ 250) (hn : ∀ c ∈ funs, c.length ≤ 250) (hops : ∀ c ∈ funs, ∀ x ∈ c, x.op = 6 → 1 ≤ x.a ∧ 1 ≤ x.b ∧ x.a + x.b ≤ funs.length) :
    Calls Tryz.prog 17 #[.agg #[fv, .slice ra r rc]] w fun e w' => Hid (Below w.heap.size w w') ∧ ((∃ gb L, e = .returned (.tuple #[.slice (some ⟨gb, 0, none⟩) funs.length funs.length, .bool true]) ∧ Hid (w.heap.size ≤ gb ∧ grpF funs (some (List.replicate funs.length none)) = some L ∧ AllG funs.length L ∧ GrpR w' gb L)) ∨
      (e = .returned (.tuple #[.slice none 0 0, .bool false]) ∧ Hid (¬ ∃ L, grpF funs (some (List.replicate funs.length none)) = some L ∧ AllG funs.length L))) := by
  obtain ⟨fa, fc, rfl, hfc, _⟩ := id hf
  obtain ⟨W3, hW3⟩ : ∃ W3, W3 = (w.alloc (.cells #[.slice fa funs.length fc, .slice ra r rc] 25)).alloc (.cells (grZ funs.length) 74) := ⟨_, rfl⟩
  have hb3 : Below w.heap.size w W3 := by rw [hW3]; exact ((Below.refl _ _).alloc (Nat.le_refl _) _).alloc (by simp) _
  have hs3 : W3.heap.size = w.heap.size + 1 + 1 := by rw [hW3]; simp
  have b0 : W3.cell? ⟨w.heap.size, 0, none⟩ = some (.slice fa funs.length fc) := by rw [hW3]; simp [go_sem]
  have hg3 : GrpR W3 (w.heap.size + 1) (List.replicate funs.length none) := grZ_grp (by rw [hW3]; exact two_new w _ _)
  have HLOW : Hid (∀ x, KeptG (w.heap.size + 1) W3 x → Below w.heap.size w x) := Lib.hid fun x hx => hb3.trans ((hx.below (B := w.heap.size) (by omega) (by omega)))
  have HCE : Hid (∀ x, KeptG (w.heap.size + 1) W3 x → x.cell? ⟨w.heap.size, 0, none⟩ = some (.slice fa funs.length fc) ∧ w.heap.size + 1 < x.heap.size) := Lib.hid fun x hx =>
    ⟨hx.cell (by omega) b0, by have := hx.size; omega⟩
  have HG3 := Lib.hid hg3
  have HFV := Lib.hid hf
  have HOP := Lib.hid hops
  have MK := fun w => mk69 (n := funs.length) (by omega) w
  have im : (funs.length : Int) ≤ 250 := by omega
  clear hf hb3 hg3 hops
  go_enter Tryz.func17, Tryz.ntmps17
  go_wp2
  rw [← hW3]
  clear hW3 MK
  go_loopw [5] (fun j wr => ∃ k : Nat, k ≤ funs.length ∧ j = .int .i64 k ∧ Hid (∃ L, grpF (funs.take k) (some (List.replicate funs.length none)) = some L ∧ GrpR wr (w.heap.size + 1) L) ∧ Hid (KeptG (w.heap.size + 1) W3 wr)) (fun j _ => funs.length - (intOf j).toNat)
  case atStart => exact ⟨0, Nat.zero_le _, rfl, Lib.hid ⟨_, rfl, HG3.out⟩, Lib.hid (KeptG.of_below (Below.refl _ _))⟩
  case round =>
    obtain ⟨k, hk, rfl, hGK, hKK⟩ := hrel
    obtain ⟨q0, q1⟩ := HCE.out _ hKK.out
    have HLW := Lib.hid (HLOW.out _ hKK.out)
    obtain ⟨L, hL1, hL2⟩ := hGK.out
    have HL1 := Lib.hid hL1
    have HL2 := Lib.hid hL2
    have hLl : L.length = funs.length := by rw [grpF_len hL1]; simp
    by_cases hlt : k < funs.length
    · obtain ⟨code, hcode⟩ : ∃ code, funs[k]? = some code := ⟨funs[k], List.getElem?_eq_getElem hlt⟩
      have hcm := List.mem_of_getElem? hcode
      have hn1 := hn code hcm
      obtain ⟨_, _, g1, o1, ca, cc, rfl, c0w, hcv⟩ := HFV.out.at hcode
      have HFC := Lib.hid hcode
      have HCV := Lib.hid hcv
      have hcc : code.length ≤ cc := by obtain ⟨a', c', e, h, _⟩ := hcv; cases e; exact h
      have HC0 : Hid (∀ x, Below w.heap.size w x → x.cell? ⟨g1, o1 + k, none⟩ = some (.slice ca code.length cc)) := Lib.hid fun x hx => by rw [hx.cell (by exact cell_lt' c0w)]; exact c0w
      have c0 := HC0.out _ HLW.out
      have y1 : (k : Int) < (funs.length : Int) := by omega
      have y0 : (0 : Int) ≤ (k : Int) := by omega
      have yn : (code.length : Int) ≤ 250 := by omega
      clear hL1 hL2 hGK hcv hcode
      go_wp2
      go_loopw [6] (fun j wr2 => ∃ i : Nat, i ≤ code.length ∧ j = .int .i64 i ∧ Hid (∃ L', grpI (code.take i) (some L) = some L' ∧ GrpR wr2 (w.heap.size + 1) L') ∧ Hid (KeptG (w.heap.size + 1) W3 wr2)) (fun j _ => code.length - (intOf j).toNat)
      case atStart => exact ⟨0, Nat.zero_le _, rfl, Lib.hid ⟨_, rfl, HL2.out⟩, hKK⟩
      case round =>
        obtain ⟨i, hi, rfl, hGI, hKI⟩ := hrel
        obtain ⟨p0, p1⟩ := HCE.out _ hKI.out
        have HLI := Lib.hid (HLOW.out _ hKI.out)
        have c0i := HC0.out _ HLI.out
        obtain ⟨L', hI1, hI2⟩ := hGI.out
        have hLl' : L'.length = funs.length := by rw [grpI_len hI1, hLl]
        by_cases hlti : i < code.length
        · obtain ⟨x, hx⟩ : ∃ x, code[i]? = some x := ⟨code[i], List.getElem?_eq_getElem hlti⟩
          obtain ⟨_, _, cg, co, rfl, x0, x1, x2, x3, x4⟩ := (HCV.out.below HLI.out).at hx
          have hxm : x ∈ code := List.mem_of_getElem? hx
          have gl2 := cell_lt' x0
          have gl1 := cell_lt' c0i
          have ii1 : (i : Int) < (code.length : Int) := by omega
          have ii0 : (0 : Int) ≤ (i : Int) := by omega
          obtain ⟨X2, hX2⟩ : ∃ X2, X2 = wr.alloc (.cells #[.int .u8 x.op, .int .i64 x.a, .int .i64 x.b, .int .i64 x.c, .string x.t] 48) := ⟨_, rfl⟩
          have hbX : Below wr.heap.size wr X2 := by rw [hX2]; exact (Below.refl _ _).alloc (Nat.le_refl _) _
          have hsX : X2.heap.size = wr.heap.size + 1 := by rw [hX2]; simp
          have v0 : X2.cell? ⟨wr.heap.size, 0, none⟩ = some (.int .u8 x.op) := by rw [hX2]; simp [go_sem]
          have v1 : X2.cell? ⟨wr.heap.size, 1, none⟩ = some (.int .i64 x.a) := by rw [hX2]; simp [go_sem]
          have v2 : X2.cell? ⟨wr.heap.size, 2, none⟩ = some (.int .i64 x.b) := by rw [hX2]; simp [go_sem]
          have v3 : X2.cell? ⟨wr.heap.size, 3, none⟩ = some (.int .i64 x.c) := by rw [hX2]; simp [go_sem]
          have v4 : X2.cell? ⟨wr.heap.size, 4, none⟩ = some (.string x.t) := by rw [hX2]; simp [go_sem]
          have hKX : KeptG (w.heap.size + 1) W3 X2 := hKI.out.trans (KeptG.of_below hbX)
          have hG2 : GrpR X2 (w.heap.size + 1) L' := hI2.keep (hbX.block _ p1)
          have HI1 := Lib.hid hI1
          have HXX := Lib.hid hx
          by_cases ho : x.op = 6
          · obtain ⟨h1, h2, h3⟩ := HOP.out code hcm x hxm ho
            have hg : grpX L' x = putG x x.a.toNat L' x.b.toNat := by unfold grpX; rw [if_pos ho]
            obtain ⟨A, hA⟩ : ∃ A : Nat, x.a = A := ⟨x.a.toNat, by omega⟩
            obtain ⟨B, hB⟩ : ∃ B : Nat, x.b = B := ⟨x.b.toNat, by omega⟩
            rw [hA, hB] at hg
            simp only [Int.toNat_natCast] at hg
            have HXB := Lib.hid h2
            have HXA := Lib.hid hA
            have HXBB := Lib.hid hB
            rw [ho] at v0
            rw [hA] at v1
            rw [hB] at v2
            have hAB : A + B ≤ 250 := by omega
            have hBm : A + B ≤ funs.length := by omega
            have hwr : IntKind.i64.wrap ((A : Int) + (B : Int)) = (A : Int) + (B : Int) := by rw [IntKind.wrap_i64]; omega
            have HG2 := Lib.hid hG2
            have HKX := Lib.hid hKX
            have HCX : Hid (∀ y, KeptG (w.heap.size + 1) X2 y → y.cell? ⟨wr.heap.size, 0, none⟩ = some (.int .u8 6) ∧ y.cell? ⟨wr.heap.size, 1, none⟩ = some (.int .i64 A) ∧ y.cell? ⟨wr.heap.size, 2, none⟩ = some (.int .i64 B) ∧ y.cell? ⟨wr.heap.size, 3, none⟩ = some (.int .i64 x.c)) := Lib.hid fun y hy =>
              ⟨hy.cell (by omega) v0, hy.cell (by omega) v1, hy.cell (by omega) v2, hy.cell (by omega) v3⟩
            have HGG := Lib.hid hg
            have HX2 := hX2
            have HO6 := Lib.hid ho
            clear hI1 hI2 hGI hbX hKX hG2 hx h1 h2 h3 hA hB hg ho
            go_upto_region 9 with (fail)
            rw [← hX2]
            clear hX2 HX2
            go_wp2
            go_loopw [8] (fun j wq => ∃ r : Nat, r ≤ B ∧ j = .int .i64 ((A : Int) + r) ∧ Hid (∃ L'', putG x A L' r = some L'' ∧ GrpR wq (w.heap.size + 1) L'') ∧ Hid (KeptG (w.heap.size + 1) X2 wq)) (fun j _ => A + B - (intOf j).toNat)
            case atStart => exact ⟨0, Nat.zero_le _, by simp, Lib.hid ⟨L', rfl, HG2.out⟩, Lib.hid (KeptG.of_below (Below.refl _ _))⟩
            case round =>
              obtain ⟨r, hr, rfl, hE, hO⟩ := hrel
              obtain ⟨z0, z1, z2, z3⟩ := HCX.out _ hO.out
              obtain ⟨L'', hput, hG'⟩ := hE.out
              have hlen' := putG_len hput
              have HK : Hid (KeptG (w.heap.size + 1) W3 wr) := Lib.hid (HKX.out.trans hO.out)
              have HLR := Lib.hid (HLOW.out _ HK.out)
              by_cases hltr : r < B
              · have hil : A + r < L''.length := by omega
                obtain ⟨o, hoi⟩ : ∃ o, L''[A + r]? = some o := ⟨L''[A + r], List.getElem?_eq_getElem hil⟩
                obtain ⟨t0, t1, t2, yz⟩ := hG'.at hoi
                have yz0 := yz ((A + r) * 3)
                have yz1 := yz ((A + r) * 3 + 1)
                have yz2 := yz ((A + r) * 3 + 2)
                have j0 : ((A : Int) + (r : Int)) < (A : Int) + (B : Int) := by omega
                have j1 : (0 : Int) ≤ (A : Int) + (r : Int) := by omega
                have j2 : (A : Int) + (r : Int) < (funs.length : Int) := by omega
                have j3 : ((A : Int) + (r : Int)).toNat = A + r := by omega
                have j4 : IntKind.i64.wrap ((A : Int) + (r : Int) + 1) = (A : Int) + (r : Int) + 1 := by rw [IntKind.wrap_i64]; omega
                have hgw : w.heap.size + 1 < wr.heap.size := cell_lt' t0
                cases o with
                | some y =>
                  have hop : 1 ≤ y.b := by obtain ⟨cs, _, _, h⟩ := hG'; exact (h _ _ hoi).1 _ rfl
                  have hop' : 0 < y.b := by omega
                  simp only [Option.getD_some] at t0 t1 t2
                  have hnone : grpX L' x = none := by
                    rw [HGG.out]
                    have : putG x A L' (r + 1) = none := by
                      show (match putG x A L' r with | none => none | some L' => _) = none
                      rw [hput]; simp only; rw [hoi]
                    have h := putG_none this (B - (r + 1))
                    rwa [show r + 1 + (B - (r + 1)) = B by omega] at h
                  have HNO : Hid (¬ ∃ L, grpF funs (some (List.replicate funs.length none)) = some L ∧ AllG funs.length L) := Lib.hid fun ⟨LL, hLL, _⟩ => by
                    have z1 : grpI (code.take (i + 1)) (some L) = none := by rw [take_snoc HXX.out, grpI_snoc, HI1.out]; exact hnone
                    have z2 : grpF (funs.take (k + 1)) (some (List.replicate funs.length none)) = none := by
                      rw [take_snoc HFC.out, grpF_snoc, HL1.out]; exact grpI_take z1
                    rw [grpF_take z2] at hLL; cases hLL
                  clear hput hG' hE HG2 HGG yz hnone
                  go_wp2
                  go_ret2
                  exact ⟨HLR, .inr ⟨rfl, HNO⟩⟩
                | none =>
                  simp only [Option.getD_none] at t0 t1 t2
                  unfold zIns at t0 t1 t2
                  simp only at t0 t1 t2
                  have hsome : putG x A L' (r + 1) = some (L''.set (A + r) (some x)) := by
                    show (match putG x A L' r with | none => none | some L' => _) = _
                    rw [hput]; simp only; rw [hoi]
                  have HS := Lib.hid hsome
                  obtain ⟨W5, hW5⟩ : ∃ W5, W5 = ((wr.setCell ⟨w.heap.size + 1, (A + r) * 3, none⟩ (.int .i64 A)).setCell ⟨w.heap.size + 1, (A + r) * 3 + 1, none⟩ (.int .i64 B)).setCell ⟨w.heap.size + 1, (A + r) * 3 + 2, none⟩ (.int .i64 x.c) := ⟨_, rfl⟩
                  have hG5 : GrpR W5 (w.heap.size + 1) (L''.set (A + r) (some x)) := hG'.put hil HXB.out fun cs hcs => by
                    rw [hW5, HXA.out, HXBB.out]
                    exact heap_setCell_same _ (w.heap.size + 1) _ _ _ _ (heap_setCell_same _ (w.heap.size + 1) _ _ _ _ (heap_setCell_same _ (w.heap.size + 1) _ _ _ _ hcs))
                  have hK5 : KeptG (w.heap.size + 1) wr W5 := by
                    refine ⟨by rw [hW5]; rfl, by rw [hW5]; rfl, by rw [hW5]; rfl, by rw [hW5]; simp, fun b hb h1 _ _ => ?_, fun k hk => by cases hk⟩
                    have h1 : b ≠ w.heap.size + 1 := h1
                    rw [hW5, heap_setCell_other _ ⟨w.heap.size + 1, (A + r) * 3 + 2, none⟩ b _ h1, heap_setCell_other _ ⟨w.heap.size + 1, (A + r) * 3 + 1, none⟩ b _ h1, heap_setCell_other _ ⟨w.heap.size + 1, (A + r) * 3, none⟩ b _ h1]
                  have HF5 : Hid (GrpR W5 (w.heap.size + 1) (L''.set (A + r) (some x)) ∧ KeptG (w.heap.size + 1) X2 W5) := Lib.hid ⟨hG5, hO.out.trans hK5⟩
                  clear hput hG' hE HG2 HGG yz hsome hG5 hK5
                  go_wp2
                  rw [← hW5]
                  clear hW5
                  go_roundw
                  case rel => exact ⟨r + 1, by omega, by simp; omega, Lib.hid ⟨_, HS.out, HF5.out.1⟩, Lib.hid HF5.out.2⟩
                  case measure => simp [intOf]; omega
              · obtain rfl : r = B := by omega
                have HFIN : Hid (grpI (code.take (i + 1)) (some L) = some L'' ∧ GrpR wr (w.heap.size + 1) L'') := Lib.hid ⟨by rw [take_snoc HXX.out, grpI_snoc, HI1.out]; exact HGG.out.trans hput, hG'⟩
                have j0 : ¬ ((A : Int) + (r : Int)) < (A : Int) + (r : Int) := by omega
                clear hput hG' hE HG2 HGG
                go_wp2
                go_roundw
                case rel => exact ⟨i + 1, by omega, by simp, Lib.hid ⟨L'', HFIN.out.1, HFIN.out.2⟩, HK⟩
                case measure => simp [intOf]; omega
          · have hg : grpX L' x = some L' := by unfold grpX; rw [if_neg ho]
            have hd : (x.op == 6) = false := by simpa using ho
            have HFIN : Hid (grpI (code.take (i + 1)) (some L) = some L' ∧ GrpR X2 (w.heap.size + 1) L') := Lib.hid ⟨by rw [take_snoc HXX.out, grpI_snoc, HI1.out]; exact hg, hG2⟩
            have HKX := Lib.hid hKX
            clear hI1 hI2 hGI hbX hKX hG2 hx hg
            go_upto_region 9 with (fail)
            rw [← hX2]
            clear hX2
            go_wp2
            go_roundw
            case rel => exact ⟨i + 1, by omega, by simp, Lib.hid ⟨L', HFIN.out.1, HFIN.out.2⟩, HKX⟩
            case measure => simp [intOf]; omega
        · obtain rfl : i = code.length := by omega
          have HFIN : Hid (grpF (funs.take (k + 1)) (some (List.replicate funs.length none)) = some L' ∧ GrpR wr (w.heap.size + 1) L') := Lib.hid ⟨by rw [take_snoc HFC.out, grpF_snoc, HL1.out]; rw [List.take_length] at hI1; exact hI1, hI2⟩
          have gl1 := cell_lt' c0i
          clear hI1 hI2 hGI
          go_wp2
          go_roundw
          case rel => exact ⟨k + 1, by omega, by simp, Lib.hid ⟨L', HFIN.out.1, HFIN.out.2⟩, hKI⟩
          case measure => simp [intOf]; omega
    · obtain rfl : k = funs.length := by omega
      have HGT : Hid (grpF funs (some (List.replicate funs.length none)) = some L) := Lib.hid (by rw [List.take_length] at hL1; exact hL1)
      clear hL1 hL2 hGK
      go_wp2
      go_loopw [9] (fun j wr => ∃ f : Nat, f ≤ funs.length + 1 ∧ j = .int .i64 ((f : Int) + 1) ∧ Hid (∀ f', 0 < f' → f' < f + 1 → f' < funs.length → L[f']? ≠ some none) ∧ Hid (KeptG (w.heap.size + 1) W3 wr) ∧ Hid (GrpR wr (w.heap.size + 1) L)) (fun j _ => funs.length + 5 - (intOf j).toNat)
      case atStart => exact ⟨0, by omega, by simp, Lib.hid (fun f' h1 h2 => by omega), hKK, HL2⟩
      case round =>
        obtain ⟨f, hf, rfl, hFF, hKI, hGI⟩ := hrel
        obtain ⟨p0, p1⟩ := HCE.out _ hKI.out
        have HLI := Lib.hid (HLOW.out _ hKI.out)
        by_cases hltf : f + 1 < funs.length
        · obtain ⟨o, ho⟩ : ∃ o, L[f + 1]? = some o := ⟨L[f + 1]'(by omega), List.getElem?_eq_getElem _⟩
          obtain ⟨t0, t1, t2, _⟩ := hGI.out.at ho
          have j0 : ((f : Int) + 1) < (funs.length : Int) := by omega
          have j1 : (0 : Int) ≤ (f : Int) + 1 := by omega
          have j3 : ((f : Int) + 1).toNat = f + 1 := by omega
          have j4 : IntKind.i64.wrap ((f : Int) + 1 + 1) = (f : Int) + 1 + 1 := by rw [IntKind.wrap_i64]; omega
          have HO := Lib.hid ho
          clear ho
          cases o with
          | none =>
            simp only [Option.getD_none] at t0 t1 t2
            unfold zIns at t0 t1 t2
            simp only at t0 t1 t2
            have HNO : Hid (¬ ∃ L, grpF funs (some (List.replicate funs.length none)) = some L ∧ AllG funs.length L) := Lib.hid fun ⟨LL, hLL, hA⟩ => by
              rw [HGT.out] at hLL; cases hLL
              exact hA (f + 1) (by omega) hltf HO.out
            go_wp2
            go_ret2
            exact ⟨HLI, .inr ⟨rfl, HNO⟩⟩
          | some y =>
            have hop : 1 ≤ y.b := by obtain ⟨cs, _, _, h⟩ := hGI.out; exact (h _ _ HO.out).1 _ rfl
            have hop' : ¬ y.b = 0 := by omega
            have hopb : (y.b == 0) = false := by simpa using hop'
            simp only [Option.getD_some] at t0 t1 t2
            have HNX : Hid (∀ f', 0 < f' → f' < f + 1 + 1 → f' < funs.length → L[f']? ≠ some none) := Lib.hid fun f' h1 h2 h3 => by
              by_cases e : f' = f + 1
              · subst e; rw [HO.out]; simp
              · exact hFF.out f' h1 (by omega) h3
            go_wp2
            go_roundw
            case rel => exact ⟨f + 1, by omega, by simp, HNX, hKI, hGI⟩
            case measure => simp [intOf]; omega
        · have j0 : ¬ ((f : Int) + 1) < (funs.length : Int) := by omega
          have HAL : Hid (AllG funs.length L) := Lib.hid fun f' h1 h2 => hFF.out f' h1 (by omega) h2
          go_wp2
          go_ret2
          exact ⟨HLI, .inl ⟨w.heap.size + 1, rfl, L, Lib.hid ⟨by omega, HGT.out, HAL.out, hGI.out⟩⟩⟩
end Go.Ck
namespace Go.Ck
open Go Go.RowKit Go.Proofs
theorem checkR_ok {w : World} {funs : List (List Ins)} {rs : Rts} {fv rv : Value} (hf : FunsV w fv funs) (hr : RootsV w rv rs) (hm : funs.length ≤ 250) (hn : ∀ c ∈ funs, c.length ≤ 250) (hrs : rs.length ≤ 60000) (hI : ∀ c ∈ funs, ∀ x ∈ c, rng x.a ∧ rng x.b) :
    Calls Tryz.prog 8 #[.agg #[fv, rv]] w fun e w' => e = .returned (.int .i64 (checkI funs rs)) ∧ Below w.heap.size w w' := by
  obtain ⟨fa, fc, rfl, hfc, _⟩ := id hf
  obtain ⟨ra, rc, rfl, hrc, _⟩ := id hr
  obtain ⟨W3, hW3⟩ : ∃ W3, W3 = w.alloc (.cells #[.slice fa funs.length fc, .slice ra rs.length rc] 25) := ⟨_, rfl⟩
  have hb3 : Below w.heap.size w W3 := by rw [hW3]; exact (Below.refl _ _).alloc (Nat.le_refl _) _
  have hs3 : W3.heap.size = w.heap.size + 1 := by rw [hW3]; simp
  have b0 : W3.cell? ⟨w.heap.size, 0, none⟩ = some (.slice fa funs.length fc) := by rw [hW3]; simp [go_sem]
  have b1 : W3.cell? ⟨w.heap.size, 1, none⟩ = some (.slice ra rs.length rc) := by rw [hW3]; simp [go_sem]
  have HROOT := Lib.hid (rootedR_ok (hr.below hb3) hrs)
  have HLOW : Hid (∀ x, Below W3.heap.size W3 x → Below w.heap.size w x) := Lib.hid fun x hx => hb3.trans (hx.mono (by omega))
  have HCE : Hid (∀ x, Below W3.heap.size W3 x → x.cell? ⟨w.heap.size, 0, none⟩ = some (.slice fa funs.length fc) ∧ x.cell? ⟨w.heap.size, 1, none⟩ = some (.slice ra rs.length rc) ∧ w.heap.size < x.heap.size) := Lib.hid fun x hx =>
    ⟨by rw [hx.cell (by exact cell_lt' b0)]; exact b0, by rw [hx.cell (by exact cell_lt' b1)]; exact b1, by have := hx.size; omega⟩
  have HB3 := Lib.hid hb3
  have HFV := Lib.hid hf
  have im : (funs.length : Int) ≤ 250 := by omega
  have hwl : w.heap.size < W3.heap.size := by omega
  clear hf hr hb3
  by_cases h0 : funs = []
  · subst h0
    have hI0 : checkI [] rs = 17 := checkI_f (fun h => h.1 rfl)
    have b0' : W3.cell? ⟨w.heap.size, 0, none⟩ = some (.slice fa 0 fc) := b0
    rw [hI0]
    clear HROOT HLOW HCE HFV b0
    go_enter Tryz.func8, Tryz.ntmps8
    go_upto_region 1 with (fail)
    simp only [List.length_nil] at hW3
    rw [← hW3]
    clear hW3
    go_wp2
    go_ret
    exact ⟨rfl, HB3.out⟩
  have hpos : 0 < funs.length := List.length_pos_iff.2 h0
  have hz : ¬ ((funs.length : Int) = 0) := by omega
  have hzb : ((funs.length : Int) == 0) = false := by simpa using hz
  by_cases hroot : rootP rs
  · rw [rootB_t hroot] at HROOT
    go_enter Tryz.func8, Tryz.ntmps8
    go_upto_region 1 with (fail)
    rw [← hW3]
    clear hW3
    go_wp2_with fail
    refine HROOT.out.mono ?_
    rintro e w4 ⟨rfl, hb4⟩
    have HK4 := Lib.hid hb4
    obtain ⟨z0, z1, z2⟩ := HCE.out _ hb4
    clear hb4 HROOT
    go_wp2
    go_loopw [3] (fun j wr => ∃ k : Nat, k ≤ funs.length ∧ j = .int .i64 k ∧ Hid (∀ f c, funs[f]? = some c → f < k → ∀ x ∈ c, opP funs.length c.length rs.length x) ∧ Hid (Below W3.heap.size W3 wr)) (fun j _ => funs.length - (intOf j).toNat)
    case atStart => exact ⟨0, Nat.zero_le _, rfl, Lib.hid (fun f c _ hf => absurd hf (Nat.not_lt_zero _)), HK4⟩
    case round =>
      obtain ⟨k, hk, rfl, hOK, hKK⟩ := hrel
      obtain ⟨q0, q1, q2⟩ := HCE.out _ hKK.out
      have HLW := Lib.hid (HLOW.out _ hKK.out)
      by_cases hlt : k < funs.length
      · obtain ⟨code, hcode⟩ : ∃ code, funs[k]? = some code := ⟨funs[k], List.getElem?_eq_getElem hlt⟩
        have hcm := List.mem_of_getElem? hcode
        have hn1 := hn code hcm
        obtain ⟨_, _, g1, o1, ca, cc, rfl, c0w, hcv⟩ := HFV.out.at hcode
        have HFC := Lib.hid hcode
        have HCV := Lib.hid hcv
        have hcc : code.length ≤ cc := by obtain ⟨a', c', e, h, _⟩ := hcv; cases e; exact h
        have HC0 : Hid (∀ x, Below w.heap.size w x → x.cell? ⟨g1, o1 + k, none⟩ = some (.slice ca code.length cc)) := Lib.hid fun x hx => by rw [hx.cell (by exact cell_lt' c0w)]; exact c0w
        have y1 : (k : Int) < (funs.length : Int) := by omega
        have y0 : (0 : Int) ≤ (k : Int) := by omega
        have yn : (code.length : Int) ≤ 250 := by omega
        clear hcv hcode
        go_wp2
        go_loopw [4] (fun j wr2 => ∃ i : Nat, i ≤ code.length ∧ j = .int .i64 i ∧ Hid (∀ x ∈ code.take i, opP funs.length code.length rs.length x) ∧ Hid (Below W3.heap.size W3 wr2)) (fun j _ => code.length - (intOf j).toNat)
        case atStart => exact ⟨0, Nat.zero_le _, rfl, Lib.hid (fun x hx => by simp at hx), hKK⟩
        case round =>
          obtain ⟨i, hi, rfl, hOI, hKI⟩ := hrel
          obtain ⟨p0, p1, p2⟩ := HCE.out _ hKI.out
          have HLI := Lib.hid (HLOW.out _ hKI.out)
          have c0i := HC0.out _ HLI.out
          have gl1 := cell_lt' c0i
          by_cases hlti : i < code.length
          · obtain ⟨x, hx⟩ : ∃ x, code[i]? = some x := ⟨code[i], List.getElem?_eq_getElem hlti⟩
            obtain ⟨_, _, cg, co, rfl, x0, x1, x2, x3, x4⟩ := (HCV.out.below HLI.out).at hx
            have hxm : x ∈ code := List.mem_of_getElem? hx
            have hrr := hI code hcm x hxm
            have gl2 := cell_lt' x0
            have ii1 : (i : Int) < (code.length : Int) := by omega
            have ii0 : (0 : Int) ≤ (i : Int) := by omega
            have H16 : Hid (∀ X, Below wr.heap.size wr X → Calls Tryz.prog 16 #[.agg #[.slice (some ⟨g1, o1, none⟩) funs.length fc, .slice ra rs.length rc], .int .i64 k, insA x] X fun e w' => e = .returned (.bool (opB funs.length code.length rs.length x)) ∧ Hid (Below W3.heap.size W3 w')) := Lib.hid fun X hX => by
              have hWX : Below W3.heap.size W3 X := hKI.out.trans (hX.mono hKI.out.size)
              exact (opsR_ok (w := X) (f := k) (x := x) hlt (by omega) (by omega : code.length ≤ 60000) hrs (HC0.out _ (HLOW.out _ hWX)) hrr.1 hrr.2).mono fun e w' ⟨h1, h2⟩ => ⟨h1, Lib.hid (hWX.trans (h2.mono hWX.size))⟩
            unfold insA at H16
            have H1 := Lib.hid (H16.out _ (Below.refl _ _))
            have H1d := Lib.hid (H16.out _ (Below.refl _ _).drew)
            have HXX := Lib.hid hx
            clear hx hrr H16
            by_cases hop : opP funs.length code.length rs.length x
            · rw [opB_t hop] at H1 H1d
              go_wp2
              go_region_with (go_at_call 16; (first | refine H1.out.mono ?_ | refine H1d.out.mono ?_); rintro e w6 ⟨rfl, HB6⟩)
              all_goals
                go_wp2
                go_roundw
                case rel =>
                  refine ⟨i + 1, by omega, by simp, Lib.hid fun y hy => ?_, by first | exact HB6 | exact Lib.hid HB6.out.drew⟩
                  rw [take_snoc HXX.out] at hy
                  rcases List.mem_append.1 hy with h | h
                  · exact hOI.out y h
                  · obtain rfl := List.mem_singleton.1 h; exact hop
                case measure => simp [intOf]; omega
            · rw [opB_f hop] at H1 H1d
              go_wp2
              go_region_with (go_at_call 16; (first | refine H1.out.mono ?_ | refine H1d.out.mono ?_); rintro e w6 ⟨rfl, HB6⟩)
              all_goals
                go_wp2
                go_ret
                refine ⟨congrArg (fun z => Ending.returned (Value.int .i64 z)) (checkI_f fun hc => hop (checkP_ops hc HFC.out hxm)).symm, by first | exact HLOW.out _ HB6.out | exact (HLOW.out _ HB6.out).drew⟩
          · obtain rfl : i = code.length := by omega
            go_wp2
            go_roundw
            case rel =>
              refine ⟨k + 1, by omega, by simp, Lib.hid fun f c hfc hfk y hy => ?_, hKI⟩
              by_cases e : f = k
              · subst e
                rw [HFC.out] at hfc; cases hfc
                exact hOI.out y (by rw [List.take_length]; exact hy)
              · exact hOK.out f c hfc (by omega) y hy
            case measure => simp [intOf]; omega
      · obtain rfl : k = funs.length := by omega
        have HOPS : Hid (opsP funs rs.length) := Lib.hid fun c hc x hx => by
          obtain ⟨f, hf, rfl⟩ := List.getElem_of_mem hc
          exact hOK.out f _ (List.getElem?_eq_getElem hf) hf x hx
        have H17 := Lib.hid (groupsR_ok (ra := ra) (r := rs.length) (rc := rc) (HFV.out.below HLW.out) hm hn (fun c hc x hx ho => opP_grp (HOPS.out c hc x hx) ho))
        have hr0 := Lib.hid hroot
        go_wp2_with fail
        refine H17.out.mono ?_
        rintro e w5 ⟨HB5, (⟨gb, L, rfl, HGR⟩ | ⟨rfl, HNO⟩)⟩
        · have HK5 : Hid (Below W3.heap.size W3 w5) := Lib.hid (hKK.out.trans (HB5.out.mono hKK.out.size))
          obtain ⟨u0, u1, u2⟩ := HCE.out _ HK5.out
          have hLl : L.length = funs.length := by rw [grpF_len HGR.out.2.1]; simp
          clear H17 q0 q1 q2
          go_wp2
          go_loopw [7] (fun j wr => ∃ k : Nat, k ≤ funs.length ∧ j = .int .i64 k ∧ Hid (∀ f c, funs[f]? = some c → f < k → runP L f c) ∧ Hid (Below w5.heap.size w5 wr)) (fun j _ => funs.length - (intOf j).toNat)
          case atStart => exact ⟨0, Nat.zero_le _, rfl, Lib.hid (fun f c _ h => absurd h (Nat.not_lt_zero _)), Lib.hid (Below.refl _ _)⟩
          case round =>
            obtain ⟨k, hk, rfl, hRK, hKI⟩ := hrel
            have HKW : Hid (Below W3.heap.size W3 wr) := Lib.hid (HK5.out.trans (hKI.out.mono HK5.out.size))
            obtain ⟨p0, p1, p2⟩ := HCE.out _ HKW.out
            have HLI := Lib.hid (HLOW.out _ HKW.out)
            by_cases hlt : k < funs.length
            · obtain ⟨code, hcode⟩ : ∃ code, funs[k]? = some code := ⟨funs[k], List.getElem?_eq_getElem hlt⟩
              have hcm := List.mem_of_getElem? hcode
              have hn1 := hn code hcm
              obtain ⟨_, _, g1, o1, ca, cc, rfl, c0w, hcv⟩ := HFV.out.at hcode
              have HFC := Lib.hid hcode
              obtain ⟨o, ho⟩ : ∃ o, L[k]? = some o := ⟨L[k]'(by omega), List.getElem?_eq_getElem _⟩
              have hby : byG L k = o.getD zIns := by unfold byG; rw [ho]; rfl
              have hgw : gb < w5.heap.size := by obtain ⟨cs, h, _⟩ := HGR.out.2.2.2; exact (Array.getElem?_eq_some_iff.1 h).1
              obtain ⟨s0, s1, s2, _⟩ := (HGR.out.2.2.2.keep (hKI.out.block gb hgw)).at ho
              have hgl := cell_lt' s0
              have y1 : (k : Int) < (funs.length : Int) := by omega
              have y0 : (0 : Int) ≤ (k : Int) := by omega
              have H18 : Hid (∀ X, Below wr.heap.size wr X → Calls Tryz.prog 18 #[.agg #[.slice (some ⟨g1, o1, none⟩) funs.length fc, .slice ra rs.length rc], .int .i64 k, .agg #[.int .i64 (o.getD zIns).a, .int .i64 (o.getD zIns).b, .int .i64 (o.getD zIns).c]] X fun e w' => e = .returned (.bool (goodB ⟨k, (byG L k).b, (byG L k).c, code⟩)) ∧ Hid (Below w5.heap.size w5 w')) := Lib.hid fun X hX => by
                have hWX : Below w5.heap.size w5 X := hKI.out.trans (hX.mono hKI.out.size)
                have hLX := HLI.out.trans (hX.mono HLI.out.size)
                rw [hby]
                exact (runsR_ok (w := X) (f := k) hlt (by omega) (by rw [hLX.cell (by exact cell_lt' c0w)]; exact c0w) (hcv.below hLX) (by omega) (fun x hx => opP_ins (HOPS.out code hcm x hx) (by omega) (by omega))).mono fun e w' ⟨h1, h2⟩ => ⟨h1, Lib.hid (hWX.trans (h2.mono hWX.size))⟩
              have H1 := Lib.hid (H18.out _ (Below.refl _ _))
              have H1d := Lib.hid (H18.out _ (Below.refl _ _).drew)
              have HO := Lib.hid ho
              have HRP : Hid (runP L k code → ∀ f c, funs[f]? = some c → f < k + 1 → runP L f c) := Lib.hid fun hp f c hfc hfk => by
                by_cases e : f = k
                · subst e; rw [HFC.out] at hfc; cases hfc; exact hp
                · exact hRK.out f c hfc (by omega)
              have HBAD : Hid (¬ runP L k code → ∀ x, Below w5.heap.size w5 x → Ending.returned (Value.int .i64 17) = .returned (.int .i64 (checkI funs rs)) ∧ Below w.heap.size w x) := Lib.hid fun hp x hx => by
                refine ⟨congrArg (fun z => Ending.returned (Value.int .i64 z)) (checkI_f fun hc => hp ?_).symm, HLOW.out _ (HK5.out.trans (hx.mono HK5.out.size))⟩
                obtain ⟨LL, hLL, h⟩ := hc.2.2.2
                rw [HGR.out.2.1] at hLL; cases hLL
                exact h k code HFC.out
              clear hby ho hcode hcv H18
              by_cases hg : Good ⟨k, (byG L k).b, (byG L k).c, code⟩
              · have HR1 := Lib.hid (HRP.out ⟨fun h => HGR.out.2.2.1 k h hlt, hg⟩)
                rw [goodB_t hg] at H1 H1d
                clear HRP HBAD hg
                go_wp2
                go_region_with (go_at_call 18; (first | refine H1.out.mono ?_ | refine H1d.out.mono ?_); rintro e w6 ⟨rfl, HB6⟩)
                all_goals
                  go_wp2
                  go_roundw
                  case rel => exact ⟨k + 1, by omega, by simp, HR1, by first | exact HB6 | exact Lib.hid HB6.out.drew⟩
                  case measure => simp [intOf]; omega
              · have HB1 := Lib.hid (HBAD.out (fun h => hg h.2))
                rw [goodB_f hg] at H1 H1d
                clear HRP HBAD hg
                go_wp2
                go_region_with (go_at_call 18; (first | refine H1.out.mono ?_ | refine H1d.out.mono ?_); rintro e w6 ⟨rfl, HB6⟩)
                all_goals
                  go_wp2
                  go_ret
                  first | exact HB1.out _ HB6.out | exact HB1.out _ HB6.out.drew
            · obtain rfl : k = funs.length := by omega
              have HOKK : Hid (checkI funs rs = 0) := Lib.hid (checkI_t ⟨h0, hr0.out, HOPS.out, L, HGR.out.2.1, fun f c hfc => hRK.out f c hfc (List.getElem?_eq_some_iff.1 hfc).1⟩)
              go_wp2
              go_ret
              exact ⟨by rw [HOKK.out]; first | done | rfl, HLI.out⟩
        · have HK5 : Hid (Below W3.heap.size W3 w5) := Lib.hid (hKK.out.trans (HB5.out.mono hKK.out.size))
          have HLI := Lib.hid (HLOW.out _ HK5.out)
          clear H17 q0 q1 q2
          go_wp2
          go_ret
          refine ⟨congrArg (fun z => Ending.returned (Value.int .i64 z)) (checkI_f fun hc => HNO.out ?_).symm, HLI.out⟩
          obtain ⟨LL, hLL, h⟩ := hc.2.2.2
          exact ⟨LL, hLL, fun f h1 h2 => (h f _ (List.getElem?_eq_getElem h2)).1 h1⟩
  · have hI0 : checkI funs rs = 17 := checkI_f (fun h => hroot h.2.1)
    rw [hI0]
    rw [rootB_f hroot] at HROOT
    go_enter Tryz.func8, Tryz.ntmps8
    go_upto_region 1 with (fail)
    rw [← hW3]
    clear hW3
    go_wp2_with fail
    refine HROOT.out.mono ?_
    rintro e w4 ⟨rfl, hb4⟩
    have HB4 := Lib.hid (HLOW.out _ hb4)
    clear hb4 HLOW HCE HFV
    go_wp2
    go_ret
    exact ⟨rfl, HB4.out⟩
end Go.Ck
