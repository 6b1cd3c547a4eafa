/- One step of the program's walk over a function's code, kind by kind, walked by hand. Each says its own conditions. -/
import Derived.Test.YtllpjpgpanjbiaaGreatDoorCk1
set_option linter.unusedVariables false
set_option linter.unusedSimpArgs false
set_option maxRecDepth 100000
set_option maxHeartbeats 4000000
namespace Go.Ck
open Go Go.RowKit Go.Proofs
def stepX (F : Fn) (K : Know) (left : List Int) (q : Int) (x : Ins) (s : St) : Option (Know × List Int) := match stepR F.f F.gb F.gc K q x s with | none => none | some l => toAll F.code.length K left l
theorem toAll_one (n : Nat) (K : Know) (left : List Int) (e : Int × St) : toAll n K left [e] = toP n K left e := by
  show (match toP n K left e with | none => none | some (K', l') => toAll n K' l' []) = _
  cases toP n K left e with
  | none => rfl
  | some r => obtain ⟨K', l'⟩ := r; rfl
theorem one_onP {F : Fn} {K : Know} {left : List Int} {q : Int} {s : St} {takes puts : Int} : (match one (onR F.f K q s takes puts) with | none => none | some l => toAll F.code.length K left l) = onP F.code.length F.f K left q s takes puts := by
  unfold onP one
  cases onR F.f K q s takes puts with
  | none => rfl
  | some e => exact toAll_one _ _ _ _
structure Pre (p : Pl) (F : Fn) (w : World) (K : Know) (lv v : Value) (left : List Int) (s : St) (q : Int) (x : Ins) (N : Nat) : Prop where
  wk : WK p F w K lv left
  tr : TrV w p.base lv.ownBlock v s.tr
  ins : ∀ t ∈ s.tr, ∃ s', look K t = some s'
  sm : SmallN N K left
  n : N ≤ 90000
  len : s.tr.length ≤ N
  h0 : 0 ≤ s.h
  h1 : s.h ≤ 900000000
  x : InsN x
  q0 : 0 ≤ q
  q1 : q ≤ 90000
  takes : TakesV p.base w
  hts : ∀ e ∈ K, 0 ≤ e.2.h ∧ e.2.h ≤ 900000000
section
variable {f : Nat} {gb gc : Int} {K : Know} {q xa xb xc : Int} {xt : ByteArray} {s : St}
theorem stepR_4 : stepR f gb gc K q ⟨4, xa, xb, xc, xt⟩ s = if xa < gc then one (onR f K q s 0 1) else none := rfl
theorem stepR_5 : stepR f gb gc K q ⟨5, xa, xb, xc, xt⟩ s = if xa < gb then one (onR f K q s 0 1) else none := rfl
theorem stepR_8 : stepR f gb gc K q ⟨8, xa, xb, xc, xt⟩ s = if 0 < f ∧ s.h = 2 ∧ s.tr = [] then some [] else none := rfl
theorem stepR_25 : stepR f gb gc K q ⟨25, xa, xb, xc, xt⟩ s = if f = 0 ∧ s.tr = [] then some [] else none := rfl
theorem stepR_17 : stepR f gb gc K q ⟨17, xa, xb, xc, xt⟩ s = if floorOf f K s ≤ s.h - 1 then some [] else none := rfl
theorem stepR_9 : stepR f gb gc K q ⟨9, xa, xb, xc, xt⟩ s = some [(xa, s)] := rfl
theorem stepR_10 : stepR f gb gc K q ⟨10, xa, xb, xc, xt⟩ s = (onR f K q s 1 0).map fun e => [e, (xa, e.2)] := rfl
theorem stepR_18 : stepR f gb gc K q ⟨18, xa, xb, xc, xt⟩ s = some [(q + 1, ⟨s.h, s.tr ++ [q]⟩), (xa, ⟨s.h + 1, s.tr⟩)] := rfl
theorem stepR_19 : stepR f gb gc K q ⟨19, xa, xb, xc, xt⟩ s = match lastH K s with | none => none | some h => if s.h = h + 1 then some [(q + 1, ⟨s.h, s.tr.dropLast⟩)] else none := rfl
theorem stepR_23 : stepR f gb gc K q ⟨23, xa, xb, xc, xt⟩ s = if f = 0 then some [(q + 1, s), (xb, ⟨s.h + 1, s.tr⟩)] else none := rfl
theorem stepR_24 : stepR f gb gc K q ⟨24, xa, xb, xc, xt⟩ s = if f = 0 then one (onR f K q s 1 1) else none := rfl
end
theorem stepX_none {F : Fn} {K : Know} {left : List Int} {q : Int} {x : Ins} {s : St} (h : stepR F.f F.gb F.gc K q x s = none) : stepX F K left q x s = none := by unfold stepX; rw [h]
theorem stepX_nil {F : Fn} {K : Know} {left : List Int} {q : Int} {x : Ins} {s : St} (h : stepR F.f F.gb F.gc K q x s = some []) : stepX F K left q x s = some (K, left) := by unfold stepX; rw [h]; rfl
theorem stepX_one {F : Fn} {K : Know} {left : List Int} {q : Int} {x : Ins} {s : St} {e : Int × St} (h : stepR F.f F.gb F.gc K q x s = some [e]) : stepX F K left q x s = toP F.code.length K left e := by unfold stepX; rw [h]; exact toAll_one _ _ _ _
theorem stepX_on {F : Fn} {K : Know} {left : List Int} {q : Int} {x : Ins} {s : St} {takes puts : Int} (h : stepR F.f F.gb F.gc K q x s = one (onR F.f K q s takes puts)) : stepX F K left q x s = onP F.code.length F.f K left q s takes puts := by unfold stepX; rw [h]; exact one_onP
theorem toAll_two (n : Nat) (K : Know) (left : List Int) (e e' : Int × St) : toAll n K left [e, e'] = match toP n K left e with | none => none | some r => toP n r.1 r.2 e' := by
  show (match toP n K left e with | none => none | some (K', l') => toAll n K' l' [e']) = _
  cases toP n K left e with
  | none => rfl
  | some r => obtain ⟨K', l'⟩ := r; exact toAll_one _ _ _ _
theorem StepPost.from {res : Option (Know × List Int)} {p : Pl} {F : Fn} {lv lv1 : Value} {w w1 w' : World} {out : Value} {e : Ending} (h : StepPost res p F lv1 w1 out e w') (hk : Kept p lv.ownBlock lv1.ownBlock w w1) (hb : Below p.base w w1) : StepPost res p F lv w out e w' := by
  rcases h with ⟨K', l', h1, h2, lv', h3, h4⟩ | ⟨h1, h2, h3⟩
  · exact .inl ⟨K', l', h1, h2, lv', h3, hk.trans h4⟩
  · exact .inr ⟨h1, h2, hb.trans h3⟩
theorem own_lt {p : Pl} {F : Fn} {w : World} {K : Know} {lv : Value} {left : List Int} (h : WK p F w K lv left) : ∀ k, lv.ownBlock = some k → k < w.heap.size := fun k hk => by obtain ⟨_, cur, hc⟩ := h.queue.own_lt hk; exact (Array.getElem?_eq_some_iff.1 hc).1
theorem own_base {w : World} {b b' e size n : Nat} {v : Value} {xs : List Value} (h : w.ownsRow b e size v n xs) (hb : b' ≤ b) : w.ownsRow b' e size v n xs := ⟨h.1, h.2.imp id fun ⟨g, cap, cur, h1, h2, h3⟩ => ⟨g, cap, cur, h1, Nat.le_trans hb h2, h3⟩⟩
theorem own_slice {w : World} {b e size n : Nat} {v : Value} {xs : List Value} (h : w.ownsRow b e size v n xs) : ∃ a c, v = .slice a n c := by
  rcases h.2 with ⟨rfl, rfl⟩ | ⟨g, cap, cur, rfl, _⟩
  · exact ⟨_, _, rfl⟩
  · exact ⟨_, _, rfl⟩
theorem wp_app_q {B : Nat} {W w : World} {o : Oper} {a : Act} {K : Act → World → Prop} {Q : Exit → Act → World → Prop} {out : Value} {l : List Int} {t : Int} {g : Nat} (s x : Operand)
    (ho : o.op = .call { callee := .builtin .append, args := #[s, x], argTypes := #[36, 36] }) (hs : a.eval s = out) (hx : a.eval x = .slice (some ⟨g, 0, none⟩) 1 1) (hov : Hid (w.ownsRow B 3 1 out l.length (l.map intV))) (hB : Hid (Below B W w)) (hBw : B ≤ W.heap.size) (hc : w.cell? ⟨g, 0, none⟩ = some (.int .i64 t)) (hl : l.length ≤ 1048576)
    (h : ∀ v' w', Hid (w'.ownsRow B 3 1 v' (l.length + 1) (l.map intV ++ [intV t])) → Hid (Below B W w') → K (a.put o.dst v') w') : o.wp Tryz.prog a w K Q := by
  obtain ⟨i, hi, hi2⟩ := Option.map_eq_some_iff.1 i3
  injection hi2 with hz0 hz1
  injection hz1 with hz1 hz2
  have hsz := hB.out.size
  refine wp_append_own w s x 36 ho B 3 i (.int .i64 0) 1 8 Tryz.underlying36 hi hz2 hz0 hz1 rfl (by decide) _ l.length (l.map intV) hs hov.out ⟨g, 0, none⟩ 1 1 [intV t] hx rfl (fun j u hj => ?_) (by intro u hu; obtain rfl := List.mem_singleton.1 hu; rfl) (by simp only [maxLen]; omega) (by omega) (by omega) fun v' w' h1 h2 _ => h v' w' (Lib.hid h1) (Lib.hid (hB.out.grown h2 (by omega) fun k hk => ?_))
  · match j, hj with
    | 0, hj => cases hj; exact hc
  · rcases hov.out.2 with ⟨rfl, _⟩ | ⟨g', cap, cur, rfl, hbg, _⟩
    · cases hk
    · cases hk; exact hbg
theorem TrV.dropLast {w : World} {base : Nat} {q : Option Nat} {a : Option Addr} {c : Nat} {l : List Int} (h : TrV w base q (.slice a l.length c) l) : TrV w base q (.slice a (l.length - 1) c) l.dropLast := by
  obtain ⟨a', c', h1, h2, h3⟩ := h
  cases h1
  refine ⟨_, _, by rw [List.length_dropLast], by rw [List.length_dropLast]; omega, fun h0 => ?_⟩
  rw [List.length_dropLast] at h0
  obtain ⟨g, o, cur, e, hb, hq, hg, hc⟩ := h3 (by omega)
  refine ⟨g, o, cur, e, hb, hq, hg, fun i t ht => hc i t ?_⟩
  rw [List.dropLast_eq_take] at ht
  have hi := (List.getElem?_eq_some_iff.1 ht).1
  rw [List.length_take] at hi
  rwa [List.getElem?_take_of_lt (by omega)] at ht
theorem step_local {p : Pl} {F : Fn} {w : World} {K : Know} {lv v : Value} {left : List Int} {s : St} {q xa xb xc : Int} {xt : ByteArray} {N : Nat} (H : Pre p F w K lv v left s q ⟨3, xa, xb, xc, xt⟩ N) :
    Calls Tryz.prog 51 #[.pointer (some ⟨p.pb, 0, none⟩), .int .i64 q, insA ⟨3, xa, xb, xc, xt⟩, stV s v] w fun e w' => StepPost (stepX F K left q ⟨3, xa, xb, xc, xt⟩ s) p F lv w (.tuple #[]) e w' := by
  obtain ⟨h, hv, hin, hsm, hN, hlen, h0, h1, hx, q0, q1, hT, hts⟩ := H
  obtain ⟨a, c, rfl, hlc, hrow⟩ := id hv
  obtain ⟨W2, hW2⟩ : ∃ W2, W2 = (w.alloc (.cells #[.int .u8 3, .int .i64 xa, .int .i64 xb, .int .i64 xc, .string xt] 48)).alloc (.cells #[.int .i64 s.h, .slice a s.tr.length c] 119) := ⟨_, rfl⟩
  have hb2 : Below w.heap.size w W2 := by rw [hW2]; exact ((Below.refl _ _).alloc (Nat.le_refl _) _).alloc (by simp) _
  have hs2 : W2.heap.size = w.heap.size + 2 := by rw [hW2]; simp
  have hw2 := h.grow hb2
  have hv2 := hv.grow hb2
  have hbl := h.base_lt
  have hk2 : Kept p lv.ownBlock lv.ownBlock w W2 := Kept.of_below hb2
  have hB2 : Below p.base w W2 := hb2.mono hbl
  have HK2 := Lib.hid hk2
  have HB2 := Lib.hid hB2
  have hplt := h.pblt
  have hmlt := h.mlt
  have d0 : W2.cell? ⟨w.heap.size + 1, 0, none⟩ = some (.int .i64 s.h) := by rw [hW2]; simp [go_sem]
  have d1 : W2.cell? ⟨w.heap.size + 1, 1, none⟩ = some (.slice a s.tr.length c) := by rw [hW2]; simp [go_sem]
  have k0 : W2.cell? ⟨w.heap.size, 0, none⟩ = some (.int .u8 3) := by rw [hW2]; simp [go_sem]
  have k1 : W2.cell? ⟨w.heap.size, 1, none⟩ = some (.int .i64 xa) := by rw [hW2]; simp [go_sem]
  have k2 : W2.cell? ⟨w.heap.size, 2, none⟩ = some (.int .i64 xb) := by rw [hW2]; simp [go_sem]
  have k3 : W2.cell? ⟨w.heap.size, 3, none⟩ = some (.int .i64 xc) := by rw [hW2]; simp [go_sem]
  have k4 : W2.cell? ⟨w.heap.size, 4, none⟩ = some (.string xt) := by rw [hW2]; simp [go_sem]
  have HON := Lib.hid (on_spec (q := q) (takes := 0) (puts := 1) hw2 hv2 hin (hsm.small (by omega)) (by omega) h0 (by omega) (by omega) (by omega) (by omega) (by omega) q0 (by omega))
  have HAS := Lib.hid ask_spec
  by_cases hc : xa < s.h
  · have hX : stepX F K left q ⟨3, xa, xb, xc, xt⟩ s = onP F.code.length F.f K left q s 0 1 := by unfold stepX stepR; rw [if_pos rfl, if_pos hc]; exact one_onP
    have HX := Lib.hid hX
    clear hX
    clear h hv hrow hb2 hw2 hv2 hin hsm hx hT hts hk2 hB2
    unfold stV insA at *
    go_enter Tryz.func51, Tryz.ntmps51
    go_wp2_with fail
    rw [← hW2]
    clear hW2
    refine (HAS.out _ _).mono ?_
    rintro e w3 (⟨hb, rfl, rfl⟩ | ⟨hb, rfl, rfl⟩)
    · clear hb
      go_wp2_with fail
      refine HON.out.mono ?_
      rintro e w4 (⟨K', l', hr, rfl, lv', g1, g2⟩ | ⟨hr, rfl, hbw⟩)
      · have HG := Lib.hid (And.intro hr (And.intro g1 g2))
        clear hr g1 g2
        go_wp2
        go_end0
        exact .inl ⟨K', l', HX.out.trans HG.out.1, rfl, lv', HG.out.2.1, HK2.out.trans HG.out.2.2⟩
      · have HG := Lib.hid (And.intro hr hbw)
        clear hr hbw
        go_wp2
        exact ⟨rfl, .inr ⟨HX.out.trans HG.out.1, rfl, HB2.out.trans HG.out.2⟩⟩
    · cases hb
  · have hX : stepX F K left q ⟨3, xa, xb, xc, xt⟩ s = none := by unfold stepX stepR; rw [if_pos rfl, if_neg hc]
    have HX := Lib.hid hX
    clear hX HON
    clear h hv hrow hb2 hw2 hv2 hin hsm hx hT hts hk2 hB2
    unfold stV insA at *
    go_enter Tryz.func51, Tryz.ntmps51
    go_wp2_with fail
    rw [← hW2]
    clear hW2
    refine (HAS.out _ _).mono ?_
    rintro e w3 (⟨hb, rfl, rfl⟩ | ⟨hb, rfl, rfl⟩)
    · cases hb
    · clear hb
      go_wp2
      exact ⟨rfl, .inr ⟨HX.out, rfl, HB2.out⟩⟩
end Go.Ck
namespace Go.Ck
open Go Go.RowKit Go.Proofs
theorem step_env {p : Pl} {F : Fn} {w : World} {K : Know} {lv v : Value} {left : List Int} {s : St} {q xa xb xc : Int} {xt : ByteArray} {N : Nat} (H : Pre p F w K lv v left s q ⟨4, xa, xb, xc, xt⟩ N) :
    Calls Tryz.prog 51 #[.pointer (some ⟨p.pb, 0, none⟩), .int .i64 q, insA ⟨4, xa, xb, xc, xt⟩, stV s v] w fun e w' => StepPost (stepX F K left q ⟨4, xa, xb, xc, xt⟩ s) p F lv w (.tuple #[]) e w' := by
  obtain ⟨h, hv, hin, hsm, hN, hlen, h0, h1, hx, q0, q1, hT, hts⟩ := H
  obtain ⟨a, c, rfl, hlc, hrow⟩ := id hv
  obtain ⟨W2, hW2⟩ : ∃ W2, W2 = (w.alloc (.cells #[.int .u8 4, .int .i64 xa, .int .i64 xb, .int .i64 xc, .string xt] 48)).alloc (.cells #[.int .i64 s.h, .slice a s.tr.length c] 119) := ⟨_, rfl⟩
  have hb2 : Below w.heap.size w W2 := by rw [hW2]; exact ((Below.refl _ _).alloc (Nat.le_refl _) _).alloc (by simp) _
  have hs2 : W2.heap.size = w.heap.size + 2 := by rw [hW2]; simp
  have hw2 := h.grow hb2
  have hv2 := hv.grow hb2
  have hbl := h.base_lt
  have hk2 : Kept p lv.ownBlock lv.ownBlock w W2 := Kept.of_below hb2
  have hB2 : Below p.base w W2 := hb2.mono hbl
  have HK2 := Lib.hid hk2
  have HB2 := Lib.hid hB2
  have hplt := h.pblt
  have hmlt := h.mlt
  have d0 : W2.cell? ⟨w.heap.size + 1, 0, none⟩ = some (.int .i64 s.h) := by rw [hW2]; simp [go_sem]
  have d1 : W2.cell? ⟨w.heap.size + 1, 1, none⟩ = some (.slice a s.tr.length c) := by rw [hW2]; simp [go_sem]
  have k0 : W2.cell? ⟨w.heap.size, 0, none⟩ = some (.int .u8 4) := by rw [hW2]; simp [go_sem]
  have k1 : W2.cell? ⟨w.heap.size, 1, none⟩ = some (.int .i64 xa) := by rw [hW2]; simp [go_sem]
  have k2 : W2.cell? ⟨w.heap.size, 2, none⟩ = some (.int .i64 xb) := by rw [hW2]; simp [go_sem]
  have k3 : W2.cell? ⟨w.heap.size, 3, none⟩ = some (.int .i64 xc) := by rw [hW2]; simp [go_sem]
  have k4 : W2.cell? ⟨w.heap.size, 4, none⟩ = some (.string xt) := by rw [hW2]; simp [go_sem]
  have f0 : W2.cell? ⟨p.pb, 0, none⟩ = some (.int .i64 F.f) := (hw2.cells 0).1
  have f0w : w.cell? ⟨p.pb, 0, none⟩ = some (.int .i64 F.f) := (h.cells 0).1
  have f0l : ((w.alloc (.cells #[.int .u8 4, .int .i64 xa, .int .i64 xb, .int .i64 xc, .string xt] 48)).alloc (.cells #[.int .i64 s.h, .slice a s.tr.length c] 119)).cell? ⟨p.pb, 0, none⟩ = some (.int .i64 F.f) := by rw [← hW2]; exact f0
  have f4 : W2.cell? ⟨p.pb, 4, none⟩ = some (.int .i64 F.gb) := (hw2.cells 4).1
  have f4w : w.cell? ⟨p.pb, 4, none⟩ = some (.int .i64 F.gb) := (h.cells 4).1
  have f4l : ((w.alloc (.cells #[.int .u8 4, .int .i64 xa, .int .i64 xb, .int .i64 xc, .string xt] 48)).alloc (.cells #[.int .i64 s.h, .slice a s.tr.length c] 119)).cell? ⟨p.pb, 4, none⟩ = some (.int .i64 F.gb) := by rw [← hW2]; exact f4
  have f5 : W2.cell? ⟨p.pb, 5, none⟩ = some (.int .i64 F.gc) := (hw2.cells 5).1
  have f5w : w.cell? ⟨p.pb, 5, none⟩ = some (.int .i64 F.gc) := (h.cells 5).1
  have f5l : ((w.alloc (.cells #[.int .u8 4, .int .i64 xa, .int .i64 xb, .int .i64 xc, .string xt] 48)).alloc (.cells #[.int .i64 s.h, .slice a s.tr.length c] 119)).cell? ⟨p.pb, 5, none⟩ = some (.int .i64 F.gc) := by rw [← hW2]; exact f5
  have f7 : W2.cell? ⟨p.pb, 7, none⟩ = some (.map (some p.m)) := (hw2.cells 7).1
  have f7w : w.cell? ⟨p.pb, 7, none⟩ = some (.map (some p.m)) := (h.cells 7).1
  have f7l : ((w.alloc (.cells #[.int .u8 4, .int .i64 xa, .int .i64 xb, .int .i64 xc, .string xt] 48)).alloc (.cells #[.int .i64 s.h, .slice a s.tr.length c] 119)).cell? ⟨p.pb, 7, none⟩ = some (.map (some p.m)) := by rw [← hW2]; exact f7
  have hb2d : Below w.heap.size w W2.drew := hb2.drew
  have hw2d := h.grow hb2d
  have hv2d := hv.grow hb2d
  have d0d : W2.drew.cell? ⟨w.heap.size + 1, 0, none⟩ = some (.int .i64 s.h) := d0
  have d1d : W2.drew.cell? ⟨w.heap.size + 1, 1, none⟩ = some (.slice a s.tr.length c) := d1
  have k1d : W2.drew.cell? ⟨w.heap.size, 1, none⟩ = some (.int .i64 xa) := k1
  have f5d : W2.drew.cell? ⟨p.pb, 5, none⟩ = some (.int .i64 F.gc) := f5
  have HAS := Lib.hid ask_spec
  have HB2d := Lib.hid (hB2.drew)
  have HK2d : Hid (Kept p lv.ownBlock lv.ownBlock w W2.drew) := Lib.hid (Kept.of_below hb2d)
  have HON := Lib.hid (on_spec (q := q) (takes := 0) (puts := 1) hw2d hv2d hin (hsm.small (by omega)) (by omega) h0 (by omega) (by omega) (by omega) (by omega) (by omega) q0 (by omega))
  by_cases hc : xa < F.gc
  · have hc2 := hc
    have HX := Lib.hid (show stepX F K left q ⟨4, xa, xb, xc, xt⟩ s = _ from stepX_on (by rw [stepR_4, if_pos hc]))
    clear h hv hrow hb2d hw2d hv2d hb2 hw2 hv2 hin hsm hx hT hts hk2 hB2
    unfold stV insA at *
    go_enter Tryz.func51, Tryz.ntmps51
    go_wp2_with fail
    rw [← hW2]
    clear hW2
    refine wp_region_held_drew (S := (fun z => z = W2.drew)) (by kernel_rfl) ?_ (fun hHeld => ?_)
    · rfl
    refine wpAnyH_take (i := 0) (oi := { dst := some 38, op := .fieldAddr 48 (.tmp 6) 1, type := _, pos := _, after := _, guard := none }) (v := ?vq1) rfl (by kernel_rfl) (by kernel_rfl) (by kernel_rfl) (fun _ _ _ h => h) (Or.inl ⟨by rfl, ?hyq1⟩) (by assumption) ?restq1
    case hyq1 => (intro w hSw; (try dsimp only at hSw); go_simp; try with_reducible rfl)
    try simp only [Act.put, List.setIfInBounds_toArray, List.set_cons_zero, List.set_cons_succ]
    refine wpAnyH_take (i := 1) (oi := { dst := some 39, op := .load 2 (.tmp 38), type := _, pos := _, after := _, guard := none }) (v := ?vq2) rfl (by kernel_rfl) (by kernel_rfl) (by kernel_rfl) (fun _ _ _ h => h) (Or.inl ⟨by rfl, ?hyq2⟩) (by assumption) ?restq2
    case hyq2 => (intro w hSw; (try dsimp only at hSw); go_simp; try with_reducible rfl)
    try simp only [Act.put, List.setIfInBounds_toArray, List.set_cons_zero, List.set_cons_succ]
    refine wpAnyH_take (i := 2) (oi := { dst := some 40, op := .move (.tmp 0), type := _, pos := _, after := _, guard := none }) (v := ?vq3) rfl (by kernel_rfl) (by kernel_rfl) (by kernel_rfl) (fun _ _ _ h => h) (Or.inl ⟨by rfl, ?hyq3⟩) (by assumption) ?restq3
    case hyq3 => (intro w hSw; (try dsimp only at hSw); go_simp; try with_reducible rfl)
    try simp only [Act.put, List.setIfInBounds_toArray, List.set_cons_zero, List.set_cons_succ]
    refine wpAnyH_take (i := 3) (oi := { dst := some 41, op := .nilCheck (.tmp 40), type := _, pos := _, after := _, guard := none }) (v := ?vq4) rfl (by kernel_rfl) (by kernel_rfl) (by kernel_rfl) (fun _ _ _ h => h) (Or.inl ⟨by rfl, ?hyq4⟩) (by assumption) ?restq4
    case hyq4 => (intro w hSw; (try dsimp only at hSw); go_simp; try with_reducible rfl)
    try simp only [Act.put, List.setIfInBounds_toArray, List.set_cons_zero, List.set_cons_succ]
    refine wpAnyH_take (i := 4) (oi := { dst := some 42, op := .fieldAddr 115 (.tmp 41) 2, type := _, pos := _, after := _, guard := none }) (v := ?vq5) rfl (by kernel_rfl) (by kernel_rfl) (by kernel_rfl) (fun _ _ _ h => h) (Or.inl ⟨by rfl, ?hyq5⟩) (by assumption) ?restq5
    case hyq5 => (intro w hSw; (try dsimp only at hSw); go_simp; try with_reducible rfl)
    try simp only [Act.put, List.setIfInBounds_toArray, List.set_cons_zero, List.set_cons_succ]
    refine wpAnyH_take (i := 5) (oi := { dst := some 43, op := .fieldAddr 48 (.tmp 42) 3, type := _, pos := _, after := _, guard := none }) (v := ?vq6) rfl (by kernel_rfl) (by kernel_rfl) (by kernel_rfl) (fun _ _ _ h => h) (Or.inl ⟨by rfl, ?hyq6⟩) (by assumption) ?restq6
    case hyq6 => (intro w hSw; (try dsimp only at hSw); go_simp; try with_reducible rfl)
    try simp only [Act.put, List.setIfInBounds_toArray, List.set_cons_zero, List.set_cons_succ]
    refine wpAnyH_take (i := 6) (oi := { dst := some 44, op := .load 2 (.tmp 43), type := _, pos := _, after := _, guard := none }) (v := ?vq7) rfl (by kernel_rfl) (by kernel_rfl) (by kernel_rfl) (fun _ _ _ h => h) (Or.inl ⟨by rfl, ?hyq7⟩) (by assumption) ?restq7
    case hyq7 => (intro w hSw; (try dsimp only at hSw); go_simp; try with_reducible rfl)
    try simp only [Act.put, List.setIfInBounds_toArray, List.set_cons_zero, List.set_cons_succ]
    refine wpAnyH_take (i := 7) (oi := { dst := some 45, op := .binOp .lss 2 (.tmp 39) (.tmp 44) 2, type := _, pos := _, after := _, guard := none }) (v := ?vq8) rfl (by kernel_rfl) (by kernel_rfl) (by kernel_rfl) (fun _ _ _ h => h) (Or.inl ⟨by rfl, ?hyq8⟩) (by assumption) ?restq8
    case hyq8 => (intro w hSw; (try dsimp only at hSw); go_simp; try with_reducible rfl)
    try simp only [Act.put, List.setIfInBounds_toArray, List.set_cons_zero, List.set_cons_succ]
    refine wpAnyH_ready (rs := [8]) (by kernel_rfl) (by simp) ?_
    refine AllReadyH.cons (o := { dst := some 46, op := .call { callee := .value (.func 81), args := #[.tmp 45], argTypes := #[4] }, type := _, pos := _, after := _, guard := none }) rfl (fun K hK => ?_) AllReadyH.nil
    go_simp
    go_at_call 81
    refine (HAS.out _ _).mono ?_
    rintro e w3 (⟨hb, rfl, rfl⟩ | ⟨hb, rfl, rfl⟩)
    · clear hb
      refine hK.out _ _ ?_ (fun hHeld => ?_)
      · rfl
      clear hK K
      try simp only [Act.put, List.setIfInBounds_toArray, List.set_cons_zero, List.set_cons_succ]
      refine wpAnyH_done (by kernel_rfl) ?_ _
      go_wp2_with fail
      refine HON.out.mono ?_
      rintro e w4 (⟨K', l', hr, rfl, lv', g1, g2⟩ | ⟨hr, rfl, hbw⟩)
      · have HG := Lib.hid (And.intro hr (And.intro g1 g2))
        clear hr g1 g2
        go_wp2
        go_end0
        exact .inl ⟨K', l', HX.out.trans HG.out.1, rfl, lv', HG.out.2.1, HK2d.out.trans HG.out.2.2⟩
      · have HG := Lib.hid (And.intro hr hbw)
        clear hr hbw
        go_wp2
        exact ⟨rfl, .inr ⟨HX.out.trans HG.out.1, rfl, HB2d.out.trans HG.out.2⟩⟩
    · first | (cases hb; done) | (have := of_decide_eq_false hb; omega)
  · have hc2 : ¬ xa < F.gc := hc
    have HX := Lib.hid (show stepX F K left q ⟨4, xa, xb, xc, xt⟩ s = _ from stepX_none (by rw [stepR_4, if_neg hc]))
    clear h hv hrow hb2d hw2d hv2d hb2 hw2 hv2 hin hsm hx hT hts hk2 hB2
    unfold stV insA at *
    go_enter Tryz.func51, Tryz.ntmps51
    go_wp2_with fail
    rw [← hW2]
    clear hW2
    refine wp_region_held_drew (S := (fun z => z = W2.drew)) (by kernel_rfl) ?_ (fun hHeld => ?_)
    · rfl
    refine wpAnyH_take (i := 0) (oi := { dst := some 38, op := .fieldAddr 48 (.tmp 6) 1, type := _, pos := _, after := _, guard := none }) (v := ?vr1) rfl (by kernel_rfl) (by kernel_rfl) (by kernel_rfl) (fun _ _ _ h => h) (Or.inl ⟨by rfl, ?hyr1⟩) (by assumption) ?restr1
    case hyr1 => (intro w hSw; (try dsimp only at hSw); go_simp; try with_reducible rfl)
    try simp only [Act.put, List.setIfInBounds_toArray, List.set_cons_zero, List.set_cons_succ]
    refine wpAnyH_take (i := 1) (oi := { dst := some 39, op := .load 2 (.tmp 38), type := _, pos := _, after := _, guard := none }) (v := ?vr2) rfl (by kernel_rfl) (by kernel_rfl) (by kernel_rfl) (fun _ _ _ h => h) (Or.inl ⟨by rfl, ?hyr2⟩) (by assumption) ?restr2
    case hyr2 => (intro w hSw; (try dsimp only at hSw); go_simp; try with_reducible rfl)
    try simp only [Act.put, List.setIfInBounds_toArray, List.set_cons_zero, List.set_cons_succ]
    refine wpAnyH_take (i := 2) (oi := { dst := some 40, op := .move (.tmp 0), type := _, pos := _, after := _, guard := none }) (v := ?vr3) rfl (by kernel_rfl) (by kernel_rfl) (by kernel_rfl) (fun _ _ _ h => h) (Or.inl ⟨by rfl, ?hyr3⟩) (by assumption) ?restr3
    case hyr3 => (intro w hSw; (try dsimp only at hSw); go_simp; try with_reducible rfl)
    try simp only [Act.put, List.setIfInBounds_toArray, List.set_cons_zero, List.set_cons_succ]
    refine wpAnyH_take (i := 3) (oi := { dst := some 41, op := .nilCheck (.tmp 40), type := _, pos := _, after := _, guard := none }) (v := ?vr4) rfl (by kernel_rfl) (by kernel_rfl) (by kernel_rfl) (fun _ _ _ h => h) (Or.inl ⟨by rfl, ?hyr4⟩) (by assumption) ?restr4
    case hyr4 => (intro w hSw; (try dsimp only at hSw); go_simp; try with_reducible rfl)
    try simp only [Act.put, List.setIfInBounds_toArray, List.set_cons_zero, List.set_cons_succ]
    refine wpAnyH_take (i := 4) (oi := { dst := some 42, op := .fieldAddr 115 (.tmp 41) 2, type := _, pos := _, after := _, guard := none }) (v := ?vr5) rfl (by kernel_rfl) (by kernel_rfl) (by kernel_rfl) (fun _ _ _ h => h) (Or.inl ⟨by rfl, ?hyr5⟩) (by assumption) ?restr5
    case hyr5 => (intro w hSw; (try dsimp only at hSw); go_simp; try with_reducible rfl)
    try simp only [Act.put, List.setIfInBounds_toArray, List.set_cons_zero, List.set_cons_succ]
    refine wpAnyH_take (i := 5) (oi := { dst := some 43, op := .fieldAddr 48 (.tmp 42) 3, type := _, pos := _, after := _, guard := none }) (v := ?vr6) rfl (by kernel_rfl) (by kernel_rfl) (by kernel_rfl) (fun _ _ _ h => h) (Or.inl ⟨by rfl, ?hyr6⟩) (by assumption) ?restr6
    case hyr6 => (intro w hSw; (try dsimp only at hSw); go_simp; try with_reducible rfl)
    try simp only [Act.put, List.setIfInBounds_toArray, List.set_cons_zero, List.set_cons_succ]
    refine wpAnyH_take (i := 6) (oi := { dst := some 44, op := .load 2 (.tmp 43), type := _, pos := _, after := _, guard := none }) (v := ?vr7) rfl (by kernel_rfl) (by kernel_rfl) (by kernel_rfl) (fun _ _ _ h => h) (Or.inl ⟨by rfl, ?hyr7⟩) (by assumption) ?restr7
    case hyr7 => (intro w hSw; (try dsimp only at hSw); go_simp; try with_reducible rfl)
    try simp only [Act.put, List.setIfInBounds_toArray, List.set_cons_zero, List.set_cons_succ]
    refine wpAnyH_take (i := 7) (oi := { dst := some 45, op := .binOp .lss 2 (.tmp 39) (.tmp 44) 2, type := _, pos := _, after := _, guard := none }) (v := ?vr8) rfl (by kernel_rfl) (by kernel_rfl) (by kernel_rfl) (fun _ _ _ h => h) (Or.inl ⟨by rfl, ?hyr8⟩) (by assumption) ?restr8
    case hyr8 => (intro w hSw; (try dsimp only at hSw); go_simp; try with_reducible rfl)
    try simp only [Act.put, List.setIfInBounds_toArray, List.set_cons_zero, List.set_cons_succ]
    refine wpAnyH_ready (rs := [8]) (by kernel_rfl) (by simp) ?_
    refine AllReadyH.cons (o := { dst := some 46, op := .call { callee := .value (.func 81), args := #[.tmp 45], argTypes := #[4] }, type := _, pos := _, after := _, guard := none }) rfl (fun K hK => ?_) AllReadyH.nil
    go_simp
    go_at_call 81
    refine (HAS.out _ _).mono ?_
    rintro e w3 (⟨hb, rfl, rfl⟩ | ⟨hb, rfl, rfl⟩)
    · first | (cases hb; done) | (have := of_decide_eq_true hb; omega)
    · clear hb
      simp only [Exit.then, Exit.inBlock]
      exact ⟨rfl, .inr ⟨HX.out, rfl, HB2d.out⟩⟩
end Go.Ck
namespace Go.Ck
open Go Go.RowKit Go.Proofs
theorem step_mate {p : Pl} {F : Fn} {w : World} {K : Know} {lv v : Value} {left : List Int} {s : St} {q xa xb xc : Int} {xt : ByteArray} {N : Nat} (H : Pre p F w K lv v left s q ⟨5, xa, xb, xc, xt⟩ N) :
    Calls Tryz.prog 51 #[.pointer (some ⟨p.pb, 0, none⟩), .int .i64 q, insA ⟨5, xa, xb, xc, xt⟩, stV s v] w fun e w' => StepPost (stepX F K left q ⟨5, xa, xb, xc, xt⟩ s) p F lv w (.tuple #[]) e w' := by
  obtain ⟨h, hv, hin, hsm, hN, hlen, h0, h1, hx, q0, q1, hT, hts⟩ := H
  obtain ⟨a, c, rfl, hlc, hrow⟩ := id hv
  obtain ⟨W2, hW2⟩ : ∃ W2, W2 = (w.alloc (.cells #[.int .u8 5, .int .i64 xa, .int .i64 xb, .int .i64 xc, .string xt] 48)).alloc (.cells #[.int .i64 s.h, .slice a s.tr.length c] 119) := ⟨_, rfl⟩
  have hb2 : Below w.heap.size w W2 := by rw [hW2]; exact ((Below.refl _ _).alloc (Nat.le_refl _) _).alloc (by simp) _
  have hs2 : W2.heap.size = w.heap.size + 2 := by rw [hW2]; simp
  have hw2 := h.grow hb2
  have hv2 := hv.grow hb2
  have hbl := h.base_lt
  have hk2 : Kept p lv.ownBlock lv.ownBlock w W2 := Kept.of_below hb2
  have hB2 : Below p.base w W2 := hb2.mono hbl
  have HK2 := Lib.hid hk2
  have HB2 := Lib.hid hB2
  have hplt := h.pblt
  have hmlt := h.mlt
  have d0 : W2.cell? ⟨w.heap.size + 1, 0, none⟩ = some (.int .i64 s.h) := by rw [hW2]; simp [go_sem]
  have d1 : W2.cell? ⟨w.heap.size + 1, 1, none⟩ = some (.slice a s.tr.length c) := by rw [hW2]; simp [go_sem]
  have k0 : W2.cell? ⟨w.heap.size, 0, none⟩ = some (.int .u8 5) := by rw [hW2]; simp [go_sem]
  have k1 : W2.cell? ⟨w.heap.size, 1, none⟩ = some (.int .i64 xa) := by rw [hW2]; simp [go_sem]
  have k2 : W2.cell? ⟨w.heap.size, 2, none⟩ = some (.int .i64 xb) := by rw [hW2]; simp [go_sem]
  have k3 : W2.cell? ⟨w.heap.size, 3, none⟩ = some (.int .i64 xc) := by rw [hW2]; simp [go_sem]
  have k4 : W2.cell? ⟨w.heap.size, 4, none⟩ = some (.string xt) := by rw [hW2]; simp [go_sem]
  have f0 : W2.cell? ⟨p.pb, 0, none⟩ = some (.int .i64 F.f) := (hw2.cells 0).1
  have f0w : w.cell? ⟨p.pb, 0, none⟩ = some (.int .i64 F.f) := (h.cells 0).1
  have f0l : ((w.alloc (.cells #[.int .u8 5, .int .i64 xa, .int .i64 xb, .int .i64 xc, .string xt] 48)).alloc (.cells #[.int .i64 s.h, .slice a s.tr.length c] 119)).cell? ⟨p.pb, 0, none⟩ = some (.int .i64 F.f) := by rw [← hW2]; exact f0
  have f4 : W2.cell? ⟨p.pb, 4, none⟩ = some (.int .i64 F.gb) := (hw2.cells 4).1
  have f4w : w.cell? ⟨p.pb, 4, none⟩ = some (.int .i64 F.gb) := (h.cells 4).1
  have f4l : ((w.alloc (.cells #[.int .u8 5, .int .i64 xa, .int .i64 xb, .int .i64 xc, .string xt] 48)).alloc (.cells #[.int .i64 s.h, .slice a s.tr.length c] 119)).cell? ⟨p.pb, 4, none⟩ = some (.int .i64 F.gb) := by rw [← hW2]; exact f4
  have f5 : W2.cell? ⟨p.pb, 5, none⟩ = some (.int .i64 F.gc) := (hw2.cells 5).1
  have f5w : w.cell? ⟨p.pb, 5, none⟩ = some (.int .i64 F.gc) := (h.cells 5).1
  have f5l : ((w.alloc (.cells #[.int .u8 5, .int .i64 xa, .int .i64 xb, .int .i64 xc, .string xt] 48)).alloc (.cells #[.int .i64 s.h, .slice a s.tr.length c] 119)).cell? ⟨p.pb, 5, none⟩ = some (.int .i64 F.gc) := by rw [← hW2]; exact f5
  have f7 : W2.cell? ⟨p.pb, 7, none⟩ = some (.map (some p.m)) := (hw2.cells 7).1
  have f7w : w.cell? ⟨p.pb, 7, none⟩ = some (.map (some p.m)) := (h.cells 7).1
  have f7l : ((w.alloc (.cells #[.int .u8 5, .int .i64 xa, .int .i64 xb, .int .i64 xc, .string xt] 48)).alloc (.cells #[.int .i64 s.h, .slice a s.tr.length c] 119)).cell? ⟨p.pb, 7, none⟩ = some (.map (some p.m)) := by rw [← hW2]; exact f7
  have hb2d : Below w.heap.size w W2.drew := hb2.drew
  have hw2d := h.grow hb2d
  have hv2d := hv.grow hb2d
  have d0d : W2.drew.cell? ⟨w.heap.size + 1, 0, none⟩ = some (.int .i64 s.h) := d0
  have d1d : W2.drew.cell? ⟨w.heap.size + 1, 1, none⟩ = some (.slice a s.tr.length c) := d1
  have k1d : W2.drew.cell? ⟨w.heap.size, 1, none⟩ = some (.int .i64 xa) := k1
  have f4d : W2.drew.cell? ⟨p.pb, 4, none⟩ = some (.int .i64 F.gb) := f4
  have HAS := Lib.hid ask_spec
  have HB2d := Lib.hid (hB2.drew)
  have HK2d : Hid (Kept p lv.ownBlock lv.ownBlock w W2.drew) := Lib.hid (Kept.of_below hb2d)
  have HON := Lib.hid (on_spec (q := q) (takes := 0) (puts := 1) hw2d hv2d hin (hsm.small (by omega)) (by omega) h0 (by omega) (by omega) (by omega) (by omega) (by omega) q0 (by omega))
  by_cases hc : xa < F.gb
  · have hc2 := hc
    have HX := Lib.hid (show stepX F K left q ⟨5, xa, xb, xc, xt⟩ s = _ from stepX_on (by rw [stepR_5, if_pos hc]))
    clear h hv hrow hb2d hw2d hv2d hb2 hw2 hv2 hin hsm hx hT hts hk2 hB2
    unfold stV insA at *
    go_enter Tryz.func51, Tryz.ntmps51
    go_wp2_with fail
    rw [← hW2]
    clear hW2
    refine wp_region_held_drew (S := (fun z => z = W2.drew)) (by kernel_rfl) ?_ (fun hHeld => ?_)
    · rfl
    refine wpAnyH_take (i := 0) (oi := { dst := some 53, op := .fieldAddr 48 (.tmp 6) 1, type := _, pos := _, after := _, guard := none }) (v := ?vq1) rfl (by kernel_rfl) (by kernel_rfl) (by kernel_rfl) (fun _ _ _ h => h) (Or.inl ⟨by rfl, ?hyq1⟩) (by assumption) ?restq1
    case hyq1 => (intro w hSw; (try dsimp only at hSw); go_simp; try with_reducible rfl)
    try simp only [Act.put, List.setIfInBounds_toArray, List.set_cons_zero, List.set_cons_succ]
    refine wpAnyH_take (i := 1) (oi := { dst := some 54, op := .load 2 (.tmp 53), type := _, pos := _, after := _, guard := none }) (v := ?vq2) rfl (by kernel_rfl) (by kernel_rfl) (by kernel_rfl) (fun _ _ _ h => h) (Or.inl ⟨by rfl, ?hyq2⟩) (by assumption) ?restq2
    case hyq2 => (intro w hSw; (try dsimp only at hSw); go_simp; try with_reducible rfl)
    try simp only [Act.put, List.setIfInBounds_toArray, List.set_cons_zero, List.set_cons_succ]
    refine wpAnyH_take (i := 2) (oi := { dst := some 55, op := .move (.tmp 0), type := _, pos := _, after := _, guard := none }) (v := ?vq3) rfl (by kernel_rfl) (by kernel_rfl) (by kernel_rfl) (fun _ _ _ h => h) (Or.inl ⟨by rfl, ?hyq3⟩) (by assumption) ?restq3
    case hyq3 => (intro w hSw; (try dsimp only at hSw); go_simp; try with_reducible rfl)
    try simp only [Act.put, List.setIfInBounds_toArray, List.set_cons_zero, List.set_cons_succ]
    refine wpAnyH_take (i := 3) (oi := { dst := some 56, op := .nilCheck (.tmp 55), type := _, pos := _, after := _, guard := none }) (v := ?vq4) rfl (by kernel_rfl) (by kernel_rfl) (by kernel_rfl) (fun _ _ _ h => h) (Or.inl ⟨by rfl, ?hyq4⟩) (by assumption) ?restq4
    case hyq4 => (intro w hSw; (try dsimp only at hSw); go_simp; try with_reducible rfl)
    try simp only [Act.put, List.setIfInBounds_toArray, List.set_cons_zero, List.set_cons_succ]
    refine wpAnyH_take (i := 4) (oi := { dst := some 57, op := .fieldAddr 115 (.tmp 56) 2, type := _, pos := _, after := _, guard := none }) (v := ?vq5) rfl (by kernel_rfl) (by kernel_rfl) (by kernel_rfl) (fun _ _ _ h => h) (Or.inl ⟨by rfl, ?hyq5⟩) (by assumption) ?restq5
    case hyq5 => (intro w hSw; (try dsimp only at hSw); go_simp; try with_reducible rfl)
    try simp only [Act.put, List.setIfInBounds_toArray, List.set_cons_zero, List.set_cons_succ]
    refine wpAnyH_take (i := 5) (oi := { dst := some 58, op := .fieldAddr 48 (.tmp 57) 2, type := _, pos := _, after := _, guard := none }) (v := ?vq6) rfl (by kernel_rfl) (by kernel_rfl) (by kernel_rfl) (fun _ _ _ h => h) (Or.inl ⟨by rfl, ?hyq6⟩) (by assumption) ?restq6
    case hyq6 => (intro w hSw; (try dsimp only at hSw); go_simp; try with_reducible rfl)
    try simp only [Act.put, List.setIfInBounds_toArray, List.set_cons_zero, List.set_cons_succ]
    refine wpAnyH_take (i := 6) (oi := { dst := some 59, op := .load 2 (.tmp 58), type := _, pos := _, after := _, guard := none }) (v := ?vq7) rfl (by kernel_rfl) (by kernel_rfl) (by kernel_rfl) (fun _ _ _ h => h) (Or.inl ⟨by rfl, ?hyq7⟩) (by assumption) ?restq7
    case hyq7 => (intro w hSw; (try dsimp only at hSw); go_simp; try with_reducible rfl)
    try simp only [Act.put, List.setIfInBounds_toArray, List.set_cons_zero, List.set_cons_succ]
    refine wpAnyH_take (i := 7) (oi := { dst := some 60, op := .binOp .lss 2 (.tmp 54) (.tmp 59) 2, type := _, pos := _, after := _, guard := none }) (v := ?vq8) rfl (by kernel_rfl) (by kernel_rfl) (by kernel_rfl) (fun _ _ _ h => h) (Or.inl ⟨by rfl, ?hyq8⟩) (by assumption) ?restq8
    case hyq8 => (intro w hSw; (try dsimp only at hSw); go_simp; try with_reducible rfl)
    try simp only [Act.put, List.setIfInBounds_toArray, List.set_cons_zero, List.set_cons_succ]
    refine wpAnyH_ready (rs := [8]) (by kernel_rfl) (by simp) ?_
    refine AllReadyH.cons (o := { dst := some 61, op := .call { callee := .value (.func 81), args := #[.tmp 60], argTypes := #[4] }, type := _, pos := _, after := _, guard := none }) rfl (fun K hK => ?_) AllReadyH.nil
    go_simp
    go_at_call 81
    refine (HAS.out _ _).mono ?_
    rintro e w3 (⟨hb, rfl, rfl⟩ | ⟨hb, rfl, rfl⟩)
    · clear hb
      refine hK.out _ _ ?_ (fun hHeld => ?_)
      · rfl
      clear hK K
      try simp only [Act.put, List.setIfInBounds_toArray, List.set_cons_zero, List.set_cons_succ]
      refine wpAnyH_done (by kernel_rfl) ?_ _
      go_wp2_with fail
      refine HON.out.mono ?_
      rintro e w4 (⟨K', l', hr, rfl, lv', g1, g2⟩ | ⟨hr, rfl, hbw⟩)
      · have HG := Lib.hid (And.intro hr (And.intro g1 g2))
        clear hr g1 g2
        go_wp2
        go_end0
        exact .inl ⟨K', l', HX.out.trans HG.out.1, rfl, lv', HG.out.2.1, HK2d.out.trans HG.out.2.2⟩
      · have HG := Lib.hid (And.intro hr hbw)
        clear hr hbw
        go_wp2
        exact ⟨rfl, .inr ⟨HX.out.trans HG.out.1, rfl, HB2d.out.trans HG.out.2⟩⟩
    · first | (cases hb; done) | (have := of_decide_eq_false hb; omega)
  · have hc2 : ¬ xa < F.gb := hc
    have HX := Lib.hid (show stepX F K left q ⟨5, xa, xb, xc, xt⟩ s = _ from stepX_none (by rw [stepR_5, if_neg hc]))
    clear h hv hrow hb2d hw2d hv2d hb2 hw2 hv2 hin hsm hx hT hts hk2 hB2
    unfold stV insA at *
    go_enter Tryz.func51, Tryz.ntmps51
    go_wp2_with fail
    rw [← hW2]
    clear hW2
    refine wp_region_held_drew (S := (fun z => z = W2.drew)) (by kernel_rfl) ?_ (fun hHeld => ?_)
    · rfl
    refine wpAnyH_take (i := 0) (oi := { dst := some 53, op := .fieldAddr 48 (.tmp 6) 1, type := _, pos := _, after := _, guard := none }) (v := ?vr1) rfl (by kernel_rfl) (by kernel_rfl) (by kernel_rfl) (fun _ _ _ h => h) (Or.inl ⟨by rfl, ?hyr1⟩) (by assumption) ?restr1
    case hyr1 => (intro w hSw; (try dsimp only at hSw); go_simp; try with_reducible rfl)
    try simp only [Act.put, List.setIfInBounds_toArray, List.set_cons_zero, List.set_cons_succ]
    refine wpAnyH_take (i := 1) (oi := { dst := some 54, op := .load 2 (.tmp 53), type := _, pos := _, after := _, guard := none }) (v := ?vr2) rfl (by kernel_rfl) (by kernel_rfl) (by kernel_rfl) (fun _ _ _ h => h) (Or.inl ⟨by rfl, ?hyr2⟩) (by assumption) ?restr2
    case hyr2 => (intro w hSw; (try dsimp only at hSw); go_simp; try with_reducible rfl)
    try simp only [Act.put, List.setIfInBounds_toArray, List.set_cons_zero, List.set_cons_succ]
    refine wpAnyH_take (i := 2) (oi := { dst := some 55, op := .move (.tmp 0), type := _, pos := _, after := _, guard := none }) (v := ?vr3) rfl (by kernel_rfl) (by kernel_rfl) (by kernel_rfl) (fun _ _ _ h => h) (Or.inl ⟨by rfl, ?hyr3⟩) (by assumption) ?restr3
    case hyr3 => (intro w hSw; (try dsimp only at hSw); go_simp; try with_reducible rfl)
    try simp only [Act.put, List.setIfInBounds_toArray, List.set_cons_zero, List.set_cons_succ]
    refine wpAnyH_take (i := 3) (oi := { dst := some 56, op := .nilCheck (.tmp 55), type := _, pos := _, after := _, guard := none }) (v := ?vr4) rfl (by kernel_rfl) (by kernel_rfl) (by kernel_rfl) (fun _ _ _ h => h) (Or.inl ⟨by rfl, ?hyr4⟩) (by assumption) ?restr4
    case hyr4 => (intro w hSw; (try dsimp only at hSw); go_simp; try with_reducible rfl)
    try simp only [Act.put, List.setIfInBounds_toArray, List.set_cons_zero, List.set_cons_succ]
    refine wpAnyH_take (i := 4) (oi := { dst := some 57, op := .fieldAddr 115 (.tmp 56) 2, type := _, pos := _, after := _, guard := none }) (v := ?vr5) rfl (by kernel_rfl) (by kernel_rfl) (by kernel_rfl) (fun _ _ _ h => h) (Or.inl ⟨by rfl, ?hyr5⟩) (by assumption) ?restr5
    case hyr5 => (intro w hSw; (try dsimp only at hSw); go_simp; try with_reducible rfl)
    try simp only [Act.put, List.setIfInBounds_toArray, List.set_cons_zero, List.set_cons_succ]
    refine wpAnyH_take (i := 5) (oi := { dst := some 58, op := .fieldAddr 48 (.tmp 57) 2, type := _, pos := _, after := _, guard := none }) (v := ?vr6) rfl (by kernel_rfl) (by kernel_rfl) (by kernel_rfl) (fun _ _ _ h => h) (Or.inl ⟨by rfl, ?hyr6⟩) (by assumption) ?restr6
    case hyr6 => (intro w hSw; (try dsimp only at hSw); go_simp; try with_reducible rfl)
    try simp only [Act.put, List.setIfInBounds_toArray, List.set_cons_zero, List.set_cons_succ]
    refine wpAnyH_take (i := 6) (oi := { dst := some 59, op := .load 2 (.tmp 58), type := _, pos := _, after := _, guard := none }) (v := ?vr7) rfl (by kernel_rfl) (by kernel_rfl) (by kernel_rfl) (fun _ _ _ h => h) (Or.inl ⟨by rfl, ?hyr7⟩) (by assumption) ?restr7
    case hyr7 => (intro w hSw; (try dsimp only at hSw); go_simp; try with_reducible rfl)
    try simp only [Act.put, List.setIfInBounds_toArray, List.set_cons_zero, List.set_cons_succ]
    refine wpAnyH_take (i := 7) (oi := { dst := some 60, op := .binOp .lss 2 (.tmp 54) (.tmp 59) 2, type := _, pos := _, after := _, guard := none }) (v := ?vr8) rfl (by kernel_rfl) (by kernel_rfl) (by kernel_rfl) (fun _ _ _ h => h) (Or.inl ⟨by rfl, ?hyr8⟩) (by assumption) ?restr8
    case hyr8 => (intro w hSw; (try dsimp only at hSw); go_simp; try with_reducible rfl)
    try simp only [Act.put, List.setIfInBounds_toArray, List.set_cons_zero, List.set_cons_succ]
    refine wpAnyH_ready (rs := [8]) (by kernel_rfl) (by simp) ?_
    refine AllReadyH.cons (o := { dst := some 61, op := .call { callee := .value (.func 81), args := #[.tmp 60], argTypes := #[4] }, type := _, pos := _, after := _, guard := none }) rfl (fun K hK => ?_) AllReadyH.nil
    go_simp
    go_at_call 81
    refine (HAS.out _ _).mono ?_
    rintro e w3 (⟨hb, rfl, rfl⟩ | ⟨hb, rfl, rfl⟩)
    · first | (cases hb; done) | (have := of_decide_eq_true hb; omega)
    · clear hb
      simp only [Exit.then, Exit.inBlock]
      exact ⟨rfl, .inr ⟨HX.out, rfl, HB2d.out⟩⟩
end Go.Ck
namespace Go.Ck
open Go Go.RowKit Go.Proofs
theorem step_ret {p : Pl} {F : Fn} {w : World} {K : Know} {lv v : Value} {left : List Int} {s : St} {q xa xb xc : Int} {xt : ByteArray} {N : Nat} (H : Pre p F w K lv v left s q ⟨8, xa, xb, xc, xt⟩ N) :
    Calls Tryz.prog 51 #[.pointer (some ⟨p.pb, 0, none⟩), .int .i64 q, insA ⟨8, xa, xb, xc, xt⟩, stV s v] w fun e w' => StepPost (stepX F K left q ⟨8, xa, xb, xc, xt⟩ s) p F lv w (.tuple #[]) e w' := by
  obtain ⟨h, hv, hin, hsm, hN, hlen, h0, h1, hx, q0, q1, hT, hts⟩ := H
  obtain ⟨a, c, rfl, hlc, hrow⟩ := id hv
  obtain ⟨W2, hW2⟩ : ∃ W2, W2 = (w.alloc (.cells #[.int .u8 8, .int .i64 xa, .int .i64 xb, .int .i64 xc, .string xt] 48)).alloc (.cells #[.int .i64 s.h, .slice a s.tr.length c] 119) := ⟨_, rfl⟩
  have hb2 : Below w.heap.size w W2 := by rw [hW2]; exact ((Below.refl _ _).alloc (Nat.le_refl _) _).alloc (by simp) _
  have hs2 : W2.heap.size = w.heap.size + 2 := by rw [hW2]; simp
  have hw2 := h.grow hb2
  have hv2 := hv.grow hb2
  have hbl := h.base_lt
  have hk2 : Kept p lv.ownBlock lv.ownBlock w W2 := Kept.of_below hb2
  have hB2 : Below p.base w W2 := hb2.mono hbl
  have HK2 := Lib.hid hk2
  have HB2 := Lib.hid hB2
  have hplt := h.pblt
  have hmlt := h.mlt
  have d0 : W2.cell? ⟨w.heap.size + 1, 0, none⟩ = some (.int .i64 s.h) := by rw [hW2]; simp [go_sem]
  have d1 : W2.cell? ⟨w.heap.size + 1, 1, none⟩ = some (.slice a s.tr.length c) := by rw [hW2]; simp [go_sem]
  have k0 : W2.cell? ⟨w.heap.size, 0, none⟩ = some (.int .u8 8) := by rw [hW2]; simp [go_sem]
  have k1 : W2.cell? ⟨w.heap.size, 1, none⟩ = some (.int .i64 xa) := by rw [hW2]; simp [go_sem]
  have k2 : W2.cell? ⟨w.heap.size, 2, none⟩ = some (.int .i64 xb) := by rw [hW2]; simp [go_sem]
  have k3 : W2.cell? ⟨w.heap.size, 3, none⟩ = some (.int .i64 xc) := by rw [hW2]; simp [go_sem]
  have k4 : W2.cell? ⟨w.heap.size, 4, none⟩ = some (.string xt) := by rw [hW2]; simp [go_sem]
  have f0 : W2.cell? ⟨p.pb, 0, none⟩ = some (.int .i64 F.f) := (hw2.cells 0).1
  have f0w : w.cell? ⟨p.pb, 0, none⟩ = some (.int .i64 F.f) := (h.cells 0).1
  have f0l : ((w.alloc (.cells #[.int .u8 8, .int .i64 xa, .int .i64 xb, .int .i64 xc, .string xt] 48)).alloc (.cells #[.int .i64 s.h, .slice a s.tr.length c] 119)).cell? ⟨p.pb, 0, none⟩ = some (.int .i64 F.f) := by rw [← hW2]; exact f0
  have f4 : W2.cell? ⟨p.pb, 4, none⟩ = some (.int .i64 F.gb) := (hw2.cells 4).1
  have f4w : w.cell? ⟨p.pb, 4, none⟩ = some (.int .i64 F.gb) := (h.cells 4).1
  have f4l : ((w.alloc (.cells #[.int .u8 8, .int .i64 xa, .int .i64 xb, .int .i64 xc, .string xt] 48)).alloc (.cells #[.int .i64 s.h, .slice a s.tr.length c] 119)).cell? ⟨p.pb, 4, none⟩ = some (.int .i64 F.gb) := by rw [← hW2]; exact f4
  have f5 : W2.cell? ⟨p.pb, 5, none⟩ = some (.int .i64 F.gc) := (hw2.cells 5).1
  have f5w : w.cell? ⟨p.pb, 5, none⟩ = some (.int .i64 F.gc) := (h.cells 5).1
  have f5l : ((w.alloc (.cells #[.int .u8 8, .int .i64 xa, .int .i64 xb, .int .i64 xc, .string xt] 48)).alloc (.cells #[.int .i64 s.h, .slice a s.tr.length c] 119)).cell? ⟨p.pb, 5, none⟩ = some (.int .i64 F.gc) := by rw [← hW2]; exact f5
  have f7 : W2.cell? ⟨p.pb, 7, none⟩ = some (.map (some p.m)) := (hw2.cells 7).1
  have f7w : w.cell? ⟨p.pb, 7, none⟩ = some (.map (some p.m)) := (h.cells 7).1
  have f7l : ((w.alloc (.cells #[.int .u8 8, .int .i64 xa, .int .i64 xb, .int .i64 xc, .string xt] 48)).alloc (.cells #[.int .i64 s.h, .slice a s.tr.length c] 119)).cell? ⟨p.pb, 7, none⟩ = some (.map (some p.m)) := by rw [← hW2]; exact f7
  have HAS := Lib.hid ask_spec
  have HW := Lib.hid hw2
  by_cases hf : F.f = 0
  · rw [hf] at f0 f0w f0l
    have HX := Lib.hid (show stepX F K left q ⟨8, xa, xb, xc, xt⟩ s = _ from stepX_none (by rw [stepR_8, if_neg (by omega)]))
    clear h hv hrow hb2 hw2 hv2 hin hsm hx hT hts hk2 hB2
    unfold stV insA at *
    go_enter Tryz.func51, Tryz.ntmps51
    go_wp2_with fail
    rw [← hW2]
    clear hW2
    refine (HAS.out _ _).mono ?_
    rintro e w3 (⟨hb, rfl, rfl⟩ | ⟨hb, rfl, rfl⟩)
    · first
      | (cases hb; done)
      | (clear hb; go_wp2; go_end0; exact .inl ⟨K, left, HX.out, rfl, lv, HW.out, HK2.out⟩)
    · first
      | (cases hb; done)
      | (clear hb; go_wp2; exact ⟨rfl, .inr ⟨HX.out, rfl, HB2.out⟩⟩)
  have hfp : (0 : Int) < (F.f : Int) := by omega
  by_cases h2 : s.h = 2
  · have e2 : (s.h == 2) = true := by simpa using h2
    by_cases hl : s.tr = []
    · have el : ((s.tr.length : Int) == 0) = true := by rw [hl]; rfl
      have HX := Lib.hid (show stepX F K left q ⟨8, xa, xb, xc, xt⟩ s = _ from stepX_nil (by rw [stepR_8, if_pos ⟨by omega, h2, hl⟩]))
      clear h hv hrow hb2 hw2 hv2 hin hsm hx hT hts hk2 hB2 hf h2 hl
      unfold stV insA at *
      go_enter Tryz.func51, Tryz.ntmps51
      go_wp2_with fail
      rw [← hW2]
      clear hW2
      refine (HAS.out _ _).mono ?_
      rintro e w3 (⟨hb, rfl, rfl⟩ | ⟨hb, rfl, rfl⟩)
      · first
        | (cases hb; done)
        | (clear hb; go_wp2; go_end0; exact .inl ⟨K, left, HX.out, rfl, lv, HW.out, HK2.out⟩)
      · first
        | (cases hb; done)
        | (clear hb; go_wp2; exact ⟨rfl, .inr ⟨HX.out, rfl, HB2.out⟩⟩)
    · have el : ((s.tr.length : Int) == 0) = false := by simpa using hl
      have HX := Lib.hid (show stepX F K left q ⟨8, xa, xb, xc, xt⟩ s = _ from stepX_none (by rw [stepR_8, if_neg (fun h => hl h.2.2)]))
      clear h hv hrow hb2 hw2 hv2 hin hsm hx hT hts hk2 hB2 hf h2 hl
      unfold stV insA at *
      go_enter Tryz.func51, Tryz.ntmps51
      go_wp2_with fail
      rw [← hW2]
      clear hW2
      refine (HAS.out _ _).mono ?_
      rintro e w3 (⟨hb, rfl, rfl⟩ | ⟨hb, rfl, rfl⟩)
      · first
        | (cases hb; done)
        | (clear hb; go_wp2; go_end0; exact .inl ⟨K, left, HX.out, rfl, lv, HW.out, HK2.out⟩)
      · first
        | (cases hb; done)
        | (clear hb; go_wp2; exact ⟨rfl, .inr ⟨HX.out, rfl, HB2.out⟩⟩)
  · have e2 : (s.h == 2) = false := by simpa using h2
    have HX := Lib.hid (show stepX F K left q ⟨8, xa, xb, xc, xt⟩ s = _ from stepX_none (by rw [stepR_8, if_neg (fun h => h2 h.2.1)]))
    clear h hv hrow hb2 hw2 hv2 hin hsm hx hT hts hk2 hB2 hf h2
    unfold stV insA at *
    go_enter Tryz.func51, Tryz.ntmps51
    go_wp2_with fail
    rw [← hW2]
    clear hW2
    refine (HAS.out _ _).mono ?_
    rintro e w3 (⟨hb, rfl, rfl⟩ | ⟨hb, rfl, rfl⟩)
    · first
      | (cases hb; done)
      | (clear hb; go_wp2; go_end0; exact .inl ⟨K, left, HX.out, rfl, lv, HW.out, HK2.out⟩)
    · first
      | (cases hb; done)
      | (clear hb; go_wp2; exact ⟨rfl, .inr ⟨HX.out, rfl, HB2.out⟩⟩)
end Go.Ck
namespace Go.Ck
open Go Go.RowKit Go.Proofs
theorem step_jump {p : Pl} {F : Fn} {w : World} {K : Know} {lv v : Value} {left : List Int} {s : St} {q xa xb xc : Int} {xt : ByteArray} {N : Nat} (H : Pre p F w K lv v left s q ⟨9, xa, xb, xc, xt⟩ N) :
    Calls Tryz.prog 51 #[.pointer (some ⟨p.pb, 0, none⟩), .int .i64 q, insA ⟨9, xa, xb, xc, xt⟩, stV s v] w fun e w' => StepPost (stepX F K left q ⟨9, xa, xb, xc, xt⟩ s) p F lv w (.tuple #[]) e w' := by
  obtain ⟨h, hv, hin, hsm, hN, hlen, h0, h1, hx, q0, q1, hT, hts⟩ := H
  obtain ⟨a, c, rfl, hlc, hrow⟩ := id hv
  obtain ⟨W2, hW2⟩ : ∃ W2, W2 = (w.alloc (.cells #[.int .u8 9, .int .i64 xa, .int .i64 xb, .int .i64 xc, .string xt] 48)).alloc (.cells #[.int .i64 s.h, .slice a s.tr.length c] 119) := ⟨_, rfl⟩
  have hb2 : Below w.heap.size w W2 := by rw [hW2]; exact ((Below.refl _ _).alloc (Nat.le_refl _) _).alloc (by simp) _
  have hs2 : W2.heap.size = w.heap.size + 2 := by rw [hW2]; simp
  have hw2 := h.grow hb2
  have hv2 := hv.grow hb2
  have hbl := h.base_lt
  have hk2 : Kept p lv.ownBlock lv.ownBlock w W2 := Kept.of_below hb2
  have hB2 : Below p.base w W2 := hb2.mono hbl
  have HK2 := Lib.hid hk2
  have HB2 := Lib.hid hB2
  have hplt := h.pblt
  have hmlt := h.mlt
  have d0 : W2.cell? ⟨w.heap.size + 1, 0, none⟩ = some (.int .i64 s.h) := by rw [hW2]; simp [go_sem]
  have d1 : W2.cell? ⟨w.heap.size + 1, 1, none⟩ = some (.slice a s.tr.length c) := by rw [hW2]; simp [go_sem]
  have k0 : W2.cell? ⟨w.heap.size, 0, none⟩ = some (.int .u8 9) := by rw [hW2]; simp [go_sem]
  have k1 : W2.cell? ⟨w.heap.size, 1, none⟩ = some (.int .i64 xa) := by rw [hW2]; simp [go_sem]
  have k2 : W2.cell? ⟨w.heap.size, 2, none⟩ = some (.int .i64 xb) := by rw [hW2]; simp [go_sem]
  have k3 : W2.cell? ⟨w.heap.size, 3, none⟩ = some (.int .i64 xc) := by rw [hW2]; simp [go_sem]
  have k4 : W2.cell? ⟨w.heap.size, 4, none⟩ = some (.string xt) := by rw [hW2]; simp [go_sem]
  have HON := Lib.hid (to_spec (q := xa) hw2 hv2 (hsm.small (by omega)))
  have HX := Lib.hid (show stepX F K left q ⟨9, xa, xb, xc, xt⟩ s = _ from stepX_one (by rw [stepR_9]))
  clear h hv hrow hb2 hw2 hv2 hin hsm hx hT hts hk2 hB2
  unfold stV insA at *
  go_enter Tryz.func51, Tryz.ntmps51
  go_wp2_with fail
  rw [← hW2]
  clear hW2
  refine HON.out.mono ?_
  rintro e w4 (⟨K', l', hr, rfl, lv', g1, g2⟩ | ⟨hr, rfl, hbw⟩)
  · have HG := Lib.hid (And.intro hr (And.intro g1 g2))
    clear hr g1 g2
    go_wp2
    go_end0
    exact .inl ⟨K', l', HX.out.trans HG.out.1, rfl, lv', HG.out.2.1, HK2.out.trans HG.out.2.2⟩
  · have HG := Lib.hid (And.intro hr hbw)
    clear hr hbw
    go_wp2
    exact ⟨rfl, .inr ⟨HX.out.trans HG.out.1, rfl, HB2.out.trans HG.out.2⟩⟩
end Go.Ck
namespace Go.Ck
open Go Go.RowKit Go.Proofs
theorem step_if {p : Pl} {F : Fn} {w : World} {K : Know} {lv v : Value} {left : List Int} {s : St} {q xa xb xc : Int} {xt : ByteArray} {N : Nat} (H : Pre p F w K lv v left s q ⟨10, xa, xb, xc, xt⟩ N) :
    Calls Tryz.prog 51 #[.pointer (some ⟨p.pb, 0, none⟩), .int .i64 q, insA ⟨10, xa, xb, xc, xt⟩, stV s v] w fun e w' => StepPost (stepX F K left q ⟨10, xa, xb, xc, xt⟩ s) p F lv w (.tuple #[]) e w' := by
  obtain ⟨h, hv, hin, hsm, hN, hlen, h0, h1, hx, q0, q1, hT, hts⟩ := H
  obtain ⟨a, c, rfl, hlc, hrow⟩ := id hv
  obtain ⟨W2, hW2⟩ : ∃ W2, W2 = (w.alloc (.cells #[.int .u8 10, .int .i64 xa, .int .i64 xb, .int .i64 xc, .string xt] 48)).alloc (.cells #[.int .i64 s.h, .slice a s.tr.length c] 119) := ⟨_, rfl⟩
  have hb2 : Below w.heap.size w W2 := by rw [hW2]; exact ((Below.refl _ _).alloc (Nat.le_refl _) _).alloc (by simp) _
  have hs2 : W2.heap.size = w.heap.size + 2 := by rw [hW2]; simp
  have hw2 := h.grow hb2
  have hv2 := hv.grow hb2
  have hbl := h.base_lt
  have hk2 : Kept p lv.ownBlock lv.ownBlock w W2 := Kept.of_below hb2
  have hB2 : Below p.base w W2 := hb2.mono hbl
  have HK2 := Lib.hid hk2
  have HB2 := Lib.hid hB2
  have hplt := h.pblt
  have hmlt := h.mlt
  have d0 : W2.cell? ⟨w.heap.size + 1, 0, none⟩ = some (.int .i64 s.h) := by rw [hW2]; simp [go_sem]
  have d1 : W2.cell? ⟨w.heap.size + 1, 1, none⟩ = some (.slice a s.tr.length c) := by rw [hW2]; simp [go_sem]
  have k0 : W2.cell? ⟨w.heap.size, 0, none⟩ = some (.int .u8 10) := by rw [hW2]; simp [go_sem]
  have k1 : W2.cell? ⟨w.heap.size, 1, none⟩ = some (.int .i64 xa) := by rw [hW2]; simp [go_sem]
  have k2 : W2.cell? ⟨w.heap.size, 2, none⟩ = some (.int .i64 xb) := by rw [hW2]; simp [go_sem]
  have k3 : W2.cell? ⟨w.heap.size, 3, none⟩ = some (.int .i64 xc) := by rw [hW2]; simp [go_sem]
  have k4 : W2.cell? ⟨w.heap.size, 4, none⟩ = some (.string xt) := by rw [hW2]; simp [go_sem]
  have f0 : W2.cell? ⟨p.pb, 0, none⟩ = some (.int .i64 F.f) := (hw2.cells 0).1
  have f0w : w.cell? ⟨p.pb, 0, none⟩ = some (.int .i64 F.f) := (h.cells 0).1
  have f0l : ((w.alloc (.cells #[.int .u8 10, .int .i64 xa, .int .i64 xb, .int .i64 xc, .string xt] 48)).alloc (.cells #[.int .i64 s.h, .slice a s.tr.length c] 119)).cell? ⟨p.pb, 0, none⟩ = some (.int .i64 F.f) := by rw [← hW2]; exact f0
  have f4 : W2.cell? ⟨p.pb, 4, none⟩ = some (.int .i64 F.gb) := (hw2.cells 4).1
  have f4w : w.cell? ⟨p.pb, 4, none⟩ = some (.int .i64 F.gb) := (h.cells 4).1
  have f4l : ((w.alloc (.cells #[.int .u8 10, .int .i64 xa, .int .i64 xb, .int .i64 xc, .string xt] 48)).alloc (.cells #[.int .i64 s.h, .slice a s.tr.length c] 119)).cell? ⟨p.pb, 4, none⟩ = some (.int .i64 F.gb) := by rw [← hW2]; exact f4
  have f5 : W2.cell? ⟨p.pb, 5, none⟩ = some (.int .i64 F.gc) := (hw2.cells 5).1
  have f5w : w.cell? ⟨p.pb, 5, none⟩ = some (.int .i64 F.gc) := (h.cells 5).1
  have f5l : ((w.alloc (.cells #[.int .u8 10, .int .i64 xa, .int .i64 xb, .int .i64 xc, .string xt] 48)).alloc (.cells #[.int .i64 s.h, .slice a s.tr.length c] 119)).cell? ⟨p.pb, 5, none⟩ = some (.int .i64 F.gc) := by rw [← hW2]; exact f5
  have f7 : W2.cell? ⟨p.pb, 7, none⟩ = some (.map (some p.m)) := (hw2.cells 7).1
  have f7w : w.cell? ⟨p.pb, 7, none⟩ = some (.map (some p.m)) := (h.cells 7).1
  have f7l : ((w.alloc (.cells #[.int .u8 10, .int .i64 xa, .int .i64 xb, .int .i64 xc, .string xt] 48)).alloc (.cells #[.int .i64 s.h, .slice a s.tr.length c] 119)).cell? ⟨p.pb, 7, none⟩ = some (.map (some p.m)) := by rw [← hW2]; exact f7
  have hb2d : Below w.heap.size w W2.drew := hb2.drew
  have hw2d := h.grow hb2d
  have hv2d := hv.grow hb2d
  have d0d : W2.drew.cell? ⟨w.heap.size + 1, 0, none⟩ = some (.int .i64 s.h) := d0
  have d1d : W2.drew.cell? ⟨w.heap.size + 1, 1, none⟩ = some (.slice a s.tr.length c) := d1
  have k1d : W2.drew.cell? ⟨w.heap.size, 1, none⟩ = some (.int .i64 xa) := k1
  have e0 : s.h - 1 + 0 = s.h - 1 := Int.add_zero _
  have hon := (on_spec (q := q) (takes := 1) (puts := 0) hw2d hv2d hin (hsm.small (by omega)) (by omega) h0 (by omega) (by omega) (by omega) (by omega) (by omega) q0 (by omega))
  rw [e0] at hon
  have HON := Lib.hid hon
  have howl := own_lt h
  have HTO : Hid (∀ K' l' lv' w4, onP F.code.length F.f K left q s 1 0 = some (K', l') → WK p F w4 K' lv' l' → Kept p lv.ownBlock lv'.ownBlock W2.drew w4 → (w4.cell? ⟨w.heap.size, 1, none⟩ = some (.int .i64 xa) ∧ w4.cell? ⟨w.heap.size + 1, 0, none⟩ = some (.int .i64 s.h) ∧ w4.cell? ⟨w.heap.size + 1, 1, none⟩ = some (.slice a s.tr.length c)) ∧
      Calls Tryz.prog 49 #[.pointer (some ⟨p.pb, 0, none⟩), .int .i64 xa, .agg #[.int .i64 (s.h - 1), .slice a s.tr.length c]] w4 fun e w' => (∃ K2 l2, toP F.code.length K' l' (xa, ⟨s.h - 1, s.tr⟩) = some (K2, l2) ∧ e = .returned (.tuple #[]) ∧ ∃ lv2, WK p F w' K2 lv2 l2 ∧ Kept p lv.ownBlock lv2.ownBlock w w' ∧ (w'.cell? ⟨w.heap.size, 1, none⟩ = some (.int .i64 xa) ∧ w'.cell? ⟨w.heap.size + 1, 0, none⟩ = some (.int .i64 s.h) ∧ w'.cell? ⟨w.heap.size + 1, 1, none⟩ = some (.slice a s.tr.length c))) ∨ (toP F.code.length K' l' (xa, ⟨s.h - 1, s.tr⟩) = none ∧ e = .panicked [⟨wrongV, false, false⟩] ∧ Below p.base w w')) := Lib.hid fun K' l' lv' w4 ht g1 g2 => by
    have cells : ∀ w' (q' : Option Nat), Kept p lv.ownBlock q' W2.drew w' → (w'.cell? ⟨w.heap.size, 1, none⟩ = some (.int .i64 xa) ∧ w'.cell? ⟨w.heap.size + 1, 0, none⟩ = some (.int .i64 s.h) ∧ w'.cell? ⟨w.heap.size + 1, 1, none⟩ = some (.slice a s.tr.length c)) := fun w' q' g => by
      have keep : ∀ b, w.heap.size ≤ b → b < W2.heap.size → w'.heap[b]? = W2.heap[b]? := fun b hb hb' => g.block b hb' (by omega) (by omega) (fun e => by have := howl _ e.symm; omega)
      exact ⟨by rw [World.cell?_of_block (a := ⟨w.heap.size, 1, none⟩) (keep w.heap.size (Nat.le_refl _) (by omega))]; exact k1, by rw [World.cell?_of_block (a := ⟨w.heap.size + 1, 0, none⟩) (keep (w.heap.size + 1) (by omega) (by omega))]; exact d0, by rw [World.cell?_of_block (a := ⟨w.heap.size + 1, 1, none⟩) (keep (w.heap.size + 1) (by omega) (by omega))]; exact d1⟩
    refine ⟨cells _ _ g2, ?_⟩
    have hk4 : Kept p lv.ownBlock lv'.ownBlock w w4 := (Kept.of_below hb2d).trans g2
    have hsm' : SmallN (N + 1) K' l' := by
      unfold onP onR at ht
      split at ht
      · cases ht
      · rename_i e he
        split at he
        · cases he; exact hsm.to (by show s.tr.length ≤ _; omega) ht
        · cases he
    refine (to_spec (s := ⟨s.h - 1, s.tr⟩) (q := xa) g1 (hv2d.kept g2 hw2d) (hsm'.small (by omega))).mono fun e w' hp => ?_
    rcases hp with ⟨K2, l2, h1, h2, lv2, h3, h4⟩ | ⟨h1, h2, h3⟩
    · exact .inl ⟨K2, l2, h1, h2, lv2, h3, hk4.trans h4, cells _ _ (g2.trans h4)⟩
    · exact .inr ⟨h1, h2, (hk4.below h).trans h3⟩
  have hX : stepX F K left q ⟨10, xa, xb, xc, xt⟩ s = match onP F.code.length F.f K left q s 1 0 with | none => none | some r => toP F.code.length r.1 r.2 (xa, ⟨s.h - 1, s.tr⟩) := by
    rw [← e0]
    unfold stepX
    rw [stepR_10]
    unfold onP onR
    by_cases hc : floorOf F.f K s ≤ s.h - 1
    · rw [if_pos hc]; exact toAll_two _ _ _ _ _
    · rw [if_neg hc]; rfl
  have HX := Lib.hid hX
  have HB2d := Lib.hid (hB2.drew)
  clear h hv hrow hb2d hw2d hv2d hb2 hw2 hv2 hin hsm hx hT hts hk2 hB2 hX e0 hon
  unfold stV insA at *
  go_enter Tryz.func51, Tryz.ntmps51
  go_wp2_with fail
  rw [← hW2]
  clear hW2
  refine wp_region_held_drew (S := (fun x => x.cell? ⟨w.heap.size, 1, none⟩ = some (.int .i64 xa) ∧ x.cell? ⟨w.heap.size + 1, 0, none⟩ = some (.int .i64 s.h) ∧ x.cell? ⟨w.heap.size + 1, 1, none⟩ = some (.slice a s.tr.length c))) (by kernel_rfl) ?_ (fun hHeld => ?_)
  · exact ⟨k1d, d0d, d1d⟩
  refine wpAnyH_take (i := 0) (oi := { dst := some 118, op := .move (.tmp 0), type := _, pos := _, after := _, guard := none }) (v := ?vq1) rfl (by kernel_rfl) (by kernel_rfl) (by kernel_rfl) (fun _ _ _ h => h) (Or.inl ⟨by rfl, ?hyq1⟩) (by assumption) ?restq1
  case hyq1 => (intro w hSw; (try dsimp only at hSw); go_simp; try with_reducible rfl)
  try simp only [Act.put, List.setIfInBounds_toArray, List.set_cons_zero, List.set_cons_succ]
  refine wpAnyH_take (i := 1) (oi := { dst := some 119, op := .fieldAddr 48 (.tmp 6) 1, type := _, pos := _, after := _, guard := none }) (v := ?vq2) rfl (by kernel_rfl) (by kernel_rfl) (by kernel_rfl) (fun _ _ _ h => h) (Or.inl ⟨by rfl, ?hyq2⟩) (by assumption) ?restq2
  case hyq2 => (intro w hSw; (try dsimp only at hSw); go_simp; try with_reducible rfl)
  try simp only [Act.put, List.setIfInBounds_toArray, List.set_cons_zero, List.set_cons_succ]
  refine wpAnyH_take (i := 2) (oi := { dst := some 120, op := .load 2 (.tmp 119), type := _, pos := _, after := _, guard := none }) (v := ?vq3) rfl (by kernel_rfl) (by kernel_rfl) (by kernel_rfl) (fun _ _ _ h => h) (Or.inl ⟨by rfl, ?hyq3⟩) (by assumption) ?restq3
  case hyq3 => (intro w hSw; (try dsimp only at hSw); go_simp; try with_reducible rfl)
  try simp only [Act.put, List.setIfInBounds_toArray, List.set_cons_zero, List.set_cons_succ]
  refine wpAnyH_take (i := 3) (oi := { dst := some 121, op := .move (.tmp 0), type := _, pos := _, after := _, guard := none }) (v := ?vq4) rfl (by kernel_rfl) (by kernel_rfl) (by kernel_rfl) (fun _ _ _ h => h) (Or.inl ⟨by rfl, ?hyq4⟩) (by assumption) ?restq4
  case hyq4 => (intro w hSw; (try dsimp only at hSw); go_simp; try with_reducible rfl)
  try simp only [Act.put, List.setIfInBounds_toArray, List.set_cons_zero, List.set_cons_succ]
  refine wpAnyH_take (i := 4) (oi := { dst := some 122, op := .move (.tmp 1), type := _, pos := _, after := _, guard := none }) (v := ?vq5) rfl (by kernel_rfl) (by kernel_rfl) (by kernel_rfl) (fun _ _ _ h => h) (Or.inl ⟨by rfl, ?hyq5⟩) (by assumption) ?restq5
  case hyq5 => (intro w hSw; (try dsimp only at hSw); go_simp; try with_reducible rfl)
  try simp only [Act.put, List.setIfInBounds_toArray, List.set_cons_zero, List.set_cons_succ]
  refine wpAnyH_take (i := 5) (oi := { dst := some 123, op := .load 119 (.tmp 7), type := _, pos := _, after := _, guard := none }) (v := ?vq6) rfl (by kernel_rfl) (by kernel_rfl) (by kernel_rfl) (fun _ _ _ h => h) (Or.inl ⟨by rfl, ?hyq6⟩) (by assumption) ?restq6
  case hyq6 => (intro w hSw; (try dsimp only at hSw); go_simp; try with_reducible rfl)
  try simp only [Act.put, List.setIfInBounds_toArray, List.set_cons_zero, List.set_cons_succ]
  refine wpAnyH_ready (rs := [6]) (by kernel_rfl) (by simp) ?_
  refine AllReadyH.cons (o := { dst := some 124, op := .call { callee := .value (.func 83), args := #[.tmp 121, .tmp 122, .tmp 123, .const (.int .i64 1), .const (.int .i64 0)], argTypes := _ }, type := _, pos := _, after := _, guard := none }) rfl (fun K2 hK => ?_) AllReadyH.nil
  go_simp
  go_at_call 83
  refine HON.out.mono ?_
  rintro e w4 (⟨K', l', hr, rfl, lv', g1, g2⟩ | ⟨hr, rfl, hbw⟩)
  · obtain ⟨hz, hcall⟩ := HTO.out _ _ _ _ hr g1 g2
    have HG := Lib.hid hr
    have HC := Lib.hid hcall
    clear hr g1 g2 hcall HTO HON
    refine hK.out _ _ ?_ (fun hHeld => ?_)
    · exact hz
    clear hK K2
    try simp only [Act.put, List.setIfInBounds_toArray, List.set_cons_zero, List.set_cons_succ]
    refine wpAnyH_ready (rs := [7]) (by kernel_rfl) (by simp) ?_
    refine AllReadyH.cons (o := { dst := some 125, op := .call { callee := .value (.func 49), args := #[.tmp 118, .tmp 120, .tmp 124], argTypes := _ }, type := _, pos := _, after := _, guard := none }) rfl (fun K2 hK => ?_) AllReadyH.nil
    go_simp
    go_at_call 49
    refine HC.out.mono ?_
    rintro e w5 (⟨K2', l2, hr2, rfl, lv2, g3, g4, g5⟩ | ⟨hr2, rfl, hbw⟩)
    · have HG2 := Lib.hid (And.intro hr2 (And.intro g3 g4))
      clear hr2 g3 g4
      refine hK.out _ _ ?_ (fun hHeld => ?_)
      · exact g5
      clear hK K2
      try simp only [Act.put, List.setIfInBounds_toArray, List.set_cons_zero, List.set_cons_succ]
      refine wpAnyH_done (by kernel_rfl) ?_ _
      go_wp2
      go_end0
      exact .inl ⟨K2', l2, by rw [HX.out, HG.out]; exact HG2.out.1, rfl, lv2, HG2.out.2.1, HG2.out.2.2⟩
    · have HG2 := Lib.hid (And.intro hr2 hbw)
      clear hr2 hbw
      simp only [Exit.then, Exit.inBlock]
      exact ⟨rfl, .inr ⟨by rw [HX.out, HG.out]; exact HG2.out.1, rfl, HG2.out.2⟩⟩
  · have HG := Lib.hid (And.intro hr hbw)
    clear hr hbw
    simp only [Exit.then, Exit.inBlock]
    exact ⟨rfl, .inr ⟨by rw [HX.out, HG.out.1], rfl, HB2d.out.trans HG.out.2⟩⟩
end Go.Ck
namespace Go.Ck
open Go Go.RowKit Go.Proofs
theorem step_raise {p : Pl} {F : Fn} {w : World} {K : Know} {lv v : Value} {left : List Int} {s : St} {q xa xb xc : Int} {xt : ByteArray} {N : Nat} (H : Pre p F w K lv v left s q ⟨17, xa, xb, xc, xt⟩ N) :
    Calls Tryz.prog 51 #[.pointer (some ⟨p.pb, 0, none⟩), .int .i64 q, insA ⟨17, xa, xb, xc, xt⟩, stV s v] w fun e w' => StepPost (stepX F K left q ⟨17, xa, xb, xc, xt⟩ s) p F lv w (.tuple #[]) e w' := by
  obtain ⟨h, hv, hin, hsm, hN, hlen, h0, h1, hx, q0, q1, hT, hts⟩ := H
  obtain ⟨a, c, rfl, hlc, hrow⟩ := id hv
  obtain ⟨W2, hW2⟩ : ∃ W2, W2 = (w.alloc (.cells #[.int .u8 17, .int .i64 xa, .int .i64 xb, .int .i64 xc, .string xt] 48)).alloc (.cells #[.int .i64 s.h, .slice a s.tr.length c] 119) := ⟨_, rfl⟩
  have hb2 : Below w.heap.size w W2 := by rw [hW2]; exact ((Below.refl _ _).alloc (Nat.le_refl _) _).alloc (by simp) _
  have hs2 : W2.heap.size = w.heap.size + 2 := by rw [hW2]; simp
  have hw2 := h.grow hb2
  have hv2 := hv.grow hb2
  have hbl := h.base_lt
  have hk2 : Kept p lv.ownBlock lv.ownBlock w W2 := Kept.of_below hb2
  have hB2 : Below p.base w W2 := hb2.mono hbl
  have HK2 := Lib.hid hk2
  have HB2 := Lib.hid hB2
  have hplt := h.pblt
  have hmlt := h.mlt
  have d0 : W2.cell? ⟨w.heap.size + 1, 0, none⟩ = some (.int .i64 s.h) := by rw [hW2]; simp [go_sem]
  have d1 : W2.cell? ⟨w.heap.size + 1, 1, none⟩ = some (.slice a s.tr.length c) := by rw [hW2]; simp [go_sem]
  have k0 : W2.cell? ⟨w.heap.size, 0, none⟩ = some (.int .u8 17) := by rw [hW2]; simp [go_sem]
  have k1 : W2.cell? ⟨w.heap.size, 1, none⟩ = some (.int .i64 xa) := by rw [hW2]; simp [go_sem]
  have k2 : W2.cell? ⟨w.heap.size, 2, none⟩ = some (.int .i64 xb) := by rw [hW2]; simp [go_sem]
  have k3 : W2.cell? ⟨w.heap.size, 3, none⟩ = some (.int .i64 xc) := by rw [hW2]; simp [go_sem]
  have k4 : W2.cell? ⟨w.heap.size, 4, none⟩ = some (.string xt) := by rw [hW2]; simp [go_sem]
  have f0 : W2.cell? ⟨p.pb, 0, none⟩ = some (.int .i64 F.f) := (hw2.cells 0).1
  have f0w : w.cell? ⟨p.pb, 0, none⟩ = some (.int .i64 F.f) := (h.cells 0).1
  have f0l : ((w.alloc (.cells #[.int .u8 17, .int .i64 xa, .int .i64 xb, .int .i64 xc, .string xt] 48)).alloc (.cells #[.int .i64 s.h, .slice a s.tr.length c] 119)).cell? ⟨p.pb, 0, none⟩ = some (.int .i64 F.f) := by rw [← hW2]; exact f0
  have f4 : W2.cell? ⟨p.pb, 4, none⟩ = some (.int .i64 F.gb) := (hw2.cells 4).1
  have f4w : w.cell? ⟨p.pb, 4, none⟩ = some (.int .i64 F.gb) := (h.cells 4).1
  have f4l : ((w.alloc (.cells #[.int .u8 17, .int .i64 xa, .int .i64 xb, .int .i64 xc, .string xt] 48)).alloc (.cells #[.int .i64 s.h, .slice a s.tr.length c] 119)).cell? ⟨p.pb, 4, none⟩ = some (.int .i64 F.gb) := by rw [← hW2]; exact f4
  have f5 : W2.cell? ⟨p.pb, 5, none⟩ = some (.int .i64 F.gc) := (hw2.cells 5).1
  have f5w : w.cell? ⟨p.pb, 5, none⟩ = some (.int .i64 F.gc) := (h.cells 5).1
  have f5l : ((w.alloc (.cells #[.int .u8 17, .int .i64 xa, .int .i64 xb, .int .i64 xc, .string xt] 48)).alloc (.cells #[.int .i64 s.h, .slice a s.tr.length c] 119)).cell? ⟨p.pb, 5, none⟩ = some (.int .i64 F.gc) := by rw [← hW2]; exact f5
  have f7 : W2.cell? ⟨p.pb, 7, none⟩ = some (.map (some p.m)) := (hw2.cells 7).1
  have f7w : w.cell? ⟨p.pb, 7, none⟩ = some (.map (some p.m)) := (h.cells 7).1
  have f7l : ((w.alloc (.cells #[.int .u8 17, .int .i64 xa, .int .i64 xb, .int .i64 xc, .string xt] 48)).alloc (.cells #[.int .i64 s.h, .slice a s.tr.length c] 119)).cell? ⟨p.pb, 7, none⟩ = some (.map (some p.m)) := by rw [← hW2]; exact f7
  have hb2d : Below w.heap.size w W2.drew := hb2.drew
  have hw2d := h.grow hb2d
  have hv2d := hv.grow hb2d
  have d0d : W2.drew.cell? ⟨w.heap.size + 1, 0, none⟩ = some (.int .i64 s.h) := d0
  have d1d : W2.drew.cell? ⟨w.heap.size + 1, 1, none⟩ = some (.slice a s.tr.length c) := d1
  have HAS := Lib.hid ask_spec
  have HS : Hid (∀ x, Below W2.heap.size W2.drew x → Hid (Below W2.heap.size W2.drew x) ∧ x.cell? ⟨w.heap.size + 1, 0, none⟩ = some (.int .i64 s.h) ∧ x.cell? ⟨w.heap.size + 1, 1, none⟩ = some (.slice a s.tr.length c)) := Lib.hid fun x hx =>
    ⟨Lib.hid hx, by rw [hx.cell (p := ⟨w.heap.size + 1, 0, none⟩) (by show w.heap.size + 1 < _; omega)]; exact d0, by rw [hx.cell (p := ⟨w.heap.size + 1, 1, none⟩) (by show w.heap.size + 1 < _; omega)]; exact d1⟩
  have HF := Lib.hid (floor_ok hw2d hv2d hin (by omega))
  have hwr : IntKind.i64.wrap (s.h - 1) = s.h - 1 := by rw [IntKind.wrap_i64]; omega
  have HWF : Hid (∀ x, Hid (Below W2.heap.size W2.drew x) → WK p F x K lv left ∧ Kept p lv.ownBlock lv.ownBlock w x ∧ Below p.base w x) := Lib.hid fun x hx => ⟨hw2d.grow hx.out, Kept.of_below (hb2d.trans (hx.out.mono (by omega))), (hb2d.mono hbl).trans (hx.out.mono (by omega))⟩
  by_cases hc : floorOf F.f K s ≤ s.h - 1
  · have hc2 := hc
    have HX := Lib.hid (show stepX F K left q ⟨17, xa, xb, xc, xt⟩ s = _ from stepX_nil (by rw [stepR_17, if_pos hc]))
    clear h hv hrow hb2d hw2d hv2d hb2 hw2 hv2 hin hsm hx hT hts hk2 hB2
    unfold stV insA at *
    go_enter Tryz.func51, Tryz.ntmps51
    generalize floorOf F.f K s = fl at *
    go_wp2_with fail
    rw [← hW2]
    clear hW2
    refine wp_region_held_drew (S := (fun x => Hid (Below W2.heap.size W2.drew x) ∧ x.cell? ⟨w.heap.size + 1, 0, none⟩ = some (.int .i64 s.h) ∧ x.cell? ⟨w.heap.size + 1, 1, none⟩ = some (.slice a s.tr.length c))) (by kernel_rfl) ?_ (fun hHeld => ?_)
    · exact HS.out _ (Below.refl _ _)
    refine wpAnyH_take (i := 0) (oi := { dst := some 101, op := .fieldAddr 119 (.tmp 7) 0, type := _, pos := _, after := _, guard := none }) (v := ?vq1) rfl (by kernel_rfl) (by kernel_rfl) (by kernel_rfl) (fun _ _ _ h => h) (Or.inl ⟨by rfl, ?hyq1⟩) (by assumption) ?restq1
    case hyq1 => (intro w hSw; (try dsimp only at hSw); go_simp; try with_reducible rfl)
    try simp only [Act.put, List.setIfInBounds_toArray, List.set_cons_zero, List.set_cons_succ]
    refine wpAnyH_take (i := 1) (oi := { dst := some 102, op := .load 2 (.tmp 101), type := _, pos := _, after := _, guard := none }) (v := ?vq2) rfl (by kernel_rfl) (by kernel_rfl) (by kernel_rfl) (fun _ _ _ h => h) (Or.inl ⟨by rfl, ?hyq2⟩) (by assumption) ?restq2
    case hyq2 => (intro w hSw; (try dsimp only at hSw); go_simp; try with_reducible rfl)
    try simp only [Act.put, List.setIfInBounds_toArray, List.set_cons_zero, List.set_cons_succ]
    refine wpAnyH_take (i := 2) (oi := { dst := some 103, op := .binOp .sub 2 (.tmp 102) (.const (.int .i64 1)) 2, type := _, pos := _, after := _, guard := none }) (v := ?vq3) rfl (by kernel_rfl) (by kernel_rfl) (by kernel_rfl) (fun _ _ _ h => h) (Or.inl ⟨by rfl, ?hyq3⟩) (by assumption) ?restq3
    case hyq3 => (intro w hSw; (try dsimp only at hSw); go_simp; try with_reducible rfl)
    try simp only [Act.put, List.setIfInBounds_toArray, List.set_cons_zero, List.set_cons_succ]
    refine wpAnyH_take (i := 3) (oi := { dst := some 104, op := .move (.tmp 0), type := _, pos := _, after := _, guard := none }) (v := ?vq4) rfl (by kernel_rfl) (by kernel_rfl) (by kernel_rfl) (fun _ _ _ h => h) (Or.inl ⟨by rfl, ?hyq4⟩) (by assumption) ?restq4
    case hyq4 => (intro w hSw; (try dsimp only at hSw); go_simp; try with_reducible rfl)
    try simp only [Act.put, List.setIfInBounds_toArray, List.set_cons_zero, List.set_cons_succ]
    refine wpAnyH_take (i := 4) (oi := { dst := some 105, op := .load 119 (.tmp 7), type := _, pos := _, after := _, guard := none }) (v := ?vq5) rfl (by kernel_rfl) (by kernel_rfl) (by kernel_rfl) (fun _ _ _ h => h) (Or.inl ⟨by rfl, ?hyq5⟩) (by assumption) ?restq5
    case hyq5 => (intro w hSw; (try dsimp only at hSw); go_simp; try with_reducible rfl)
    try simp only [Act.put, List.setIfInBounds_toArray, List.set_cons_zero, List.set_cons_succ]
    refine wpAnyH_ready (rs := [5]) (by kernel_rfl) (by simp) ?_
    refine AllReadyH.cons (o := { dst := some 106, op := .call { callee := .value (.func 84), args := #[.tmp 104, .tmp 105], argTypes := #[112, 119] }, type := _, pos := _, after := _, guard := none }) rfl (fun K hK => ?_) AllReadyH.nil
    go_simp
    go_at_call 84
    refine HF.out.mono ?_
    rintro e w3 ⟨rfl, hb3⟩
    refine hK.out _ _ ?_ (fun hHeld => ?_)
    · exact HS.out _ hb3
    clear hK K
    try simp only [Act.put, List.setIfInBounds_toArray, List.set_cons_zero, List.set_cons_succ]
    refine wpAnyH_take (i := 6) (oi := { dst := some 107, op := .binOp .geq 2 (.tmp 103) (.tmp 106) 2, type := _, pos := _, after := _, guard := none }) (v := ?vq6) rfl (by kernel_rfl) (by kernel_rfl) (by kernel_rfl) (fun _ _ _ h => h) (Or.inl ⟨by rfl, ?hyq6⟩) (by assumption) ?restq6
    case hyq6 => (intro w hSw; (try dsimp only at hSw); go_simp; try with_reducible rfl)
    try simp only [Act.put, List.setIfInBounds_toArray, List.set_cons_zero, List.set_cons_succ]
    refine wpAnyH_ready (rs := [7]) (by kernel_rfl) (by simp) ?_
    refine AllReadyH.cons (o := { dst := some 108, op := .call { callee := .value (.func 81), args := #[.tmp 107], argTypes := #[4] }, type := _, pos := _, after := _, guard := none }) rfl (fun K hK => ?_) AllReadyH.nil
    go_simp
    go_at_call 81
    refine (HAS.out _ _).mono ?_
    rintro e w3 (⟨hb, rfl, rfl⟩ | ⟨hb, rfl, rfl⟩)
    · clear hb
      refine hK.out _ _ ?_ (fun hHeld => ?_)
      · assumption
      clear hK K
      try simp only [Act.put, List.setIfInBounds_toArray, List.set_cons_zero, List.set_cons_succ]
      refine wpAnyH_done (by kernel_rfl) ?_ _
      have HB4 := (‹Hid (Below W2.heap.size W2.drew _) ∧ _›).1
      go_wp2
      go_end0
      exact .inl ⟨K, left, HX.out, rfl, lv, (HWF.out _ HB4).1, (HWF.out _ HB4).2.1⟩
    · first | (cases hb; done) | (have := of_decide_eq_false hb; omega)
  · have hc2 : ¬ floorOf F.f K s ≤ s.h - 1 := hc
    have HX := Lib.hid (show stepX F K left q ⟨17, xa, xb, xc, xt⟩ s = _ from stepX_none (by rw [stepR_17, if_neg hc]))
    clear h hv hrow hb2d hw2d hv2d hb2 hw2 hv2 hin hsm hx hT hts hk2 hB2
    unfold stV insA at *
    go_enter Tryz.func51, Tryz.ntmps51
    generalize floorOf F.f K s = fl at *
    go_wp2_with fail
    rw [← hW2]
    clear hW2
    refine wp_region_held_drew (S := (fun x => Hid (Below W2.heap.size W2.drew x) ∧ x.cell? ⟨w.heap.size + 1, 0, none⟩ = some (.int .i64 s.h) ∧ x.cell? ⟨w.heap.size + 1, 1, none⟩ = some (.slice a s.tr.length c))) (by kernel_rfl) ?_ (fun hHeld => ?_)
    · exact HS.out _ (Below.refl _ _)
    refine wpAnyH_take (i := 0) (oi := { dst := some 101, op := .fieldAddr 119 (.tmp 7) 0, type := _, pos := _, after := _, guard := none }) (v := ?vr1) rfl (by kernel_rfl) (by kernel_rfl) (by kernel_rfl) (fun _ _ _ h => h) (Or.inl ⟨by rfl, ?hyr1⟩) (by assumption) ?restr1
    case hyr1 => (intro w hSw; (try dsimp only at hSw); go_simp; try with_reducible rfl)
    try simp only [Act.put, List.setIfInBounds_toArray, List.set_cons_zero, List.set_cons_succ]
    refine wpAnyH_take (i := 1) (oi := { dst := some 102, op := .load 2 (.tmp 101), type := _, pos := _, after := _, guard := none }) (v := ?vr2) rfl (by kernel_rfl) (by kernel_rfl) (by kernel_rfl) (fun _ _ _ h => h) (Or.inl ⟨by rfl, ?hyr2⟩) (by assumption) ?restr2
    case hyr2 => (intro w hSw; (try dsimp only at hSw); go_simp; try with_reducible rfl)
    try simp only [Act.put, List.setIfInBounds_toArray, List.set_cons_zero, List.set_cons_succ]
    refine wpAnyH_take (i := 2) (oi := { dst := some 103, op := .binOp .sub 2 (.tmp 102) (.const (.int .i64 1)) 2, type := _, pos := _, after := _, guard := none }) (v := ?vr3) rfl (by kernel_rfl) (by kernel_rfl) (by kernel_rfl) (fun _ _ _ h => h) (Or.inl ⟨by rfl, ?hyr3⟩) (by assumption) ?restr3
    case hyr3 => (intro w hSw; (try dsimp only at hSw); go_simp; try with_reducible rfl)
    try simp only [Act.put, List.setIfInBounds_toArray, List.set_cons_zero, List.set_cons_succ]
    refine wpAnyH_take (i := 3) (oi := { dst := some 104, op := .move (.tmp 0), type := _, pos := _, after := _, guard := none }) (v := ?vr4) rfl (by kernel_rfl) (by kernel_rfl) (by kernel_rfl) (fun _ _ _ h => h) (Or.inl ⟨by rfl, ?hyr4⟩) (by assumption) ?restr4
    case hyr4 => (intro w hSw; (try dsimp only at hSw); go_simp; try with_reducible rfl)
    try simp only [Act.put, List.setIfInBounds_toArray, List.set_cons_zero, List.set_cons_succ]
    refine wpAnyH_take (i := 4) (oi := { dst := some 105, op := .load 119 (.tmp 7), type := _, pos := _, after := _, guard := none }) (v := ?vr5) rfl (by kernel_rfl) (by kernel_rfl) (by kernel_rfl) (fun _ _ _ h => h) (Or.inl ⟨by rfl, ?hyr5⟩) (by assumption) ?restr5
    case hyr5 => (intro w hSw; (try dsimp only at hSw); go_simp; try with_reducible rfl)
    try simp only [Act.put, List.setIfInBounds_toArray, List.set_cons_zero, List.set_cons_succ]
    refine wpAnyH_ready (rs := [5]) (by kernel_rfl) (by simp) ?_
    refine AllReadyH.cons (o := { dst := some 106, op := .call { callee := .value (.func 84), args := #[.tmp 104, .tmp 105], argTypes := #[112, 119] }, type := _, pos := _, after := _, guard := none }) rfl (fun K hK => ?_) AllReadyH.nil
    go_simp
    go_at_call 84
    refine HF.out.mono ?_
    rintro e w3 ⟨rfl, hb3⟩
    refine hK.out _ _ ?_ (fun hHeld => ?_)
    · exact HS.out _ hb3
    clear hK K
    try simp only [Act.put, List.setIfInBounds_toArray, List.set_cons_zero, List.set_cons_succ]
    refine wpAnyH_take (i := 6) (oi := { dst := some 107, op := .binOp .geq 2 (.tmp 103) (.tmp 106) 2, type := _, pos := _, after := _, guard := none }) (v := ?vr6) rfl (by kernel_rfl) (by kernel_rfl) (by kernel_rfl) (fun _ _ _ h => h) (Or.inl ⟨by rfl, ?hyr6⟩) (by assumption) ?restr6
    case hyr6 => (intro w hSw; (try dsimp only at hSw); go_simp; try with_reducible rfl)
    try simp only [Act.put, List.setIfInBounds_toArray, List.set_cons_zero, List.set_cons_succ]
    refine wpAnyH_ready (rs := [7]) (by kernel_rfl) (by simp) ?_
    refine AllReadyH.cons (o := { dst := some 108, op := .call { callee := .value (.func 81), args := #[.tmp 107], argTypes := #[4] }, type := _, pos := _, after := _, guard := none }) rfl (fun K hK => ?_) AllReadyH.nil
    go_simp
    go_at_call 81
    refine (HAS.out _ _).mono ?_
    rintro e w3 (⟨hb, rfl, rfl⟩ | ⟨hb, rfl, rfl⟩)
    · first | (cases hb; done) | (have := of_decide_eq_true hb; omega)
    · clear hb
      have HB4 := (‹Hid (Below W2.heap.size W2.drew _) ∧ _›).1
      simp only [Exit.then, Exit.inBlock]
      exact ⟨rfl, .inr ⟨HX.out, rfl, (HWF.out _ HB4).2.2⟩⟩
end Go.Ck
namespace Go.Ck
open Go Go.RowKit Go.Proofs
theorem step_try {p : Pl} {F : Fn} {w : World} {K : Know} {lv v : Value} {left : List Int} {s : St} {q xa xb xc : Int} {xt : ByteArray} {N : Nat} (H : Pre p F w K lv v left s q ⟨18, xa, xb, xc, xt⟩ N) :
    Calls Tryz.prog 51 #[.pointer (some ⟨p.pb, 0, none⟩), .int .i64 q, insA ⟨18, xa, xb, xc, xt⟩, stV s v] w fun e w' => StepPost (stepX F K left q ⟨18, xa, xb, xc, xt⟩ s) p F lv w (.tuple #[]) e w' := by
  obtain ⟨h, hv, hin, hsm, hN, hlen, h0, h1, hx, q0, q1, hT, hts⟩ := H
  obtain ⟨a, c, rfl, hlc, hrow⟩ := id hv
  obtain ⟨W2, hW2⟩ : ∃ W2, W2 = (w.alloc (.cells #[.int .u8 18, .int .i64 xa, .int .i64 xb, .int .i64 xc, .string xt] 48)).alloc (.cells #[.int .i64 s.h, .slice a s.tr.length c] 119) := ⟨_, rfl⟩
  have hb2 : Below w.heap.size w W2 := by rw [hW2]; exact ((Below.refl _ _).alloc (Nat.le_refl _) _).alloc (by simp) _
  have hs2 : W2.heap.size = w.heap.size + 2 := by rw [hW2]; simp
  have hw2 := h.grow hb2
  have hv2 := hv.grow hb2
  have hbl := h.base_lt
  have hk2 : Kept p lv.ownBlock lv.ownBlock w W2 := Kept.of_below hb2
  have hB2 : Below p.base w W2 := hb2.mono hbl
  have HK2 := Lib.hid hk2
  have HB2 := Lib.hid hB2
  have hplt := h.pblt
  have hmlt := h.mlt
  have d0 : W2.cell? ⟨w.heap.size + 1, 0, none⟩ = some (.int .i64 s.h) := by rw [hW2]; simp [go_sem]
  have d1 : W2.cell? ⟨w.heap.size + 1, 1, none⟩ = some (.slice a s.tr.length c) := by rw [hW2]; simp [go_sem]
  have k0 : W2.cell? ⟨w.heap.size, 0, none⟩ = some (.int .u8 18) := by rw [hW2]; simp [go_sem]
  have k1 : W2.cell? ⟨w.heap.size, 1, none⟩ = some (.int .i64 xa) := by rw [hW2]; simp [go_sem]
  have k2 : W2.cell? ⟨w.heap.size, 2, none⟩ = some (.int .i64 xb) := by rw [hW2]; simp [go_sem]
  have k3 : W2.cell? ⟨w.heap.size, 3, none⟩ = some (.int .i64 xc) := by rw [hW2]; simp [go_sem]
  have k4 : W2.cell? ⟨w.heap.size, 4, none⟩ = some (.string xt) := by rw [hW2]; simp [go_sem]
  have f0 : W2.cell? ⟨p.pb, 0, none⟩ = some (.int .i64 F.f) := (hw2.cells 0).1
  have f0w : w.cell? ⟨p.pb, 0, none⟩ = some (.int .i64 F.f) := (h.cells 0).1
  have f0l : ((w.alloc (.cells #[.int .u8 18, .int .i64 xa, .int .i64 xb, .int .i64 xc, .string xt] 48)).alloc (.cells #[.int .i64 s.h, .slice a s.tr.length c] 119)).cell? ⟨p.pb, 0, none⟩ = some (.int .i64 F.f) := by rw [← hW2]; exact f0
  have f4 : W2.cell? ⟨p.pb, 4, none⟩ = some (.int .i64 F.gb) := (hw2.cells 4).1
  have f4w : w.cell? ⟨p.pb, 4, none⟩ = some (.int .i64 F.gb) := (h.cells 4).1
  have f4l : ((w.alloc (.cells #[.int .u8 18, .int .i64 xa, .int .i64 xb, .int .i64 xc, .string xt] 48)).alloc (.cells #[.int .i64 s.h, .slice a s.tr.length c] 119)).cell? ⟨p.pb, 4, none⟩ = some (.int .i64 F.gb) := by rw [← hW2]; exact f4
  have f5 : W2.cell? ⟨p.pb, 5, none⟩ = some (.int .i64 F.gc) := (hw2.cells 5).1
  have f5w : w.cell? ⟨p.pb, 5, none⟩ = some (.int .i64 F.gc) := (h.cells 5).1
  have f5l : ((w.alloc (.cells #[.int .u8 18, .int .i64 xa, .int .i64 xb, .int .i64 xc, .string xt] 48)).alloc (.cells #[.int .i64 s.h, .slice a s.tr.length c] 119)).cell? ⟨p.pb, 5, none⟩ = some (.int .i64 F.gc) := by rw [← hW2]; exact f5
  have f7 : W2.cell? ⟨p.pb, 7, none⟩ = some (.map (some p.m)) := (hw2.cells 7).1
  have f7w : w.cell? ⟨p.pb, 7, none⟩ = some (.map (some p.m)) := (h.cells 7).1
  have f7l : ((w.alloc (.cells #[.int .u8 18, .int .i64 xa, .int .i64 xb, .int .i64 xc, .string xt] 48)).alloc (.cells #[.int .i64 s.h, .slice a s.tr.length c] 119)).cell? ⟨p.pb, 7, none⟩ = some (.map (some p.m)) := by rw [← hW2]; exact f7
  have hb2d : Below w.heap.size w W2.drew := hb2.drew
  have hw2d := h.grow hb2d
  have hv2d := hv.grow hb2d
  have d0d : W2.drew.cell? ⟨w.heap.size + 1, 0, none⟩ = some (.int .i64 s.h) := d0
  have d1d : W2.drew.cell? ⟨w.heap.size + 1, 1, none⟩ = some (.slice a s.tr.length c) := d1
  have k1d : W2.drew.cell? ⟨w.heap.size, 1, none⟩ = some (.int .i64 xa) := k1
  have howl := own_lt h
  have hwq : IntKind.i64.wrap (q + 1) = q + 1 := by rw [IntKind.wrap_i64]; omega
  have hwh : IntKind.i64.wrap (s.h + 1) = s.h + 1 := by rw [IntKind.wrap_i64]; omega
  have HCL : Hid (∀ x, Below W2.heap.size W2.drew x → Calls Tryz.prog 85 #[.slice a s.tr.length c] x fun e w' => ∃ v', e = .returned v' ∧ Hid (w'.ownsRow W2.heap.size 3 1 v' s.tr.length (s.tr.map intV)) ∧ Hid (Below W2.heap.size W2.drew w') ∧ Hid (Below x.heap.size x w')) := Lib.hid fun x hx' =>
    (clone_ok (hv2d.grow hx') (by omega)).mono fun e w' ⟨v', e1, e2, e3⟩ => ⟨v', e1, Lib.hid (own_base e2 hx'.size), Lib.hid (hx'.trans (e3.mono hx'.size)), Lib.hid e3⟩
  have HC2 : Hid (∀ x, Below W2.heap.size W2.drew x → x.cell? ⟨w.heap.size + 1, 0, none⟩ = some (.int .i64 s.h) ∧ x.cell? ⟨w.heap.size + 1, 1, none⟩ = some (.slice a s.tr.length c)) := Lib.hid fun x hx' =>
    ⟨by rw [hx'.cell (p := ⟨w.heap.size + 1, 0, none⟩) (by show w.heap.size + 1 < _; omega)]; exact d0, by rw [hx'.cell (p := ⟨w.heap.size + 1, 1, none⟩) (by show w.heap.size + 1 < _; omega)]; exact d1⟩
  have cells : ∀ w' (q' : Option Nat), Kept p lv.ownBlock q' W2.drew w' → (w'.cell? ⟨w.heap.size + 1, 0, none⟩ = some (.int .i64 s.h) ∧ w'.cell? ⟨w.heap.size + 1, 1, none⟩ = some (.slice a s.tr.length c)) ∧ w'.cell? ⟨w.heap.size, 1, none⟩ = some (.int .i64 xa) := fun w' q' g => by
    have keep : ∀ b, w.heap.size ≤ b → b < W2.heap.size → w'.heap[b]? = W2.heap[b]? := fun b hb hb' => g.block b hb' (by omega) (by omega) (fun e => by have := howl _ e.symm; omega)
    exact ⟨⟨by rw [World.cell?_of_block (a := ⟨w.heap.size + 1, 0, none⟩) (keep (w.heap.size + 1) (by omega) (by omega))]; exact d0, by rw [World.cell?_of_block (a := ⟨w.heap.size + 1, 1, none⟩) (keep (w.heap.size + 1) (by omega) (by omega))]; exact d1⟩, by rw [World.cell?_of_block (a := ⟨w.heap.size, 1, none⟩) (keep w.heap.size (Nat.le_refl _) (by omega))]; exact k1⟩
  have HTO : Hid (∀ x v2, Hid (x.ownsRow W2.heap.size 3 1 v2 (s.tr.length + 1) (s.tr.map intV ++ [intV q])) → Hid (Below W2.heap.size W2.drew x) → Calls Tryz.prog 49 #[.pointer (some ⟨p.pb, 0, none⟩), .int .i64 (q + 1), .agg #[.int .i64 s.h, v2]] x fun e w' =>
      (∃ K' l', toP F.code.length K left (q + 1, ⟨s.h, s.tr ++ [q]⟩) = some (K', l') ∧ e = .returned (.tuple #[]) ∧ ∃ lv', WK p F w' K' lv' l' ∧ Kept p lv.ownBlock lv'.ownBlock W2.drew w' ∧ ((w'.cell? ⟨w.heap.size + 1, 0, none⟩ = some (.int .i64 s.h) ∧ w'.cell? ⟨w.heap.size + 1, 1, none⟩ = some (.slice a s.tr.length c)) ∧ w'.cell? ⟨w.heap.size, 1, none⟩ = some (.int .i64 xa))) ∨ (toP F.code.length K left (q + 1, ⟨s.h, s.tr ++ [q]⟩) = none ∧ e = .panicked [⟨wrongV, false, false⟩] ∧ Below p.base w w')) := Lib.hid fun x v2 ho hb => by
    have hx' := hb.out
    have hwx := hw2d.grow hx'
    have hkx : Kept p lv.ownBlock lv.ownBlock W2.drew x := Kept.of_below hx'
    have htr : TrV x p.base lv.ownBlock v2 (s.tr ++ [q]) := TrV.of_own (base := W2.heap.size) (by have := ho.out; simpa using this) (fun g hg => by have := howl g hg; omega) (by omega)
    refine (to_spec (s := ⟨s.h, s.tr ++ [q]⟩) (q := q + 1) hwx htr (hsm.small (by omega))).mono fun e w' hp => ?_
    rcases hp with ⟨K', l', h1, h2, lv', h3, h4⟩ | ⟨h1, h2, h3⟩
    · exact .inl ⟨K', l', h1, h2, lv', h3, hkx.trans h4, cells _ _ (hkx.trans h4)⟩
    · exact .inr ⟨h1, h2, ((hb2d.mono hbl).trans (hx'.mono (by omega))).trans h3⟩
  have HTO2 : Hid (∀ K' l' lv' w4, toP F.code.length K left (q + 1, ⟨s.h, s.tr ++ [q]⟩) = some (K', l') → WK p F w4 K' lv' l' → Kept p lv.ownBlock lv'.ownBlock W2.drew w4 →
      Calls Tryz.prog 49 #[.pointer (some ⟨p.pb, 0, none⟩), .int .i64 xa, .agg #[.int .i64 (s.h + 1), .slice a s.tr.length c]] w4 fun e w' => StepPost (toP F.code.length K' l' (xa, ⟨s.h + 1, s.tr⟩)) p F lv w (.tuple #[]) e w') := Lib.hid fun K' l' lv' w4 ht g1 g2 => by
    have hk4 : Kept p lv.ownBlock lv'.ownBlock w w4 := (Kept.of_below hb2d).trans g2
    exact (to_spec (s := ⟨s.h + 1, s.tr⟩) (q := xa) g1 (hv2d.kept g2 hw2d) ((hsm.to (by show (s.tr ++ [q]).length ≤ _; simp; omega) ht).small (by omega))).mono fun e w' hp => hp.from hk4 (hk4.below h)
  have HX : Hid (stepX F K left q ⟨18, xa, xb, xc, xt⟩ s = match toP F.code.length K left (q + 1, ⟨s.h, s.tr ++ [q]⟩) with | none => none | some r => toP F.code.length r.1 r.2 (xa, ⟨s.h + 1, s.tr⟩)) := Lib.hid (by unfold stepX; rw [stepR_18]; exact toAll_two _ _ _ _ _)
  have HBd : Hid (Below W2.heap.size W2.drew W2.drew) := Lib.hid (Below.refl _ _)
  have hl3 : s.tr.length ≤ 1048576 := by omega
  clear h hv hrow hb2d hw2d hv2d hb2 hw2 hv2 hin hsm hx hT hts hk2 hB2 cells
  unfold stV insA at *
  go_enter Tryz.func51, Tryz.ntmps51
  go_wp2_with fail
  rw [← hW2]
  clear hW2
  refine wp_region_held_drew (S := (fun x => x.cell? ⟨w.heap.size + 1, 0, none⟩ = some (.int .i64 s.h) ∧ x.cell? ⟨w.heap.size + 1, 1, none⟩ = some (.slice a s.tr.length c))) (by kernel_rfl) ?_ (fun hHeld => ?_)
  · exact ⟨d0d, d1d⟩
  refine wpAnyH_take (i := 0) (oi := { dst := some 128, op := .move (.tmp 0), type := _, pos := _, after := _, guard := none }) (v := ?vq1) rfl (by kernel_rfl) (by kernel_rfl) (by kernel_rfl) (fun _ _ _ h => h) (Or.inl ⟨by rfl, ?hyq1⟩) (by assumption) ?restq1
  case hyq1 => (intro w hSw; (try dsimp only at hSw); go_simp; try with_reducible rfl)
  try simp only [Act.put, List.setIfInBounds_toArray, List.set_cons_zero, List.set_cons_succ]
  refine wpAnyH_take (i := 1) (oi := { dst := some 129, op := .move (.tmp 1), type := _, pos := _, after := _, guard := none }) (v := ?vq2) rfl (by kernel_rfl) (by kernel_rfl) (by kernel_rfl) (fun _ _ _ h => h) (Or.inl ⟨by rfl, ?hyq2⟩) (by assumption) ?restq2
  case hyq2 => (intro w hSw; (try dsimp only at hSw); go_simp; try with_reducible rfl)
  try simp only [Act.put, List.setIfInBounds_toArray, List.set_cons_zero, List.set_cons_succ]
  refine wpAnyH_take (i := 2) (oi := { dst := some 130, op := .binOp .add 3 (.tmp 129) (.const (.int .i64 1)) 3, type := _, pos := _, after := _, guard := none }) (v := ?vq3) rfl (by kernel_rfl) (by kernel_rfl) (by kernel_rfl) (fun _ _ _ h => h) (Or.inl ⟨by rfl, ?hyq3⟩) (by assumption) ?restq3
  case hyq3 => (intro w hSw; (try dsimp only at hSw); go_simp; try with_reducible rfl)
  try simp only [Act.put, List.setIfInBounds_toArray, List.set_cons_zero, List.set_cons_succ]
  refine wpAnyH_take (i := 3) (oi := { dst := some 131, op := .fieldAddr 119 (.tmp 7) 0, type := _, pos := _, after := _, guard := none }) (v := ?vq4) rfl (by kernel_rfl) (by kernel_rfl) (by kernel_rfl) (fun _ _ _ h => h) (Or.inl ⟨by rfl, ?hyq4⟩) (by assumption) ?restq4
  case hyq4 => (intro w hSw; (try dsimp only at hSw); go_simp; try with_reducible rfl)
  try simp only [Act.put, List.setIfInBounds_toArray, List.set_cons_zero, List.set_cons_succ]
  refine wpAnyH_take (i := 4) (oi := { dst := some 132, op := .load 2 (.tmp 131), type := _, pos := _, after := _, guard := none }) (v := ?vq5) rfl (by kernel_rfl) (by kernel_rfl) (by kernel_rfl) (fun _ _ _ h => h) (Or.inl ⟨by rfl, ?hyq5⟩) (by assumption) ?restq5
  case hyq5 => (intro w hSw; (try dsimp only at hSw); go_simp; try with_reducible rfl)
  try simp only [Act.put, List.setIfInBounds_toArray, List.set_cons_zero, List.set_cons_succ]
  refine wpAnyH_take (i := 5) (oi := { dst := some 133, op := .fieldAddr 119 (.tmp 7) 1, type := _, pos := _, after := _, guard := none }) (v := ?vq6) rfl (by kernel_rfl) (by kernel_rfl) (by kernel_rfl) (fun _ _ _ h => h) (Or.inl ⟨by rfl, ?hyq6⟩) (by assumption) ?restq6
  case hyq6 => (intro w hSw; (try dsimp only at hSw); go_simp; try with_reducible rfl)
  try simp only [Act.put, List.setIfInBounds_toArray, List.set_cons_zero, List.set_cons_succ]
  refine wpAnyH_take (i := 6) (oi := { dst := some 134, op := .load 36 (.tmp 133), type := _, pos := _, after := _, guard := none }) (v := ?vq7) rfl (by kernel_rfl) (by kernel_rfl) (by kernel_rfl) (fun _ _ _ h => h) (Or.inl ⟨by rfl, ?hyq7⟩) (by assumption) ?restq7
  case hyq7 => (intro w hSw; (try dsimp only at hSw); go_simp; try with_reducible rfl)
  try simp only [Act.put, List.setIfInBounds_toArray, List.set_cons_zero, List.set_cons_succ]
  refine wpAnyH_take (i := 8) (oi := { dst := some 136, op := .move (.tmp 1), type := _, pos := _, after := _, guard := none }) (v := ?vq8) rfl (by kernel_rfl) (by kernel_rfl) (by kernel_rfl) (fun _ _ _ h => h) (Or.inl ⟨by rfl, ?hyq8⟩) (by assumption) ?restq8
  case hyq8 => (intro w hSw; (try dsimp only at hSw); go_simp; try with_reducible rfl)
  try simp only [Act.put, List.setIfInBounds_toArray, List.set_cons_zero, List.set_cons_succ]
  refine wpAnyH_ready (rs := [7, 9]) (by kernel_rfl) (by simp) ?_
  refine AllReadyH.cons (o := { dst := some 135, op := .call { callee := .value (.func 85), args := #[.tmp 134], argTypes := _ }, type := _, pos := _, after := _, guard := none }) rfl (fun K hK => ?_) (AllReadyH.cons (o := { dst := some 137, op := .buildSlice 36 1 #[(0, .tmp 136)], type := _, pos := _, after := _, guard := none }) rfl (fun K hK => ?_) AllReadyH.nil)
  · go_simp
    go_at_call 85
    refine (HCL.out _ HBd.out).mono ?_
    rintro e w3 ⟨v1, rfl, HO3, HB3, HBx⟩
    refine hK.out _ _ ?_ (fun hHeld => ?_)
    · exact HC2.out _ HB3.out
    clear hK K
    try simp only [Act.put, List.setIfInBounds_toArray, List.set_cons_zero, List.set_cons_succ]
    refine wpAnyH_ready (rs := [9]) (by kernel_rfl) (by simp) ?_
    refine AllReadyH.cons (o := { dst := some 137, op := .buildSlice 36 1 #[(0, .tmp 136)], type := _, pos := _, after := _, guard := none }) rfl (fun K hK => ?_) AllReadyH.nil
    go_simp
    refine hK.out _ _ ?_ (fun hHeld => ?_)
    · exact HC2.out _ (HB3.out.alloc HB3.out.size _)
    clear hK K
    try simp only [Act.put, List.setIfInBounds_toArray, List.set_cons_zero, List.set_cons_succ]
    have HO4 := Lib.hid (HO3.out.alloc (.cells #[.int .i64 q] 3))
    have HB4 := Lib.hid (HB3.out.alloc HB3.out.size (.cells #[.int .i64 q] 3))
    refine wpAnyH_ready (rs := [10]) (by kernel_rfl) (by simp) ?_
    refine AllReadyH.cons (o := { dst := some 138, op := .call { callee := .builtin .append, args := #[.tmp 135, .tmp 137], argTypes := #[36, 36] }, type := _, pos := _, after := _, guard := none }) rfl (fun K hK => ?_) AllReadyH.nil
    rw [if_pos (by rfl)]
    refine wp_app_q (B := W2.heap.size) (W := W2.drew) (l := s.tr) (t := q) _ _ rfl rfl rfl HO4 HB4 (Nat.le_refl _) (by simp [go_sem]) hl3 ?_
    intro v2 w5 HO5 HB5
    refine hK.out _ _ ?_ (fun hHeld => ?_)
    · exact HC2.out _ HB5.out
    clear hK K
    try simp only [Act.put, List.setIfInBounds_toArray, List.set_cons_zero, List.set_cons_succ]
    obtain ⟨a2, c2, rfl⟩ := own_slice HO5.out
    refine wpAnyH_take (i := 11) (oi := { dst := some 139, op := .build 119 #[(0, .tmp 132), (1, .tmp 138)], type := _, pos := _, after := _, guard := none }) (v := ?va1) rfl (by kernel_rfl) (by kernel_rfl) (by kernel_rfl) (fun _ _ _ h => h) (Or.inl ⟨by rfl, ?hya1⟩) (by assumption) ?resta1
    case hya1 => (intro w hSw; (try dsimp only at hSw); go_simp; try with_reducible rfl)
    try simp only [Act.put, List.setIfInBounds_toArray, List.set_cons_zero, List.set_cons_succ]
    refine wpAnyH_ready (rs := [12]) (by kernel_rfl) (by simp) ?_
    refine AllReadyH.cons (o := { dst := some 140, op := .call { callee := .value (.func 49), args := #[.tmp 128, .tmp 130, .tmp 139], argTypes := _ }, type := _, pos := _, after := _, guard := none }) rfl (fun K2 hK => ?_) AllReadyH.nil
    go_simp
    go_at_call 49
    refine (HTO.out _ _ HO5 HB5).mono ?_
    rintro e w6 (⟨K', l', hr, rfl, lv', g1, g2, g3⟩ | ⟨hr, rfl, hbw⟩)
    · have hcall := HTO2.out _ _ _ _ hr g1 g2
      have HG := Lib.hid hr
      have HC := Lib.hid hcall
      clear hr g1 g2 hcall HTO HTO2
      refine hK.out _ _ ?_ (fun hHeld => ?_)
      · exact g3.1
      obtain ⟨⟨z0, z1⟩, z2⟩ := g3
      clear hK K2
      try simp only [Act.put, List.setIfInBounds_toArray, List.set_cons_zero, List.set_cons_succ]
      refine wpAnyH_done (by kernel_rfl) ?_ _
      go_wp2_with fail
      refine HC.out.mono ?_
      rintro e w7 (⟨K3, l3, hr3, rfl, lv3, g4, g5⟩ | ⟨hr3, rfl, hbw⟩)
      · have HG2 := Lib.hid (And.intro hr3 (And.intro g4 g5))
        clear hr3 g4 g5
        go_wp2
        go_end0
        exact .inl ⟨K3, l3, by rw [HX.out, HG.out]; exact HG2.out.1, rfl, lv3, HG2.out.2.1, HG2.out.2.2⟩
      · have HG2 := Lib.hid (And.intro hr3 hbw)
        clear hr3 hbw
        go_wp2
        exact ⟨rfl, .inr ⟨by rw [HX.out, HG.out]; exact HG2.out.1, rfl, HG2.out.2⟩⟩
    · have HG := Lib.hid (And.intro hr hbw)
      clear hr hbw
      simp only [Exit.then, Exit.inBlock]
      exact ⟨rfl, .inr ⟨by rw [HX.out, HG.out.1], rfl, HG.out.2⟩⟩
  · go_simp
    refine hK.out _ _ ?_ (fun hHeld => ?_)
    · exact HC2.out _ (HBd.out.alloc (Nat.le_refl _) _)
    clear hK K
    try simp only [Act.put, List.setIfInBounds_toArray, List.set_cons_zero, List.set_cons_succ]
    refine wpAnyH_ready (rs := [7]) (by kernel_rfl) (by simp) ?_
    refine AllReadyH.cons (o := { dst := some 135, op := .call { callee := .value (.func 85), args := #[.tmp 134], argTypes := _ }, type := _, pos := _, after := _, guard := none }) rfl (fun K hK => ?_) AllReadyH.nil
    go_simp
    go_at_call 85
    refine (HCL.out _ (HBd.out.alloc (Nat.le_refl _) _)).mono ?_
    rintro e w3 ⟨v1, rfl, HO4, HB4, HBx⟩
    refine hK.out _ _ ?_ (fun hHeld => ?_)
    · exact HC2.out _ HB4.out
    clear hK K
    try simp only [Act.put, List.setIfInBounds_toArray, List.set_cons_zero, List.set_cons_succ]
    refine wpAnyH_ready (rs := [10]) (by kernel_rfl) (by simp) ?_
    refine AllReadyH.cons (o := { dst := some 138, op := .call { callee := .builtin .append, args := #[.tmp 135, .tmp 137], argTypes := #[36, 36] }, type := _, pos := _, after := _, guard := none }) rfl (fun K hK => ?_) AllReadyH.nil
    rw [if_pos (by rfl)]
    refine wp_app_q (B := W2.heap.size) (W := W2.drew) (l := s.tr) (t := q) _ _ rfl rfl rfl HO4 HB4 (Nat.le_refl _) (by rw [← hs2, HBx.out.cell (p := ⟨W2.heap.size, 0, none⟩) (by simp)]; simp [go_sem]) hl3 ?_
    intro v2 w5 HO5 HB5
    refine hK.out _ _ ?_ (fun hHeld => ?_)
    · exact HC2.out _ HB5.out
    clear hK K
    try simp only [Act.put, List.setIfInBounds_toArray, List.set_cons_zero, List.set_cons_succ]
    obtain ⟨a2, c2, rfl⟩ := own_slice HO5.out
    refine wpAnyH_take (i := 11) (oi := { dst := some 139, op := .build 119 #[(0, .tmp 132), (1, .tmp 138)], type := _, pos := _, after := _, guard := none }) (v := ?vb1) rfl (by kernel_rfl) (by kernel_rfl) (by kernel_rfl) (fun _ _ _ h => h) (Or.inl ⟨by rfl, ?hyb1⟩) (by assumption) ?restb1
    case hyb1 => (intro w hSw; (try dsimp only at hSw); go_simp; try with_reducible rfl)
    try simp only [Act.put, List.setIfInBounds_toArray, List.set_cons_zero, List.set_cons_succ]
    refine wpAnyH_ready (rs := [12]) (by kernel_rfl) (by simp) ?_
    refine AllReadyH.cons (o := { dst := some 140, op := .call { callee := .value (.func 49), args := #[.tmp 128, .tmp 130, .tmp 139], argTypes := _ }, type := _, pos := _, after := _, guard := none }) rfl (fun K2 hK => ?_) AllReadyH.nil
    go_simp
    go_at_call 49
    refine (HTO.out _ _ HO5 HB5).mono ?_
    rintro e w6 (⟨K', l', hr, rfl, lv', g1, g2, g3⟩ | ⟨hr, rfl, hbw⟩)
    · have hcall := HTO2.out _ _ _ _ hr g1 g2
      have HG := Lib.hid hr
      have HC := Lib.hid hcall
      clear hr g1 g2 hcall HTO HTO2
      refine hK.out _ _ ?_ (fun hHeld => ?_)
      · exact g3.1
      obtain ⟨⟨z0, z1⟩, z2⟩ := g3
      clear hK K2
      try simp only [Act.put, List.setIfInBounds_toArray, List.set_cons_zero, List.set_cons_succ]
      refine wpAnyH_done (by kernel_rfl) ?_ _
      go_wp2_with fail
      refine HC.out.mono ?_
      rintro e w7 (⟨K3, l3, hr3, rfl, lv3, g4, g5⟩ | ⟨hr3, rfl, hbw⟩)
      · have HG2 := Lib.hid (And.intro hr3 (And.intro g4 g5))
        clear hr3 g4 g5
        go_wp2
        go_end0
        exact .inl ⟨K3, l3, by rw [HX.out, HG.out]; exact HG2.out.1, rfl, lv3, HG2.out.2.1, HG2.out.2.2⟩
      · have HG2 := Lib.hid (And.intro hr3 hbw)
        clear hr3 hbw
        go_wp2
        exact ⟨rfl, .inr ⟨by rw [HX.out, HG.out]; exact HG2.out.1, rfl, HG2.out.2⟩⟩
    · have HG := Lib.hid (And.intro hr hbw)
      clear hr hbw
      simp only [Exit.then, Exit.inBlock]
      exact ⟨rfl, .inr ⟨by rw [HX.out, HG.out.1], rfl, HG.out.2⟩⟩
end Go.Ck
namespace Go.Ck
open Go Go.RowKit Go.Proofs
theorem step_end {p : Pl} {F : Fn} {w : World} {K : Know} {lv v : Value} {left : List Int} {s : St} {q xa xb xc : Int} {xt : ByteArray} {N : Nat} (H : Pre p F w K lv v left s q ⟨19, xa, xb, xc, xt⟩ N) :
    Calls Tryz.prog 51 #[.pointer (some ⟨p.pb, 0, none⟩), .int .i64 q, insA ⟨19, xa, xb, xc, xt⟩, stV s v] w fun e w' => StepPost (stepX F K left q ⟨19, xa, xb, xc, xt⟩ s) p F lv w (.tuple #[]) e w' := by
  obtain ⟨h, hv, hin, hsm, hN, hlen, h0, h1, hx, q0, q1, hT, hts⟩ := H
  obtain ⟨a, c, rfl, hlc, hrow⟩ := id hv
  obtain ⟨W2, hW2⟩ : ∃ W2, W2 = (w.alloc (.cells #[.int .u8 19, .int .i64 xa, .int .i64 xb, .int .i64 xc, .string xt] 48)).alloc (.cells #[.int .i64 s.h, .slice a s.tr.length c] 119) := ⟨_, rfl⟩
  have hb2 : Below w.heap.size w W2 := by rw [hW2]; exact ((Below.refl _ _).alloc (Nat.le_refl _) _).alloc (by simp) _
  have hs2 : W2.heap.size = w.heap.size + 2 := by rw [hW2]; simp
  have hw2 := h.grow hb2
  have hv2 := hv.grow hb2
  have hbl := h.base_lt
  have hk2 : Kept p lv.ownBlock lv.ownBlock w W2 := Kept.of_below hb2
  have hB2 : Below p.base w W2 := hb2.mono hbl
  have HK2 := Lib.hid hk2
  have HB2 := Lib.hid hB2
  have hplt := h.pblt
  have hmlt := h.mlt
  have d0 : W2.cell? ⟨w.heap.size + 1, 0, none⟩ = some (.int .i64 s.h) := by rw [hW2]; simp [go_sem]
  have d1 : W2.cell? ⟨w.heap.size + 1, 1, none⟩ = some (.slice a s.tr.length c) := by rw [hW2]; simp [go_sem]
  have k0 : W2.cell? ⟨w.heap.size, 0, none⟩ = some (.int .u8 19) := by rw [hW2]; simp [go_sem]
  have k1 : W2.cell? ⟨w.heap.size, 1, none⟩ = some (.int .i64 xa) := by rw [hW2]; simp [go_sem]
  have k2 : W2.cell? ⟨w.heap.size, 2, none⟩ = some (.int .i64 xb) := by rw [hW2]; simp [go_sem]
  have k3 : W2.cell? ⟨w.heap.size, 3, none⟩ = some (.int .i64 xc) := by rw [hW2]; simp [go_sem]
  have k4 : W2.cell? ⟨w.heap.size, 4, none⟩ = some (.string xt) := by rw [hW2]; simp [go_sem]
  have f0 : W2.cell? ⟨p.pb, 0, none⟩ = some (.int .i64 F.f) := (hw2.cells 0).1
  have f0w : w.cell? ⟨p.pb, 0, none⟩ = some (.int .i64 F.f) := (h.cells 0).1
  have f0l : ((w.alloc (.cells #[.int .u8 19, .int .i64 xa, .int .i64 xb, .int .i64 xc, .string xt] 48)).alloc (.cells #[.int .i64 s.h, .slice a s.tr.length c] 119)).cell? ⟨p.pb, 0, none⟩ = some (.int .i64 F.f) := by rw [← hW2]; exact f0
  have f4 : W2.cell? ⟨p.pb, 4, none⟩ = some (.int .i64 F.gb) := (hw2.cells 4).1
  have f4w : w.cell? ⟨p.pb, 4, none⟩ = some (.int .i64 F.gb) := (h.cells 4).1
  have f4l : ((w.alloc (.cells #[.int .u8 19, .int .i64 xa, .int .i64 xb, .int .i64 xc, .string xt] 48)).alloc (.cells #[.int .i64 s.h, .slice a s.tr.length c] 119)).cell? ⟨p.pb, 4, none⟩ = some (.int .i64 F.gb) := by rw [← hW2]; exact f4
  have f5 : W2.cell? ⟨p.pb, 5, none⟩ = some (.int .i64 F.gc) := (hw2.cells 5).1
  have f5w : w.cell? ⟨p.pb, 5, none⟩ = some (.int .i64 F.gc) := (h.cells 5).1
  have f5l : ((w.alloc (.cells #[.int .u8 19, .int .i64 xa, .int .i64 xb, .int .i64 xc, .string xt] 48)).alloc (.cells #[.int .i64 s.h, .slice a s.tr.length c] 119)).cell? ⟨p.pb, 5, none⟩ = some (.int .i64 F.gc) := by rw [← hW2]; exact f5
  have f7 : W2.cell? ⟨p.pb, 7, none⟩ = some (.map (some p.m)) := (hw2.cells 7).1
  have f7w : w.cell? ⟨p.pb, 7, none⟩ = some (.map (some p.m)) := (h.cells 7).1
  have f7l : ((w.alloc (.cells #[.int .u8 19, .int .i64 xa, .int .i64 xb, .int .i64 xc, .string xt] 48)).alloc (.cells #[.int .i64 s.h, .slice a s.tr.length c] 119)).cell? ⟨p.pb, 7, none⟩ = some (.map (some p.m)) := by rw [← hW2]; exact f7
  have hb2d : Below w.heap.size w W2.drew := hb2.drew
  have hw2d := h.grow hb2d
  have hv2d := hv.grow hb2d
  have d0d : W2.drew.cell? ⟨w.heap.size + 1, 0, none⟩ = some (.int .i64 s.h) := d0
  have d1d : W2.drew.cell? ⟨w.heap.size + 1, 1, none⟩ = some (.slice a s.tr.length c) := d1
  have f7d : W2.drew.cell? ⟨p.pb, 7, none⟩ = some (.map (some p.m)) := f7
  have HAS := Lib.hid ask_spec
  have HB2d := Lib.hid (hB2.drew)
  have hwq : IntKind.i64.wrap (q + 1) = q + 1 := by rw [IntKind.wrap_i64]; omega
  by_cases htr : s.tr = []
  · have hz : (s.tr.length : Int) = 0 := by rw [htr]; rfl
    have hwl : IntKind.i64.wrap ((s.tr.length : Int) - 1) = -1 := by rw [hz]; rfl
    have HX : Hid (stepX F K left q ⟨19, xa, xb, xc, xt⟩ s = none) := Lib.hid (stepX_none (by rw [stepR_19]; unfold lastH; rw [htr]; rfl))
    clear h hv hrow hb2d hw2d hv2d hb2 hw2 hv2 hin hsm hx hT hts hk2 hB2 htr hz
    unfold stV insA at *
    go_enter Tryz.func51, Tryz.ntmps51
    go_wp2_with fail
    rw [← hW2]
    clear hW2
    refine wp_region_held_drew (S := (fun z => z = W2.drew)) (by kernel_rfl) ?_ (fun hHeld => ?_)
    · rfl
    refine wpAnyH_take (i := 0) (oi := { dst := some 157, op := .move (.tmp 8), type := _, pos := _, after := _, guard := none }) (v := ?vq1) rfl (by kernel_rfl) (by kernel_rfl) (by kernel_rfl) (fun _ _ _ h => h) (Or.inl ⟨by rfl, ?hyq1⟩) (by assumption) ?restq1
    case hyq1 => (intro w hSw; (try dsimp only at hSw); go_simp; try with_reducible rfl)
    try simp only [Act.put, List.setIfInBounds_toArray, List.set_cons_zero, List.set_cons_succ]
    refine wpAnyH_take (i := 1) (oi := { dst := some 158, op := .binOp .geq 3 (.tmp 157) (.const (.int .i64 0)) 3, type := _, pos := _, after := _, guard := none }) (v := ?vq2) rfl (by kernel_rfl) (by kernel_rfl) (by kernel_rfl) (fun _ _ _ h => h) (Or.inl ⟨by rfl, ?hyq2⟩) (by assumption) ?restq2
    case hyq2 => (intro w hSw; (try dsimp only at hSw); go_simp; try with_reducible rfl)
    try simp only [Act.put, List.setIfInBounds_toArray, List.set_cons_zero, List.set_cons_succ]
    refine wpAnyH_take (i := 2) (oi := { dst := some 159, op := .move (.tmp 158), type := _, pos := _, after := _, guard := none }) (v := ?vq3) rfl (by kernel_rfl) (by kernel_rfl) (by kernel_rfl) (fun _ _ _ h => h) (Or.inl ⟨by rfl, ?hyq3⟩) (by assumption) ?restq3
    case hyq3 => (intro w hSw; (try dsimp only at hSw); go_simp; try with_reducible rfl)
    try simp only [Act.put, List.setIfInBounds_toArray, List.set_cons_zero, List.set_cons_succ]
    refine wpAnyH_take (i := 3) (oi := { dst := some 160, op := .fieldAddr 119 (.tmp 7) 0, type := _, pos := _, after := _, guard := some (2, true) }) (v := undef) rfl (by kernel_rfl) (by kernel_rfl) (by kernel_rfl) (fun _ _ _ h => h) (Or.inr ⟨by first | kernel_rfl | rfl, rfl⟩) (by assumption) ?_
    try simp only [Act.put, List.setIfInBounds_toArray, List.set_cons_zero, List.set_cons_succ]
    refine wpAnyH_take (i := 4) (oi := { dst := some 161, op := .load 2 (.tmp 160), type := _, pos := _, after := _, guard := some (2, true) }) (v := undef) rfl (by kernel_rfl) (by kernel_rfl) (by kernel_rfl) (fun _ _ _ h => h) (Or.inr ⟨by first | kernel_rfl | rfl, rfl⟩) (by assumption) ?_
    try simp only [Act.put, List.setIfInBounds_toArray, List.set_cons_zero, List.set_cons_succ]
    refine wpAnyH_take (i := 5) (oi := { dst := some 162, op := .move (.tmp 0), type := _, pos := _, after := _, guard := some (2, true) }) (v := undef) rfl (by kernel_rfl) (by kernel_rfl) (by kernel_rfl) (fun _ _ _ h => h) (Or.inr ⟨by first | kernel_rfl | rfl, rfl⟩) (by assumption) ?_
    try simp only [Act.put, List.setIfInBounds_toArray, List.set_cons_zero, List.set_cons_succ]
    refine wpAnyH_take (i := 6) (oi := { dst := some 163, op := .nilCheck (.tmp 162), type := _, pos := _, after := _, guard := some (2, true) }) (v := undef) rfl (by kernel_rfl) (by kernel_rfl) (by kernel_rfl) (fun _ _ _ h => h) (Or.inr ⟨by first | kernel_rfl | rfl, rfl⟩) (by assumption) ?_
    try simp only [Act.put, List.setIfInBounds_toArray, List.set_cons_zero, List.set_cons_succ]
    refine wpAnyH_take (i := 7) (oi := { dst := some 164, op := .fieldAddr 115 (.tmp 163) 3, type := _, pos := _, after := _, guard := some (2, true) }) (v := undef) rfl (by kernel_rfl) (by kernel_rfl) (by kernel_rfl) (fun _ _ _ h => h) (Or.inr ⟨by first | kernel_rfl | rfl, rfl⟩) (by assumption) ?_
    try simp only [Act.put, List.setIfInBounds_toArray, List.set_cons_zero, List.set_cons_succ]
    refine wpAnyH_take (i := 8) (oi := { dst := some 165, op := .load 113 (.tmp 164), type := _, pos := _, after := _, guard := some (2, true) }) (v := undef) rfl (by kernel_rfl) (by kernel_rfl) (by kernel_rfl) (fun _ _ _ h => h) (Or.inr ⟨by first | kernel_rfl | rfl, rfl⟩) (by assumption) ?_
    try simp only [Act.put, List.setIfInBounds_toArray, List.set_cons_zero, List.set_cons_succ]
    refine wpAnyH_take (i := 9) (oi := { dst := some 166, op := .fieldAddr 119 (.tmp 7) 1, type := _, pos := _, after := _, guard := some (2, true) }) (v := undef) rfl (by kernel_rfl) (by kernel_rfl) (by kernel_rfl) (fun _ _ _ h => h) (Or.inr ⟨by first | kernel_rfl | rfl, rfl⟩) (by assumption) ?_
    try simp only [Act.put, List.setIfInBounds_toArray, List.set_cons_zero, List.set_cons_succ]
    refine wpAnyH_take (i := 10) (oi := { dst := some 167, op := .load 36 (.tmp 166), type := _, pos := _, after := _, guard := some (2, true) }) (v := undef) rfl (by kernel_rfl) (by kernel_rfl) (by kernel_rfl) (fun _ _ _ h => h) (Or.inr ⟨by first | kernel_rfl | rfl, rfl⟩) (by assumption) ?_
    try simp only [Act.put, List.setIfInBounds_toArray, List.set_cons_zero, List.set_cons_succ]
    refine wpAnyH_take (i := 11) (oi := { dst := some 168, op := .move (.tmp 8), type := _, pos := _, after := _, guard := some (2, true) }) (v := undef) rfl (by kernel_rfl) (by kernel_rfl) (by kernel_rfl) (fun _ _ _ h => h) (Or.inr ⟨by first | kernel_rfl | rfl, rfl⟩) (by assumption) ?_
    try simp only [Act.put, List.setIfInBounds_toArray, List.set_cons_zero, List.set_cons_succ]
    refine wpAnyH_take (i := 12) (oi := { dst := some 169, op := .indexAddr 36 (.tmp 167) (.tmp 168), type := _, pos := _, after := _, guard := some (2, true) }) (v := undef) rfl (by kernel_rfl) (by kernel_rfl) (by kernel_rfl) (fun _ _ _ h => h) (Or.inr ⟨by first | kernel_rfl | rfl, rfl⟩) (by assumption) ?_
    try simp only [Act.put, List.setIfInBounds_toArray, List.set_cons_zero, List.set_cons_succ]
    refine wpAnyH_take (i := 13) (oi := { dst := some 170, op := .load 3 (.tmp 169), type := _, pos := _, after := _, guard := some (2, true) }) (v := undef) rfl (by kernel_rfl) (by kernel_rfl) (by kernel_rfl) (fun _ _ _ h => h) (Or.inr ⟨by first | kernel_rfl | rfl, rfl⟩) (by assumption) ?_
    try simp only [Act.put, List.setIfInBounds_toArray, List.set_cons_zero, List.set_cons_succ]
    refine wpAnyH_take (i := 14) (oi := { dst := some 171, op := .lookup 113 (.tmp 165) (.tmp 170) false, type := _, pos := _, after := _, guard := some (2, true) }) (v := undef) rfl (by kernel_rfl) (by kernel_rfl) (by kernel_rfl) (fun _ _ _ h => h) (Or.inr ⟨by first | kernel_rfl | rfl, rfl⟩) (by assumption) ?_
    try simp only [Act.put, List.setIfInBounds_toArray, List.set_cons_zero, List.set_cons_succ]
    refine wpAnyH_take (i := 15) (oi := { dst := some 172, op := .field 119 (.tmp 171) 0, type := _, pos := _, after := _, guard := some (2, true) }) (v := undef) rfl (by kernel_rfl) (by kernel_rfl) (by kernel_rfl) (fun _ _ _ h => h) (Or.inr ⟨by first | kernel_rfl | rfl, rfl⟩) (by assumption) ?_
    try simp only [Act.put, List.setIfInBounds_toArray, List.set_cons_zero, List.set_cons_succ]
    refine wpAnyH_take (i := 16) (oi := { dst := some 173, op := .binOp .add 2 (.tmp 172) (.const (.int .i64 1)) 2, type := _, pos := _, after := _, guard := some (2, true) }) (v := undef) rfl (by kernel_rfl) (by kernel_rfl) (by kernel_rfl) (fun _ _ _ h => h) (Or.inr ⟨by first | kernel_rfl | rfl, rfl⟩) (by assumption) ?_
    try simp only [Act.put, List.setIfInBounds_toArray, List.set_cons_zero, List.set_cons_succ]
    refine wpAnyH_take (i := 17) (oi := { dst := some 174, op := .binOp .eql 2 (.tmp 161) (.tmp 173) 2, type := _, pos := _, after := _, guard := some (2, true) }) (v := undef) rfl (by kernel_rfl) (by kernel_rfl) (by kernel_rfl) (fun _ _ _ h => h) (Or.inr ⟨by first | kernel_rfl | rfl, rfl⟩) (by assumption) ?_
    try simp only [Act.put, List.setIfInBounds_toArray, List.set_cons_zero, List.set_cons_succ]
    refine wpAnyH_take (i := 18) (oi := { dst := some 175, op := .pick (.tmp 159) (.tmp 174) (.const (.bool false)), type := _, pos := _, after := _, guard := none }) (v := ?vq4) rfl (by kernel_rfl) (by kernel_rfl) (by kernel_rfl) (fun _ _ _ h => h) (Or.inl ⟨by rfl, ?hyq4⟩) (by assumption) ?restq4
    case hyq4 => (intro w hSw; (try dsimp only at hSw); go_simp; try with_reducible rfl)
    try simp only [Act.put, List.setIfInBounds_toArray, List.set_cons_zero, List.set_cons_succ]
    refine wpAnyH_ready (rs := [19]) (by kernel_rfl) (by simp) ?_
    refine AllReadyH.cons (o := { dst := some 176, op := .call { callee := .value (.func 81), args := #[.tmp 175], argTypes := #[4] }, type := _, pos := _, after := _, guard := none }) rfl (fun K hK => ?_) AllReadyH.nil
    go_simp
    go_at_call 81
    refine (HAS.out _ _).mono ?_
    rintro e w3 (⟨hb, rfl, rfl⟩ | ⟨hb, rfl, rfl⟩)
    · cases hb
    · clear hb
      simp only [Exit.then, Exit.inBlock]
      exact ⟨rfl, .inr ⟨HX.out, rfl, HB2d.out⟩⟩
  have hpos : 0 < s.tr.length := List.length_pos_iff.2 htr
  obtain ⟨t, ht⟩ : ∃ t, s.tr[s.tr.length - 1]? = some t := ⟨s.tr[s.tr.length - 1]'(by omega), List.getElem?_eq_getElem _⟩
  have hlast : s.tr.getLast? = some t := by rw [List.getLast?_eq_getElem?]; exact ht
  obtain ⟨s', hs'⟩ := hin t (getLast_mem hlast)
  have hH : lastH K s = some s'.h := by unfold lastH hAt; rw [hlast]; simp [hs']
  have hbs := hts _ (look_mem hs')
  have hws : IntKind.i64.wrap (s'.h + 1) = s'.h + 1 := by rw [IntKind.wrap_i64]; have := hbs.1; have := hbs.2; simp only at *; omega
  have hwl : IntKind.i64.wrap ((s.tr.length : Int) - 1) = ((s.tr.length - 1 : Nat) : Int) := by rw [IntKind.wrap_i64]; omega
  have e3 : ((s.tr.length - 1 : Nat) : Int) < (s.tr.length : Int) := by omega
  have e4 : (0 : Int) ≤ ((s.tr.length - 1 : Nat) : Int) := by omega
  have e5 : ((s.tr.length - 1 : Nat) : Int) ≤ (c : Int) := by omega
  have e6 : (s.tr.length : Int) ≤ 100000 := by omega
  obtain ⟨g, o, rfl, ht1⟩ := TrV.cell hv2d ht
  obtain ⟨vl, _, _, hlk⟩ := look_run_hit hw2d.known hs'
  have HK2d : Hid (Kept p lv.ownBlock lv.ownBlock w W2.drew.drew) := Lib.hid (Kept.of_below hb2d.drew)
  have HB3d := Lib.hid (hB2.drew.drew)
  have howl := own_lt h
  have HON : Hid (Calls Tryz.prog 49 #[.pointer (some ⟨p.pb, 0, none⟩), .int .i64 (q + 1), stV ⟨s.h, s.tr.dropLast⟩ (.slice (some ⟨g, o, none⟩) (s.tr.length - 1) c)] W2.drew.drew fun e w' => (∃ K' l', toP F.code.length K left (q + 1, ⟨s.h, s.tr.dropLast⟩) = some (K', l') ∧ e = .returned (.tuple #[]) ∧ ∃ lv', WK p F w' K' lv' l' ∧ Kept p lv.ownBlock lv'.ownBlock W2.drew.drew w' ∧ (w'.cell? ⟨w.heap.size + 1, 0, none⟩ = some (.int .i64 s.h) ∧ w'.cell? ⟨w.heap.size + 1, 1, none⟩ = some (.slice (some ⟨g, o, none⟩) s.tr.length c))) ∨ (toP F.code.length K left (q + 1, ⟨s.h, s.tr.dropLast⟩) = none ∧ e = .panicked [⟨wrongV, false, false⟩] ∧ Below p.base W2.drew.drew w')) := Lib.hid
    ((to_spec (s := ⟨s.h, s.tr.dropLast⟩) (q := q + 1) (h.grow hb2d.drew) (hv.grow hb2d.drew).dropLast (hsm.small (by omega))).mono fun e w' hp => by
      rcases hp with ⟨K', l', h1, h2, lv', h3, h4⟩ | h
      · have keep : ∀ b, w.heap.size ≤ b → b < W2.heap.size → w'.heap[b]? = W2.heap[b]? := fun b hb hb' => h4.block b hb' (by omega) (by omega) (fun e => by have := howl _ e.symm; omega)
        exact .inl ⟨K', l', h1, h2, lv', h3, h4, by rw [World.cell?_of_block (a := ⟨w.heap.size + 1, 0, none⟩) (keep (w.heap.size + 1) (by omega) (by omega))]; exact d0, by rw [World.cell?_of_block (a := ⟨w.heap.size + 1, 1, none⟩) (keep (w.heap.size + 1) (by omega) (by omega))]; exact d1⟩
      · exact .inr h)
  have d0e : W2.drew.drew.cell? ⟨w.heap.size + 1, 0, none⟩ = some (.int .i64 s.h) := d0
  have d1e : W2.drew.drew.cell? ⟨w.heap.size + 1, 1, none⟩ = some (.slice (some ⟨g, o, none⟩) s.tr.length c) := d1
  have HX0 := stepR_19 (f := F.f) (gb := F.gb) (gc := F.gc) (K := K) (q := q) (xa := xa) (xb := xb) (xc := xc) (xt := xt) (s := s)
  rw [hH] at HX0
  simp only at HX0
  by_cases hc : s.h = s'.h + 1
  · have HX : Hid (stepX F K left q ⟨19, xa, xb, xc, xt⟩ s = toP F.code.length K left (q + 1, ⟨s.h, s.tr.dropLast⟩)) := Lib.hid (stepX_one (by rw [HX0, if_pos hc]))
    have ec : (s.h == s'.h + 1) = true := by simpa using hc
    have hcc := Lib.hid hc
    clear hc
    clear h hv hrow hb2d hw2d hv2d hb2 hw2 hv2 hin hsm hx hT hts hk2 hB2 htr hpos ht hlast hs' hH hbs HX0
    unfold stV insA at *
    go_enter Tryz.func51, Tryz.ntmps51
    go_wp2_with fail
    rw [← hW2]
    clear hW2
    refine wp_region_held_drew (S := (fun z => z = W2.drew)) (by kernel_rfl) ?_ (fun hHeld => ?_)
    · rfl
    refine wpAnyH_take (i := 0) (oi := { dst := some 157, op := .move (.tmp 8), type := _, pos := _, after := _, guard := none }) (v := ?vr1) rfl (by kernel_rfl) (by kernel_rfl) (by kernel_rfl) (fun _ _ _ h => h) (Or.inl ⟨by rfl, ?hyr1⟩) (by assumption) ?restr1
    case hyr1 => (intro w hSw; (try dsimp only at hSw); go_simp; try with_reducible rfl)
    try simp only [Act.put, List.setIfInBounds_toArray, List.set_cons_zero, List.set_cons_succ]
    refine wpAnyH_take (i := 1) (oi := { dst := some 158, op := .binOp .geq 3 (.tmp 157) (.const (.int .i64 0)) 3, type := _, pos := _, after := _, guard := none }) (v := ?vr2) rfl (by kernel_rfl) (by kernel_rfl) (by kernel_rfl) (fun _ _ _ h => h) (Or.inl ⟨by rfl, ?hyr2⟩) (by assumption) ?restr2
    case hyr2 => (intro w hSw; (try dsimp only at hSw); go_simp; try with_reducible rfl)
    try simp only [Act.put, List.setIfInBounds_toArray, List.set_cons_zero, List.set_cons_succ]
    refine wpAnyH_take (i := 2) (oi := { dst := some 159, op := .move (.tmp 158), type := _, pos := _, after := _, guard := none }) (v := ?vr3) rfl (by kernel_rfl) (by kernel_rfl) (by kernel_rfl) (fun _ _ _ h => h) (Or.inl ⟨by rfl, ?hyr3⟩) (by assumption) ?restr3
    case hyr3 => (intro w hSw; (try dsimp only at hSw); go_simp; try with_reducible rfl)
    try simp only [Act.put, List.setIfInBounds_toArray, List.set_cons_zero, List.set_cons_succ]
    refine wpAnyH_take (i := 3) (oi := { dst := some 160, op := .fieldAddr 119 (.tmp 7) 0, type := _, pos := _, after := _, guard := some (2, true) }) (v := ?vr4) rfl (by kernel_rfl) (by kernel_rfl) (by kernel_rfl) (fun _ _ _ h => h) (Or.inl ⟨by rfl, ?hyr4⟩) (by assumption) ?restr4
    case hyr4 => (intro w hSw; (try dsimp only at hSw); go_simp; try with_reducible rfl)
    try simp only [Act.put, List.setIfInBounds_toArray, List.set_cons_zero, List.set_cons_succ]
    refine wpAnyH_take (i := 4) (oi := { dst := some 161, op := .load 2 (.tmp 160), type := _, pos := _, after := _, guard := some (2, true) }) (v := ?vr5) rfl (by kernel_rfl) (by kernel_rfl) (by kernel_rfl) (fun _ _ _ h => h) (Or.inl ⟨by rfl, ?hyr5⟩) (by assumption) ?restr5
    case hyr5 => (intro w hSw; (try dsimp only at hSw); go_simp; try with_reducible rfl)
    try simp only [Act.put, List.setIfInBounds_toArray, List.set_cons_zero, List.set_cons_succ]
    refine wpAnyH_take (i := 5) (oi := { dst := some 162, op := .move (.tmp 0), type := _, pos := _, after := _, guard := some (2, true) }) (v := ?vr6) rfl (by kernel_rfl) (by kernel_rfl) (by kernel_rfl) (fun _ _ _ h => h) (Or.inl ⟨by rfl, ?hyr6⟩) (by assumption) ?restr6
    case hyr6 => (intro w hSw; (try dsimp only at hSw); go_simp; try with_reducible rfl)
    try simp only [Act.put, List.setIfInBounds_toArray, List.set_cons_zero, List.set_cons_succ]
    refine wpAnyH_take (i := 6) (oi := { dst := some 163, op := .nilCheck (.tmp 162), type := _, pos := _, after := _, guard := some (2, true) }) (v := ?vr7) rfl (by kernel_rfl) (by kernel_rfl) (by kernel_rfl) (fun _ _ _ h => h) (Or.inl ⟨by rfl, ?hyr7⟩) (by assumption) ?restr7
    case hyr7 => (intro w hSw; (try dsimp only at hSw); go_simp; try with_reducible rfl)
    try simp only [Act.put, List.setIfInBounds_toArray, List.set_cons_zero, List.set_cons_succ]
    refine wpAnyH_take (i := 7) (oi := { dst := some 164, op := .fieldAddr 115 (.tmp 163) 3, type := _, pos := _, after := _, guard := some (2, true) }) (v := ?vr8) rfl (by kernel_rfl) (by kernel_rfl) (by kernel_rfl) (fun _ _ _ h => h) (Or.inl ⟨by rfl, ?hyr8⟩) (by assumption) ?restr8
    case hyr8 => (intro w hSw; (try dsimp only at hSw); go_simp; try with_reducible rfl)
    try simp only [Act.put, List.setIfInBounds_toArray, List.set_cons_zero, List.set_cons_succ]
    refine wpAnyH_take (i := 8) (oi := { dst := some 165, op := .load 113 (.tmp 164), type := _, pos := _, after := _, guard := some (2, true) }) (v := ?vr9) rfl (by kernel_rfl) (by kernel_rfl) (by kernel_rfl) (fun _ _ _ h => h) (Or.inl ⟨by rfl, ?hyr9⟩) (by assumption) ?restr9
    case hyr9 => (intro w hSw; (try dsimp only at hSw); go_simp; try with_reducible rfl)
    try simp only [Act.put, List.setIfInBounds_toArray, List.set_cons_zero, List.set_cons_succ]
    refine wpAnyH_take (i := 9) (oi := { dst := some 166, op := .fieldAddr 119 (.tmp 7) 1, type := _, pos := _, after := _, guard := some (2, true) }) (v := ?vr10) rfl (by kernel_rfl) (by kernel_rfl) (by kernel_rfl) (fun _ _ _ h => h) (Or.inl ⟨by rfl, ?hyr10⟩) (by assumption) ?restr10
    case hyr10 => (intro w hSw; (try dsimp only at hSw); go_simp; try with_reducible rfl)
    try simp only [Act.put, List.setIfInBounds_toArray, List.set_cons_zero, List.set_cons_succ]
    refine wpAnyH_take (i := 10) (oi := { dst := some 167, op := .load 36 (.tmp 166), type := _, pos := _, after := _, guard := some (2, true) }) (v := ?vr11) rfl (by kernel_rfl) (by kernel_rfl) (by kernel_rfl) (fun _ _ _ h => h) (Or.inl ⟨by rfl, ?hyr11⟩) (by assumption) ?restr11
    case hyr11 => (intro w hSw; (try dsimp only at hSw); go_simp; try with_reducible rfl)
    try simp only [Act.put, List.setIfInBounds_toArray, List.set_cons_zero, List.set_cons_succ]
    refine wpAnyH_take (i := 11) (oi := { dst := some 168, op := .move (.tmp 8), type := _, pos := _, after := _, guard := some (2, true) }) (v := ?vr12) rfl (by kernel_rfl) (by kernel_rfl) (by kernel_rfl) (fun _ _ _ h => h) (Or.inl ⟨by rfl, ?hyr12⟩) (by assumption) ?restr12
    case hyr12 => (intro w hSw; (try dsimp only at hSw); go_simp; try with_reducible rfl)
    try simp only [Act.put, List.setIfInBounds_toArray, List.set_cons_zero, List.set_cons_succ]
    refine wpAnyH_take (i := 12) (oi := { dst := some 169, op := .indexAddr 36 (.tmp 167) (.tmp 168), type := _, pos := _, after := _, guard := some (2, true) }) (v := ?vr13) rfl (by kernel_rfl) (by kernel_rfl) (by kernel_rfl) (fun _ _ _ h => h) (Or.inl ⟨by rfl, ?hyr13⟩) (by assumption) ?restr13
    case hyr13 => (intro w hSw; (try dsimp only at hSw); go_simp; try with_reducible rfl)
    try simp only [Act.put, List.setIfInBounds_toArray, List.set_cons_zero, List.set_cons_succ]
    refine wpAnyH_take (i := 13) (oi := { dst := some 170, op := .load 3 (.tmp 169), type := _, pos := _, after := _, guard := some (2, true) }) (v := ?vr14) rfl (by kernel_rfl) (by kernel_rfl) (by kernel_rfl) (fun _ _ _ h => h) (Or.inl ⟨by rfl, ?hyr14⟩) (by assumption) ?restr14
    case hyr14 => (intro w hSw; (try dsimp only at hSw); go_simp; try with_reducible rfl)
    try simp only [Act.put, List.setIfInBounds_toArray, List.set_cons_zero, List.set_cons_succ]
    refine wpAnyH_take (i := 14) (oi := { dst := some 171, op := .lookup 113 (.tmp 165) (.tmp 170) false, type := _, pos := _, after := _, guard := some (2, true) }) (v := ?vr15) rfl (by kernel_rfl) (by kernel_rfl) (by kernel_rfl) (fun _ _ _ h => h) (Or.inl ⟨by rfl, ?hyr15⟩) (by assumption) ?restr15
    case hyr15 => (intro w hSw; (try dsimp only at hSw); go_simp; try with_reducible rfl)
    try simp only [Act.put, List.setIfInBounds_toArray, List.set_cons_zero, List.set_cons_succ]
    refine wpAnyH_take (i := 15) (oi := { dst := some 172, op := .field 119 (.tmp 171) 0, type := _, pos := _, after := _, guard := some (2, true) }) (v := ?vr16) rfl (by kernel_rfl) (by kernel_rfl) (by kernel_rfl) (fun _ _ _ h => h) (Or.inl ⟨by rfl, ?hyr16⟩) (by assumption) ?restr16
    case hyr16 => (intro w hSw; (try dsimp only at hSw); go_simp; try with_reducible rfl)
    try simp only [Act.put, List.setIfInBounds_toArray, List.set_cons_zero, List.set_cons_succ]
    refine wpAnyH_take (i := 16) (oi := { dst := some 173, op := .binOp .add 2 (.tmp 172) (.const (.int .i64 1)) 2, type := _, pos := _, after := _, guard := some (2, true) }) (v := ?vr17) rfl (by kernel_rfl) (by kernel_rfl) (by kernel_rfl) (fun _ _ _ h => h) (Or.inl ⟨by rfl, ?hyr17⟩) (by assumption) ?restr17
    case hyr17 => (intro w hSw; (try dsimp only at hSw); go_simp; try with_reducible rfl)
    try simp only [Act.put, List.setIfInBounds_toArray, List.set_cons_zero, List.set_cons_succ]
    refine wpAnyH_take (i := 17) (oi := { dst := some 174, op := .binOp .eql 2 (.tmp 161) (.tmp 173) 2, type := _, pos := _, after := _, guard := some (2, true) }) (v := ?vr18) rfl (by kernel_rfl) (by kernel_rfl) (by kernel_rfl) (fun _ _ _ h => h) (Or.inl ⟨by rfl, ?hyr18⟩) (by assumption) ?restr18
    case hyr18 => (intro w hSw; (try dsimp only at hSw); go_simp; try with_reducible rfl)
    try simp only [Act.put, List.setIfInBounds_toArray, List.set_cons_zero, List.set_cons_succ]
    refine wpAnyH_take (i := 18) (oi := { dst := some 175, op := .pick (.tmp 159) (.tmp 174) (.const (.bool false)), type := _, pos := _, after := _, guard := none }) (v := ?vr19) rfl (by kernel_rfl) (by kernel_rfl) (by kernel_rfl) (fun _ _ _ h => h) (Or.inl ⟨by rfl, ?hyr19⟩) (by assumption) ?restr19
    case hyr19 => (intro w hSw; (try dsimp only at hSw); go_simp; try with_reducible rfl)
    try simp only [Act.put, List.setIfInBounds_toArray, List.set_cons_zero, List.set_cons_succ]
    refine wpAnyH_ready (rs := [19]) (by kernel_rfl) (by simp) ?_
    refine AllReadyH.cons (o := { dst := some 176, op := .call { callee := .value (.func 81), args := #[.tmp 175], argTypes := #[4] }, type := _, pos := _, after := _, guard := none }) rfl (fun K hK => ?_) AllReadyH.nil
    go_simp
    go_at_call 81
    refine (HAS.out _ _).mono ?_
    rintro e w3 (⟨hb, rfl, rfl⟩ | ⟨hb, rfl, rfl⟩)
    · clear hb
      refine hK.out _ _ ?_ (fun hHeld => ?_)
      · rfl
      clear hK K
      try simp only [Act.put, List.setIfInBounds_toArray, List.set_cons_zero, List.set_cons_succ]
      refine wpAnyH_done (by kernel_rfl) ?_ _
      go_wp2_with fail
      refine wp_region_held_drew (S := (fun x => x.cell? ⟨w.heap.size + 1, 0, none⟩ = some (.int .i64 s.h) ∧ x.cell? ⟨w.heap.size + 1, 1, none⟩ = some (.slice (some ⟨g, o, none⟩) s.tr.length c))) (by kernel_rfl) ?_ (fun hHeld => ?_)
      · exact ⟨d0e, d1e⟩
      refine wpAnyH_take (i := 0) (oi := { dst := some 177, op := .move (.tmp 0), type := _, pos := _, after := _, guard := none }) (v := ?vs1) rfl (by kernel_rfl) (by kernel_rfl) (by kernel_rfl) (fun _ _ _ h => h) (Or.inl ⟨by rfl, ?hys1⟩) (by assumption) ?rests1
      case hys1 => (intro w hSw; (try dsimp only at hSw); go_simp; try with_reducible rfl)
      try simp only [Act.put, List.setIfInBounds_toArray, List.set_cons_zero, List.set_cons_succ]
      refine wpAnyH_take (i := 1) (oi := { dst := some 178, op := .move (.tmp 1), type := _, pos := _, after := _, guard := none }) (v := ?vs2) rfl (by kernel_rfl) (by kernel_rfl) (by kernel_rfl) (fun _ _ _ h => h) (Or.inl ⟨by rfl, ?hys2⟩) (by assumption) ?rests2
      case hys2 => (intro w hSw; (try dsimp only at hSw); go_simp; try with_reducible rfl)
      try simp only [Act.put, List.setIfInBounds_toArray, List.set_cons_zero, List.set_cons_succ]
      refine wpAnyH_take (i := 2) (oi := { dst := some 179, op := .binOp .add 3 (.tmp 178) (.const (.int .i64 1)) 3, type := _, pos := _, after := _, guard := none }) (v := ?vs3) rfl (by kernel_rfl) (by kernel_rfl) (by kernel_rfl) (fun _ _ _ h => h) (Or.inl ⟨by rfl, ?hys3⟩) (by assumption) ?rests3
      case hys3 => (intro w hSw; (try dsimp only at hSw); go_simp; try with_reducible rfl)
      try simp only [Act.put, List.setIfInBounds_toArray, List.set_cons_zero, List.set_cons_succ]
      refine wpAnyH_take (i := 3) (oi := { dst := some 180, op := .fieldAddr 119 (.tmp 7) 0, type := _, pos := _, after := _, guard := none }) (v := ?vs4) rfl (by kernel_rfl) (by kernel_rfl) (by kernel_rfl) (fun _ _ _ h => h) (Or.inl ⟨by rfl, ?hys4⟩) (by assumption) ?rests4
      case hys4 => (intro w hSw; (try dsimp only at hSw); go_simp; try with_reducible rfl)
      try simp only [Act.put, List.setIfInBounds_toArray, List.set_cons_zero, List.set_cons_succ]
      refine wpAnyH_take (i := 4) (oi := { dst := some 181, op := .load 2 (.tmp 180), type := _, pos := _, after := _, guard := none }) (v := ?vs5) rfl (by kernel_rfl) (by kernel_rfl) (by kernel_rfl) (fun _ _ _ h => h) (Or.inl ⟨by rfl, ?hys5⟩) (by assumption) ?rests5
      case hys5 => (intro w hSw; (try dsimp only at hSw); go_simp; try with_reducible rfl)
      try simp only [Act.put, List.setIfInBounds_toArray, List.set_cons_zero, List.set_cons_succ]
      refine wpAnyH_take (i := 5) (oi := { dst := some 182, op := .fieldAddr 119 (.tmp 7) 1, type := _, pos := _, after := _, guard := none }) (v := ?vs6) rfl (by kernel_rfl) (by kernel_rfl) (by kernel_rfl) (fun _ _ _ h => h) (Or.inl ⟨by rfl, ?hys6⟩) (by assumption) ?rests6
      case hys6 => (intro w hSw; (try dsimp only at hSw); go_simp; try with_reducible rfl)
      try simp only [Act.put, List.setIfInBounds_toArray, List.set_cons_zero, List.set_cons_succ]
      refine wpAnyH_take (i := 6) (oi := { dst := some 183, op := .load 36 (.tmp 182), type := _, pos := _, after := _, guard := none }) (v := ?vs7) rfl (by kernel_rfl) (by kernel_rfl) (by kernel_rfl) (fun _ _ _ h => h) (Or.inl ⟨by rfl, ?hys7⟩) (by assumption) ?rests7
      case hys7 => (intro w hSw; (try dsimp only at hSw); go_simp; try with_reducible rfl)
      try simp only [Act.put, List.setIfInBounds_toArray, List.set_cons_zero, List.set_cons_succ]
      refine wpAnyH_take (i := 7) (oi := { dst := some 184, op := .move (.tmp 8), type := _, pos := _, after := _, guard := none }) (v := ?vs8) rfl (by kernel_rfl) (by kernel_rfl) (by kernel_rfl) (fun _ _ _ h => h) (Or.inl ⟨by rfl, ?hys8⟩) (by assumption) ?rests8
      case hys8 => (intro w hSw; (try dsimp only at hSw); go_simp; try with_reducible rfl)
      try simp only [Act.put, List.setIfInBounds_toArray, List.set_cons_zero, List.set_cons_succ]
      refine wpAnyH_take (i := 8) (oi := { dst := some 185, op := .slice 36 (.tmp 183) none (some (.tmp 184)) none, type := _, pos := _, after := _, guard := none }) (v := ?vs9) rfl (by kernel_rfl) (by kernel_rfl) (by kernel_rfl) (fun _ _ _ h => h) (Or.inl ⟨by rfl, ?hys9⟩) (by assumption) ?rests9
      case hys9 => (intro w hSw; (try dsimp only at hSw); go_simp; try with_reducible rfl)
      try simp only [Act.put, List.setIfInBounds_toArray, List.set_cons_zero, List.set_cons_succ]
      refine wpAnyH_take (i := 9) (oi := { dst := some 186, op := .build 119 #[(0, .tmp 181), (1, .tmp 185)], type := _, pos := _, after := _, guard := none }) (v := ?vs10) rfl (by kernel_rfl) (by kernel_rfl) (by kernel_rfl) (fun _ _ _ h => h) (Or.inl ⟨by rfl, ?hys10⟩) (by assumption) ?rests10
      case hys10 => (intro w hSw; (try dsimp only at hSw); go_simp; try with_reducible rfl)
      try simp only [Act.put, List.setIfInBounds_toArray, List.set_cons_zero, List.set_cons_succ]
      refine wpAnyH_ready (rs := [10]) (by kernel_rfl) (by simp) ?_
      refine AllReadyH.cons (o := { dst := some 187, op := .call { callee := .value (.func 49), args := #[.tmp 177, .tmp 179, .tmp 186], argTypes := _ }, type := _, pos := _, after := _, guard := none }) rfl (fun K2 hK => ?_) AllReadyH.nil
      go_simp
      go_at_call 49
      refine HON.out.mono ?_
      rintro e w6 (⟨K', l', hr, rfl, lv', g1, g2, g3⟩ | ⟨hr, rfl, hbw⟩)
      · have HG := Lib.hid (And.intro hr (And.intro g1 g2))
        clear hr g1 g2
        refine hK.out _ _ ?_ (fun hHeld => ?_)
        · exact g3
        clear hK K2
        try simp only [Act.put, List.setIfInBounds_toArray, List.set_cons_zero, List.set_cons_succ]
        refine wpAnyH_done (by kernel_rfl) ?_ _
        go_wp2
        go_end0
        exact .inl ⟨K', l', HX.out.trans HG.out.1, rfl, lv', HG.out.2.1, HK2d.out.trans HG.out.2.2⟩
      · have HG := Lib.hid (And.intro hr hbw)
        clear hr hbw
        simp only [Exit.then, Exit.inBlock]
        exact ⟨rfl, .inr ⟨HX.out.trans HG.out.1, rfl, HB3d.out.trans HG.out.2⟩⟩
    · first | (cases hb; done) | (have hcd := hcc.out; simp at hb; omega)
  · have HX : Hid (stepX F K left q ⟨19, xa, xb, xc, xt⟩ s = none) := Lib.hid (stepX_none (by rw [HX0, if_neg hc]))
    have ec : (s.h == s'.h + 1) = false := by simpa using hc
    have hcc := Lib.hid hc
    clear hc
    clear h hv hrow hb2d hw2d hv2d hb2 hw2 hv2 hin hsm hx hT hts hk2 hB2 htr hpos ht hlast hs' hH hbs HX0
    unfold stV insA at *
    go_enter Tryz.func51, Tryz.ntmps51
    go_wp2_with fail
    rw [← hW2]
    clear hW2
    refine wp_region_held_drew (S := (fun z => z = W2.drew)) (by kernel_rfl) ?_ (fun hHeld => ?_)
    · rfl
    refine wpAnyH_take (i := 0) (oi := { dst := some 157, op := .move (.tmp 8), type := _, pos := _, after := _, guard := none }) (v := ?vv1) rfl (by kernel_rfl) (by kernel_rfl) (by kernel_rfl) (fun _ _ _ h => h) (Or.inl ⟨by rfl, ?hyv1⟩) (by assumption) ?restv1
    case hyv1 => (intro w hSw; (try dsimp only at hSw); go_simp; try with_reducible rfl)
    try simp only [Act.put, List.setIfInBounds_toArray, List.set_cons_zero, List.set_cons_succ]
    refine wpAnyH_take (i := 1) (oi := { dst := some 158, op := .binOp .geq 3 (.tmp 157) (.const (.int .i64 0)) 3, type := _, pos := _, after := _, guard := none }) (v := ?vv2) rfl (by kernel_rfl) (by kernel_rfl) (by kernel_rfl) (fun _ _ _ h => h) (Or.inl ⟨by rfl, ?hyv2⟩) (by assumption) ?restv2
    case hyv2 => (intro w hSw; (try dsimp only at hSw); go_simp; try with_reducible rfl)
    try simp only [Act.put, List.setIfInBounds_toArray, List.set_cons_zero, List.set_cons_succ]
    refine wpAnyH_take (i := 2) (oi := { dst := some 159, op := .move (.tmp 158), type := _, pos := _, after := _, guard := none }) (v := ?vv3) rfl (by kernel_rfl) (by kernel_rfl) (by kernel_rfl) (fun _ _ _ h => h) (Or.inl ⟨by rfl, ?hyv3⟩) (by assumption) ?restv3
    case hyv3 => (intro w hSw; (try dsimp only at hSw); go_simp; try with_reducible rfl)
    try simp only [Act.put, List.setIfInBounds_toArray, List.set_cons_zero, List.set_cons_succ]
    refine wpAnyH_take (i := 3) (oi := { dst := some 160, op := .fieldAddr 119 (.tmp 7) 0, type := _, pos := _, after := _, guard := some (2, true) }) (v := ?vv4) rfl (by kernel_rfl) (by kernel_rfl) (by kernel_rfl) (fun _ _ _ h => h) (Or.inl ⟨by rfl, ?hyv4⟩) (by assumption) ?restv4
    case hyv4 => (intro w hSw; (try dsimp only at hSw); go_simp; try with_reducible rfl)
    try simp only [Act.put, List.setIfInBounds_toArray, List.set_cons_zero, List.set_cons_succ]
    refine wpAnyH_take (i := 4) (oi := { dst := some 161, op := .load 2 (.tmp 160), type := _, pos := _, after := _, guard := some (2, true) }) (v := ?vv5) rfl (by kernel_rfl) (by kernel_rfl) (by kernel_rfl) (fun _ _ _ h => h) (Or.inl ⟨by rfl, ?hyv5⟩) (by assumption) ?restv5
    case hyv5 => (intro w hSw; (try dsimp only at hSw); go_simp; try with_reducible rfl)
    try simp only [Act.put, List.setIfInBounds_toArray, List.set_cons_zero, List.set_cons_succ]
    refine wpAnyH_take (i := 5) (oi := { dst := some 162, op := .move (.tmp 0), type := _, pos := _, after := _, guard := some (2, true) }) (v := ?vv6) rfl (by kernel_rfl) (by kernel_rfl) (by kernel_rfl) (fun _ _ _ h => h) (Or.inl ⟨by rfl, ?hyv6⟩) (by assumption) ?restv6
    case hyv6 => (intro w hSw; (try dsimp only at hSw); go_simp; try with_reducible rfl)
    try simp only [Act.put, List.setIfInBounds_toArray, List.set_cons_zero, List.set_cons_succ]
    refine wpAnyH_take (i := 6) (oi := { dst := some 163, op := .nilCheck (.tmp 162), type := _, pos := _, after := _, guard := some (2, true) }) (v := ?vv7) rfl (by kernel_rfl) (by kernel_rfl) (by kernel_rfl) (fun _ _ _ h => h) (Or.inl ⟨by rfl, ?hyv7⟩) (by assumption) ?restv7
    case hyv7 => (intro w hSw; (try dsimp only at hSw); go_simp; try with_reducible rfl)
    try simp only [Act.put, List.setIfInBounds_toArray, List.set_cons_zero, List.set_cons_succ]
    refine wpAnyH_take (i := 7) (oi := { dst := some 164, op := .fieldAddr 115 (.tmp 163) 3, type := _, pos := _, after := _, guard := some (2, true) }) (v := ?vv8) rfl (by kernel_rfl) (by kernel_rfl) (by kernel_rfl) (fun _ _ _ h => h) (Or.inl ⟨by rfl, ?hyv8⟩) (by assumption) ?restv8
    case hyv8 => (intro w hSw; (try dsimp only at hSw); go_simp; try with_reducible rfl)
    try simp only [Act.put, List.setIfInBounds_toArray, List.set_cons_zero, List.set_cons_succ]
    refine wpAnyH_take (i := 8) (oi := { dst := some 165, op := .load 113 (.tmp 164), type := _, pos := _, after := _, guard := some (2, true) }) (v := ?vv9) rfl (by kernel_rfl) (by kernel_rfl) (by kernel_rfl) (fun _ _ _ h => h) (Or.inl ⟨by rfl, ?hyv9⟩) (by assumption) ?restv9
    case hyv9 => (intro w hSw; (try dsimp only at hSw); go_simp; try with_reducible rfl)
    try simp only [Act.put, List.setIfInBounds_toArray, List.set_cons_zero, List.set_cons_succ]
    refine wpAnyH_take (i := 9) (oi := { dst := some 166, op := .fieldAddr 119 (.tmp 7) 1, type := _, pos := _, after := _, guard := some (2, true) }) (v := ?vv10) rfl (by kernel_rfl) (by kernel_rfl) (by kernel_rfl) (fun _ _ _ h => h) (Or.inl ⟨by rfl, ?hyv10⟩) (by assumption) ?restv10
    case hyv10 => (intro w hSw; (try dsimp only at hSw); go_simp; try with_reducible rfl)
    try simp only [Act.put, List.setIfInBounds_toArray, List.set_cons_zero, List.set_cons_succ]
    refine wpAnyH_take (i := 10) (oi := { dst := some 167, op := .load 36 (.tmp 166), type := _, pos := _, after := _, guard := some (2, true) }) (v := ?vv11) rfl (by kernel_rfl) (by kernel_rfl) (by kernel_rfl) (fun _ _ _ h => h) (Or.inl ⟨by rfl, ?hyv11⟩) (by assumption) ?restv11
    case hyv11 => (intro w hSw; (try dsimp only at hSw); go_simp; try with_reducible rfl)
    try simp only [Act.put, List.setIfInBounds_toArray, List.set_cons_zero, List.set_cons_succ]
    refine wpAnyH_take (i := 11) (oi := { dst := some 168, op := .move (.tmp 8), type := _, pos := _, after := _, guard := some (2, true) }) (v := ?vv12) rfl (by kernel_rfl) (by kernel_rfl) (by kernel_rfl) (fun _ _ _ h => h) (Or.inl ⟨by rfl, ?hyv12⟩) (by assumption) ?restv12
    case hyv12 => (intro w hSw; (try dsimp only at hSw); go_simp; try with_reducible rfl)
    try simp only [Act.put, List.setIfInBounds_toArray, List.set_cons_zero, List.set_cons_succ]
    refine wpAnyH_take (i := 12) (oi := { dst := some 169, op := .indexAddr 36 (.tmp 167) (.tmp 168), type := _, pos := _, after := _, guard := some (2, true) }) (v := ?vv13) rfl (by kernel_rfl) (by kernel_rfl) (by kernel_rfl) (fun _ _ _ h => h) (Or.inl ⟨by rfl, ?hyv13⟩) (by assumption) ?restv13
    case hyv13 => (intro w hSw; (try dsimp only at hSw); go_simp; try with_reducible rfl)
    try simp only [Act.put, List.setIfInBounds_toArray, List.set_cons_zero, List.set_cons_succ]
    refine wpAnyH_take (i := 13) (oi := { dst := some 170, op := .load 3 (.tmp 169), type := _, pos := _, after := _, guard := some (2, true) }) (v := ?vv14) rfl (by kernel_rfl) (by kernel_rfl) (by kernel_rfl) (fun _ _ _ h => h) (Or.inl ⟨by rfl, ?hyv14⟩) (by assumption) ?restv14
    case hyv14 => (intro w hSw; (try dsimp only at hSw); go_simp; try with_reducible rfl)
    try simp only [Act.put, List.setIfInBounds_toArray, List.set_cons_zero, List.set_cons_succ]
    refine wpAnyH_take (i := 14) (oi := { dst := some 171, op := .lookup 113 (.tmp 165) (.tmp 170) false, type := _, pos := _, after := _, guard := some (2, true) }) (v := ?vv15) rfl (by kernel_rfl) (by kernel_rfl) (by kernel_rfl) (fun _ _ _ h => h) (Or.inl ⟨by rfl, ?hyv15⟩) (by assumption) ?restv15
    case hyv15 => (intro w hSw; (try dsimp only at hSw); go_simp; try with_reducible rfl)
    try simp only [Act.put, List.setIfInBounds_toArray, List.set_cons_zero, List.set_cons_succ]
    refine wpAnyH_take (i := 15) (oi := { dst := some 172, op := .field 119 (.tmp 171) 0, type := _, pos := _, after := _, guard := some (2, true) }) (v := ?vv16) rfl (by kernel_rfl) (by kernel_rfl) (by kernel_rfl) (fun _ _ _ h => h) (Or.inl ⟨by rfl, ?hyv16⟩) (by assumption) ?restv16
    case hyv16 => (intro w hSw; (try dsimp only at hSw); go_simp; try with_reducible rfl)
    try simp only [Act.put, List.setIfInBounds_toArray, List.set_cons_zero, List.set_cons_succ]
    refine wpAnyH_take (i := 16) (oi := { dst := some 173, op := .binOp .add 2 (.tmp 172) (.const (.int .i64 1)) 2, type := _, pos := _, after := _, guard := some (2, true) }) (v := ?vv17) rfl (by kernel_rfl) (by kernel_rfl) (by kernel_rfl) (fun _ _ _ h => h) (Or.inl ⟨by rfl, ?hyv17⟩) (by assumption) ?restv17
    case hyv17 => (intro w hSw; (try dsimp only at hSw); go_simp; try with_reducible rfl)
    try simp only [Act.put, List.setIfInBounds_toArray, List.set_cons_zero, List.set_cons_succ]
    refine wpAnyH_take (i := 17) (oi := { dst := some 174, op := .binOp .eql 2 (.tmp 161) (.tmp 173) 2, type := _, pos := _, after := _, guard := some (2, true) }) (v := ?vv18) rfl (by kernel_rfl) (by kernel_rfl) (by kernel_rfl) (fun _ _ _ h => h) (Or.inl ⟨by rfl, ?hyv18⟩) (by assumption) ?restv18
    case hyv18 => (intro w hSw; (try dsimp only at hSw); go_simp; try with_reducible rfl)
    try simp only [Act.put, List.setIfInBounds_toArray, List.set_cons_zero, List.set_cons_succ]
    refine wpAnyH_take (i := 18) (oi := { dst := some 175, op := .pick (.tmp 159) (.tmp 174) (.const (.bool false)), type := _, pos := _, after := _, guard := none }) (v := ?vv19) rfl (by kernel_rfl) (by kernel_rfl) (by kernel_rfl) (fun _ _ _ h => h) (Or.inl ⟨by rfl, ?hyv19⟩) (by assumption) ?restv19
    case hyv19 => (intro w hSw; (try dsimp only at hSw); go_simp; try with_reducible rfl)
    try simp only [Act.put, List.setIfInBounds_toArray, List.set_cons_zero, List.set_cons_succ]
    refine wpAnyH_ready (rs := [19]) (by kernel_rfl) (by simp) ?_
    refine AllReadyH.cons (o := { dst := some 176, op := .call { callee := .value (.func 81), args := #[.tmp 175], argTypes := #[4] }, type := _, pos := _, after := _, guard := none }) rfl (fun K hK => ?_) AllReadyH.nil
    go_simp
    go_at_call 81
    refine (HAS.out _ _).mono ?_
    rintro e w3 (⟨hb, rfl, rfl⟩ | ⟨hb, rfl, rfl⟩)
    · first | (cases hb; done) | (have hcd := hcc.out; simp at hb; omega)
    · clear hb
      simp only [Exit.then, Exit.inBlock]
      exact ⟨rfl, .inr ⟨HX.out, rfl, HB2d.out⟩⟩
end Go.Ck
namespace Go.Ck
open Go Go.RowKit Go.Proofs
theorem step_root {p : Pl} {F : Fn} {w : World} {K : Know} {lv v : Value} {left : List Int} {s : St} {q xa xb xc : Int} {xt : ByteArray} {N : Nat} (H : Pre p F w K lv v left s q ⟨23, xa, xb, xc, xt⟩ N) :
    Calls Tryz.prog 51 #[.pointer (some ⟨p.pb, 0, none⟩), .int .i64 q, insA ⟨23, xa, xb, xc, xt⟩, stV s v] w fun e w' => StepPost (stepX F K left q ⟨23, xa, xb, xc, xt⟩ s) p F lv w (.tuple #[]) e w' := by
  obtain ⟨h, hv, hin, hsm, hN, hlen, h0, h1, hx, q0, q1, hT, hts⟩ := H
  obtain ⟨a, c, rfl, hlc, hrow⟩ := id hv
  obtain ⟨W2, hW2⟩ : ∃ W2, W2 = (w.alloc (.cells #[.int .u8 23, .int .i64 xa, .int .i64 xb, .int .i64 xc, .string xt] 48)).alloc (.cells #[.int .i64 s.h, .slice a s.tr.length c] 119) := ⟨_, rfl⟩
  have hb2 : Below w.heap.size w W2 := by rw [hW2]; exact ((Below.refl _ _).alloc (Nat.le_refl _) _).alloc (by simp) _
  have hs2 : W2.heap.size = w.heap.size + 2 := by rw [hW2]; simp
  have hw2 := h.grow hb2
  have hv2 := hv.grow hb2
  have hbl := h.base_lt
  have hk2 : Kept p lv.ownBlock lv.ownBlock w W2 := Kept.of_below hb2
  have hB2 : Below p.base w W2 := hb2.mono hbl
  have HK2 := Lib.hid hk2
  have HB2 := Lib.hid hB2
  have hplt := h.pblt
  have hmlt := h.mlt
  have d0 : W2.cell? ⟨w.heap.size + 1, 0, none⟩ = some (.int .i64 s.h) := by rw [hW2]; simp [go_sem]
  have d1 : W2.cell? ⟨w.heap.size + 1, 1, none⟩ = some (.slice a s.tr.length c) := by rw [hW2]; simp [go_sem]
  have k0 : W2.cell? ⟨w.heap.size, 0, none⟩ = some (.int .u8 23) := by rw [hW2]; simp [go_sem]
  have k1 : W2.cell? ⟨w.heap.size, 1, none⟩ = some (.int .i64 xa) := by rw [hW2]; simp [go_sem]
  have k2 : W2.cell? ⟨w.heap.size, 2, none⟩ = some (.int .i64 xb) := by rw [hW2]; simp [go_sem]
  have k3 : W2.cell? ⟨w.heap.size, 3, none⟩ = some (.int .i64 xc) := by rw [hW2]; simp [go_sem]
  have k4 : W2.cell? ⟨w.heap.size, 4, none⟩ = some (.string xt) := by rw [hW2]; simp [go_sem]
  have f0 : W2.cell? ⟨p.pb, 0, none⟩ = some (.int .i64 F.f) := (hw2.cells 0).1
  have f0w : w.cell? ⟨p.pb, 0, none⟩ = some (.int .i64 F.f) := (h.cells 0).1
  have f0l : ((w.alloc (.cells #[.int .u8 23, .int .i64 xa, .int .i64 xb, .int .i64 xc, .string xt] 48)).alloc (.cells #[.int .i64 s.h, .slice a s.tr.length c] 119)).cell? ⟨p.pb, 0, none⟩ = some (.int .i64 F.f) := by rw [← hW2]; exact f0
  have f4 : W2.cell? ⟨p.pb, 4, none⟩ = some (.int .i64 F.gb) := (hw2.cells 4).1
  have f4w : w.cell? ⟨p.pb, 4, none⟩ = some (.int .i64 F.gb) := (h.cells 4).1
  have f4l : ((w.alloc (.cells #[.int .u8 23, .int .i64 xa, .int .i64 xb, .int .i64 xc, .string xt] 48)).alloc (.cells #[.int .i64 s.h, .slice a s.tr.length c] 119)).cell? ⟨p.pb, 4, none⟩ = some (.int .i64 F.gb) := by rw [← hW2]; exact f4
  have f5 : W2.cell? ⟨p.pb, 5, none⟩ = some (.int .i64 F.gc) := (hw2.cells 5).1
  have f5w : w.cell? ⟨p.pb, 5, none⟩ = some (.int .i64 F.gc) := (h.cells 5).1
  have f5l : ((w.alloc (.cells #[.int .u8 23, .int .i64 xa, .int .i64 xb, .int .i64 xc, .string xt] 48)).alloc (.cells #[.int .i64 s.h, .slice a s.tr.length c] 119)).cell? ⟨p.pb, 5, none⟩ = some (.int .i64 F.gc) := by rw [← hW2]; exact f5
  have f7 : W2.cell? ⟨p.pb, 7, none⟩ = some (.map (some p.m)) := (hw2.cells 7).1
  have f7w : w.cell? ⟨p.pb, 7, none⟩ = some (.map (some p.m)) := (h.cells 7).1
  have f7l : ((w.alloc (.cells #[.int .u8 23, .int .i64 xa, .int .i64 xb, .int .i64 xc, .string xt] 48)).alloc (.cells #[.int .i64 s.h, .slice a s.tr.length c] 119)).cell? ⟨p.pb, 7, none⟩ = some (.map (some p.m)) := by rw [← hW2]; exact f7
  have HAS := Lib.hid ask_spec
  have hwq : IntKind.i64.wrap (q + 1) = q + 1 := by rw [IntKind.wrap_i64]; omega
  have hwh : IntKind.i64.wrap (s.h + 1) = s.h + 1 := by rw [IntKind.wrap_i64]; omega
  have HTO1 := Lib.hid (to_spec (q := q + 1) hw2 hv2 (hsm.small (by omega)))
  have howl := own_lt h
  have c1 : W2.heap[w.heap.size + 1]? = some (.cells #[.int .i64 s.h, .slice a s.tr.length c] 119 (0, 0)) := by rw [hW2]; exact two_new w _ _
  have HTO2 : Hid (∀ K' l' lv' w4, toP F.code.length K left (q + 1, s) = some (K', l') → WK p F w4 K' lv' l' → Kept p lv.ownBlock lv'.ownBlock W2 w4 → (w4.cell? ⟨w.heap.size + 1, 0, none⟩ = some (.int .i64 s.h) ∧ w4.cell? ⟨w.heap.size + 1, 1, none⟩ = some (.slice a s.tr.length c) ∧ w4.frozen? ⟨w.heap.size + 1, 0, none⟩ = false ∧ w4.cell? ⟨w.heap.size, 2, none⟩ = some (.int .i64 xb)) ∧
      Calls Tryz.prog 49 #[.pointer (some ⟨p.pb, 0, none⟩), .int .i64 xb, .agg #[.int .i64 (s.h + 1), .slice a s.tr.length c]] (w4.setCell ⟨w.heap.size + 1, 0, none⟩ (.int .i64 (s.h + 1))) fun e w' => StepPost (toP F.code.length K' l' (xb, ⟨s.h + 1, s.tr⟩)) p F lv w (.tuple #[]) e w') := Lib.hid fun K' l' lv' w4 ht g1 g2 => by
    have keep : ∀ b, w.heap.size ≤ b → b < W2.heap.size → w4.heap[b]? = W2.heap[b]? := fun b hb hb' => g2.block b hb' (by omega) (by omega) (fun e => by have := howl _ e.symm; omega)
    have y1 := (keep (w.heap.size + 1) (by omega) (by omega)).trans c1
    refine ⟨⟨by simp [World.cell?, y1], by simp [World.cell?, y1], by simp [World.frozen?, y1], by rw [World.cell?_of_block (a := ⟨w.heap.size, 2, none⟩) (keep w.heap.size (Nat.le_refl _) (by omega))]; exact k2⟩, ?_⟩
    have hk4 : Kept p lv.ownBlock lv'.ownBlock w w4 := hk2.trans g2
    refine (to_spec (s := ⟨s.h + 1, s.tr⟩) (q := xb) (g1.box y1 0 (.int .i64 (s.h + 1))) ((hv2.kept g2 hw2).box y1 0 _) ((hsm.to (by show s.tr.length ≤ _; omega) ht).small (by omega))).mono fun e w' hp => hp.from (hk4.setBox (by omega) 0 _) ?_
    exact (hk4.setBox (w := w) (b := w.heap.size + 1) (by omega) 0 _).below h
  by_cases hf : F.f = 0
  · rw [hf] at f0 f0w f0l
    have HX := Lib.hid (show stepX F K left q ⟨23, xa, xb, xc, xt⟩ s = _ from (by unfold stepX; rw [stepR_23, if_pos hf]))
    clear h hv hrow hb2 hw2 hv2 hin hsm hx hT hts hk2 hB2 hf c1
    unfold stV insA at *
    go_enter Tryz.func51, Tryz.ntmps51
    go_wp2_with fail
    rw [← hW2]
    clear hW2
    refine (HAS.out _ _).mono ?_
    rintro e w3 (⟨hb, rfl, rfl⟩ | ⟨hb, rfl, rfl⟩)
    · clear hb
      go_wp2_with fail
      refine HTO1.out.mono ?_
      rintro e w4 (⟨K', l', hr, rfl, lv', g1, g2⟩ | ⟨hr, rfl, hbw⟩)
      · obtain ⟨⟨y0, y1, y0f, y2⟩, hcall⟩ := HTO2.out _ _ _ _ hr g1 g2
        have HG := Lib.hid hr
        have HC := Lib.hid hcall
        clear hr g1 g2 hcall HTO2 HTO1
        go_wp2_with fail
        refine HC.out.mono ?_
        rintro e w5 (⟨K2, l2, hr2, rfl, lv2, g3, g4⟩ | ⟨hr2, rfl, hbw⟩)
        · have HG2 := Lib.hid (And.intro hr2 (And.intro g3 g4))
          clear hr2 g3 g4
          go_wp2
          go_end0
          exact .inl ⟨K2, l2, by rw [HX.out, toAll_two, HG.out]; exact HG2.out.1, rfl, lv2, HG2.out.2.1, HG2.out.2.2⟩
        · have HG2 := Lib.hid (And.intro hr2 hbw)
          clear hr2 hbw
          go_wp2
          exact ⟨rfl, .inr ⟨by rw [HX.out, toAll_two, HG.out]; exact HG2.out.1, rfl, HG2.out.2⟩⟩
      · have HG := Lib.hid (And.intro hr hbw)
        clear hr hbw
        go_wp2
        exact ⟨rfl, .inr ⟨by rw [HX.out, toAll_two, HG.out.1], rfl, HB2.out.trans HG.out.2⟩⟩
    · cases hb
  · have ef : ((F.f : Int) == 0) = false := by simpa using hf
    have HX := Lib.hid (show stepX F K left q ⟨23, xa, xb, xc, xt⟩ s = _ from stepX_none (by rw [stepR_23, if_neg hf]))
    have HW := Lib.hid hw2
    clear h hv hrow hb2 hw2 hv2 hin hsm hx hT hts hk2 hB2 hf HTO1 HTO2 c1
    unfold stV insA at *
    go_enter Tryz.func51, Tryz.ntmps51
    go_wp2_with fail
    rw [← hW2]
    clear hW2
    refine (HAS.out _ _).mono ?_
    rintro e w3 (⟨hb, rfl, rfl⟩ | ⟨hb, rfl, rfl⟩)
    · first
      | (cases hb; done)
      | (clear hb; go_wp2; go_end0; exact .inl ⟨K, left, HX.out, rfl, lv, HW.out, HK2.out⟩)
    · first
      | (cases hb; done)
      | (clear hb; go_wp2; exact ⟨rfl, .inr ⟨HX.out, rfl, HB2.out⟩⟩)
end Go.Ck
namespace Go.Ck
open Go Go.RowKit Go.Proofs
theorem step_bind {p : Pl} {F : Fn} {w : World} {K : Know} {lv v : Value} {left : List Int} {s : St} {q xa xb xc : Int} {xt : ByteArray} {N : Nat} (H : Pre p F w K lv v left s q ⟨24, xa, xb, xc, xt⟩ N) :
    Calls Tryz.prog 51 #[.pointer (some ⟨p.pb, 0, none⟩), .int .i64 q, insA ⟨24, xa, xb, xc, xt⟩, stV s v] w fun e w' => StepPost (stepX F K left q ⟨24, xa, xb, xc, xt⟩ s) p F lv w (.tuple #[]) e w' := by
  obtain ⟨h, hv, hin, hsm, hN, hlen, h0, h1, hx, q0, q1, hT, hts⟩ := H
  obtain ⟨a, c, rfl, hlc, hrow⟩ := id hv
  obtain ⟨W2, hW2⟩ : ∃ W2, W2 = (w.alloc (.cells #[.int .u8 24, .int .i64 xa, .int .i64 xb, .int .i64 xc, .string xt] 48)).alloc (.cells #[.int .i64 s.h, .slice a s.tr.length c] 119) := ⟨_, rfl⟩
  have hb2 : Below w.heap.size w W2 := by rw [hW2]; exact ((Below.refl _ _).alloc (Nat.le_refl _) _).alloc (by simp) _
  have hs2 : W2.heap.size = w.heap.size + 2 := by rw [hW2]; simp
  have hw2 := h.grow hb2
  have hv2 := hv.grow hb2
  have hbl := h.base_lt
  have hk2 : Kept p lv.ownBlock lv.ownBlock w W2 := Kept.of_below hb2
  have hB2 : Below p.base w W2 := hb2.mono hbl
  have HK2 := Lib.hid hk2
  have HB2 := Lib.hid hB2
  have hplt := h.pblt
  have hmlt := h.mlt
  have d0 : W2.cell? ⟨w.heap.size + 1, 0, none⟩ = some (.int .i64 s.h) := by rw [hW2]; simp [go_sem]
  have d1 : W2.cell? ⟨w.heap.size + 1, 1, none⟩ = some (.slice a s.tr.length c) := by rw [hW2]; simp [go_sem]
  have k0 : W2.cell? ⟨w.heap.size, 0, none⟩ = some (.int .u8 24) := by rw [hW2]; simp [go_sem]
  have k1 : W2.cell? ⟨w.heap.size, 1, none⟩ = some (.int .i64 xa) := by rw [hW2]; simp [go_sem]
  have k2 : W2.cell? ⟨w.heap.size, 2, none⟩ = some (.int .i64 xb) := by rw [hW2]; simp [go_sem]
  have k3 : W2.cell? ⟨w.heap.size, 3, none⟩ = some (.int .i64 xc) := by rw [hW2]; simp [go_sem]
  have k4 : W2.cell? ⟨w.heap.size, 4, none⟩ = some (.string xt) := by rw [hW2]; simp [go_sem]
  have f0 : W2.cell? ⟨p.pb, 0, none⟩ = some (.int .i64 F.f) := (hw2.cells 0).1
  have f0w : w.cell? ⟨p.pb, 0, none⟩ = some (.int .i64 F.f) := (h.cells 0).1
  have f0l : ((w.alloc (.cells #[.int .u8 24, .int .i64 xa, .int .i64 xb, .int .i64 xc, .string xt] 48)).alloc (.cells #[.int .i64 s.h, .slice a s.tr.length c] 119)).cell? ⟨p.pb, 0, none⟩ = some (.int .i64 F.f) := by rw [← hW2]; exact f0
  have f4 : W2.cell? ⟨p.pb, 4, none⟩ = some (.int .i64 F.gb) := (hw2.cells 4).1
  have f4w : w.cell? ⟨p.pb, 4, none⟩ = some (.int .i64 F.gb) := (h.cells 4).1
  have f4l : ((w.alloc (.cells #[.int .u8 24, .int .i64 xa, .int .i64 xb, .int .i64 xc, .string xt] 48)).alloc (.cells #[.int .i64 s.h, .slice a s.tr.length c] 119)).cell? ⟨p.pb, 4, none⟩ = some (.int .i64 F.gb) := by rw [← hW2]; exact f4
  have f5 : W2.cell? ⟨p.pb, 5, none⟩ = some (.int .i64 F.gc) := (hw2.cells 5).1
  have f5w : w.cell? ⟨p.pb, 5, none⟩ = some (.int .i64 F.gc) := (h.cells 5).1
  have f5l : ((w.alloc (.cells #[.int .u8 24, .int .i64 xa, .int .i64 xb, .int .i64 xc, .string xt] 48)).alloc (.cells #[.int .i64 s.h, .slice a s.tr.length c] 119)).cell? ⟨p.pb, 5, none⟩ = some (.int .i64 F.gc) := by rw [← hW2]; exact f5
  have f7 : W2.cell? ⟨p.pb, 7, none⟩ = some (.map (some p.m)) := (hw2.cells 7).1
  have f7w : w.cell? ⟨p.pb, 7, none⟩ = some (.map (some p.m)) := (h.cells 7).1
  have f7l : ((w.alloc (.cells #[.int .u8 24, .int .i64 xa, .int .i64 xb, .int .i64 xc, .string xt] 48)).alloc (.cells #[.int .i64 s.h, .slice a s.tr.length c] 119)).cell? ⟨p.pb, 7, none⟩ = some (.map (some p.m)) := by rw [← hW2]; exact f7
  have HAS := Lib.hid ask_spec
  have HON := Lib.hid (on_spec (q := q) (takes := 1) (puts := 1) hw2 hv2 hin (hsm.small (by omega)) (by omega) h0 (by omega) (by omega) (by omega) (by omega) (by omega) q0 (by omega))
  by_cases hf : F.f = 0
  · rw [hf] at f0 f0w f0l
    have HX := Lib.hid (show stepX F K left q ⟨24, xa, xb, xc, xt⟩ s = _ from stepX_on (by rw [stepR_24, if_pos hf]))
    clear h hv hrow hb2 hw2 hv2 hin hsm hx hT hts hk2 hB2 hf
    unfold stV insA at *
    go_enter Tryz.func51, Tryz.ntmps51
    go_wp2_with fail
    rw [← hW2]
    clear hW2
    refine (HAS.out _ _).mono ?_
    rintro e w3 (⟨hb, rfl, rfl⟩ | ⟨hb, rfl, rfl⟩)
    · clear hb
      go_wp2_with fail
      refine HON.out.mono ?_
      rintro e w4 (⟨K', l', hr, rfl, lv', g1, g2⟩ | ⟨hr, rfl, hbw⟩)
      · have HG := Lib.hid (And.intro hr (And.intro g1 g2))
        clear hr g1 g2
        go_wp2
        go_end0
        exact .inl ⟨K', l', HX.out.trans HG.out.1, rfl, lv', HG.out.2.1, HK2.out.trans HG.out.2.2⟩
      · have HG := Lib.hid (And.intro hr hbw)
        clear hr hbw
        go_wp2
        exact ⟨rfl, .inr ⟨HX.out.trans HG.out.1, rfl, HB2.out.trans HG.out.2⟩⟩
    · cases hb
  · have ef : ((F.f : Int) == 0) = false := by simpa using hf
    have HX := Lib.hid (show stepX F K left q ⟨24, xa, xb, xc, xt⟩ s = _ from stepX_none (by rw [stepR_24, if_neg hf]))
    have HW := Lib.hid hw2
    clear h hv hrow hb2 hw2 hv2 hin hsm hx hT hts hk2 hB2 hf HON
    unfold stV insA at *
    go_enter Tryz.func51, Tryz.ntmps51
    go_wp2_with fail
    rw [← hW2]
    clear hW2
    refine (HAS.out _ _).mono ?_
    rintro e w3 (⟨hb, rfl, rfl⟩ | ⟨hb, rfl, rfl⟩)
    · first
      | (cases hb; done)
      | (clear hb; go_wp2; go_end0; exact .inl ⟨K, left, HX.out, rfl, lv, HW.out, HK2.out⟩)
    · first
      | (cases hb; done)
      | (clear hb; go_wp2; exact ⟨rfl, .inr ⟨HX.out, rfl, HB2.out⟩⟩)
end Go.Ck
namespace Go.Ck
open Go Go.RowKit Go.Proofs
theorem step_halt {p : Pl} {F : Fn} {w : World} {K : Know} {lv v : Value} {left : List Int} {s : St} {q xa xb xc : Int} {xt : ByteArray} {N : Nat} (H : Pre p F w K lv v left s q ⟨25, xa, xb, xc, xt⟩ N) :
    Calls Tryz.prog 51 #[.pointer (some ⟨p.pb, 0, none⟩), .int .i64 q, insA ⟨25, xa, xb, xc, xt⟩, stV s v] w fun e w' => StepPost (stepX F K left q ⟨25, xa, xb, xc, xt⟩ s) p F lv w (.tuple #[]) e w' := by
  obtain ⟨h, hv, hin, hsm, hN, hlen, h0, h1, hx, q0, q1, hT, hts⟩ := H
  obtain ⟨a, c, rfl, hlc, hrow⟩ := id hv
  obtain ⟨W2, hW2⟩ : ∃ W2, W2 = (w.alloc (.cells #[.int .u8 25, .int .i64 xa, .int .i64 xb, .int .i64 xc, .string xt] 48)).alloc (.cells #[.int .i64 s.h, .slice a s.tr.length c] 119) := ⟨_, rfl⟩
  have hb2 : Below w.heap.size w W2 := by rw [hW2]; exact ((Below.refl _ _).alloc (Nat.le_refl _) _).alloc (by simp) _
  have hs2 : W2.heap.size = w.heap.size + 2 := by rw [hW2]; simp
  have hw2 := h.grow hb2
  have hv2 := hv.grow hb2
  have hbl := h.base_lt
  have hk2 : Kept p lv.ownBlock lv.ownBlock w W2 := Kept.of_below hb2
  have hB2 : Below p.base w W2 := hb2.mono hbl
  have HK2 := Lib.hid hk2
  have HB2 := Lib.hid hB2
  have hplt := h.pblt
  have hmlt := h.mlt
  have d0 : W2.cell? ⟨w.heap.size + 1, 0, none⟩ = some (.int .i64 s.h) := by rw [hW2]; simp [go_sem]
  have d1 : W2.cell? ⟨w.heap.size + 1, 1, none⟩ = some (.slice a s.tr.length c) := by rw [hW2]; simp [go_sem]
  have k0 : W2.cell? ⟨w.heap.size, 0, none⟩ = some (.int .u8 25) := by rw [hW2]; simp [go_sem]
  have k1 : W2.cell? ⟨w.heap.size, 1, none⟩ = some (.int .i64 xa) := by rw [hW2]; simp [go_sem]
  have k2 : W2.cell? ⟨w.heap.size, 2, none⟩ = some (.int .i64 xb) := by rw [hW2]; simp [go_sem]
  have k3 : W2.cell? ⟨w.heap.size, 3, none⟩ = some (.int .i64 xc) := by rw [hW2]; simp [go_sem]
  have k4 : W2.cell? ⟨w.heap.size, 4, none⟩ = some (.string xt) := by rw [hW2]; simp [go_sem]
  have f0 : W2.cell? ⟨p.pb, 0, none⟩ = some (.int .i64 F.f) := (hw2.cells 0).1
  have f0w : w.cell? ⟨p.pb, 0, none⟩ = some (.int .i64 F.f) := (h.cells 0).1
  have f0l : ((w.alloc (.cells #[.int .u8 25, .int .i64 xa, .int .i64 xb, .int .i64 xc, .string xt] 48)).alloc (.cells #[.int .i64 s.h, .slice a s.tr.length c] 119)).cell? ⟨p.pb, 0, none⟩ = some (.int .i64 F.f) := by rw [← hW2]; exact f0
  have f4 : W2.cell? ⟨p.pb, 4, none⟩ = some (.int .i64 F.gb) := (hw2.cells 4).1
  have f4w : w.cell? ⟨p.pb, 4, none⟩ = some (.int .i64 F.gb) := (h.cells 4).1
  have f4l : ((w.alloc (.cells #[.int .u8 25, .int .i64 xa, .int .i64 xb, .int .i64 xc, .string xt] 48)).alloc (.cells #[.int .i64 s.h, .slice a s.tr.length c] 119)).cell? ⟨p.pb, 4, none⟩ = some (.int .i64 F.gb) := by rw [← hW2]; exact f4
  have f5 : W2.cell? ⟨p.pb, 5, none⟩ = some (.int .i64 F.gc) := (hw2.cells 5).1
  have f5w : w.cell? ⟨p.pb, 5, none⟩ = some (.int .i64 F.gc) := (h.cells 5).1
  have f5l : ((w.alloc (.cells #[.int .u8 25, .int .i64 xa, .int .i64 xb, .int .i64 xc, .string xt] 48)).alloc (.cells #[.int .i64 s.h, .slice a s.tr.length c] 119)).cell? ⟨p.pb, 5, none⟩ = some (.int .i64 F.gc) := by rw [← hW2]; exact f5
  have f7 : W2.cell? ⟨p.pb, 7, none⟩ = some (.map (some p.m)) := (hw2.cells 7).1
  have f7w : w.cell? ⟨p.pb, 7, none⟩ = some (.map (some p.m)) := (h.cells 7).1
  have f7l : ((w.alloc (.cells #[.int .u8 25, .int .i64 xa, .int .i64 xb, .int .i64 xc, .string xt] 48)).alloc (.cells #[.int .i64 s.h, .slice a s.tr.length c] 119)).cell? ⟨p.pb, 7, none⟩ = some (.map (some p.m)) := by rw [← hW2]; exact f7
  have HAS := Lib.hid ask_spec
  have HW := Lib.hid hw2
  by_cases hf : F.f = 0
  · rw [hf] at f0 f0w f0l
    by_cases hl : s.tr = []
    · have el : ((s.tr.length : Int) == 0) = true := by rw [hl]; rfl
      have HX := Lib.hid (show stepX F K left q ⟨25, xa, xb, xc, xt⟩ s = _ from stepX_nil (by rw [stepR_25, if_pos ⟨hf, hl⟩]))
      clear h hv hrow hb2 hw2 hv2 hin hsm hx hT hts hk2 hB2 hf hl
      unfold stV insA at *
      go_enter Tryz.func51, Tryz.ntmps51
      go_wp2_with fail
      rw [← hW2]
      clear hW2
      refine (HAS.out _ _).mono ?_
      rintro e w3 (⟨hb, rfl, rfl⟩ | ⟨hb, rfl, rfl⟩)
      · first
        | (cases hb; done)
        | (clear hb; go_wp2; go_end0; exact .inl ⟨K, left, HX.out, rfl, lv, HW.out, HK2.out⟩)
      · first
        | (cases hb; done)
        | (clear hb; go_wp2; exact ⟨rfl, .inr ⟨HX.out, rfl, HB2.out⟩⟩)
    · have el : ((s.tr.length : Int) == 0) = false := by simpa using hl
      have HX := Lib.hid (show stepX F K left q ⟨25, xa, xb, xc, xt⟩ s = _ from stepX_none (by rw [stepR_25, if_neg (fun h => hl h.2)]))
      clear h hv hrow hb2 hw2 hv2 hin hsm hx hT hts hk2 hB2 hf hl
      unfold stV insA at *
      go_enter Tryz.func51, Tryz.ntmps51
      go_wp2_with fail
      rw [← hW2]
      clear hW2
      refine (HAS.out _ _).mono ?_
      rintro e w3 (⟨hb, rfl, rfl⟩ | ⟨hb, rfl, rfl⟩)
      · first
        | (cases hb; done)
        | (clear hb; go_wp2; go_end0; exact .inl ⟨K, left, HX.out, rfl, lv, HW.out, HK2.out⟩)
      · first
        | (cases hb; done)
        | (clear hb; go_wp2; exact ⟨rfl, .inr ⟨HX.out, rfl, HB2.out⟩⟩)
  · have ef : ((F.f : Int) == 0) = false := by simpa using hf
    have HX := Lib.hid (show stepX F K left q ⟨25, xa, xb, xc, xt⟩ s = _ from stepX_none (by rw [stepR_25, if_neg (fun h => hf h.1)]))
    clear h hv hrow hb2 hw2 hv2 hin hsm hx hT hts hk2 hB2 hf
    unfold stV insA at *
    go_enter Tryz.func51, Tryz.ntmps51
    go_wp2_with fail
    rw [← hW2]
    clear hW2
    refine (HAS.out _ _).mono ?_
    rintro e w3 (⟨hb, rfl, rfl⟩ | ⟨hb, rfl, rfl⟩)
    · first
      | (cases hb; done)
      | (clear hb; go_wp2; go_end0; exact .inl ⟨K, left, HX.out, rfl, lv, HW.out, HK2.out⟩)
    · first
      | (cases hb; done)
      | (clear hb; go_wp2; exact ⟨rfl, .inr ⟨HX.out, rfl, HB2.out⟩⟩)
end Go.Ck
namespace Go.Ck
open Go Go.RowKit Go.Proofs
theorem step_else {p : Pl} {F : Fn} {w : World} {K : Know} {lv v : Value} {left : List Int} {s : St} {q xa xb xc : Int} {xt : ByteArray} {N : Nat} {op : Int} (H : Pre p F w K lv v left s q ⟨op, xa, xb, xc, xt⟩ N) (o3 : op ≠ 3) (o4 : op ≠ 4) (o5 : op ≠ 5) (o8 : op ≠ 8) (o25 : op ≠ 25) (o17 : op ≠ 17) (o9 : op ≠ 9) (o10 : op ≠ 10) (o18 : op ≠ 18) (o19 : op ≠ 19) (o23 : op ≠ 23) (o24 : op ≠ 24) :
    Calls Tryz.prog 51 #[.pointer (some ⟨p.pb, 0, none⟩), .int .i64 q, insA ⟨op, xa, xb, xc, xt⟩, stV s v] w fun e w' => StepPost (stepX F K left q ⟨op, xa, xb, xc, xt⟩ s) p F lv w (.tuple #[]) e w' := by
  obtain ⟨h, hv, hin, hsm, hN, hlen, h0, h1, hx, q0, q1, hT, hts⟩ := H
  obtain ⟨a, c, rfl, hlc, hrow⟩ := id hv
  obtain ⟨W2, hW2⟩ : ∃ W2, W2 = (w.alloc (.cells #[.int .u8 op, .int .i64 xa, .int .i64 xb, .int .i64 xc, .string xt] 48)).alloc (.cells #[.int .i64 s.h, .slice a s.tr.length c] 119) := ⟨_, rfl⟩
  have hb2 : Below w.heap.size w W2 := by rw [hW2]; exact ((Below.refl _ _).alloc (Nat.le_refl _) _).alloc (by simp) _
  have hs2 : W2.heap.size = w.heap.size + 2 := by rw [hW2]; simp
  have hw2 := h.grow hb2
  have hv2 := hv.grow hb2
  have hbl := h.base_lt
  have hk2 : Kept p lv.ownBlock lv.ownBlock w W2 := Kept.of_below hb2
  have hB2 : Below p.base w W2 := hb2.mono hbl
  have HK2 := Lib.hid hk2
  have HB2 := Lib.hid hB2
  have hplt := h.pblt
  have hmlt := h.mlt
  have d0 : W2.cell? ⟨w.heap.size + 1, 0, none⟩ = some (.int .i64 s.h) := by rw [hW2]; simp [go_sem]
  have d1 : W2.cell? ⟨w.heap.size + 1, 1, none⟩ = some (.slice a s.tr.length c) := by rw [hW2]; simp [go_sem]
  have k0 : W2.cell? ⟨w.heap.size, 0, none⟩ = some (.int .u8 op) := by rw [hW2]; simp [go_sem]
  have k1 : W2.cell? ⟨w.heap.size, 1, none⟩ = some (.int .i64 xa) := by rw [hW2]; simp [go_sem]
  have k2 : W2.cell? ⟨w.heap.size, 2, none⟩ = some (.int .i64 xb) := by rw [hW2]; simp [go_sem]
  have k3 : W2.cell? ⟨w.heap.size, 3, none⟩ = some (.int .i64 xc) := by rw [hW2]; simp [go_sem]
  have k4 : W2.cell? ⟨w.heap.size, 4, none⟩ = some (.string xt) := by rw [hW2]; simp [go_sem]
  obtain ⟨m0, m1, m2, m3⟩ := moves_num hx
  have HM := Lib.hid (moves_ok (x := ⟨op, xa, xb, xc, xt⟩) (hT.at hB2) hw2.base_lt (by by_cases h20 : op = 20; exact .inl (hx.1 (.inr (.inr h20))); exact .inr h20))
  have HON : Hid (∀ x, Below W2.heap.size W2 x → (x.cell? ⟨w.heap.size + 1, 0, none⟩ = some (.int .i64 s.h) ∧ x.cell? ⟨w.heap.size + 1, 1, none⟩ = some (.slice a s.tr.length c)) ∧ Calls Tryz.prog 83 #[.pointer (some ⟨p.pb, 0, none⟩), .int .i64 q, .agg #[.int .i64 s.h, .slice a s.tr.length c], .int .i64 (moves ⟨op, xa, xb, xc, xt⟩).1, .int .i64 (moves ⟨op, xa, xb, xc, xt⟩).2] x fun e w' => StepPost (onP F.code.length F.f K left q s (moves ⟨op, xa, xb, xc, xt⟩).1 (moves ⟨op, xa, xb, xc, xt⟩).2) p F lv w (stV ⟨s.h - (moves ⟨op, xa, xb, xc, xt⟩).1 + (moves ⟨op, xa, xb, xc, xt⟩).2, s.tr⟩ (.slice a s.tr.length c)) e w') := Lib.hid fun x hx' => by
    have hbx := hb2.trans (hx'.mono (by omega))
    refine ⟨⟨by rw [hx'.cell (p := ⟨w.heap.size + 1, 0, none⟩) (by show w.heap.size + 1 < _; omega)]; exact d0, by rw [hx'.cell (p := ⟨w.heap.size + 1, 1, none⟩) (by show w.heap.size + 1 < _; omega)]; exact d1⟩, ?_⟩
    exact (on_spec (q := q) (h.grow hbx) (hv.grow hbx) hin (hsm.small (by omega)) (by omega) h0 (by omega) m0 (by omega) m2 (by omega) q0 (by omega)).mono fun e w' hp => hp.from (Kept.of_below hbx) (hbx.mono hbl)
  have HX : Hid (stepX F K left q ⟨op, xa, xb, xc, xt⟩ s = onP F.code.length F.f K left q s (moves ⟨op, xa, xb, xc, xt⟩).1 (moves ⟨op, xa, xb, xc, xt⟩).2) := Lib.hid (stepX_on (by
    unfold stepR
    rw [if_neg o3]
    rw [if_neg o4]
    rw [if_neg o5]
    rw [if_neg o8]
    rw [if_neg o25]
    rw [if_neg o17]
    rw [if_neg o9]
    rw [if_neg o10]
    rw [if_neg o18]
    rw [if_neg o19]
    rw [if_neg o23]
    rw [if_neg o24]))
  have e3 : (op == 3) = false := by simpa using o3
  have e4 : (op == 4) = false := by simpa using o4
  have e5 : (op == 5) = false := by simpa using o5
  have e8 : (op == 8) = false := by simpa using o8
  have e25 : (op == 25) = false := by simpa using o25
  have e17 : (op == 17) = false := by simpa using o17
  have e9 : (op == 9) = false := by simpa using o9
  have e10 : (op == 10) = false := by simpa using o10
  have e18 : (op == 18) = false := by simpa using o18
  have e19 : (op == 19) = false := by simpa using o19
  have e23 : (op == 23) = false := by simpa using o23
  have e24 : (op == 24) = false := by simpa using o24
  clear o3 o4 o5 o8 o25 o17 o9 o10 o18 o19 o23 o24 h hv hrow hb2 hw2 hv2 hin hsm hx hT hts hk2 hB2 m0 m1 m2 m3
  generalize (moves ⟨op, xa, xb, xc, xt⟩).1 = mt at *
  generalize (moves ⟨op, xa, xb, xc, xt⟩).2 = mp at *
  unfold stV insA at *
  go_enter Tryz.func51, Tryz.ntmps51
  go_wp2_with fail
  rw [← hW2]
  clear hW2
  refine HM.out.mono ?_
  rintro e w3 ⟨rfl, hb3⟩
  obtain ⟨⟨z0, z1⟩, hcall⟩ := HON.out _ hb3
  have HC := Lib.hid hcall
  clear hb3 hcall HON
  go_wp2_with fail
  refine HC.out.mono ?_
  rintro e w4 (⟨K', l', hr, rfl, lv', g1, g2⟩ | ⟨hr, rfl, hbw⟩)
  · have HG := Lib.hid (And.intro hr (And.intro g1 g2))
    clear hr g1 g2
    go_wp2
    go_end0
    exact .inl ⟨K', l', HX.out.trans HG.out.1, rfl, lv', HG.out.2.1, HG.out.2.2⟩
  · have HG := Lib.hid (And.intro hr hbw)
    clear hr hbw
    go_wp2
    exact ⟨rfl, .inr ⟨HX.out.trans HG.out.1, rfl, HG.out.2⟩⟩
end Go.Ck
set_option maxHeartbeats 1600000
namespace Go.Ck
open Go Go.RowKit Go.Proofs
theorem step_walk {p : Pl} {F : Fn} {w : World} {K : Know} {lv v : Value} {left : List Int} {s : St} {q : Int} {x : Ins} {N : Nat} (H : Pre p F w K lv v left s q x N) :
    Calls Tryz.prog 51 #[.pointer (some ⟨p.pb, 0, none⟩), .int .i64 q, insA x, stV s v] w fun e w' => StepPost (stepX F K left q x s) p F lv w (.tuple #[]) e w' := by
  obtain ⟨op, xa, xb, xc, xt⟩ := x
  by_cases o3 : op = 3
  · subst o3; exact step_local H
  by_cases o4 : op = 4
  · subst o4; exact step_env H
  by_cases o5 : op = 5
  · subst o5; exact step_mate H
  by_cases o8 : op = 8
  · subst o8; exact step_ret H
  by_cases o25 : op = 25
  · subst o25; exact step_halt H
  by_cases o17 : op = 17
  · subst o17; exact step_raise H
  by_cases o9 : op = 9
  · subst o9; exact step_jump H
  by_cases o10 : op = 10
  · subst o10; exact step_if H
  by_cases o18 : op = 18
  · subst o18; exact step_try H
  by_cases o19 : op = 19
  · subst o19; exact step_end H
  by_cases o23 : op = 23
  · subst o23; exact step_root H
  by_cases o24 : op = 24
  · subst o24; exact step_bind H
  exact step_else H o3 o4 o5 o8 o25 o17 o9 o10 o18 o19 o23 o24
end Go.Ck
