/- The walker of types: asks and come, walked. Each says its own conditions. -/
import Derived.Test.YtadbbfmmhimgcaaGreatDoorStB
import Derived.Test.YtadbbfmmhimgcaaGreatDoorStA
import Derived.Stop.IfaceNil
set_option linter.unusedVariables false
set_option linter.unusedSimpArgs false
set_option maxRecDepth 100000
set_option maxHeartbeats 16000000
namespace Go.Stamp
open Go Go.RowKit Go.Proofs Go.Maps
theorem asks_none {W0 w : World} {D row : List Dec} {dv : Value} {pb m : Nat} {rv : Value} {xs : List Value} (hD : DecsV W0 D dv) (hDl : D.length ≤ 1000000) (hS : WS W0 w D row dv pb m rv xs) (name : ByteArray) (hs : name.size ≤ maxLen) (ho : ownN name = none) :
    Calls Tryz.prog 46 #[.pointer (some ⟨pb, 0, none⟩), .string name] w fun e w' => AsksP W0 w D row dv pb m name e w' := by
  obtain ⟨da, dc, rfl⟩ := hD.slice
  have hpl := hS.c0.2.2.2.2
  have HS := Lib.hid hS
  have HD := Lib.hid hD
  have HO := Lib.hid ho
  clear hS hD
  have hbx : Below w.heap.size w (w.alloc (.cells #[.string name] 9)) := (Below.refl _ _).alloc (Nat.le_refl _) _
  have HB := Lib.hid hbx
  clear hbx
  go_enter Tryz.func46, Tryz.ntmps46
  go_wp2
  go_region_with (go_at_call 59; refine (own_ok _).mono ?_; rintro e w' ⟨rfl, ho, hb⟩; (have hcell := hb.cell (p := ⟨w.heap.size, 0, none⟩) (by simp)); simp [go_sem] at hcell; (have ho' : w'.ownsMap Tryz.prog 9 (plainElem Tryz.prog 3) (w.heap.size + 1) 6 ownD := by simpa using ho); (have hbb := Lib.hid hb); clear hb ho; obtain ⟨c, hlk, hc⟩ := own_look ho' hs)
  all_goals
    rw [HO.out] at hlk
    have hB2 : Below w.heap.size (w.alloc (.cells #[.string name] 9)) w' := ⟨hbb.out.os, hbb.out.tape, hbb.out.output, hbb.out.size, fun k hk => hbb.out.block k (by simp; omega)⟩
    have HK1 := Lib.hid (Kept.of_below (pb := pb) (m := m) (HB.out.trans hB2))
    have hS' := HS.out.grow (HB.out.trans hB2)
    obtain ⟨q0, q1, q2, q3, q4⟩ := hS'.c0
    have HS' := Lib.hid hS'
    clear hS' hlk hc ho' hbb hB2
    go_wp2_with fail
    refine (idx_ok HD.out HS'.out.below (by omega) name w.heap.size hcell).mono ?_
    rintro e w2 ⟨hI, hb2⟩
    have hS2 := HS'.out.grow hb2
    have hcell2 := (hb2.cell (p := ⟨w.heap.size, 0, none⟩) (cell_lt hcell)).trans hcell
    have hnl := cell_lt hcell2
    obtain ⟨q0, q1, q2, q3, q4⟩ := hS2.c0
    have HS2 := Lib.hid hS2
    have HK2 := Lib.hid (HK1.out.trans (Kept.of_below hb2))
    clear hS2 hb2 hcell HK1
    rcases hI with ⟨k, hk, rfl, hf⟩ | ⟨rfl, hf⟩
    case inr =>
      go_wp2
      go_ret2
      exact ⟨by simp [asks, HO.out, hf], HK2.out.trans (Kept.of_below (by first | exact Below.refl _ _ | exact (Below.refl _ _).drew | exact (Below.refl _ _).drew.drew | exact ((Below.refl _ _).alloc (Nat.le_refl _) _) | exact ((Below.refl _ _).alloc (Nat.le_refl _) _).drew | exact ((Below.refl _ _).alloc (Nat.le_refl _) _).drew.drew | exact ((Below.refl _ _).drew.alloc (Nat.le_refl _) _) | exact ((Below.refl _ _).drew.alloc (Nat.le_refl _) _).drew)), rv, xs, by rw [note_miss HO.out hf]; exact HS2.out.grow (by first | exact Below.refl _ _ | exact (Below.refl _ _).drew | exact (Below.refl _ _).drew.drew | exact ((Below.refl _ _).alloc (Nat.le_refl _) _) | exact ((Below.refl _ _).alloc (Nat.le_refl _) _).drew | exact ((Below.refl _ _).alloc (Nat.le_refl _) _).drew.drew | exact ((Below.refl _ _).drew.alloc (Nat.le_refl _) _) | exact ((Below.refl _ _).drew.alloc (Nat.le_refl _) _).drew)⟩
    case inl =>
      have HF := Lib.hid hf
      clear hf
      obtain ⟨b, o, vs, rfl, hc, sv, sc, R, rfl, hsv, hsc⟩ := HD.out.get hk
      have hcW := hc
      have hc := (hc.below HS2.out.below)
      have v2 := hc 2 _ rfl
      have hbl := cell_lt v2
      obtain ⟨va, vc, rfl⟩ := hsv.slice
      obtain ⟨ca, cc, rfl⟩ := hsc.slice
      have hdv : DecV W0 D[k] _ := ⟨_, _, R, rfl, hsv, hsc⟩
      have HDV := Lib.hid hdv
      have HC := Lib.hid hc
      have HCW := Lib.hid hcW
      clear hc hsv hsc hdv hcW
      cases hm : inRow row name with
      | true =>
        have hlk := seen_look HS2.out.seen hs
        have hlk2 := seen_look (w := w2.drew) HS2.out.seen hs
        have hlk3 := seen_look (w := (w2.alloc (.cells #[] 121)).drew) (HS2.out.seen.alloc (.cells #[] 121)) hs
        rw [hm] at hlk hlk2 hlk3
        have HM := Lib.hid hm
        clear hm
        go_wp2
        go_region
        all_goals
          go_wp2
          go_ret2
          exact ⟨by simp [asks, HO.out, HF.out], HK2.out.trans (Kept.of_below (by first | exact Below.refl _ _ | exact (Below.refl _ _).drew | exact (Below.refl _ _).drew.drew | exact ((Below.refl _ _).alloc (Nat.le_refl _) _) | exact ((Below.refl _ _).alloc (Nat.le_refl _) _).drew | exact ((Below.refl _ _).alloc (Nat.le_refl _) _).drew.drew | exact ((Below.refl _ _).drew.alloc (Nat.le_refl _) _) | exact ((Below.refl _ _).drew.alloc (Nat.le_refl _) _).drew)), rv, xs, by rw [note_held HO.out HF.out HM.out]; exact HS2.out.grow (by first | exact Below.refl _ _ | exact (Below.refl _ _).drew | exact (Below.refl _ _).drew.drew | exact ((Below.refl _ _).alloc (Nat.le_refl _) _) | exact ((Below.refl _ _).alloc (Nat.le_refl _) _).drew | exact ((Below.refl _ _).alloc (Nat.le_refl _) _).drew.drew | exact ((Below.refl _ _).drew.alloc (Nat.le_refl _) _) | exact ((Below.refl _ _).drew.alloc (Nat.le_refl _) _).drew)⟩
      | false =>
        have hlk := seen_look HS2.out.seen hs
        have hlk2 := seen_look (w := w2.drew) HS2.out.seen hs
        have hlk3 := seen_look (w := (w2.alloc (.cells #[] 121)).drew) (HS2.out.seen.alloc (.cells #[] 121)) hs
        rw [hm] at hlk hlk2 hlk3
        obtain ⟨w3, hup, hseen3, hg3⟩ := World.ownsMap.update (w := (w2.alloc (.cells #[] 121)).drew.drew) (HS2.out.seen.alloc (.cells #[] 121)) key9 Tryz.underlying53 (by have := HS2.out.len; simp only [maxLen]; omega) (WideMaps.keyOf_string_mk Tryz.underlying9 hs) unitElem_mk
        have HM := Lib.hid hm
        clear hm
        have h3 := W3.of HS2.out hseen3 hg3
        have H3 := Lib.hid h3
        have HK3 := Lib.hid (HK2.out.trans (Kept.grown ((Below.refl _ _).alloc (Nat.le_refl _) _).drew.drew hg3))
        obtain ⟨p0, p2, pf, pl⟩ := h3.c0
        clear h3
        have HC3 := Lib.hid (HCW.out.below (W' := w3) H3.out.below)
        clear hseen3 hg3
        obtain ⟨ra, rc, hrv⟩ : ∃ ra rc, rv = .slice ra row.length rc := by
          rcases H3.out.rows.2 with ⟨h, h0⟩ | ⟨g, cap, cur, h1, _⟩
          · exact ⟨none, 0, by rw [h, h0]⟩
          · exact ⟨_, _, h1⟩
        subst hrv
        have hrl := HS2.out.len
        have hpa := Lib.hid HS2.out.apart
        go_wp2
        go_region
        all_goals
          go_wp2
          go_region
          all_goals
            go_wp2_with fail
            refine reg10 hDl hk hrl H3 hpa HC3.out _ _ _ _ _ _ _ _ _ _ _ _ _ _ _ _ _ _ _ _ _ _ _ _ _ _ _ _ _ _ _ _ _ _ _ _ _ _ _ _ _ _ _ (Lib.hid ?_)
            intro y44 y45 y46 y47 y48 y49 y50 y51 y52 y53 y54 y55 y56 y57 y58 y59 y60 g cap w' F ho hX hF
            have hW := WS.noted HS2.out H3.out HF.out HM.out HDV.out rfl ho hX hF
            have HKF := Lib.hid (HK3.out.trans (by obtain ⟨X, hX1, hX2⟩ := hX; exact Kept.noted hX1 hX2 H3.out.rows ho hF))
            obtain ⟨f0, f1, f2, f3, f4⟩ := hW.c0
            have hcF := HCW.out.below hW.below
            have vF := hcF 2 _ rfl
            have hbF := cell_lt vF
            have HW := Lib.hid hW
            clear hW hcF ho hX hF
            go_wp2
            go_ret2
            exact ⟨by simp [asks, HO.out, HF.out], HKF.out.trans (Kept.of_below (by first | exact Below.refl _ _ | exact (Below.refl _ _).drew | exact (Below.refl _ _).drew.drew | exact ((Below.refl _ _).alloc (Nat.le_refl _) _) | exact ((Below.refl _ _).alloc (Nat.le_refl _) _).drew | exact ((Below.refl _ _).alloc (Nat.le_refl _) _).drew.drew | exact ((Below.refl _ _).drew.alloc (Nat.le_refl _) _) | exact ((Below.refl _ _).drew.alloc (Nat.le_refl _) _).drew)), _, _, by rw [note_new HO.out HF.out HM.out]; exact HW.out.grow (by first | exact Below.refl _ _ | exact (Below.refl _ _).drew | exact (Below.refl _ _).drew.drew | exact ((Below.refl _ _).alloc (Nat.le_refl _) _) | exact ((Below.refl _ _).alloc (Nat.le_refl _) _).drew | exact ((Below.refl _ _).alloc (Nat.le_refl _) _).drew.drew | exact ((Below.refl _ _).drew.alloc (Nat.le_refl _) _) | exact ((Below.refl _ _).drew.alloc (Nat.le_refl _) _).drew)⟩
/-- the walker asks for a name -/
theorem asks_ok {W0 w : World} {D row : List Dec} {dv : Value} {pb m : Nat} {rv : Value} {xs : List Value} (hD : DecsV W0 D dv) (hDl : D.length ≤ 1000000) (hS : WS W0 w D row dv pb m rv xs) (name : ByteArray) (hs : name.size ≤ maxLen) :
    Calls Tryz.prog 46 #[.pointer (some ⟨pb, 0, none⟩), .string name] w fun e w' => AsksP W0 w D row dv pb m name e w' := by
  cases ho : ownN name with
  | none => exact asks_none hD hDl hS name hs ho
  | some n => exact asks_own hS name hs ho
end Go.Stamp
set_option linter.unusedVariables false
set_option linter.unusedSimpArgs false
set_option maxRecDepth 100000
set_option maxHeartbeats 1600000
namespace Go.Stamp
open Go Go.RowKit Go.Proofs
def IdxS (l : List ByteArray) (x : ByteArray) (e : Ending) : Prop := ∃ i : Int, e = .returned (.int .i64 i) ∧ decide (0 ≤ i) = l.any (fun v => decide (v = x))
theorem index_ok {l : List ByteArray} {W0 W : World} {s : Value} (h : StrsV W0 l s) (hB : Below W0.heap.size W0 W) (hl : l.length ≤ 1099511627776) (x : ByteArray) :
    Calls Tryz.prog 58 #[s, .string x] W fun e w' => IdxS l x e ∧ w' = W := by
  obtain ⟨a, c, rfl, hr, hcap⟩ := h
  have H := Lib.hid hr
  clear hr
  go_enter Tryz.func58, Tryz.ntmps58
  go_wp2
  go_loop [8] (fun i => ∃ k : Nat, k ≤ l.length ∧ i = .int .i64 k ∧ Hid (∀ j (hj : j < l.length), j < k → l[j] ≠ x)) (fun i => l.length - (intOf i).toNat)
  case atStart => exact ⟨0, Nat.zero_le _, rfl, fun j _ h => absurd h (Nat.not_lt_zero _)⟩
  case round =>
    obtain ⟨k, hk, rfl, hno⟩ := hrel
    by_cases hlt : k < l.length
    · obtain ⟨b, o, rfl, hg⟩ := H.out (by intro e; simp [e] at hlt)
      obtain ⟨vs, hc, hv⟩ := hg k _ (List.getElem?_eq_getElem hlt)
      cases hv
      have hc := (hc.below hB) 0 _ rfl
      simp only [Nat.mul_one, Nat.add_zero] at hc
      by_cases he : l[k] = x
      · have HE := Lib.hid he
        rw [he] at hc
        clear he
        go_wp2
        go_ret
        refine ⟨⟨k, rfl, ?_⟩, rfl⟩
        rw [show decide (0 ≤ (k : Int)) = true by simp]
        exact (List.any_eq_true.2 ⟨l[k], List.getElem_mem hlt, by simpa using HE.out⟩).symm
      · have HE := Lib.hid he
        have hb := neq_bytes (Ne.symm he)
        clear he
        go_wp2
        go_round
        case rel => exact ⟨k + 1, by omega, by simp, Lib.hid (fun j hj hj' => by
          by_cases e : j = k
          · subst e; exact HE.out
          · exact hno.out j hj (by omega))⟩
        case measure => simp [intOf]; omega
    · obtain rfl : k = l.length := by omega
      go_wp2
      go_ret
      refine ⟨⟨-1, rfl, ?_⟩, rfl⟩
      rw [show decide (0 ≤ (-1 : Int)) = false by decide]
      refine (List.any_eq_false.2 fun v hv => ?_).symm
      obtain ⟨j, hj, rfl⟩ := List.getElem_of_mem hv
      simpa using hno.out j hj hj
theorem contains_ok {l : List ByteArray} {W0 W : World} {s : Value} (h : StrsV W0 l s) (hB : Below W0.heap.size W0 W) (hl : l.length ≤ 1099511627776) (x : ByteArray) :
    Calls Tryz.prog 45 #[s, .string x] W fun e w' => e = .returned (.bool (l.any (fun v => decide (v = x)))) ∧ w' = W := by
  have HI := Lib.hid (index_ok h hB hl x)
  go_enter Tryz.func45, Tryz.ntmps45
  go_wp2_with fail
  refine HI.out.mono ?_
  rintro e w2 ⟨⟨i, rfl, hi⟩, rfl⟩
  have hi' := Lib.hid hi
  clear hi
  go_wp2
  go_ret
  exact ⟨by rw [← hi'.out]; simp, rfl⟩
end Go.Stamp
set_option linter.unusedVariables false
set_option linter.unusedSimpArgs false
namespace Go.Stamp
open Go Go.RowKit Go.Proofs Go.Maps
mutual
def okT : Ty → Prop
  | .mk _ name _ kids => name.size ≤ maxLen ∧ okL kids
def okL : List Ty → Prop
  | [] => True
  | t :: ts => okT t ∧ okL ts
end
theorem okT_name {t : Ty} (h : okT t) : t.name.size ≤ maxLen := by cases t; rw [okT] at h; exact h.1
theorem okT_kids {t : Ty} (h : okT t) : okL t.kids := by cases t; rw [okT] at h; exact h.2
theorem okL_get : ∀ {l : List Ty} (h : okL l) {k : Nat} (hk : k < l.length), okT l[k]
  | t :: ts, h, 0, _ => by rw [okL] at h; exact h.1
  | t :: ts, h, k + 1, hk => by rw [okL] at h; exact okL_get h.2 (by simpa using hk)
variable {ownN : ByteArray → Option Nat}
theorem comes_append (D : List Dec) (vars : List ByteArray) : ∀ (a b : List Ty) (row : List Dec), comes ownN D vars (a ++ b) row = (comes ownN D vars a row).bind (comes ownN D vars b)
  | [], b, row => by rw [List.nil_append, comes]; rfl
  | t :: ts, b, row => by
    rw [List.cons_append, comes, comes]
    cases come ownN D vars t row with
    | none => rfl
    | some r => exact comes_append D vars ts b r
theorem comes_take_some {D : List Dec} {vars : List ByteArray} {l : List Ty} {k : Nat} (hk : k < l.length) {row r r' : List Dec} (h : comes ownN D vars (l.take k) row = some r) (hc : come ownN D vars l[k] r = some r') : comes ownN D vars (l.take (k + 1)) row = some r' := by
  rw [List.take_succ_eq_append_getElem hk, comes_append, h]
  show comes ownN D vars [l[k]] r = _
  rw [comes, hc]
  show comes ownN D vars [] r' = _
  rw [comes]
theorem comes_take_none {D : List Dec} {vars : List ByteArray} {l : List Ty} {k : Nat} (hk : k < l.length) {row r : List Dec} (h : comes ownN D vars (l.take k) row = some r) (hc : come ownN D vars l[k] r = none) : comes ownN D vars l row = none := by
  have e : l = l.take k ++ l[k] :: l.drop (k + 1) := by rw [List.getElem_cons_drop, List.take_append_drop]
  rw [e, comes_append, h]
  show comes ownN D vars (l[k] :: l.drop (k + 1)) r = _
  rw [comes, hc]; rfl
theorem come_var {D : List Dec} {vars : List ByteArray} {t : Ty} {row : List Dec} (hk : t.kind = 1) (hv : vars.any (fun v => decide (v = t.name)) = true) : come ownN D vars t row = comes ownN D vars t.kids row := by
  cases t; simp only [Ty.kind, Ty.name, Ty.kids] at *; rw [come, if_pos hk, if_pos (by rw [List.any_eq_true] at hv ⊢; obtain ⟨x, h1, h2⟩ := hv; exact ⟨x, h1, decide_eq_true (of_decide_eq_true h2)⟩)]
theorem come_var_no {D : List Dec} {vars : List ByteArray} {t : Ty} {row : List Dec} (hk : t.kind = 1) (hv : vars.any (fun v => decide (v = t.name)) = false) : come ownN D vars t row = none := by
  cases t; simp only [Ty.kind, Ty.name, Ty.kids] at *; rw [come, if_pos hk, if_neg (by intro h; rw [List.any_eq_true] at h; obtain ⟨x, h1, h2⟩ := h; exact List.any_eq_false.1 hv x h1 (decide_eq_true (of_decide_eq_true h2)))]
theorem come_tup {D : List Dec} {vars : List ByteArray} {t : Ty} {row : List Dec} (hk : t.kind = 4) (hl : ¬ t.kids.length < 2) : come ownN D vars t row = comes ownN D vars t.kids row := by
  cases t; simp only [Ty.kind, Ty.name, Ty.kids] at *; rw [come, if_neg (by omega), if_pos hk, if_neg hl]
theorem come_tup_no {D : List Dec} {vars : List ByteArray} {t : Ty} {row : List Dec} (hk : t.kind = 4) (hl : t.kids.length < 2) : come ownN D vars t row = none := by
  cases t; simp only [Ty.kind, Ty.name, Ty.kids] at *; rw [come, if_neg (by omega), if_pos hk, if_pos hl]
theorem come_dat {D : List Dec} {vars : List ByteArray} {t : Ty} {row : List Dec} (hk : t.kind = 2) (ha : asks ownN D t.name = some t.kids.length) : come ownN D vars t row = comes ownN D vars t.kids (note ownN D row t.name) := by
  cases t; simp only [Ty.kind, Ty.name, Ty.kids] at *; rw [come, if_neg (by omega), if_neg (by omega), if_pos hk, if_pos ha]
theorem come_dat_no {D : List Dec} {vars : List ByteArray} {t : Ty} {row : List Dec} (hk : t.kind = 2) (ha : asks ownN D t.name ≠ some t.kids.length) : come ownN D vars t row = none := by
  cases t; simp only [Ty.kind, Ty.name, Ty.kids] at *; rw [come, if_neg (by omega), if_neg (by omega), if_pos hk, if_neg ha]
theorem come_else {D : List Dec} {vars : List ByteArray} {t : Ty} {row : List Dec} (h1 : t.kind ≠ 1) (h4 : t.kind ≠ 4) (h2 : t.kind ≠ 2) : come ownN D vars t row = none := by
  cases t; simp only [Ty.kind, Ty.name, Ty.kids] at *; rw [come, if_neg h1, if_neg h4, if_neg h2]
theorem note_prefix (D row : List Dec) (name : ByteArray) : row <+: note ownN D row name := by
  unfold note
  split
  · exact List.prefix_rfl
  · split
    · exact List.prefix_rfl
    · split
      · exact List.prefix_rfl
      · exact List.prefix_append _ _
end Go.Stamp
set_option linter.unusedVariables false
set_option linter.unusedSimpArgs false
set_option maxRecDepth 100000
set_option maxHeartbeats 4000000
namespace Go.Stamp
open Go Go.RowKit Go.Proofs Go.Maps
/-- what come answers and leaves -/
def ComeP (W0 w : World) (D row : List Dec) (dv : Value) (pb m : Nat) (g : Addr) (vars : List ByteArray) (t : Ty) (e : Ending) (w' : World) : Prop :=
  Kept pb m w w' ∧ ∃ row' rv' xs', row <+: row' ∧ WS W0 w' D row' dv pb m rv' xs' ∧ ((come ownN D vars t row = some row' ∧ e = .returned .nilIface) ∨ (come ownN D vars t row = none ∧ e = .returned (.iface 224 (.pointer (some g)))))
theorem WS.cell {W0 w : World} {D row : List Dec} {dv : Value} {pb m : Nat} {rv : Value} {xs : List Value} (h : WS W0 w D row dv pb m rv xs) {b o : Nat} {v : Value} (hc : W0.cell? ⟨b, o, none⟩ = some v) : w.cell? ⟨b, o, none⟩ = some v :=
  (h.below.cell (p := ⟨b, o, none⟩) (cell_lt hc)).trans hc
theorem Kept.cell {pb m : Nat} {w w' : World} (h : Kept pb m w w') {b o : Nat} {cs : Array Value} {T : TypeId} {fr : Nat × Nat} (hb : w.heap[b]? = some (.cells cs T fr)) (hT : T ≠ 39) (h1 : b ≠ pb) (h2 : b ≠ m) : w'.cell? ⟨b, o, none⟩ = w.cell? ⟨b, o, none⟩ :=
  World.cell?_of_block (a := ⟨b, o, none⟩) (h.2 b (Array.getElem?_eq_some_iff.1 hb).1 h1 h2 (fun cs' fr' e => by rw [hb] at e; injection e with e; injection e with _ e; exact hT e))
theorem come_ok {W0 : World} {D : List Dec} {dv : Value} {pb m : Nat} {g : Addr} (hD : DecsV W0 D dv) (hDl : D.length ≤ 1000000) (h0 : W0.cell? ⟨0, 0, none⟩ = some (.iface 224 (.pointer (some g)))) {vars : List ByteArray} {vv : Value} (hvv : StrsV W0 vars vv) (hvl : vars.length ≤ 1099511627776) :
    ∀ (f : Nat) (t : Ty), partsT t < f → f ≤ 1099511627776 → okT t → ∀ (w : World) (row : List Dec) (rv : Value) (xs vs : List Value), WS W0 w D row dv pb m rv xs → TyV W0 t vs → Calls Tryz.prog 27 #[.pointer (some ⟨pb, 0, none⟩), .agg vs.toArray, vv] w fun e w' => ComeP W0 w D row dv pb m g vars t e w'
  | 0, t, h, _, _, _, _, _, _, _, _, _ => by omega
  | f + 1, t, hf, hfm, hok, w, row, rv, xs, vs, hS, hT => by
    have IH := fun t h => come_ok (pb := pb) (m := m) hD hDl h0 hvv hvl f t h (by omega)
    have IHH := Lib.hid IH
    clear IH
    obtain ⟨s, rfl, hs⟩ := hT.vals
    obtain ⟨ka, kc, rfl, hrow⟩ := hs.slice
    have hname := okT_name hok
    have hlen : t.kids.length ≤ 1099511627776 := by rw [partsT_eq, partsN_eq] at hf; omega
    have HP : Hid (∀ k (hk : k < t.kids.length), partsT t.kids[k] < f) := Lib.hid fun k hk => by
      have := partsT_le (List.getElem?_eq_getElem hk)
      rw [← partsT_eq] at this
      omega
    have HOK := Lib.hid (okT_kids hok)
    have HS := Lib.hid hS
    have HD := Lib.hid hD
    have HV := Lib.hid hvv
    have HR := Lib.hid hrow
    have hpl := hS.c0.2.2.2.2
    have hml := hS.seen.lt
    have hg0 := hS.cell h0
    have hgl := cell_lt hg0
    clear hS hD hvv hs hT hok hf hrow
    have HSx : Hid (∀ o, WS W0 (w.alloc o) D row dv pb m rv xs) := Lib.hid fun o => HS.out.grow ((Below.refl _ _).alloc (Nat.le_refl _) o)
    have HB0 : Hid (∀ o, Below W0.heap.size W0 (w.alloc o)) := Lib.hid fun o => (HSx.out o).below
    by_cases h1 : t.kind = 1
    · have hn1 := h1
      cases hv : vars.any (fun v => decide (v = t.name)) with
      | true =>
        have HCM := Lib.hid (fun row => come_var (ownN := ownN) (D := D) (row := row) h1 hv)
        have HCT := Lib.hid (contains_ok HV.out (HB0.out (.cells #[.int .u8 t.kind, .string t.name, .int .i64 t.num, .slice ka t.kids.length kc] 24)) hvl t.name)
        rw [hv] at HCT
        rw [h1] at HCT
        rw [h1]
        clear h1 hv
        go_enter Tryz.func27, Tryz.ntmps27
        go_wp2_with fail
        refine HCT.out.mono ?_
        rintro e w2 ⟨rfl, rfl⟩
        go_wp2
        go_loopw [52] (fun i wr => ∃ k : Nat, k ≤ t.kids.length ∧ i = .int .i64 k ∧ Hid (∃ r rv2 xs2, row <+: r ∧ comes ownN D vars (t.kids.take k) row = some r ∧ WS W0 wr D r dv pb m rv2 xs2 ∧ Kept pb m w wr)) (fun i _ => t.kids.length - (intOf i).toNat)
        case atStart => exact ⟨0, Nat.zero_le _, rfl, Lib.hid ⟨row, _, _, List.prefix_rfl, by rw [List.take_zero, comes], HSx.out _, Kept.of_below (by first | exact Below.refl _ _ | exact (Below.refl _ _).drew | exact ((Below.refl _ _).alloc (Nat.le_refl _) _) | exact ((Below.refl _ _).alloc (Nat.le_refl _) _).drew | exact ((Below.refl _ _).drew.alloc (Nat.le_refl _) _))⟩⟩
        case round =>
          obtain ⟨k, hk, rfl, hr⟩ := hrel
          obtain ⟨r, rv2, xs2, hpre, hco, hws, hke⟩ := hr.out
          by_cases hlt : k < t.kids.length
          · obtain ⟨b, o, rfl, hrr⟩ := HR.out (by intro e; simp [e] at hlt)
            obtain ⟨us, hc, hv⟩ := hrr.get (List.getElem?_eq_getElem hlt)
            have HTV := Lib.hid hv
            obtain ⟨s1, rfl, hs1⟩ := hv.vals
            obtain ⟨sa, sc, rfl, _⟩ := hs1.slice
            have hcW := hc.below hws.below
            have k0 : wr.cell? ⟨b, o + k * 4, none⟩ = some (.int .u8 t.kids[k].kind) := hcW 0 _ rfl
            have k1 := hcW 1 _ rfl
            have k2 := hcW 2 _ rfl
            have k3 := hcW 3 _ rfl
            have HWS := Lib.hid hws
            have HCO := Lib.hid hco
            have HPR := Lib.hid hpre
            clear hpre
            have HKE := Lib.hid hke
            clear hc hcW hv hs1 hws hco hke hr hrr
            go_wp2_with fail
            refine (IHH.out t.kids[k] (HP.out k hlt) (okL_get HOK.out hlt) (wr.alloc (.cells #[.int .u8 t.kids[k].kind, .string t.kids[k].name, .int .i64 t.kids[k].num, .slice sa t.kids[k].kids.length sc] 24)) r rv2 xs2 _ (HWS.out.grow (by first | exact Below.refl _ _ | exact (Below.refl _ _).drew | exact ((Below.refl _ _).alloc (Nat.le_refl _) _) | exact ((Below.refl _ _).alloc (Nat.le_refl _) _).drew | exact ((Below.refl _ _).drew.alloc (Nat.le_refl _) _))) HTV.out).mono ?_
            rintro e w4 ⟨hk4, r4, rv4, xs4, hp4, hw4, (⟨hs4, rfl⟩ | ⟨hs4, rfl⟩)⟩
            · have HW4 := Lib.hid hw4
              have HK4 := Lib.hid ((HKE.out.trans (Kept.of_below (by first | exact Below.refl _ _ | exact (Below.refl _ _).drew | exact ((Below.refl _ _).alloc (Nat.le_refl _) _) | exact ((Below.refl _ _).alloc (Nat.le_refl _) _).drew | exact ((Below.refl _ _).drew.alloc (Nat.le_refl _) _)))).trans hk4)
              have HS4 := Lib.hid hs4
              have HP4 := Lib.hid (HPR.out.trans hp4)
              clear hw4 hk4 hs4 hp4
              go_wp2
              go_round
              case rel => exact ⟨k + 1, by omega, by simp, Lib.hid ⟨r4, rv4, xs4, HP4.out, comes_take_some hlt HCO.out HS4.out, HW4.out, HK4.out⟩⟩
              case measure => simp [intOf]; omega
            · have HW4 := Lib.hid hw4
              have HK4 := Lib.hid ((HKE.out.trans (Kept.of_below (by first | exact Below.refl _ _ | exact (Below.refl _ _).drew | exact ((Below.refl _ _).alloc (Nat.le_refl _) _) | exact ((Below.refl _ _).alloc (Nat.le_refl _) _).drew | exact ((Below.refl _ _).drew.alloc (Nat.le_refl _) _)))).trans hk4)
              have HS4 := Lib.hid hs4
              have HP4 := Lib.hid (HPR.out.trans hp4)
              clear hw4 hk4 hs4 hp4
              go_wp2
              go_ret
              exact ⟨HK4.out, r4, rv4, xs4, HP4.out, HW4.out, .inr ⟨by rw [HCM.out]; exact comes_take_none hlt HCO.out HS4.out, rfl⟩⟩
          · obtain rfl : k = t.kids.length := by omega
            have HWS := Lib.hid hws
            have HCO := Lib.hid hco
            have HPR := Lib.hid hpre
            clear hpre
            have HKE := Lib.hid hke
            clear hws hco hke hr
            go_wp2
            go_ret
            exact ⟨HKE.out, r, rv2, xs2, HPR.out, HWS.out, .inl ⟨by rw [HCM.out]; simpa using HCO.out, rfl⟩⟩

      | false =>
        have HCM := Lib.hid (fun row => come_var_no (ownN := ownN) (D := D) (row := row) h1 hv)
        have HCT := Lib.hid (contains_ok HV.out (HB0.out (.cells #[.int .u8 t.kind, .string t.name, .int .i64 t.num, .slice ka t.kids.length kc] 24)) hvl t.name)
        rw [hv] at HCT
        rw [h1] at HCT
        rw [h1]
        clear h1 hv
        go_enter Tryz.func27, Tryz.ntmps27
        go_wp2_with fail
        refine HCT.out.mono ?_
        rintro e w2 ⟨rfl, rfl⟩
        go_wp2
        go_ret
        exact ⟨Kept.of_below (by first | exact Below.refl _ _ | exact (Below.refl _ _).drew | exact ((Below.refl _ _).alloc (Nat.le_refl _) _) | exact ((Below.refl _ _).alloc (Nat.le_refl _) _).drew | exact ((Below.refl _ _).drew.alloc (Nat.le_refl _) _)), row, rv, xs, List.prefix_rfl, HS.out.grow (by first | exact Below.refl _ _ | exact (Below.refl _ _).drew | exact ((Below.refl _ _).alloc (Nat.le_refl _) _) | exact ((Below.refl _ _).alloc (Nat.le_refl _) _).drew | exact ((Below.refl _ _).drew.alloc (Nat.le_refl _) _)), .inr ⟨HCM.out row, rfl⟩⟩
    · by_cases h4 : t.kind = 4
      · by_cases hl : t.kids.length < 2
        · have HCM := Lib.hid (fun row => come_tup_no (ownN := ownN) (D := D) (vars := vars) (row := row) h4 hl)
          rw [h4]
          clear h1 h4
          go_enter Tryz.func27, Tryz.ntmps27
          go_wp2
          go_ret
          exact ⟨Kept.of_below (by first | exact Below.refl _ _ | exact (Below.refl _ _).drew | exact ((Below.refl _ _).alloc (Nat.le_refl _) _) | exact ((Below.refl _ _).alloc (Nat.le_refl _) _).drew | exact ((Below.refl _ _).drew.alloc (Nat.le_refl _) _)), row, rv, xs, List.prefix_rfl, HS.out.grow (by first | exact Below.refl _ _ | exact (Below.refl _ _).drew | exact ((Below.refl _ _).alloc (Nat.le_refl _) _) | exact ((Below.refl _ _).alloc (Nat.le_refl _) _).drew | exact ((Below.refl _ _).drew.alloc (Nat.le_refl _) _)), .inr ⟨HCM.out row, rfl⟩⟩
        · have HCM := Lib.hid (fun row => come_tup (ownN := ownN) (D := D) (vars := vars) (row := row) h4 hl)
          rw [h4]
          clear h1 h4
          have hl2 : ¬ ((t.kids.length : Int) < 2) := by omega
          go_enter Tryz.func27, Tryz.ntmps27
          go_wp2
          go_loopw [52] (fun i wr => ∃ k : Nat, k ≤ t.kids.length ∧ i = .int .i64 k ∧ Hid (∃ r rv2 xs2, row <+: r ∧ comes ownN D vars (t.kids.take k) row = some r ∧ WS W0 wr D r dv pb m rv2 xs2 ∧ Kept pb m w wr)) (fun i _ => t.kids.length - (intOf i).toNat)
          case atStart => exact ⟨0, Nat.zero_le _, rfl, Lib.hid ⟨row, _, _, List.prefix_rfl, by rw [List.take_zero, comes], HSx.out _, Kept.of_below (by first | exact Below.refl _ _ | exact (Below.refl _ _).drew | exact ((Below.refl _ _).alloc (Nat.le_refl _) _) | exact ((Below.refl _ _).alloc (Nat.le_refl _) _).drew | exact ((Below.refl _ _).drew.alloc (Nat.le_refl _) _))⟩⟩
          case round =>
            obtain ⟨k, hk, rfl, hr⟩ := hrel
            obtain ⟨r, rv2, xs2, hpre, hco, hws, hke⟩ := hr.out
            by_cases hlt : k < t.kids.length
            · obtain ⟨b, o, rfl, hrr⟩ := HR.out (by intro e; simp [e] at hlt)
              obtain ⟨us, hc, hv⟩ := hrr.get (List.getElem?_eq_getElem hlt)
              have HTV := Lib.hid hv
              obtain ⟨s1, rfl, hs1⟩ := hv.vals
              obtain ⟨sa, sc, rfl, _⟩ := hs1.slice
              have hcW := hc.below hws.below
              have k0 : wr.cell? ⟨b, o + k * 4, none⟩ = some (.int .u8 t.kids[k].kind) := hcW 0 _ rfl
              have k1 := hcW 1 _ rfl
              have k2 := hcW 2 _ rfl
              have k3 := hcW 3 _ rfl
              have HWS := Lib.hid hws
              have HCO := Lib.hid hco
              have HPR := Lib.hid hpre
              clear hpre
              have HKE := Lib.hid hke
              clear hc hcW hv hs1 hws hco hke hr hrr
              go_wp2_with fail
              refine (IHH.out t.kids[k] (HP.out k hlt) (okL_get HOK.out hlt) (wr.alloc (.cells #[.int .u8 t.kids[k].kind, .string t.kids[k].name, .int .i64 t.kids[k].num, .slice sa t.kids[k].kids.length sc] 24)) r rv2 xs2 _ (HWS.out.grow (by first | exact Below.refl _ _ | exact (Below.refl _ _).drew | exact ((Below.refl _ _).alloc (Nat.le_refl _) _) | exact ((Below.refl _ _).alloc (Nat.le_refl _) _).drew | exact ((Below.refl _ _).drew.alloc (Nat.le_refl _) _))) HTV.out).mono ?_
              rintro e w4 ⟨hk4, r4, rv4, xs4, hp4, hw4, (⟨hs4, rfl⟩ | ⟨hs4, rfl⟩)⟩
              · have HW4 := Lib.hid hw4
                have HK4 := Lib.hid ((HKE.out.trans (Kept.of_below (by first | exact Below.refl _ _ | exact (Below.refl _ _).drew | exact ((Below.refl _ _).alloc (Nat.le_refl _) _) | exact ((Below.refl _ _).alloc (Nat.le_refl _) _).drew | exact ((Below.refl _ _).drew.alloc (Nat.le_refl _) _)))).trans hk4)
                have HS4 := Lib.hid hs4
                have HP4 := Lib.hid (HPR.out.trans hp4)
                clear hw4 hk4 hs4 hp4
                go_wp2
                go_round
                case rel => exact ⟨k + 1, by omega, by simp, Lib.hid ⟨r4, rv4, xs4, HP4.out, comes_take_some hlt HCO.out HS4.out, HW4.out, HK4.out⟩⟩
                case measure => simp [intOf]; omega
              · have HW4 := Lib.hid hw4
                have HK4 := Lib.hid ((HKE.out.trans (Kept.of_below (by first | exact Below.refl _ _ | exact (Below.refl _ _).drew | exact ((Below.refl _ _).alloc (Nat.le_refl _) _) | exact ((Below.refl _ _).alloc (Nat.le_refl _) _).drew | exact ((Below.refl _ _).drew.alloc (Nat.le_refl _) _)))).trans hk4)
                have HS4 := Lib.hid hs4
                have HP4 := Lib.hid (HPR.out.trans hp4)
                clear hw4 hk4 hs4 hp4
                go_wp2
                go_ret
                exact ⟨HK4.out, r4, rv4, xs4, HP4.out, HW4.out, .inr ⟨by rw [HCM.out]; exact comes_take_none hlt HCO.out HS4.out, rfl⟩⟩
            · obtain rfl : k = t.kids.length := by omega
              have HWS := Lib.hid hws
              have HCO := Lib.hid hco
              have HPR := Lib.hid hpre
              clear hpre
              have HKE := Lib.hid hke
              clear hws hco hke hr
              go_wp2
              go_ret
              exact ⟨HKE.out, r, rv2, xs2, HPR.out, HWS.out, .inl ⟨by rw [HCM.out]; simpa using HCO.out, rfl⟩⟩

      · by_cases h2 : t.kind = 2
        · have HA : Hid (∀ o, Calls Tryz.prog 46 #[.pointer (some ⟨pb, 0, none⟩), .string t.name] (w.alloc o) fun e w' => AsksP W0 (w.alloc o) D row dv pb m t.name e w') := Lib.hid fun o => asks_ok HD.out hDl (HSx.out o) t.name hname
          have HCM := Lib.hid (fun row h => come_dat (ownN := ownN) (D := D) (vars := vars) (row := row) h2 h)
          have HCN := Lib.hid (fun row h => come_dat_no (ownN := ownN) (D := D) (vars := vars) (row := row) h2 h)
          rw [h2]
          clear h1 h4 h2
          go_enter Tryz.func27, Tryz.ntmps27
          go_wp2_with fail
          refine (HA.out _).mono ?_
          rintro e w2 ⟨rfl, hk2, rv2, xs2, hw2⟩
          have hb2 : (w.alloc (.cells #[.int .u8 2, .string t.name, .int .i64 t.num, .slice ka t.kids.length kc] 24)).heap[w.heap.size]? = some (.cells #[.int .u8 2, .string t.name, .int .i64 t.num, .slice ka t.kids.length kc] 24 (0, 0)) := Array.getElem?_push_size
          have b3 : w2.cell? ⟨w.heap.size, 3, none⟩ = some (.slice ka t.kids.length kc) := (hk2.cell (o := 3) hb2 (by decide) (by omega) (by omega)).trans (by simp [go_sem])
          have hg2 := hw2.cell h0
          have HW2 := Lib.hid hw2
          have HK2 := Lib.hid ((Kept.of_below (w := w) ((Below.refl _ _).alloc (Nat.le_refl _) _)).trans hk2)
          clear hw2 hk2
          have hwl := cell_lt b3
          cases ha : asks ownN D t.name with
          | none =>
            have HN := Lib.hid (HCN.out row (by rw [ha]; simp))
            clear ha
            go_wp2
            go_ret
            exact ⟨HK2.out, _, _, _, note_prefix _ _ _, HW2.out, .inr ⟨HN.out, rfl⟩⟩
          | some n =>
            by_cases hn : n = t.kids.length
            · subst hn
              have HCM2 := Lib.hid (HCM.out row ha)
              clear ha
              go_wp2
              go_loopw [52] (fun i wr => ∃ k : Nat, k ≤ t.kids.length ∧ i = .int .i64 k ∧ Hid (∃ r rv2 xs2, row <+: r ∧ comes ownN D vars (t.kids.take k) (note ownN D row t.name) = some r ∧ WS W0 wr D r dv pb m rv2 xs2 ∧ Kept pb m w wr)) (fun i _ => t.kids.length - (intOf i).toNat)
              case atStart => exact ⟨0, Nat.zero_le _, rfl, Lib.hid ⟨(note ownN D row t.name), _, _, note_prefix _ _ _, by rw [List.take_zero, comes], HW2.out, HK2.out⟩⟩
              case round =>
                obtain ⟨k, hk, rfl, hr⟩ := hrel
                obtain ⟨r, rv2, xs2, hpre, hco, hws, hke⟩ := hr.out
                by_cases hlt : k < t.kids.length
                · obtain ⟨b, o, rfl, hrr⟩ := HR.out (by intro e; simp [e] at hlt)
                  obtain ⟨us, hc, hv⟩ := hrr.get (List.getElem?_eq_getElem hlt)
                  have HTV := Lib.hid hv
                  obtain ⟨s1, rfl, hs1⟩ := hv.vals
                  obtain ⟨sa, sc, rfl, _⟩ := hs1.slice
                  have hcW := hc.below hws.below
                  have k0 : wr.cell? ⟨b, o + k * 4, none⟩ = some (.int .u8 t.kids[k].kind) := hcW 0 _ rfl
                  have k1 := hcW 1 _ rfl
                  have k2 := hcW 2 _ rfl
                  have k3 := hcW 3 _ rfl
                  have HWS := Lib.hid hws
                  have HCO := Lib.hid hco
                  have HPR := Lib.hid hpre
                  clear hpre
                  have HKE := Lib.hid hke
                  clear hc hcW hv hs1 hws hco hke hr hrr
                  go_wp2_with fail
                  refine (IHH.out t.kids[k] (HP.out k hlt) (okL_get HOK.out hlt) (wr.alloc (.cells #[.int .u8 t.kids[k].kind, .string t.kids[k].name, .int .i64 t.kids[k].num, .slice sa t.kids[k].kids.length sc] 24)) r rv2 xs2 _ (HWS.out.grow (by first | exact Below.refl _ _ | exact (Below.refl _ _).drew | exact ((Below.refl _ _).alloc (Nat.le_refl _) _) | exact ((Below.refl _ _).alloc (Nat.le_refl _) _).drew | exact ((Below.refl _ _).drew.alloc (Nat.le_refl _) _))) HTV.out).mono ?_
                  rintro e w4 ⟨hk4, r4, rv4, xs4, hp4, hw4, (⟨hs4, rfl⟩ | ⟨hs4, rfl⟩)⟩
                  · have HW4 := Lib.hid hw4
                    have HK4 := Lib.hid ((HKE.out.trans (Kept.of_below (by first | exact Below.refl _ _ | exact (Below.refl _ _).drew | exact ((Below.refl _ _).alloc (Nat.le_refl _) _) | exact ((Below.refl _ _).alloc (Nat.le_refl _) _).drew | exact ((Below.refl _ _).drew.alloc (Nat.le_refl _) _)))).trans hk4)
                    have HS4 := Lib.hid hs4
                    have HP4 := Lib.hid (HPR.out.trans hp4)
                    clear hw4 hk4 hs4 hp4
                    go_wp2
                    go_round
                    case rel => exact ⟨k + 1, by omega, by simp, Lib.hid ⟨r4, rv4, xs4, HP4.out, comes_take_some hlt HCO.out HS4.out, HW4.out, HK4.out⟩⟩
                    case measure => simp [intOf]; omega
                  · have HW4 := Lib.hid hw4
                    have HK4 := Lib.hid ((HKE.out.trans (Kept.of_below (by first | exact Below.refl _ _ | exact (Below.refl _ _).drew | exact ((Below.refl _ _).alloc (Nat.le_refl _) _) | exact ((Below.refl _ _).alloc (Nat.le_refl _) _).drew | exact ((Below.refl _ _).drew.alloc (Nat.le_refl _) _)))).trans hk4)
                    have HS4 := Lib.hid hs4
                    have HP4 := Lib.hid (HPR.out.trans hp4)
                    clear hw4 hk4 hs4 hp4
                    go_wp2
                    go_ret
                    exact ⟨HK4.out, r4, rv4, xs4, HP4.out, HW4.out, .inr ⟨by rw [HCM2.out]; exact comes_take_none hlt HCO.out HS4.out, rfl⟩⟩
                · obtain rfl : k = t.kids.length := by omega
                  have HWS := Lib.hid hws
                  have HCO := Lib.hid hco
                  have HPR := Lib.hid hpre
                  clear hpre
                  have HKE := Lib.hid hke
                  clear hws hco hke hr
                  go_wp2
                  go_ret
                  exact ⟨HKE.out, r, rv2, xs2, HPR.out, HWS.out, .inl ⟨by rw [HCM2.out]; simpa using HCO.out, rfl⟩⟩

            · have HN := Lib.hid (HCN.out row (by rw [ha]; simpa using hn))
              clear ha
              have hn2 : ¬ ((n : Int) = t.kids.length) := by omega
              have hn3 : ((n : Int) == t.kids.length) = false := by simpa using hn2
              go_wp2
              go_ret
              exact ⟨HK2.out, _, _, _, note_prefix _ _ _, HW2.out, .inr ⟨HN.out, rfl⟩⟩
        · have HCM := Lib.hid (come_else (ownN := ownN) (D := D) (vars := vars) (row := row) h1 h4 h2)
          have e1 : (t.kind == 1) = false := by simpa using h1
          have e4 : (t.kind == 4) = false := by simpa using h4
          have e2 : (t.kind == 2) = false := by simpa using h2
          go_enter Tryz.func27, Tryz.ntmps27
          go_wp2
          go_ret
          exact ⟨Kept.of_below (by first | exact Below.refl _ _ | exact (Below.refl _ _).drew | exact ((Below.refl _ _).alloc (Nat.le_refl _) _) | exact ((Below.refl _ _).alloc (Nat.le_refl _) _).drew | exact ((Below.refl _ _).drew.alloc (Nat.le_refl _) _)), row, rv, xs, List.prefix_rfl, HS.out.grow (by first | exact Below.refl _ _ | exact (Below.refl _ _).drew | exact ((Below.refl _ _).alloc (Nat.le_refl _) _) | exact ((Below.refl _ _).alloc (Nat.le_refl _) _).drew | exact ((Below.refl _ _).drew.alloc (Nat.le_refl _) _)), .inr ⟨HCM.out, rfl⟩⟩
end Go.Stamp
