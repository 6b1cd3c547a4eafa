/- The text joined and the type told by the document, walked. Each says its own conditions. -/
import Derived.Test.YtadbbfmmhimgcaaGreatDoorStG
set_option linter.unusedVariables false
set_option linter.unusedSimpArgs false
set_option maxRecDepth 100000
set_option maxHeartbeats 4000000
namespace Go.Stamp
open Go Go.RowKit Go.Proofs Go.Maps
/-! ## The document's texts of types -/
theorem bytes_of {a b : ByteArray} (h : a.data.toList = b.data.toList) : a = b := WideShapes.bytes_inj h
theorem append_list (a b : ByteArray) : (a ++ b).data.toList = a.data.toList ++ b.data.toList := by
  rw [ByteArray.data_append, Array.toList_append]
theorem joinB_list (l : List ByteArray) (sep : ByteArray) : (joinB l sep).data.toList = Lib.join (l.map (·.data.toList)) sep.data.toList := rfl
theorem joinB_zero {l : List ByteArray} (h : 0 < l.length) (sep : ByteArray) : joinB (l.take 1) sep = l[0] := by
  match l, h with
  | x :: r, _ =>
    apply bytes_of
    rw [joinB_list]
    show Lib.join [x.data.toList] _ = _
    rw [Lib.join_one]
    rfl
theorem joinB_succ {l : List ByteArray} {k : Nat} (hk : k < l.length) (h0 : 0 < k) (sep : ByteArray) : joinB (l.take (k + 1)) sep = joinB (l.take k) sep ++ sep ++ l[k] := by
  apply bytes_of
  rw [joinB_list, append_list, append_list, joinB_list]
  match l, k, hk, h0 with
  | x :: r, k + 1, hk, _ =>
    rw [List.take_succ_cons, List.take_succ_cons, List.map_cons, List.map_cons, Lib.join_cons, Lib.join_cons, List.map_take, List.map_take,
      Lib.joinTail_take_succ _ _ k (r[k]'(by simpa using hk)).data.toList (by rw [List.getElem?_map, List.getElem?_eq_getElem (by simpa using hk)]; rfl)]
    simp [List.append_assoc]
theorem joinB_takele (l : List ByteArray) (sep : ByteArray) (k : Nat) : (joinB (l.take k) sep).size ≤ (l.map fun x => x.size + sep.size).sum := by
  refine Nat.le_trans (joinB_size _ _) ?_
  have : l.map (fun x => x.size + sep.size) = (l.take k).map (fun x => x.size + sep.size) ++ (l.drop k).map (fun x => x.size + sep.size) := by rw [← List.map_append, List.take_append_drop]
  rw [this, List.sum_append]
  omega
theorem mem_le_sum {l : List Nat} {x : Nat} (h : x ∈ l) : x ≤ l.sum := by
  induction l with
  | nil => cases h
  | cons y r ih =>
    rw [List.sum_cons]
    rcases List.mem_cons.1 h with e | e
    · omega
    · have := ih e; omega
/-- the document's Join -/
theorem rjoin_ok {W wr : World} {out : Value} {xs : List ByteArray} {sep : ByteArray} (h : OutV W wr out xs) (hn : xs.length ≤ 1099511627776) (hsz : (xs.map fun x => x.size + sep.size).sum ≤ 1099511627776) :
    Calls Tryz.prog 23 #[out, .string sep] wr fun e w' => e = .returned (.string (joinB xs sep)) ∧ w' = wr := by
  have hcells : ∃ a c, out = .slice a xs.length c ∧ (xs ≠ [] → ∃ g, a = some ⟨g, 0, none⟩ ∧ ∀ j x, xs[j]? = some x → wr.cell? ⟨g, j, none⟩ = some (.string x)) := by
    rcases h.1.2 with ⟨rfl, h0⟩ | ⟨g, cap, cur, rfl, h2, h3, h4, h5, h6, h7⟩
    · exact ⟨none, 0, by rw [h0], fun e => absurd (List.eq_nil_of_length_eq_zero h0) e⟩
    · refine ⟨_, cap, rfl, fun _ => ⟨g, rfl, fun j x hj => ?_⟩⟩
      have := h.1.cells (g := g) rfl j (.string x) (by rw [List.getElem?_map, hj]; rfl)
      rw [show (⟨g, 0, none⟩ : Addr).add j = ⟨g, 0 + j, none⟩ by unfold Addr.add; split <;> simp_all, Nat.zero_add] at this
      exact this
  obtain ⟨a, c, rfl, hc⟩ := hcells
  have HC := Lib.hid hc
  have hle := fun k => joinB_takele xs sep k
  have HLE := Lib.hid hle
  have hsep : 0 < xs.length → sep.size ≤ 1099511627776 := fun h => by
    match xs, h with
    | x :: r, _ => rw [List.map_cons, List.sum_cons] at hsz; omega
  have hx : ∀ k (hk : k < xs.length), xs[k].size ≤ 1099511627776 := fun k hk => by
    have : xs[k].size + sep.size ≤ (xs.map fun x => x.size + sep.size).sum := by
      have hm : (xs[k].size + sep.size) ∈ xs.map fun x => x.size + sep.size := List.mem_map.2 ⟨xs[k], List.getElem_mem hk, rfl⟩
      exact mem_le_sum hm
    omega
  have HX := Lib.hid hx
  have HS := Lib.hid hsep
  clear hc hle h hx hsep
  go_enter Tryz.func23, Tryz.ntmps23
  go_wp2
  go_loop [5, 6] (fun o i => ∃ k : Nat, k ≤ xs.length ∧ i = .int .i64 k ∧ o = .string (joinB (xs.take k) sep)) (fun _ i => xs.length - (intOf i).toNat)
  case atStart => exact ⟨0, Nat.zero_le _, rfl, rfl⟩
  case round =>
    obtain ⟨k, hk, rfl, rfl⟩ := hrel
    by_cases hlt : k < xs.length
    · obtain ⟨g, rfl, hg⟩ := HC.out (by intro e; simp [e] at hlt)
      have ck := hg k _ (List.getElem?_eq_getElem hlt)
      have hs1 := HLE.out k
      have hs2 := HX.out k hlt
      have hs3 := HS.out (by omega)
      by_cases h0 : k = 0
      · subst h0
        have hj := Lib.hid (joinB_zero hlt sep)
        have he : joinB (xs.take 0) sep = { data := #[] } := by rw [List.take_zero]; rfl
        have hemp : ({ data := #[] } : ByteArray) ++ xs[0] = xs[0] := bytes_of (by rw [append_list]; rfl)
        rw [he]
        clear hg hs1 he
        generalize xs[0] = x0 at *
        go_wp2
        go_round
        case rel => exact ⟨1, by omega, by simp, by first | exact congrArg Value.string hj.out.symm | exact congrArg Value.string (hemp.trans hj.out.symm)⟩
        case measure => simp [intOf]; omega
      · have hj := Lib.hid (joinB_succ hlt (by omega) sep)
        have hk0 : (0 : Int) < (k : Int) := by omega
        clear hg
        generalize joinB (xs.take k) sep = J at *
        generalize xs[k] = x0 at *
        go_wp2
        go_round
        case rel => exact ⟨k + 1, by omega, by simp, congrArg Value.string hj.out.symm⟩
        case measure => simp [intOf]; omega
    · obtain rfl : k = xs.length := by omega
      rw [List.take_length]
      go_wp2
      go_ret
      exact ⟨rfl, rfl⟩
end Go.Stamp
set_option linter.unusedVariables false
set_option linter.unusedSimpArgs false
set_option maxRecDepth 100000
set_option maxHeartbeats 4000000
namespace Go.Stamp
open Go Go.RowKit Go.Proofs Go.Maps
mutual
/-- a type without variables and arrows -/
def closedT : Ty → Prop
  | .mk kind _ _ kids => (kind = 2 ∨ kind = 4) ∧ closedL kids
def closedL : List Ty → Prop
  | [] => True
  | t :: ts => closedT t ∧ closedL ts
end
theorem closedT_kind {t : Ty} (h : closedT t) : t.kind = 2 ∨ t.kind = 4 := by cases t; rw [closedT] at h; exact h.1
theorem closedT_kids {t : Ty} (h : closedT t) : closedL t.kids := by cases t; rw [closedT] at h; exact h.2
theorem closedL_get : ∀ {l : List Ty} (h : closedL l) {k : Nat} (hk : k < l.length), closedT l[k]
  | t :: ts, h, 0, _ => by rw [closedL] at h; exact h.1
  | t :: ts, h, k + 1, hk => by rw [closedL] at h; exact closedL_get h.2 (by simpa using hk)
section
variable {ownN : ByteArray → Option Nat}
mutual
theorem come_closed {D : List Dec} : ∀ (t : Ty) {row r : List Dec}, come ownN D [] t row = some r → closedT t
  | .mk kind name num kids, row, r, h => by
    rw [come] at h
    rw [closedT]
    split at h
    · simp at h
    · split at h
      · rename_i hk
        split at h
        · cases h
        · exact ⟨.inr hk, comes_closed kids h⟩
      · split at h
        · rename_i hk
          split at h
          · exact ⟨.inl hk, comes_closed kids h⟩
          · cases h
        · cases h
theorem comes_closed {D : List Dec} : ∀ (l : List Ty) {row r : List Dec}, comes ownN D [] l row = some r → closedL l
  | [], row, r, h => by rw [closedL]; trivial
  | t :: ts, row, r, h => by
    rw [comes] at h
    obtain ⟨r1, h1, h2⟩ := Option.bind_eq_some_iff.1 h
    rw [closedL]
    exact ⟨come_closed t h1, comes_closed ts h2⟩
end
end
/-- the document tells a type -/
def RTyOK (t : Ty) : Prop := ∀ (W0 W : World) (vs : List Value), TyV W0 t vs → Below W0.heap.size W0 W → Calls Tryz.prog 11 #[.agg ⟨vs⟩] W fun e w' => e = .returned (.string (tyT numS t)) ∧ Below W.heap.size W w'
theorem inner_ok {t : Ty} (hT : RTyOK t) (hs : (tyT numS t).size ≤ 1099511627776) (so : Bool) {W0 W : World} {vs : List Value} (hv : TyV W0 t vs) (hB : Below W0.heap.size W0 W) :
    Calls Tryz.prog 22 #[.agg ⟨vs⟩, .bool so] W fun e w' => e = .returned (.string (roundT (tyT numS t) so)) ∧ Below W.heap.size W w' := by
  have hcall := fun W hb => hT W0 W vs hv hb
  obtain ⟨s, rfl, hsl⟩ := hv.vals
  obtain ⟨a, c, rfl, _⟩ := hsl.slice
  have HC := Lib.hid (fun obj => hcall (W.alloc obj) (hB.alloc hB.size obj))
  clear hcall hv hsl hB hT
  generalize tyT numS t = T at *
  cases so with
  | true =>
    go_enter Tryz.func22, Tryz.ntmps22
    go_wp2_with fail
    refine (HC.out _).mono ?_
    rintro e w2 ⟨rfl, hb⟩
    have HB := Lib.hid (((Below.refl _ _).alloc (Nat.le_refl W.heap.size) _).trans (hb.mono (by simp)))
    clear hb
    go_wp2
    go_ret
    exact ⟨rfl, HB.out⟩
  | false =>
    go_enter Tryz.func22, Tryz.ntmps22
    go_wp2_with fail
    refine (HC.out _).mono ?_
    rintro e w2 ⟨rfl, hb⟩
    have HB := Lib.hid (((Below.refl _ _).alloc (Nat.le_refl W.heap.size) _).trans (hb.mono (by simp)))
    clear hb
    go_wp2
    go_ret
    exact ⟨rfl, HB.out⟩
theorem sizeS_le {t : Ty} (h : fitT 1048576 t) (hp : partsT t ≤ 4096) : ((t.kids.map (tyT numS)).map fun x => x.size + 2).sum ≤ 4296278080 ∧ ((t.kids.map (loneT numS)).map fun x => x.size + 3).sum ≤ 4296278080 := by
  have h1 := tyL_size (numT := numS) numS_size t.kids (fitT_kids h)
  have h2 := loneL_size (numT := numS) numS_size t.kids (fitT_kids h)
  rw [tyL_eq] at h1
  rw [loneL_eq] at h2
  rw [partsT_eq] at hp
  have h3 : (1048576 + 64) * partsN t.kids ≤ (1048576 + 64) * 4096 := Nat.mul_le_mul_left _ hp
  have h4 := sum_map_le (l := t.kids.map (tyT numS)) (f := fun x => x.size + 2) (g := fun x => x.size + 3) fun x _ => by omega
  constructor <;> omega
end Go.Stamp
set_option linter.unusedVariables false
set_option linter.unusedSimpArgs false
set_option maxRecDepth 100000
set_option maxHeartbeats 40000000
namespace Go.Stamp
open Go Go.RowKit Go.Proofs Go.Maps
theorem rty_tup {t : Ty} (hp : partsT t ≤ 4096) (hg : closedT t) (hfit : fitT 1048576 t) (HK : Hid (∀ x ∈ t.kids, RTyOK x ∧ (tyT numS x).size ≤ 1099511627776)) (h4 : t.kind = 4) : RTyOK t := by
  intro W0 W vs hT hB
  have HF11 : Hid (∀ x ∈ t.kids, ∀ W vs, TyV W0 x vs → Below W0.heap.size W0 W → Calls Tryz.prog 11 #[.agg ⟨vs⟩] W fun e w' => e = .returned (.string (tyT numS x)) ∧ Below W.heap.size W w') := Lib.hid fun x hx W vs hv hb => (HK.out x hx).1 W0 W vs hv hb
  have HF22 : Hid (∀ x ∈ t.kids, ∀ W vs, TyV W0 x vs → Below W0.heap.size W0 W → ∀ b, b = (decide (3 = x.kind) || decide (4 = x.kind)) → Calls Tryz.prog 22 #[.agg ⟨vs⟩, .bool b] W fun e w' => e = .returned (.string (loneT numS x)) ∧ Below W.heap.size W w') := Lib.hid fun x hx W vs hv hb b e => by
    subst e
    exact inner_ok (HK.out x hx).1 (HK.out x hx).2 _ hv hb
  obtain ⟨s, rfl, hs⟩ := hT.vals
  obtain ⟨ka, kc, rfl, hrow⟩ := hs.slice
  have hname := fitT_name hfit
  have hlen : t.kids.length ≤ 4096 := by rw [partsT_eq, partsN_eq] at hp; omega
  obtain ⟨hj1, hj2⟩ := sizeJ_le hfit (by omega)
  obtain ⟨hs1, hs2⟩ := sizeS_le hfit (by omega)
  have HR := Lib.hid hrow
  have HB := Lib.hid hB
  have hkind := closedT_kind hg
  have hKC : ∀ k (hk : k < t.kids.length), t.kids[k].kind = 2 ∨ t.kids[k].kind = 4 := fun k hk => closedT_kind (closedL_get (closedT_kids hg) hk)
  have HKC := Lib.hid hKC
  have hbox := box_cells (heap_alloc_new W (.cells ⟨[.int .u8 t.kind, .string t.name, .int .i64 t.num, .slice ka t.kids.length kc]⟩ 24))
  have HBOX := Lib.hid hbox
  have hz : (W.alloc (.cells ⟨[.int .u8 t.kind, .string t.name, .int .i64 t.num, .slice ka t.kids.length kc]⟩ 24)).heap.size = W.heap.size + 1 := by simp
  have HZ := Lib.hid hz
  have HB1 := Lib.hid (hB.alloc hB.size (.cells ⟨[.int .u8 t.kind, .string t.name, .int .i64 t.num, .slice ka t.kids.length kc]⟩ 24))
  have HW1 := Lib.hid ((Below.refl W.heap.size W).alloc (Nat.le_refl _) (.cells ⟨[.int .u8 t.kind, .string t.name, .int .i64 t.num, .slice ka t.kids.length kc]⟩ 24))
  obtain ⟨i, hi, hi2⟩ := Option.map_eq_some_iff.1 i9
  injection hi2 with hz0 hz1
  injection hz1 with hz1 hz2
  clear hs hrow hB hT hg hfit hKC hbox hz
  have HE := Lib.hid (tyT_tup (numT := numS) h4)
  rw [h4] at HBOX HZ HB1 HW1
  rw [h4]
  clear h4 hkind
  go_enter Tryz.func11, Tryz.ntmps11
  go_wp2
  generalize hW1 : (W.alloc (.cells ⟨[.int .u8 4, .string t.name, .int .i64 t.num, .slice ka t.kids.length kc]⟩ 24)) = w1 at *
  go_loopw [3, 5] (fun out j wr => ∃ k : Nat, k ≤ t.kids.length ∧ j = .int .i64 k ∧ Hid (OutV w1 wr out ((t.kids.take k).map (loneT numS)))) (fun _ j _ => t.kids.length - (intOf j).toNat)
  case atStart => exact ⟨0, Nat.zero_le _, rfl, by rw [List.take_zero]; exact Lib.hid ⟨World.ownsRow_nil _ _ _ _, Below.refl _ _⟩⟩
  case round =>
    obtain ⟨k, hk, rfl, hO⟩ := hrel
    by_cases hlt : k < t.kids.length
    · obtain ⟨b, o, rfl, hr⟩ := HR.out (by intro e; simp [e] at hlt)
      have hget : t.kids[k]? = some t.kids[k] := List.getElem?_eq_getElem hlt
      obtain ⟨vs, hc, hv⟩ := hr.get hget
      have HV := Lib.hid hv
      obtain ⟨s1, rfl, hs1⟩ := hv.vals
      obtain ⟨sa, sc, rfl, _⟩ := hs1.slice
      have hBW := HB1.out.trans (hO.out.2.mono HB1.out.size)
      have hcW := hc.below hBW
      have k0 : wr.cell? ⟨b, o + k * 4, none⟩ = some (.int .u8 t.kids[k].kind) := hcW 0 _ rfl
      have k1 := hcW 1 _ rfl
      have k2 := hcW 2 _ rfl
      have k3 := hcW 3 _ rfl
      have t0 := (hO.out.2.cell (p := ⟨W.heap.size, 0, none⟩) (by rw [HZ.out]; exact Nat.lt_succ_self _)).trans HBOX.out.1
      have t1 := (hO.out.2.cell (p := ⟨W.heap.size, 1, none⟩) (by rw [HZ.out]; exact Nat.lt_succ_self _)).trans HBOX.out.2.1
      have t3 := (hO.out.2.cell (p := ⟨W.heap.size, 3, none⟩) (by rw [HZ.out]; exact Nat.lt_succ_self _)).trans HBOX.out.2.2.2
      have HCALL := Lib.hid (HF22.out t.kids[k] (List.getElem_mem hlt) wr _ HV.out hBW)
      have htk : (t.kids.take (k + 1)).map (loneT numS) = (t.kids.take k).map (loneT numS) ++ [loneT numS t.kids[k]] := by rw [List.take_succ_eq_append_getElem hlt, List.map_append]; rfl
      have HTK := Lib.hid htk
      have HO := hO
      have hkc := HKC.out k hlt
      clear hc hv hs1 hBW hcW htk hr hget hO
      generalize hfk : loneT numS t.kids[k] = fk at *
      go_wp2_with fail
      refine (HCALL.out _ (by first | rfl | (rcases hkc with h | h <;> simp [h]))).mono ?_
      rintro e w2 ⟨rfl, hb⟩
      have ho2 : OutV w1 w2 u3 ((t.kids.take k).map (loneT numS)) := HO.out.below hb
      have hlen2 : ((t.kids.take k).map (loneT numS)).length = k := by simp; omega
      have hsw := ho2.2.size
      have hown := ho2.1.alloc (.cells #[.string fk] 9)
      rw [hlen2] at hown
      have HO2 := Lib.hid ho2
      clear ho2 hb HCALL k0 k1 k2 k3 t0 t1 t3
      go_wp2_with (at_builtin; refine wpList_append_own _ rfl _ _ 31 rfl w1.heap.size 9 i (.string { data := #[] }) 1 16 Tryz.underlying31 hi hz2 hz0 hz1 rfl (by decide) _ _ _ rfl hown ⟨w2.heap.size, 0, none⟩ 1 1 [.string fk] rfl rfl (cell_one_new _ _ _) (str_one fk) (by simp only [maxLen]; omega) (by omega) (by simp; omega) ?_; intro v' w3 hown' hgrow hnil)
      have HN : Hid (OutV w1 w3 v' ((t.kids.take (k + 1)).map (loneT numS))) := Lib.hid (by
        rw [HTK.out]
        refine OutV.grown (HO2.out.below ((Below.refl _ _).alloc (Nat.le_refl _) _)) ?_ hgrow
        rw [hlen2]; exact hown')
      clear hown' hgrow hnil hown HO2 HO
      go_wp2
      go_round
      case rel => exact ⟨k + 1, by omega, by simp, HN⟩
      case measure => simp [intOf]; omega

    · obtain rfl : k = t.kids.length := by omega
      rw [List.take_length] at hO
      have t0 := (hO.out.2.cell (p := ⟨W.heap.size, 0, none⟩) (by rw [HZ.out]; exact Nat.lt_succ_self _)).trans HBOX.out.1
      have t1 := (hO.out.2.cell (p := ⟨W.heap.size, 1, none⟩) (by rw [HZ.out]; exact Nat.lt_succ_self _)).trans HBOX.out.2.1
      have t3 := (hO.out.2.cell (p := ⟨W.heap.size, 3, none⟩) (by rw [HZ.out]; exact Nat.lt_succ_self _)).trans HBOX.out.2.2.2
      have HJ := Lib.hid (rjoin_ok (sep := sStar) hO.out (by simp; omega) (Nat.le_trans hs2 (by omega)))
      have HO := hO
      clear hO
      generalize joinB (t.kids.map (loneT numS)) sStar = J at *
      go_wp2_with fail
      refine HJ.out.mono ?_
      rintro e w2 ⟨rfl, rfl⟩
      have HB2 := Lib.hid (HW1.out.trans (HO.out.2.mono (by rw [HZ.out]; omega)))
      go_wp2
      go_ret
      exact ⟨congrArg (fun x => Ending.returned (Value.string x)) HE.out.symm, HB2.out⟩

theorem rty_con0 {t : Ty} (hp : partsT t ≤ 4096) (hg : closedT t) (hfit : fitT 1048576 t) (HK : Hid (∀ x ∈ t.kids, RTyOK x ∧ (tyT numS x).size ≤ 1099511627776)) (h2 : t.kind = 2) (hl0 : t.kids.length = 0) : RTyOK t := by
  intro W0 W vs hT hB
  have HF11 : Hid (∀ x ∈ t.kids, ∀ W vs, TyV W0 x vs → Below W0.heap.size W0 W → Calls Tryz.prog 11 #[.agg ⟨vs⟩] W fun e w' => e = .returned (.string (tyT numS x)) ∧ Below W.heap.size W w') := Lib.hid fun x hx W vs hv hb => (HK.out x hx).1 W0 W vs hv hb
  have HF22 : Hid (∀ x ∈ t.kids, ∀ W vs, TyV W0 x vs → Below W0.heap.size W0 W → ∀ b, b = (decide (3 = x.kind) || decide (4 = x.kind)) → Calls Tryz.prog 22 #[.agg ⟨vs⟩, .bool b] W fun e w' => e = .returned (.string (loneT numS x)) ∧ Below W.heap.size W w') := Lib.hid fun x hx W vs hv hb b e => by
    subst e
    exact inner_ok (HK.out x hx).1 (HK.out x hx).2 _ hv hb
  obtain ⟨s, rfl, hs⟩ := hT.vals
  obtain ⟨ka, kc, rfl, hrow⟩ := hs.slice
  have hname := fitT_name hfit
  have hlen : t.kids.length ≤ 4096 := by rw [partsT_eq, partsN_eq] at hp; omega
  obtain ⟨hj1, hj2⟩ := sizeJ_le hfit (by omega)
  obtain ⟨hs1, hs2⟩ := sizeS_le hfit (by omega)
  have HR := Lib.hid hrow
  have HB := Lib.hid hB
  have hkind := closedT_kind hg
  have hKC : ∀ k (hk : k < t.kids.length), t.kids[k].kind = 2 ∨ t.kids[k].kind = 4 := fun k hk => closedT_kind (closedL_get (closedT_kids hg) hk)
  have HKC := Lib.hid hKC
  have hbox := box_cells (heap_alloc_new W (.cells ⟨[.int .u8 t.kind, .string t.name, .int .i64 t.num, .slice ka t.kids.length kc]⟩ 24))
  have HBOX := Lib.hid hbox
  have hz : (W.alloc (.cells ⟨[.int .u8 t.kind, .string t.name, .int .i64 t.num, .slice ka t.kids.length kc]⟩ 24)).heap.size = W.heap.size + 1 := by simp
  have HZ := Lib.hid hz
  have HB1 := Lib.hid (hB.alloc hB.size (.cells ⟨[.int .u8 t.kind, .string t.name, .int .i64 t.num, .slice ka t.kids.length kc]⟩ 24))
  have HW1 := Lib.hid ((Below.refl W.heap.size W).alloc (Nat.le_refl _) (.cells ⟨[.int .u8 t.kind, .string t.name, .int .i64 t.num, .slice ka t.kids.length kc]⟩ 24))
  obtain ⟨i, hi, hi2⟩ := Option.map_eq_some_iff.1 i9
  injection hi2 with hz0 hz1
  injection hz1 with hz1 hz2
  clear hs hrow hB hT hg hfit hKC hbox hz
  have h4 : ¬ t.kind = 4 := by omega
  have HE := Lib.hid (tyT_con0 (numT := numS) h2 hl0)
  rw [h2, hl0]
  clear h4 h2 hkind
  go_enter Tryz.func11, Tryz.ntmps11
  go_wp2
  go_ret
  exact ⟨congrArg (fun x => Ending.returned (Value.string x)) HE.out.symm, (Below.refl _ _).alloc (Nat.le_refl _) _⟩

end Go.Stamp
set_option linter.unusedVariables false
set_option linter.unusedSimpArgs false
set_option maxRecDepth 100000
set_option maxHeartbeats 40000000
namespace Go.Stamp
open Go Go.RowKit Go.Proofs Go.Maps
theorem rty_one {t : Ty} (hp : partsT t ≤ 4096) (hg : closedT t) (hfit : fitT 1048576 t) (HK : Hid (∀ x ∈ t.kids, RTyOK x ∧ (tyT numS x).size ≤ 1099511627776)) (h2 : t.kind = 2) (hl1 : t.kids.length = 1) : RTyOK t := by
  intro W0 W vs hT hB
  have HF11 : Hid (∀ x ∈ t.kids, ∀ W vs, TyV W0 x vs → Below W0.heap.size W0 W → Calls Tryz.prog 11 #[.agg ⟨vs⟩] W fun e w' => e = .returned (.string (tyT numS x)) ∧ Below W.heap.size W w') := Lib.hid fun x hx W vs hv hb => (HK.out x hx).1 W0 W vs hv hb
  have HF22 : Hid (∀ x ∈ t.kids, ∀ W vs, TyV W0 x vs → Below W0.heap.size W0 W → ∀ b, b = (decide (3 = x.kind) || decide (4 = x.kind)) → Calls Tryz.prog 22 #[.agg ⟨vs⟩, .bool b] W fun e w' => e = .returned (.string (loneT numS x)) ∧ Below W.heap.size W w') := Lib.hid fun x hx W vs hv hb b e => by
    subst e
    exact inner_ok (HK.out x hx).1 (HK.out x hx).2 _ hv hb
  obtain ⟨s, rfl, hs⟩ := hT.vals
  obtain ⟨ka, kc, rfl, hrow⟩ := hs.slice
  have hname := fitT_name hfit
  have hlen : t.kids.length ≤ 4096 := by rw [partsT_eq, partsN_eq] at hp; omega
  obtain ⟨hj1, hj2⟩ := sizeJ_le hfit (by omega)
  obtain ⟨hs1, hs2⟩ := sizeS_le hfit (by omega)
  have HR := Lib.hid hrow
  have HB := Lib.hid hB
  have hkind := closedT_kind hg
  have hKC : ∀ k (hk : k < t.kids.length), t.kids[k].kind = 2 ∨ t.kids[k].kind = 4 := fun k hk => closedT_kind (closedL_get (closedT_kids hg) hk)
  have HKC := Lib.hid hKC
  have hbox := box_cells (heap_alloc_new W (.cells ⟨[.int .u8 t.kind, .string t.name, .int .i64 t.num, .slice ka t.kids.length kc]⟩ 24))
  have HBOX := Lib.hid hbox
  have hz : (W.alloc (.cells ⟨[.int .u8 t.kind, .string t.name, .int .i64 t.num, .slice ka t.kids.length kc]⟩ 24)).heap.size = W.heap.size + 1 := by simp
  have HZ := Lib.hid hz
  have HB1 := Lib.hid (hB.alloc hB.size (.cells ⟨[.int .u8 t.kind, .string t.name, .int .i64 t.num, .slice ka t.kids.length kc]⟩ 24))
  have HW1 := Lib.hid ((Below.refl W.heap.size W).alloc (Nat.le_refl _) (.cells ⟨[.int .u8 t.kind, .string t.name, .int .i64 t.num, .slice ka t.kids.length kc]⟩ 24))
  obtain ⟨i, hi, hi2⟩ := Option.map_eq_some_iff.1 i9
  injection hi2 with hz0 hz1
  injection hz1 with hz1 hz2
  clear hs hrow hB hT hg hfit hKC hbox hz
  have h4 : ¬ t.kind = 4 := by omega
  have hl0 : ¬ t.kids.length = 0 := by omega
  rw [h2] at HBOX HZ HB1 HW1
  obtain ⟨x0, hx0⟩ : ∃ x0, t.kids = [x0] := by
    match hkk : t.kids, hl1 with
    | [x], _ => exact ⟨x, rfl⟩
  have HE := Lib.hid (tyT_con1 (numT := numS) h2 hx0)
  have hm : x0 ∈ t.kids := by rw [hx0]; simp
  have hkx : x0.kind = 2 ∨ x0.kind = 4 := by
    have := HKC.out 0 (by omega)
    simpa [hx0] using this
  obtain ⟨b, o, rfl, hr⟩ := HR.out (by rw [hx0]; simp)
  obtain ⟨us, hc, hv⟩ := hr.get (i := 0) (t := x0) (by rw [hx0]; rfl)
  have HV := Lib.hid hv
  obtain ⟨s1, rfl, hs1'⟩ := hv.vals
  obtain ⟨sa, sc, rfl, _⟩ := hs1'.slice
  have hcW := hc.below HB.out
  have k0 : W.cell? ⟨b, o, none⟩ = some (.int .u8 x0.kind) := by have := hcW 0 _ rfl; simpa using this
  have k1 : W.cell? ⟨b, o + 1, none⟩ = some (.string x0.name) := by have := hcW 1 _ rfl; simpa using this
  have k2 : W.cell? ⟨b, o + 2, none⟩ = some (.int .i64 x0.num) := by have := hcW 2 _ rfl; simpa using this
  have k3 : W.cell? ⟨b, o + 3, none⟩ = some (.slice sa x0.kids.length sc) := by have := hcW 3 _ rfl; simpa using this
  have hbl := cell_lt k0
  have HC : Hid (∀ w, Below W0.heap.size W0 w → ∀ b, b = (decide (3 = x0.kind) || decide (4 = x0.kind)) → Calls Tryz.prog 22 #[.agg #[.int .u8 x0.kind, .string x0.name, .int .i64 x0.num, .slice sa x0.kids.length sc], .bool b] w fun e w' => e = .returned (.string (loneT numS x0)) ∧ Below w.heap.size w w') := Lib.hid (fun w hb => HF22.out x0 hm w _ HV.out hb)
  have hlsz : (loneT numS x0).size ≤ 8796093022208 := by
    have := round_size (tyT numS x0) (decide (3 = x0.kind) || decide (4 = x0.kind))
    have h3 := (HK.out x0 hm).2
    unfold loneT
    omega
  rw [h2, hl1]
  generalize loneT numS x0 = L at *
  generalize x0.kind = xk at *
  clear h4 h2 hl0 hc hv hs1' hcW hm hkind
  rcases hkx with rfl | rfl
  all_goals
    go_enter Tryz.func11, Tryz.ntmps11
    go_wp2
    go_region_with (go_at_call 22; refine (HC.out _ ?_ _ ?_).mono ?_; (repeat (first | exact HB.out | refine Below.drew ?_ | refine Below.alloc ?_ (by have := HB.out.size; simp; omega) _)); (first | rfl | simp); rintro e w' ⟨rfl, hb⟩; (have hz := hb.size); (have q0 := hb.cell (p := ⟨W.heap.size, 0, none⟩) (by simp)); (have q1 := hb.cell (p := ⟨W.heap.size, 1, none⟩) (by simp)); (have q2 := hb.cell (p := ⟨W.heap.size, 2, none⟩) (by simp)); (have q3 := hb.cell (p := ⟨W.heap.size, 3, none⟩) (by simp)); simp [go_sem] at q0 q1 q2 q3 hz; (have HBB := Lib.hid hb); clear hb)
    all_goals
      have HBF : Hid (Below W.heap.size W w') := by
        refine Lib.hid (Below.trans ?_ (HBB.out.mono ?_))
        · repeat (first | exact Below.refl _ _ | refine Below.drew ?_ | refine Below.alloc ?_ (by first | omega | (simp; omega) | (simp <;> done)) _)
        · first | omega | (simp; omega) | (simp; done)
      go_wp2
      go_ret
      refine ⟨congrArg (fun x => Ending.returned (Value.string x)) HE.out.symm, ?_⟩
      repeat (first | exact HBF.out | refine Below.drew ?_)

end Go.Stamp
set_option linter.unusedVariables false
set_option linter.unusedSimpArgs false
set_option maxRecDepth 100000
set_option maxHeartbeats 40000000
namespace Go.Stamp
open Go Go.RowKit Go.Proofs Go.Maps
theorem rty_many {t : Ty} (hp : partsT t ≤ 4096) (hg : closedT t) (hfit : fitT 1048576 t) (HK : Hid (∀ x ∈ t.kids, RTyOK x ∧ (tyT numS x).size ≤ 1099511627776)) (h2 : t.kind = 2) (hl0 : ¬ t.kids.length = 0) (hl1 : ¬ t.kids.length = 1) : RTyOK t := by
  intro W0 W vs hT hB
  have HF11 : Hid (∀ x ∈ t.kids, ∀ W vs, TyV W0 x vs → Below W0.heap.size W0 W → Calls Tryz.prog 11 #[.agg ⟨vs⟩] W fun e w' => e = .returned (.string (tyT numS x)) ∧ Below W.heap.size W w') := Lib.hid fun x hx W vs hv hb => (HK.out x hx).1 W0 W vs hv hb
  have HF22 : Hid (∀ x ∈ t.kids, ∀ W vs, TyV W0 x vs → Below W0.heap.size W0 W → ∀ b, b = (decide (3 = x.kind) || decide (4 = x.kind)) → Calls Tryz.prog 22 #[.agg ⟨vs⟩, .bool b] W fun e w' => e = .returned (.string (loneT numS x)) ∧ Below W.heap.size W w') := Lib.hid fun x hx W vs hv hb b e => by
    subst e
    exact inner_ok (HK.out x hx).1 (HK.out x hx).2 _ hv hb
  obtain ⟨s, rfl, hs⟩ := hT.vals
  obtain ⟨ka, kc, rfl, hrow⟩ := hs.slice
  have hname := fitT_name hfit
  have hlen : t.kids.length ≤ 4096 := by rw [partsT_eq, partsN_eq] at hp; omega
  obtain ⟨hj1, hj2⟩ := sizeJ_le hfit (by omega)
  obtain ⟨hs1, hs2⟩ := sizeS_le hfit (by omega)
  have HR := Lib.hid hrow
  have HB := Lib.hid hB
  have hkind := closedT_kind hg
  have hKC : ∀ k (hk : k < t.kids.length), t.kids[k].kind = 2 ∨ t.kids[k].kind = 4 := fun k hk => closedT_kind (closedL_get (closedT_kids hg) hk)
  have HKC := Lib.hid hKC
  have hbox := box_cells (heap_alloc_new W (.cells ⟨[.int .u8 t.kind, .string t.name, .int .i64 t.num, .slice ka t.kids.length kc]⟩ 24))
  have HBOX := Lib.hid hbox
  have hz : (W.alloc (.cells ⟨[.int .u8 t.kind, .string t.name, .int .i64 t.num, .slice ka t.kids.length kc]⟩ 24)).heap.size = W.heap.size + 1 := by simp
  have HZ := Lib.hid hz
  have HB1 := Lib.hid (hB.alloc hB.size (.cells ⟨[.int .u8 t.kind, .string t.name, .int .i64 t.num, .slice ka t.kids.length kc]⟩ 24))
  have HW1 := Lib.hid ((Below.refl W.heap.size W).alloc (Nat.le_refl _) (.cells ⟨[.int .u8 t.kind, .string t.name, .int .i64 t.num, .slice ka t.kids.length kc]⟩ 24))
  obtain ⟨i, hi, hi2⟩ := Option.map_eq_some_iff.1 i9
  injection hi2 with hz0 hz1
  injection hz1 with hz1 hz2
  clear hs hrow hB hT hg hfit hKC hbox hz
  have h4 : ¬ t.kind = 4 := by omega
  rw [h2] at HBOX HZ HB1 HW1
  have HE := Lib.hid (tyT_conN (numT := numS) h2 hl0 hl1)
  have e0 : ((t.kids.length : Int) == 0) = false := by simpa using hl0
  have e1 : ((t.kids.length : Int) == 1) = false := by
    rw [beq_eq_false_iff_ne]; omega
  rw [h2]
  clear h4 h2 hkind
  go_enter Tryz.func11, Tryz.ntmps11
  go_wp2
  generalize hW1 : (W.alloc (.cells ⟨[.int .u8 2, .string t.name, .int .i64 t.num, .slice ka t.kids.length kc]⟩ 24)) = w1 at *
  go_loopw [3, 8] (fun out j wr => ∃ k : Nat, k ≤ t.kids.length ∧ j = .int .i64 k ∧ Hid (OutV w1 wr out ((t.kids.take k).map (tyT numS)))) (fun _ j _ => t.kids.length - (intOf j).toNat)
  case atStart => exact ⟨0, Nat.zero_le _, rfl, by rw [List.take_zero]; exact Lib.hid ⟨World.ownsRow_nil _ _ _ _, Below.refl _ _⟩⟩
  case round =>
    obtain ⟨k, hk, rfl, hO⟩ := hrel
    by_cases hlt : k < t.kids.length
    · obtain ⟨b, o, rfl, hr⟩ := HR.out (by intro e; simp [e] at hlt)
      have hget : t.kids[k]? = some t.kids[k] := List.getElem?_eq_getElem hlt
      obtain ⟨vs, hc, hv⟩ := hr.get hget
      have HV := Lib.hid hv
      obtain ⟨s1, rfl, hs1⟩ := hv.vals
      obtain ⟨sa, sc, rfl, _⟩ := hs1.slice
      have hBW := HB1.out.trans (hO.out.2.mono HB1.out.size)
      have hcW := hc.below hBW
      have k0 : wr.cell? ⟨b, o + k * 4, none⟩ = some (.int .u8 t.kids[k].kind) := hcW 0 _ rfl
      have k1 := hcW 1 _ rfl
      have k2 := hcW 2 _ rfl
      have k3 := hcW 3 _ rfl
      have t0 := (hO.out.2.cell (p := ⟨W.heap.size, 0, none⟩) (by rw [HZ.out]; exact Nat.lt_succ_self _)).trans HBOX.out.1
      have t1 := (hO.out.2.cell (p := ⟨W.heap.size, 1, none⟩) (by rw [HZ.out]; exact Nat.lt_succ_self _)).trans HBOX.out.2.1
      have t3 := (hO.out.2.cell (p := ⟨W.heap.size, 3, none⟩) (by rw [HZ.out]; exact Nat.lt_succ_self _)).trans HBOX.out.2.2.2
      have HCALL := Lib.hid (HF11.out t.kids[k] (List.getElem_mem hlt) wr _ HV.out hBW)
      have htk : (t.kids.take (k + 1)).map (tyT numS) = (t.kids.take k).map (tyT numS) ++ [tyT numS t.kids[k]] := by rw [List.take_succ_eq_append_getElem hlt, List.map_append]; rfl
      have HTK := Lib.hid htk
      have HO := hO
      have hkc := HKC.out k hlt
      clear hc hv hs1 hBW hcW htk hr hget hO
      generalize hfk : tyT numS t.kids[k] = fk at *
      go_wp2_with fail
      refine HCALL.out.mono ?_
      rintro e w2 ⟨rfl, hb⟩
      have ho2 : OutV w1 w2 u3 ((t.kids.take k).map (tyT numS)) := HO.out.below hb
      have hlen2 : ((t.kids.take k).map (tyT numS)).length = k := by simp; omega
      have hsw := ho2.2.size
      have hown := ho2.1.alloc (.cells #[.string fk] 9)
      rw [hlen2] at hown
      have HO2 := Lib.hid ho2
      clear ho2 hb HCALL k0 k1 k2 k3 t0 t1 t3
      go_wp2_with (at_builtin; refine wpList_append_own _ rfl _ _ 31 rfl w1.heap.size 9 i (.string { data := #[] }) 1 16 Tryz.underlying31 hi hz2 hz0 hz1 rfl (by decide) _ _ _ rfl hown ⟨w2.heap.size, 0, none⟩ 1 1 [.string fk] rfl rfl (cell_one_new _ _ _) (str_one fk) (by simp only [maxLen]; omega) (by omega) (by simp; omega) ?_; intro v' w3 hown' hgrow hnil)
      have HN : Hid (OutV w1 w3 v' ((t.kids.take (k + 1)).map (tyT numS))) := Lib.hid (by
        rw [HTK.out]
        refine OutV.grown (HO2.out.below ((Below.refl _ _).alloc (Nat.le_refl _) _)) ?_ hgrow
        rw [hlen2]; exact hown')
      clear hown' hgrow hnil hown HO2 HO
      go_wp2
      go_round
      case rel => exact ⟨k + 1, by omega, by simp, HN⟩
      case measure => simp [intOf]; omega

    · obtain rfl : k = t.kids.length := by omega
      rw [List.take_length] at hO
      have t0 := (hO.out.2.cell (p := ⟨W.heap.size, 0, none⟩) (by rw [HZ.out]; exact Nat.lt_succ_self _)).trans HBOX.out.1
      have t1 := (hO.out.2.cell (p := ⟨W.heap.size, 1, none⟩) (by rw [HZ.out]; exact Nat.lt_succ_self _)).trans HBOX.out.2.1
      have t3 := (hO.out.2.cell (p := ⟨W.heap.size, 3, none⟩) (by rw [HZ.out]; exact Nat.lt_succ_self _)).trans HBOX.out.2.2.2
      have HO := hO
      have HJ : Hid (∀ w', Below wr.heap.size wr w' → Calls Tryz.prog 23 #[u3, .string sComma] w' fun e w2 => e = .returned (.string (joinB (t.kids.map (tyT numS)) sComma)) ∧ w2 = w') := Lib.hid fun w' hb => rjoin_ok (sep := sComma) (HO.out.below hb) (by simp; omega) (Nat.le_trans hs1 (by omega))
      have hbs := cell_lt t0
      clear hO
      generalize joinB (t.kids.map (tyT numS)) sComma = J at *
      go_wp2
      go_region_with (go_at_call 23; refine (HJ.out _ ?_).mono ?_; (repeat (first | exact Below.refl _ _ | refine Below.drew ?_)); rintro e w' ⟨rfl, rfl⟩)
      all_goals
        have HB2 := Lib.hid (HW1.out.trans (HO.out.2.mono (by rw [HZ.out]; omega)))
        go_wp2
        go_ret
        refine ⟨congrArg (fun x => Ending.returned (Value.string x)) HE.out.symm, ?_⟩
        repeat (first | exact HB2.out | refine Below.drew ?_)

end Go.Stamp
set_option linter.unusedVariables false
set_option linter.unusedSimpArgs false
set_option maxRecDepth 100000
set_option maxHeartbeats 40000000
namespace Go.Stamp
open Go Go.RowKit Go.Proofs Go.Maps
theorem rty_ok : ∀ (f : Nat) (t : Ty), partsT t < f → f ≤ 4096 → closedT t → fitT 1048576 t → RTyOK t
  | 0, t, h, _, _, _ => by omega
  | f + 1, t, hf, hfm, hg, hfit => by
    have HP : Hid (∀ k (hk : k < t.kids.length), partsT t.kids[k] < f) := Lib.hid fun k hk => by
      have := partsT_le (List.getElem?_eq_getElem hk)
      rw [← partsT_eq] at this
      omega
    have HK : Hid (∀ x ∈ t.kids, RTyOK x ∧ (tyT numS x).size ≤ 1099511627776) := Lib.hid fun x hx => by
      obtain ⟨k, hk, rfl⟩ := List.getElem_of_mem hx
      exact ⟨rty_ok f _ (HP.out k hk) (by omega) (closedL_get (closedT_kids hg) hk) (fitL_get (fitT_kids hfit) hk),
        Nat.le_trans (size_le (M := 0) (fitL_get (fitT_kids hfit) hk) (by have := HP.out k hk; omega)) (by omega)⟩
    by_cases h4 : t.kind = 4
    · exact rty_tup (by omega) hg hfit HK h4
    · have h2 : t.kind = 2 := by have := closedT_kind hg; omega
      by_cases hl0 : t.kids.length = 0
      · exact rty_con0 (by omega) hg hfit HK h2 hl0
      · by_cases hl1 : t.kids.length = 1
        · exact rty_one (by omega) hg hfit HK h2 hl1
        · exact rty_many (by omega) hg hfit HK h2 hl0 hl1
end Go.Stamp
