/- How a datatype is told, and stamp.Text whole, walked. Each says its own conditions. -/
import Derived.Test.YtadbbfmmhimgcaaGreatDoorStE
import Derived.Test.YtadbbfmmhimgcaaGreatDoorStA
import Derived.Test.YtadbbfmmhimgcaaGreatDoorStD
import Derived.Laws.OwnMore
set_option linter.unusedVariables false
set_option linter.unusedSimpArgs false
set_option maxRecDepth 100000
set_option maxHeartbeats 4000000
namespace Go.Stamp
open Go Go.RowKit Go.Proofs Go.Maps
/-- print.con tells a constructor -/
def FnC (F : Con → ByteArray) (W0 : World) (c : Con) : Prop := ∀ (W : World) (vs : List Value), ConV W0 c vs → Below W0.heap.size W0 W → Calls Tryz.prog 36 #[.agg ⟨vs⟩] W fun e w' => e = .returned (.string (F c)) ∧ Below W.heap.size W w'
theorem texts_con {F : Con → ByteArray} {l : List Con} {W0 W : World} {s : Value} {sep : ByteArray} (hs : ConsV W0 l s) (hB : Below W0.heap.size W0 W) (hl : l.length ≤ 1048576) (hF : ∀ t ∈ l, FnC F W0 t) (hsz : (joinB (l.map F) sep).size ≤ 140737488355328) :
    Calls Tryz.prog 35 #[s, .string sep, .func (.func 36) #[] #[]] W fun e w' => e = .returned (.string (joinB (l.map F) sep)) ∧ Below W.heap.size W w' := by
  obtain ⟨a, c, rfl⟩ := hs.slice
  obtain ⟨i, hi, hi2⟩ := Option.map_eq_some_iff.1 i9
  injection hi2 with hz0 hz1
  injection hz1 with hz1 hz2
  have HR := Lib.hid hs
  have HF := Lib.hid hF
  have HB := Lib.hid hB
  have HSZ := Lib.hid hsz
  have hst : OutV W W (.slice none 0 0) ([] : List ByteArray) := ⟨World.ownsRow_nil _ _ _ _, Below.refl _ _⟩
  have HST := Lib.hid hst
  clear hst hs hF hB hsz
  go_enter Tryz.func35, Tryz.ntmps35
  go_wp2
  go_loopw [7, 12] (fun out j wr => ∃ k : Nat, k ≤ l.length ∧ j = .int .i64 k ∧ Hid (OutV W wr out ((l.take k).map F))) (fun _ j _ => l.length - (intOf j).toNat)
  case atStart => exact ⟨0, Nat.zero_le _, rfl, by rw [List.take_zero]; exact HST⟩
  case round =>
    obtain ⟨k, hk, rfl, hO⟩ := hrel
    by_cases hlt : k < l.length
    · obtain ⟨b, o, vs, rfl, hc, hv⟩ := HR.out.get hlt
      have HV := Lib.hid hv
      obtain ⟨ts, rfl, hty⟩ := hv
      obtain ⟨s1, rfl, hs1⟩ := hty.vals
      obtain ⟨sa, sc, rfl, _⟩ := hs1.slice
      have hBW := HB.out.trans (hO.out.2.mono HB.out.size)
      have hcW := hc.below hBW
      have k0 : wr.cell? ⟨b, o + k * 6, none⟩ = some (.string l[k].name) := hcW 0 _ rfl
      have k1 := hcW 1 _ rfl
      have k2 := hcW 2 _ rfl
      have k3 := hcW 3 _ rfl
      have k4 := hcW 4 _ rfl
      have k5 := hcW 5 _ rfl
      have HCALL := Lib.hid (fun obj => HF.out l[k] (List.getElem_mem hlt) (wr.alloc obj) _ HV.out (hBW.alloc hBW.size obj))
      have htk : (l.take (k + 1)).map F = (l.take k).map F ++ [F l[k]] := by rw [List.take_succ_eq_append_getElem hlt, List.map_append]; rfl
      have HTK := Lib.hid htk
      have HO := hO
      clear hc hty hs1 hBW hcW htk
      generalize hfk : F l[k] = fk at *
      go_wp2_with fail
      refine (HCALL.out _).mono ?_
      rintro e w2 ⟨rfl, hb⟩
      have ho2 : OutV W w2 u7 ((l.take k).map F) := (HO.out.below ((Below.refl _ _).alloc (Nat.le_refl _) _)).below hb
      have hlen : ((l.take k).map F).length = k := by simp; omega
      have hsw := ho2.2.size
      have hown := ho2.1.alloc (.cells #[.string fk] 9)
      rw [hlen] at hown
      have HO2 := Lib.hid ho2
      clear ho2 hb HCALL
      go_wp2_with (at_builtin; refine wpList_append_own _ rfl _ _ 31 rfl W.heap.size 9 i (.string { data := #[] }) 1 16 Tryz.underlying31 hi hz2 hz0 hz1 rfl (by decide) _ _ _ rfl hown ⟨w2.heap.size, 0, none⟩ 1 1 [.string fk] rfl rfl (cell_one_new _ _ _) (str_one fk) (by simp only [maxLen]; omega) (by omega) (by simp; omega) ?_; intro v' w3 hown' hgrow hnil)
      have HN : Hid (OutV W w3 v' ((l.take (k + 1)).map F)) := Lib.hid (by
        rw [HTK.out]
        refine OutV.grown (HO2.out.below ((Below.refl _ _).alloc (Nat.le_refl _) _)) ?_ hgrow
        rw [hlen]; exact hown')
      clear hown' hgrow hnil hown HO2 HO
      go_wp2
      go_round
      case rel => exact ⟨k + 1, by omega, by simp, HN⟩
      case measure => simp [intOf]; omega
    · obtain rfl : k = l.length := by omega
      rw [List.take_length] at hO
      have HJ := Lib.hid (hO.out.join (sep := sep) (by simp; omega) HSZ.out)
      have HO := hO
      clear hO
      go_wp2_with fail
      refine HJ.out.mono ?_
      rintro e w2 ⟨rfl, hb⟩
      have HB2 := Lib.hid (HO.out.2.trans (hb.mono HO.out.2.size))
      clear hb
      go_wp2
      go_ret
      exact ⟨rfl, HB2.out⟩
theorem con_ok {c : Con} {W0 : World} (hT : c.has = true → TyOK c.ty) (hTab : TabV W0) (hn : c.name.size ≤ 1048576) (hs : (tyT numS c.ty).size ≤ 1099511627776) : FnC (conT numS) W0 c := by
  intro W vs hv hB
  obtain ⟨ts, rfl, hty⟩ := hv
  have HV := Lib.hid hty
  obtain ⟨s1, rfl, hs1⟩ := hty.vals
  obtain ⟨sa, sc, rfl, _⟩ := hs1.slice
  have HB := Lib.hid hB
  clear hty hs1 hB
  cases hh : c.has with
  | false =>
    have HE : Hid (conT numS c = c.name) := Lib.hid (by unfold conT; rw [hh]; rfl)
    go_enter Tryz.func36, Tryz.ntmps36
    go_wp2
    go_ret
    exact ⟨congrArg (fun x => Ending.returned (Value.string x)) HE.out.symm, (Below.refl _ _).alloc (Nat.le_refl _) _⟩
  | true =>
    have HE : Hid (conT numS c = c.name ++ sOf ++ tyT numS c.ty) := Lib.hid (by unfold conT; rw [hh]; rfl)
    have HC := Lib.hid (fun w hb => hT hh W0 w _ hTab HV.out hb)
    clear hT
    generalize tyT numS c.ty = T at *
    go_enter Tryz.func36, Tryz.ntmps36
    go_wp2
    go_region_with (go_at_call 18; refine (HC.out _ ?_).mono ?_; (repeat (first | exact HB.out | refine Below.drew ?_ | refine Below.alloc ?_ (by have := HB.out.size; simp; omega) _)); rintro e w' ⟨rfl, hb⟩; (have hz := hb.size); (have q0 := hb.cell (p := ⟨W.heap.size, 0, none⟩) (by simp)); simp [go_sem] at q0 hz; (have HBB := Lib.hid hb); clear hb)
    all_goals
      have HBF : Hid (Below W.heap.size W w') := by
        refine Lib.hid (Below.trans ?_ (HBB.out.mono ?_))
        · repeat (first | exact Below.refl _ _ | refine Below.drew ?_ | refine Below.alloc ?_ (by first | omega | (simp; omega) | (simp <;> done)) _)
        · first | omega | (simp; omega) | (simp; done)
      go_wp2
      go_ret
      refine ⟨congrArg (fun x => Ending.returned (Value.string x)) HE.out.symm, ?_⟩
      repeat (first | exact HBF.out | refine Below.drew ?_)
theorem vars_ok {l : List ByteArray} {W0 W : World} {s : Value} (hs : StrsV W0 l s) (hB : Below W0.heap.size W0 W) (hl : l.length ≤ 1048576) (hsz : (joinB l sComma).size ≤ 1099511627776) :
    Calls Tryz.prog 37 #[s] W fun e w' => e = .returned (.string (varsT l)) ∧ Below W.heap.size W w' := by
  obtain ⟨a, c, rfl, hr, hcap⟩ := hs
  by_cases h0 : l.length = 0
  · have HE : Hid (varsT l = { data := #[] }) := Lib.hid (by unfold varsT; rw [if_pos h0])
    rw [h0]
    go_enter Tryz.func37, Tryz.ntmps37
    go_wp2
    go_ret
    exact ⟨congrArg (fun x => Ending.returned (Value.string x)) HE.out.symm, Below.refl _ _⟩
  · have HE : Hid (varsT l = roundT (joinB l sComma) (decide (1 < l.length)) ++ sBlank) := Lib.hid (by unfold varsT; rw [if_neg h0])
    obtain ⟨b, o, rfl, hg⟩ := hr (by intro e; simp [e] at h0)
    have hJ := Any.strings_Join Tryz.laysJoin Tryz.joinExtra b o c l sComma W (fun j x hj => by
      obtain ⟨vs, hc, hv⟩ := hg j x hj
      cases hv
      have := (hc.below hB) 0 _ rfl
      simpa using this) (by
      obtain ⟨vs, hc, hv⟩ := hg 0 l[0] (List.getElem?_eq_getElem (by omega))
      cases hv
      exact cell_lt ((hc.below hB) 0 _ rfl)) (by omega) hcap (by
        have : (joinB l sComma).size = (Lib.join (l.map (·.data.toList)) sComma.data.toList).length := by
          unfold joinB
          show (Lib.join (l.map (·.data.toList)) sComma.data.toList).toArray.size = _
          rw [List.size_toArray]
        omega)
    rw [Tryz.join20] at hJ
    have HJ : Hid (Calls Tryz.prog 20 #[.slice (some ⟨b, o, none⟩) l.length c, .string sComma] W fun e w' => e = .returned (.string (joinB l sComma)) ∧ Below W.heap.size W w') := Lib.hid hJ
    have hdec : decide ((1 : Int) < (l.length : Int)) = decide (1 < l.length) := decide_eq_decide.2 (by omega)
    have HRD : Hid (∀ w, Calls Tryz.prog 32 #[.string (joinB l sComma), .bool (decide ((1 : Int) < (l.length : Int)))] w fun e w' => e = .returned (.string (roundT (joinB l sComma) (decide (1 < l.length)))) ∧ w' = w) := Lib.hid (fun w => by rw [hdec]; exact round_ok (joinB l sComma) (decide (1 < l.length)) w hsz)
    clear hdec
    have hrs := round_size (joinB l sComma) (decide (1 < l.length))
    generalize roundT (joinB l sComma) (decide (1 < l.length)) = R at *
    generalize joinB l sComma = J at *
    have e0 : ((l.length : Int) == 0) = false := by simpa using h0
    clear hJ hr hg hB
    go_enter Tryz.func37, Tryz.ntmps37
    go_wp2_with fail
    refine HJ.out.mono ?_
    rintro e w2 ⟨rfl, hb⟩
    have HB2 := Lib.hid hb
    clear hb
    go_wp2_with fail
    refine (HRD.out _).mono ?_
    rintro e w3 ⟨rfl, rfl⟩
    go_wp2
    go_ret
    exact ⟨congrArg (fun x => Ending.returned (Value.string x)) HE.out.symm, HB2.out⟩
end Go.Stamp
set_option linter.unusedVariables false
set_option linter.unusedSimpArgs false
set_option maxRecDepth 100000
set_option maxHeartbeats 4000000
namespace Go.Stamp
open Go Go.RowKit Go.Proofs Go.Maps
theorem decb_parts {M : Nat} {d : Dec} (h : DecB M d) {c : Con} (hc : c ∈ d.cons) : partsT c.ty < 2000 := by
  obtain ⟨k, hk, rfl⟩ := List.getElem_of_mem hc
  have := partsT_le (l := d.cons.map (·.ty)) (i := k) (t := d.cons[k].ty) (by rw [List.getElem?_map, List.getElem?_eq_getElem hk]; rfl)
  have := h.parts
  omega
theorem decb_many {M : Nat} {d : Dec} (h : DecB M d) : d.cons.length ≤ 2000 := by
  have := partsN_eq (d.cons.map (·.ty))
  have h2 := h.parts
  rw [List.length_map] at this
  omega
theorem cons_join {d : Dec} (h : DecB 1048576 d) : (joinB (d.cons.map (conT numS)) sBar).size ≤ 8589934592 := by
  have h1 := consT_size (numT := numS) numS_size d.cons h.cons
  have h2 := joinB_le (l := d.cons.map (conT numS)) (sep := sBar) (k := 3) (Nat.le_refl _)
  have h3 : (1048576 + 64) * (2 * partsN (d.cons.map (·.ty))) ≤ (1048576 + 64) * 4000 := Nat.mul_le_mul_left _ (by have := h.parts; omega)
  omega
theorem vars_join {d : Dec} (h : DecB 1048576 d) : (joinB d.vars sComma).size ≤ 4294967296 := by
  have j := joinB_le (l := d.vars) (sep := sComma) (k := 2) (by decide)
  have s := sum_map_le (l := d.vars) (f := fun x => x.size + 2) (g := fun _ => 1048576 + 64) fun x hx => by have := h.vars x hx; omega
  rw [sum_const] at s
  have m := Nat.mul_le_mul_left (1048576 + 64) h.many
  omega
theorem varsT_size {d : Dec} (h : DecB 1048576 d) : (varsT d.vars).size ≤ 4294967299 := by
  unfold varsT
  split
  · exact Nat.zero_le _
  · rw [size_append]
    have r := round_size (joinB d.vars sComma) (decide (1 < d.vars.length))
    have := vars_join h
    show _ + 1 ≤ _
    omega
/-- print.Dec tells a datatype -/
theorem dec_ok {d : Dec} {W0 : World} (hk : d.kind = 1) (hb : DecB 1048576 d) (hg : ∀ c ∈ d.cons, c.has = true → goodT c.ty) (hTab : TabV W0) (W : World) (vs : List Value) (hv : DecV W0 d vs) (hB : Below W0.heap.size W0 W) :
    Calls Tryz.prog 19 #[.agg ⟨vs⟩] W fun e w' => e = .returned (.string (decT numS d)) ∧ Below W.heap.size W w' := by
  obtain ⟨sv, sc, R, rfl, hsv, hsc⟩ := hv
  obtain ⟨va, vc, rfl⟩ := hsv.slice
  obtain ⟨ca, cc, rfl⟩ := hsc.slice
  have hF : ∀ c ∈ d.cons, FnC (conT numS) W0 c := fun c hc => con_ok (fun hh => ty_ok 4096 c.ty (by have := decb_parts hb hc; omega) (Nat.le_refl _) (hg c hc hh) (hb.cons c hc).2) hTab (hb.cons c hc).1 (Nat.le_trans (size_le (M := 0) (hb.cons c hc).2 (by have := decb_parts hb hc; omega)) (by omega))
  have hj := cons_join hb
  have hvs := varsT_size hb
  have hcm := decb_many hb
  have hnm := hb.name
  have HC := Lib.hid (fun w (hbw : Below W0.heap.size W0 w) => texts_con (W := w) hsc hbw (by omega) hF (sep := sBar) (by omega))
  have HV := Lib.hid (fun w (hbw : Below W0.heap.size W0 w) => vars_ok (W := w) hsv hbw (by have := hb.many; omega) (by have := vars_join hb; omega))
  have HE : Hid (decT numS d = sData ++ varsT d.vars ++ d.name ++ sIs ++ joinB (d.cons.map (conT numS)) sBar) := Lib.hid rfl
  have HB := Lib.hid hB
  clear hF hsv hsc hg hTab hB hb
  generalize joinB (d.cons.map (conT numS)) sBar = J at *
  generalize varsT d.vars = V at *
  rw [hk]
  have HC2 := Lib.hid (fun obj => HC.out _ (HB.out.alloc HB.out.size obj))
  clear HC
  go_enter Tryz.func19, Tryz.ntmps19
  go_wp2_with fail
  refine (HC2.out _).mono ?_
  rintro e w2 ⟨rfl, hb⟩
  have hz := hb.size
  have q0 := hb.cell (p := ⟨W.heap.size, 0, none⟩) (by simp)
  have q1 := hb.cell (p := ⟨W.heap.size, 1, none⟩) (by simp)
  have q2 := hb.cell (p := ⟨W.heap.size, 2, none⟩) (by simp)
  simp [go_sem, Rest.vals] at q0 q1 q2 hz
  have HBB := Lib.hid (((Below.refl W.heap.size W).alloc (Nat.le_refl _) _).trans (hb.mono (by simp)))
  have HB2 := Lib.hid (HB.out.trans (HBB.out.mono HB.out.size))
  clear hb
  go_wp2
  go_region_with (go_at_call 37; refine (HV.out _ ?_).mono ?_; (repeat (first | exact HB2.out | refine Below.drew ?_)); rintro e w' ⟨rfl, hb⟩; (have hz' := hb.size); (have q0' := hb.cell (p := ⟨W.heap.size, 0, none⟩) (by simp; omega)); (have q1' := hb.cell (p := ⟨W.heap.size, 1, none⟩) (by simp; omega)); (have q2' := hb.cell (p := ⟨W.heap.size, 2, none⟩) (by simp; omega)); simp [go_sem, q0, q1, q2] at q0' q1' q2' hz'; (have HBC := Lib.hid hb); clear hb)
  all_goals
    have HBF : Hid (Below W.heap.size W w') := by
      refine Lib.hid (Below.trans ?_ (HBC.out.mono ?_))
      · repeat (first | exact HBB.out | refine Below.drew ?_)
      · first | omega | (simp; omega) | (simp; done)
    go_wp2
    go_ret
    refine ⟨congrArg (fun x => Ending.returned (Value.string x)) HE.out.symm, ?_⟩
    repeat (first | exact HBF.out | refine Below.drew ?_)
end Go.Stamp
set_option linter.unusedVariables false
set_option linter.unusedSimpArgs false
/-! Plain laws: what is come to may be told -/
namespace Go.Stamp
open Go
variable {ownN : ByteArray → Option Nat}
mutual
theorem come_prefix {D : List Dec} {vars : List ByteArray} : ∀ (t : Ty) {row r : List Dec}, come ownN D vars t row = some r → row <+: r
  | .mk kind name num kids, row, r, h => by
    rw [come] at h
    split at h
    · split at h
      · exact comes_prefix kids h
      · cases h
    · split at h
      · split at h
        · cases h
        · exact comes_prefix kids h
      · split at h
        · split at h
          · exact (note_prefix _ _ _).trans (comes_prefix kids h)
          · cases h
        · cases h
theorem comes_prefix {D : List Dec} {vars : List ByteArray} : ∀ (l : List Ty) {row r : List Dec}, comes ownN D vars l row = some r → row <+: r
  | [], row, r, h => by
    rw [comes] at h
    injection h with h
    rw [h]
    exact List.prefix_rfl
  | t :: ts, row, r, h => by
    rw [comes] at h
    obtain ⟨r1, h1, h2⟩ := Option.bind_eq_some_iff.1 h
    exact (come_prefix t h1).trans (comes_prefix ts h2)
end
theorem consL_prefix {D : List Dec} {vars : List ByteArray} : ∀ (l : List Con) {row r : List Dec}, consL ownN D vars l row = some r → row <+: r
  | [], row, r, h => by
    rw [consL] at h
    injection h with h
    rw [h]
    exact List.prefix_rfl
  | c :: cs, row, r, h => by
    rw [consL] at h
    split at h
    · obtain ⟨r1, h1, h2⟩ := Option.bind_eq_some_iff.1 h
      exact (come_prefix _ h1).trans (consL_prefix cs h2)
    · exact consL_prefix cs h
theorem goRow_prefix {D : List Dec} : ∀ (f i : Nat) {row r : List Dec}, goRow ownN D f i row = some r → row <+: r
  | 0, i, row, r, h => by
    rw [goRow] at h
    injection h with h
    rw [h]
    exact List.prefix_rfl
  | f + 1, i, row, r, h => by
    by_cases hi : i < row.length
    · rw [goRow_step hi] at h
      obtain ⟨r1, h1, h2⟩ := Option.bind_eq_some_iff.1 h
      exact (consL_prefix _ h1).trans (goRow_prefix f (i + 1) h2)
    · rw [goRow_end (by omega)] at h
      injection h with h
      rw [h]
      exact List.prefix_rfl
theorem goRow_good {D : List Dec} : ∀ (f i : Nat) {row r : List Dec}, goRow ownN D f i row = some r → ∀ j (hj : j < r.length), i ≤ j → j < i + f → ∀ c ∈ r[j].cons, c.has = true → goodT c.ty
  | 0, i, row, r, h, j, hj, h1, h2 => by omega
  | f + 1, i, row, r, h, j, hj, h1, h2 => by
    by_cases hi : i < row.length
    · have hp := goRow_prefix (f + 1) i h
      rw [goRow_step hi] at h
      obtain ⟨r1, h3, h4⟩ := Option.bind_eq_some_iff.1 h
      by_cases e : j = i
      · subst e
        have := hp.getElem hi
        rw [← this]
        exact consL_good _ h3
      · exact goRow_good f (i + 1) h4 j hj (by omega) (by omega)
    · rw [goRow_end (by omega)] at h
      injection h with h
      subst h
      omega
theorem allOf_good {D : List Dec} {t : Ty} {r : List Dec} (h : allOf ownN D t = some r) (hl : r.length ≤ D.length) : goodT t ∧ ∀ d ∈ r, ∀ c ∈ d.cons, c.has = true → goodT c.ty := by
  unfold allOf at h
  obtain ⟨r1, h1, h2⟩ := Option.bind_eq_some_iff.1 h
  refine ⟨come_good t h1, fun d hd => ?_⟩
  obtain ⟨j, hj, rfl⟩ := List.getElem_of_mem hd
  exact goRow_good _ 0 h2 j hj (Nat.zero_le _) (by omega)
/-- what a type's text is, or why there is none -/
def textR (ownN : ByteArray → Option Nat) (numT : Int → ByteArray) (D : List Dec) (t : Ty) : ByteArray × Int :=
  match allOf ownN D t with
  | none => ({ data := #[] }, 13)
  | some row => if 200 < (textT numT t row).size then ({ data := #[] }, 16) else (textT numT t row, 0)
end Go.Stamp
set_option linter.unusedVariables false
set_option linter.unusedSimpArgs false
set_option maxRecDepth 100000
set_option maxHeartbeats 4000000
namespace Go.Stamp
open Go Go.RowKit Go.Proofs Go.Maps
mutual
theorem fit_ok {M : Nat} (hM : M ≤ maxLen) : ∀ (t : Ty), fitT M t → okT t
  | .mk _ name num kids, h => by
    rw [fitT] at h
    rw [okT]
    exact ⟨Nat.le_trans h.1 hM, fitL_ok hM kids h.2.2⟩
theorem fitL_ok {M : Nat} (hM : M ≤ maxLen) : ∀ (l : List Ty), fitL M l → okL l
  | [], h => by rw [okL]; trivial
  | t :: ts, h => by
    rw [fitL] at h
    rw [okL]
    exact ⟨fit_ok hM t h.1, fitL_ok hM ts h.2⟩
end
theorem ws_start {W w1 : World} {D : List Dec} {dv : Value} {pb m : Nat} (hb : Below W.heap.size W w1) (hpb : W.heap.size ≤ pb) (hm : W.heap.size ≤ m) (hblk : w1.heap[pb]? = some (.cells #[dv, .map (some m), .slice none 0 0] 55 (0, 0)))
    (hseen : w1.ownsMap Tryz.prog 9 (unitElem (H := Unit)) m 0 (.map [])) : WS W w1 D [] dv pb m (.slice none 0 0) [] :=
  ⟨hb, hpb, hm, hblk, hseen, World.ownsRow_nil _ _ _ _, fun i hi => absurd hi (Nat.not_lt_zero _), fun h => (by cases h), fun d hd => (by cases hd), List.nodup_nil⟩
theorem kept_box {pb m b : Nat} {w w' : World} {cs : Array Value} {T : TypeId} {fr : Nat × Nat} (hk : Kept pb m w w') (hb : w.heap[b]? = some (.cells cs T fr)) (hT : T ≠ 39) (h1 : b ≠ pb) (h2 : b ≠ m) : w'.heap[b]? = some (.cells cs T fr) :=
  (hk.2 b (Array.getElem?_eq_some_iff.1 hb).1 h1 h2 fun cs' fr' e => by rw [hb] at e; injection e with e; injection e with _ e; exact hT e).trans hb
theorem box_cells {w : World} {b : Nat} {x0 x1 x2 x3 : Value} {T : TypeId} {fr : Nat × Nat} (h : w.heap[b]? = some (.cells ⟨[x0, x1, x2, x3]⟩ T fr)) : w.cell? ⟨b, 0, none⟩ = some x0 ∧ w.cell? ⟨b, 1, none⟩ = some x1 ∧ w.cell? ⟨b, 2, none⟩ = some x2 ∧ w.cell? ⟨b, 3, none⟩ = some x3 := by
  simp [World.cell?, h]
theorem block_old {w : World} (a b c : Obj) : (((w.alloc a).alloc b).alloc c).heap[w.heap.size]? = some a := by
  have h := (((Below.refl (w.heap.size + 1) (w.alloc a)).alloc (by simp) b).alloc (by first | (simp; done) | (simp; omega)) c).block w.heap.size (Nat.lt_succ_self _)
  rw [h]
  exact heap_alloc_new w a
theorem cut_tail {G : World → Prop} (P : World → Prop) {Goal : Prop} (main : (∀ w, P w → G w) → Goal) (tail : ∀ w, P w → G w) : Goal := main tail
/-- what holds behind the walk of types -/
def TailP (W : World) (D : List Dec) (dv : Value) (pb m : Nat) (t : Ty) (xs0 : List Value) (w3 : World) : Prop :=
  ∃ row rv xs, WS W w3 D row dv pb m rv xs ∧ allOf ownN D t = some row ∧ (∀ i v, xs0[i]? = some v → w3.cell? ⟨W.heap.size, i, none⟩ = some v)
/-- what Text answers -/
def TextP (W : World) (D : List Dec) (t : Ty) (e : Ending) (w' : World) : Prop :=
  e = .returned (.tuple #[.string (textR ownN numS D t).1, .int .i64 (textR ownN numS D t).2]) ∧ Below W.heap.size W w'
theorem text_ok {W : World} {D : List Dec} {dv : Value} {g : Addr} (hD : DecsV W D dv) (hDl : D.length ≤ 1000) (hDb : ∀ d ∈ D, DecB 1048576 d) (h0 : W.cell? ⟨0, 0, none⟩ = some (.iface 224 (.pointer (some g)))) (hTab : TabV W)
    (t : Ty) (ht : partsT t ≤ 2000) (hfit : fitT 1048576 t) (vs : List Value) (hT : TyV W t vs) :
    Calls Tryz.prog 9 #[.agg ⟨vs⟩, dv] W fun e w' => TextP W D t e w' := by
  have hmm := @run_makeMap Tryz.prog
  obtain ⟨da, dc, rfl⟩ := hD.slice
  have HT := Lib.hid hT
  obtain ⟨s, rfl, hs⟩ := hT.vals
  obtain ⟨ka, kc, rfl, _⟩ := hs.slice
  have hok : okT t := fit_ok (by decide) t hfit
  have hcl : ∀ d ∈ D, d.cons.length ≤ 1099511627776 ∧ d.vars.length ≤ 1099511627776 ∧ ∀ c ∈ d.cons, partsT c.ty < 1099511627776 ∧ okT c.ty := fun d hd => ⟨by have := decb_many (hDb d hd); omega, by have := (hDb d hd).many; omega, fun c hc => ⟨by have := decb_parts (hDb d hd) hc; omega, fit_ok (by decide) _ ((hDb d hd).cons c hc).2⟩⟩
  have HALL : Hid (∀ w1, WS W w1 D [] (.slice da D.length dc) (W.heap.size + 2) (W.heap.size + 1) (.slice none 0 0) [] → Calls Tryz.prog 17 #[.pointer (some ⟨W.heap.size + 2, 0, none⟩), .agg #[.int .u8 t.kind, .string t.name, .int .i64 t.num, .slice ka t.kids.length kc]] w1 fun e w' => AllP W w1 D (.slice da D.length dc) (W.heap.size + 2) (W.heap.size + 1) g t e w') :=
    Lib.hid fun w1 hS => all_ok hD (by omega) hcl h0 t (by omega) hok w1 _ _ _ hS HT.out
  have HS0 : Hid (∀ w1, w1 = ((W.alloc (.cells ⟨[.int .u8 t.kind, .string t.name, .int .i64 t.num, .slice ka t.kids.length kc]⟩ 24)).alloc (.map #[] 0)).alloc (.cells #[.slice da D.length dc, .map (some (W.heap.size + 1)), .slice none 0 0] 55) → WS W w1 D [] (.slice da D.length dc) (W.heap.size + 2) (W.heap.size + 1) (.slice none 0 0) []) := by
    refine Lib.hid ?_
    rintro w1 rfl
    refine ws_start (((((Below.refl _ _).alloc (Nat.le_refl _) _)).alloc (by simp) _).alloc (by simp; omega) _) (by omega) (by omega) ?_ ?_
    · have h := heap_alloc_new ((W.alloc (.cells ⟨[.int .u8 t.kind, .string t.name, .int .i64 t.num, .slice ka t.kids.length kc]⟩ 24)).alloc (.map #[] 0)) (.cells #[.slice da D.length dc, .map (some (W.heap.size + 1)), .slice none 0 0] 55)
      have e : ((W.alloc (.cells ⟨[.int .u8 t.kind, .string t.name, .int .i64 t.num, .slice ka t.kids.length kc]⟩ 24)).alloc (.map #[] 0)).heap.size = W.heap.size + 2 := by simp
      rw [e] at h
      exact h
    · have h := World.ownsMap_made (H := Unit) (W.alloc (.cells ⟨[.int .u8 t.kind, .string t.name, .int .i64 t.num, .slice ka t.kids.length kc]⟩ 24)) Tryz.prog 9 (unitElem (H := Unit))
      have h2 := ownsMap_below h ((Below.refl _ _).alloc (Nat.le_refl _) (.cells #[.slice da D.length dc, .map (some (W.heap.size + 1)), .slice none 0 0] 55))
      simpa using h2
  have HD := Lib.hid hD
  have HH0 := Lib.hid h0
  have HTAB := Lib.hid hTab
  have HDB := Lib.hid hDb
  have hgl := cell_lt h0
  clear hD hTab hDb hT hs hcl hok
  go_enter Tryz.func9, Tryz.ntmps9
  go_wp2
  apply cut_tail (TailP W D (.slice da D.length dc) (W.heap.size + 2) (W.heap.size + 1) t [.int .u8 t.kind, .string t.name, .int .i64 t.num, .slice ka t.kids.length kc])
  · intro TAIL
    go_region_with (first
      | (go_at_call 17; refine (HALL.out _ ?_).mono ?_; (first | exact HS0.out _ rfl | exact (HS0.out _ rfl).grow (Below.refl _ _).drew); rintro e w' ⟨v, row, rv, xs, rfl, hws, hk, hen, hor⟩; (have hc0 := hws.cell HH0.out); (have hbx := kept_box hk (block_old _ _ _) (by decide) (by omega) (by omega)); obtain ⟨t0, t1, t2, t3⟩ := box_cells hbx; (have hbl := cell_lt t0); clear hbx; (have HWS := Lib.hid hws); (have HK := Lib.hid hk); (have HEN := Lib.hid hen); (have HOR := Lib.hid hor); clear hws hk hen hor)
      | (go_at_call 16; refine (isN (HEN.out.below (by repeat (first | exact Below.refl _ _ | refine Below.drew ?_)))).mono ?_; rintro e w3 ⟨⟨b, rfl, hbv⟩, rfl⟩; (have HBV := Lib.hid hbv); clear hbv))
    all_goals
      rcases HOR.out with ⟨rfl, hall⟩ | ⟨hne, hall⟩
      case inr =>
        obtain rfl : b = true := by
          cases b with
          | true => rfl
          | false => exact absurd (HBV.out.1 rfl) hne
        have hR : textR ownN numS D t = ({ data := #[] }, 13) := by unfold textR; rw [hall]
        have HR := Lib.hid hR
        clear hR hne hall
        go_wp2
        go_ret2
        refine ⟨congrArg (fun r : ByteArray × Int => Ending.returned (Value.tuple #[.string r.1, .int .i64 r.2])) HR.out.symm, ?_⟩
        repeat (first | exact HWS.out.below | refine Below.drew ?_)
      case inl =>
        obtain rfl : b = false := HBV.out.2 rfl
        refine TAIL _ ⟨row, rv, xs, ?_, hall, ?_⟩
        · first | exact HWS.out | exact HWS.out.grow (Below.refl _ _).drew
        · intro i v hv
          match i, hv with
          | 0, hv => cases hv; exact t0
          | 1, hv => cases hv; exact t1
          | 2, hv => cases hv; exact t2
          | 3, hv => cases hv; exact t3

  · rintro w3 ⟨row, rv, xs, hws, hall, htc⟩
    have t0 := htc 0 _ rfl
    have t1 := htc 1 _ rfl
    have t2 := htc 2 _ rfl
    have t3 := htc 3 _ rfl
    have hbl := cell_lt t0
    have HWS := Lib.hid hws
    have HALLO := Lib.hid hall
    clear hws hall htc
    obtain ⟨hgt, hgd⟩ := allOf_good HALLO.out HWS.out.len
    have htx : textR ownN numS D t = if 200 < (textT numS t row).size then ({ data := #[] }, 16) else (textT numS t row, 0) := by unfold textR; rw [HALLO.out]
    have HTX := Lib.hid htx
    have HDEC : Hid (∀ d ∈ row, ∀ w' vs, DecV W d vs → Below W.heap.size W w' → Calls Tryz.prog 19 #[.agg ⟨vs⟩] w' fun e w2 => e = .returned (.string (decT numS d)) ∧ Below w'.heap.size w' w2) := Lib.hid fun d hd w' vs hv hb => by
      obtain ⟨hdD, _, hdk⟩ := find_mem (HWS.out.source d hd)
      exact dec_ok hdk (HDB.out d hdD) (hgd d hd) HTAB.out w' vs hv hb
    have HTY : Hid (∀ w', Below W.heap.size W w' → Calls Tryz.prog 18 #[.agg #[.int .u8 t.kind, .string t.name, .int .i64 t.num, .slice ka t.kids.length kc]] w' fun e w2 => e = .returned (.string (tyT numS t)) ∧ Below w'.heap.size w' w2) := Lib.hid fun w' hb => ty_ok 4096 t (by omega) (Nat.le_refl _) hgt hfit W w' _ HTAB.out HT.out hb
    have hsz : (textT numS t row).size ≤ 140737488355328 := by
      have h1 := textT_size (numT := numS) numS_size hfit (row := row) fun d hd => HDB.out d (find_mem (HWS.out.source d hd)).1
      have h2 : (1048576 + 64) * (partsT t + 1) ≤ (1048576 + 64) * 2001 := Nat.mul_le_mul_left _ (by omega)
      have h3 : (1048576 + 64) * 10000 * row.length ≤ (1048576 + 64) * 10000 * 1000 := Nat.mul_le_mul_left _ (by have := HWS.out.len; omega)
      omega
    clear hgt hgd htx
    have HRV := Lib.hid (HWS.out.rows)
    go_wp2_with fail
    refine (HTY.out _ HWS.out.below).mono ?_
    rintro e w4 ⟨rfl, hb4⟩
    have hW4 := HWS.out.grow hb4
    have hB4 := HWS.out.below.trans (hb4.mono HWS.out.below.size)
    have HB4 := Lib.hid hB4
    have HW4 := Lib.hid hW4
    obtain ⟨f0, f1, f2, f3, f4⟩ := hW4.c0
    obtain ⟨ra, rc, rfl⟩ : ∃ ra rc, rv = .slice ra row.length rc := by
      rcases hW4.rows.2 with ⟨h, h0⟩ | ⟨g, cap, cur, h1, _⟩
      · exact ⟨none, 0, by rw [h, h0]⟩
      · exact ⟨_, _, h1⟩
    have hrl := hW4.len
    have HST : Hid (OutV w4 (w4.alloc (.cells #[.string (tyT numS t)] 9)) (.slice (some ⟨w4.heap.size, 0, none⟩) 1 1) [tyT numS t]) := Lib.hid ⟨World.ownsRow_lit w4 #[.string (tyT numS t)] 1 (Nat.le_refl _) (by decide) rfl, (Below.refl _ _).alloc (Nat.le_refl _) _⟩
    obtain ⟨i, hi, hi2⟩ := Option.map_eq_some_iff.1 i9
    injection hi2 with hz0 hz1
    injection hz1 with hz1 hz2
    have htt : textT numS t row = joinB (tyT numS t :: row.map (decT numS)) sSemi := rfl
    have HTT := Lib.hid htt
    generalize tyT numS t = ts at *
    clear hB4 hW4 hb4 t0 t1 t2 t3 HRV htt
    go_wp2
    go_loopw [7, 28] (fun out j wr => ∃ k : Nat, k ≤ row.length ∧ j = .int .i64 k ∧ Hid (OutV w4 wr out (ts :: (row.take k).map (decT numS)))) (fun _ j _ => row.length - (intOf j).toNat)
    case atStart => exact ⟨0, Nat.zero_le _, rfl, by rw [List.take_zero]; exact HST⟩
    case round =>
      obtain ⟨k, hk, rfl, hO⟩ := hrel
      by_cases hlt : k < row.length
      · have hWr := HW4.out.grow hO.out.2
        obtain ⟨g', cap', ds, hrv, hdl, hcells, hdec⟩ := hWr.get hlt
        cases hrv
        have HDV := Lib.hid hdec
        obtain ⟨sv, sc, R, rfl, hsv, hsc⟩ := hdec
        obtain ⟨va, vc, rfl⟩ := hsv.slice
        obtain ⟨ca, cc, rfl⟩ := hsc.slice
        have c0 : wr.cell? ⟨g', k * 16, none⟩ = some (.int .u8 row[k].kind) := hcells 0 _ rfl
        have c1 := hcells 1 _ rfl
        have c2 := hcells 2 _ rfl
        have c3 := hcells 3 _ rfl
        have c4 := hcells 4 _ rfl
        have c5 := hcells 5 _ rfl
        have c6 := hcells 6 _ rfl
        have c7 := hcells 7 _ rfl
        have c8 := hcells 8 _ rfl
        have c9 := hcells 9 _ rfl
        have c10 := hcells 10 _ rfl
        have c11 := hcells 11 _ rfl
        have c12 := hcells 12 _ rfl
        have c13 := hcells 13 _ rfl
        have c14 := hcells 14 _ rfl
        have c15 := hcells 15 _ rfl
        have HCALL := Lib.hid (fun obj => HDEC.out row[k] (List.getElem_mem hlt) (wr.alloc obj) _ HDV.out (hWr.below.alloc hWr.below.size obj))
        have htk : (row.take (k + 1)).map (decT numS) = (row.take k).map (decT numS) ++ [decT numS row[k]] := by rw [List.take_succ_eq_append_getElem hlt, List.map_append]; rfl
        have HTK := Lib.hid htk
        have HO := hO
        clear hO hcells hsv hsc hdl htk hWr
        generalize decT numS row[k] = fk at *
        go_wp2_with fail
        refine (HCALL.out _).mono ?_
        rintro e w5 ⟨rfl, hb⟩
        have ho2 : OutV w4 w5 u7 (ts :: (row.take k).map (decT numS)) := (HO.out.below ((Below.refl _ _).alloc (Nat.le_refl _) _)).below hb
        have hlen : (ts :: (row.take k).map (decT numS)).length = k + 1 := by simp; omega
        have hsw := ho2.2.size
        have hown := ho2.1.alloc (.cells #[.string fk] 9)
        rw [hlen] at hown
        have HO2 := Lib.hid ho2
        clear ho2 hb HCALL c0 c1 c2 c3 c4 c5 c6 c7 c8 c9 c10 c11 c12 c13 c14 c15
        go_wp2_with (at_builtin; refine wpList_append_own _ rfl _ _ 31 rfl w4.heap.size 9 i (.string { data := #[] }) 1 16 Tryz.underlying31 hi hz2 hz0 hz1 rfl (by decide) _ _ _ rfl hown ⟨w5.heap.size, 0, none⟩ 1 1 [.string fk] rfl rfl (cell_one_new _ _ _) (str_one fk) (by simp only [maxLen]; omega) (by omega) (by simp; omega) ?_; intro v' w6 hown' hgrow hnil)
        have HN : Hid (OutV w4 w6 v' (ts :: (row.take (k + 1)).map (decT numS))) := Lib.hid (by
          rw [HTK.out, ← List.cons_append]
          refine OutV.grown (HO2.out.below ((Below.refl _ _).alloc (Nat.le_refl _) _)) ?_ hgrow
          rw [hlen]; exact hown')
        clear hown' hgrow hnil hown HO2 HO
        go_wp2
        go_round
        case rel => exact ⟨k + 1, by omega, by simp, HN⟩
        case measure => simp [intOf]; omega
      · obtain rfl : k = row.length := by omega
        rw [List.take_length] at hO
        rw [HTT.out] at hsz HTX
        have HJ := Lib.hid (hO.out.join (sep := sSemi) (by simp; omega) hsz)
        have HO := hO
        clear hO HTT
        generalize joinB (ts :: row.map (decT numS)) sSemi = J at *
        go_wp2_with fail
        refine HJ.out.mono ?_
        rintro e w5 ⟨rfl, hb⟩
        have HB2 := Lib.hid (HB4.out.trans ((HO.out.2.trans (hb.mono HO.out.2.size)).mono HB4.out.size))
        clear hb
        by_cases h200 : 200 < J.size
        · rw [if_pos h200] at HTX
          go_wp2
          go_ret2
          exact ⟨congrArg (fun r : ByteArray × Int => Ending.returned (Value.tuple #[.string r.1, .int .i64 r.2])) HTX.out.symm, HB2.out⟩
        · rw [if_neg h200] at HTX
          go_wp2
          go_ret2
          exact ⟨congrArg (fun r : ByteArray × Int => Ending.returned (Value.tuple #[.string r.1, .int .i64 r.2])) HTX.out.symm, HB2.out⟩

end Go.Stamp
set_option linter.unusedVariables false
set_option linter.unusedSimpArgs false
set_option maxRecDepth 100000
set_option maxHeartbeats 4000000
namespace Go.Stamp
open Go Go.RowKit Go.Proofs Go.Maps
/-! ## large: more than a statement goes through? -/
theorem sl_one {W0 W1 : World} {t : Ty} {vs : List Value} (h : TyV W0 t vs) (hB : Below W0.heap.size W0 W1) : SlV (W1.alloc (.cells vs.toArray 24)) [t] (.slice (some ⟨W1.heap.size, 0, none⟩) 1 1) := by
  rw [SlV]
  refine ⟨W1.heap.size, 0, 1, rfl, ⟨vs, ?_, h.below (hB.alloc hB.size _)⟩, by rw [RowV]; trivial⟩
  intro j v hj
  have e := heap_alloc_new W1 (.cells vs.toArray 24)
  simp only [World.cell?, e]
  simpa using hj
/-- how many parts a declaration counts -/
def decN (d : Dec) : Nat := d.vars.length + partsN (d.cons.map (·.ty))
def sumD (l : List Dec) : Nat := (l.map decN).sum
theorem sumD_take {l : List Dec} {k : Nat} (hk : k < l.length) : sumD (l.take (k + 1)) = sumD (l.take k) + decN l[k] := by
  rw [List.take_succ_eq_append_getElem hk]; simp only [sumD, List.map_append, List.sum_append, List.map_cons, List.map_nil, List.sum_cons, List.sum_nil]; omega
theorem sumD_le {l : List Dec} (h : ∀ d ∈ l, decN d ≤ 1099511627000) (k : Nat) : sumD (l.take k) ≤ 1099511627000 * k := by
  have := sum_map_le (l := l.take k) (f := decN) (g := fun _ => 1099511627000) fun d hd => h d (List.mem_of_mem_take hd)
  rw [sum_const] at this
  refine Nat.le_trans this (Nat.mul_le_mul_left _ ?_)
  rw [List.length_take]; omega
theorem decN_le {l : List Dec} {k : Nat} {d : Dec} (hd : d ∈ l.take k) : decN d ≤ sumD (l.take k) := by
  generalize l.take k = m at *
  induction m with
  | nil => cases hd
  | cons x m ih =>
    simp only [sumD, List.map_cons, List.sum_cons] at ih ⊢
    rcases List.mem_cons.1 hd with rfl | h
    · omega
    · have := ih h; omega
theorem partsN_take {l : List Con} {k : Nat} (hk : k < l.length) : partsN ((l.take (k + 1)).map (·.ty)) = partsN ((l.take k).map (·.ty)) + (1 + partsT l[k].ty) := by
  rw [List.take_succ_eq_append_getElem hk, List.map_append, partsN_eq, partsN_eq, sumT_app, List.length_append]
  simp only [List.map_cons, List.map_nil, sumT, List.sum_cons, List.sum_nil, List.length_cons, List.length_nil]
  omega
theorem partsN_takele (l : List Con) (k : Nat) : partsN ((l.take k).map (·.ty)) ≤ partsN (l.map (·.ty)) := by
  have : l.map (·.ty) = (l.take k).map (·.ty) ++ (l.drop k).map (·.ty) := by rw [← List.map_append, List.take_append_drop]
  rw [this, partsN_eq, partsN_eq, sumT_app, List.length_append]
  omega
/-- what holds where a case is not large -/
def NotLarge (t : Ty) (D : List Dec) : Prop := partsT t ≤ 2000 ∧ D.length ≤ 60 ∧ ∀ d ∈ D, decN d ≤ 2000
/-- what large answers -/
def LargeP (W : World) (t : Ty) (D : List Dec) (e : Ending) (w' : World) : Prop := (∃ b, e = .returned (.bool b) ∧ (b = false → NotLarge t D)) ∧ Below W.heap.size W w'
theorem large_ok {W : World} {D : List Dec} {dv : Value} (hD : DecsV W D dv) (hDl : D.length ≤ 1099511627776) (hDn : ∀ d ∈ D, decN d ≤ 1099511627000 ∧ d.cons.length ≤ 1099511627776) (t : Ty) (ht : partsT t ≤ 1099511627000) (vs : List Value) (hT : TyV W t vs) :
    Calls Tryz.prog 7 #[.agg ⟨vs⟩, dv] W fun e w' => LargeP W t D e w' := by
  obtain ⟨da, dc, rfl⟩ := hD.slice
  have HT := Lib.hid hT
  obtain ⟨s, rfl, hs⟩ := hT.vals
  obtain ⟨ka, kc, rfl, _⟩ := hs.slice
  have HD := Lib.hid hD
  have HDN := Lib.hid hDn
  have HC : Hid (∀ w1 n, Below W.heap.size W w1 → n = w1.heap.size → Calls Tryz.prog 15 #[.slice (some ⟨n, 0, none⟩) 1 1] (w1.alloc (.cells #[.int .u8 t.kind, .string t.name, .int .i64 t.num, .slice ka t.kids.length kc] 24)) fun e w' => e = .returned (.int .i64 ((1 + partsT t : Nat) : Int)) ∧ w' = w1.alloc (.cells #[.int .u8 t.kind, .string t.name, .int .i64 t.num, .slice ka t.kids.length kc] 24)) :=
    Lib.hid fun w1 n hb hn => by
      subst hn
      have h := parts_ok 1099511627776 [t] (by rw [partsN_cons, partsN_nil]; omega) (Nat.le_refl _) _ _ (sl_one HT.out hb)
      rw [partsN_cons, partsN_nil] at h
      exact h
  clear hD hs hT hDn
  go_enter Tryz.func7, Tryz.ntmps7
  go_wp2_with fail
  refine (HC.out _ _ ((Below.refl _ _).alloc (Nat.le_refl _) _) (by simp)).mono ?_
  rintro e w2 ⟨rfl, rfl⟩
  have hbx : Below W.heap.size W ((W.alloc (.cells ⟨[.int .u8 t.kind, .string t.name, .int .i64 t.num, .slice ka t.kids.length kc]⟩ 24)).alloc (.cells #[.int .u8 t.kind, .string t.name, .int .i64 t.num, .slice ka t.kids.length kc] 24)) := ((Below.refl _ _).alloc (Nat.le_refl _) _).alloc (by simp) _
  have HBX := Lib.hid hbx
  clear hbx
  generalize ((W.alloc (.cells ⟨[.int .u8 t.kind, .string t.name, .int .i64 t.num, .slice ka t.kids.length kc]⟩ 24)).alloc (.cells #[.int .u8 t.kind, .string t.name, .int .i64 t.num, .slice ka t.kids.length kc] 24)) = w2 at *
  have hsum := sumD_le fun d hd => (HDN.out d hd).1
  have HS := Lib.hid hsum
  clear hsum
  go_wp2
  go_loopw [5, 6] (fun n i wr => ∃ k : Nat, k ≤ D.length ∧ k ≤ 61 ∧ i = .int .i64 k ∧ n = .int .i64 ((1 : Int) + (partsT t : Int) + (sumD (D.take k) : Int)) ∧ Hid (Below W.heap.size W wr)) (fun _ i _ => D.length - (intOf i).toNat)
  case atStart => exact ⟨0, Nat.zero_le _, Nat.zero_le _, rfl, by simp [sumD], HBX⟩
  case round =>
    obtain ⟨k, hk, hk60, rfl, rfl, hb⟩ := hrel
    by_cases hlt : k < D.length
    · by_cases hle : k ≤ 60
      · obtain ⟨b, o, vs, rfl, hc, sv, sc, R, rfl, hsv, hsc⟩ := HD.out.get hlt
        obtain ⟨va, vc, rfl⟩ := hsv.slice
        obtain ⟨ca, cc, rfl⟩ := hsc.slice
        have HSC := Lib.hid hsc
        have hcW := hc.below hb.out
        have c2 : wr.cell? ⟨b, o + k * 16 + 2, none⟩ = some (.slice va D[k].vars.length vc) := hcW 2 _ rfl
        have c3 : wr.cell? ⟨b, o + k * 16 + 3, none⟩ = some (.slice ca D[k].cons.length cc) := hcW 3 _ rfl
        have HCW := Lib.hid hc
        have hsk := sumD_take hlt
        have hSk := HS.out k
        obtain ⟨hdn, hcl⟩ := HDN.out D[k] (List.getElem_mem hlt)
        have hdn' : D[k].vars.length + partsN (D[k].cons.map (·.ty)) ≤ 1099511627000 := hdn
        have HSK := Lib.hid hsk
        have HPT := Lib.hid (fun kk => partsN_takele D[k].cons kk)
        have hpt0 : partsN ((D[k].cons.take 0).map (·.ty)) = 0 := by rw [List.take_zero]; rfl
        have hdk : decide ((k : Int) ≤ 60) = true := decide_eq_true (by omega)
        clear hc hcW hsv hsc hdn hsk
        generalize hS : sumD (D.take k) = Sk at *
        generalize hVN : D[k].vars.length = vn at *
        generalize hPN : partsN (D[k].cons.map (·.ty)) = pn at *
        have HB := hb
        go_wp2
        go_loopw [5, 7] (fun n i wr2 => ∃ kk : Nat, kk ≤ D[k].cons.length ∧ i = .int .i64 kk ∧ n = .int .i64 ((1 : Int) + (partsT t : Int) + (Sk : Int) + (vn : Int) + (partsN ((D[k].cons.take kk).map (·.ty)) : Int)) ∧ Hid (Below wr.heap.size wr wr2)) (fun _ i _ => D[k].cons.length - (intOf i).toNat)
        case atStart => exact ⟨0, Nat.zero_le _, rfl, by rw [hpt0]; simp, Lib.hid (Below.refl _ _)⟩
        case round =>
          obtain ⟨kk, hkk, rfl, rfl, hb2⟩ := hrel
          have hbW := HB.out.trans (hb2.out.mono HB.out.size)
          have hcW := HCW.out.below hbW
          have c2 : wr.cell? ⟨b, o + k * 16 + 2, none⟩ = some (.slice va vn vc) := hcW 2 _ rfl
          have c3 : wr.cell? ⟨b, o + k * 16 + 3, none⟩ = some (.slice ca D[k].cons.length cc) := hcW 3 _ rfl
          by_cases hlt2 : kk < D[k].cons.length
          · obtain ⟨cb, co, us, hce, hcc, ts, rfl, hty⟩ := HSC.out.get hlt2
            cases hce
            have HTY := Lib.hid hty
            obtain ⟨s2, rfl, hs2⟩ := hty.vals
            obtain ⟨sa, sc2, rfl, _⟩ := hs2.slice
            have hcc2 := hcc.below hbW
            have k2 : wr.cell? ⟨cb, co + kk * 6 + 2, none⟩ = some (.int .u8 D[k].cons[kk].ty.kind) := hcc2 2 _ rfl
            have k3 := hcc2 3 _ rfl
            have k4 := hcc2 4 _ rfl
            have k5 := hcc2 5 _ rfl
            have htk := partsN_take hlt2
            have hle := HPT.out (kk + 1)
            have HTK := Lib.hid htk
            rw [htk] at hle
            have hpk : partsT D[k].cons[kk].ty < 1099511627776 := by omega
            have HCC : Hid (∀ w1 n, Below W.heap.size W w1 → n = w1.heap.size → Calls Tryz.prog 15 #[.slice (some ⟨n, 0, none⟩) 1 1] (w1.alloc (.cells #[.int .u8 D[k].cons[kk].ty.kind, .string D[k].cons[kk].ty.name, .int .i64 D[k].cons[kk].ty.num, .slice sa D[k].cons[kk].ty.kids.length sc2] 24)) fun e w' => e = .returned (.int .i64 ((1 + partsT D[k].cons[kk].ty : Nat) : Int)) ∧ w' = w1.alloc (.cells #[.int .u8 D[k].cons[kk].ty.kind, .string D[k].cons[kk].ty.name, .int .i64 D[k].cons[kk].ty.num, .slice sa D[k].cons[kk].ty.kids.length sc2] 24)) :=
              Lib.hid fun w1 n hb hn => by
                subst hn
                have h := parts_ok 1099511627776 [D[k].cons[kk].ty] (by rw [partsN_cons, partsN_nil]; omega) (Nat.le_refl _) _ _ (sl_one HTY.out hb)
                rw [partsN_cons, partsN_nil] at h
                exact h
            have HB2 := hb2
            have HBW := Lib.hid hbW
            clear hcc hcc2 hty hs2 hcW hb2 hbW htk
            generalize partsN ((D[k].cons.take kk).map (·.ty)) = P0 at *
            generalize partsT D[k].cons[kk].ty = pt at *
            go_wp2_with fail
            refine (HCC.out _ _ HBW.out rfl).mono ?_
            rintro e w3 ⟨rfl, rfl⟩
            have HB3 := Lib.hid (HB2.out.alloc HB2.out.size (.cells #[.int .u8 D[k].cons[kk].ty.kind, .string D[k].cons[kk].ty.name, .int .i64 D[k].cons[kk].ty.num, .slice sa D[k].cons[kk].ty.kids.length sc2] 24))
            go_wp2
            go_round
            case rel => exact ⟨kk + 1, by omega, by simp, congrArg (Value.int .i64) (by rw [HTK.out]; push_cast; omega), HB3⟩
            case measure => simp [intOf]; omega
          · obtain rfl : kk = D[k].cons.length := by omega
            have hall : partsN ((D[k].cons.take D[k].cons.length).map (·.ty)) = pn := by rw [List.take_length]; exact hPN
            rw [hall]
            have HB3 := Lib.hid hbW
            have hnew : 1 + partsT t + sumD (D.take (k + 1)) = 1 + partsT t + Sk + vn + pn := by
              rw [HSK.out, decN]; omega
            have HNEW := Lib.hid hnew
            clear hcW hbW hb2 hnew
            go_wp2
            go_round
            case rel => exact ⟨k + 1, by omega, by omega, by simp, congrArg (Value.int .i64) (by have := HNEW.out; omega), HB3⟩
            case measure => simp [intOf]; omega
      · have HB := hb
        have hSk := HS.out k
        generalize sumD (D.take k) = Sk at *
        go_wp2
        all_goals
          go_ret
          refine ⟨⟨_, rfl, fun hf => ?_⟩, HB.out⟩
          simp only [Bool.or_eq_false_iff, decide_eq_false_iff_not, reduceCtorEq] at hf
        all_goals omega
    · obtain rfl : k = D.length := by omega
      have HB := hb
      have hSk := HS.out D.length
      have hall : ∀ d ∈ D, decN d ≤ sumD (D.take D.length) := fun d hd => decN_le (by rw [List.take_length]; exact hd)
      have HA := Lib.hid hall
      clear hall
      generalize sumD (D.take D.length) = Sk at *
      go_wp2
      all_goals
        go_ret
        refine ⟨⟨_, rfl, fun hf => ?_⟩, HB.out⟩
        simp only [Bool.or_eq_false_iff, decide_eq_false_iff_not, reduceCtorEq] at hf
      all_goals exact ⟨by omega, by omega, fun d hd => by have := HA.out d hd; omega⟩
end Go.Stamp
