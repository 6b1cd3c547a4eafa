/- Rows of texts, told one by one, walked by hand; what the parts hold. Each says its own conditions. -/
import Derived.Test.YtmkdiiocfnelaaaGreatDoorPa
import Derived.Deep.RegionHeld3
set_option linter.unusedVariables false
set_option linter.unusedSimpArgs false
set_option maxRecDepth 100000
set_option maxHeartbeats 4000000
namespace Go.Pr
open Go Go.RowKit Go.Proofs
theorem texts_ty {fn : Nat} (hcf : ∀ (args : Array Value) (w : World), (callFunc fn args).run Tryz.prog w = .ok (.enter fn args) w) {G : D → ByteArray} {l : List D} {vf : Nat → List Value} {W0 W : World} {s : Value} {sep : ByteArray} (hs : RowC W0 4 s l.length vf) (hv : ∀ i x, l[i]? = some x → S W0 .ty x (vf i)) (hB : Below W0.heap.size W0 W) (hl : l.length ≤ 1048576) (hF : ∀ x ∈ l, FnOK fn .ty G W0 x) (hsz : (joinB (l.map G) sep).size ≤ 140737488355328) :
    Calls Tryz.prog 35 #[s, .string sep, .func (.func fn) #[] #[]] W fun e w' => e = .returned (.string (joinB (l.map G) sep)) ∧ Below W.heap.size W w' := by
  obtain ⟨a, c, rfl, hlc, hrow⟩ := hs
  obtain ⟨i, hi, hi2⟩ := Option.map_eq_some_iff.1 i9
  injection hi2 with hz0 hz1
  injection hz1 with hz1 hz2
  have HR := Lib.hid hrow
  have HV := Lib.hid hv
  have HF := Lib.hid hF
  have HB := Lib.hid hB
  have HSZ := Lib.hid hsz
  have hst : OutV W W (.slice none 0 0) ([] : List ByteArray) := ⟨World.ownsRow_nil _ _ _ _, Below.refl _ _⟩
  have HST := Lib.hid hst
  clear hst hrow hv hF hB hsz hlc
  go_enter Tryz.func35, Tryz.ntmps35
  go_wp2
  go_loopw [7, 12] (fun out j wr => ∃ k : Nat, k ≤ l.length ∧ j = .int .i64 k ∧ Hid (OutV W wr out ((l.take k).map G))) (fun _ j _ => l.length - (intOf j).toNat)
  case atStart => exact ⟨0, Nat.zero_le _, rfl, by rw [List.take_zero]; exact HST⟩
  case round =>
    obtain ⟨k, hk, rfl, hO⟩ := hrel
    by_cases hlt : k < l.length
    · obtain ⟨b, o, rfl, hr⟩ := HR.out (by omega)
      have hget : l[k]? = some l[k] := List.getElem?_eq_getElem hlt
      have hc := hr k hlt
      have hv := HV.out k _ hget
      obtain ⟨v0, v1, v2, a3, n3, c3, hvk⟩ := hv.ty_vals
      rw [hvk] at hc hv
      have HVK := Lib.hid hv
      have hBW := HB.out.trans (hO.out.2.mono HB.out.size)
      have hcW := hc.below hBW
      have k0 : wr.cell? ⟨b, o + k * 4, none⟩ = some (.int .u8 v0) := hcW 0 _ rfl
      have k1 : wr.cell? ⟨b, o + k * 4 + 1, none⟩ = some (.string v1) := hcW 1 _ rfl
      have k2 : wr.cell? ⟨b, o + k * 4 + 2, none⟩ = some (.int .i64 v2) := hcW 2 _ rfl
      have k3 : wr.cell? ⟨b, o + k * 4 + 3, none⟩ = some (.slice a3 n3 c3) := hcW 3 _ rfl
      have HCALL := Lib.hid (fun obj => HF.out l[k] (List.getElem_mem hlt) (wr.alloc obj) _ HVK.out (hBW.alloc hBW.size obj))
      have htk : (l.take (k + 1)).map G = (l.take k).map G ++ [G l[k]] := by rw [List.take_succ_eq_append_getElem hlt, List.map_append]; rfl
      have HTK := Lib.hid htk
      have HO := hO
      clear hc hv hvk hBW hcW htk hr hget HVK
      generalize hfk : G l[k] = fk at *
      go_wp2_with fail
      refine (HCALL.out _).mono ?_
      rintro e w2 ⟨rfl, hb⟩
      have ho2 : OutV W w2 u7 ((l.take k).map G) := (HO.out.below ((Below.refl _ _).alloc (Nat.le_refl _) _)).below hb
      have hlen : ((l.take k).map G).length = k := by simp; omega
      have hsw := ho2.2.size
      have hown := ho2.1.alloc (.cells #[.string fk] 9)
      rw [hlen] at hown
      have HO2 := Lib.hid ho2
      clear ho2 hb HCALL
      go_wp2_with (at_builtin; refine wpList_append_own _ rfl _ _ 25 rfl W.heap.size 9 i (.string { data := #[] }) 1 16 Tryz.underlying25 hi hz2 hz0 hz1 rfl (by decide) _ _ _ rfl hown ⟨w2.heap.size, 0, none⟩ 1 1 [.string fk] rfl rfl (cell_one_new _ _ _) (str_one fk) (by simp only [maxLen]; omega) (by omega) (by simp; omega) ?_; intro v' w3 hown' hgrow hnil)
      have HN : Hid (OutV W w3 v' ((l.take (k + 1)).map G)) := Lib.hid (by
        rw [HTK.out]
        refine OutV.grown (HO2.out.below ((Below.refl _ _).alloc (Nat.le_refl _) _)) ?_ hgrow
        rw [hlen]; exact hown')
      clear hown' hgrow hnil hown HO2 HO
      go_wp2
      go_round
      case rel => exact ⟨k + 1, by omega, by simp, HN⟩
      case measure => simp [intOf]; omega
    · obtain rfl : k = l.length := by omega
      rw [List.take_length] at hO
      have HJ := Lib.hid (hO.out.join (sep := sep) (by simp; omega) HSZ.out)
      have HO := hO
      clear hO
      go_wp2_with fail
      refine HJ.out.mono ?_
      rintro e w2 ⟨rfl, hb⟩
      have HB2 := Lib.hid (HO.out.2.trans (hb.mono HO.out.2.size))
      clear hb
      go_wp2
      go_ret
      exact ⟨rfl, HB2.out⟩
end Go.Pr
namespace Go.Pr
open Go Go.RowKit Go.Proofs
theorem texts_pat {fn : Nat} (hcf : ∀ (args : Array Value) (w : World), (callFunc fn args).run Tryz.prog w = .ok (.enter fn args) w) {G : D → ByteArray} {l : List D} {vf : Nat → List Value} {W0 W : World} {s : Value} {sep : ByteArray} (hs : RowC W0 4 s l.length vf) (hv : ∀ i x, l[i]? = some x → S W0 .pat x (vf i)) (hB : Below W0.heap.size W0 W) (hl : l.length ≤ 1048576) (hF : ∀ x ∈ l, FnOK fn .pat G W0 x) (hsz : (joinB (l.map G) sep).size ≤ 140737488355328) :
    Calls Tryz.prog 93 #[s, .string sep, .func (.func fn) #[] #[]] W fun e w' => e = .returned (.string (joinB (l.map G) sep)) ∧ Below W.heap.size W w' := by
  obtain ⟨a, c, rfl, hlc, hrow⟩ := hs
  obtain ⟨i, hi, hi2⟩ := Option.map_eq_some_iff.1 i9
  injection hi2 with hz0 hz1
  injection hz1 with hz1 hz2
  have HR := Lib.hid hrow
  have HV := Lib.hid hv
  have HF := Lib.hid hF
  have HB := Lib.hid hB
  have HSZ := Lib.hid hsz
  have hst : OutV W W (.slice none 0 0) ([] : List ByteArray) := ⟨World.ownsRow_nil _ _ _ _, Below.refl _ _⟩
  have HST := Lib.hid hst
  clear hst hrow hv hF hB hsz hlc
  go_enter Tryz.func93, Tryz.ntmps93
  go_wp2
  go_loopw [7, 12] (fun out j wr => ∃ k : Nat, k ≤ l.length ∧ j = .int .i64 k ∧ Hid (OutV W wr out ((l.take k).map G))) (fun _ j _ => l.length - (intOf j).toNat)
  case atStart => exact ⟨0, Nat.zero_le _, rfl, by rw [List.take_zero]; exact HST⟩
  case round =>
    obtain ⟨k, hk, rfl, hO⟩ := hrel
    by_cases hlt : k < l.length
    · obtain ⟨b, o, rfl, hr⟩ := HR.out (by omega)
      have hget : l[k]? = some l[k] := List.getElem?_eq_getElem hlt
      have hc := hr k hlt
      have hv := HV.out k _ hget
      obtain ⟨v0, v1, v2, a3, n3, c3, hvk⟩ := hv.pat_vals
      rw [hvk] at hc hv
      have HVK := Lib.hid hv
      have hBW := HB.out.trans (hO.out.2.mono HB.out.size)
      have hcW := hc.below hBW
      have k0 : wr.cell? ⟨b, o + k * 4, none⟩ = some (.int .u8 v0) := hcW 0 _ rfl
      have k1 : wr.cell? ⟨b, o + k * 4 + 1, none⟩ = some (.string v1) := hcW 1 _ rfl
      have k2 : wr.cell? ⟨b, o + k * 4 + 2, none⟩ = some (.int .i64 v2) := hcW 2 _ rfl
      have k3 : wr.cell? ⟨b, o + k * 4 + 3, none⟩ = some (.slice a3 n3 c3) := hcW 3 _ rfl
      have HCALL := Lib.hid (fun obj => HF.out l[k] (List.getElem_mem hlt) (wr.alloc obj) _ HVK.out (hBW.alloc hBW.size obj))
      have htk : (l.take (k + 1)).map G = (l.take k).map G ++ [G l[k]] := by rw [List.take_succ_eq_append_getElem hlt, List.map_append]; rfl
      have HTK := Lib.hid htk
      have HO := hO
      clear hc hv hvk hBW hcW htk hr hget HVK
      generalize hfk : G l[k] = fk at *
      go_wp2_with fail
      refine (HCALL.out _).mono ?_
      rintro e w2 ⟨rfl, hb⟩
      have ho2 : OutV W w2 u7 ((l.take k).map G) := (HO.out.below ((Below.refl _ _).alloc (Nat.le_refl _) _)).below hb
      have hlen : ((l.take k).map G).length = k := by simp; omega
      have hsw := ho2.2.size
      have hown := ho2.1.alloc (.cells #[.string fk] 9)
      rw [hlen] at hown
      have HO2 := Lib.hid ho2
      clear ho2 hb HCALL
      go_wp2_with (at_builtin; refine wpList_append_own _ rfl _ _ 25 rfl W.heap.size 9 i (.string { data := #[] }) 1 16 Tryz.underlying25 hi hz2 hz0 hz1 rfl (by decide) _ _ _ rfl hown ⟨w2.heap.size, 0, none⟩ 1 1 [.string fk] rfl rfl (cell_one_new _ _ _) (str_one fk) (by simp only [maxLen]; omega) (by omega) (by simp; omega) ?_; intro v' w3 hown' hgrow hnil)
      have HN : Hid (OutV W w3 v' ((l.take (k + 1)).map G)) := Lib.hid (by
        rw [HTK.out]
        refine OutV.grown (HO2.out.below ((Below.refl _ _).alloc (Nat.le_refl _) _)) ?_ hgrow
        rw [hlen]; exact hown')
      clear hown' hgrow hnil hown HO2 HO
      go_wp2
      go_round
      case rel => exact ⟨k + 1, by omega, by simp, HN⟩
      case measure => simp [intOf]; omega
    · obtain rfl : k = l.length := by omega
      rw [List.take_length] at hO
      have HJ := Lib.hid (hO.out.join (sep := sep) (by simp; omega) HSZ.out)
      have HO := hO
      clear hO
      go_wp2_with fail
      refine HJ.out.mono ?_
      rintro e w2 ⟨rfl, hb⟩
      have HB2 := Lib.hid (HO.out.2.trans (hb.mono HO.out.2.size))
      clear hb
      go_wp2
      go_ret
      exact ⟨rfl, HB2.out⟩
end Go.Pr
namespace Go.Pr
open Go Go.RowKit Go.Proofs
theorem texts_exp {fn : Nat} (hcf : ∀ (args : Array Value) (w : World), (callFunc fn args).run Tryz.prog w = .ok (.enter fn args) w) {G : D → ByteArray} {l : List D} {vf : Nat → List Value} {W0 W : World} {s : Value} {sep : ByteArray} (hs : RowC W0 7 s l.length vf) (hv : ∀ i x, l[i]? = some x → S W0 .exp x (vf i)) (hB : Below W0.heap.size W0 W) (hl : l.length ≤ 1048576) (hF : ∀ x ∈ l, FnOK fn .exp G W0 x) (hsz : (joinB (l.map G) sep).size ≤ 140737488355328) :
    Calls Tryz.prog 29 #[s, .string sep, .func (.func fn) #[] #[]] W fun e w' => e = .returned (.string (joinB (l.map G) sep)) ∧ Below W.heap.size W w' := by
  obtain ⟨a, c, rfl, hlc, hrow⟩ := hs
  obtain ⟨i, hi, hi2⟩ := Option.map_eq_some_iff.1 i9
  injection hi2 with hz0 hz1
  injection hz1 with hz1 hz2
  have HR := Lib.hid hrow
  have HV := Lib.hid hv
  have HF := Lib.hid hF
  have HB := Lib.hid hB
  have HSZ := Lib.hid hsz
  have hst : OutV W W (.slice none 0 0) ([] : List ByteArray) := ⟨World.ownsRow_nil _ _ _ _, Below.refl _ _⟩
  have HST := Lib.hid hst
  clear hst hrow hv hF hB hsz hlc
  go_enter Tryz.func29, Tryz.ntmps29
  go_wp2
  go_loopw [7, 12] (fun out j wr => ∃ k : Nat, k ≤ l.length ∧ j = .int .i64 k ∧ Hid (OutV W wr out ((l.take k).map G))) (fun _ j _ => l.length - (intOf j).toNat)
  case atStart => exact ⟨0, Nat.zero_le _, rfl, by rw [List.take_zero]; exact HST⟩
  case round =>
    obtain ⟨k, hk, rfl, hO⟩ := hrel
    by_cases hlt : k < l.length
    · obtain ⟨b, o, rfl, hr⟩ := HR.out (by omega)
      have hget : l[k]? = some l[k] := List.getElem?_eq_getElem hlt
      have hc := hr k hlt
      have hv := HV.out k _ hget
      obtain ⟨v0, v1, v2, v3, a4, n4, c4, a5, n5, c5, a6, n6, c6, hvk⟩ := hv.exp_vals
      rw [hvk] at hc hv
      have HVK := Lib.hid hv
      have hBW := HB.out.trans (hO.out.2.mono HB.out.size)
      have hcW := hc.below hBW
      have k0 : wr.cell? ⟨b, o + k * 7, none⟩ = some (.int .u8 v0) := hcW 0 _ rfl
      have k1 : wr.cell? ⟨b, o + k * 7 + 1, none⟩ = some (.string v1) := hcW 1 _ rfl
      have k2 : wr.cell? ⟨b, o + k * 7 + 2, none⟩ = some (.int .i64 v2) := hcW 2 _ rfl
      have k3 : wr.cell? ⟨b, o + k * 7 + 3, none⟩ = some (.string v3) := hcW 3 _ rfl
      have k4 : wr.cell? ⟨b, o + k * 7 + 4, none⟩ = some (.slice a4 n4 c4) := hcW 4 _ rfl
      have k5 : wr.cell? ⟨b, o + k * 7 + 5, none⟩ = some (.slice a5 n5 c5) := hcW 5 _ rfl
      have k6 : wr.cell? ⟨b, o + k * 7 + 6, none⟩ = some (.slice a6 n6 c6) := hcW 6 _ rfl
      have HCALL := Lib.hid (fun obj => HF.out l[k] (List.getElem_mem hlt) (wr.alloc obj) _ HVK.out (hBW.alloc hBW.size obj))
      have htk : (l.take (k + 1)).map G = (l.take k).map G ++ [G l[k]] := by rw [List.take_succ_eq_append_getElem hlt, List.map_append]; rfl
      have HTK := Lib.hid htk
      have HO := hO
      clear hc hv hvk hBW hcW htk hr hget HVK
      generalize hfk : G l[k] = fk at *
      go_wp2_with fail
      refine (HCALL.out _).mono ?_
      rintro e w2 ⟨rfl, hb⟩
      have ho2 : OutV W w2 u7 ((l.take k).map G) := (HO.out.below ((Below.refl _ _).alloc (Nat.le_refl _) _)).below hb
      have hlen : ((l.take k).map G).length = k := by simp; omega
      have hsw := ho2.2.size
      have hown := ho2.1.alloc (.cells #[.string fk] 9)
      rw [hlen] at hown
      have HO2 := Lib.hid ho2
      clear ho2 hb HCALL
      go_wp2_with (at_builtin; refine wpList_append_own _ rfl _ _ 25 rfl W.heap.size 9 i (.string { data := #[] }) 1 16 Tryz.underlying25 hi hz2 hz0 hz1 rfl (by decide) _ _ _ rfl hown ⟨w2.heap.size, 0, none⟩ 1 1 [.string fk] rfl rfl (cell_one_new _ _ _) (str_one fk) (by simp only [maxLen]; omega) (by omega) (by simp; omega) ?_; intro v' w3 hown' hgrow hnil)
      have HN : Hid (OutV W w3 v' ((l.take (k + 1)).map G)) := Lib.hid (by
        rw [HTK.out]
        refine OutV.grown (HO2.out.below ((Below.refl _ _).alloc (Nat.le_refl _) _)) ?_ hgrow
        rw [hlen]; exact hown')
      clear hown' hgrow hnil hown HO2 HO
      go_wp2
      go_round
      case rel => exact ⟨k + 1, by omega, by simp, HN⟩
      case measure => simp [intOf]; omega
    · obtain rfl : k = l.length := by omega
      rw [List.take_length] at hO
      have HJ := Lib.hid (hO.out.join (sep := sep) (by simp; omega) HSZ.out)
      have HO := hO
      clear hO
      go_wp2_with fail
      refine HJ.out.mono ?_
      rintro e w2 ⟨rfl, hb⟩
      have HB2 := Lib.hid (HO.out.2.trans (hb.mono HO.out.2.size))
      clear hb
      go_wp2
      go_ret
      exact ⟨rfl, HB2.out⟩
end Go.Pr
namespace Go.Pr
open Go Go.RowKit Go.Proofs
theorem texts_con {fn : Nat} (hcf : ∀ (args : Array Value) (w : World), (callFunc fn args).run Tryz.prog w = .ok (.enter fn args) w) {G : D → ByteArray} {l : List D} {vf : Nat → List Value} {W0 W : World} {s : Value} {sep : ByteArray} (hs : RowC W0 6 s l.length vf) (hv : ∀ i x, l[i]? = some x → S W0 .con x (vf i)) (hB : Below W0.heap.size W0 W) (hl : l.length ≤ 1048576) (hF : ∀ x ∈ l, FnOK fn .con G W0 x) (hsz : (joinB (l.map G) sep).size ≤ 140737488355328) :
    Calls Tryz.prog 11 #[s, .string sep, .func (.func fn) #[] #[]] W fun e w' => e = .returned (.string (joinB (l.map G) sep)) ∧ Below W.heap.size W w' := by
  obtain ⟨a, c, rfl, hlc, hrow⟩ := hs
  obtain ⟨i, hi, hi2⟩ := Option.map_eq_some_iff.1 i9
  injection hi2 with hz0 hz1
  injection hz1 with hz1 hz2
  have HR := Lib.hid hrow
  have HV := Lib.hid hv
  have HF := Lib.hid hF
  have HB := Lib.hid hB
  have HSZ := Lib.hid hsz
  have hst : OutV W W (.slice none 0 0) ([] : List ByteArray) := ⟨World.ownsRow_nil _ _ _ _, Below.refl _ _⟩
  have HST := Lib.hid hst
  clear hst hrow hv hF hB hsz hlc
  go_enter Tryz.func11, Tryz.ntmps11
  go_wp2
  go_loopw [7, 12] (fun out j wr => ∃ k : Nat, k ≤ l.length ∧ j = .int .i64 k ∧ Hid (OutV W wr out ((l.take k).map G))) (fun _ j _ => l.length - (intOf j).toNat)
  case atStart => exact ⟨0, Nat.zero_le _, rfl, by rw [List.take_zero]; exact HST⟩
  case round =>
    obtain ⟨k, hk, rfl, hO⟩ := hrel
    by_cases hlt : k < l.length
    · obtain ⟨b, o, rfl, hr⟩ := HR.out (by omega)
      have hget : l[k]? = some l[k] := List.getElem?_eq_getElem hlt
      have hc := hr k hlt
      have hv := HV.out k _ hget
      obtain ⟨v0, v1, v2, v3, v4, a5, n5, c5, hvk⟩ := hv.con_vals
      rw [hvk] at hc hv
      have HVK := Lib.hid hv
      have hBW := HB.out.trans (hO.out.2.mono HB.out.size)
      have hcW := hc.below hBW
      have k0 : wr.cell? ⟨b, o + k * 6, none⟩ = some (.string v0) := hcW 0 _ rfl
      have k1 : wr.cell? ⟨b, o + k * 6 + 1, none⟩ = some (.bool v1) := hcW 1 _ rfl
      have k2 : wr.cell? ⟨b, o + k * 6 + 2, none⟩ = some (.int .u8 v2) := hcW 2 _ rfl
      have k3 : wr.cell? ⟨b, o + k * 6 + 3, none⟩ = some (.string v3) := hcW 3 _ rfl
      have k4 : wr.cell? ⟨b, o + k * 6 + 4, none⟩ = some (.int .i64 v4) := hcW 4 _ rfl
      have k5 : wr.cell? ⟨b, o + k * 6 + 5, none⟩ = some (.slice a5 n5 c5) := hcW 5 _ rfl
      have HCALL := Lib.hid (fun obj => HF.out l[k] (List.getElem_mem hlt) (wr.alloc obj) _ HVK.out (hBW.alloc hBW.size obj))
      have htk : (l.take (k + 1)).map G = (l.take k).map G ++ [G l[k]] := by rw [List.take_succ_eq_append_getElem hlt, List.map_append]; rfl
      have HTK := Lib.hid htk
      have HO := hO
      clear hc hv hvk hBW hcW htk hr hget HVK
      generalize hfk : G l[k] = fk at *
      go_wp2_with fail
      refine (HCALL.out _).mono ?_
      rintro e w2 ⟨rfl, hb⟩
      have ho2 : OutV W w2 u7 ((l.take k).map G) := (HO.out.below ((Below.refl _ _).alloc (Nat.le_refl _) _)).below hb
      have hlen : ((l.take k).map G).length = k := by simp; omega
      have hsw := ho2.2.size
      have hown := ho2.1.alloc (.cells #[.string fk] 9)
      rw [hlen] at hown
      have HO2 := Lib.hid ho2
      clear ho2 hb HCALL
      go_wp2_with (at_builtin; refine wpList_append_own _ rfl _ _ 25 rfl W.heap.size 9 i (.string { data := #[] }) 1 16 Tryz.underlying25 hi hz2 hz0 hz1 rfl (by decide) _ _ _ rfl hown ⟨w2.heap.size, 0, none⟩ 1 1 [.string fk] rfl rfl (cell_one_new _ _ _) (str_one fk) (by simp only [maxLen]; omega) (by omega) (by simp; omega) ?_; intro v' w3 hown' hgrow hnil)
      have HN : Hid (OutV W w3 v' ((l.take (k + 1)).map G)) := Lib.hid (by
        rw [HTK.out]
        refine OutV.grown (HO2.out.below ((Below.refl _ _).alloc (Nat.le_refl _) _)) ?_ hgrow
        rw [hlen]; exact hown')
      clear hown' hgrow hnil hown HO2 HO
      go_wp2
      go_round
      case rel => exact ⟨k + 1, by omega, by simp, HN⟩
      case measure => simp [intOf]; omega
    · obtain rfl : k = l.length := by omega
      rw [List.take_length] at hO
      have HJ := Lib.hid (hO.out.join (sep := sep) (by simp; omega) HSZ.out)
      have HO := hO
      clear hO
      go_wp2_with fail
      refine HJ.out.mono ?_
      rintro e w2 ⟨rfl, hb⟩
      have HB2 := Lib.hid (HO.out.2.trans (hb.mono HO.out.2.size))
      clear hb
      go_wp2
      go_ret
      exact ⟨rfl, HB2.out⟩
end Go.Pr
namespace Go.Pr
open Go Go.RowKit Go.Proofs
theorem texts_fn {fn : Nat} (hcf : ∀ (args : Array Value) (w : World), (callFunc fn args).run Tryz.prog w = .ok (.enter fn args) w) {G : D → ByteArray} {l : List D} {vf : Nat → List Value} {W0 W : World} {s : Value} {sep : ByteArray} (hs : RowC W0 9 s l.length vf) (hv : ∀ i x, l[i]? = some x → S W0 .fn x (vf i)) (hB : Below W0.heap.size W0 W) (hl : l.length ≤ 1048576) (hF : ∀ x ∈ l, FnOK fn .fn G W0 x) (hsz : (joinB (l.map G) sep).size ≤ 140737488355328) :
    Calls Tryz.prog 15 #[s, .string sep, .func (.func fn) #[] #[]] W fun e w' => e = .returned (.string (joinB (l.map G) sep)) ∧ Below W.heap.size W w' := by
  obtain ⟨a, c, rfl, hlc, hrow⟩ := hs
  obtain ⟨i, hi, hi2⟩ := Option.map_eq_some_iff.1 i9
  injection hi2 with hz0 hz1
  injection hz1 with hz1 hz2
  have HR := Lib.hid hrow
  have HV := Lib.hid hv
  have HF := Lib.hid hF
  have HB := Lib.hid hB
  have HSZ := Lib.hid hsz
  have hst : OutV W W (.slice none 0 0) ([] : List ByteArray) := ⟨World.ownsRow_nil _ _ _ _, Below.refl _ _⟩
  have HST := Lib.hid hst
  clear hst hrow hv hF hB hsz hlc
  go_enter Tryz.func15, Tryz.ntmps15
  go_wp2
  go_loopw [7, 12] (fun out j wr => ∃ k : Nat, k ≤ l.length ∧ j = .int .i64 k ∧ Hid (OutV W wr out ((l.take k).map G))) (fun _ j _ => l.length - (intOf j).toNat)
  case atStart => exact ⟨0, Nat.zero_le _, rfl, by rw [List.take_zero]; exact HST⟩
  case round =>
    obtain ⟨k, hk, rfl, hO⟩ := hrel
    by_cases hlt : k < l.length
    · obtain ⟨b, o, rfl, hr⟩ := HR.out (by omega)
      have hget : l[k]? = some l[k] := List.getElem?_eq_getElem hlt
      have hc := hr k hlt
      have hv := HV.out k _ hget
      obtain ⟨v0, a1, n1, c1, v2, v3, v4, v5, a6, n6, c6, a7, n7, c7, a8, n8, c8, hvk⟩ := hv.fn_vals
      rw [hvk] at hc hv
      have HVK := Lib.hid hv
      have hBW := HB.out.trans (hO.out.2.mono HB.out.size)
      have hcW := hc.below hBW
      have k0 : wr.cell? ⟨b, o + k * 9, none⟩ = some (.string v0) := hcW 0 _ rfl
      have k1 : wr.cell? ⟨b, o + k * 9 + 1, none⟩ = some (.slice a1 n1 c1) := hcW 1 _ rfl
      have k2 : wr.cell? ⟨b, o + k * 9 + 2, none⟩ = some (.int .u8 v2) := hcW 2 _ rfl
      have k3 : wr.cell? ⟨b, o + k * 9 + 3, none⟩ = some (.string v3) := hcW 3 _ rfl
      have k4 : wr.cell? ⟨b, o + k * 9 + 4, none⟩ = some (.int .i64 v4) := hcW 4 _ rfl
      have k5 : wr.cell? ⟨b, o + k * 9 + 5, none⟩ = some (.string v5) := hcW 5 _ rfl
      have k6 : wr.cell? ⟨b, o + k * 9 + 6, none⟩ = some (.slice a6 n6 c6) := hcW 6 _ rfl
      have k7 : wr.cell? ⟨b, o + k * 9 + 7, none⟩ = some (.slice a7 n7 c7) := hcW 7 _ rfl
      have k8 : wr.cell? ⟨b, o + k * 9 + 8, none⟩ = some (.slice a8 n8 c8) := hcW 8 _ rfl
      have HCALL := Lib.hid (fun obj => HF.out l[k] (List.getElem_mem hlt) (wr.alloc obj) _ HVK.out (hBW.alloc hBW.size obj))
      have htk : (l.take (k + 1)).map G = (l.take k).map G ++ [G l[k]] := by rw [List.take_succ_eq_append_getElem hlt, List.map_append]; rfl
      have HTK := Lib.hid htk
      have HO := hO
      clear hc hv hvk hBW hcW htk hr hget HVK
      generalize hfk : G l[k] = fk at *
      go_wp2_with fail
      refine (HCALL.out _).mono ?_
      rintro e w2 ⟨rfl, hb⟩
      have ho2 : OutV W w2 u7 ((l.take k).map G) := (HO.out.below ((Below.refl _ _).alloc (Nat.le_refl _) _)).below hb
      have hlen : ((l.take k).map G).length = k := by simp; omega
      have hsw := ho2.2.size
      have hown := ho2.1.alloc (.cells #[.string fk] 9)
      rw [hlen] at hown
      have HO2 := Lib.hid ho2
      clear ho2 hb HCALL
      go_wp2_with (at_builtin; refine wpList_append_own _ rfl _ _ 25 rfl W.heap.size 9 i (.string { data := #[] }) 1 16 Tryz.underlying25 hi hz2 hz0 hz1 rfl (by decide) _ _ _ rfl hown ⟨w2.heap.size, 0, none⟩ 1 1 [.string fk] rfl rfl (cell_one_new _ _ _) (str_one fk) (by simp only [maxLen]; omega) (by omega) (by simp; omega) ?_; intro v' w3 hown' hgrow hnil)
      have HN : Hid (OutV W w3 v' ((l.take (k + 1)).map G)) := Lib.hid (by
        rw [HTK.out]
        refine OutV.grown (HO2.out.below ((Below.refl _ _).alloc (Nat.le_refl _) _)) ?_ hgrow
        rw [hlen]; exact hown')
      clear hown' hgrow hnil hown HO2 HO
      go_wp2
      go_round
      case rel => exact ⟨k + 1, by omega, by simp, HN⟩
      case measure => simp [intOf]; omega
    · obtain rfl : k = l.length := by omega
      rw [List.take_length] at hO
      have HJ := Lib.hid (hO.out.join (sep := sep) (by simp; omega) HSZ.out)
      have HO := hO
      clear hO
      go_wp2_with fail
      refine HJ.out.mono ?_
      rintro e w2 ⟨rfl, hb⟩
      have HB2 := Lib.hid (HO.out.2.trans (hb.mono HO.out.2.size))
      clear hb
      go_wp2
      go_ret
      exact ⟨rfl, HB2.out⟩
end Go.Pr
namespace Go.Pr
open Go Go.RowKit Go.Proofs
theorem texts_rule {fn : Nat} (hcf : ∀ (args : Array Value) (w : World), (callFunc fn args).run Tryz.prog w = .ok (.enter fn args) w) {G : D → ByteArray} {l : List D} {vf : Nat → List Value} {W0 W : World} {s : Value} {sep : ByteArray} (hs : RowC W0 11 s l.length vf) (hv : ∀ i x, l[i]? = some x → S W0 .rule x (vf i)) (hB : Below W0.heap.size W0 W) (hl : l.length ≤ 1048576) (hF : ∀ x ∈ l, FnOK fn .rule G W0 x) (hsz : (joinB (l.map G) sep).size ≤ 140737488355328) :
    Calls Tryz.prog 58 #[s, .string sep, .func (.func fn) #[] #[]] W fun e w' => e = .returned (.string (joinB (l.map G) sep)) ∧ Below W.heap.size W w' := by
  obtain ⟨a, c, rfl, hlc, hrow⟩ := hs
  obtain ⟨i, hi, hi2⟩ := Option.map_eq_some_iff.1 i9
  injection hi2 with hz0 hz1
  injection hz1 with hz1 hz2
  have HR := Lib.hid hrow
  have HV := Lib.hid hv
  have HF := Lib.hid hF
  have HB := Lib.hid hB
  have HSZ := Lib.hid hsz
  have hst : OutV W W (.slice none 0 0) ([] : List ByteArray) := ⟨World.ownsRow_nil _ _ _ _, Below.refl _ _⟩
  have HST := Lib.hid hst
  clear hst hrow hv hF hB hsz hlc
  go_enter Tryz.func58, Tryz.ntmps58
  go_wp2
  go_loopw [7, 12] (fun out j wr => ∃ k : Nat, k ≤ l.length ∧ j = .int .i64 k ∧ Hid (OutV W wr out ((l.take k).map G))) (fun _ j _ => l.length - (intOf j).toNat)
  case atStart => exact ⟨0, Nat.zero_le _, rfl, by rw [List.take_zero]; exact HST⟩
  case round =>
    obtain ⟨k, hk, rfl, hO⟩ := hrel
    by_cases hlt : k < l.length
    · obtain ⟨b, o, rfl, hr⟩ := HR.out (by omega)
      have hget : l[k]? = some l[k] := List.getElem?_eq_getElem hlt
      have hc := hr k hlt
      have hv := HV.out k _ hget
      obtain ⟨v0, v1, v2, a3, n3, c3, v4, v5, v6, v7, a8, n8, c8, a9, n9, c9, a10, n10, c10, hvk⟩ := hv.rule_vals
      rw [hvk] at hc hv
      have HVK := Lib.hid hv
      have hBW := HB.out.trans (hO.out.2.mono HB.out.size)
      have hcW := hc.below hBW
      have k0 : wr.cell? ⟨b, o + k * 11, none⟩ = some (.int .u8 v0) := hcW 0 _ rfl
      have k1 : wr.cell? ⟨b, o + k * 11 + 1, none⟩ = some (.string v1) := hcW 1 _ rfl
      have k2 : wr.cell? ⟨b, o + k * 11 + 2, none⟩ = some (.int .i64 v2) := hcW 2 _ rfl
      have k3 : wr.cell? ⟨b, o + k * 11 + 3, none⟩ = some (.slice a3 n3 c3) := hcW 3 _ rfl
      have k4 : wr.cell? ⟨b, o + k * 11 + 4, none⟩ = some (.int .u8 v4) := hcW 4 _ rfl
      have k5 : wr.cell? ⟨b, o + k * 11 + 5, none⟩ = some (.string v5) := hcW 5 _ rfl
      have k6 : wr.cell? ⟨b, o + k * 11 + 6, none⟩ = some (.int .i64 v6) := hcW 6 _ rfl
      have k7 : wr.cell? ⟨b, o + k * 11 + 7, none⟩ = some (.string v7) := hcW 7 _ rfl
      have k8 : wr.cell? ⟨b, o + k * 11 + 8, none⟩ = some (.slice a8 n8 c8) := hcW 8 _ rfl
      have k9 : wr.cell? ⟨b, o + k * 11 + 9, none⟩ = some (.slice a9 n9 c9) := hcW 9 _ rfl
      have k10 : wr.cell? ⟨b, o + k * 11 + 10, none⟩ = some (.slice a10 n10 c10) := hcW 10 _ rfl
      have HCALL := Lib.hid (fun obj => HF.out l[k] (List.getElem_mem hlt) (wr.alloc obj) _ HVK.out (hBW.alloc hBW.size obj))
      have htk : (l.take (k + 1)).map G = (l.take k).map G ++ [G l[k]] := by rw [List.take_succ_eq_append_getElem hlt, List.map_append]; rfl
      have HTK := Lib.hid htk
      have HO := hO
      clear hc hv hvk hBW hcW htk hr hget HVK
      generalize hfk : G l[k] = fk at *
      go_wp2_with fail
      refine (HCALL.out _).mono ?_
      rintro e w2 ⟨rfl, hb⟩
      have ho2 : OutV W w2 u7 ((l.take k).map G) := (HO.out.below ((Below.refl _ _).alloc (Nat.le_refl _) _)).below hb
      have hlen : ((l.take k).map G).length = k := by simp; omega
      have hsw := ho2.2.size
      have hown := ho2.1.alloc (.cells #[.string fk] 9)
      rw [hlen] at hown
      have HO2 := Lib.hid ho2
      clear ho2 hb HCALL
      go_wp2_with (at_builtin; refine wpList_append_own _ rfl _ _ 25 rfl W.heap.size 9 i (.string { data := #[] }) 1 16 Tryz.underlying25 hi hz2 hz0 hz1 rfl (by decide) _ _ _ rfl hown ⟨w2.heap.size, 0, none⟩ 1 1 [.string fk] rfl rfl (cell_one_new _ _ _) (str_one fk) (by simp only [maxLen]; omega) (by omega) (by simp; omega) ?_; intro v' w3 hown' hgrow hnil)
      have HN : Hid (OutV W w3 v' ((l.take (k + 1)).map G)) := Lib.hid (by
        rw [HTK.out]
        refine OutV.grown (HO2.out.below ((Below.refl _ _).alloc (Nat.le_refl _) _)) ?_ hgrow
        rw [hlen]; exact hown')
      clear hown' hgrow hnil hown HO2 HO
      go_wp2
      go_round
      case rel => exact ⟨k + 1, by omega, by simp, HN⟩
      case measure => simp [intOf]; omega
    · obtain rfl : k = l.length := by omega
      rw [List.take_length] at hO
      have HJ := Lib.hid (hO.out.join (sep := sep) (by simp; omega) HSZ.out)
      have HO := hO
      clear hO
      go_wp2_with fail
      refine HJ.out.mono ?_
      rintro e w2 ⟨rfl, hb⟩
      have HB2 := Lib.hid (HO.out.2.trans (hb.mono HO.out.2.size))
      clear hb
      go_wp2
      go_ret
      exact ⟨rfl, HB2.out⟩
end Go.Pr
namespace Go.Pr
open Go Go.RowKit Go.Proofs
theorem texts_dec {fn : Nat} (hcf : ∀ (args : Array Value) (w : World), (callFunc fn args).run Tryz.prog w = .ok (.enter fn args) w) {G : D → ByteArray} {l : List D} {vf : Nat → List Value} {W0 W : World} {s : Value} {sep : ByteArray} (hs : RowC W0 16 s l.length vf) (hv : ∀ i x, l[i]? = some x → S W0 .dec x (vf i)) (hB : Below W0.heap.size W0 W) (hl : l.length ≤ 1048576) (hF : ∀ x ∈ l, FnOK fn .dec G W0 x) (hsz : (joinB (l.map G) sep).size ≤ 140737488355328) :
    Calls Tryz.prog 22 #[s, .string sep, .func (.func fn) #[] #[]] W fun e w' => e = .returned (.string (joinB (l.map G) sep)) ∧ Below W.heap.size W w' := by
  obtain ⟨a, c, rfl, hlc, hrow⟩ := hs
  obtain ⟨i, hi, hi2⟩ := Option.map_eq_some_iff.1 i9
  injection hi2 with hz0 hz1
  injection hz1 with hz1 hz2
  have HR := Lib.hid hrow
  have HV := Lib.hid hv
  have HF := Lib.hid hF
  have HB := Lib.hid hB
  have HSZ := Lib.hid hsz
  have hst : OutV W W (.slice none 0 0) ([] : List ByteArray) := ⟨World.ownsRow_nil _ _ _ _, Below.refl _ _⟩
  have HST := Lib.hid hst
  clear hst hrow hv hF hB hsz hlc
  go_enter Tryz.func22, Tryz.ntmps22
  go_wp2
  go_loopw [7, 12] (fun out j wr => ∃ k : Nat, k ≤ l.length ∧ j = .int .i64 k ∧ Hid (OutV W wr out ((l.take k).map G))) (fun _ j _ => l.length - (intOf j).toNat)
  case atStart => exact ⟨0, Nat.zero_le _, rfl, by rw [List.take_zero]; exact HST⟩
  case round =>
    obtain ⟨k, hk, rfl, hO⟩ := hrel
    by_cases hlt : k < l.length
    · obtain ⟨b, o, rfl, hr⟩ := HR.out (by omega)
      have hget : l[k]? = some l[k] := List.getElem?_eq_getElem hlt
      have hc := hr k hlt
      have hv := HV.out k _ hget
      obtain ⟨v0, v1, a2, n2, c2, a3, n3, c3, a4, n4, c4, v5, v6, v7, a8, n8, c8, v9, v10, v11, v12, a13, n13, c13, a14, n14, c14, a15, n15, c15, hvk⟩ := hv.dec_vals
      rw [hvk] at hc hv
      have HVK := Lib.hid hv
      have hBW := HB.out.trans (hO.out.2.mono HB.out.size)
      have hcW := hc.below hBW
      have k0 : wr.cell? ⟨b, o + k * 16, none⟩ = some (.int .u8 v0) := hcW 0 _ rfl
      have k1 : wr.cell? ⟨b, o + k * 16 + 1, none⟩ = some (.string v1) := hcW 1 _ rfl
      have k2 : wr.cell? ⟨b, o + k * 16 + 2, none⟩ = some (.slice a2 n2 c2) := hcW 2 _ rfl
      have k3 : wr.cell? ⟨b, o + k * 16 + 3, none⟩ = some (.slice a3 n3 c3) := hcW 3 _ rfl
      have k4 : wr.cell? ⟨b, o + k * 16 + 4, none⟩ = some (.slice a4 n4 c4) := hcW 4 _ rfl
      have k5 : wr.cell? ⟨b, o + k * 16 + 5, none⟩ = some (.int .u8 v5) := hcW 5 _ rfl
      have k6 : wr.cell? ⟨b, o + k * 16 + 6, none⟩ = some (.string v6) := hcW 6 _ rfl
      have k7 : wr.cell? ⟨b, o + k * 16 + 7, none⟩ = some (.int .i64 v7) := hcW 7 _ rfl
      have k8 : wr.cell? ⟨b, o + k * 16 + 8, none⟩ = some (.slice a8 n8 c8) := hcW 8 _ rfl
      have k9 : wr.cell? ⟨b, o + k * 16 + 9, none⟩ = some (.int .u8 v9) := hcW 9 _ rfl
      have k10 : wr.cell? ⟨b, o + k * 16 + 10, none⟩ = some (.string v10) := hcW 10 _ rfl
      have k11 : wr.cell? ⟨b, o + k * 16 + 11, none⟩ = some (.int .i64 v11) := hcW 11 _ rfl
      have k12 : wr.cell? ⟨b, o + k * 16 + 12, none⟩ = some (.string v12) := hcW 12 _ rfl
      have k13 : wr.cell? ⟨b, o + k * 16 + 13, none⟩ = some (.slice a13 n13 c13) := hcW 13 _ rfl
      have k14 : wr.cell? ⟨b, o + k * 16 + 14, none⟩ = some (.slice a14 n14 c14) := hcW 14 _ rfl
      have k15 : wr.cell? ⟨b, o + k * 16 + 15, none⟩ = some (.slice a15 n15 c15) := hcW 15 _ rfl
      have HCALL := Lib.hid (fun obj => HF.out l[k] (List.getElem_mem hlt) (wr.alloc obj) _ HVK.out (hBW.alloc hBW.size obj))
      have htk : (l.take (k + 1)).map G = (l.take k).map G ++ [G l[k]] := by rw [List.take_succ_eq_append_getElem hlt, List.map_append]; rfl
      have HTK := Lib.hid htk
      have HO := hO
      clear hc hv hvk hBW hcW htk hr hget HVK
      generalize hfk : G l[k] = fk at *
      go_wp2_with fail
      refine (HCALL.out _).mono ?_
      rintro e w2 ⟨rfl, hb⟩
      have ho2 : OutV W w2 u7 ((l.take k).map G) := (HO.out.below ((Below.refl _ _).alloc (Nat.le_refl _) _)).below hb
      have hlen : ((l.take k).map G).length = k := by simp; omega
      have hsw := ho2.2.size
      have hown := ho2.1.alloc (.cells #[.string fk] 9)
      rw [hlen] at hown
      have HO2 := Lib.hid ho2
      clear ho2 hb HCALL
      go_wp2_with (at_builtin; refine wpList_append_own _ rfl _ _ 25 rfl W.heap.size 9 i (.string { data := #[] }) 1 16 Tryz.underlying25 hi hz2 hz0 hz1 rfl (by decide) _ _ _ rfl hown ⟨w2.heap.size, 0, none⟩ 1 1 [.string fk] rfl rfl (cell_one_new _ _ _) (str_one fk) (by simp only [maxLen]; omega) (by omega) (by simp; omega) ?_; intro v' w3 hown' hgrow hnil)
      have HN : Hid (OutV W w3 v' ((l.take (k + 1)).map G)) := Lib.hid (by
        rw [HTK.out]
        refine OutV.grown (HO2.out.below ((Below.refl _ _).alloc (Nat.le_refl _) _)) ?_ hgrow
        rw [hlen]; exact hown')
      clear hown' hgrow hnil hown HO2 HO
      go_wp2
      go_round
      case rel => exact ⟨k + 1, by omega, by simp, HN⟩
      case measure => simp [intOf]; omega
    · obtain rfl : k = l.length := by omega
      rw [List.take_length] at hO
      have HJ := Lib.hid (hO.out.join (sep := sep) (by simp; omega) HSZ.out)
      have HO := hO
      clear hO
      go_wp2_with fail
      refine HJ.out.mono ?_
      rintro e w2 ⟨rfl, hb⟩
      have HB2 := Lib.hid (HO.out.2.trans (hb.mono HO.out.2.size))
      clear hb
      go_wp2
      go_ret
      exact ⟨rfl, HB2.out⟩
end Go.Pr
namespace Go.Pr
open Go Go.RowKit Go.Proofs
theorem bcell {W w1 : World} (hb : Below W.heap.size W w1) : (∀ b o, b < W.heap.size → w1.cell? ⟨b, o, none⟩ = W.cell? ⟨b, o, none⟩) ∧ (∀ b o, b < W.heap.size → w1.frozen? ⟨b, o, none⟩ = W.frozen? ⟨b, o, none⟩) :=
  ⟨fun b o h => hb.cell (p := ⟨b, o, none⟩) h, fun b o h => hb.frozen (p := ⟨b, o, none⟩) h⟩
def T (d : D) : ByteArray := d.t
theorem inB2 (k a b : Int) : inB k [a, b] = (decide (a = k) || decide (b = k)) := by simp [inB]
theorem inB1 (k a : Int) : inB k [a] = decide (a = k) := by simp [inB]
theorem inB7 (k a b c d e f g : Int) : inB k [a, b, c, d, e, f, g] = (decide (a = k) || decide (b = k) || decide (c = k) || decide (d = k) || decide (e = k) || decide (f = k) || decide (g = k)) := by simp [inB, Bool.or_assoc]
theorem S.ty_k {W : World} {d : D} {v0 v2 : Int} {v1 : ByteArray} {s : Value} (h : S W .ty d [.int .u8 v0, .string v1, .int .i64 v2, s]) : d.k = v0 ∧ ∃ a c, s = .slice a d.n c := by
  cases h with
  | ty hn hr hk => obtain ⟨a, c, rfl, _⟩ := hr; exact ⟨rfl, a, c, rfl⟩
theorem S.exp_k {W : World} {d : D} {v0 v2 : Int} {v1 v3 : ByteArray} {s sr sd : Value} (h : S W .exp d [.int .u8 v0, .string v1, .int .i64 v2, .string v3, s, sr, sd]) : d.k = v0 ∧ ∃ a c, s = .slice a d.n c := by
  cases h with
  | exp hn hr hr2 hr3 hk => obtain ⟨a, c, rfl, _⟩ := hr; exact ⟨rfl, a, c, rfl⟩
theorem S.pat_k {W : World} {d : D} {v0 v2 : Int} {v1 : ByteArray} {s : Value} (h : S W .pat d [.int .u8 v0, .string v1, .int .i64 v2, s]) : d.k = v0 ∧ ∃ a c, s = .slice a d.n c := by
  cases h with
  | pat hn hr hk => obtain ⟨a, c, rfl, _⟩ := hr; exact ⟨rfl, a, c, rfl⟩
end Go.Pr
namespace Go.Pr
open Go Go.RowKit Go.Proofs
theorem lone_ok {d : D} {W0 : World} (hT : FnOK 17 .ty T W0 d) (hs : d.t.size ≤ 8796093022208) : FnOK 38 .ty loneD W0 d := by
  intro W vs hv hB
  have hT' := fun W hb => hT W vs hv hb
  obtain ⟨v0, v1, v2, a3, n3, c3, rfl⟩ := hv.ty_vals
  have hk := hv.ty_k.1
  have HT := Lib.hid hT'
  have HB := Lib.hid hB
  have hdef : loneD d = roundT d.t (decide (3 = d.k) || decide (4 = d.k)) := rfl
  rw [hk] at hdef
  have HD := Lib.hid hdef
  clear hT' hT hv hB hdef hk
  have hTt : T d = d.t := rfl
  rw [hTt] at HT
  generalize loneD d = ld at *
  generalize d.t = ft at *
  clear hTt
  go_enter Tryz.func38, Tryz.ntmps38
  go_wp2
  go_region_with (first
    | (go_at_call 17; refine (HT.out _ ?_).mono ?_; (repeat (first | exact HB.out | refine Below.drew ?_ | refine Below.alloc ?_ (by have := HB.out.size; simp; omega) _)); rintro e w' ⟨rfl, hb⟩; obtain ⟨hcc, hff⟩ := bcell hb; (have hz := hb.size); simp at hz; (have q0 := hcc W.heap.size 0 (by simp <;> omega)); (have q1 := hcc (W.heap.size + 1) 0); (have q2 := hcc (W.heap.size + 1) 1); simp [go_sem] at q0; (try (simp [go_sem] at q1)); (try (simp [go_sem] at q2)); (have hz2 : W.heap.size < w'.heap.size := by omega); (have hz3 : ¬ W.heap.size = w'.heap.size := by omega); (have HBB := Lib.hid hb); clear hb hcc hff)
    | (go_at_call 37; refine (in_ok _ [3, 4] _ _ _ (fun i x hx => by rcases i with _ | _ | i <;> simp at hx <;> subst hx <;> first | (simp [go_sem]; done) | (simp [go_sem, *]; done)) (by decide)).mono ?_; rintro e w' ⟨rfl, rfl⟩; rw [inB2])
    | (go_at_call 27; refine (round_ok _ _ _ (by omega)).mono ?_; rintro e w' ⟨rfl, rfl⟩))
  all_goals
    have HBF : Hid (Below W.heap.size W w') := by
      refine Lib.hid (Below.trans ?_ (HBB.out.mono ?_))
      · (repeat (first | exact Below.refl _ _ | refine Below.drew ?_ | refine Below.alloc ?_ (by first | omega | (simp; omega) | (simp <;> done)) _))
      · first | omega | (simp; omega) | (simp; done)
    go_wp2
    go_ret
    refine ⟨congrArg (fun x => Ending.returned (Value.string x)) HD.out.symm, ?_⟩
    repeat (first | exact HBF.out | refine Below.drew ?_ | refine Below.alloc ?_ (by first | omega | (simp; omega) | (simp <;> done)) _)
end Go.Pr
namespace Go.Pr
open Go Go.RowKit Go.Proofs
theorem arr_ok {d : D} {W0 : World} (hT : FnOK 17 .ty T W0 d) (hs : d.t.size ≤ 8796093022208) : FnOK 36 .ty arrD W0 d := by
  intro W vs hv hB
  have hT' := fun W hb => hT W vs hv hb
  obtain ⟨v0, v1, v2, a3, n3, c3, rfl⟩ := hv.ty_vals
  have hk := hv.ty_k.1
  have HT := Lib.hid hT'
  have HB := Lib.hid hB
  have hdef : arrD d = roundT d.t (decide (3 = d.k)) ++ sArrow := rfl
  rw [hk] at hdef
  have HD := Lib.hid hdef
  clear hT' hT hv hB hdef hk
  have hTt : T d = d.t := rfl
  rw [hTt] at HT
  generalize arrD d = ld at *
  generalize d.t = ft at *
  clear hTt
  have hrs := round_size ft (decide (3 = v0))
  go_enter Tryz.func36, Tryz.ntmps36
  go_wp2
  go_region_with (first
    | (go_at_call 17; refine (HT.out _ ?_).mono ?_; (repeat (first | exact HB.out | refine Below.drew ?_ | refine Below.alloc ?_ (by have := HB.out.size; simp; omega) _)); rintro e w' ⟨rfl, hb⟩; obtain ⟨hcc, hff⟩ := bcell hb; (have hz := hb.size); simp at hz; (have q0 := hcc W.heap.size 0 (by simp <;> omega)); (have q1 := hcc (W.heap.size + 1) 0); (skip); simp [go_sem] at q0; (try (simp [go_sem] at q1)); (try (skip)); (have hz2 : W.heap.size < w'.heap.size := by omega); (have hz3 : ¬ W.heap.size = w'.heap.size := by omega); (have HBB := Lib.hid hb); clear hb hcc hff)
    | (go_at_call 37; refine (in_ok _ [3] _ _ _ (fun i x hx => by rcases i with _ | _ | i <;> simp at hx <;> subst hx <;> first | (simp [go_sem]; done) | (simp [go_sem, *]; done)) (by decide)).mono ?_; rintro e w' ⟨rfl, rfl⟩; rw [inB1])
    | (go_at_call 27; refine (round_ok _ _ _ (by omega)).mono ?_; rintro e w' ⟨rfl, rfl⟩))
  all_goals
    have HBF : Hid (Below W.heap.size W w') := by
      refine Lib.hid (Below.trans ?_ (HBB.out.mono ?_))
      · (repeat (first | exact Below.refl _ _ | refine Below.drew ?_ | refine Below.alloc ?_ (by first | omega | (simp; omega) | (simp <;> done)) _))
      · first | omega | (simp; omega) | (simp; done)
    go_wp2
    go_ret
    refine ⟨congrArg (fun x => Ending.returned (Value.string x)) HD.out.symm, ?_⟩
    repeat (first | exact HBF.out | refine Below.drew ?_ | refine Below.alloc ?_ (by first | omega | (simp; omega) | (simp <;> done)) _)
end Go.Pr
namespace Go.Pr
open Go Go.RowKit Go.Proofs
theorem tight_ok {d : D} {W0 : World} (hT : FnOK 14 .exp T W0 d) (hs : d.t.size ≤ 8796093022208) : FnOK 61 .exp tightD W0 d := by
  intro W vs hv hB
  have hT' := fun W hb => hT W vs hv hb
  obtain ⟨v0, v1, v2, v3, a4, n4, c4, a5, n5, c5, a6, n6, c6, rfl⟩ := hv.exp_vals
  have hk := hv.exp_k.1
  have HT := Lib.hid hT'
  have HB := Lib.hid hB
  have hdef : tightD d = roundT d.t (decide (7 = d.k) || decide (8 = d.k) || decide (9 = d.k) || decide (11 = d.k) || decide (12 = d.k) || decide (13 = d.k) || decide (15 = d.k)) := rfl
  rw [hk] at hdef
  have HD := Lib.hid hdef
  clear hT' hT hv hB hdef hk
  have hTt : T d = d.t := rfl
  rw [hTt] at HT
  generalize tightD d = ld at *
  generalize d.t = ft at *
  clear hTt
  go_enter Tryz.func61, Tryz.ntmps61
  go_wp2
  go_region_with (first
    | (go_at_call 14; refine (HT.out _ ?_).mono ?_; (repeat (first | exact HB.out | refine Below.drew ?_ | refine Below.alloc ?_ (by have := HB.out.size; simp; omega) _)); rintro e w' ⟨rfl, hb⟩; obtain ⟨hcc, hff⟩ := bcell hb; (have hz := hb.size); simp at hz; (have q0 := hcc W.heap.size 0 (by simp <;> omega)); (have q1 := hcc (W.heap.size + 1) 0); (have q2 := hcc (W.heap.size + 1) 1); (have q3 := hcc (W.heap.size + 1) 2); (have q4 := hcc (W.heap.size + 1) 3); (have q5 := hcc (W.heap.size + 1) 4); (have q6 := hcc (W.heap.size + 1) 5); (have q7 := hcc (W.heap.size + 1) 6); simp [go_sem] at q0; (try (simp [go_sem] at q1)); (try (simp [go_sem] at q2)); (try (simp [go_sem] at q3)); (try (simp [go_sem] at q4)); (try (simp [go_sem] at q5)); (try (simp [go_sem] at q6)); (try (simp [go_sem] at q7)); (have hz2 : W.heap.size < w'.heap.size := by omega); (have hz3 : ¬ W.heap.size = w'.heap.size := by omega); (have HBB := Lib.hid hb); clear hb hcc hff)
    | (go_at_call 37; refine (in_ok _ [7, 8, 9, 11, 12, 13, 15] _ _ _ (fun i x hx => by rcases i with _ | _ | _ | _ | _ | _ | _ | i <;> simp at hx <;> subst hx <;> first | (simp [go_sem]; done) | (simp [go_sem, *]; done)) (by decide)).mono ?_; rintro e w' ⟨rfl, rfl⟩; rw [inB7])
    | (go_at_call 27; refine (round_ok _ _ _ (by omega)).mono ?_; rintro e w' ⟨rfl, rfl⟩))
  all_goals
    have HBF : Hid (Below W.heap.size W w') := by
      refine Lib.hid (Below.trans ?_ (HBB.out.mono ?_))
      · (repeat (first | exact Below.refl _ _ | refine Below.drew ?_ | refine Below.alloc ?_ (by first | omega | (simp; omega) | (simp <;> done)) _))
      · first | omega | (simp; omega) | (simp; done)
    go_wp2
    go_ret
    refine ⟨congrArg (fun x => Ending.returned (Value.string x)) HD.out.symm, ?_⟩
    repeat (first | exact HBF.out | refine Below.drew ?_ | refine Below.alloc ?_ (by first | omega | (simp; omega) | (simp <;> done)) _)
end Go.Pr
namespace Go.Pr
open Go Go.RowKit Go.Proofs
theorem w_mem {l : List D} {x : D} (h : x ∈ l) : x.w ≤ wsum l := mem_le_sum (List.mem_map.2 ⟨x, h, rfl⟩)
theorem fits_of {W : World} {nd : Nd} {l : List D} {vf : Nat → List Value} (h : ∀ i x, l[i]? = some x → S W nd x (vf i)) : Fits l := fun x hx => by
  obtain ⟨i, hi, rfl⟩ := List.getElem_of_mem hx
  exact S_fit (h i _ (List.getElem?_eq_getElem hi))
structure Row (W : World) (nd : Nd) (sz : Nat) (s : Value) (l : List D) (vf : Nat → List Value) : Prop where
  row : RowC W sz s l.length vf
  kid : ∀ i x, l[i]? = some x → S W nd x (vf i)
theorem Row.fits {W : World} {nd : Nd} {sz : Nat} {s : Value} {l : List D} {vf : Nat → List Value} (h : Row W nd sz s l vf) : Fits l := fits_of h.kid
theorem Row.slice {W : World} {nd : Nd} {sz : Nat} {s : Value} {l : List D} {vf : Nat → List Value} (h : Row W nd sz s l vf) : ∃ a c, s = .slice a l.length c := by
  obtain ⟨a, c, rfl, _⟩ := h.row; exact ⟨a, c, rfl⟩
theorem Row.mem {W : World} {nd : Nd} {sz : Nat} {s : Value} {l : List D} {vf : Nat → List Value} (h : Row W nd sz s l vf) {x : D} (hx : x ∈ l) : ∃ i, l[i]? = some x ∧ S W nd x (vf i) := by
  obtain ⟨i, hi, rfl⟩ := List.getElem_of_mem hx
  exact ⟨i, List.getElem?_eq_getElem hi, h.kid i _ (List.getElem?_eq_getElem hi)⟩
theorem Row.cells {W : World} {nd : Nd} {sz : Nat} {a : Option Addr} {n c : Nat} {l : List D} {vf : Nat → List Value} (h : Row W nd sz (.slice a n c) l vf) (h0 : 0 < l.length) : ∃ b o, a = some ⟨b, o, none⟩ ∧ ∀ i, i < l.length → Cells W b (o + i * sz) (vf i) := by
  obtain ⟨a', c', he, _, hr⟩ := h.row
  cases he
  exact hr h0
theorem Row.cap {W : World} {nd : Nd} {sz : Nat} {a : Option Addr} {n c : Nat} {l : List D} {vf : Nat → List Value} (h : Row W nd sz (.slice a n c) l vf) : l.length ≤ c := by
  obtain ⟨a', c', he, h1, _⟩ := h.row
  cases he
  exact h1
theorem Row.dropLast {W : World} {nd : Nd} {sz : Nat} {a : Option Addr} {n c : Nat} {l : List D} {vf : Nat → List Value} (h : Row W nd sz (.slice a n c) l vf) : Row W nd sz (.slice a (l.length - 1) c) l.dropLast vf := by
  obtain ⟨a', c', he, h1, hr⟩ := h.row
  cases he
  refine ⟨⟨a, c, by simp, by simp; omega, fun h0 => ?_⟩, fun i x hx => ?_⟩
  · simp at h0
    obtain ⟨b, o, ha, hc⟩ := hr (by omega)
    exact ⟨b, o, ha, fun i hi => hc i (by simp at hi; omega)⟩
  · refine h.kid i x ?_
    rw [List.dropLast_eq_take, List.getElem?_take] at hx
    split at hx
    · exact hx
    · cases hx
theorem Row.frozen_lt {W : World} {b o : Nat} {vs : List Value} {v : Value} (h : Cells W b o (v :: vs)) : b < W.heap.size := cell_lt (h 0 v rfl)
theorem S.ty_parts {W : World} {d : D} {vs : List Value} (h : S W .ty d vs) : ∃ k name num a l c vf, vs = [.int .u8 k, .string name, .int .i64 num, .slice a l.length c] ∧ d.t = tyText k name num l ∧ d.k = k ∧ d.n = l.length ∧ i64 num ∧ Row W .ty 4 (.slice a l.length c) l vf ∧ 1 + name.size + wsum l = d.w := by
  cases h with
  | ty hn hr hk => obtain ⟨a, c, rfl⟩ := Row.slice ⟨hr, hk⟩; exact ⟨_, _, _, a, _, c, _, rfl, rfl, rfl, rfl, hn, ⟨hr, hk⟩, rfl⟩
theorem S.pat_parts {W : World} {d : D} {vs : List Value} (h : S W .pat d vs) : ∃ k name num a l c vf, vs = [.int .u8 k, .string name, .int .i64 num, .slice a l.length c] ∧ d.t = patText k name num l ∧ d.k = k ∧ d.n = l.length ∧ i64 num ∧ Row W .pat 4 (.slice a l.length c) l vf ∧ 1 + name.size + wsum l = d.w := by
  cases h with
  | pat hn hr hk => obtain ⟨a, c, rfl⟩ := Row.slice ⟨hr, hk⟩; exact ⟨_, _, _, a, _, c, _, rfl, rfl, rfl, rfl, hn, ⟨hr, hk⟩, rfl⟩
theorem S.exp_parts {W : World} {d : D} {vs : List Value} (h : S W .exp d vs) : ∃ k name num text a4 l c4 vf a5 lr c5 vr a6 ld c6 vd, vs = [.int .u8 k, .string name, .int .i64 num, .string text, .slice a4 l.length c4, .slice a5 lr.length c5, .slice a6 ld.length c6] ∧ d.t = expText k name num text l lr ld ∧ d.k = k ∧ d.n = l.length ∧ i64 num ∧
    Row W .exp 7 (.slice a4 l.length c4) l vf ∧ Row W .rule 11 (.slice a5 lr.length c5) lr vr ∧ Row W .dec 16 (.slice a6 ld.length c6) ld vd ∧ 1 + name.size + text.size + wsum l + wsum lr + wsum ld = d.w := by
  cases h with
  | exp hn hr h2 h3 k1 k2 k3 =>
    obtain ⟨a4, c4, rfl⟩ := Row.slice ⟨hr, k1⟩
    obtain ⟨a5, c5, rfl⟩ := Row.slice ⟨h2, k2⟩
    obtain ⟨a6, c6, rfl⟩ := Row.slice ⟨h3, k3⟩
    exact ⟨_, _, _, _, a4, _, c4, _, a5, _, c5, _, a6, _, c6, _, rfl, rfl, rfl, rfl, hn, ⟨hr, k1⟩, ⟨h2, k2⟩, ⟨h3, k3⟩, rfl⟩
theorem S.rule_parts {W : World} {d : D} {vs : List Value} (h : S W .rule d vs) : ∃ p e vp ve, vs = vp ++ ve ∧ S W .pat p vp ∧ S W .exp e ve ∧ d.t = p.t ++ sFat ++ tightD e ∧ 1 + p.w + e.w = d.w := by
  cases h with
  | rule hp he => exact ⟨_, _, _, _, rfl, hp, he, rfl, rfl⟩
theorem S.con_parts {W : World} {d : D} {vs : List Value} (h : S W .con d vs) : ∃ name has t vt, vs = .string name :: .bool has :: vt ∧ S W .ty t vt ∧ d.t = conText name has t ∧ 1 + name.size + t.w = d.w := by
  cases h with
  | con ht => exact ⟨_, _, _, _, rfl, ht, rfl, rfl⟩
theorem S.fn_parts {W : World} {d : D} {vs : List Value} (h : S W .fn d vs) : ∃ name args sa e ve, vs = .string name :: sa :: ve ∧ RowC W 1 sa args.length (fun i => [.string (args.getD i emp)]) ∧ S W .exp e ve ∧ d.t = funText name args e ∧ 1 + name.size + (args.map fun x => 1 + x.size).sum + e.w = d.w := by
  cases h with
  | fn ha he => exact ⟨_, _, _, _, _, rfl, ha, he, rfl, rfl⟩
theorem S.dec_parts {W : World} {d : D} {vs : List Value} (h : S W .dec d vs) : ∃ k name vars sv sc sf lc lf vc vf t e vt ve, vs = .int .u8 k :: .string name :: sv :: sc :: sf :: (vt ++ ve) ∧ RowC W 1 sv vars.length (fun i => [.string (vars.getD i emp)]) ∧ Row W .con 6 sc lc vc ∧ Row W .fn 9 sf lf vf ∧ S W .ty t vt ∧ S W .exp e ve ∧ d.t = decText k name vars lc lf t e ∧ 1 + name.size + (vars.map fun x => 1 + x.size).sum + wsum lc + wsum lf + t.w + e.w = d.w := by
  cases h with
  | dec h1 h2 h3 h4 h5 ht he => exact ⟨_, _, _, _, _, _, _, _, _, _, _, _, _, _, rfl, h1, ⟨h2, h4⟩, ⟨h3, h5⟩, ht, he, rfl, rfl⟩
theorem bl0 {W : World} : Hid (Below W.heap.size W W) := Lib.hid (Below.refl _ _)
theorem bl5 {W : World} : Hid (Below W.heap.size W W.drew) := Lib.hid (Below.drew (Below.refl _ _))
theorem bl1 {n : Nat} {W w : World} {p : Prop} (h : Hid (Below n W w) ∧ p) : Hid (Below n W w) := h.1
theorem bl2 {n : Nat} {W w : World} {p : Prop} (h : Hid (Below n W w) ∧ p) : Hid (Below n W w.drew) := Lib.hid (Below.drew h.1.out)
theorem bl3 {n : Nat} {W w : World} (h : Hid (Below n W w)) : Hid (Below n W w.drew) := Lib.hid (Below.drew h.out)
theorem bl4 {W w : World} {p : Prop} (h : Hid (Below W.heap.size W w) ∧ p) {o : Obj} : Hid (Below W.heap.size W (w.alloc o)) := Lib.hid (h.1.out.alloc h.1.out.size o)
theorem lift {fn : Nat} {args : Array Value} {W0 W1 : World} {G : Ending} (hBW : Below W0.heap.size W0 W1) (h : ∀ w, Below W0.heap.size W0 w → Calls Tryz.prog fn args w fun e w' => e = G ∧ Below w.heap.size w w') :
    Hid (∀ w, Hid (Below W1.heap.size W1 w) → Calls Tryz.prog fn args w fun e w' => e = G ∧ Hid (Below W1.heap.size W1 w')) :=
  Lib.hid fun w hb => (h w (hBW.trans (hb.out.mono hBW.size))).mono fun _ _ h => ⟨h.1, Lib.hid (hb.out.trans (h.2.mono hb.out.size))⟩
theorem wsum_dropLast (l : List D) : wsum l.dropLast ≤ wsum l := by
  rw [List.dropLast_eq_take]
  have : wsum l = wsum (l.take (l.length - 1)) + wsum (l.drop (l.length - 1)) := by
    unfold wsum
    rw [← List.sum_append, ← List.map_append, List.take_append_drop]
  omega
theorem eq_emp {b : ByteArray} (h : b.size = 0) : b = emp := by
  cases b with
  | mk d =>
    have : d = #[] := Array.eq_empty_of_size_eq_zero h
    rw [this]; rfl
theorem ne_emp {b : ByteArray} (h : b.size ≠ 0) : b.toList.isEmpty = false := by
  rw [List.isEmpty_eq_false_iff, Lib.toList_data]
  intro e
  exact h (by show b.data.size = 0; rw [← Array.length_toList, e]; rfl)
theorem wrap_small (n : Int) (h0 : -9223372036854775808 ≤ n) (h1 : n ≤ 9223372036854775807) : IntKind.i64.wrap n = n := by
  have w : IntKind.i64.wrap n = (n + 9223372036854775808) % 18446744073709551616 - 9223372036854775808 := by rw [IntKind.wrap_i64]
  rw [w]; omega
def M : Nat := 1048576
theorem F_M : F M = 1099578736640 := by decide
theorem F_leM {n : Nat} (h : n ≤ 1048576) : F n ≤ 1099578736640 := by have := F_le h; have e := F_M; rw [M] at e; omega
theorem S.size_le {W : World} {nd : Nd} {d : D} {vs : List Value} (h : S W nd d vs) (hw : d.w ≤ 1048576) : d.t.size + 16 ≤ 1099578736640 := by
  have h1 := (S_fit h).2
  have h2 := F_leM hw
  omega
theorem joinM {l : List D} {g : D → ByteArray} {sep : ByteArray} (h : Fits l) (hw : wsum l ≤ 1048576) (hg : ∀ x ∈ l, (g x).size + sep.size ≤ x.t.size + 16) : (joinB (l.map g) sep).size ≤ 1099578736640 :=
  Nat.le_trans (join_fit h hg) (F_leM hw)
theorem round_ok2 (s : ByteArray) (so : Bool) (w : World) (hs : s.size ≤ 17592186044416) : Calls Tryz.prog 27 #[.string s, .bool so] w fun e w' => ∃ r, e = .returned (.string r) ∧ Hid (r = roundT s so) ∧ r.size ≤ s.size + 2 ∧ w' = w :=
  (round_ok s so w hs).mono fun _ _ h => ⟨_, h.1, Lib.hid rfl, round_size _ _, h.2⟩
end Go.Pr
