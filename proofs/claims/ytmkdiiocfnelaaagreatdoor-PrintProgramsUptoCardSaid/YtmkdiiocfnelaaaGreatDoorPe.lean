/- How the document tells rows, rules and types, walked by hand. Each says its own conditions. -/
import Derived.Test.YtmkdiiocfnelaaaGreatDoorPb
import Derived.Deep.RegionHeld3
set_option linter.unusedVariables false
set_option linter.unusedSimpArgs false
set_option maxRecDepth 100000
set_option maxHeartbeats 4000000
namespace Go.Pr
open Go Go.RowKit Go.Proofs
def StrRow (W : World) (s : Value) (xs : List ByteArray) : Prop := ∃ a c, s = .slice a xs.length c ∧ (0 < xs.length → ∃ b o, a = some ⟨b, o, none⟩ ∧ ∀ j x, xs[j]? = some x → W.cell? ⟨b, o + j, none⟩ = some (.string x))
theorem StrRow.of_out {W wr : World} {out : Value} {xs : List ByteArray} (h : OutV W wr out xs) : StrRow wr out xs := by
  rcases h.1.2 with ⟨rfl, h0⟩ | ⟨g, cap, cur, rfl, h2, h3, h4, h5, h6, h7⟩
  · exact ⟨none, 0, by rw [h0], fun e => by omega⟩
  · refine ⟨_, cap, rfl, fun _ => ⟨g, 0, rfl, fun j x hj => ?_⟩⟩
    have := h.1.cells (g := g) rfl j (.string x) (by rw [List.getElem?_map, hj]; rfl)
    rw [show (⟨g, 0, none⟩ : Addr).add j = ⟨g, 0 + j, none⟩ by unfold Addr.add; split <;> simp_all] at this
    exact this
theorem StrRow.of_row {W0 W : World} {s : Value} {xs : List ByteArray} (hr : RowC W0 1 s xs.length (fun i => [.string (xs.getD i emp)])) (hB : Below W0.heap.size W0 W) : StrRow W s xs := by
  obtain ⟨a, c, rfl, hc, hrow⟩ := hr
  refine ⟨a, c, rfl, fun h0 => ?_⟩
  obtain ⟨b, o, rfl, hcs⟩ := hrow h0
  refine ⟨b, o, rfl, fun j x hj => ?_⟩
  have hj' := (List.getElem?_eq_some_iff.1 hj).1
  have q := (hcs j hj').below hB 0 _ rfl
  simp only [Nat.mul_one, Nat.add_zero] at q
  rw [q, List.getD_eq_getElem?_getD, hj]
  rfl
theorem rjoin_ok {wr : World} {out : Value} {xs : List ByteArray} {sep : ByteArray} (h : StrRow wr out xs) (hn : xs.length ≤ 1099511627776) (hsz : (xs.map fun x => x.size + sep.size).sum ≤ 8796093022208) :
    Calls Tryz.prog 18 #[out, .string sep] wr fun e w' => e = .returned (.string (joinB xs sep)) ∧ w' = wr := by
  obtain ⟨a, c, rfl, hc⟩ := h
  have HC := Lib.hid hc
  have hle := fun k => joinB_takele xs sep k
  have HLE := Lib.hid hle
  have hsep : 0 < xs.length → sep.size ≤ 8796093022208 := fun h => by
    match xs, h with
    | x :: r, _ => rw [List.map_cons, List.sum_cons] at hsz; omega
  have hx : ∀ k (hk : k < xs.length), xs[k].size ≤ 8796093022208 := fun k hk => by
    have : xs[k].size + sep.size ≤ (xs.map fun x => x.size + sep.size).sum := by
      have hm : (xs[k].size + sep.size) ∈ xs.map fun x => x.size + sep.size := List.mem_map.2 ⟨xs[k], List.getElem_mem hk, rfl⟩
      exact mem_le_sum hm
    omega
  have HX := Lib.hid hx
  have HS := Lib.hid hsep
  clear hc hle hx hsep
  go_enter Tryz.func18, Tryz.ntmps18
  go_wp2
  go_loop [5, 6] (fun o i => ∃ k : Nat, k ≤ xs.length ∧ i = .int .i64 k ∧ o = .string (joinB (xs.take k) sep)) (fun _ i => xs.length - (intOf i).toNat)
  case atStart => exact ⟨0, Nat.zero_le _, rfl, rfl⟩
  case round =>
    obtain ⟨k, hk, rfl, rfl⟩ := hrel
    by_cases hlt : k < xs.length
    · obtain ⟨g, o, rfl, hg⟩ := HC.out (by omega)
      have ck := hg k _ (List.getElem?_eq_getElem hlt)
      have hs1 := HLE.out k
      have hs2 := HX.out k hlt
      have hs3 := HS.out (by omega)
      by_cases h0 : k = 0
      · subst h0
        rw [Nat.add_zero] at ck
        have hj := Lib.hid (joinB_zero hlt sep)
        have he : joinB (xs.take 0) sep = { data := #[] } := by rw [List.take_zero]; rfl
        have hemp : ({ data := #[] } : ByteArray) ++ xs[0] = xs[0] := bytes_of (by rw [append_list]; rfl)
        rw [he]
        clear hg hs1 he
        generalize xs[0] = x0 at *
        go_wp2
        go_round
        case rel => exact ⟨1, by omega, by simp, by first | exact congrArg Value.string hj.out.symm | exact congrArg Value.string (hemp.trans hj.out.symm)⟩
        case measure => simp [intOf]; omega
      · have hj := Lib.hid (joinB_succ hlt (by omega) sep)
        have hk0 : (0 : Int) < (k : Int) := by omega
        clear hg
        generalize joinB (xs.take k) sep = J at *
        generalize xs[k] = x0 at *
        go_wp2
        go_round
        case rel => exact ⟨k + 1, by omega, by simp, congrArg Value.string hj.out.symm⟩
        case measure => simp [intOf]; omega
    · obtain rfl : k = xs.length := by omega
      rw [List.take_length]
      go_wp2
      go_ret
      exact ⟨rfl, rfl⟩
theorem joinS {l : List D} {g : D → ByteArray} {sep : ByteArray} (h : Fits l) (hw : wsum l ≤ 1048576) (hg : ∀ x ∈ l, (g x).size + sep.size ≤ x.t.size + 16) : ((l.map g).map fun x => x.size + sep.size).sum ≤ 1099578736640 := by
  rw [List.map_map]
  exact Nat.le_trans (sum_fit (g := fun x => (g x).size + sep.size) h hg) (F_leM hw)
end Go.Pr
namespace Go.Pr
open Go Go.RowKit Go.Proofs
theorem all_ok {l : List D} {vf : Nat → List Value} {W0 W : World} {s : Value} (hs : RowC W 7 s l.length vf) (hv : ∀ i x, l[i]? = some x → S W0 .exp x (vf i)) (hB : Below W0.heap.size W0 W) (hl : l.length ≤ 1048576) (hF : ∀ x ∈ l, FnOK 20 .exp T W0 x) :
    Calls Tryz.prog 41 #[s] W fun e w' => ∃ out, e = .returned out ∧ Hid (OutV W w' out (l.map T)) := by
  obtain ⟨a, c, rfl, hlc, hrow⟩ := hs
  obtain ⟨i, hi, hi2⟩ := Option.map_eq_some_iff.1 i9
  injection hi2 with hz0 hz1
  injection hz1 with hz1 hz2
  have HR := Lib.hid hrow
  have HV := Lib.hid hv
  have HF := Lib.hid hF
  have HB := Lib.hid hB
  have hst : OutV W W (.slice none 0 0) ([] : List ByteArray) := ⟨World.ownsRow_nil _ _ _ _, Below.refl _ _⟩
  have HST := Lib.hid hst
  clear hst hrow hv hF hB hlc
  go_enter Tryz.func41, Tryz.ntmps41
  go_wp2
  go_loopw [3, 4] (fun out j wr => ∃ k : Nat, k ≤ l.length ∧ j = .int .i64 k ∧ Hid (OutV W wr out ((l.take k).map T))) (fun _ j _ => l.length - (intOf j).toNat)
  case atStart => exact ⟨0, Nat.zero_le _, rfl, by rw [List.take_zero]; exact HST⟩
  case round =>
    obtain ⟨k, hk, rfl, hO⟩ := hrel
    by_cases hlt : k < l.length
    · obtain ⟨b, o, rfl, hr⟩ := HR.out (by omega)
      have hget : l[k]? = some l[k] := List.getElem?_eq_getElem hlt
      have hc := hr k hlt
      have hv := HV.out k _ hget
      obtain ⟨v0, v1, v2, v3, a4, n4, c4, a5, n5, c5, a6, n6, c6, hvk⟩ := hv.exp_vals
      rw [hvk] at hc hv
      have HVK := Lib.hid hv
      have hBW := HB.out.trans (hO.out.2.mono HB.out.size)
      have hcW := hc.below hO.out.2
      have k0 : wr.cell? ⟨b, o + k * 7, none⟩ = some (.int .u8 v0) := hcW 0 _ rfl
      have k1 : wr.cell? ⟨b, o + k * 7 + 1, none⟩ = some (.string v1) := hcW 1 _ rfl
      have k2 : wr.cell? ⟨b, o + k * 7 + 2, none⟩ = some (.int .i64 v2) := hcW 2 _ rfl
      have k3 : wr.cell? ⟨b, o + k * 7 + 3, none⟩ = some (.string v3) := hcW 3 _ rfl
      have k4 : wr.cell? ⟨b, o + k * 7 + 4, none⟩ = some (.slice a4 n4 c4) := hcW 4 _ rfl
      have k5 : wr.cell? ⟨b, o + k * 7 + 5, none⟩ = some (.slice a5 n5 c5) := hcW 5 _ rfl
      have k6 : wr.cell? ⟨b, o + k * 7 + 6, none⟩ = some (.slice a6 n6 c6) := hcW 6 _ rfl
      have HCALL := Lib.hid (HF.out l[k] (List.getElem_mem hlt) wr _ HVK.out hBW)
      have htk : (l.take (k + 1)).map T = (l.take k).map T ++ [T l[k]] := by rw [List.take_succ_eq_append_getElem hlt, List.map_append]; rfl
      have HTK := Lib.hid htk
      have HO := hO
      clear hc hv hvk hBW hcW htk hr hget HVK
      generalize hfk : T l[k] = fk at *
      go_wp2_with fail
      refine (HCALL.out).mono ?_
      rintro e w2 ⟨rfl, hb⟩
      have ho2 : OutV W w2 u3 ((l.take k).map T) := HO.out.below hb
      have hlen : ((l.take k).map T).length = k := by simp; omega
      have hsw := ho2.2.size
      have hown := ho2.1.alloc (.cells #[.string fk] 9)
      rw [hlen] at hown
      have HO2 := Lib.hid ho2
      clear ho2 hb HCALL
      go_wp2_with (at_builtin; refine wpList_append_own _ rfl _ _ 25 rfl W.heap.size 9 i (.string { data := #[] }) 1 16 Tryz.underlying25 hi hz2 hz0 hz1 rfl (by decide) _ _ _ rfl hown ⟨w2.heap.size, 0, none⟩ 1 1 [.string fk] rfl rfl (cell_one_new _ _ _) (str_one fk) (by simp only [maxLen]; omega) (by omega) (by simp; omega) ?_; intro v' w3 hown' hgrow hnil)
      have HN : Hid (OutV W w3 v' ((l.take (k + 1)).map T)) := Lib.hid (by
        rw [HTK.out]
        refine OutV.grown (HO2.out.below ((Below.refl _ _).alloc (Nat.le_refl _) _)) ?_ hgrow
        rw [hlen]; exact hown')
      clear hown' hgrow hnil hown HO2 HO
      go_wp2
      go_round
      case rel => exact ⟨k + 1, by omega, by simp, HN⟩
      case measure => simp [intOf]; omega
    · obtain rfl : k = l.length := by omega
      rw [List.take_length] at hO
      have HO := hO
      clear hO
      go_wp2
      go_ret
      exact ⟨_, rfl, HO⟩
end Go.Pr
namespace Go.Pr
open Go Go.RowKit Go.Proofs
theorem rtight_ok {l : List D} {vf : Nat → List Value} {W0 W : World} {s : Value} (hs : RowC W 7 s l.length vf) (hv : ∀ i x, l[i]? = some x → S W0 .exp x (vf i)) (hB : Below W0.heap.size W0 W) (hl : l.length ≤ 1048576) (hz : ∀ x ∈ l, x.t.size ≤ 1099578736640) (hF : ∀ x ∈ l, FnOK 20 .exp T W0 x) :
    Calls Tryz.prog 42 #[s] W fun e w' => ∃ out, e = .returned out ∧ Hid (OutV W w' out (l.map tightD)) := by
  obtain ⟨a, c, rfl, hlc, hrow⟩ := hs
  obtain ⟨i, hi, hi2⟩ := Option.map_eq_some_iff.1 i9
  injection hi2 with hz0 hz1
  injection hz1 with hz1 hz2
  have HR := Lib.hid hrow
  have HV := Lib.hid hv
  have HF := Lib.hid hF
  have HB := Lib.hid hB
  have hst : OutV W W (.slice none 0 0) ([] : List ByteArray) := ⟨World.ownsRow_nil _ _ _ _, Below.refl _ _⟩
  have HST := Lib.hid hst
  clear hst hrow hv hF hB hlc
  go_enter Tryz.func42, Tryz.ntmps42
  go_wp2
  go_loopw [3, 4] (fun out j wr => ∃ k : Nat, k ≤ l.length ∧ j = .int .i64 k ∧ Hid (OutV W wr out ((l.take k).map tightD))) (fun _ j _ => l.length - (intOf j).toNat)
  case atStart => exact ⟨0, Nat.zero_le _, rfl, by rw [List.take_zero]; exact HST⟩
  case round =>
    obtain ⟨k, hk, rfl, hO⟩ := hrel
    by_cases hlt : k < l.length
    · obtain ⟨b, o, rfl, hr⟩ := HR.out (by omega)
      have hget : l[k]? = some l[k] := List.getElem?_eq_getElem hlt
      have hc := hr k hlt
      have hv := HV.out k _ hget
      obtain ⟨v0, v1, v2, v3, a4, n4, c4, a5, n5, c5, a6, n6, c6, hvk⟩ := hv.exp_vals
      rw [hvk] at hc hv
      have hv0 := hv.exp_k.1
      have HVK := Lib.hid hv
      have hBW := HB.out.trans (hO.out.2.mono HB.out.size)
      have hcW := hc.below hO.out.2
      have k0 : wr.cell? ⟨b, o + k * 7, none⟩ = some (.int .u8 v0) := hcW 0 _ rfl
      have k1 : wr.cell? ⟨b, o + k * 7 + 1, none⟩ = some (.string v1) := hcW 1 _ rfl
      have k2 : wr.cell? ⟨b, o + k * 7 + 2, none⟩ = some (.int .i64 v2) := hcW 2 _ rfl
      have k3 : wr.cell? ⟨b, o + k * 7 + 3, none⟩ = some (.string v3) := hcW 3 _ rfl
      have k4 : wr.cell? ⟨b, o + k * 7 + 4, none⟩ = some (.slice a4 n4 c4) := hcW 4 _ rfl
      have k5 : wr.cell? ⟨b, o + k * 7 + 5, none⟩ = some (.slice a5 n5 c5) := hcW 5 _ rfl
      have k6 : wr.cell? ⟨b, o + k * 7 + 6, none⟩ = some (.slice a6 n6 c6) := hcW 6 _ rfl
      have HCALL := Lib.hid (HF.out l[k] (List.getElem_mem hlt) wr _ HVK.out hBW)
      have htk : (l.take (k + 1)).map tightD = (l.take k).map tightD ++ [tightD l[k]] := by rw [List.take_succ_eq_append_getElem hlt, List.map_append]; rfl
      have HTK := Lib.hid htk
      have HO := hO
      clear hc hv hvk hBW hcW htk hr hget HVK
      have hsz : (T l[k]).size ≤ 1099578736640 := hz l[k] (List.getElem_mem hlt)
      have hkk : l[k].k = v0 := hv0
      have hdef : tightD l[k] = roundT (T l[k]) (isLoose v0) := by unfold tightD; rw [hkk]; rfl
      have HDEF := Lib.hid hdef
      clear hdef hkk hv0
      generalize hfk : T l[k] = tk at *
      generalize hfg : tightD l[k] = fk at *
      go_wp2_with fail
      refine (HCALL.out).mono ?_
      rintro e w2 ⟨rfl, hb⟩
      have hbw2 := hb
      have q0 : w2.cell? ⟨b, o + k * 7, none⟩ = some (.int .u8 v0) := (hb.cell (p := ⟨b, o + k * 7, none⟩) (cell_lt k0)).trans k0
      have HBB := Lib.hid hb
      clear hb hbw2
      by_cases h7 : v0 = 7
      · subst h7
        obtain rfl : fk = ({ data := #[40] } : ByteArray) ++ tk ++ ({ data := #[41] } : ByteArray) := HDEF.out
        have ho2 : OutV W w2 u3 ((l.take k).map tightD) := HO.out.below HBB.out
        have hlen : ((l.take k).map tightD).length = k := by simp; omega
        have hsw := ho2.2.size
        have hown := ho2.1.alloc (.cells #[.string (({ data := #[40] } : ByteArray) ++ tk ++ ({ data := #[41] } : ByteArray))] 9)
        rw [hlen] at hown
        have HO2 := Lib.hid ho2
        clear ho2 HCALL
        go_wp2_with (at_builtin; refine wpList_append_own _ rfl _ _ 25 rfl W.heap.size 9 i (.string { data := #[] }) 1 16 Tryz.underlying25 hi hz2 hz0 hz1 rfl (by decide) _ _ _ rfl hown ⟨w2.heap.size, 0, none⟩ 1 1 [.string (({ data := #[40] } : ByteArray) ++ tk ++ ({ data := #[41] } : ByteArray))] rfl rfl (cell_one_new _ _ _) (str_one _) (by simp only [maxLen]; omega) (by omega) (by simp; omega) ?_; intro v' w3 hown' hgrow hnil)
        have HN : Hid (OutV W w3 v' ((l.take (k + 1)).map tightD)) := Lib.hid (by
          rw [HTK.out]
          refine OutV.grown (HO2.out.below ((Below.refl _ _).alloc (Nat.le_refl _) _)) ?_ hgrow
          rw [hlen]; exact hown')
        clear hown' hgrow hnil hown HO2 HO
        go_wp2
        go_round
        case rel => exact ⟨k + 1, by omega, by simp, HN⟩
        case measure => simp [intOf]; omega
      have e7 : (v0 == 7) = false := by simpa using h7
      by_cases h8 : v0 = 8
      · subst h8
        obtain rfl : fk = ({ data := #[40] } : ByteArray) ++ tk ++ ({ data := #[41] } : ByteArray) := HDEF.out
        have ho2 : OutV W w2 u3 ((l.take k).map tightD) := HO.out.below HBB.out
        have hlen : ((l.take k).map tightD).length = k := by simp; omega
        have hsw := ho2.2.size
        have hown := ho2.1.alloc (.cells #[.string (({ data := #[40] } : ByteArray) ++ tk ++ ({ data := #[41] } : ByteArray))] 9)
        rw [hlen] at hown
        have HO2 := Lib.hid ho2
        clear ho2 HCALL
        go_wp2_with (at_builtin; refine wpList_append_own _ rfl _ _ 25 rfl W.heap.size 9 i (.string { data := #[] }) 1 16 Tryz.underlying25 hi hz2 hz0 hz1 rfl (by decide) _ _ _ rfl hown ⟨w2.heap.size, 0, none⟩ 1 1 [.string (({ data := #[40] } : ByteArray) ++ tk ++ ({ data := #[41] } : ByteArray))] rfl rfl (cell_one_new _ _ _) (str_one _) (by simp only [maxLen]; omega) (by omega) (by simp; omega) ?_; intro v' w3 hown' hgrow hnil)
        have HN : Hid (OutV W w3 v' ((l.take (k + 1)).map tightD)) := Lib.hid (by
          rw [HTK.out]
          refine OutV.grown (HO2.out.below ((Below.refl _ _).alloc (Nat.le_refl _) _)) ?_ hgrow
          rw [hlen]; exact hown')
        clear hown' hgrow hnil hown HO2 HO
        go_wp2
        go_round
        case rel => exact ⟨k + 1, by omega, by simp, HN⟩
        case measure => simp [intOf]; omega
      have e8 : (v0 == 8) = false := by simpa using h8
      by_cases h9 : v0 = 9
      · subst h9
        obtain rfl : fk = ({ data := #[40] } : ByteArray) ++ tk ++ ({ data := #[41] } : ByteArray) := HDEF.out
        have ho2 : OutV W w2 u3 ((l.take k).map tightD) := HO.out.below HBB.out
        have hlen : ((l.take k).map tightD).length = k := by simp; omega
        have hsw := ho2.2.size
        have hown := ho2.1.alloc (.cells #[.string (({ data := #[40] } : ByteArray) ++ tk ++ ({ data := #[41] } : ByteArray))] 9)
        rw [hlen] at hown
        have HO2 := Lib.hid ho2
        clear ho2 HCALL
        go_wp2_with (at_builtin; refine wpList_append_own _ rfl _ _ 25 rfl W.heap.size 9 i (.string { data := #[] }) 1 16 Tryz.underlying25 hi hz2 hz0 hz1 rfl (by decide) _ _ _ rfl hown ⟨w2.heap.size, 0, none⟩ 1 1 [.string (({ data := #[40] } : ByteArray) ++ tk ++ ({ data := #[41] } : ByteArray))] rfl rfl (cell_one_new _ _ _) (str_one _) (by simp only [maxLen]; omega) (by omega) (by simp; omega) ?_; intro v' w3 hown' hgrow hnil)
        have HN : Hid (OutV W w3 v' ((l.take (k + 1)).map tightD)) := Lib.hid (by
          rw [HTK.out]
          refine OutV.grown (HO2.out.below ((Below.refl _ _).alloc (Nat.le_refl _) _)) ?_ hgrow
          rw [hlen]; exact hown')
        clear hown' hgrow hnil hown HO2 HO
        go_wp2
        go_round
        case rel => exact ⟨k + 1, by omega, by simp, HN⟩
        case measure => simp [intOf]; omega
      have e9 : (v0 == 9) = false := by simpa using h9
      by_cases h11 : v0 = 11
      · subst h11
        obtain rfl : fk = ({ data := #[40] } : ByteArray) ++ tk ++ ({ data := #[41] } : ByteArray) := HDEF.out
        have ho2 : OutV W w2 u3 ((l.take k).map tightD) := HO.out.below HBB.out
        have hlen : ((l.take k).map tightD).length = k := by simp; omega
        have hsw := ho2.2.size
        have hown := ho2.1.alloc (.cells #[.string (({ data := #[40] } : ByteArray) ++ tk ++ ({ data := #[41] } : ByteArray))] 9)
        rw [hlen] at hown
        have HO2 := Lib.hid ho2
        clear ho2 HCALL
        go_wp2_with (at_builtin; refine wpList_append_own _ rfl _ _ 25 rfl W.heap.size 9 i (.string { data := #[] }) 1 16 Tryz.underlying25 hi hz2 hz0 hz1 rfl (by decide) _ _ _ rfl hown ⟨w2.heap.size, 0, none⟩ 1 1 [.string (({ data := #[40] } : ByteArray) ++ tk ++ ({ data := #[41] } : ByteArray))] rfl rfl (cell_one_new _ _ _) (str_one _) (by simp only [maxLen]; omega) (by omega) (by simp; omega) ?_; intro v' w3 hown' hgrow hnil)
        have HN : Hid (OutV W w3 v' ((l.take (k + 1)).map tightD)) := Lib.hid (by
          rw [HTK.out]
          refine OutV.grown (HO2.out.below ((Below.refl _ _).alloc (Nat.le_refl _) _)) ?_ hgrow
          rw [hlen]; exact hown')
        clear hown' hgrow hnil hown HO2 HO
        go_wp2
        go_round
        case rel => exact ⟨k + 1, by omega, by simp, HN⟩
        case measure => simp [intOf]; omega
      have e11 : (v0 == 11) = false := by simpa using h11
      by_cases h12 : v0 = 12
      · subst h12
        obtain rfl : fk = ({ data := #[40] } : ByteArray) ++ tk ++ ({ data := #[41] } : ByteArray) := HDEF.out
        have ho2 : OutV W w2 u3 ((l.take k).map tightD) := HO.out.below HBB.out
        have hlen : ((l.take k).map tightD).length = k := by simp; omega
        have hsw := ho2.2.size
        have hown := ho2.1.alloc (.cells #[.string (({ data := #[40] } : ByteArray) ++ tk ++ ({ data := #[41] } : ByteArray))] 9)
        rw [hlen] at hown
        have HO2 := Lib.hid ho2
        clear ho2 HCALL
        go_wp2_with (at_builtin; refine wpList_append_own _ rfl _ _ 25 rfl W.heap.size 9 i (.string { data := #[] }) 1 16 Tryz.underlying25 hi hz2 hz0 hz1 rfl (by decide) _ _ _ rfl hown ⟨w2.heap.size, 0, none⟩ 1 1 [.string (({ data := #[40] } : ByteArray) ++ tk ++ ({ data := #[41] } : ByteArray))] rfl rfl (cell_one_new _ _ _) (str_one _) (by simp only [maxLen]; omega) (by omega) (by simp; omega) ?_; intro v' w3 hown' hgrow hnil)
        have HN : Hid (OutV W w3 v' ((l.take (k + 1)).map tightD)) := Lib.hid (by
          rw [HTK.out]
          refine OutV.grown (HO2.out.below ((Below.refl _ _).alloc (Nat.le_refl _) _)) ?_ hgrow
          rw [hlen]; exact hown')
        clear hown' hgrow hnil hown HO2 HO
        go_wp2
        go_round
        case rel => exact ⟨k + 1, by omega, by simp, HN⟩
        case measure => simp [intOf]; omega
      have e12 : (v0 == 12) = false := by simpa using h12
      by_cases h13 : v0 = 13
      · subst h13
        obtain rfl : fk = ({ data := #[40] } : ByteArray) ++ tk ++ ({ data := #[41] } : ByteArray) := HDEF.out
        have ho2 : OutV W w2 u3 ((l.take k).map tightD) := HO.out.below HBB.out
        have hlen : ((l.take k).map tightD).length = k := by simp; omega
        have hsw := ho2.2.size
        have hown := ho2.1.alloc (.cells #[.string (({ data := #[40] } : ByteArray) ++ tk ++ ({ data := #[41] } : ByteArray))] 9)
        rw [hlen] at hown
        have HO2 := Lib.hid ho2
        clear ho2 HCALL
        go_wp2_with (at_builtin; refine wpList_append_own _ rfl _ _ 25 rfl W.heap.size 9 i (.string { data := #[] }) 1 16 Tryz.underlying25 hi hz2 hz0 hz1 rfl (by decide) _ _ _ rfl hown ⟨w2.heap.size, 0, none⟩ 1 1 [.string (({ data := #[40] } : ByteArray) ++ tk ++ ({ data := #[41] } : ByteArray))] rfl rfl (cell_one_new _ _ _) (str_one _) (by simp only [maxLen]; omega) (by omega) (by simp; omega) ?_; intro v' w3 hown' hgrow hnil)
        have HN : Hid (OutV W w3 v' ((l.take (k + 1)).map tightD)) := Lib.hid (by
          rw [HTK.out]
          refine OutV.grown (HO2.out.below ((Below.refl _ _).alloc (Nat.le_refl _) _)) ?_ hgrow
          rw [hlen]; exact hown')
        clear hown' hgrow hnil hown HO2 HO
        go_wp2
        go_round
        case rel => exact ⟨k + 1, by omega, by simp, HN⟩
        case measure => simp [intOf]; omega
      have e13 : (v0 == 13) = false := by simpa using h13
      by_cases h15 : v0 = 15
      · subst h15
        obtain rfl : fk = ({ data := #[40] } : ByteArray) ++ tk ++ ({ data := #[41] } : ByteArray) := HDEF.out
        have ho2 : OutV W w2 u3 ((l.take k).map tightD) := HO.out.below HBB.out
        have hlen : ((l.take k).map tightD).length = k := by simp; omega
        have hsw := ho2.2.size
        have hown := ho2.1.alloc (.cells #[.string (({ data := #[40] } : ByteArray) ++ tk ++ ({ data := #[41] } : ByteArray))] 9)
        rw [hlen] at hown
        have HO2 := Lib.hid ho2
        clear ho2 HCALL
        go_wp2_with (at_builtin; refine wpList_append_own _ rfl _ _ 25 rfl W.heap.size 9 i (.string { data := #[] }) 1 16 Tryz.underlying25 hi hz2 hz0 hz1 rfl (by decide) _ _ _ rfl hown ⟨w2.heap.size, 0, none⟩ 1 1 [.string (({ data := #[40] } : ByteArray) ++ tk ++ ({ data := #[41] } : ByteArray))] rfl rfl (cell_one_new _ _ _) (str_one _) (by simp only [maxLen]; omega) (by omega) (by simp; omega) ?_; intro v' w3 hown' hgrow hnil)
        have HN : Hid (OutV W w3 v' ((l.take (k + 1)).map tightD)) := Lib.hid (by
          rw [HTK.out]
          refine OutV.grown (HO2.out.below ((Below.refl _ _).alloc (Nat.le_refl _) _)) ?_ hgrow
          rw [hlen]; exact hown')
        clear hown' hgrow hnil hown HO2 HO
        go_wp2
        go_round
        case rel => exact ⟨k + 1, by omega, by simp, HN⟩
        case measure => simp [intOf]; omega
      have e15 : (v0 == 15) = false := by simpa using h15
      obtain rfl : fk = tk := by rw [HDEF.out]; unfold isLoose; rw [show (decide (7 = v0) || decide (8 = v0) || decide (9 = v0) || decide (11 = v0) || decide (12 = v0) || decide (13 = v0) || decide (15 = v0)) = false by simp; omega]; rfl
      have ho2 : OutV W w2 u3 ((l.take k).map tightD) := HO.out.below HBB.out
      have hlen : ((l.take k).map tightD).length = k := by simp; omega
      have hsw := ho2.2.size
      have hown := ho2.1.alloc (.cells #[.string fk] 9)
      rw [hlen] at hown
      have HO2 := Lib.hid ho2
      clear ho2 HCALL
      go_wp2_with (at_builtin; refine wpList_append_own _ rfl _ _ 25 rfl W.heap.size 9 i (.string { data := #[] }) 1 16 Tryz.underlying25 hi hz2 hz0 hz1 rfl (by decide) _ _ _ rfl hown ⟨w2.heap.size, 0, none⟩ 1 1 [.string fk] rfl rfl (cell_one_new _ _ _) (str_one fk) (by simp only [maxLen]; omega) (by omega) (by simp; omega) ?_; intro v' w3 hown' hgrow hnil)
      have HN : Hid (OutV W w3 v' ((l.take (k + 1)).map tightD)) := Lib.hid (by
        rw [HTK.out]
        refine OutV.grown (HO2.out.below ((Below.refl _ _).alloc (Nat.le_refl _) _)) ?_ hgrow
        rw [hlen]; exact hown')
      clear hown' hgrow hnil hown HO2 HO
      go_wp2
      go_round
      case rel => exact ⟨k + 1, by omega, by simp, HN⟩
      case measure => simp [intOf]; omega
    · obtain rfl : k = l.length := by omega
      rw [List.take_length] at hO
      have HO := hO
      clear hO
      go_wp2
      go_ret
      exact ⟨_, rfl, HO⟩
end Go.Pr
namespace Go.Pr
open Go Go.RowKit Go.Proofs
theorem RowC.below {W W' : World} {k n : Nat} {s : Value} {vf : Nat → List Value} (h : RowC W k s n vf) (hb : Below W.heap.size W W') : RowC W' k s n vf := by
  obtain ⟨a, c, rfl, h1, h2⟩ := h
  exact ⟨a, c, rfl, h1, fun h0 => by
    obtain ⟨b, o, rfl, h3⟩ := h2 h0
    exact ⟨b, o, rfl, fun i hi => (h3 i hi).below hb⟩⟩
theorem one_row {w : World} {g t : Nat} {cs : List Value} {fr : Nat × Nat} (h : w.heap[g]? = some (.cells ⟨cs⟩ t fr)) : RowC w cs.length (.slice (some ⟨g, 0, none⟩) 1 1) 1 (fun _ => cs) :=
  ⟨_, 1, rfl, Nat.le_refl _, fun _ => ⟨g, 0, rfl, fun i hi j v hj => by
    obtain rfl : i = 0 := by omega
    have hl := (List.getElem?_eq_some_iff.1 hj).1
    simp only [World.cell?, h]
    simp [hj]⟩⟩
theorem tight1_ok {d : D} {ve : List Value} {W0 W : World} {g t : Nat} {fr : Nat × Nat} (h : W.heap[g]? = some (.cells ⟨ve⟩ t fr)) (h7 : ve.length = 7) (hv : S W0 .exp d ve) (hw : d.w ≤ 1048576) (hB : Below W0.heap.size W0 W) (hF : FnOK 20 .exp T W0 d) :
    Calls Tryz.prog 42 #[.slice (some ⟨g, 0, none⟩) 1 1] W fun e w' => ∃ g' cap, e = .returned (.slice (some ⟨g', 0, none⟩) 1 cap) ∧ w'.cell? ⟨g', 0, none⟩ = some (.string (tightD d)) ∧ Hid (Below W.heap.size W w') := by
  have hr := one_row h
  rw [h7] at hr
  refine (rtight_ok (l := [d]) hr (fun i x hx => ?_) hB (by simp) (fun x hx => ?_) (fun x hx => ?_)).mono ?_
  · match i, hx with
    | 0, hx => cases hx; exact hv
  · obtain rfl := List.mem_singleton.1 hx
    have := hv.size_le hw; omega
  · obtain rfl := List.mem_singleton.1 hx; exact hF
  · rintro e w' ⟨out, rfl, ho⟩
    obtain ⟨a, c, rfl, hc⟩ := StrRow.of_out ho.out
    rcases ho.out.1.2 with ⟨he, _⟩ | ⟨g', cap, cur, he, _⟩
    · cases he
    · cases he
      obtain ⟨b, o, hbo, hc⟩ := hc (by simp)
      cases hbo
      exact ⟨_, c, rfl, hc 0 _ rfl, Lib.hid ho.out.2⟩
theorem block_back2 {B : Nat} {w w' : World} {o : Obj} (h : Below B (w.alloc o) w') (hB : w.heap.size < B) : w'.heap[w.heap.size]? = some o := (h.block _ hB).trans (heap_alloc_new w o)
theorem new_cell (w : World) (v : Value) (t : Nat) : (w.alloc (.cells #[v] t)).cell? ⟨w.heap.size, 0, none⟩ = some v := cell_one_new w v t 0 v rfl
theorem wp_app {W w : World} {o : Oper} {a : Act} {K : Act → World → Prop} {Q : Exit → Act → World → Prop} {out : Value} {xs : List ByteArray} {x : ByteArray} {g : Nat} (s t : Operand)
    (ho : o.op = .call { callee := .builtin .append, args := #[s, t], argTypes := #[25, 25] }) (hs : a.eval s = out) (hx : a.eval t = .slice (some ⟨g, 0, none⟩) 1 1) (hov : Hid (OutV W w out xs)) (hc : w.cell? ⟨g, 0, none⟩ = some (.string x)) (hl : xs.length ≤ 1048576)
    (h : ∀ v' w', Hid (OutV W w' v' (xs ++ [x])) → K (a.put o.dst v') w') : o.wp Tryz.prog a w K Q := by
  obtain ⟨i, hi, hi2⟩ := Option.map_eq_some_iff.1 i9
  injection hi2 with hz0 hz1
  injection hz1 with hz1 hz2
  refine wp_append_own w s t 25 ho W.heap.size 9 i (.string { data := #[] }) 1 16 Tryz.underlying25 hi hz2 hz0 hz1 rfl (by decide) _ xs.length (xs.map Value.string) hs hov.out.1 ⟨g, 0, none⟩ 1 1 [.string x] hx rfl (fun j u hj => ?_) (str_one x) (by simp only [maxLen]; omega) (by omega) hov.out.2.size fun v' w' h1 h2 _ => h v' w' (Lib.hid (OutV.grown hov.out h1 h2))
  match j, hj with
  | 0, hj => cases hj; exact hc
theorem block_back {w w' : World} {o : Obj} (h : Below (w.alloc o).heap.size (w.alloc o) w') : w'.heap[w.heap.size]? = some o := (h.block _ (by simp)).trans (heap_alloc_new w o)
theorem OutV.drew' {W w : World} {o : Value} {xs : List ByteArray} (h : Hid (OutV W w o xs)) : Hid (OutV W w.drew o xs) := Lib.hid (h.out.below ((Below.refl _ _).drew))
theorem OutV.alloc' {W w : World} {o : Value} {xs : List ByteArray} (h : Hid (OutV W w o xs)) (obj : Obj) : Hid (OutV W (w.alloc obj) o xs) := Lib.hid (h.out.below ((Below.refl _ _).alloc (Nat.le_refl _) _))
theorem OutV.bel {W w : World} {o : Value} {xs : List ByteArray} (h : Hid (OutV W w o xs)) : Hid (Below W.heap.size W w) := Lib.hid h.out.2
theorem ov1 {W w : World} {v : Value} {xs : List ByteArray} (h : Hid (OutV W w v xs)) {o : Obj} : Hid (OutV W (w.alloc o) v xs) := OutV.alloc' h o
theorem ov2 {W w : World} {v : Value} {xs : List ByteArray} (h : Hid (OutV W w v xs)) {o : Obj} : Hid (OutV W (w.drew.alloc o) v xs) := OutV.alloc' (OutV.drew' h) o
theorem ov3 {W w : World} {v : Value} {xs : List ByteArray} (h : Hid (OutV W w v xs)) {o o' : Obj} : Hid (OutV W ((w.alloc o).alloc o') v xs) := OutV.alloc' (OutV.alloc' h o) o'
theorem ov4 {W w : World} {v : Value} {xs : List ByteArray} (h : Hid (OutV W w v xs)) {o o' : Obj} : Hid (OutV W ((w.drew.alloc o).alloc o') v xs) := OutV.alloc' (OutV.alloc' (OutV.drew' h) o) o'
theorem rrules_ok {l : List D} {vf : Nat → List Value} {W0 W : World} {s : Value} (hs : Row W0 .rule 11 s l vf) (hB : Below W0.heap.size W0 W) (hw : wsum l ≤ 1048576) (hP : ∀ x, x.w ≤ wsum l → FnOK 63 .pat T W0 x) (hE : ∀ x, x.w ≤ wsum l → FnOK 20 .exp T W0 x) :
    Calls Tryz.prog 43 #[s] W fun e w' => e = .returned (.string (joinB (l.map T) sBar)) ∧ Below W.heap.size W w' := by
  have hfit := hs.fits
  have hl := len_le hfit
  have hsz := joinS (g := T) (sep := sBar) hfit hw fun x _ => by show x.t.size + 3 ≤ _; omega
  have hv := hs.kid
  obtain ⟨a, c, rfl, hlc, hrow⟩ := hs.row
  obtain ⟨i, hi, hi2⟩ := Option.map_eq_some_iff.1 i9
  injection hi2 with hz0 hz1
  injection hz1 with hz1 hz2
  have HR := Lib.hid hrow
  have HV := Lib.hid hv
  have HP := Lib.hid hP
  have HE := Lib.hid hE
  have HB := Lib.hid hB
  have HSZ := Lib.hid hsz
  have hst : OutV W W (.slice none 0 0) ([] : List ByteArray) := ⟨World.ownsRow_nil _ _ _ _, Below.refl _ _⟩
  have HST := Lib.hid hst
  have hl2 : l.length ≤ 1048576 := by omega
  clear hst hrow hv hP hE hB hlc hfit hl hs hsz
  go_enter Tryz.func43, Tryz.ntmps43
  go_wp2
  go_loopw [3, 4] (fun out j wr => ∃ k : Nat, k ≤ l.length ∧ j = .int .i64 k ∧ Hid (OutV W wr out ((l.take k).map T))) (fun _ j _ => l.length - (intOf j).toNat)
  case atStart => exact ⟨0, Nat.zero_le _, rfl, by rw [List.take_zero]; exact HST⟩
  case round =>
    obtain ⟨k, hk, rfl, hO⟩ := hrel
    by_cases hlt : k < l.length
    · obtain ⟨b, o, rfl, hr⟩ := HR.out (by omega)
      have hget : l[k]? = some l[k] := List.getElem?_eq_getElem hlt
      have hc := hr k hlt
      have hv := HV.out k _ hget
      obtain ⟨p, e, vp, ve, hvk, hvp, hve, htx, hpw⟩ := hv.rule_parts
      obtain ⟨v0, v1, v2, a3, n3, c3, rfl⟩ := hvp.pat_vals
      obtain ⟨v4, v5, v6, v7, a8, n8, c8, a9, n9, c9, a10, n10, c10, rfl⟩ := hve.exp_vals
      rw [hvk] at hc
      have hwk : l[k].w ≤ wsum l := w_mem (List.getElem_mem hlt)
      have HS : Hid (∀ w, Hid (Below W.heap.size W w) → Hid (Below W.heap.size W w) ∧ w.cell? ⟨b, o + k * 11, none⟩ = some (.int .u8 v0) ∧ w.cell? ⟨b, o + k * 11 + 1, none⟩ = some (.string v1) ∧ w.cell? ⟨b, o + k * 11 + 2, none⟩ = some (.int .i64 v2) ∧ w.cell? ⟨b, o + k * 11 + 3, none⟩ = some (.slice a3 n3 c3) ∧ w.cell? ⟨b, o + k * 11 + 4, none⟩ = some (.int .u8 v4) ∧ w.cell? ⟨b, o + k * 11 + 5, none⟩ = some (.string v5) ∧ w.cell? ⟨b, o + k * 11 + 6, none⟩ = some (.int .i64 v6) ∧ w.cell? ⟨b, o + k * 11 + 7, none⟩ = some (.string v7) ∧ w.cell? ⟨b, o + k * 11 + 8, none⟩ = some (.slice a8 n8 c8) ∧ w.cell? ⟨b, o + k * 11 + 9, none⟩ = some (.slice a9 n9 c9) ∧ w.cell? ⟨b, o + k * 11 + 10, none⟩ = some (.slice a10 n10 c10)) := Lib.hid fun w hb => by
        have hcW := (hc.below HB.out).below hb.out
        exact ⟨hb, hcW 0 _ rfl, hcW 1 _ rfl, hcW 2 _ rfl, hcW 3 _ rfl, hcW 4 _ rfl, hcW 5 _ rfl, hcW 6 _ rfl, hcW 7 _ rfl, hcW 8 _ rfl, hcW 9 _ rfl, hcW 10 _ rfl⟩
      have hsr := (HS.out wr (Lib.hid hO.out.2)).2
      have HX : Hid (∀ w, Hid (OutV W w u3 ((l.take k).map T)) → Calls Tryz.prog 63 #[.agg ⟨[.int .u8 v0, .string v1, .int .i64 v2, .slice a3 n3 c3]⟩] w fun e w' => e = .returned (.string (T p)) ∧ Hid (OutV W w' u3 ((l.take k).map T)) ∧ Hid (Below w.heap.size w w')) := Lib.hid fun w hb =>
        (HP.out p (by omega) w _ hvp (HB.out.trans (hb.out.2.mono HB.out.size))).mono fun _ _ h => ⟨h.1, Lib.hid (hb.out.below h.2), Lib.hid h.2⟩
      have HY : Hid (∀ (w : World) (g : Nat), Hid (OutV W w u3 ((l.take k).map T)) → w.heap[g]? = some (.cells ⟨[.int .u8 v4, .string v5, .int .i64 v6, .string v7, .slice a8 n8 c8, .slice a9 n9 c9, .slice a10 n10 c10]⟩ 34 (0, 0)) → Calls Tryz.prog 42 #[.slice (some ⟨g, 0, none⟩) 1 1] w fun e' w' => ∃ g' cap, e' = .returned (.slice (some ⟨g', 0, none⟩) 1 cap) ∧ w'.cell? ⟨g', 0, none⟩ = some (.string (tightD e)) ∧ Hid (OutV W w' u3 ((l.take k).map T))) := Lib.hid fun w g hb hg =>
        (tight1_ok hg rfl hve (by omega) (HB.out.trans (hb.out.2.mono HB.out.size)) (HE.out e (by omega))).mono fun _ _ ⟨g', cap, h1, h2, h3⟩ => ⟨g', cap, h1, h2, Lib.hid (hb.out.below h3.out)⟩
      have htT : T l[k] = T p ++ sFat ++ tightD e := htx
      have htz : (T p).size + 4 + (tightD e).size ≤ 1099578736640 := by
        have := hv.size_le (by omega)
        rw [htx, size_append, size_append] at this
        change p.t.size + 4 + (tightD e).size + 16 ≤ _ at this
        show p.t.size + 4 + _ ≤ _
        omega
      have htk : (l.take (k + 1)).map T = (l.take k).map T ++ [T p ++ sFat ++ tightD e] := by rw [List.take_succ_eq_append_getElem hlt, List.map_append, ← htT]; rfl
      have HTK : Hid ((l.take (k + 1)).map T = (l.take k).map T ++ [T p ++ ({ data := #[32, 61, 62, 32] } : ByteArray) ++ tightD e]) := Lib.hid htk
      have HO := hO
      have hlen : ((l.take k).map T).length = k := by simp; omega
      have HLEN := Lib.hid hlen
      clear hc hv hvk hvp hve htk hr hget htT htx hO hwk hpw hlen
      generalize T p = tp at *
      generalize tightD e = te at *
      have i0 : (0 : Int) ≤ (k : Int) := by omega
      have i1 : (k : Int) < (l.length : Int) := by omega
      go_wp2
      have z00 : ¬ 9223372036854775807 < tp.size + 4 := by omega
      have z01 : ¬ 9223372036854775807 < tp.size + 4 + te.size := by omega
      refine wp_region_held_drew (S := (fun w => Hid (Below W.heap.size W w) ∧ w.cell? ⟨b, o + k * 11, none⟩ = some (.int .u8 v0) ∧ w.cell? ⟨b, o + k * 11 + 1, none⟩ = some (.string v1) ∧ w.cell? ⟨b, o + k * 11 + 2, none⟩ = some (.int .i64 v2) ∧ w.cell? ⟨b, o + k * 11 + 3, none⟩ = some (.slice a3 n3 c3) ∧ w.cell? ⟨b, o + k * 11 + 4, none⟩ = some (.int .u8 v4) ∧ w.cell? ⟨b, o + k * 11 + 5, none⟩ = some (.string v5) ∧ w.cell? ⟨b, o + k * 11 + 6, none⟩ = some (.int .i64 v6) ∧ w.cell? ⟨b, o + k * 11 + 7, none⟩ = some (.string v7) ∧ w.cell? ⟨b, o + k * 11 + 8, none⟩ = some (.slice a8 n8 c8) ∧ w.cell? ⟨b, o + k * 11 + 9, none⟩ = some (.slice a9 n9 c9) ∧ w.cell? ⟨b, o + k * 11 + 10, none⟩ = some (.slice a10 n10 c10))) (by kernel_rfl) ?_ (fun hHeld => ?_)
      · refine HS.out _ ?_; (first | assumption | exact bl1 (by assumption) | exact bl2 (by assumption) | exact OutV.bel (by (first | assumption | exact OutV.drew' (by assumption) | exact ov1 (by assumption) | exact ov2 (by assumption) | exact ov3 (by assumption) | exact ov4 (by assumption))) | exact bl4 (by assumption))
      refine wpAnyH_take (i := 0) (oi := { dst := some 11, op := .move (.tmp 3), type := _, pos := _, after := _, guard := none }) (v := ?vq1) rfl (by kernel_rfl) (by kernel_rfl) (by kernel_rfl) (fun _ _ _ h => h) (Or.inl ⟨by rfl, ?hyq1⟩) (by assumption) ?restq1
      case hyq1 => (intro w hSw; (try dsimp only at hSw); go_simp; try with_reducible rfl)
      try simp only [Act.put, List.setIfInBounds_toArray, List.set_cons_zero, List.set_cons_succ]
      refine wpAnyH_take (i := 1) (oi := { dst := some 12, op := .move (.tmp 0), type := _, pos := _, after := _, guard := none }) (v := ?vq2) rfl (by kernel_rfl) (by kernel_rfl) (by kernel_rfl) (fun _ _ _ h => h) (Or.inl ⟨by rfl, ?hyq2⟩) (by assumption) ?restq2
      case hyq2 => (intro w hSw; (try dsimp only at hSw); go_simp; try with_reducible rfl)
      try simp only [Act.put, List.setIfInBounds_toArray, List.set_cons_zero, List.set_cons_succ]
      refine wpAnyH_take (i := 2) (oi := { dst := some 13, op := .move (.tmp 4), type := _, pos := _, after := _, guard := none }) (v := ?vq3) rfl (by kernel_rfl) (by kernel_rfl) (by kernel_rfl) (fun _ _ _ h => h) (Or.inl ⟨by rfl, ?hyq3⟩) (by assumption) ?restq3
      case hyq3 => (intro w hSw; (try dsimp only at hSw); go_simp; try with_reducible rfl)
      try simp only [Act.put, List.setIfInBounds_toArray, List.set_cons_zero, List.set_cons_succ]
      refine wpAnyH_take (i := 3) (oi := { dst := some 14, op := .indexAddr 32 (.tmp 12) (.tmp 13), type := _, pos := _, after := _, guard := none }) (v := ?vq4) rfl (by kernel_rfl) (by kernel_rfl) (by kernel_rfl) (fun _ _ _ h => h) (Or.inl ⟨by rfl, ?hyq4⟩) (by assumption) ?restq4
      case hyq4 => (intro w hSw; (try dsimp only at hSw); go_simp; try with_reducible rfl)
      try simp only [Act.put, List.setIfInBounds_toArray, List.set_cons_zero, List.set_cons_succ]
      refine wpAnyH_take (i := 4) (oi := { dst := some 15, op := .fieldAddr 46 (.tmp 14) 0, type := _, pos := _, after := _, guard := none }) (v := ?vq5) rfl (by kernel_rfl) (by kernel_rfl) (by kernel_rfl) (fun _ _ _ h => h) (Or.inl ⟨by rfl, ?hyq5⟩) (by assumption) ?restq5
      case hyq5 => (intro w hSw; (try dsimp only at hSw); go_simp; try with_reducible rfl)
      try simp only [Act.put, List.setIfInBounds_toArray, List.set_cons_zero, List.set_cons_succ]
      refine wpAnyH_take (i := 5) (oi := { dst := some 16, op := .load 44 (.tmp 15), type := _, pos := _, after := _, guard := none }) (v := ?vq6) rfl (by kernel_rfl) (by kernel_rfl) (by kernel_rfl) (fun _ _ _ h => h) (Or.inl ⟨by rfl, ?hyq6⟩) (by assumption) ?restq6
      case hyq6 => (intro w hSw; (try dsimp only at hSw); go_simp; try with_reducible rfl)
      try simp only [Act.put, List.setIfInBounds_toArray, List.set_cons_zero, List.set_cons_succ]
      refine wpAnyH_take (i := 8) (oi := { dst := some 19, op := .move (.tmp 0), type := _, pos := _, after := _, guard := none }) (v := ?vq7) rfl (by kernel_rfl) (by kernel_rfl) (by kernel_rfl) (fun _ _ _ h => h) (Or.inl ⟨by rfl, ?hyq7⟩) (by assumption) ?restq7
      case hyq7 => (intro w hSw; (try dsimp only at hSw); go_simp; try with_reducible rfl)
      try simp only [Act.put, List.setIfInBounds_toArray, List.set_cons_zero, List.set_cons_succ]
      refine wpAnyH_take (i := 9) (oi := { dst := some 20, op := .move (.tmp 4), type := _, pos := _, after := _, guard := none }) (v := ?vq8) rfl (by kernel_rfl) (by kernel_rfl) (by kernel_rfl) (fun _ _ _ h => h) (Or.inl ⟨by rfl, ?hyq8⟩) (by assumption) ?restq8
      case hyq8 => (intro w hSw; (try dsimp only at hSw); go_simp; try with_reducible rfl)
      try simp only [Act.put, List.setIfInBounds_toArray, List.set_cons_zero, List.set_cons_succ]
      refine wpAnyH_take (i := 10) (oi := { dst := some 21, op := .indexAddr 32 (.tmp 19) (.tmp 20), type := _, pos := _, after := _, guard := none }) (v := ?vq9) rfl (by kernel_rfl) (by kernel_rfl) (by kernel_rfl) (fun _ _ _ h => h) (Or.inl ⟨by rfl, ?hyq9⟩) (by assumption) ?restq9
      case hyq9 => (intro w hSw; (try dsimp only at hSw); go_simp; try with_reducible rfl)
      try simp only [Act.put, List.setIfInBounds_toArray, List.set_cons_zero, List.set_cons_succ]
      refine wpAnyH_take (i := 11) (oi := { dst := some 22, op := .fieldAddr 46 (.tmp 21) 1, type := _, pos := _, after := _, guard := none }) (v := ?vq10) rfl (by kernel_rfl) (by kernel_rfl) (by kernel_rfl) (fun _ _ _ h => h) (Or.inl ⟨by rfl, ?hyq10⟩) (by assumption) ?restq10
      case hyq10 => (intro w hSw; (try dsimp only at hSw); go_simp; try with_reducible rfl)
      try simp only [Act.put, List.setIfInBounds_toArray, List.set_cons_zero, List.set_cons_succ]
      refine wpAnyH_take (i := 12) (oi := { dst := some 23, op := .load 34 (.tmp 22), type := _, pos := _, after := _, guard := none }) (v := ?vq11) rfl (by kernel_rfl) (by kernel_rfl) (by kernel_rfl) (fun _ _ _ h => h) (Or.inl ⟨by rfl, ?hyq11⟩) (by assumption) ?restq11
      case hyq11 => (intro w hSw; (try dsimp only at hSw); go_simp; try with_reducible rfl)
      try simp only [Act.put, List.setIfInBounds_toArray, List.set_cons_zero, List.set_cons_succ]
      refine wpAnyH_ready (rs := [6, 13]) (by kernel_rfl) (by simp) ?_
      refine AllReadyH.cons (o := { dst := some 17, op := .call { callee := .value (.func 63), args := #[.tmp 16], argTypes := #[44] }, type := _, pos := _, after := _, guard := none }) rfl (fun K hK => ?_) (AllReadyH.cons (o := { dst := some 24, op := .buildSlice 31 1 #[(0, .tmp 23)], type := _, pos := _, after := _, guard := none }) rfl (fun K hK => ?_) AllReadyH.nil)
      · go_simp
        go_at_call 63
        refine (HX.out _ ?_).mono ?_
        · (first | assumption | exact OutV.drew' (by assumption) | exact ov1 (by assumption) | exact ov2 (by assumption) | exact ov3 (by assumption) | exact ov4 (by assumption))
        rintro e' w' ⟨rfl, hb, hb'⟩
        refine hK.out _ _ ?_ (fun hHeld => ?_)
        · refine HS.out _ ?_; (first | assumption | exact bl1 (by assumption) | exact bl2 (by assumption) | exact OutV.bel (by (first | assumption | exact OutV.drew' (by assumption) | exact ov1 (by assumption) | exact ov2 (by assumption) | exact ov3 (by assumption) | exact ov4 (by assumption))) | exact bl4 (by assumption))
        clear hK K
        try simp only [Act.put, List.setIfInBounds_toArray, List.set_cons_zero, List.set_cons_succ]
        refine wpAnyH_take (i := 7) (oi := { dst := some 18, op := .binOp .add 9 (.tmp 17) (.const (.string { data := #[32, 61, 62, 32] })) 9, type := _, pos := _, after := _, guard := none }) (v := ?va1) rfl (by kernel_rfl) (by kernel_rfl) (by kernel_rfl) (fun _ _ _ h => h) (Or.inl ⟨by rfl, ?hya1⟩) (by assumption) ?resta1
        case hya1 => (intro w hSw; (try dsimp only at hSw); go_simp; try with_reducible rfl)
        try simp only [Act.put, List.setIfInBounds_toArray, List.set_cons_zero, List.set_cons_succ]
        refine wpAnyH_ready (rs := [13]) (by kernel_rfl) (by simp) ?_
        refine AllReadyH.cons (o := { dst := some 24, op := .buildSlice 31 1 #[(0, .tmp 23)], type := _, pos := _, after := _, guard := none }) rfl (fun K hK => ?_) AllReadyH.nil
        go_simp
        refine hK.out _ _ ?_ (fun hHeld => ?_)
        · refine HS.out _ ?_; (first | assumption | exact bl1 (by assumption) | exact bl2 (by assumption) | exact OutV.bel (by (first | assumption | exact OutV.drew' (by assumption) | exact ov1 (by assumption) | exact ov2 (by assumption) | exact ov3 (by assumption) | exact ov4 (by assumption))) | exact bl4 (by assumption))
        clear hK K
        try simp only [Act.put, List.setIfInBounds_toArray, List.set_cons_zero, List.set_cons_succ]
        refine wpAnyH_ready (rs := [14]) (by kernel_rfl) (by simp) ?_
        refine AllReadyH.cons (o := { dst := some 25, op := .call { callee := .value (.func 42), args := #[.tmp 24], argTypes := #[31] }, type := _, pos := _, after := _, guard := none }) rfl (fun K hK => ?_) AllReadyH.nil
        go_simp
        go_at_call 42
        refine (HY.out _ _ ?_ ?_).mono ?_
        · (first | assumption | exact OutV.drew' (by assumption) | exact ov1 (by assumption) | exact ov2 (by assumption) | exact ov3 (by assumption) | exact ov4 (by assumption))
        · first | exact heap_alloc_new _ _ | (have hq := (‹Hid (Below _ (World.alloc (World.drew wr) _) _)›).out; exact (hq.block wr.heap.size (by simp)).trans (heap_alloc_new wr.drew _))
        rintro e' w' ⟨g', cap, rfl, hg', hb⟩
        refine hK.out _ _ ?_ (fun hHeld => ?_)
        · refine HS.out _ ?_; (first | assumption | exact bl1 (by assumption) | exact bl2 (by assumption) | exact OutV.bel (by (first | assumption | exact OutV.drew' (by assumption) | exact ov1 (by assumption) | exact ov2 (by assumption) | exact ov3 (by assumption) | exact ov4 (by assumption))) | exact bl4 (by assumption))
        clear hK K
        try simp only [Act.put, List.setIfInBounds_toArray, List.set_cons_zero, List.set_cons_succ]
        refine wpAnyH_take (i := 15) (oi := { dst := some 26, op := .indexAddr 25 (.tmp 25) (.const (.int .i64 0)), type := _, pos := _, after := _, guard := none }) (v := ?va2) rfl (by kernel_rfl) (by kernel_rfl) (by kernel_rfl) (fun _ _ _ h => h) (Or.inl ⟨by rfl, ?hya2⟩) (by assumption) ?resta2
        case hya2 => (intro w hSw; (try dsimp only at hSw); go_simp; try with_reducible rfl)
        try simp only [Act.put, List.setIfInBounds_toArray, List.set_cons_zero, List.set_cons_succ]
        refine wpAnyH_ready (rs := [16]) (by kernel_rfl) (by simp) ?_
        refine AllReadyH.cons (o := { dst := some 27, op := .load 9 (.tmp 26), type := _, pos := _, after := _, guard := none }) rfl (fun K hK => ?_) AllReadyH.nil
        go_simp
        refine hK.out _ _ ?_ (fun hHeld => ?_)
        · refine HS.out _ ?_; (first | assumption | exact bl1 (by assumption) | exact bl2 (by assumption) | exact OutV.bel (by (first | assumption | exact OutV.drew' (by assumption) | exact ov1 (by assumption) | exact ov2 (by assumption) | exact ov3 (by assumption) | exact ov4 (by assumption))) | exact bl4 (by assumption))
        clear hK K
        try simp only [Act.put, List.setIfInBounds_toArray, List.set_cons_zero, List.set_cons_succ]
        refine wpAnyH_take (i := 17) (oi := { dst := some 28, op := .binOp .add 9 (.tmp 18) (.tmp 27) 9, type := _, pos := _, after := _, guard := none }) (v := ?va3) rfl (by kernel_rfl) (by kernel_rfl) (by kernel_rfl) (fun _ _ _ h => h) (Or.inl ⟨by rfl, ?hya3⟩) (by assumption) ?resta3
        case hya3 => (intro w hSw; (try dsimp only at hSw); go_simp; try with_reducible rfl)
        try simp only [Act.put, List.setIfInBounds_toArray, List.set_cons_zero, List.set_cons_succ]
        refine wpAnyH_ready (rs := [18]) (by kernel_rfl) (by simp) ?_
        refine AllReadyH.cons (o := { dst := some 29, op := .buildSlice 25 1 #[(0, .tmp 28)], type := _, pos := _, after := _, guard := none }) rfl (fun K hK => ?_) AllReadyH.nil
        go_simp
        refine hK.out _ _ ?_ (fun hHeld => ?_)
        · refine HS.out _ ?_; (first | assumption | exact bl1 (by assumption) | exact bl2 (by assumption) | exact OutV.bel (by (first | assumption | exact OutV.drew' (by assumption) | exact ov1 (by assumption) | exact ov2 (by assumption) | exact ov3 (by assumption) | exact ov4 (by assumption))) | exact bl4 (by assumption))
        clear hK K
        try simp only [Act.put, List.setIfInBounds_toArray, List.set_cons_zero, List.set_cons_succ]
        refine wpAnyH_ready (rs := [19]) (by kernel_rfl) (by simp) ?_
        refine AllReadyH.cons (o := { dst := some 30, op := .call { callee := .builtin .append, args := #[.tmp 11, .tmp 29], argTypes := #[25, 25] }, type := _, pos := _, after := _, guard := none }) rfl (fun K hK => ?_) AllReadyH.nil
        rw [if_pos (by rfl)]
        refine wp_app (W := W) (xs := (l.take k).map T) _ _ rfl rfl rfl ?_ (new_cell _ _ _) (by rw [HLEN.out]; omega) ?_
        · (first | assumption | exact OutV.drew' (by assumption) | exact ov1 (by assumption) | exact ov2 (by assumption) | exact ov3 (by assumption) | exact ov4 (by assumption))
        intro v' w3 HN
        rw [← HTK.out] at HN
        refine hK.out _ _ ?_ (fun hHeld => ?_)
        · refine HS.out _ ?_; (first | assumption | exact bl1 (by assumption) | exact bl2 (by assumption) | exact OutV.bel (by (first | assumption | exact OutV.drew' (by assumption) | exact ov1 (by assumption) | exact ov2 (by assumption) | exact ov3 (by assumption) | exact ov4 (by assumption))) | exact bl4 (by assumption))
        clear hK K
        try simp only [Act.put, List.setIfInBounds_toArray, List.set_cons_zero, List.set_cons_succ]
        refine wpAnyH_take (i := 20) (oi := { dst := some 3, op := .assign (.tmp 30), type := _, pos := _, after := _, guard := none }) (v := ?va4) rfl (by kernel_rfl) (by kernel_rfl) (by kernel_rfl) (fun _ _ _ h => h) (Or.inl ⟨by rfl, ?hya4⟩) (by assumption) ?resta4
        case hya4 => (intro w hSw; (try dsimp only at hSw); go_simp; try with_reducible rfl)
        try simp only [Act.put, List.setIfInBounds_toArray, List.set_cons_zero, List.set_cons_succ]
        refine wpAnyH_done (by kernel_rfl) ?_ _
        go_wp2
        go_round
        case rel => exact ⟨k + 1, by omega, by simp, ‹Hid (OutV W _ _ ((l.take (k + 1)).map T))›⟩
        case measure => simp [intOf]; omega
      · go_simp
        refine hK.out _ _ ?_ (fun hHeld => ?_)
        · refine HS.out _ ?_; (first | assumption | exact bl1 (by assumption) | exact bl2 (by assumption) | exact OutV.bel (by (first | assumption | exact OutV.drew' (by assumption) | exact ov1 (by assumption) | exact ov2 (by assumption) | exact ov3 (by assumption) | exact ov4 (by assumption))) | exact bl4 (by assumption))
        clear hK K
        try simp only [Act.put, List.setIfInBounds_toArray, List.set_cons_zero, List.set_cons_succ]
        refine wpAnyH_ready (rs := [6]) (by kernel_rfl) (by simp) ?_
        refine AllReadyH.cons (o := { dst := some 17, op := .call { callee := .value (.func 63), args := #[.tmp 16], argTypes := #[44] }, type := _, pos := _, after := _, guard := none }) rfl (fun K hK => ?_) AllReadyH.nil
        go_simp
        go_at_call 63
        refine (HX.out _ ?_).mono ?_
        · (first | assumption | exact OutV.drew' (by assumption) | exact ov1 (by assumption) | exact ov2 (by assumption) | exact ov3 (by assumption) | exact ov4 (by assumption))
        rintro e' w' ⟨rfl, hb, hb'⟩
        refine hK.out _ _ ?_ (fun hHeld => ?_)
        · refine HS.out _ ?_; (first | assumption | exact bl1 (by assumption) | exact bl2 (by assumption) | exact OutV.bel (by (first | assumption | exact OutV.drew' (by assumption) | exact ov1 (by assumption) | exact ov2 (by assumption) | exact ov3 (by assumption) | exact ov4 (by assumption))) | exact bl4 (by assumption))
        clear hK K
        try simp only [Act.put, List.setIfInBounds_toArray, List.set_cons_zero, List.set_cons_succ]
        refine wpAnyH_take (i := 7) (oi := { dst := some 18, op := .binOp .add 9 (.tmp 17) (.const (.string { data := #[32, 61, 62, 32] })) 9, type := _, pos := _, after := _, guard := none }) (v := ?vb1) rfl (by kernel_rfl) (by kernel_rfl) (by kernel_rfl) (fun _ _ _ h => h) (Or.inl ⟨by rfl, ?hyb1⟩) (by assumption) ?restb1
        case hyb1 => (intro w hSw; (try dsimp only at hSw); go_simp; try with_reducible rfl)
        try simp only [Act.put, List.setIfInBounds_toArray, List.set_cons_zero, List.set_cons_succ]
        refine wpAnyH_ready (rs := [14]) (by kernel_rfl) (by simp) ?_
        refine AllReadyH.cons (o := { dst := some 25, op := .call { callee := .value (.func 42), args := #[.tmp 24], argTypes := #[31] }, type := _, pos := _, after := _, guard := none }) rfl (fun K hK => ?_) AllReadyH.nil
        go_simp
        go_at_call 42
        refine (HY.out _ _ ?_ ?_).mono ?_
        · (first | assumption | exact OutV.drew' (by assumption) | exact ov1 (by assumption) | exact ov2 (by assumption) | exact ov3 (by assumption) | exact ov4 (by assumption))
        · first | exact heap_alloc_new _ _ | (have hq := (‹Hid (Below _ (World.alloc (World.drew wr) _) _)›).out; exact (hq.block wr.heap.size (by simp)).trans (heap_alloc_new wr.drew _))
        rintro e' w' ⟨g', cap, rfl, hg', hb⟩
        refine hK.out _ _ ?_ (fun hHeld => ?_)
        · refine HS.out _ ?_; (first | assumption | exact bl1 (by assumption) | exact bl2 (by assumption) | exact OutV.bel (by (first | assumption | exact OutV.drew' (by assumption) | exact ov1 (by assumption) | exact ov2 (by assumption) | exact ov3 (by assumption) | exact ov4 (by assumption))) | exact bl4 (by assumption))
        clear hK K
        try simp only [Act.put, List.setIfInBounds_toArray, List.set_cons_zero, List.set_cons_succ]
        refine wpAnyH_take (i := 15) (oi := { dst := some 26, op := .indexAddr 25 (.tmp 25) (.const (.int .i64 0)), type := _, pos := _, after := _, guard := none }) (v := ?vb2) rfl (by kernel_rfl) (by kernel_rfl) (by kernel_rfl) (fun _ _ _ h => h) (Or.inl ⟨by rfl, ?hyb2⟩) (by assumption) ?restb2
        case hyb2 => (intro w hSw; (try dsimp only at hSw); go_simp; try with_reducible rfl)
        try simp only [Act.put, List.setIfInBounds_toArray, List.set_cons_zero, List.set_cons_succ]
        refine wpAnyH_ready (rs := [16]) (by kernel_rfl) (by simp) ?_
        refine AllReadyH.cons (o := { dst := some 27, op := .load 9 (.tmp 26), type := _, pos := _, after := _, guard := none }) rfl (fun K hK => ?_) AllReadyH.nil
        go_simp
        refine hK.out _ _ ?_ (fun hHeld => ?_)
        · refine HS.out _ ?_; (first | assumption | exact bl1 (by assumption) | exact bl2 (by assumption) | exact OutV.bel (by (first | assumption | exact OutV.drew' (by assumption) | exact ov1 (by assumption) | exact ov2 (by assumption) | exact ov3 (by assumption) | exact ov4 (by assumption))) | exact bl4 (by assumption))
        clear hK K
        try simp only [Act.put, List.setIfInBounds_toArray, List.set_cons_zero, List.set_cons_succ]
        refine wpAnyH_take (i := 17) (oi := { dst := some 28, op := .binOp .add 9 (.tmp 18) (.tmp 27) 9, type := _, pos := _, after := _, guard := none }) (v := ?vb3) rfl (by kernel_rfl) (by kernel_rfl) (by kernel_rfl) (fun _ _ _ h => h) (Or.inl ⟨by rfl, ?hyb3⟩) (by assumption) ?restb3
        case hyb3 => (intro w hSw; (try dsimp only at hSw); go_simp; try with_reducible rfl)
        try simp only [Act.put, List.setIfInBounds_toArray, List.set_cons_zero, List.set_cons_succ]
        refine wpAnyH_ready (rs := [18]) (by kernel_rfl) (by simp) ?_
        refine AllReadyH.cons (o := { dst := some 29, op := .buildSlice 25 1 #[(0, .tmp 28)], type := _, pos := _, after := _, guard := none }) rfl (fun K hK => ?_) AllReadyH.nil
        go_simp
        refine hK.out _ _ ?_ (fun hHeld => ?_)
        · refine HS.out _ ?_; (first | assumption | exact bl1 (by assumption) | exact bl2 (by assumption) | exact OutV.bel (by (first | assumption | exact OutV.drew' (by assumption) | exact ov1 (by assumption) | exact ov2 (by assumption) | exact ov3 (by assumption) | exact ov4 (by assumption))) | exact bl4 (by assumption))
        clear hK K
        try simp only [Act.put, List.setIfInBounds_toArray, List.set_cons_zero, List.set_cons_succ]
        refine wpAnyH_ready (rs := [19]) (by kernel_rfl) (by simp) ?_
        refine AllReadyH.cons (o := { dst := some 30, op := .call { callee := .builtin .append, args := #[.tmp 11, .tmp 29], argTypes := #[25, 25] }, type := _, pos := _, after := _, guard := none }) rfl (fun K hK => ?_) AllReadyH.nil
        rw [if_pos (by rfl)]
        refine wp_app (W := W) (xs := (l.take k).map T) _ _ rfl rfl rfl ?_ (new_cell _ _ _) (by rw [HLEN.out]; omega) ?_
        · (first | assumption | exact OutV.drew' (by assumption) | exact ov1 (by assumption) | exact ov2 (by assumption) | exact ov3 (by assumption) | exact ov4 (by assumption))
        intro v' w3 HN
        rw [← HTK.out] at HN
        refine hK.out _ _ ?_ (fun hHeld => ?_)
        · refine HS.out _ ?_; (first | assumption | exact bl1 (by assumption) | exact bl2 (by assumption) | exact OutV.bel (by (first | assumption | exact OutV.drew' (by assumption) | exact ov1 (by assumption) | exact ov2 (by assumption) | exact ov3 (by assumption) | exact ov4 (by assumption))) | exact bl4 (by assumption))
        clear hK K
        try simp only [Act.put, List.setIfInBounds_toArray, List.set_cons_zero, List.set_cons_succ]
        refine wpAnyH_take (i := 20) (oi := { dst := some 3, op := .assign (.tmp 30), type := _, pos := _, after := _, guard := none }) (v := ?vb4) rfl (by kernel_rfl) (by kernel_rfl) (by kernel_rfl) (fun _ _ _ h => h) (Or.inl ⟨by rfl, ?hyb4⟩) (by assumption) ?restb4
        case hyb4 => (intro w hSw; (try dsimp only at hSw); go_simp; try with_reducible rfl)
        try simp only [Act.put, List.setIfInBounds_toArray, List.set_cons_zero, List.set_cons_succ]
        refine wpAnyH_done (by kernel_rfl) ?_ _
        go_wp2
        go_round
        case rel => exact ⟨k + 1, by omega, by simp, ‹Hid (OutV W _ _ ((l.take (k + 1)).map T))›⟩
        case measure => simp [intOf]; omega
    · obtain rfl : k = l.length := by omega
      rw [List.take_length] at hO
      have HJ := Lib.hid (rjoin_ok (sep := sBar) (StrRow.of_out hO.out) (by simp; omega) (by have := HSZ.out; omega))
      have HO := hO
      clear hO
      go_wp2_with fail
      refine HJ.out.mono ?_
      rintro e w2 ⟨rfl, rfl⟩
      go_wp2
      go_ret
      exact ⟨rfl, HO.out.2⟩
end Go.Pr
namespace Go.Pr
open Go Go.RowKit Go.Proofs
theorem wpList_app {W w : World} {ops : Array Oper} {rest : List Oper} {o : Oper} {a : Act} {Q : Exit → Act → World → Prop} {out : Value} {xs : List ByteArray} {x : ByteArray} {g : Nat} (hgd : o.guard = none) (s t : Operand)
    (ho : o.op = .call { callee := .builtin .append, args := #[s, t], argTypes := #[25, 25] }) (hs : a.eval s = out) (hx : a.eval t = .slice (some ⟨g, 0, none⟩) 1 1) (hov : Hid (OutV W w out xs)) (hc : w.cell? ⟨g, 0, none⟩ = some (.string x)) (hl : xs.length ≤ 1048576)
    (h : ∀ v' w', Hid (OutV W w' v' (xs ++ [x])) → wpList Tryz.prog ops Q rest (a.put o.dst v') w') : wpList Tryz.prog ops Q (o :: rest) a w :=
  wpList_plain hgd fun _ hK => wp_app s t ho hs hx hov hc hl fun v' w' h' => hK _ _ (h v' w' h')
theorem OutV.call {W w w' : World} {o : Value} {xs : List ByteArray} (h : Hid (OutV W w o xs)) (hb : Below w.heap.size w w') : Hid (OutV W w' o xs) := Lib.hid (h.out.below hb)
theorem inner_ok {d : D} {W0 : World} (hT : FnOK 21 .ty T W0 d) (hs : d.t.size ≤ 8796093022208) (so : Bool) {W : World} {vs : List Value} (hv : S W0 .ty d vs) (hB : Below W0.heap.size W0 W) :
    Calls Tryz.prog 44 #[.agg ⟨vs⟩, .bool so] W fun e w' => e = .returned (.string (roundT (T d) so)) ∧ Below W.heap.size W w' := by
  have hT' := fun W hb => hT W vs hv hb
  obtain ⟨v0, v1, v2, a3, n3, c3, rfl⟩ := hv.ty_vals
  generalize hW1 : W.alloc (.cells ⟨[.int .u8 v0, .string v1, .int .i64 v2, .slice a3 n3 c3]⟩ 30) = W1
  have hBW : Below W0.heap.size W0 W1 := by rw [← hW1]; exact hB.alloc hB.size _
  have hBe : Below W.heap.size W W1 := by rw [← hW1]; exact (Below.refl _ _).alloc (Nat.le_refl _) _
  have HBK : Hid (∀ w, Hid (Below W1.heap.size W1 w) → Below W.heap.size W w) := Lib.hid fun w hb => hBe.trans (hb.out.mono hBe.size)
  have HS : Hid (∀ w, Hid (Below W1.heap.size W1 w) → Hid (Below W1.heap.size W1 w) ∧ w.cell? ⟨W.heap.size, 0, none⟩ = some (.int .u8 v0) ∧ w.cell? ⟨W.heap.size, 1, none⟩ = some (.string v1) ∧ w.cell? ⟨W.heap.size, 2, none⟩ = some (.int .i64 v2) ∧ w.cell? ⟨W.heap.size, 3, none⟩ = some (.slice a3 n3 c3)) := by
    refine Lib.hid fun w hb => ⟨hb, ?_⟩
    have hc := fun o => hb.out.cell (p := ⟨W.heap.size, o, none⟩) (by rw [← hW1]; simp)
    simp only [hc]
    rw [← hW1]
    simp [go_sem]
  have hS1 := (HS.out W1 (Lib.hid (Below.refl _ _))).2
  have HT := lift (G := .returned (.string (T d))) hBW hT'
  have hts : (T d).size ≤ 8796093022208 := hs
  clear hT' hT hv hB hBW hBe hs
  generalize T d = ft at *
  cases so with
  | true =>
    have HD : Hid (roundT ft true = ({ data := #[40] } : ByteArray) ++ ft ++ ({ data := #[41] } : ByteArray)) := Lib.hid rfl
    go_enter Tryz.func44, Tryz.ntmps44
    go_wp2_with fail
    try rw [hW1]
    refine (HT.out _ ?_).mono ?_
    (first | assumption | exact bl0 | exact bl5 | exact bl1 (by assumption) | exact bl2 (by assumption) | exact bl3 (by assumption))
    rintro e w0 ⟨rfl, hb0⟩
    have hS0 := (HS.out _ hb0).2
    go_wp2
    go_ret
    exact ⟨congrArg (fun x => Ending.returned (Value.string x)) HD.out.symm, HBK.out _ hb0⟩
  | false =>
    have HD : Hid (roundT ft false = ft) := Lib.hid rfl
    go_enter Tryz.func44, Tryz.ntmps44
    go_wp2_with fail
    try rw [hW1]
    refine (HT.out _ ?_).mono ?_
    (first | assumption | exact bl0 | exact bl5 | exact bl1 (by assumption) | exact bl2 (by assumption) | exact bl3 (by assumption))
    rintro e w0 ⟨rfl, hb0⟩
    have hS0 := (HS.out _ hb0).2
    go_wp2
    go_ret
    exact ⟨congrArg (fun x => Ending.returned (Value.string x)) HD.out.symm, HBK.out _ hb0⟩
theorem joinB_arr : ∀ (l : List ByteArray) (z sep : ByteArray), joinB (l ++ [z]) sep = joinB (l.map (· ++ sep)) emp ++ z
  | [], z, sep => by
    apply bytes_of
    rw [append_list, joinB_list, joinB_list]
    simp [Lib.join_one, Lib.join_nil]
  | [x], z, sep => by
    apply bytes_of
    rw [append_list, joinB_list, joinB_list]
    simp only [List.map_append, List.map_cons, List.map_nil, List.cons_append, List.nil_append, Lib.join_cons, Lib.join_one, append_list]
    simp [Lib.joinTail]
  | x :: y :: r, z, sep => by
    have ih := joinB_arr (y :: r) z sep
    have ih' := congrArg (·.data.toList) ih
    simp only [append_list, joinB_list] at ih'
    apply bytes_of
    rw [append_list, joinB_list, joinB_list]
    simp only [List.map_append, List.map_cons, List.map_nil, List.cons_append, List.nil_append, Lib.join_cons, append_list, Lib.joinTail] at ih' ⊢
    simp [emp] at ih' ⊢
    simp [ih', List.append_assoc]
end Go.Pr
namespace Go.Pr
open Go Go.RowKit Go.Proofs
theorem take_step {α : Type} {xs : List α} {m : Nat} {x : α} (h : xs[m]? = some x) : xs.take (m + 1) = xs.take m ++ [x] := by
  rw [List.take_add_one, h]; rfl
theorem head_map {l : List D} {g : D → ByteArray} (h : 0 < l.length) : (l.map g).headD emp = g l[0] := by
  match l, h with
  | x :: r, _ => rfl
theorem or_ff {v0 : Int} (h3 : ¬ v0 = 3) (h4 : ¬ v0 = 4) : (decide (3 = v0) || decide (4 = v0)) = false := by
  rw [Bool.or_eq_false_iff, decide_eq_false_iff_not, decide_eq_false_iff_not]
  exact ⟨fun h => h3 h.symm, fun h => h4 h.symm⟩
def arrs (l : List D) : List ByteArray := l.dropLast.map (fun d => roundT d.t (decide (3 = d.k))) ++ (l.drop (l.length - 1)).map T
theorem arrs_len (l : List D) : (arrs l).length = l.length := by
  simp only [arrs, List.length_append, List.length_map, List.length_dropLast, List.length_drop]; omega
theorem arrs_get {l : List D} {m : Nat} (h : m + 1 < l.length) : (arrs l)[m]? = some (roundT (T l[m]) (decide (3 = l[m].k))) := by
  unfold arrs
  rw [List.getElem?_append_left (by simp; omega), List.getElem?_map, List.getElem?_dropLast, if_pos (by omega), List.getElem?_eq_getElem (by omega)]
  rfl
theorem arrs_last {l : List D} {m : Nat} (h : m + 1 = l.length) : (arrs l)[m]? = some (T l[m]) := by
  unfold arrs
  rw [List.getElem?_append_right (by simp; omega), List.getElem?_map, List.getElem?_drop, List.length_map, List.length_dropLast, show l.length - 1 + (m - (l.length - 1)) = m by omega, List.getElem?_eq_getElem (by omega)]
  rfl
theorem arrs_join {l : List D} (h : l.length ≠ 0) : joinB (arrs l) sArrow = joinB (l.dropLast.map arrD) emp ++ (txts l).getLastD emp := by
  have e : (l.drop (l.length - 1)).map T = [(txts l).getLastD emp] := by
    have hl : l.length - 1 < l.length := by omega
    rw [List.drop_eq_getElem_cons hl, show l.length - 1 + 1 = l.length by omega, List.drop_length]
    unfold txts
    rw [List.getLastD_eq_getLast?, List.getLast?_map, List.getLast?_eq_getElem?, List.getElem?_eq_getElem hl]
    rfl
  unfold arrs
  rw [e, joinB_arr, List.map_map]
  rfl
theorem arrs_size {l : List D} (hf : Fits l) (hw : wsum l ≤ 1048576) : ((arrs l).map fun x => x.size + sArrow.size).sum ≤ 1099578736640 := by
  have h1 : ((arrs l).map fun x => x.size + sArrow.size).sum ≤ (l.map fun x => x.t.size + 16).sum := by
    have e : l = l.dropLast ++ l.drop (l.length - 1) := by rw [List.dropLast_eq_take, List.take_append_drop]
    conv => rhs; rw [e]
    unfold arrs
    rw [List.map_append, List.map_append, List.sum_append, List.sum_append, List.map_map, List.map_map]
    refine Nat.add_le_add (sum_map_le fun x _ => ?_) (sum_map_le fun x _ => ?_)
    · have := round_size x.t (decide (3 = x.k))
      show (roundT x.t (decide (3 = x.k))).size + 4 ≤ _
      omega
    · show x.t.size + 4 ≤ _
      omega
  have h2 := sum_fit (g := fun x => x.t.size + 16) hf fun _ _ => Nat.le_refl _
  have := F_leM hw
  omega
def NumV (W0 : World) : Prop := ∀ (W : World) (n : Int), i64 n → Calls Tryz.prog 39 #[.int .i64 n] W fun e w' => e = .returned (.string (numS n)) ∧ Below W.heap.size W w'
theorem rty_ok {d : D} {W0 : World} (hN : NumV W0) (hw : d.w ≤ 1048576) (hT : ∀ x, x.w < d.w → FnOK 21 .ty T W0 x) : FnOK 21 .ty T W0 d := by
  intro W vs hv hB
  obtain ⟨k, name, num, a, l, c, vf, rfl, ht, hk, hn, hnum, hrow, hwt⟩ := hv.ty_parts
  have hts : (T d).size ≤ 1099578736640 := by have := hv.size_le hw; show d.t.size ≤ _; omega
  have hd : T d = tyText k name num l := ht
  rw [hd] at hts ⊢
  have hfit := hrow.fits
  have hll := len_le hfit
  have hxw : ∀ x ∈ l, x.w < d.w := fun x hx => by have := w_mem hx; omega
  have hwl : wsum l ≤ 1048576 := by omega
  have hxt : ∀ x ∈ l, (T x).size ≤ 1099578736640 := fun x hx => by have h1 := mem_fit hfit hx; have h2 := F_leM hwl; show x.t.size ≤ _; omega
  have hns := numS_size num
  generalize hW1 : W.alloc (.cells ⟨[.int .u8 k, .string name, .int .i64 num, .slice a l.length c]⟩ 30) = W1
  have hBW : Below W0.heap.size W0 W1 := by rw [← hW1]; exact hB.alloc hB.size _
  have hBe : Below W.heap.size W W1 := by rw [← hW1]; exact (Below.refl _ _).alloc (Nat.le_refl _) _
  have HBK : Hid (∀ w, Hid (Below W1.heap.size W1 w) → Below W.heap.size W w) := Lib.hid fun w hb => hBe.trans (hb.out.mono hBe.size)
  have HS : Hid (∀ w, Hid (Below W1.heap.size W1 w) → Hid (Below W1.heap.size W1 w) ∧ w.cell? ⟨W.heap.size, 0, none⟩ = some (.int .u8 k) ∧ w.cell? ⟨W.heap.size, 1, none⟩ = some (.string name) ∧ w.cell? ⟨W.heap.size, 2, none⟩ = some (.int .i64 num) ∧ w.cell? ⟨W.heap.size, 3, none⟩ = some (.slice a l.length c)) := by
    refine Lib.hid fun w hb => ⟨hb, ?_⟩
    have hc := fun o => hb.out.cell (p := ⟨W.heap.size, o, none⟩) (by rw [← hW1]; simp)
    simp only [hc]
    rw [← hW1]
    simp [go_sem]
  have hS1 := (HS.out W1 (Lib.hid (Below.refl _ _))).2
  have HN := lift (G := .returned (.string (numS num))) hBW fun w _ => hN w num hnum
  have HI : Hid (∀ m (hm : m < l.length) so w, Hid (Below W1.heap.size W1 w) → Calls Tryz.prog 44 #[.agg ⟨vf m⟩, .bool so] w fun e w' => e = .returned (.string (roundT (T l[m]) so)) ∧ Hid (Below W1.heap.size W1 w') ∧ Hid (Below w.heap.size w w')) := Lib.hid fun m hm so w hb =>
    (inner_ok (hT _ (hxw _ (List.getElem_mem hm))) (by have := hxt _ (List.getElem_mem hm); show (T l[m]).size ≤ _; omega) so (hrow.kid m _ (List.getElem?_eq_getElem hm)) (hBW.trans (hb.out.mono hBW.size))).mono fun _ _ h => ⟨h.1, Lib.hid (hb.out.trans (h.2.mono hb.out.size)), Lib.hid h.2⟩
  have HT : Hid (∀ m (hm : m < l.length) w, Hid (Below W1.heap.size W1 w) → Calls Tryz.prog 21 #[.agg ⟨vf m⟩] w fun e w' => e = .returned (.string (T l[m])) ∧ Hid (Below W1.heap.size W1 w') ∧ Hid (Below w.heap.size w w')) := Lib.hid fun m hm w hb =>
    (hT _ (hxw _ (List.getElem_mem hm)) w _ (hrow.kid m _ (List.getElem?_eq_getElem hm)) (hBW.trans (hb.out.mono hBW.size))).mono fun _ _ h => ⟨h.1, Lib.hid (hb.out.trans (h.2.mono hb.out.size)), Lib.hid h.2⟩
  have HROW := Lib.hid hrow
  have HBW := Lib.hid hBW
  have HFIT := Lib.hid hfit
  have HXT := Lib.hid hxt
  have hll2 : l.length ≤ 1048576 := by omega
  have hname : name.size ≤ 1048576 := by omega
  have HNIL : Hid (OutV W1 W1 (.slice none 0 0) ([] : List ByteArray)) := Lib.hid ⟨World.ownsRow_nil _ _ _ _, Below.refl _ _⟩
  clear hT hv hB ht hd hBW hBe hwt hrow hxw hfit hll hN hk hn hxt
  by_cases h1 : k = 1
  · subst h1
    by_cases h0 : name.size = 0
    · obtain rfl := eq_emp h0
      have HD : Hid (tyText 1 emp num l = sTick ++ numS num) := Lib.hid rfl
      clear h0
      have he : emp.toList.isEmpty = true := by simp [emp, Lib.toList_data]
      generalize tyText 1 emp num l = tt at *
      generalize numS num = nt at *
      go_enter Tryz.func21, Tryz.ntmps21
      go_wp2_with fail
      try rw [hW1]
      refine (HN.out _ (Lib.hid (Below.refl _ _))).mono ?_
      rintro e w' ⟨rfl, hb⟩
      go_wp2
      go_ret
      exact ⟨congrArg (fun x => Ending.returned (Value.string x)) HD.out.symm, HBK.out _ hb⟩
    · have HD : Hid (tyText 1 name num l = name) := Lib.hid (by rw [tyText, if_pos rfl, if_neg h0])
      have hb0 := ne_emp h0
      generalize tyText 1 name num l = tt at *
      go_enter Tryz.func21, Tryz.ntmps21
      go_wp2
      go_ret
      exact ⟨congrArg (fun x => Ending.returned (Value.string x)) HD.out.symm, hW1 ▸ (Below.refl _ _).alloc (Nat.le_refl _) _⟩
  have e1 : (k == 1) = false := by simpa using h1
  by_cases h3 : k = 3
  · subst h3
    by_cases h0 : l.length = 0
    · have HD : Hid (tyText 3 name num l = emp) := Lib.hid (by rw [tyText, if_neg (by decide), if_pos rfl, if_pos h0])
      have hJ : joinB ([] : List ByteArray) sArrow = emp := rfl
      have HJ := Lib.hid (rjoin_ok (sep := sArrow) (StrRow.of_out HNIL.out) (by simp) (by simp))
      rw [hJ] at HJ
      generalize tyText 3 name num l = tt at *
      rw [h0] at hW1 hS1
      go_enter Tryz.func21, Tryz.ntmps21
      rw [h0]
      go_wp2_with fail
      try rw [hW1]
      go_loopw [3, 4] (fun out j wr => out = .slice none 0 0 ∧ j = .int .i64 0 ∧ wr = W1) (fun _ j _ => 0)
      case atStart => exact ⟨rfl, rfl, rfl⟩
      case round =>
        obtain ⟨rfl, rfl, rfl⟩ := hrel
        go_wp2_with fail
        refine HJ.out.mono ?_
        rintro e w2 ⟨rfl, rfl⟩
        go_wp2
        go_ret
        exact ⟨congrArg (fun x => Ending.returned (Value.string x)) HD.out.symm, HBK.out _ (Lib.hid (Below.refl _ _))⟩
    have HD : Hid (tyText 3 name num l = joinB (arrs l) sArrow) := Lib.hid (by rw [arrs_join h0, tyText, if_neg (by decide), if_pos rfl, if_neg h0])
    have HSZ := Lib.hid (arrs_size HFIT.out hwl)
    generalize tyText 3 name num l = tt at *
    go_enter Tryz.func21, Tryz.ntmps21
    go_wp2
    try rw [hW1]
    have hwr : IntKind.i64.wrap ((l.length : Int) - 1) = (l.length : Int) - 1 := wrap_small _ (by omega) (by omega)
    go_loopw [3, 4] (fun out j wr => ∃ m : Nat, m ≤ l.length ∧ j = .int .i64 m ∧ Hid (OutV W1 wr out ((arrs l).take m))) (fun _ j _ => l.length - (intOf j).toNat)
    case atStart => exact ⟨0, Nat.zero_le _, rfl, by rw [List.take_zero]; exact HNIL⟩
    case round =>
      obtain ⟨m, hk, rfl, hO⟩ := hrel
      by_cases hlt : m < l.length
      ·
        obtain ⟨b, o, rfl, hr⟩ := HROW.out.cells (by omega)
        have hc := hr m hlt
        obtain ⟨v0, v1, v2, a3, n3, c3, hvk⟩ := (HROW.out.kid _ _ (List.getElem?_eq_getElem hlt)).ty_vals
        have hv0 : l[m].k = v0 := by have q := HROW.out.kid _ _ (List.getElem?_eq_getElem hlt); rw [hvk] at q; exact q.ty_k.1
        have hI := HI.out m hlt
        have hT := HT.out m hlt
        rw [hvk] at hc hI hT
        have HI1 := Lib.hid hI
        have HT1 := Lib.hid hT
        have hx := HXT.out _ (List.getElem_mem hlt)
        have HS2 : Hid (∀ w, Hid (Below W1.heap.size W1 w) → Hid (Below W1.heap.size W1 w) ∧ w.cell? ⟨W.heap.size, 0, none⟩ = some (.int .u8 3) ∧ w.cell? ⟨W.heap.size, 1, none⟩ = some (.string name) ∧ w.cell? ⟨W.heap.size, 2, none⟩ = some (.int .i64 num) ∧ w.cell? ⟨W.heap.size, 3, none⟩ = some (.slice (some ⟨b, o, none⟩) l.length c) ∧ w.cell? ⟨b, o + m * 4, none⟩ = some (.int .u8 v0) ∧ w.cell? ⟨b, o + m * 4 + 1, none⟩ = some (.string v1) ∧ w.cell? ⟨b, o + m * 4 + 2, none⟩ = some (.int .i64 v2) ∧ w.cell? ⟨b, o + m * 4 + 3, none⟩ = some (.slice a3 n3 c3)) := Lib.hid fun w hb => by
          have hcW := hc.below (HBW.out.trans (hb.out.mono HBW.out.size))
          exact ⟨hb, (HS.out w hb).2.1, (HS.out w hb).2.2.1, (HS.out w hb).2.2.2.1, (HS.out w hb).2.2.2.2, hcW 0 _ rfl, hcW 1 _ rfl, hcW 2 _ rfl, hcW 3 _ rfl⟩
        have hSr := (HS2.out wr (Lib.hid hO.out.2)).2
        have i0 : (0 : Int) ≤ (m : Int) := by omega
        have i1 : (m : Int) < (l.length : Int) := by omega
        by_cases hm : m + 1 < l.length
        · have htk := take_step (arrs_get hm)
          rw [hv0] at htk
          have hlt' : (m : Int) < (l.length : Int) - 1 := by omega
          have HLEN : Hid (((arrs l).take m).length ≤ 1048576) := Lib.hid (by simp; omega)
          clear hc hI hT hvk hr hv0
          by_cases hv3 : v0 = 3
          · subst hv3
            have htk2 : (arrs l).take (m + 1) = (arrs l).take m ++ [roundT (T l[m]) true] := htk
            have HTK := Lib.hid htk2
            clear htk htk2
            generalize T l[m] = tx at *
            go_wp2
            first
            | go_region_held3 (fun w => Hid (Below W1.heap.size W1 w) ∧ w.cell? ⟨W.heap.size, 0, none⟩ = some (.int .u8 3) ∧ w.cell? ⟨W.heap.size, 1, none⟩ = some (.string name) ∧ w.cell? ⟨W.heap.size, 2, none⟩ = some (.int .i64 num) ∧ w.cell? ⟨W.heap.size, 3, none⟩ = some (.slice (some ⟨b, o, none⟩) l.length c) ∧ w.cell? ⟨b, o + m * 4, none⟩ = some (.int .u8 3) ∧ w.cell? ⟨b, o + m * 4 + 1, none⟩ = some (.string v1) ∧ w.cell? ⟨b, o + m * 4 + 2, none⟩ = some (.int .i64 v2) ∧ w.cell? ⟨b, o + m * 4 + 3, none⟩ = some (.slice a3 n3 c3)) ((refine HS2.out _ ?_; (first | assumption | exact bl1 (by assumption) | exact bl2 (by assumption) | exact OutV.bel (by (first | assumption | exact OutV.drew' (by assumption) | exact ov1 (by assumption) | exact ov2 (by assumption) | exact ov3 (by assumption) | exact ov4 (by assumption))) | exact bl4 (by assumption))))
              (first
              | (rw [if_pos (by rfl)]; refine wp_app (W := W1) (xs := (arrs l).take m) _ _ rfl rfl rfl ?_ (new_cell _ _ _) HLEN.out ?_; (first | assumption | exact OutV.drew' (by assumption) | exact ov1 (by assumption) | exact ov2 (by assumption) | exact ov3 (by assumption) | exact ov4 (by assumption)); intro v' w3 HN3; rw [← HTK.out] at HN3)
              | (go_at_call 44; refine (HI1.out _ _ ?_).mono ?_; (first | assumption | exact bl1 (by assumption) | exact bl2 (by assumption) | exact OutV.bel (by (first | assumption | exact OutV.drew' (by assumption) | exact ov1 (by assumption) | exact ov2 (by assumption) | exact ov3 (by assumption) | exact ov4 (by assumption))) | exact bl4 (by assumption)); rintro e' w' ⟨rfl, hb, hb'⟩; have hov : Hid (OutV W1 w' _ ((arrs l).take m)) := OutV.call (by (first | assumption | exact OutV.drew' (by assumption) | exact ov1 (by assumption) | exact ov2 (by assumption) | exact ov3 (by assumption) | exact ov4 (by assumption))) hb'.out))
            | fail
            all_goals go_wp2
            all_goals go_round
            all_goals first
              | (case rel => exact ⟨m + 1, by omega, by simp, ‹Hid (OutV W1 _ _ ((arrs l).take (m + 1)))›⟩)
              | (case measure => simp [intOf]; omega)
          · have e3' : (v0 == 3) = false := by simpa using hv3
            have htk2 : (arrs l).take (m + 1) = (arrs l).take m ++ [roundT (T l[m]) false] := by rw [htk]; congr 3; simpa [eq_comm] using hv3
            have HTK := Lib.hid htk2
            clear htk htk2
            generalize T l[m] = tx at *
            go_wp2
            first
            | go_region_held3 (fun w => Hid (Below W1.heap.size W1 w) ∧ w.cell? ⟨W.heap.size, 0, none⟩ = some (.int .u8 3) ∧ w.cell? ⟨W.heap.size, 1, none⟩ = some (.string name) ∧ w.cell? ⟨W.heap.size, 2, none⟩ = some (.int .i64 num) ∧ w.cell? ⟨W.heap.size, 3, none⟩ = some (.slice (some ⟨b, o, none⟩) l.length c) ∧ w.cell? ⟨b, o + m * 4, none⟩ = some (.int .u8 v0) ∧ w.cell? ⟨b, o + m * 4 + 1, none⟩ = some (.string v1) ∧ w.cell? ⟨b, o + m * 4 + 2, none⟩ = some (.int .i64 v2) ∧ w.cell? ⟨b, o + m * 4 + 3, none⟩ = some (.slice a3 n3 c3)) ((refine HS2.out _ ?_; (first | assumption | exact bl1 (by assumption) | exact bl2 (by assumption) | exact OutV.bel (by (first | assumption | exact OutV.drew' (by assumption) | exact ov1 (by assumption) | exact ov2 (by assumption) | exact ov3 (by assumption) | exact ov4 (by assumption))) | exact bl4 (by assumption))))
              (first
              | (rw [if_pos (by rfl)]; refine wp_app (W := W1) (xs := (arrs l).take m) _ _ rfl rfl rfl ?_ (new_cell _ _ _) HLEN.out ?_; (first | assumption | exact OutV.drew' (by assumption) | exact ov1 (by assumption) | exact ov2 (by assumption) | exact ov3 (by assumption) | exact ov4 (by assumption)); intro v' w3 HN3; rw [← HTK.out] at HN3)
              | (go_at_call 44; refine (HI1.out _ _ ?_).mono ?_; (first | assumption | exact bl1 (by assumption) | exact bl2 (by assumption) | exact OutV.bel (by (first | assumption | exact OutV.drew' (by assumption) | exact ov1 (by assumption) | exact ov2 (by assumption) | exact ov3 (by assumption) | exact ov4 (by assumption))) | exact bl4 (by assumption)); rintro e' w' ⟨rfl, hb, hb'⟩; have hov : Hid (OutV W1 w' _ ((arrs l).take m)) := OutV.call (by (first | assumption | exact OutV.drew' (by assumption) | exact ov1 (by assumption) | exact ov2 (by assumption) | exact ov3 (by assumption) | exact ov4 (by assumption))) hb'.out))
            | fail
            all_goals go_wp2
            all_goals go_round
            all_goals first
              | (case rel => exact ⟨m + 1, by omega, by simp, ‹Hid (OutV W1 _ _ ((arrs l).take (m + 1)))›⟩)
              | (case measure => simp [intOf]; omega)
        · have hme : m + 1 = l.length := by omega
          have HTK := Lib.hid (take_step (arrs_last hme))
          have hlt' : ¬ (m : Int) < (l.length : Int) - 1 := by omega
          have hle' : (l.length : Int) - 1 ≤ (m : Int) := by omega
          clear hc hI hT hvk hr hv0
          generalize T l[m] = tx at *
          go_wp2_with fail
          refine (HT1.out _ ?_).mono ?_
          exact OutV.bel (by assumption)
          rintro e w2 ⟨rfl, hb1, hb2⟩
          have hov := OutV.call hO hb2.out
          have hS2' := (HS2.out w2 hb1).2
          go_wp2_with (at_builtin; refine wpList_app (W := W1) rfl _ _ rfl rfl rfl (OutV.alloc' hov _) (new_cell _ _ _) (by simp; omega) ?_; intro v' w3 HN3)
          rw [← HTK.out] at HN3
          go_wp2
          go_round
          case rel => exact ⟨m + 1, by omega, by simp, HN3⟩
          case measure => simp [intOf]; omega
      · obtain rfl : m = l.length := by omega
        rw [List.take_of_length_le (by simp [arrs_len])] at hO
        have HJ := Lib.hid (rjoin_ok (sep := sArrow) (StrRow.of_out hO.out) (by simp [arrs_len]; omega) (by have := HSZ.out; omega))
        generalize joinB (arrs l) sArrow = jj at *
        have hSr := (HS.out wr (Lib.hid hO.out.2)).2
        go_wp2_with fail
        refine HJ.out.mono ?_
        rintro e w2 ⟨rfl, rfl⟩
        go_wp2
        go_ret
        exact ⟨congrArg (fun x => Ending.returned (Value.string x)) HD.out.symm, HBK.out _ (Lib.hid hO.out.2)⟩
  have e3 : (k == 3) = false := by simpa using h3
  by_cases h4 : k = 4
  · subst h4
    have HD : Hid (tyText 4 name num l = joinB (l.map loneD) sStar) := Lib.hid rfl
    have HSZ := Lib.hid (joinS (g := loneD) (sep := sStar) HFIT.out hwl fun x _ => by have := lone_le x; show _ + 3 ≤ _; omega)
    generalize tyText 4 name num l = tt at *
    go_enter Tryz.func21, Tryz.ntmps21
    go_wp2
    try rw [hW1]
    go_loopw [3, 5] (fun out j wr => ∃ m : Nat, m ≤ l.length ∧ j = .int .i64 m ∧ Hid (OutV W1 wr out ((l.map loneD).take m))) (fun _ j _ => l.length - (intOf j).toNat)
    case atStart => exact ⟨0, Nat.zero_le _, rfl, by rw [List.take_zero]; exact HNIL⟩
    case round =>
      obtain ⟨m, hk, rfl, hO⟩ := hrel
      by_cases hlt : m < l.length
      ·
        obtain ⟨b, o, rfl, hr⟩ := HROW.out.cells (by omega)
        have hc := hr m hlt
        obtain ⟨v0, v1, v2, a3, n3, c3, hvk⟩ := (HROW.out.kid _ _ (List.getElem?_eq_getElem hlt)).ty_vals
        have hv0 : l[m].k = v0 := by have q := HROW.out.kid _ _ (List.getElem?_eq_getElem hlt); rw [hvk] at q; exact q.ty_k.1
        have hI := HI.out m hlt
        have hT := HT.out m hlt
        rw [hvk] at hc hI hT
        have HI1 := Lib.hid hI
        have HT1 := Lib.hid hT
        have hx := HXT.out _ (List.getElem_mem hlt)
        have HS2 : Hid (∀ w, Hid (Below W1.heap.size W1 w) → Hid (Below W1.heap.size W1 w) ∧ w.cell? ⟨W.heap.size, 0, none⟩ = some (.int .u8 4) ∧ w.cell? ⟨W.heap.size, 1, none⟩ = some (.string name) ∧ w.cell? ⟨W.heap.size, 2, none⟩ = some (.int .i64 num) ∧ w.cell? ⟨W.heap.size, 3, none⟩ = some (.slice (some ⟨b, o, none⟩) l.length c) ∧ w.cell? ⟨b, o + m * 4, none⟩ = some (.int .u8 v0) ∧ w.cell? ⟨b, o + m * 4 + 1, none⟩ = some (.string v1) ∧ w.cell? ⟨b, o + m * 4 + 2, none⟩ = some (.int .i64 v2) ∧ w.cell? ⟨b, o + m * 4 + 3, none⟩ = some (.slice a3 n3 c3)) := Lib.hid fun w hb => by
          have hcW := hc.below (HBW.out.trans (hb.out.mono HBW.out.size))
          exact ⟨hb, (HS.out w hb).2.1, (HS.out w hb).2.2.1, (HS.out w hb).2.2.2.1, (HS.out w hb).2.2.2.2, hcW 0 _ rfl, hcW 1 _ rfl, hcW 2 _ rfl, hcW 3 _ rfl⟩
        have hSr := (HS2.out wr (Lib.hid hO.out.2)).2
        have i0 : (0 : Int) ≤ (m : Int) := by omega
        have i1 : (m : Int) < (l.length : Int) := by omega
        have htk := take_step (xs := l.map loneD) (m := m) (x := roundT (T l[m]) (decide (3 = v0) || decide (4 = v0))) (by rw [List.getElem?_map, List.getElem?_eq_getElem hlt, ← hv0]; rfl)
        clear hc hI hT hvk hr hv0
        by_cases hv3 : v0 = 3
        · subst hv3
          have HTK : Hid ((l.map loneD).take (m + 1) = (l.map loneD).take m ++ [roundT (T l[m]) true]) := Lib.hid htk
          clear htk
          generalize T l[m] = tx at *
          go_wp2_with fail
          refine (HI1.out _ _ ?_).mono ?_
          exact OutV.bel (by assumption)
          rintro e w2 ⟨rfl, hb1, hb2⟩
          have hov := OutV.call hO hb2.out
          have hS2' := (HS2.out w2 hb1).2
          go_wp2_with (at_builtin; refine wpList_app (W := W1) rfl _ _ rfl rfl rfl (OutV.alloc' hov _) (new_cell _ _ _) (by simp; omega) ?_; intro v' w3 HN3)
          rw [← HTK.out] at HN3
          go_wp2
          go_round
          case rel => exact ⟨m + 1, by omega, by simp, HN3⟩
          case measure => simp [intOf]; omega
        by_cases hv4 : v0 = 4
        · subst hv4
          have HTK : Hid ((l.map loneD).take (m + 1) = (l.map loneD).take m ++ [roundT (T l[m]) true]) := Lib.hid htk
          clear htk
          generalize T l[m] = tx at *
          go_wp2_with fail
          refine (HI1.out _ _ ?_).mono ?_
          exact OutV.bel (by assumption)
          rintro e w2 ⟨rfl, hb1, hb2⟩
          have hov := OutV.call hO hb2.out
          have hS2' := (HS2.out w2 hb1).2
          go_wp2_with (at_builtin; refine wpList_app (W := W1) rfl _ _ rfl rfl rfl (OutV.alloc' hov _) (new_cell _ _ _) (by simp; omega) ?_; intro v' w3 HN3)
          rw [← HTK.out] at HN3
          go_wp2
          go_round
          case rel => exact ⟨m + 1, by omega, by simp, HN3⟩
          case measure => simp [intOf]; omega
        have f3 : (v0 == 3) = false := by simpa using hv3
        have f4 : (v0 == 4) = false := by simpa using hv4
        have HTK : Hid ((l.map loneD).take (m + 1) = (l.map loneD).take m ++ [roundT (T l[m]) false]) := Lib.hid (by rw [htk, or_ff hv3 hv4])
        clear htk
        generalize T l[m] = tx at *
        go_wp2_with fail
        refine (HI1.out _ _ ?_).mono ?_
        exact OutV.bel (by assumption)
        rintro e w2 ⟨rfl, hb1, hb2⟩
        have hov := OutV.call hO hb2.out
        have hS2' := (HS2.out w2 hb1).2
        go_wp2_with (at_builtin; refine wpList_app (W := W1) rfl _ _ rfl rfl rfl (OutV.alloc' hov _) (new_cell _ _ _) (by simp; omega) ?_; intro v' w3 HN3)
        rw [← HTK.out] at HN3
        go_wp2
        go_round
        case rel => exact ⟨m + 1, by omega, by simp, HN3⟩
        case measure => simp [intOf]; omega
      · obtain rfl : m = l.length := by omega
        rw [List.take_of_length_le (by simp [arrs_len])] at hO
        have HJ := Lib.hid (rjoin_ok (sep := sStar) (StrRow.of_out hO.out) (by simp [arrs_len]; omega) (by have := HSZ.out; omega))
        generalize joinB (l.map loneD) sStar = jj at *
        have hSr := (HS.out wr (Lib.hid hO.out.2)).2
        go_wp2_with fail
        refine HJ.out.mono ?_
        rintro e w2 ⟨rfl, rfl⟩
        go_wp2
        go_ret
        exact ⟨congrArg (fun x => Ending.returned (Value.string x)) HD.out.symm, HBK.out _ (Lib.hid hO.out.2)⟩
  have e4 : (k == 4) = false := by simpa using h4
  by_cases h2 : k = 2
  · subst h2
    by_cases h0 : l.length = 0
    · have HD : Hid (tyText 2 name num l = name) := Lib.hid (by rw [tyText, if_neg (by decide), if_neg (by decide), if_neg (by decide), if_pos rfl, if_pos h0])
      generalize tyText 2 name num l = tt at *
      rw [h0] at hW1 hS1
      go_enter Tryz.func21, Tryz.ntmps21
      rw [h0]
      go_wp2
      go_ret
      exact ⟨congrArg (fun x => Ending.returned (Value.string x)) HD.out.symm, hW1 ▸ (Below.refl _ _).alloc (Nat.le_refl _) _⟩
    by_cases h5 : l.length = 1
    · have hlt : 0 < l.length := by omega
      obtain ⟨b, o, rfl, hr⟩ := HROW.out.cells (by omega)
      have hc := hr 0 hlt
      obtain ⟨v0, v1, v2, a3, n3, c3, hvk⟩ := (HROW.out.kid _ _ (List.getElem?_eq_getElem hlt)).ty_vals
      have hv0 : l[0].k = v0 := by have q := HROW.out.kid _ _ (List.getElem?_eq_getElem hlt); rw [hvk] at q; exact q.ty_k.1
      have hI := HI.out 0 hlt
      rw [hvk] at hc hI
      have HI1 := Lib.hid hI
      have hx := HXT.out _ (List.getElem_mem hlt)
      have hD : tyText 2 name num l = roundT (T l[0]) (decide (3 = v0) || decide (4 = v0)) ++ sBlank ++ name := by
        rw [tyText, if_neg (by decide), if_neg (by decide), if_neg (by decide), if_pos rfl, if_neg h0, if_pos h5, head_map hlt, ← hv0]
        rfl
      have HS2 : Hid (∀ w, Hid (Below W1.heap.size W1 w) → Hid (Below W1.heap.size W1 w) ∧ w.cell? ⟨W.heap.size, 0, none⟩ = some (.int .u8 2) ∧ w.cell? ⟨W.heap.size, 1, none⟩ = some (.string name) ∧ w.cell? ⟨W.heap.size, 2, none⟩ = some (.int .i64 num) ∧ w.cell? ⟨W.heap.size, 3, none⟩ = some (.slice (some ⟨b, o, none⟩) 1 c) ∧ w.cell? ⟨b, o, none⟩ = some (.int .u8 v0) ∧ w.cell? ⟨b, o + 1, none⟩ = some (.string v1) ∧ w.cell? ⟨b, o + 2, none⟩ = some (.int .i64 v2) ∧ w.cell? ⟨b, o + 3, none⟩ = some (.slice a3 n3 c3)) := Lib.hid fun w hb => by
        have hcw := hc.below (HBW.out.trans (hb.out.mono HBW.out.size))
        have q := (HS.out w hb).2
        rw [h5] at q
        have hcw := fun j v h => hcw j v h
        simp only [Nat.zero_mul, Nat.add_zero] at hcw
        exact ⟨hb, q.1, q.2.1, q.2.2.1, q.2.2.2, hcw 0 _ rfl, hcw 1 _ rfl, hcw 2 _ rfl, hcw 3 _ rfl⟩
      have hSr := (HS2.out W1 (Lib.hid (Below.refl _ _))).2
      clear hc hvk hr hI HI HT HROW HXT HFIT hv0
      generalize tyText 2 name num l = tt at *
      generalize T l[0] = tx at *
      rw [h5] at hW1 hS1 hll2 ⊢
      have hr1 := fun so => round_size tx so
      by_cases hv3 : v0 = 3
      · subst hv3
        have HD : Hid (tt = roundT tx true ++ sBlank ++ name) := Lib.hid hD
        have hrt := hr1 true
        clear hD
        obtain ⟨rt, hrt0⟩ : ∃ rt, rt = roundT tx true := ⟨_, rfl⟩
        rw [← hrt0] at HD hrt
        have HRT := Lib.hid hrt0.symm
        clear hrt0
        have HI2 : Hid (∀ w, Hid (Below W1.heap.size W1 w) → Calls Tryz.prog 44 #[.agg ⟨[.int .u8 3, .string v1, .int .i64 v2, .slice a3 n3 c3]⟩, .bool true] w fun e w' => e = .returned (.string rt) ∧ Hid (Below W1.heap.size W1 w') ∧ Hid (Below w.heap.size w w')) := Lib.hid fun w hb => by have q := HI1.out true w hb; rw [HRT.out] at q; exact q
        go_enter Tryz.func21, Tryz.ntmps21
        go_wp2
        try rw [hW1]
        have z00 : ¬ 9223372036854775807 < rt.size + 1 := by omega
        have z01 : ¬ 9223372036854775807 < rt.size + 1 + name.size := by omega
        refine wp_region_held_drew (S := (fun w => Hid (Below W1.heap.size W1 w) ∧ w.cell? ⟨W.heap.size, 0, none⟩ = some (.int .u8 2) ∧ w.cell? ⟨W.heap.size, 1, none⟩ = some (.string name) ∧ w.cell? ⟨W.heap.size, 2, none⟩ = some (.int .i64 num) ∧ w.cell? ⟨W.heap.size, 3, none⟩ = some (.slice (some ⟨b, o, none⟩) 1 c) ∧ w.cell? ⟨b, o, none⟩ = some (.int .u8 3) ∧ w.cell? ⟨b, o + 1, none⟩ = some (.string v1) ∧ w.cell? ⟨b, o + 2, none⟩ = some (.int .i64 v2) ∧ w.cell? ⟨b, o + 3, none⟩ = some (.slice a3 n3 c3))) (by kernel_rfl) ?_ (fun hHeld => ?_)
        · refine HS2.out _ ?_; (first | assumption | exact bl1 (by assumption) | exact bl2 (by assumption) | exact OutV.bel (by (first | assumption | exact OutV.drew' (by assumption) | exact ov1 (by assumption) | exact ov2 (by assumption) | exact ov3 (by assumption) | exact ov4 (by assumption))) | exact bl4 (by assumption))
        refine wpAnyH_take (i := 0) (oi := { dst := some 113, op := .fieldAddr 30 (.tmp 1) 3, type := _, pos := _, after := _, guard := none }) (v := ?v0) rfl (by kernel_rfl) (by kernel_rfl) (by kernel_rfl) (fun _ _ _ h => h) (Or.inl ⟨by rfl, ?hy0⟩) (by assumption) ?rest0
        case hy0 => (intro w hSw; (try dsimp only at hSw); go_simp; try with_reducible rfl)
        try simp only [Act.put, List.setIfInBounds_toArray, List.set_cons_zero, List.set_cons_succ]
        refine wpAnyH_take (i := 1) (oi := { dst := some 114, op := .load 28 (.tmp 113), type := _, pos := _, after := _, guard := none }) (v := ?v1) rfl (by kernel_rfl) (by kernel_rfl) (by kernel_rfl) (fun _ _ _ h => h) (Or.inl ⟨by rfl, ?hy1⟩) (by assumption) ?rest1
        case hy1 => (intro w hSw; (try dsimp only at hSw); go_simp; try with_reducible rfl)
        try simp only [Act.put, List.setIfInBounds_toArray, List.set_cons_zero, List.set_cons_succ]
        refine wpAnyH_take (i := 2) (oi := { dst := some 115, op := .indexAddr 28 (.tmp 114) (.const (.int .i64 0)), type := _, pos := _, after := _, guard := none }) (v := ?v2) rfl (by kernel_rfl) (by kernel_rfl) (by kernel_rfl) (fun _ _ _ h => h) (Or.inl ⟨by rfl, ?hy2⟩) (by assumption) ?rest2
        case hy2 => (intro w hSw; (try dsimp only at hSw); go_simp; try with_reducible rfl)
        try simp only [Act.put, List.setIfInBounds_toArray, List.set_cons_zero, List.set_cons_succ]
        refine wpAnyH_take (i := 3) (oi := { dst := some 116, op := .load 30 (.tmp 115), type := _, pos := _, after := _, guard := none }) (v := ?v3) rfl (by kernel_rfl) (by kernel_rfl) (by kernel_rfl) (fun _ _ _ h => h) (Or.inl ⟨by rfl, ?hy3⟩) (by assumption) ?rest3
        case hy3 => (intro w hSw; (try dsimp only at hSw); go_simp; try with_reducible rfl)
        try simp only [Act.put, List.setIfInBounds_toArray, List.set_cons_zero, List.set_cons_succ]
        refine wpAnyH_take (i := 4) (oi := { dst := some 117, op := .move (.tmp 7), type := _, pos := _, after := _, guard := none }) (v := ?v4) rfl (by kernel_rfl) (by kernel_rfl) (by kernel_rfl) (fun _ _ _ h => h) (Or.inl ⟨by rfl, ?hy4⟩) (by assumption) ?rest4
        case hy4 => (intro w hSw; (try dsimp only at hSw); go_simp; try with_reducible rfl)
        try simp only [Act.put, List.setIfInBounds_toArray, List.set_cons_zero, List.set_cons_succ]
        refine wpAnyH_take (i := 5) (oi := { dst := some 118, op := .binOp .eql 5 (.tmp 117) (.const (.int .u8 3)) 5, type := _, pos := _, after := _, guard := none }) (v := ?v5) rfl (by kernel_rfl) (by kernel_rfl) (by kernel_rfl) (fun _ _ _ h => h) (Or.inl ⟨by rfl, ?hy5⟩) (by assumption) ?rest5
        case hy5 => (intro w hSw; (try dsimp only at hSw); go_simp; try with_reducible rfl)
        try simp only [Act.put, List.setIfInBounds_toArray, List.set_cons_zero, List.set_cons_succ]
        refine wpAnyH_take (i := 6) (oi := { dst := some 119, op := .move (.tmp 118), type := _, pos := _, after := _, guard := none }) (v := ?v6) rfl (by kernel_rfl) (by kernel_rfl) (by kernel_rfl) (fun _ _ _ h => h) (Or.inl ⟨by rfl, ?hy6⟩) (by assumption) ?rest6
        case hy6 => (intro w hSw; (try dsimp only at hSw); go_simp; try with_reducible rfl)
        try simp only [Act.put, List.setIfInBounds_toArray, List.set_cons_zero, List.set_cons_succ]
        refine wpAnyH_take (i := 7) (oi := { dst := some 120, op := .move (.tmp 7), type := _, pos := _, after := _, guard := some (6, false) }) (v := undef) rfl (by kernel_rfl) (by kernel_rfl) (by kernel_rfl) (fun _ _ _ h => h) (Or.inr ⟨by first | kernel_rfl | rfl, rfl⟩) (by assumption) ?_
        try simp only [Act.put, List.setIfInBounds_toArray, List.set_cons_zero, List.set_cons_succ]
        refine wpAnyH_take (i := 8) (oi := { dst := some 121, op := .binOp .eql 5 (.tmp 120) (.const (.int .u8 4)) 5, type := _, pos := _, after := _, guard := some (6, false) }) (v := undef) rfl (by kernel_rfl) (by kernel_rfl) (by kernel_rfl) (fun _ _ _ h => h) (Or.inr ⟨by first | kernel_rfl | rfl, rfl⟩) (by assumption) ?_
        try simp only [Act.put, List.setIfInBounds_toArray, List.set_cons_zero, List.set_cons_succ]
        refine wpAnyH_take (i := 9) (oi := { dst := some 122, op := .pick (.tmp 119) (.const (.bool true)) (.tmp 121), type := _, pos := _, after := _, guard := none }) (v := ?v9) rfl (by kernel_rfl) (by kernel_rfl) (by kernel_rfl) (fun _ _ _ h => h) (Or.inl ⟨by rfl, ?hy9⟩) (by assumption) ?rest9
        case hy9 => (intro w hSw; (try dsimp only at hSw); go_simp; try with_reducible rfl)
        try simp only [Act.put, List.setIfInBounds_toArray, List.set_cons_zero, List.set_cons_succ]
        refine wpAnyH_take (i := 12) (oi := { dst := some 125, op := .fieldAddr 30 (.tmp 1) 1, type := _, pos := _, after := _, guard := none }) (v := ?v12) rfl (by kernel_rfl) (by kernel_rfl) (by kernel_rfl) (fun _ _ _ h => h) (Or.inl ⟨by rfl, ?hy12⟩) (by assumption) ?rest12
        case hy12 => (intro w hSw; (try dsimp only at hSw); go_simp; try with_reducible rfl)
        try simp only [Act.put, List.setIfInBounds_toArray, List.set_cons_zero, List.set_cons_succ]
        refine wpAnyH_take (i := 13) (oi := { dst := some 126, op := .load 9 (.tmp 125), type := _, pos := _, after := _, guard := none }) (v := ?v13) rfl (by kernel_rfl) (by kernel_rfl) (by kernel_rfl) (fun _ _ _ h => h) (Or.inl ⟨by rfl, ?hy13⟩) (by assumption) ?rest13
        case hy13 => (intro w hSw; (try dsimp only at hSw); go_simp; try with_reducible rfl)
        try simp only [Act.put, List.setIfInBounds_toArray, List.set_cons_zero, List.set_cons_succ]
        refine wpAnyH_ready (rs := [10]) (by kernel_rfl) (by simp) ?_
        refine AllReadyH.cons rfl (fun K hK => ?_) AllReadyH.nil
        go_simp
        go_at_call 44
        refine (HI2.out _ ?_).mono ?_
        · (first | assumption | exact bl1 (by assumption) | exact bl2 (by assumption) | exact OutV.bel (by (first | assumption | exact OutV.drew' (by assumption) | exact ov1 (by assumption) | exact ov2 (by assumption) | exact ov3 (by assumption) | exact ov4 (by assumption))) | exact bl4 (by assumption))
        rintro e' w' ⟨rfl, hb, hb'⟩
        refine hK.out _ _ ?_ (fun hHeld => ?_)
        · refine HS2.out _ ?_; (first | assumption | exact bl1 (by assumption) | exact bl2 (by assumption) | exact OutV.bel (by (first | assumption | exact OutV.drew' (by assumption) | exact ov1 (by assumption) | exact ov2 (by assumption) | exact ov3 (by assumption) | exact ov4 (by assumption))) | exact bl4 (by assumption))
        clear hK K
        try simp only [Act.put, List.setIfInBounds_toArray, List.set_cons_zero, List.set_cons_succ]
        refine wpAnyH_take (i := 11) (oi := { dst := some 124, op := .binOp .add 9 (.tmp 123) (.const (.string { data := #[32] })) 9, type := 9, pos := _, after := _, guard := none }) (v := ?v11) rfl (by kernel_rfl) (by kernel_rfl) (by kernel_rfl) (fun _ _ _ h => h) (Or.inl ⟨by rfl, ?hy11⟩) (by assumption) ?rest11
        case hy11 => (intro w hSw; (try dsimp only at hSw); go_simp; try with_reducible rfl)
        try simp only [Act.put, List.setIfInBounds_toArray, List.set_cons_zero, List.set_cons_succ]
        refine wpAnyH_take (i := 14) (oi := { dst := some 127, op := .binOp .add 9 (.tmp 124) (.tmp 126) 9, type := 9, pos := _, after := _, guard := none }) (v := ?v14) rfl (by kernel_rfl) (by kernel_rfl) (by kernel_rfl) (fun _ _ _ h => h) (Or.inl ⟨by rfl, ?hy14⟩) (by assumption) ?rest14
        case hy14 => (intro w hSw; (try dsimp only at hSw); go_simp; try with_reducible rfl)
        try simp only [Act.put, List.setIfInBounds_toArray, List.set_cons_zero, List.set_cons_succ]
        refine wpAnyH_take (i := 15) (oi := { dst := some 2, op := .assign (.tmp 127), type := 9, pos := _, after := _, guard := none }) (v := ?v15) rfl (by kernel_rfl) (by kernel_rfl) (by kernel_rfl) (fun _ _ _ h => h) (Or.inl ⟨by rfl, ?hy15⟩) (by assumption) ?rest15
        case hy15 => (intro w hSw; (try dsimp only at hSw); go_simp; try with_reducible rfl)
        try simp only [Act.put, List.setIfInBounds_toArray, List.set_cons_zero, List.set_cons_succ]
        refine wpAnyH_done (by kernel_rfl) ?_ _
        all_goals go_wp2
        all_goals go_ret
        all_goals exact ⟨congrArg (fun x => Ending.returned (Value.string x)) HD.out.symm, HBK.out _ (‹Hid (Below _ _ _) ∧ _›).1⟩
      by_cases hv4 : v0 = 4
      · subst hv4
        have HD : Hid (tt = roundT tx true ++ sBlank ++ name) := Lib.hid hD
        have hrt := hr1 true
        clear hD
        obtain ⟨rt, hrt0⟩ : ∃ rt, rt = roundT tx true := ⟨_, rfl⟩
        rw [← hrt0] at HD hrt
        have HRT := Lib.hid hrt0.symm
        clear hrt0
        have HI2 : Hid (∀ w, Hid (Below W1.heap.size W1 w) → Calls Tryz.prog 44 #[.agg ⟨[.int .u8 4, .string v1, .int .i64 v2, .slice a3 n3 c3]⟩, .bool true] w fun e w' => e = .returned (.string rt) ∧ Hid (Below W1.heap.size W1 w') ∧ Hid (Below w.heap.size w w')) := Lib.hid fun w hb => by have q := HI1.out true w hb; rw [HRT.out] at q; exact q
        go_enter Tryz.func21, Tryz.ntmps21
        go_wp2
        try rw [hW1]
        have z00 : ¬ 9223372036854775807 < rt.size + 1 := by omega
        have z01 : ¬ 9223372036854775807 < rt.size + 1 + name.size := by omega
        first
        | go_region_held3 (fun w => Hid (Below W1.heap.size W1 w) ∧ w.cell? ⟨W.heap.size, 0, none⟩ = some (.int .u8 2) ∧ w.cell? ⟨W.heap.size, 1, none⟩ = some (.string name) ∧ w.cell? ⟨W.heap.size, 2, none⟩ = some (.int .i64 num) ∧ w.cell? ⟨W.heap.size, 3, none⟩ = some (.slice (some ⟨b, o, none⟩) 1 c) ∧ w.cell? ⟨b, o, none⟩ = some (.int .u8 4) ∧ w.cell? ⟨b, o + 1, none⟩ = some (.string v1) ∧ w.cell? ⟨b, o + 2, none⟩ = some (.int .i64 v2) ∧ w.cell? ⟨b, o + 3, none⟩ = some (.slice a3 n3 c3)) ((refine HS2.out _ ?_; (first | assumption | exact bl1 (by assumption) | exact bl2 (by assumption) | exact OutV.bel (by (first | assumption | exact OutV.drew' (by assumption) | exact ov1 (by assumption) | exact ov2 (by assumption) | exact ov3 (by assumption) | exact ov4 (by assumption))) | exact bl4 (by assumption))))
          (first
          | (go_at_call 44; refine (HI2.out _ ?_).mono ?_; (first | assumption | exact bl1 (by assumption) | exact bl2 (by assumption) | exact OutV.bel (by (first | assumption | exact OutV.drew' (by assumption) | exact ov1 (by assumption) | exact ov2 (by assumption) | exact ov3 (by assumption) | exact ov4 (by assumption))) | exact bl4 (by assumption)); rintro e' w' ⟨rfl, hb, hb'⟩))
        | fail
        all_goals go_wp2
        all_goals go_ret
        all_goals exact ⟨congrArg (fun x => Ending.returned (Value.string x)) HD.out.symm, HBK.out _ (‹Hid (Below _ _ _) ∧ _›).1⟩
      · have f3 : (v0 == 3) = false := by simpa using hv3
        have f4 : (v0 == 4) = false := by simpa using hv4
        have HD : Hid (tt = roundT tx false ++ sBlank ++ name) := Lib.hid (by rw [hD, or_ff hv3 hv4])
        have hrt := hr1 false
        clear hD
        obtain ⟨rt, hrt0⟩ : ∃ rt, rt = roundT tx false := ⟨_, rfl⟩
        rw [← hrt0] at HD hrt
        have HRT := Lib.hid hrt0.symm
        clear hrt0
        have HI2 : Hid (∀ w, Hid (Below W1.heap.size W1 w) → Calls Tryz.prog 44 #[.agg ⟨[.int .u8 v0, .string v1, .int .i64 v2, .slice a3 n3 c3]⟩, .bool false] w fun e w' => e = .returned (.string rt) ∧ Hid (Below W1.heap.size W1 w') ∧ Hid (Below w.heap.size w w')) := Lib.hid fun w hb => by have q := HI1.out false w hb; rw [HRT.out] at q; exact q
        go_enter Tryz.func21, Tryz.ntmps21
        go_wp2
        try rw [hW1]
        have z00 : ¬ 9223372036854775807 < rt.size + 1 := by omega
        have z01 : ¬ 9223372036854775807 < rt.size + 1 + name.size := by omega
        first
        | go_region_held3 (fun w => Hid (Below W1.heap.size W1 w) ∧ w.cell? ⟨W.heap.size, 0, none⟩ = some (.int .u8 2) ∧ w.cell? ⟨W.heap.size, 1, none⟩ = some (.string name) ∧ w.cell? ⟨W.heap.size, 2, none⟩ = some (.int .i64 num) ∧ w.cell? ⟨W.heap.size, 3, none⟩ = some (.slice (some ⟨b, o, none⟩) 1 c) ∧ w.cell? ⟨b, o, none⟩ = some (.int .u8 v0) ∧ w.cell? ⟨b, o + 1, none⟩ = some (.string v1) ∧ w.cell? ⟨b, o + 2, none⟩ = some (.int .i64 v2) ∧ w.cell? ⟨b, o + 3, none⟩ = some (.slice a3 n3 c3)) ((refine HS2.out _ ?_; (first | assumption | exact bl1 (by assumption) | exact bl2 (by assumption) | exact OutV.bel (by (first | assumption | exact OutV.drew' (by assumption) | exact ov1 (by assumption) | exact ov2 (by assumption) | exact ov3 (by assumption) | exact ov4 (by assumption))) | exact bl4 (by assumption))))
          (first
          | (go_at_call 44; refine (HI2.out _ ?_).mono ?_; (first | assumption | exact bl1 (by assumption) | exact bl2 (by assumption) | exact OutV.bel (by (first | assumption | exact OutV.drew' (by assumption) | exact ov1 (by assumption) | exact ov2 (by assumption) | exact ov3 (by assumption) | exact ov4 (by assumption))) | exact bl4 (by assumption)); rintro e' w' ⟨rfl, hb, hb'⟩))
        | fail
        all_goals go_wp2
        all_goals go_ret
        all_goals exact ⟨congrArg (fun x => Ending.returned (Value.string x)) HD.out.symm, HBK.out _ (‹Hid (Below _ _ _) ∧ _›).1⟩
    · have HD : Hid (tyText 2 name num l = sOpen ++ joinB (l.map T) sComma ++ sShut ++ name) := Lib.hid (by rw [tyText, if_neg (by decide), if_neg (by decide), if_neg (by decide), if_pos rfl, if_neg h0, if_neg h5]; rfl)
      have n0 : ((l.length : Int) == 0) = false := by simpa using h0
      have n1 : ((l.length : Int) == 1) = false := by simp; omega
      have HSZ := Lib.hid (joinS (g := T) (sep := sComma) HFIT.out hwl fun x _ => by show x.t.size + 2 ≤ _; omega)
      have hjz : (joinB (l.map T) sComma).size ≤ 1099578736640 := joinM HFIT.out hwl fun x _ => by show x.t.size + 2 ≤ _; omega
      generalize tyText 2 name num l = tt at *
      go_enter Tryz.func21, Tryz.ntmps21
      go_wp2
      try rw [hW1]
      go_loopw [3, 8] (fun out j wr => ∃ m : Nat, m ≤ l.length ∧ j = .int .i64 m ∧ Hid (OutV W1 wr out ((l.map T).take m))) (fun _ j _ => l.length - (intOf j).toNat)
      case atStart => exact ⟨0, Nat.zero_le _, rfl, by rw [List.take_zero]; exact HNIL⟩
      case round =>
        obtain ⟨m, hk, rfl, hO⟩ := hrel
        by_cases hlt : m < l.length
        ·
          obtain ⟨b, o, rfl, hr⟩ := HROW.out.cells (by omega)
          have hc := hr m hlt
          obtain ⟨v0, v1, v2, a3, n3, c3, hvk⟩ := (HROW.out.kid _ _ (List.getElem?_eq_getElem hlt)).ty_vals
          have hv0 : l[m].k = v0 := by have q := HROW.out.kid _ _ (List.getElem?_eq_getElem hlt); rw [hvk] at q; exact q.ty_k.1
          have hI := HI.out m hlt
          have hT := HT.out m hlt
          rw [hvk] at hc hI hT
          have HI1 := Lib.hid hI
          have HT1 := Lib.hid hT
          have hx := HXT.out _ (List.getElem_mem hlt)
          have HS2 : Hid (∀ w, Hid (Below W1.heap.size W1 w) → Hid (Below W1.heap.size W1 w) ∧ w.cell? ⟨W.heap.size, 0, none⟩ = some (.int .u8 2) ∧ w.cell? ⟨W.heap.size, 1, none⟩ = some (.string name) ∧ w.cell? ⟨W.heap.size, 2, none⟩ = some (.int .i64 num) ∧ w.cell? ⟨W.heap.size, 3, none⟩ = some (.slice (some ⟨b, o, none⟩) l.length c) ∧ w.cell? ⟨b, o + m * 4, none⟩ = some (.int .u8 v0) ∧ w.cell? ⟨b, o + m * 4 + 1, none⟩ = some (.string v1) ∧ w.cell? ⟨b, o + m * 4 + 2, none⟩ = some (.int .i64 v2) ∧ w.cell? ⟨b, o + m * 4 + 3, none⟩ = some (.slice a3 n3 c3)) := Lib.hid fun w hb => by
            have hcW := hc.below (HBW.out.trans (hb.out.mono HBW.out.size))
            exact ⟨hb, (HS.out w hb).2.1, (HS.out w hb).2.2.1, (HS.out w hb).2.2.2.1, (HS.out w hb).2.2.2.2, hcW 0 _ rfl, hcW 1 _ rfl, hcW 2 _ rfl, hcW 3 _ rfl⟩
          have hSr := (HS2.out wr (Lib.hid hO.out.2)).2
          have i0 : (0 : Int) ≤ (m : Int) := by omega
          have i1 : (m : Int) < (l.length : Int) := by omega
          have htk := take_step (xs := l.map T) (m := m) (x := T l[m]) (by rw [List.getElem?_map, List.getElem?_eq_getElem hlt]; rfl)
          have HTK := Lib.hid htk
          clear hc hI hT hvk hr hv0 htk
          generalize T l[m] = tx at *
          go_wp2_with fail
          refine (HT1.out _ ?_).mono ?_
          exact OutV.bel (by assumption)
          rintro e w2 ⟨rfl, hb1, hb2⟩
          have hov := OutV.call hO hb2.out
          have hS2' := (HS2.out w2 hb1).2
          go_wp2_with (at_builtin; refine wpList_app (W := W1) rfl _ _ rfl rfl rfl (OutV.alloc' hov _) (new_cell _ _ _) (by simp; omega) ?_; intro v' w3 HN3)
          rw [← HTK.out] at HN3
          go_wp2
          go_round
          case rel => exact ⟨m + 1, by omega, by simp, HN3⟩
          case measure => simp [intOf]; omega
        · obtain rfl : m = l.length := by omega
          rw [List.take_of_length_le (by simp)] at hO
          have HJ3 : Hid (∀ w, Hid (OutV W1 w u3 (l.map T)) → Calls Tryz.prog 18 #[u3, .string sComma] w fun e w' => e = .returned (.string (joinB (l.map T) sComma)) ∧ w' = w) := Lib.hid fun w h => rjoin_ok (sep := sComma) (StrRow.of_out h.out) (by simp; omega) (by have := HSZ.out; omega)
          generalize joinB (l.map T) sComma = jj at *
          have HO := hO
          have HJ2 : Hid (∀ w, w = wr.drew → Calls Tryz.prog 18 #[u3, .string sComma] w fun e w' => e = .returned (.string jj) ∧ Hid (Below W1.heap.size W1 w')) := Lib.hid fun w hw' => by
            subst hw'
            have hO2 := OutV.drew' HO
            exact (HJ3.out _ hO2).mono fun _ _ h => ⟨h.1, h.2 ▸ OutV.bel hO2⟩
          have hSr := (HS.out wr (Lib.hid hO.out.2)).2
          go_wp2
          have z00 : ¬ 9223372036854775807 < 1 + jj.size := by omega
          have z01 : ¬ 9223372036854775807 < 1 + jj.size + 2 := by omega
          have z02 : ¬ 9223372036854775807 < 1 + jj.size + 2 + name.size := by omega
          first
          | go_region_held3 (fun w => Hid (Below W1.heap.size W1 w) ∧ w.cell? ⟨W.heap.size, 0, none⟩ = some (.int .u8 2) ∧ w.cell? ⟨W.heap.size, 1, none⟩ = some (.string name) ∧ w.cell? ⟨W.heap.size, 2, none⟩ = some (.int .i64 num) ∧ w.cell? ⟨W.heap.size, 3, none⟩ = some (.slice a l.length c)) ((refine HS.out _ ?_; (first | assumption | exact bl1 (by assumption) | exact bl2 (by assumption) | exact OutV.bel (by (first | assumption | exact OutV.drew' (by assumption) | exact ov1 (by assumption) | exact ov2 (by assumption) | exact ov3 (by assumption) | exact ov4 (by assumption))) | exact bl4 (by assumption))))
            (first
            | (go_at_call 18; refine (HJ2.out _ rfl).mono ?_; rintro e' w' ⟨rfl, hb⟩))
          | fail
          all_goals go_wp2
          all_goals go_ret
          all_goals exact ⟨congrArg (fun x => Ending.returned (Value.string x)) HD.out.symm, HBK.out _ (‹Hid (Below _ _ _) ∧ _›).1⟩
  have e2 : (k == 2) = false := by simpa using h2
  have HD : Hid (tyText k name num l = emp) := Lib.hid (by rw [tyText, if_neg h1, if_neg h3, if_neg h4, if_neg h2])
  generalize tyText k name num l = tt at *
  go_enter Tryz.func21, Tryz.ntmps21
  go_wp2
  go_ret
  exact ⟨congrArg (fun x => Ending.returned (Value.string x)) HD.out.symm, hW1 ▸ (Below.refl _ _).alloc (Nat.le_refl _) _⟩
end Go.Pr
