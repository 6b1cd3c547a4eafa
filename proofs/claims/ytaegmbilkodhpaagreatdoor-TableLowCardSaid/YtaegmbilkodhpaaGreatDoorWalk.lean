/- Contracts for the executor, walked by hand: pages.Map.has and all, crc.Extend, atomic accesses, a lock that is free; each says its own conditions. -/
import Derived.Test.YtaegmbilkodhpaaGreatDoorEngC
import Derived.Test.YtaegmbilkodhpaaGreatDoorProg
import Derived.WalkKit
import Derived.LaidEql
import Derived.Handy
import Derived.LoopTactic
import Derived.Test.YtaegmbilkodhpaaGreatDoorBase
import Derived.Laws.LoneSync
import Derived.TacticsIn
import Derived.TacticsInMore
import Derived.LoopIn
set_option linter.unusedVariables false
set_option maxRecDepth 100000
namespace Go.Eng
open Go.RowKit Go.Proofs
theorem has_calls {w : World} {B o n : Nat} {x : Int} (hn : n < 1024) (hc : w.cell? ⟨B, o + n, none⟩ = some (.int .u16 x)) :
    Calls Tryz.prog 88 #[.pointer (some ⟨B, o, none⟩), .int .i64 n] w fun e w' => e = .returned (.bool (decide (0 < x))) ∧ w' = w := by
  have h1 : (0 : Int) ≤ n := by omega
  have h2 : (n : Int) < 1024 := by omega
  go_enter Tryz.func88, Tryz.ntmps88
  go_wp2
  go_ret
  exact ⟨rfl, rfl⟩
def tabN (k : Nat) : Nat := Nat.mod (Nat.shiftRight 9937593612760466100516450665319420528403982636753068485404800763335476026940182181175496972418787619281442302519629725716261212251300561153615832085954560 (Nat.mul 32 k)) 4294967296
theorem tabN_lt (k : Nat) : tabN k < 4294967296 := Nat.mod_lt _ (by decide)
def nib (x : Nat) : Nat := Nat.xor (Nat.div x 16) (tabN (Nat.mod x 16))
theorem nib_lt {x : Nat} (h : x < 4294967296) : nib x < 4294967296 := Nat.xor_lt_two_pow (n := 32) (show x / 16 < _ by omega) (tabN_lt _)
def crcStep (r c : Nat) : Nat := nib (nib (Nat.xor r c))
theorem crcStep_lt {r c : Nat} (h : r < 4294967296) (hc : c < 256) : crcStep r c < 4294967296 := nib_lt (nib_lt (Nat.xor_lt_two_pow (n := 32) h (by omega)))
def crcUpto (bs : Nat → Nat) (s : Nat) : Nat → Nat
  | 0 => s
  | k + 1 => crcStep (crcUpto bs s k) (bs k)
theorem crcUpto_lt {bs : Nat → Nat} {s : Nat} (hs : s < 4294967296) : ∀ k, (∀ i, i < k → bs i < 256) → crcUpto bs s k < 4294967296
  | 0, _ => hs
  | k + 1, h => crcStep_lt (crcUpto_lt hs k fun i hi => h i (by omega)) (h k (by omega))
theorem and15 {x : Nat} (h : x < 4294967296) : bits .and .u32 (x : Int) 15 = ((x % 16 : Nat) : Int) := by
  have := u32_and_nat x 15 h (by decide)
  rw [nat_mask4] at this
  exact this
theorem xorDiv {x y : Nat} (h : x < 4294967296) (hy : y < 4294967296) : bits .xor .u32 ((x : Int) / 16) (y : Int) = ((Nat.xor (x / 16) y : Nat) : Int) := u32_xor_nat (x / 16) y (by omega) hy
theorem crc_walk {w : World} {B o n c s : Nat} {bs : Nat → Nat} (hs : s < 4294967296) (hn : n ≤ 1048576) (hb : ∀ k, k < n → bs k < 256 ∧ w.cell? ⟨B, o + k, none⟩ = some (.int .u8 (bs k)))
    (hf : ∀ w, Calls Tryz.prog 134 #[] w fun e w' => e = .returned (.agg #[.int .u32 0, .int .u32 498536548, .int .u32 997073096, .int .u32 651767980, .int .u32 1994146192, .int .u32 1802195444, .int .u32 1303535960, .int .u32 1342533948, .int .u32 3988292384, .int .u32 4027552580, .int .u32 3604390888, .int .u32 3412177804, .int .u32 2607071920, .int .u32 2262029012, .int .u32 2685067896, .int .u32 3183342108]) ∧ Below w.heap.size w w') :
    Calls Tryz.prog 106 #[.int .u32 s, .slice (some ⟨B, o, none⟩) n c] w fun e w' => e = .returned (.int .u32 ((Nat.xor 4294967295 (crcUpto bs (Nat.xor 4294967295 s) n) : Nat) : Int)) ∧ Below w.heap.size w w' := by
  go_enter Tryz.func106, Tryz.ntmps106
  go_wp2_with fail
  go_call hf w as e w1 ⟨he, hb1⟩
  subst he
  go_wp2
  have hW : ∃ W, W = (w1.alloc (Obj.cells #[.int .u32 0, .int .u32 498536548, .int .u32 997073096, .int .u32 651767980, .int .u32 1994146192, .int .u32 1802195444, .int .u32 1303535960, .int .u32 1342533948, .int .u32 3988292384, .int .u32 4027552580, .int .u32 3604390888, .int .u32 3412177804, .int .u32 2607071920, .int .u32 2262029012, .int .u32 2685067896, .int .u32 3183342108] 196)) := ⟨_, rfl⟩
  obtain ⟨W, hW⟩ := hW
  rw [← hW]
  have hT : ∀ k, k < 16 → W.cell? ⟨w1.heap.size, k, none⟩ = some (.int .u32 (tabN k)) := by
    subst hW
    intro k hk
    rw [World.cell?_alloc_new]
    have hk' : k = 0 ∨ k = 1 ∨ k = 2 ∨ k = 3 ∨ k = 4 ∨ k = 5 ∨ k = 6 ∨ k = 7 ∨ k = 8 ∨ k = 9 ∨ k = 10 ∨ k = 11 ∨ k = 12 ∨ k = 13 ∨ k = 14 ∨ k = 15 := by omega
    rcases hk' with rfl | rfl | rfl | rfl | rfl | rfl | rfl | rfl | rfl | rfl | rfl | rfl | rfl | rfl | rfl | rfl <;> rfl
  have hbl : Below w.heap.size w W := by subst hW; exact hb1.alloc hb1.size _
  have hc : ∀ k, k < n → W.cell? ⟨B, o + k, none⟩ = some (.int .u8 (bs k)) := by
    intro k hk
    have h1 := (hb k hk).2
    rw [hbl.cell]
    · exact h1
    · show B < w.heap.size
      rcases Nat.lt_or_ge B w.heap.size with h | h
      · exact h
      · have : w.heap[B]? = none := Array.getElem?_eq_none h
        simp [World.cell?, this] at h1
  clear hW
  have hsx : bits .xor .u32 IntKind.u32.max (s : Int) = ((Nat.xor 4294967295 s : Nat) : Int) := u32_xor_nat 4294967295 s (by decide) hs
  rw [hsx]
  have hs1 : Nat.xor 4294967295 s < 4294967296 := Nat.xor_lt_two_pow (n := 32) (by decide) hs
  generalize hs1e : Nat.xor 4294967295 s = s1 at hs1
  go_loop [6, 14] (fun r i => ∃ k : Nat, k ≤ n ∧ i = .int .i64 k ∧ r = .int .u32 (crcUpto bs s1 k : Nat)) (fun _ i => n - (intOf i).toNat)
  case atStart => exact ⟨0, Nat.zero_le _, rfl, rfl⟩
  case round =>
    obtain ⟨k, hk, rfl, rfl⟩ := hrel
    have hx : crcUpto bs s1 k < 4294967296 := crcUpto_lt hs1 k fun i hi => (hb i (by omega)).1
    have hst : crcUpto bs s1 (k + 1) = crcStep (crcUpto bs s1 k) (bs k) := rfl
    generalize hxx : crcUpto bs s1 k = x at hx hst
    by_cases hkn : k < n
    · have hcell := hc k hkn
      have hbk := (hb k hkn).1
      have e1 : bits .xor .u32 (x : Int) (bs k : Int) = ((Nat.xor x (bs k) : Nat) : Int) := u32_xor_nat x (bs k) hx (by omega)
      have hx1 : Nat.xor x (bs k) < 4294967296 := Nat.xor_lt_two_pow (n := 32) hx (by omega)
      unfold crcStep at hst
      generalize Nat.xor x (bs k) = x1 at e1 hx1 hst
      have e2 := and15 hx1
      have t1 := hT (x1 % 16) (by omega)
      have e3 := xorDiv hx1 (tabN_lt (x1 % 16))
      have hx2 : nib x1 < 4294967296 := nib_lt hx1
      change bits .xor .u32 ((x1 : Int) / 16) _ = ((nib x1 : Nat) : Int) at e3
      generalize tabN (x1 % 16) = y1 at t1 e3
      generalize nib x1 = x2 at e3 hx2 hst
      have e4 := and15 hx2
      have t2 := hT (x2 % 16) (by omega)
      have e5 := xorDiv hx2 (tabN_lt (x2 % 16))
      change bits .xor .u32 ((x2 : Int) / 16) _ = ((nib x2 : Nat) : Int) at e5
      generalize tabN (x2 % 16) = y2 at t2 e5
      generalize nib x2 = x3 at e5 hst
      go_hidden (go_wp2)
      go_round
      case rel => exact ⟨k + 1, by omega, by simp, by rw [hst]⟩
      case measure => simp [intOf]; omega
    · obtain rfl : k = n := by omega
      have e6 : bits .xor .u32 IntKind.u32.max (x : Int) = ((Nat.xor 4294967295 x : Nat) : Int) := u32_xor_nat 4294967295 x (by decide) hx
      go_hidden (go_wp2)
      go_ret
      show _ = Ending.returned (.int .u32 ((Nat.xor 4294967295 (crcUpto bs (Nat.xor 4294967295 s) k) : Nat) : Int)) ∧ _
      rw [hs1e, hxx]
      exact ⟨rfl, hbl⟩
end Go.Eng
set_option maxRecDepth 1000000
namespace Go.Eng
open Go.RowKit Go.Proofs
noncomputable def isV (v : AV) (r : Out (AV × AHeap)) : Bool := Out.rec (fun vh => Prod.rec (fun v' _ => avB v v') vh) (fun _ _ => false) false r
theorem isV_eq {v : AV} {r : Out (AV × AHeap)} (h : isV v r = true) : ∃ h', r = .ok (v, h') := by
  cases r with
  | ok vh =>
    obtain ⟨v', h'⟩ := vh
    have := avB_eq (show avB v v' = true from h)
    subst this
    exact ⟨h', rfl⟩
  | panic v h' => cases h
  | fail => cases h
theorem run_isV {P : Program} {K : Ctx} {ng : Nat} {call : Caller} (hc : CallOK P K ng call) {f : Nat} (hE : Enters P f) (hy : f ≠ yN) {σ : Env} {own : Owns} {w : World} {h : AHeap} {args : List AV} {cargs : Array Value} {v : AV} (hb : K.base = w.heap.size) (hw : K.w0 = w) (hg : Globs ng σ) (hH : HR K σ own h w)
    (ha : VRs K σ args cargs.toList) (hr : isV v (call f args h) = true) : Calls P f cargs w fun e w' => (∃ vc σ', e = .returned vc ∧ VR K σ' v vc) ∧ Below w.heap.size w w' := by
  obtain ⟨h', hr'⟩ := isV_eq hr
  have := calls_of hE (hc.fn σ own w h f args cargs hy hg hH ha (by rw [hr']; intro e; cases e))
  rw [hr'] at this
  refine this.mono fun e w' ⟨vc, he, σ', own', h1, h2, h3⟩ => ?_
  have := h3.below
  rw [hb, hw] at this
  exact ⟨⟨vc, σ', he, h1⟩, this⟩
noncomputable def foursV : AV := .agg [.int .u32 (.ofNat 0), .int .u32 (.ofNat 498536548), .int .u32 (.ofNat 997073096), .int .u32 (.ofNat 651767980), .int .u32 (.ofNat 1994146192), .int .u32 (.ofNat 1802195444), .int .u32 (.ofNat 1303535960), .int .u32 (.ofNat 1342533948), .int .u32 (.ofNat 3988292384), .int .u32 (.ofNat 4027552580), .int .u32 (.ofNat 3604390888), .int .u32 (.ofNat 3412177804), .int .u32 (.ofNat 2607071920), .int .u32 (.ofNat 2262029012), .int .u32 (.ofNat 2685067896), .int .u32 (.ofNat 3183342108)]
noncomputable def h0 : AHeap := ⟨posOf 30, .nil, .nil⟩
noncomputable def c0 : Caller := detC (callG (fun _ => none) (fun _ => none) F7 (fun _ => false) 100 10 noY)
theorem call0 {K : Ctx} (hK : K.codes = codesOf Tryz.prog) : CallOK Tryz.prog K 2 c0 := callG1_ok (fun f g h => by cases h) (fun f g h => by cases h) (funs7 hK) 100 10
theorem run134 : isV foursV (c0 134 [] h0) = true := by kernel_rfl
theorem enters134 : Enters Tryz.prog 134 := enters_of Tryz.func134 (by kernel_rfl) (by kernel_rfl)
theorem h0_ok {K : Ctx} {w : World} (hb : K.base = w.heap.size) (hw : K.w0 = w) : HR K (envOf fun i => if i < 2 then some ⟨i, 0, 1⟩ else none) (fun _ => none) h0 w :=
  HR.of_rows (next := 30) (rows := []) hb hw (fun i hi => by simp; omega) (fun p hp => by cases hp)
theorem fours_calls (w : World) : Calls Tryz.prog 134 #[] w fun e w' => e = .returned (.agg #[.int .u32 0, .int .u32 498536548, .int .u32 997073096, .int .u32 651767980, .int .u32 1994146192, .int .u32 1802195444, .int .u32 1303535960, .int .u32 1342533948, .int .u32 3988292384, .int .u32 4027552580, .int .u32 3604390888, .int .u32 3412177804, .int .u32 2607071920, .int .u32 2262029012, .int .u32 2685067896, .int .u32 3183342108]) ∧ Below w.heap.size w w' := by
  refine (run_isV (K := ctxAt Tryz.prog w) (call0 rfl) enters134 (by decide) rfl rfl (globs_of fun g hg => ⟨1, by simp [hg]⟩) (h0_ok rfl rfl) VRs.nil run134).mono ?_
  rintro e w' ⟨⟨vc, σ', rfl, hv⟩, hb⟩
  obtain ⟨⟨x⟩, rfl, hx⟩ := hv
  simp only [VRs, VR] at hx
  obtain ⟨_, _, rfl, rfl, _, _, rfl, rfl, _, _, rfl, rfl, _, _, rfl, rfl, _, _, rfl, rfl, _, _, rfl, rfl, _, _, rfl, rfl, _, _, rfl, rfl, _, _, rfl, rfl, _, _, rfl, rfl, _, _, rfl, rfl, _, _, rfl, rfl, _, _, rfl, rfl, _, _, rfl, rfl, _, _, rfl, rfl, _, _, rfl, rfl, rfl⟩ := hx
  exact ⟨rfl, hb⟩
noncomputable def crcL : List AV → Nat → Option Nat := fun l => List.rec (fun r => some r) (fun x _ ih r => x.onInt (fun k n => ifb (keq k .u8) (Int.rec (fun m => ifb (Nat.ble m 255) (ih (crcStep r m)) none) (fun _ => none) n) none) none) l
noncomputable def crcI : Known := fun args h =>
  match args with
  | [x, sl] => x.onInt (fun k n => ifb (keq k .u32) (Int.rec (fun s => ifb (Nat.ble s 4294967295) (sl.onSl .fail (fun b off len sz => ifb (Nat.ble len 1048576)
      (onSome (h.loadN b off len) (fun l => onSome (crcL l (Nat.xor 4294967295 s)) (fun r => .ok (.int .u32 (.ofNat (Nat.xor 4294967295 r)), h)) .fail) .fail) .fail) .fail) .fail) (fun _ => .fail) n) .fail) .fail
  | _ => .fail
theorem crcUpto_from (bs : Nat → Nat) (s : Nat) : ∀ n, crcUpto bs s (n + 1) = crcUpto (fun i => bs (i + 1)) (crcStep s (bs 0)) n
  | 0 => rfl
  | n + 1 => by
    show crcStep (crcUpto bs s (n + 1)) (bs (n + 1)) = _
    rw [crcUpto_from bs s n]
    rfl
theorem keq_eq {a b : IntKind} (h : keq a b = true) : a = b := by
  cases a <;> cases b <;> first | rfl | (exact absurd h (by decide))
noncomputable def byteV (l : List Value) (k : Nat) : Nat := match l[k]? with | some (.int _ n) => n.toNat | _ => 0
theorem crcL_ok {K : Ctx} {σ : Env} : ∀ {l : List AV} {vs : List Value} {s r : Nat}, VRs K σ l vs → crcL l s = some r →
    (∀ k, k < vs.length → byteV vs k < 256 ∧ vs[k]? = some (.int .u8 (byteV vs k))) ∧ r = crcUpto (byteV vs) s vs.length
  | [], vs, s, r, hv, h => by
    have hv : vs = [] := hv
    subst hv
    have h : some s = some r := h
    cases h
    exact ⟨fun k hk => absurd hk (Nat.not_lt_zero _), rfl⟩
  | x :: l, vs, s, r, hv, h => by
    obtain ⟨v, vs, rfl, h1, h2⟩ := hv
    obtain ⟨k, n, rfl, h⟩ := onInt_some (show x.onInt (fun k n => ifb (keq k .u8) (Int.rec (fun m => ifb (Nat.ble m 255) (crcL l (crcStep s m)) none) (fun _ => none) n) none) none = some r from h)
    obtain ⟨hk, h⟩ := ifb_some h
    cases keq_eq hk
    cases n with
    | negSucc n => cases h
    | ofNat m =>
      obtain ⟨hm, h⟩ := ifb_some (show ifb (Nat.ble m 255) (crcL l (crcStep s m)) none = some r from h)
      have hm : m < 256 := by have := Nat.le_of_ble_eq_true hm; omega
      have h1 : v = .int .u8 (.ofNat m) := h1
      subst h1
      obtain ⟨i1, i2⟩ := crcL_ok h2 h
      refine ⟨fun k hk => ?_, ?_⟩
      · cases k with
        | zero => exact ⟨hm, rfl⟩
        | succ k => exact i1 k (by simpa using hk)
      · rw [i2, List.length_cons, crcUpto_from]
        rfl
theorem enters106 : Enters Tryz.prog 106 := enters_of Tryz.func106 (by kernel_rfl) (by kernel_rfl)
theorem crcI_ok {K : Ctx} : KnownOK Tryz.prog K 2 106 crcI := by
  intro σ own w h args cargs hg hH ha hf
  obtain ⟨cl⟩ := cargs
  simp only at ha
  match args, cl, ha, hf with
  | [], _, _, hf => exact absurd rfl hf
  | [_], _, _, hf => exact absurd rfl hf
  | _ :: _ :: _ :: _, _, _, hf => exact absurd rfl hf
  | [x, sl], _, ⟨vx, _, rfl, h1, v, ys, rfl, h2, h3⟩, hf =>
    have h3 : ys = [] := h3
    subst h3
    have key : ∀ r, crcI [x, sl] h = r → r ≠ .fail → ComesTo Tryz.prog 106 #[vx, v] w (Back K σ h r) := by
      intro r hr hnf
      have hr : x.onInt (fun k n => ifb (keq k .u32) (Int.rec (fun s => ifb (Nat.ble s 4294967295) (sl.onSl .fail (fun b off len sz => ifb (Nat.ble len 1048576)
        (onSome (h.loadN b off len) (fun l => onSome (crcL l (Nat.xor 4294967295 s)) (fun r => .ok (.int .u32 (.ofNat (Nat.xor 4294967295 r)), h)) .fail) .fail) .fail) .fail) .fail) (fun _ => .fail) n) .fail) .fail = r := hr
      cases x with
      | int k n =>
        have h1 : vx = .int k n := h1
        subst h1
        cases hk : keq k .u32 with
        | false => exact absurd (by rw [← hr]; show ifb (keq k .u32) _ _ = _; rw [hk]; rfl) hnf
        | true =>
          cases keq_eq hk
          cases n with
          | negSucc n => exact absurd hr.symm hnf
          | ofNat s =>
            have hr : ifb (Nat.ble s 4294967295) (sl.onSl .fail (fun b off len sz => ifb (Nat.ble len 1048576)
              (onSome (h.loadN b off len) (fun l => onSome (crcL l (Nat.xor 4294967295 s)) (fun r => .ok (.int .u32 (.ofNat (Nat.xor 4294967295 r)), h)) .fail) .fail) .fail) .fail) .fail = r := hr
            cases hs : Nat.ble s 4294967295 with
            | false => rw [hs] at hr; exact absurd hr.symm hnf
            | true =>
              rw [hs] at hr
              have hs : s < 4294967296 := by have := Nat.le_of_ble_eq_true hs; omega
              have main : ∀ b off len c l, σ b = some l → v = .slice (some ⟨l.B, l.o + off, none⟩) len c →
                  ifb (Nat.ble len 1048576) (onSome (h.loadN b off len) (fun l => onSome (crcL l (Nat.xor 4294967295 s)) (fun r => .ok (AV.int .u32 (.ofNat (Nat.xor 4294967295 r)), h)) .fail) .fail) .fail = r → ComesTo Tryz.prog 106 #[.int .u32 (.ofNat s), v] w (Back K σ h r) := by
                rintro b off len c l hl rfl hr
                cases hn : Nat.ble len 1048576 with
                | false => rw [hn] at hr; exact absurd hr.symm hnf
                | true =>
                  rw [hn] at hr
                  have hn := Nat.le_of_ble_eq_true hn
                  cases hld : h.loadN b off len with
                  | none => rw [hld] at hr; exact absurd hr.symm hnf
                  | some vs =>
                    rw [hld] at hr
                    have hr : onSome (crcL vs (Nat.xor 4294967295 s)) (fun r => Out.ok (AV.int .u32 (.ofNat (Nat.xor 4294967295 r)), h)) .fail = r := hr
                    cases hc : crcL vs (Nat.xor 4294967295 s) with
                    | none => rw [hc] at hr; exact absurd hr.symm hnf
                    | some q =>
                      rw [hc] at hr
                      subst hr
                      obtain ⟨cs, v1, v2, v3⟩ := hH.loadN hl hld
                      obtain ⟨c1, c2⟩ := crcL_ok v2 hc
                      rw [v1] at c1 c2
                      refine .inl ⟨enters106, (crc_walk (w := w) (B := l.B) (o := l.o + off) (n := len) (c := c) (s := s) (bs := byteV cs) hs hn (fun k hk => ⟨(c1 k hk).1, ?_⟩) fours_calls).mono ?_⟩
                      · have := v3 k _ (c1 k hk).2
                        rw [add_none] at this
                        exact this
                      · rintro e w' ⟨rfl, hb⟩
                        refine ⟨_, rfl, σ, own, ?_, Grow.refl _ _, hH.grownWorld hb⟩
                        rw [c2]
                        rfl
              cases sl with
              | slice b off len sz =>
                obtain ⟨l, hl, rfl⟩ := h2
                exact main b off len _ l hl rfl hr
              | sliceC b off len cap sz =>
                obtain ⟨l, hl, rfl⟩ := h2
                exact main b off len _ l hl rfl hr
              | _ => exact absurd hr.symm hnf
      | _ => exact absurd hr.symm hnf
    exact key _ rfl hf
end Go.Eng
namespace Go.Eng
open Go.RowKit Go.Proofs
section
variable {P : Program} {K : Ctx} {ng : Nat} {σ : Env} {own : Owns} {h : AHeap} {w : World}
theorem HR.store1 (H : HR K σ own h w) {b : Pos} {loc : Loc} (hb : σ b = some loc) {off : Nat} {x : AV} {v : Value} {h' : AHeap} (hv : VR K σ x v) (hs : h.storeN b off [x] = some h') :
    ∃ u, w.cell? ⟨loc.B, loc.o + off, none⟩ = some u ∧ w.frozen? ⟨loc.B, loc.o + off, none⟩ = false ∧ HR K σ own h' (w.setCell ⟨loc.B, loc.o + off, none⟩ v) ∧ h'.next = h.next := by
  obtain ⟨w', i1, i2, i3⟩ := H.storeN (P := default) hb (VRs.cons hv VRs.nil) hs
  obtain ⟨g, ro, r, h1, h2⟩ := onRow_some hs
  cases ro with
  | true => cases h2
  | false =>
    obtain ⟨r', h3, h4⟩ := onSome_eq (show onSome (Row.sets [x] off r) (fun r' => some (h.putRow b g r')) none = some h' from h2)
    obtain ⟨r1, h5, _⟩ := onSome_eq (show onSome (r.set off x) (fun r' => some r') none = some r' from h3)
    have hB := H.obj b loc hb
    rw [h1] at hB
    obtain ⟨R, hlt, hro, -⟩ := hB
    obtain ⟨hown, hfz⟩ := hro rfl
    obtain ⟨s1, s2, s3, s4, s5⟩ := Row.set_spec R.wf h5
    obtain ⟨u, hu⟩ := R.cell off (by have := R.cap; omega)
    obtain ⟨n1, n2⟩ := VR.isCell s4 hv
    have hf : w.frozen? ⟨loc.B, loc.o + off, none⟩ = false := hfz.frozen hu
    rw [run_storeCells_cons n1 n2 (by rw [add_none]; exact hu) (by rw [add_none]; exact hf), add_none] at i1
    have : w.setCell ⟨loc.B, loc.o + off, none⟩ v = w' := by
      simpa [storeCells] using i1
    subst this
    exact ⟨u, hu, hf, i2, i3⟩
noncomputable def loadI (k : IntKind) : Known := fun args h =>
  match args with
  | [x] => x.onPtr (fun b o => onSome (h.load1 b o) (fun v => v.onInt (fun k' n => ifb (keq k' k) (.ok (.int k' n, h)) .fail) .fail) .fail) .fail
  | _ => .fail
noncomputable def storeI : Known := fun args h =>
  match args with
  | [x, y] => x.onPtr (fun b o => y.onInt (fun k n => onSome (h.storeN b o [.int k n]) (fun h' => .ok (.tup [], h')) .fail) .fail) .fail
  | _ => .fail
noncomputable def casI (k : IntKind) : Known := fun args h =>
  match args with
  | [x, y, z] => x.onPtr (fun b o => y.onInt (fun k1 m => z.onInt (fun k2 n => ifb (keq k1 k) (ifb (keq k2 k) (onSome (h.load1 b o) (fun v => v.onInt (fun k' c => ifb (keq k' k)
      (ifb (ieq c m) (onSome (h.storeN b o [.int k n]) (fun h' => .ok (.bool true, h')) .fail) .fail) .fail) .fail) .fail) .fail) .fail) .fail) .fail) .fail
  | _ => .fail
noncomputable def addI (k : IntKind) : Known := fun args h =>
  match args with
  | [x, y] => x.onPtr (fun b o => y.onInt (fun k1 m => ifb (keq k1 k) (onSome (h.load1 b o) (fun v => v.onInt (fun k' c => ifb (keq k' k)
      (onSome (h.storeN b o [.int k (wrapN k (iadd c m))]) (fun h' => .ok (.int k (wrapN k (iadd c m)), h')) .fail) .fail) .fail) .fail) .fail) .fail) .fail
  | _ => .fail
noncomputable def markI0 : Known := fun args h => match args with | [] => .ok (.tup [], h) | _ => .fail
noncomputable def markI1 : Known := fun args h => match args with | [x] => x.onPtr (fun _ _ => .ok (.tup [], h)) .fail | _ => .fail
structure Ext (P : Program) (f : Nat) (fn : Func) (e : Array Value → Sem Value) : Prop where
  f : P.funcs[f]? = some fn
  n : (fn.name == "runtime.NumGoroutine") = false
  b : fn.body.isNone = true
  x : Extern.findNext fn = none
  e : Extern.find fn = some e
theorem onPtr_nf {α : Type} {x : AV} {f : Pos → Nat → Out α} (h : x.onPtr f .fail ≠ .fail) : ∃ b o, x = .ptr b o ∧ f b o ≠ .fail := by
  cases x <;> first | exact ⟨_, _, rfl, h⟩ | exact absurd rfl h
theorem onInt_nf {α : Type} {x : AV} {f : IntKind → Int → Out α} (h : x.onInt f .fail ≠ .fail) : ∃ k n, x = .int k n ∧ f k n ≠ .fail := by
  cases x <;> first | exact ⟨_, _, rfl, h⟩ | exact absurd rfl h
theorem ifb_nf {α : Type} {c : Bool} {x : Out α} (h : ifb c x .fail ≠ .fail) : c = true ∧ x ≠ .fail := by
  cases c
  · exact absurd rfl h
  · exact ⟨rfl, h⟩
theorem onSome_nf {α β : Type} {x : Option β} {f : β → Out α} (h : onSome x f .fail ≠ .fail) : ∃ y, x = some y ∧ f y ≠ .fail := by
  cases x
  · exact absurd rfl h
  · exact ⟨_, rfl, h⟩
theorem loadI_ok {f : Nat} {fn : Func} {k : IntKind} (E : Ext P f fn (Extern.Atomic.loadT (.int k))) : KnownOK P K ng f (loadI k) := by
  intro σ own w h args cargs hg hH ha hf
  obtain ⟨cl⟩ := cargs
  simp only at ha
  match args, cl, ha, hf with
  | [], _, _, hf => exact absurd rfl hf
  | _ :: _ :: _, _, _, hf => exact absurd rfl hf
  | [x], _, ⟨vx, _, rfl, h1, h2⟩, hf =>
    have h2 : _ = [] := h2
    subst h2
    obtain ⟨b, o, rfl, hf⟩ := onPtr_nf (show (x.onPtr (fun b o => onSome (h.load1 b o) (fun v => v.onInt (fun k' n => ifb (keq k' k) (.ok (AV.int k' n, h)) .fail) .fail) .fail) .fail : Out (AV × AHeap)) ≠ .fail from hf)
    obtain ⟨v, hl, hf⟩ := onSome_nf hf
    obtain ⟨k', n, rfl, hf⟩ := onInt_nf hf
    obtain ⟨hk, hf⟩ := ifb_nf hf
    cases keq_eq hk
    obtain ⟨l, hb, rfl⟩ := h1
    obtain ⟨c, hc, hv⟩ := hH.load1 hb hl
    have hv : c = .int k n := hv
    subst hv
    have e : loadI k [.ptr b o] h = .ok (.int k n, h) := by
      show onSome (h.load1 b o) _ _ = _
      rw [hl]
      show ifb (keq k k) _ _ = _
      rw [hk]; rfl
    rw [e]
    exact .inr ⟨_, _, run_call_load E.f E.n E.b E.x k E.e hc, _, rfl, σ, own, rfl, Grow.refl _ _, hH⟩
theorem storeI_ok {f : Nat} {fn : Func} (E : Ext P f fn Extern.Atomic.storeT) : KnownOK P K ng f storeI := by
  intro σ own w h args cargs hg hH ha hf
  obtain ⟨cl⟩ := cargs
  simp only at ha
  match args, cl, ha, hf with
  | [], _, _, hf => exact absurd rfl hf
  | [_], _, _, hf => exact absurd rfl hf
  | _ :: _ :: _ :: _, _, _, hf => exact absurd rfl hf
  | [x, y], _, ⟨vx, _, rfl, h1, vy, _, rfl, h2, h3⟩, hf =>
    have h3 : _ = [] := h3
    subst h3
    obtain ⟨b, o, rfl, hf⟩ := onPtr_nf (show (x.onPtr (fun b o => y.onInt (fun k n => onSome (h.storeN b o [.int k n]) (fun h' => .ok (AV.tup [], h')) .fail) .fail) .fail : Out (AV × AHeap)) ≠ .fail from hf)
    obtain ⟨k, n, rfl, hf⟩ := onInt_nf hf
    obtain ⟨h', hs, hf⟩ := onSome_nf hf
    obtain ⟨l, hb, rfl⟩ := h1
    have h2 : vy = .int k n := h2
    subst h2
    obtain ⟨u, s1, s2, s3, s4⟩ := hH.store1 hb (x := .int k n) rfl hs
    have e : storeI [.ptr b o, .int k n] h = .ok (.tup [], h') := by
      show onSome (h.storeN b o [.int k n]) _ _ = _
      rw [hs]; rfl
    rw [e]
    exact .inr ⟨_, _, run_call_store E.f E.n E.b E.x E.e s1 s2, _, rfl, σ, own, ⟨#[], rfl, VRs.nil⟩, ⟨Env.le.refl _, fun _ _ => rfl, by rw [s4]; exact Nat.le_refl _⟩, s3⟩
theorem casI_ok {f : Nat} {fn : Func} {k : IntKind} (E : Ext P f fn (Extern.Atomic.casT (.int k))) : KnownOK P K ng f (casI k) := by
  intro σ own w h args cargs hg hH ha hf
  obtain ⟨cl⟩ := cargs
  simp only at ha
  match args, cl, ha, hf with
  | [], _, _, hf => exact absurd rfl hf
  | [_], _, _, hf => exact absurd rfl hf
  | [_, _], _, _, hf => exact absurd rfl hf
  | _ :: _ :: _ :: _ :: _, _, _, hf => exact absurd rfl hf
  | [x, y, z], _, ⟨vx, _, rfl, h1, vy, _, rfl, h2, vz, _, rfl, h3, h4⟩, hf =>
    have h4 : _ = [] := h4
    subst h4
    obtain ⟨b, o, rfl, hf⟩ := onPtr_nf (show (x.onPtr (fun b o => y.onInt (fun k1 m => z.onInt (fun k2 n => ifb (keq k1 k) (ifb (keq k2 k) (onSome (h.load1 b o) (fun v => v.onInt (fun k' c => ifb (keq k' k)
      (ifb (ieq c m) (onSome (h.storeN b o [.int k n]) (fun h' => .ok (.bool true, h')) .fail) .fail) .fail) .fail) .fail) .fail) .fail) .fail) .fail) .fail : Out (AV × AHeap)) ≠ .fail from hf)
    obtain ⟨k1, m, rfl, hf⟩ := onInt_nf hf
    obtain ⟨k2, n, rfl, hf⟩ := onInt_nf hf
    obtain ⟨e1, hf⟩ := ifb_nf hf
    obtain ⟨e2, hf⟩ := ifb_nf hf
    obtain ⟨v, hl, hf⟩ := onSome_nf hf
    obtain ⟨k', c, rfl, hf⟩ := onInt_nf hf
    obtain ⟨e3, hf⟩ := ifb_nf hf
    obtain ⟨e4, hf⟩ := ifb_nf hf
    obtain ⟨h', hs, hf⟩ := onSome_nf hf
    cases keq_eq e1
    cases keq_eq e2
    cases keq_eq e3
    have e5 : c = m := by rw [ieq_beq] at e4; simpa using e4
    subst e5
    obtain ⟨l, hb, rfl⟩ := h1
    have h2 : vy = .int k c := h2
    subst h2
    have h3 : vz = .int k n := h3
    subst h3
    obtain ⟨cc, hc, hv⟩ := hH.load1 hb hl
    have hv : cc = .int k c := hv
    subst hv
    obtain ⟨u, s1, s2, s3, s4⟩ := hH.store1 hb (x := .int k n) rfl hs
    have e : casI k [.ptr b o, .int k c, .int k n] h = .ok (.bool true, h') := by
      show ifb (keq k k) (ifb (keq k k) (onSome (h.load1 b o) _ _) _) _ = _
      rw [hl, e1]
      show ifb (keq k k) (ifb (ieq c c) (onSome (h.storeN b o [.int k n]) _ _) _) _ = _
      rw [hs, e4, e1]; rfl
    rw [e]
    exact .inr ⟨_, _, run_call_cas_hit E.f E.n E.b E.x k E.e hc s2, _, rfl, σ, own, rfl, ⟨Env.le.refl _, fun _ _ => rfl, by rw [s4]; exact Nat.le_refl _⟩, s3⟩
theorem addI_ok {f : Nat} {fn : Func} {k : IntKind} (E : Ext P f fn (Extern.Atomic.update (Op.intArith .add) k true)) : KnownOK P K ng f (addI k) := by
  intro σ own w h args cargs hg hH ha hf
  obtain ⟨cl⟩ := cargs
  simp only at ha
  match args, cl, ha, hf with
  | [], _, _, hf => exact absurd rfl hf
  | [_], _, _, hf => exact absurd rfl hf
  | _ :: _ :: _ :: _, _, _, hf => exact absurd rfl hf
  | [x, y], _, ⟨vx, _, rfl, h1, vy, _, rfl, h2, h3⟩, hf =>
    have h3 : _ = [] := h3
    subst h3
    obtain ⟨b, o, rfl, hf⟩ := onPtr_nf (show (x.onPtr (fun b o => y.onInt (fun k1 m => ifb (keq k1 k) (onSome (h.load1 b o) (fun v => v.onInt (fun k' c => ifb (keq k' k)
      (onSome (h.storeN b o [.int k (wrapN k (iadd c m))]) (fun h' => .ok (.int k (wrapN k (iadd c m)), h')) .fail) .fail) .fail) .fail) .fail) .fail) .fail : Out (AV × AHeap)) ≠ .fail from hf)
    obtain ⟨k1, m, rfl, hf⟩ := onInt_nf hf
    obtain ⟨e1, hf⟩ := ifb_nf hf
    obtain ⟨v, hl, hf⟩ := onSome_nf hf
    obtain ⟨k', c, rfl, hf⟩ := onInt_nf hf
    obtain ⟨e3, hf⟩ := ifb_nf hf
    obtain ⟨h', hs, hf⟩ := onSome_nf hf
    cases keq_eq e1
    cases keq_eq e3
    obtain ⟨l, hb, rfl⟩ := h1
    have h2 : vy = .int k m := h2
    subst h2
    obtain ⟨cc, hc, hv⟩ := hH.load1 hb hl
    have hv : cc = .int k c := hv
    subst hv
    obtain ⟨u, s1, s2, s3, s4⟩ := hH.store1 hb (x := .int k (wrapN k (iadd c m))) rfl hs
    have e : addI k [.ptr b o, .int k m] h = .ok (.int k (wrapN k (iadd c m)), h') := by
      show ifb (keq k k) (onSome (h.load1 b o) _ _) _ = _
      rw [hl, e1]
      show ifb (keq k k) (onSome (h.storeN b o _) _ _) _ = _
      rw [hs, e1]; rfl
    rw [e]
    have hadd : (Op.intArith .add k c m).run P w = .ok (.int k (wrapN k (iadd c m))) w := by
      rw [wrapN_eq, iadd_eq]; rfl
    exact .inr ⟨_, _, run_call_add E.f E.n E.b E.x k E.e hc s2 hadd, _, rfl, σ, own, rfl, ⟨Env.le.refl _, fun _ _ => rfl, by rw [s4]; exact Nat.le_refl _⟩, s3⟩
theorem markI0_ok {f : Nat} {fn : Func} {m : Mark} (E : Ext P f fn (fun _ => do mark m; pure Extern.Race.none_)) : KnownOK P K ng f markI0 := by
  intro σ own w h args cargs hg hH ha hf
  obtain ⟨cl⟩ := cargs
  simp only at ha
  match args, cl, ha, hf with
  | _ :: _, _, _, hf => exact absurd rfl hf
  | [], _, ha, hf =>
    have ha : _ = [] := ha
    subst ha
    exact .inr ⟨_, _, run_call_mark0 E.f E.n E.b E.x m E.e w, _, rfl, σ, own, ⟨#[], rfl, VRs.nil⟩, Grow.refl _ _, hH⟩
theorem markI1_ok {f : Nat} {fn : Func} {m : Addr → Mark} (E : Ext P f fn (Extern.Race.marked m)) : KnownOK P K ng f markI1 := by
  intro σ own w h args cargs hg hH ha hf
  obtain ⟨cl⟩ := cargs
  simp only at ha
  match args, cl, ha, hf with
  | [], _, _, hf => exact absurd rfl hf
  | _ :: _ :: _, _, _, hf => exact absurd rfl hf
  | [x], _, ⟨vx, _, rfl, h1, h2⟩, hf =>
    have h2 : _ = [] := h2
    subst h2
    obtain ⟨b, o, rfl, hf⟩ := onPtr_nf (show (x.onPtr (fun _ _ => .ok (.tup [], h)) .fail : Out (AV × AHeap)) ≠ .fail from hf)
    obtain ⟨l, hb, rfl⟩ := h1
    exact .inr ⟨_, _, run_call_marked E.f E.n E.b E.x m E.e _ w, _, rfl, σ, own, ⟨#[], rfl, VRs.nil⟩, Grow.refl _ _, hH⟩
end
theorem ext147 : Ext Tryz.prog 147 Tryz.f147 (Extern.Atomic.loadT (.int .u32)) := ⟨Tryz.func147, by kernel_rfl, by kernel_rfl, by kernel_rfl, by kernel_rfl⟩
theorem ext155 : Ext Tryz.prog 155 Tryz.f155 Extern.Atomic.storeT := ⟨Tryz.func155, by kernel_rfl, by kernel_rfl, by kernel_rfl, by kernel_rfl⟩
theorem ext163 : Ext Tryz.prog 163 Tryz.f163 (Extern.Atomic.update (Op.intArith .add) .i32 true) := ⟨Tryz.func163, by kernel_rfl, by kernel_rfl, by kernel_rfl, by kernel_rfl⟩
theorem ext158 : Ext Tryz.prog 158 Tryz.f158 (Extern.Atomic.casT (.int .i32)) := ⟨Tryz.func158, by kernel_rfl, by kernel_rfl, by kernel_rfl, by kernel_rfl⟩
theorem ext157 : Ext Tryz.prog 157 Tryz.f157 (fun _ => do mark .disable; pure Extern.Race.none_) := ⟨Tryz.func157, by kernel_rfl, by kernel_rfl, by kernel_rfl, by kernel_rfl⟩
theorem ext159 : Ext Tryz.prog 159 Tryz.f159 (fun _ => do mark .enable; pure Extern.Race.none_) := ⟨Tryz.func159, by kernel_rfl, by kernel_rfl, by kernel_rfl, by kernel_rfl⟩
theorem ext160 : Ext Tryz.prog 160 Tryz.f160 (Extern.Race.marked .acquire) := ⟨Tryz.func160, by kernel_rfl, by kernel_rfl, by kernel_rfl, by kernel_rfl⟩
theorem ext162 : Ext Tryz.prog 162 Tryz.f162 (Extern.Race.marked .releaseMerge) := ⟨Tryz.func162, by kernel_rfl, by kernel_rfl, by kernel_rfl, by kernel_rfl⟩
end Go.Eng
set_option maxRecDepth 100000
set_option maxHeartbeats 800000
namespace Go.Eng
open Go.RowKit Go.Proofs
theorem disable_run (w : World) : (callFunc 157 #[]).run Tryz.prog w = .ok (.value (.tuple #[])) w := run_call_mark0 ext157.f ext157.n ext157.b ext157.x .disable ext157.e w
theorem enable_run (w : World) : (callFunc 159 #[]).run Tryz.prog w = .ok (.value (.tuple #[])) w := run_call_mark0 ext159.f ext159.n ext159.b ext159.x .enable ext159.e w
theorem acquire_run (a : Addr) (w : World) : (callFunc 160 #[.pointer (some a)]).run Tryz.prog w = .ok (.value (.tuple #[])) w := run_call_marked ext160.f ext160.n ext160.b ext160.x .acquire ext160.e a w
theorem merge_run (a : Addr) (w : World) : (callFunc 162 #[.pointer (some a)]).run Tryz.prog w = .ok (.value (.tuple #[])) w := run_call_marked ext162.f ext162.n ext162.b ext162.x .releaseMerge ext162.e a w
theorem room135 : (Tryz.prog.info? 135).map (fun i => decide (i.size = 0)) = some false := by kernel_rfl
theorem iunlock_held (a : Addr) (w : World) (hc : w.cell? a = some (.int .i32 1)) (hz : w.frozen? a = false) :
    Calls Tryz.prog 154 #[.pointer (some a)] w fun e w' => e = .returned (.tuple #[]) ∧ w' = w.setCell a (.int .i32 0) := by
  have hd := disable_run
  have he := enable_run
  have hr := merge_run
  have hcv := run_convert_to_unsafe (P := Tryz.prog) (src := 222) (dst := 226) Tryz.underlying222 Tryz.underlying226 room135 hc
  have hadd := run_call_add (P := Tryz.prog) ext163.f ext163.n ext163.b ext163.x .i32 ext163.e (y := -1) (s := 0) hc hz (by simp [go_sem]; rfl)
  go_enter Tryz.func154, Tryz.ntmps154
  go_wp2
  go_end0
  exact ⟨rfl, rfl⟩
theorem ilock_free (a : Addr) (w : World) (hc : w.cell? a = some (.int .i32 0)) (hz : w.frozen? a = false) :
    Calls Tryz.prog 153 #[.pointer (some a)] w fun e w' => e = .returned (.tuple #[]) ∧ w' = w.setCell a (.int .i32 1) := by
  have hd := disable_run
  have he := enable_run
  have hr := acquire_run
  have hc2 : (w.setCell a (.int .i32 1)).cell? a = some (.int .i32 1) := by simp [go_sem, hc]
  have hcv := run_convert_to_unsafe (P := Tryz.prog) (src := 222) (dst := 226) Tryz.underlying222 Tryz.underlying226 room135 hc2
  have hcas := run_call_cas_hit (P := Tryz.prog) ext158.f ext158.n ext158.b ext158.x .i32 ext158.e (y := 1) hc hz
  go_enter Tryz.func153, Tryz.ntmps153
  go_wp2
  refine bodyPost_ret (results_none rfl _ _ _) rfl ?_
  exact ⟨rfl, rfl⟩
noncomputable def turnI (x y : Nat) : Known := fun args h =>
  match args with
  | [p] => p.onPtr (fun b o => onSome (h.load1 b o) (fun v => v.onInt (fun k n => ifb (keq k .i32) (ifb (ieq n (.ofNat x)) (onSome (h.storeN b o [.int .i32 (.ofNat y)]) (fun h' => .ok (.tup [], h')) .fail) .fail) .fail) .fail) .fail) .fail
  | _ => .fail
theorem turnI_ok {K : Ctx} {ng f x y : Nat} (hE : Enters Tryz.prog f) (hc : ∀ (a : Addr) (w : World), w.cell? a = some (.int .i32 (.ofNat x)) → w.frozen? a = false → Calls Tryz.prog f #[.pointer (some a)] w fun e w' => e = .returned (.tuple #[]) ∧ w' = w.setCell a (.int .i32 (.ofNat y))) :
    KnownOK Tryz.prog K ng f (turnI x y) := by
  intro σ own w h args cargs hg hH ha hf
  obtain ⟨cl⟩ := cargs
  simp only at ha
  match args, cl, ha, hf with
  | [], _, _, hf => exact absurd rfl hf
  | _ :: _ :: _, _, _, hf => exact absurd rfl hf
  | [p], _, ⟨vx, _, rfl, h1, h2⟩, hf =>
    have h2 : _ = [] := h2
    subst h2
    obtain ⟨b, o, rfl, hf⟩ := onPtr_nf (show (p.onPtr (fun b o => onSome (h.load1 b o) (fun v => v.onInt (fun k n => ifb (keq k .i32) (ifb (ieq n (.ofNat x)) (onSome (h.storeN b o [.int .i32 (.ofNat y)]) (fun h' => .ok (.tup [], h')) .fail) .fail) .fail) .fail) .fail) .fail : Out (AV × AHeap)) ≠ .fail from hf)
    obtain ⟨v, hl, hf⟩ := onSome_nf hf
    obtain ⟨k, n, rfl, hf⟩ := onInt_nf hf
    obtain ⟨e1, hf⟩ := ifb_nf hf
    obtain ⟨e2, hf⟩ := ifb_nf hf
    obtain ⟨h', hs, hf⟩ := onSome_nf hf
    cases keq_eq e1
    have e5 : n = .ofNat x := by rw [ieq_beq] at e2; simpa using e2
    subst e5
    obtain ⟨l, hb, rfl⟩ := h1
    obtain ⟨cc, hcc, hv⟩ := hH.load1 hb hl
    have hv : cc = .int .i32 (.ofNat x) := hv
    subst hv
    obtain ⟨u, s1, s2, s3, s4⟩ := hH.store1 hb (x := .int .i32 (.ofNat y)) rfl hs
    have e : turnI x y [.ptr b o] h = .ok (.tup [], h') := by
      have e6 : turnI x y [.ptr b o] h = onSome (h.load1 b o) (fun v => v.onInt (fun k n => ifb (keq k .i32) (ifb (ieq n (.ofNat x)) (onSome (h.storeN b o [.int .i32 (.ofNat y)]) (fun h' => .ok (.tup [], h')) .fail) .fail) .fail) .fail) .fail := rfl
      rw [e6, hl]
      show ifb (keq .i32 .i32) (ifb (ieq (.ofNat x) (.ofNat x)) (onSome (h.storeN b o [.int .i32 (.ofNat y)]) (fun h' => .ok (.tup [], h')) .fail) .fail) .fail = Out.ok (AV.tup [], h')
      rw [hs, e1, e2]; rfl
    rw [e]
    refine .inl ⟨hE, (hc _ w hcc s2).mono ?_⟩
    rintro e w' ⟨rfl, rfl⟩
    exact ⟨_, rfl, σ, own, ⟨#[], rfl, VRs.nil⟩, ⟨Env.le.refl _, fun _ _ => rfl, by rw [s4]; exact Nat.le_refl _⟩, s3⟩
theorem enters153 : Enters Tryz.prog 153 := enters_of Tryz.func153 (by kernel_rfl) (by kernel_rfl)
theorem enters154 : Enters Tryz.prog 154 := enters_of Tryz.func154 (by kernel_rfl) (by kernel_rfl)
theorem lockI_ok {K : Ctx} {ng : Nat} : KnownOK Tryz.prog K ng 153 (turnI 0 1) := turnI_ok enters153 ilock_free
theorem unlockI_ok {K : Ctx} {ng : Nat} : KnownOK Tryz.prog K ng 154 (turnI 1 0) := turnI_ok enters154 iunlock_held
end Go.Eng
namespace Go.Eng
open Go.RowKit Go.Proofs
noncomputable def allS (Y : YH) (yb pb : Pos) (po : Nat) : Nat → Nat → AHeap → List (Out (AV × AHeap))
  | 0, _, h => [.ok (.tup [], h)]
  | k + 1, i, h => onSome (h.load1 pb po) (fun v => v.onPtr (fun m mo => onSome (h.load1 m (Nat.add mo i)) (fun c => c.onInt (fun kk n => ifb (keq kk .u16) (ifb (ilt (.ofNat 0) n)
      (bindG (Y yb [.int .i64 (.ofNat i), .int .i64 (wrapN .i64 n)] h) (fun r => Out.rec (fun vh => Prod.rec (fun v h' => v.onBool (allS Y yb pb po k (Nat.succ i) h') [.ok (.tup [], h')] [.fail]) vh) (fun v h' => [.panic v h']) [.fail] r))
      (allS Y yb pb po k (Nat.succ i) h)) [.fail]) [.fail]) [.fail]) [.fail]) [.fail]
theorem all_walk {K : Ctx} {Y : YH} (hY : YOK Tryz.prog K 2 Y) {σ : Env} {own : Owns} {w : World} {h : AHeap} {yb pb : Pos} {po : Nat} {ly lp : Loc} (hg : Globs 2 σ) (hH : HR K σ own h w)
    (hly : σ yb = some ly) (hlp : σ pb = some lp) (hG : noF (allS Y yb pb po 1024 0 h)) :
    CallsIn (FR none) 0 Tryz.prog 118 #[.func (.yield ly.B) #[] #[], .pointer (some ⟨lp.B, lp.o + po, none⟩)] w (BackL K σ h (allS Y yb pb po 1024 0 h)) := by
  generalize hGe : allS Y yb pb po 1024 0 h = G at hG
  have hsub : ∀ r ∈ allS Y yb pb po (1024 - 0) 0 h, r ∈ G := by intro r hr; rw [← hGe]; exact hr
  clear hGe
  have hsem : ∀ ρ o, Oper.semAt (FR none).round ρ o = execOp ρ o := fun _ _ => rfl
  refine callsIn_of_wp Tryz.func118 rfl trivial ?_
  simp only [Tryz.ntmps118, List.size_toArray, List.length_cons, List.length_nil, Nat.reduceAdd, Nat.reduceSub, Array.replicate_succ,
     Array.replicate_zero, List.push_toArray, List.append_toArray, List.nil_append, List.cons_append]
  gi_wp2_with fail
  gi_loopw [4] (fun i wr => ∃ (k : Nat) (h' : AHeap) (σ' : Env) (own' : Owns), k ≤ 1024 ∧ i = .int .i64 k ∧ Grow σ σ' h h' ∧ HR K σ' own' h' wr ∧ ∀ r ∈ allS Y yb pb po (1024 - k) k h', r ∈ G) (fun i _ => 1024 - (intOf i).toNat)
  case atStart => exact ⟨0, h, σ, own, Nat.zero_le _, rfl, Grow.refl _ _, hH, hsub⟩
  case round =>
    obtain ⟨k, h1, σ1, own1, hk, rfl, g1, H1, hsub1⟩ := hrel
    by_cases hkn : k < 1024
    · obtain ⟨m, hm⟩ : ∃ m, 1024 - k = m + 1 := ⟨1023 - k, by omega⟩
      rw [hm] at hsub1
      have hm' : 1024 - (k + 1) = m := by omega
      have key : ∃ (mb : Pos) (mo : Nat) (n : Int), h1.load1 pb po = some (.ptr mb mo) ∧ h1.load1 mb (mo + k) = some (.int .u16 n) ∧
          (¬ 0 < n ∧ (∀ r ∈ allS Y yb pb po m (k + 1) h1, r ∈ G) ∨ 0 < n ∧
            ∀ r ∈ bindG (Y yb [.int .i64 (.ofNat k), .int .i64 (wrapN .i64 n)] h1) (fun r => Out.rec (motive := fun _ => List (Out (AV × AHeap))) (fun vh => Prod.rec (fun v h' => v.onBool (allS Y yb pb po m (k + 1) h') [.ok (.tup [], h')] [.fail]) vh) (fun v h' => [.panic v h']) [.fail] r), r ∈ G) := by
        have hdef : allS Y yb pb po (m + 1) k h1 = onSome (h1.load1 pb po) (fun v => v.onPtr (fun mm mo => onSome (h1.load1 mm (Nat.add mo k)) (fun c => c.onInt (fun kk n => ifb (keq kk .u16) (ifb (ilt (.ofNat 0) n)
          (bindG (Y yb [.int .i64 (.ofNat k), .int .i64 (wrapN .i64 n)] h1) (fun r => Out.rec (fun vh => Prod.rec (fun v h' => v.onBool (allS Y yb pb po m (Nat.succ k) h') [.ok (.tup [], h')] [.fail]) vh) (fun v h' => [.panic v h']) [.fail] r))
          (allS Y yb pb po m (Nat.succ k) h1)) [.fail]) [.fail]) [.fail]) [.fail]) [.fail] := rfl
        have bad : ∀ l : List (Out (AV × AHeap)), allS Y yb pb po (m + 1) k h1 = l → l ≠ [.fail] := by
          intro l hl e
          subst e
          exact hG _ (hsub1 _ (by rw [hl]; exact List.mem_singleton.2 rfl)) rfl
        cases e1 : h1.load1 pb po with
        | none => rw [e1] at hdef; exact absurd rfl (bad _ hdef)
        | some v =>
          rw [e1] at hdef
          cases v with
          | ptr mb mo =>
            have hdef : allS Y yb pb po (m + 1) k h1 = onSome (h1.load1 mb (Nat.add mo k)) (fun c => c.onInt (fun kk n => ifb (keq kk .u16) (ifb (ilt (.ofNat 0) n)
              (bindG (Y yb [.int .i64 (.ofNat k), .int .i64 (wrapN .i64 n)] h1) (fun r => Out.rec (fun vh => Prod.rec (fun v h' => v.onBool (allS Y yb pb po m (Nat.succ k) h') [.ok (.tup [], h')] [.fail]) vh) (fun v h' => [.panic v h']) [.fail] r))
              (allS Y yb pb po m (Nat.succ k) h1)) [.fail]) [.fail]) [.fail] := hdef
            cases e2 : h1.load1 mb (mo + k) with
            | none => rw [show h1.load1 mb (Nat.add mo k) = none from e2] at hdef; exact absurd rfl (bad _ hdef)
            | some c =>
              rw [show h1.load1 mb (Nat.add mo k) = some c from e2] at hdef
              cases c with
              | int kk n =>
                cases e3 : keq kk .u16 with
                | false => exact absurd rfl (bad [.fail] (by rw [hdef]; show ifb (keq kk .u16) _ _ = _; rw [e3]; rfl))
                | true =>
                  cases keq_eq e3
                  refine ⟨mb, mo, n, rfl, e2, ?_⟩
                  have hdef : allS Y yb pb po (m + 1) k h1 = (ifb (ilt (.ofNat 0) n)
                    (bindG (Y yb [.int .i64 (.ofNat k), .int .i64 (wrapN .i64 n)] h1) (fun r => Out.rec (fun vh => Prod.rec (fun v h' => v.onBool (allS Y yb pb po m (Nat.succ k) h') [.ok (.tup [], h')] [.fail]) vh) (fun v h' => [.panic v h']) [.fail] r))
                    (allS Y yb pb po m (Nat.succ k) h1)) := hdef
                  rw [ilt_eq] at hdef
                  by_cases hn : 0 < n
                  · rw [show decide ((Int.ofNat 0) < n) = true from by simp; exact hn] at hdef
                    exact .inr ⟨hn, fun r hr => hsub1 r (by rw [hdef]; exact hr)⟩
                  · rw [show decide ((Int.ofNat 0) < n) = false from by simp; omega] at hdef
                    exact .inl ⟨hn, fun r hr => hsub1 r (by rw [hdef]; exact hr)⟩
              | _ => exact absurd rfl (bad _ hdef)
          | _ => exact absurd rfl (bad _ hdef)
      obtain ⟨mb, mo, n, hl1, hl2, hcase⟩ := key
      obtain ⟨c1, hc1, hv1⟩ := H1.load1 (g1.le _ _ hlp) hl1
      obtain ⟨lm, hlm, rfl⟩ := hv1
      obtain ⟨c2, hc2, hv2⟩ := H1.load1 hlm hl2
      have hv2 : c2 = .int .u16 n := hv2
      subst hv2
      rw [← Nat.add_assoc] at hc2
      have hk1 : (k : Int) < 1024 := by omega
      rcases hcase with ⟨hn, hsub2⟩ | ⟨hn, hsub2⟩
      · have hdec : decide (0 < n) = false := by simp [hn]
        gi_wp2_with (refine ⟨trivial, rfl, callsR.2 ((has_calls hkn hc2).mono ?_)⟩; rintro e w' ⟨rfl, rfl⟩; simp only [hdec])
        refine ⟨(fun _ h => by cases h), ?_⟩
        gi_wp2_with fail
        go_roundw
        case rel => exact ⟨k + 1, h1, σ1, own1, by omega, by simp, g1, H1, by rw [hm']; exact hsub2⟩
        case measure => simp [intOf]; omega
      · have hdec : decide (0 < n) = true := by simp [hn]
        gi_wp2_with (refine ⟨trivial, rfl, callsR.2 ((has_calls hkn hc2).mono ?_)⟩; rintro e w' ⟨rfl, rfl⟩; simp only [hdec])
        have hly1 : σ1 yb = some ly := g1.le _ _ hly
        have hnfY : noF (Y yb [.int .i64 (.ofNat k), .int .i64 (wrapN .i64 n)] h1) := by
          intro r hr e
          subst e
          exact hG _ (hsub2 _ (mem_bindG.2 ⟨_, hr, List.mem_singleton.2 rfl⟩)) rfl
        obtain ⟨fn, tt, asg, bd, r1, r2⟩ := hY σ1 own1 w' h1 yb ly [.int .i64 (.ofNat k), .int .i64 (wrapN .i64 n)] #[.int .i64 k, .int .i64 (wrap64 n)] (hg.mono g1.le) H1 hly1 (VRs.cons rfl (VRs.cons (by simp [VR, wrapN_eq, wrap64, IntKind.wrap_i64]) VRs.nil)) hnfY
        rw [r1, Oper.uponIn_round]
        refine ⟨FR_depth, RoundIn.mono r2 fun e w'' hb => ?_⟩
        obtain ⟨r, hr, hb⟩ := hb
        have hsub3 : ∀ x ∈ (Out.rec (motive := fun _ => List (Out (AV × AHeap))) (fun vh => Prod.rec (fun v h' => v.onBool (allS Y yb pb po m (k + 1) h') [.ok (.tup [], h')] [.fail]) vh) (fun v h' => [.panic v h']) [.fail] r), x ∈ G := fun x hx => hsub2 x (mem_bindG.2 ⟨r, hr, hx⟩)
        cases r with
        | fail => exact absurd rfl (hG _ (hsub3 _ (List.mem_singleton.2 rfl)))
        | panic v h' =>
          obtain ⟨vc, rfl, σ2, own2, b1, b2, b3⟩ := hb
          exact ⟨rfl, _, hsub3 _ (List.mem_singleton.2 rfl), vc, rfl, σ2, own2, b1, g1.trans b2, b3⟩
        | ok vh =>
          obtain ⟨v, h'⟩ := vh
          obtain ⟨vc, rfl, σ2, own2, b1, b2, b3⟩ := hb
          cases v with
          | bool b =>
            have b1 : vc = .bool b := b1
            subst b1
            simp only []
            cases b with
            | true =>
              gi_wp2_with fail
              refine ⟨⟨k + 1, by omega, by simp, h', σ2, g1.trans b2, ⟨own2, b3⟩, ?_⟩, ?_⟩
              · rw [hm']; exact hsub3
              · simp [intOf]; omega
            | false =>
              gi_wp2_with fail
              refine bodyPost_ret (results_none rfl _ _ _) rfl ?_
              exact ⟨_, hsub3 _ (List.mem_singleton.2 rfl), _, rfl, σ2, own2, ⟨#[], rfl, VRs.nil⟩, g1.trans b2, b3⟩
          | _ => exact absurd rfl (hG _ (hsub3 _ (List.mem_singleton.2 rfl)))
    · obtain rfl : k = 1024 := by omega
      gi_wp2
      go_end0
      exact ⟨_, hsub1 _ (List.mem_singleton.2 rfl), _, rfl, σ1, own1, ⟨#[], rfl, VRs.nil⟩, g1, H1⟩
end Go.Eng
namespace Go.Eng
open Go.RowKit Go.Proofs
noncomputable def restOf (h : AHeap) (pb : Pos) (po i : Nat) : Option Nat :=
  onSome (h.load1 pb po) (fun v => v.onPtr (fun m mo => h.onRow m (fun _ _ r => Row.rec (fun _ _ => none) (fun _ _ => none) (fun n d => ifb (Nat.ble (Nat.add mo 1024) n) (some (Nat.shiftRight d (Nat.mul 16 (Nat.add mo i)))) none) (fun _ _ => none) r) none) none) none
noncomputable def allF (Y : YH) (yb pb : Pos) (po : Nat) : Nat → Nat → AHeap → Option Nat → List (Out (AV × AHeap))
  | 0, _, h, _ => [.ok (.tup [], h)]
  | k + 1, i, h, o => onSome (Option.rec (restOf h pb po i) some o) (fun d => ifb (Nat.beq d 0) [.ok (.tup [], h)] (ifb (Nat.beq (Nat.mod d 65536) 0) (allF Y yb pb po k (Nat.succ i) h (some (Nat.div d 65536)))
      (bindG (Y yb [.int .i64 (.ofNat i), .int .i64 (.ofNat (Nat.mod d 65536))] h) (fun r => Out.rec (fun vh => Prod.rec (fun v h' => v.onBool (allF Y yb pb po k (Nat.succ i) h' none) [.ok (.tup [], h')] [.fail]) vh) (fun v h' => [.panic v h']) [.fail] r)))) [.fail]
theorem bindG_congr {α β : Type} {l : List α} {f g : α → List β} (h : ∀ x ∈ l, f x = g x) : bindG l f = bindG l g := by
  induction l with
  | nil => rfl
  | cons x l ih =>
    cases l with
    | nil => exact h x List.mem_cons_self
    | cons y l =>
      show appG (f x) (bindG (y :: l) f) = appG (g x) (bindG (y :: l) g)
      rw [h x List.mem_cons_self, ih fun z hz => h z (List.mem_cons_of_mem _ hz)]
section
variable {Y : YH} {yb pb : Pos} {po : Nat}
def Reach (h : AHeap) (pb : Pos) (po mo n d : Nat) (m : Pos) : Prop := h.load1 pb po = some (.ptr m mo) ∧ (∃ g ro, h.get m = some (.cells g ro (.wid n d))) ∧ mo + 1024 ≤ n
theorem restOf_some {h : AHeap} {i e : Nat} (he : restOf h pb po i = some e) : ∃ m mo n d, Reach h pb po mo n d m ∧ e = d >>> (16 * (mo + i)) := by
  obtain ⟨v, h1, h2⟩ := onSome_eq (show onSome (h.load1 pb po) _ none = some e from he)
  cases v with
  | ptr m mo =>
    obtain ⟨g, ro, r, h3, h4⟩ := onRow_some (show h.onRow m _ none = some e from h2)
    cases r with
    | lst n l => cases h4
    | byt n d => cases h4
    | dw n d => cases h4
    | wid n d =>
      obtain ⟨h5, h6⟩ := ifb_some (show ifb (Nat.ble (mo + 1024) n) (some (d >>> (16 * (mo + i)))) none = some e from h4)
      exact ⟨m, mo, n, d, ⟨h1, ⟨g, ro, h3⟩, Nat.le_of_ble_eq_true h5⟩, (Option.some.inj h6).symm⟩
  | _ => cases h2
theorem Reach.cell {h : AHeap} {mo n d : Nat} {m : Pos} (R : Reach h pb po mo n d m) {i : Nat} (hi : i < 1024) : h.load1 m (Nat.add mo i) = some (.int .u16 (.ofNat (widAt d (mo + i)))) := by
  obtain ⟨_, ⟨g, ro, h2⟩, h3⟩ := R
  have : h.load1 m (Nat.add mo i) = (Row.wid n d).get (mo + i) := by
    show onSome (h.get m) _ none = _
    rw [h2]; rfl
  rw [this, Row.get_wid, if_pos (by omega)]
theorem allS_step {h : AHeap} {mo n d k i : Nat} {m : Pos} (R : Reach h pb po mo n d m) (hi : i < 1024) : allS Y yb pb po (k + 1) i h = ifb (ilt (.ofNat 0) (.ofNat (widAt d (mo + i))))
      (bindG (Y yb [.int .i64 (.ofNat i), .int .i64 (wrapN .i64 (.ofNat (widAt d (mo + i))))] h) (fun r => Out.rec (fun vh => Prod.rec (fun v h' => v.onBool (allS Y yb pb po k (Nat.succ i) h') [.ok (.tup [], h')] [.fail]) vh) (fun v h' => [.panic v h']) [.fail] r))
      (allS Y yb pb po k (Nat.succ i) h) := by
  have hdef : allS Y yb pb po (k + 1) i h = onSome (h.load1 pb po) (fun v => v.onPtr (fun m mo => onSome (h.load1 m (Nat.add mo i)) (fun c => c.onInt (fun kk n => ifb (keq kk .u16) (ifb (ilt (.ofNat 0) n)
      (bindG (Y yb [.int .i64 (.ofNat i), .int .i64 (wrapN .i64 n)] h) (fun r => Out.rec (fun vh => Prod.rec (fun v h' => v.onBool (allS Y yb pb po k (Nat.succ i) h') [.ok (.tup [], h')] [.fail]) vh) (fun v h' => [.panic v h']) [.fail] r))
      (allS Y yb pb po k (Nat.succ i) h)) [.fail]) [.fail]) [.fail]) [.fail]) [.fail] := rfl
  rw [hdef, R.1]
  show onSome (h.load1 m (Nat.add mo i)) _ _ = _
  rw [R.cell hi]
  rfl
theorem ilt0 (n : Nat) : ilt (.ofNat 0) (.ofNat n) = !(Nat.beq n 0) := by
  cases n <;> rfl
theorem allS_zero {h : AHeap} {mo n d : Nat} {m : Pos} (R : Reach h pb po mo n d m) : ∀ (k i : Nat), i + k = 1024 → (∀ j, i ≤ j → widAt d (mo + j) = 0) → allS Y yb pb po k i h = [.ok (.tup [], h)]
  | 0, _, _, _ => rfl
  | k + 1, i, hk, hz => by
    rw [allS_step R (by omega), hz i (Nat.le_refl _)]
    exact allS_zero R k (i + 1) (by omega) fun j hj => hz j (by omega)
theorem widAt_shift (d a j : Nat) : widAt (d >>> (16 * a)) j = widAt d (a + j) := by
  rw [widAt_eq, widAt_eq, Nat.shiftRight_eq_div_pow, ← pow65536, Nat.div_div_eq_div_mul, ← Nat.pow_add]
theorem allF_eq : ∀ (k i : Nat) (h : AHeap) (o : Option Nat), i + k = 1024 → (∀ e, o = some e → ∃ m mo n d, Reach h pb po mo n d m ∧ e = d >>> (16 * (mo + i))) →
    noF (allF Y yb pb po k i h o) → allF Y yb pb po k i h o = allS Y yb pb po k i h
  | 0, _, _, _, _, _, _ => rfl
  | k + 1, i, h, o, hk, ho, hn => by
    have hdef : allF Y yb pb po (k + 1) i h o = onSome (Option.rec (restOf h pb po i) some o) (fun d => ifb (Nat.beq d 0) [.ok (.tup [], h)] (ifb (Nat.beq (Nat.mod d 65536) 0) (allF Y yb pb po k (Nat.succ i) h (some (Nat.div d 65536)))
      (bindG (Y yb [.int .i64 (.ofNat i), .int .i64 (.ofNat (Nat.mod d 65536))] h) (fun r => Out.rec (fun vh => Prod.rec (fun v h' => v.onBool (allF Y yb pb po k (Nat.succ i) h' none) [.ok (.tup [], h')] [.fail]) vh) (fun v h' => [.panic v h']) [.fail] r)))) [.fail] := rfl
    have hd : ∃ e, (Option.rec (restOf h pb po i) some o : Option Nat) = some e ∧ ∃ m mo n d, Reach h pb po mo n d m ∧ e = d >>> (16 * (mo + i)) := by
      cases o with
      | some e => exact ⟨e, rfl, ho e rfl⟩
      | none =>
        cases hr : restOf h pb po i with
        | none =>
          rw [hdef] at hn
          exact absurd rfl (hn .fail (by show _ ∈ onSome (restOf h pb po i) _ _; rw [hr]; exact List.mem_singleton.2 rfl))
        | some e => exact ⟨e, rfl, restOf_some hr⟩
    obtain ⟨e, he, m, mo, n, d, R, hed⟩ := hd
    rw [he] at hdef
    have hdef : allF Y yb pb po (k + 1) i h o = ifb (Nat.beq e 0) [.ok (.tup [], h)] (ifb (Nat.beq (Nat.mod e 65536) 0) (allF Y yb pb po k (Nat.succ i) h (some (Nat.div e 65536)))
      (bindG (Y yb [.int .i64 (.ofNat i), .int .i64 (.ofNat (Nat.mod e 65536))] h) (fun r => Out.rec (fun vh => Prod.rec (fun v h' => v.onBool (allF Y yb pb po k (Nat.succ i) h' none) [.ok (.tup [], h')] [.fail]) vh) (fun v h' => [.panic v h']) [.fail] r))) := hdef
    rw [hdef] at hn ⊢
    have hw : widAt d (mo + i) = e % 65536 := by
      rw [hed, widAt_eq, Nat.shiftRight_eq_div_pow, pow65536]
    cases e0 : Nat.beq e 0 with
    | true =>
      have := Nat.eq_of_beq_eq_true e0
      rw [this] at hed
      show [Out.ok (AV.tup [], h)] = _
      rw [allS_zero R (k + 1) i hk fun j hj => ?_]
      obtain ⟨q, rfl⟩ : ∃ q, j = i + q := ⟨j - i, by omega⟩
      rw [← Nat.add_assoc, ← widAt_shift, ← hed]
      exact widAt_zero q
    | false =>
      rw [e0] at hn
      rw [allS_step R (by omega), ilt0, hw]
      cases e1 : Nat.beq (e % 65536) 0 with
      | true =>
        rw [show Nat.beq (Nat.mod e 65536) 0 = true from e1] at hn
        have hn : noF (allF Y yb pb po k (i + 1) h (some (e / 65536))) := hn
        show allF Y yb pb po k (i + 1) h (some (e / 65536)) = allS Y yb pb po k (i + 1) h
        refine allF_eq k (i + 1) h _ (by omega) (fun e' he' => ?_) hn
        cases he'
        refine ⟨m, mo, n, d, R, ?_⟩
        show e / 65536 = _
        rw [hed, Nat.shiftRight_eq_div_pow, Nat.shiftRight_eq_div_pow, Nat.div_div_eq_div_mul, show 16 * (mo + (i + 1)) = 16 * (mo + i) + 16 by omega, Nat.pow_add]
      | false =>
        show (bindG (Y yb [.int .i64 (.ofNat i), .int .i64 (.ofNat (Nat.mod e 65536))] h) (fun r => Out.rec (fun vh => Prod.rec (fun v h' => v.onBool (allF Y yb pb po k (Nat.succ i) h' none) [.ok (.tup [], h')] [.fail]) vh) (fun v h' => [.panic v h']) [.fail] r)) =
          (bindG (Y yb [.int .i64 (.ofNat i), .int .i64 (wrapN .i64 (.ofNat (e % 65536)))] h) (fun r => Out.rec (fun vh => Prod.rec (fun v h' => v.onBool (allS Y yb pb po k (Nat.succ i) h') [.ok (.tup [], h')] [.fail]) vh) (fun v h' => [.panic v h']) [.fail] r))
        have hwr : wrapN .i64 (.ofNat (e % 65536)) = .ofNat (e % 65536) := by
          rw [wrapN_eq, IntKind.wrap_i64]
          have : e % 65536 < 65536 := Nat.mod_lt _ (by decide)
          have h2 : Int.ofNat (e % 65536) = ((e % 65536 : Nat) : Int) := rfl
          rw [h2]
          omega
        rw [hwr]
        rw [show Nat.beq (Nat.mod e 65536) 0 = false from e1] at hn
        have hn : noF (bindG (Y yb [.int .i64 (.ofNat i), .int .i64 (.ofNat (e % 65536))] h) (fun r => Out.rec (fun vh => Prod.rec (fun v h' => v.onBool (allF Y yb pb po k (Nat.succ i) h' none) [.ok (.tup [], h')] [.fail]) vh) (fun v h' => [.panic v h']) [.fail] r)) := hn
        refine bindG_congr fun r hr => ?_
        cases r with
        | fail => rfl
        | panic v h' => rfl
        | ok vh =>
          obtain ⟨v, h'⟩ := vh
          cases v with
          | bool b =>
            cases b with
            | false => rfl
            | true => exact allF_eq k (i + 1) h' none (by omega) (fun _ h => by cases h) fun x hx => hn x (mem_bindG.2 ⟨_, hr, hx⟩)
          | _ => rfl
end
noncomputable def allI : KnownY := fun Y args h =>
  match args with
  | [y, p] => y.onYld (fun yb => p.onPtr (fun pb po => allF Y yb pb po 1024 0 h none) [.fail]) [.fail]
  | _ => [.fail]
theorem allI_ok {K : Ctx} : KnownYOK Tryz.prog K 2 118 allI := by
  intro Y hY σ own w h args cargs hg hH ha hf
  obtain ⟨cl⟩ := cargs
  simp only at ha
  match args, cl, ha, hf with
  | [], _, _, hf => exact absurd rfl (hf _ (List.mem_singleton.2 rfl))
  | [_], _, _, hf => exact absurd rfl (hf _ (List.mem_singleton.2 rfl))
  | _ :: _ :: _ :: _, _, _, hf => exact absurd rfl (hf _ (List.mem_singleton.2 rfl))
  | [y, p], _, ⟨vy, _, rfl, h1, vp, _, rfl, h2, h3⟩, hf =>
    have h3 : _ = [] := h3
    subst h3
    cases y with
    | yld yb =>
      cases p with
      | ptr pb po =>
        obtain ⟨ly, hly, rfl⟩ := h1
        obtain ⟨lp, hlp, rfl⟩ := h2
        have hf : noF (allF Y yb pb po 1024 0 h none) := hf
        show ComesTo _ _ _ _ (BackL K σ h (allF Y yb pb po 1024 0 h none))
        have he := allF_eq 1024 0 h none rfl (fun _ h => by cases h) hf
        rw [he] at hf ⊢
        exact .inl ⟨enters118, callsR.1 (all_walk hY hg hH hly hlp hf)⟩
      | _ => exact absurd rfl (hf _ (List.mem_singleton.2 rfl))
    | _ => exact absurd rfl (hf _ (List.mem_singleton.2 rfl))
end Go.Eng
set_option maxRecDepth 1000000
namespace Go.Eng
open Go.RowKit Go.Proofs
noncomputable def lookK (l : List (Nat × KnownY)) (f : Nat) : Option KnownY := List.rec none (fun p _ ih => Prod.rec (fun g k => ifb (Nat.beq f g) (some k) ih) p) l
theorem lookK_ok {P : Program} {K : Ctx} {ng : Nat} : ∀ {l : List (Nat × KnownY)}, (∀ p ∈ l, KnownYOK P K ng p.1 p.2) → ∀ f g, lookK l f = some g → KnownYOK P K ng f g
  | [], _, f, g, h => by cases h
  | (a, k) :: l, hl, f, g, h => by
    have h' : ifb (Nat.beq f a) (some k) (lookK l f) = some g := h
    cases e : Nat.beq f a with
    | true =>
      rw [e] at h'
      cases h'
      rw [Nat.eq_of_beq_eq_true e]
      exact hl _ List.mem_cons_self
    | false =>
      rw [e] at h'
      exact lookK_ok (fun p hp => hl p (List.mem_cons_of_mem _ hp)) f g h'
noncomputable def kn7 : List (Nat × KnownY) := [(118, allI), (106, upK crcI), (153, upK (turnI 0 1)), (154, upK (turnI 1 0)), (147, upK (loadI .u32)), (155, upK storeI), (158, upK (casI .i32)), (163, upK (addI .i32))]
theorem kn7_ok {K : Ctx} : ∀ p ∈ kn7, KnownYOK Tryz.prog K 2 p.1 p.2 := by
  intro p hp
  simp only [kn7, List.mem_cons, List.mem_nil_iff, or_false] at hp
  rcases hp with rfl | rfl | rfl | rfl | rfl | rfl | rfl | rfl
  · exact allI_ok
  · exact crcI_ok.up
  · exact lockI_ok.up
  · exact unlockI_ok.up
  · exact (loadI_ok ext147).up
  · exact (storeI_ok ext155).up
  · exact (casI_ok ext158).up
  · exact (addI_ok ext163).up
noncomputable def I7 : Nat → Option KnownY := lookK kn7
noncomputable def c7 : Caller := detC (callG I7 (fun _ => none) F7 nd7 1000 100 noY)
theorem call7 {K : Ctx} (hK : K.codes = codesOf Tryz.prog) : CallOK Tryz.prog K 2 c7 := callG1_ok (lookK_ok kn7_ok) (fun f g h => by cases h) (funs7 hK) 1000 100
end Go.Eng
