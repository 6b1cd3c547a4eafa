/- slices.Sorted of a map's keys that are ints, for any number of keys; the keys' iterator is walked. Each says its own conditions. -/
import Derived.Test.YtaamiedjgfopiaaGreatDoorSort
import Derived.RangeFuncGives
import Derived.Lib.SlKeysI
import Derived.Sort.MapsRangeIn
import Derived.WalkKit
import Derived.OwnWalkIn
import Derived.TacticsInMore
import Derived.RegionIn
import Derived.LoopNIn
import Derived.LoopIn
import Derived.Test.YtaamiedjgfopiaaGreatDoorLays
set_option linter.unusedVariables false
set_option linter.unusedSimpArgs false
set_option maxRecDepth 100000
namespace Go.Proofs
open Go.RowKit Go.Maps Go.Sort
theorem Tryz.key3 : Keyed Tryz.prog 3 := int_keyed Tryz.underlying3
set_option maxHeartbeats 1000000 in
/-- maps.Keys' iterator, over a map whose keys are ints; the box that holds the map stands anywhere -/
theorem Tryz.keys304 {H : Type} (F : Fence) (n : Nat) (h304 : F.fn 304) (hro : F.round = none) (hn : 1 ≤ n) (l : Nat) (a : Addr) (b nn : Nat) (D0 : DataW H) {R : Value → Option (DataW H × List MemPlace)} (J : List Int → World → Prop)
    (hY : ∀ pre x W, J pre W → pre.length < Maps.size D0 → YieldAt F (n - 1) Tryz.prog l #[encZ x] W fun e W' => e = .returned (.bool true) ∧ J (pre ++ [x]) W' ∧ KeepsWalks W W')
    (W : World) (hJ : AbidesFrom W.heap.size J) (hm : W.cell? a = some (.map (some b))) (hown : W.ownsMap Tryz.prog 3 R b nn D0) (h0 : J [] W) :
    CallsIn F n Tryz.prog 304 #[.func (.yield l) #[] #[], .pointer (some a)] W fun e W' => (∃ v, e = .returned v) ∧ ∃ ss : List Int, ss.Perm (intKeys D0) ∧ J ss W' := by
  refine callsIn_of_wp Tryz.func304 rfl h304 ?_ hro
  simp only [Tryz.ntmps304, List.size_toArray, List.length_cons, List.length_nil, Nat.reduceAdd, Nat.reduceSub, Array.replicate_succ, Array.replicate_zero, List.push_toArray, List.append_toArray, List.nil_append, List.cons_append]
  gi_wp2_with (first
    | (gi_at_range; refine wpListIn_range_own _ rfl _ 203 rfl 3 _ Tryz.key3 Tryz.underlying203 _ b nn _ rfl hown ?_; intro w0 hrg0 hg0 hs0)
    | gi_in)
  go_frame
  gi_loopw [3] (fun _ wr => ∃ (left : Lit → Bool) (cnt : Nat) (ss : List Int), wr.ranges Tryz.prog 3 R b W.heap.size nn D0 left cnt ∧ ss.length + cnt ≤ Maps.size D0 ∧ CollectedI D0 left ss ∧ J ss wr)
    (fun _ wr => wr.rangeLeft b W.heap.size)
  case atStart =>
    exact ⟨_, _, [], hrg0, by simp, CollectedI.start D0, hJ [] W w0 none h0 hg0 (fun r e => by cases e)⟩
  case round =>
    obtain ⟨left, cnt, ss, hrg, hcs, hC, hJs⟩ := hrel
    gi_wp2_with (first
      | (gi_at_next; refine wpListIn_next_ranges _ rfl _ rfl 3 Tryz.key3 R encZ id (fun key kl hk => by obtain ⟨x, hx, _⟩ := Maps.keyOf_i64 Tryz.underlying3 hk; exact ⟨x, hx⟩) (fun v _ _ => ⟨v, rfl⟩) b W.heap.size nn _ _ _ rfl hrg ?_ ?_)
      | gi_in)
    · intro hc0 hl0
      gi_wp2
      go_end0
      exact ⟨⟨_, rfl⟩, ss, hC.perm hown Tryz.key3 Tryz.underlying3 hl0, hJs⟩
    · intro x c kl yd yp w2 cnt2 hkey hlk hv hat hrg2 hlt hg2 hs2 hen
      obtain ⟨x', ex, rfl, _⟩ := Maps.keyOf_i64 Tryz.underlying3 hkey
      obtain rfl : x = x' := encZ_inj ex
      have hJ2 : J ss w2 := hJ ss wr w2 (some W.heap.size) hJs hg2 (fun r e => by cases e; exact ⟨Nat.le_refl _, hrg.iter_walk⟩)
      obtain ⟨fn, tmps, assign, body, hy, hR⟩ := hY ss x w2 hJ2 (by omega)
      clear hs2
      gi_wp2
      refine hR.mono ?_
      rintro e W3 ⟨rfl, hJ3, hk3⟩
      gi_wp2
      have hrg3 := hrg2.of_walks hk3
      go_roundw
      case rel => exact ⟨_, cnt2, ss ++ [x], hrg3, by simp; omega, hC.step hlk hat, hJ3⟩
      case measure => rw [hrg3.left_eq, hrg.left_eq]; exact hlt
theorem Tryz.keys304_gives {H : Type} (F : Fence) (n : Nat) (h304 : F.fn 304) (hro : F.round = none) (hn : 1 ≤ n) (a : Addr) (b nn : Nat) (D0 : DataW H) {R : Value → Option (DataW H × List MemPlace)} (w : World) (ha : a.block < w.heap.size)
    (hm : w.cell? a = some (.map (some b))) (hown : w.ownsMap Tryz.prog 3 R b nn D0) :
    SeqGives F n Tryz.prog 304 #[.pointer (some a)] encZ (fun ss => ss.Perm (intKeys D0)) (Maps.size D0) w := fun l J W hW hJ hY h0 => by
  have hown' : W.ownsMap Tryz.prog 3 R b nn D0 := by
    have hbl := hown.lt
    obtain ⟨es, clock, hb, Ft, hs, hD⟩ := hown
    exact ⟨es, clock, (hW.block b hbl).trans hb, Ft, hs, hD⟩
  exact Tryz.keys304 F n h304 hro hn l a b nn D0 J hY W hJ ((hW.cell (p := a) ha).trans hm) hown' h0
end Go.Proofs
set_option linter.unusedVariables false
set_option linter.unusedSimpArgs false
set_option maxRecDepth 100000
namespace Go.Eng
open Go.RowKit Go.Proofs Go.Maps
/-! ## slices.Sorted of a map's keys, which are ints: by the contract, for any number of keys -/
noncomputable section
def keysZ (l : List AEnt) : Option (List Int) := List.rec (some []) (fun e _ ih => e.key.onInt (fun k n => ifb (keq k .i64) (onSome ih (fun r => some (n :: r)) none) none) none) l
def insZ (x : Int) (l : List Int) : List Int := List.rec [x] (fun y l' ih => ifb (ilt y x) (y :: ih) (x :: y :: l')) l
def sortZ (l : List Int) : List Int := List.rec [] (fun x _ ih => insZ x ih) l
def okZ (l : List Int) : Bool := List.rec true (fun x _ ih => ifb (Int.rec (fun n => Nat.ble n 9223372036854775807) (fun n => Nat.ble n 9223372036854775807) x) ih false) l
def memZ (x : Int) (l : List Int) : Bool := List.rec false (fun y _ ih => ifb (ieq x y) true ih) l
def ndZ (l : List Int) : Bool := List.rec true (fun x l ih => ifb (memZ x l) false ih) l
def valZ (l : List Int) : List AV := List.rec [] (fun x _ ih => .int .i64 x :: ih) l
def sortedL (h : AHeap) (l : List Int) : Out (AV × AHeap) := List.rec (.ok (.nilSlice, h)) (fun x l _ => .ok (.slice h.next 0 (lenL (valZ (x :: l))) 1, h.new (.cells none false (mkRow (valZ (x :: l)))))) l
def sortedA (h : AHeap) (es : List AEnt) (clock : Nat) : Out (AV × AHeap) :=
  ifb (bornsLt clock es) (ifb (bornsNd es) (onSome (keysZ es) (fun ks => ifb (okZ ks) (ifb (ndZ ks) (ifb (Nat.ble (lenE es) 4096) (sortedL h (sortZ ks)) .fail) .fail) .fail) .fail) .fail) .fail
def sortedK (z : Known) : Known := fun args h =>
  match args with
  | [.func (.func g) [] [.ptr pb po]] => ifb (Nat.beq g 304) (onSome (h.load1 pb po) (fun v => v.onMap .fail (fun m => h.onMap m (fun es clock => sortedA h es clock) .fail) .fail) .fail) (z args h)
  | _ => z args h
end
theorem keysZ_ok {K : Ctx} {σ : Env} : ∀ {es : List AEnt} {cs : List MapEntry} {ks : List Int}, EntsR K σ es cs → keysZ es = some ks → cs.map (·.key) = ks.map encZ
  | [], cs, ks, h, hk => by
    have h : cs = [] := h
    cases hk
    subst h; rfl
  | e :: es, _, ks, ⟨c, cs, rfl, ⟨h1, h2, h3⟩, hs⟩, hk => by
    have hk : (e.key.onInt (fun k n => ifb (keq k .i64) (onSome (keysZ es) (fun r => some (n :: r)) none) none) none) = some ks := hk
    cases hv : e.key with
    | int k n =>
      rw [hv] at hk h1
      obtain ⟨k1, k2⟩ := ifb_some (show ifb (keq k .i64) (onSome (keysZ es) (fun r => some (n :: r)) none) none = some ks from hk)
      obtain ⟨r, k3, k4⟩ := onSome_eq k2
      cases k4
      have := keq_iff k1; subst this
      have h1 : c.key = .int .i64 n := h1
      rw [List.map_cons, List.map_cons, h1, keysZ_ok hs k3]
    | _ => rw [hv] at hk; cases hk
theorem insZ_perm (x : Int) : ∀ l, (insZ x l).Perm (x :: l)
  | [] => List.Perm.refl _
  | y :: l => by
    show (ifb (ilt y x) (y :: insZ x l) (x :: y :: l)).Perm _
    cases ilt y x with
    | false => exact List.Perm.refl _
    | true => exact ((insZ_perm x l).cons y).trans (List.Perm.swap x y l)
theorem sortZ_perm : ∀ l, (sortZ l).Perm l
  | [] => List.Perm.refl _
  | x :: l => (insZ_perm x (sortZ l)).trans ((sortZ_perm l).cons x)
theorem insZ_sorted (x : Int) : ∀ {l : List Int}, l.Pairwise (· ≤ ·) → (insZ x l).Pairwise (· ≤ ·)
  | [], _ => List.pairwise_singleton _ _
  | y :: l, h => by
    show (ifb (ilt y x) (y :: insZ x l) (x :: y :: l)).Pairwise _
    rw [List.pairwise_cons] at h
    cases hb : ilt y x with
    | true =>
      rw [ilt_eq] at hb
      have hlt : y < x := of_decide_eq_true hb
      refine List.pairwise_cons.2 ⟨fun z hz => ?_, insZ_sorted x h.2⟩
      rcases List.mem_cons.1 ((insZ_perm x l).mem_iff.1 hz) with rfl | hz
      · omega
      · exact h.1 z hz
    | false =>
      rw [ilt_eq] at hb
      have hle : ¬ y < x := of_decide_eq_false hb
      refine List.pairwise_cons.2 ⟨fun z hz => ?_, List.pairwise_cons.2 h⟩
      rcases List.mem_cons.1 hz with rfl | hz
      · omega
      · have := h.1 z hz; omega
theorem sortZ_sorted : ∀ l, (sortZ l).Pairwise (· ≤ ·)
  | [] => List.Pairwise.nil
  | x :: l => insZ_sorted x (sortZ_sorted l)
theorem sortZ_eq {ss ks : List Int} (h : ss.Perm ks) : ss.mergeSort (fun x y => decide (x ≤ y)) = sortZ ks := by
  rw [mergeSort_of_perm_i (h.trans (sortZ_perm ks).symm)]
  exact List.mergeSort_of_pairwise ((sortZ_sorted ks).imp fun h => by simpa using h)
theorem wf_i64 {x : Int} (h1 : -9223372036854775808 ≤ x) (h2 : x ≤ 9223372036854775807) : (Lit.int .i64 x).wf = true := by
  have hm : IntKind.i64.min = -9223372036854775808 := by decide
  have hM : IntKind.i64.max = 9223372036854775807 := by decide
  simp only [Lit.wf, hm, hM, Bool.and_eq_true, decide_eq_true_eq]
  exact ⟨h1, h2⟩
theorem okZ_ok : ∀ {l : List Int}, okZ l = true → ∀ x ∈ l, (Lit.int .i64 x).wf = true
  | y :: l, h, x, hx => by
    obtain ⟨h1, h2⟩ := ifb_tt (show ifb (Int.rec (fun n => Nat.ble n 9223372036854775807) (fun n => Nat.ble n 9223372036854775807) y) (okZ l) false = true from h)
    rcases List.mem_cons.1 hx with rfl | hx
    · cases x with
      | ofNat n =>
        have := Nat.le_of_ble_eq_true h1
        have e : Int.ofNat n = (n : Int) := rfl
        exact wf_i64 (by omega) (by omega)
      | negSucc n =>
        have := Nat.le_of_ble_eq_true h1
        exact wf_i64 (by omega) (by omega)
    · exact okZ_ok h2 x hx
theorem memZ_ok {x : Int} : ∀ {l : List Int}, memZ x l = false → x ∉ l
  | [], _ => by simp
  | y :: l, h => by
    have h : ifb (ieq x y) true (memZ x l) = false := h
    cases hb : ieq x y with
    | true => rw [hb] at h; cases h
    | false =>
      rw [hb] at h
      rw [ieq_eq] at hb
      have := memZ_ok h
      intro hx
      rcases List.mem_cons.1 hx with rfl | hx
      · simp at hb
      · exact this hx
theorem ndZ_ok : ∀ {l : List Int}, ndZ l = true → l.Nodup
  | [], _ => List.nodup_nil
  | x :: l, h => by
    have h : ifb (memZ x l) false (ndZ l) = true := h
    cases hb : memZ x l with
    | true => rw [hb] at h; cases h
    | false => rw [hb] at h; exact List.nodup_cons.2 ⟨memZ_ok hb, ndZ_ok h⟩
theorem valZ_eq : ∀ l : List Int, valZ l = l.map (AV.int .i64)
  | [] => rfl
  | x :: l => congrArg (AV.int .i64 x :: ·) (valZ_eq l)
/-- what is asked of slices.Sorted -/
def SortedC : Prop := ∀ (a : Addr) (b nn : Nat) (D0 : DataW Unit) (R : Value → Option (DataW Unit × List MemPlace)) (w : World), a.block < w.heap.size → w.cell? a = some (.map (some b)) → w.ownsMap Tryz.prog 3 R b nn D0 → Maps.size D0 ≤ maxLen → Maps.size D0 * 8 ≤ 140737488355328 →
  Calls Tryz.prog 50 #[.func (.func 304) #[] #[.pointer (some a)]] w fun e w' => ∃ (v : Value) (ss : List Int), e = .returned v ∧ ss.Perm (intKeys D0) ∧
    w'.ownsRow w.heap.size 3 1 v ss.length ((ss.mergeSort (fun x y => decide (x ≤ y))).map encZ) ∧ (v = .slice none 0 0 ↔ ss = []) ∧ Below w.heap.size w w'
theorem sortedL_ok {K : Ctx} {σ : Env} {own : Owns} {h : AHeap} {w w' : World} {v : Value} {n : Nat} {l : List Int} (H : HR K σ own h w) (hb : Below w.heap.size w w') (hr : w'.ownsRow w.heap.size 3 1 v n (l.map encZ)) (hn : v = .slice none 0 0 ↔ l = []) :
    Back K σ h (sortedL h l) (.returned v) w' := by
  obtain ⟨hlen, hr⟩ := hr
  have hln : l.length = n := by simpa using hlen
  cases l with
  | nil =>
    refine ⟨v, rfl, σ, own, ?_, Grow.refl _ _, H.grownWorld hb⟩
    exact hn.2 rfl
  | cons x l =>
    rcases hr with ⟨rfl, _⟩ | ⟨g, cap, cur, rfl, hg, hgb, h1, h2, h3, h4⟩
    · exact absurd (hn.1 rfl) (by simp)
    · have hlt : g < w'.heap.size := (Array.getElem?_eq_some_iff.1 hgb).1
      obtain ⟨m1, m2, m3⟩ := mkRow_spec (valZ (x :: l))
      have hvl : (valZ (x :: l)).length = n := by rw [valZ_eq, List.length_map]; exact hln
      have hcell : ∀ i, w'.cell? ⟨g, 0 + i, none⟩ = cur[i]? := fun i => by simp [World.cell?, hgb]
      have R : RowR K (σ.add h.next ⟨g, 0, cap⟩) w' ⟨g, 0, cap⟩ (mkRow (valZ (x :: l))) := by
        refine ⟨m1, by rw [m2, hvl]; exact h1, fun i hi => ?_, fun i y hy => ?_⟩
        · have hi : i < cur.size := by rw [h3]; simpa using hi
          exact ⟨cur[i], by rw [hcell]; exact Array.getElem?_eq_getElem hi⟩
        · rw [m3, valZ_eq, List.getElem?_map] at hy
          cases hz : (x :: l)[i]? with
          | none => rw [hz] at hy; cases hy
          | some z =>
            rw [hz] at hy
            have hy : y = .int .i64 z := (Option.some.inj hy).symm
            subst hy
            have : (cur.toList.take (n * 1))[i]? = some (encZ z) := by rw [h4, List.getElem?_map, hz]; rfl
            have hi : i < n := by rw [← hln]; exact (List.getElem?_eq_some_iff.1 hz).1
            rw [List.getElem?_take_of_lt (by omega)] at this
            refine ⟨encZ z, ?_, rfl⟩
            rw [hcell]; simpa using this
      refine ⟨_, rfl, σ.add h.next ⟨g, 0, cap⟩, own.add g (false, h.next), ⟨⟨g, 0, cap⟩, Env.add_same _ _ _, ?_⟩, Grow.add _ (H.fresh _ (Nat.le_refl _)) rfl, H.addOwn hb hg hlt R fun c t lo hi hc => ?_⟩
      · rw [lenL_eq, hvl]; simp
      · show lo = hi ∨ _
        have hc : w'.heap[g]? = some (.cells c t (lo, hi)) := hc
        rw [hgb] at hc
        cases hc
        exact .inl rfl
theorem sortedK_ok {K : Ctx} (hS : SortedC) {z : Known} (hE : Enters Tryz.prog 50) (hz : KnownOK Tryz.prog K 2 50 z) : KnownOK Tryz.prog K 2 50 (sortedK z) := by
  intro σ own w h args cargs hg hH ha hf
  have hz' := hz σ own w h args cargs hg hH ha
  unfold sortedK at hf ⊢
  split at hf
  · rename_i g pb po
    cases hb : Nat.beq g 304 with
    | false => rw [hb] at hf; exact hz' hf
    | true =>
      rw [hb] at hf
      obtain rfl := Nat.eq_of_beq_eq_true hb
      obtain ⟨cl⟩ := cargs
      simp only at ha
      obtain ⟨v0, _, rfl, ⟨⟨x⟩, ⟨y⟩, rfl, h1, h2⟩, h3⟩ := ha
      have h3 : _ = [] := h3
      subst h3
      have h1 : x = [] := h1
      subst h1
      obtain ⟨p, _, h2, ⟨lp, hlp, rfl⟩, h4⟩ := h2
      simp only at h2
      subst h2
      have h4 : _ = [] := h4
      subst h4
      have hf : (onSome (h.load1 pb po) (fun v => v.onMap .fail (fun m => h.onMap m (fun es clock => sortedA h es clock) .fail) .fail) .fail : Out (AV × AHeap)) ≠ .fail := hf
      obtain ⟨v, hl, hf⟩ := onSome_nf hf
      cases v with
      | map m =>
        obtain ⟨cv, hcv, ⟨lm, hlm, rfl⟩⟩ := hH.load1 hlp hl
        have hf : (h.onMap m (fun es clock => sortedA h es clock) .fail : Out (AV × AHeap)) ≠ .fail := hf
        cases hgm : h.get m with
        | none => exact absurd (by show onSome (h.get m) _ _ = _; rw [hgm]; rfl) hf
        | some o =>
          cases o with
          | map es clock =>
            have hdef : (h.onMap m (fun es clock => sortedA h es clock) .fail : Out (AV × AHeap)) = sortedA h es clock := by
              show onSome (h.get m) _ _ = _
              rw [hgm]; rfl
            rw [hdef] at hf
            have hf : (ifb (bornsLt clock es) (ifb (bornsNd es) (onSome (keysZ es) (fun ks => ifb (okZ ks) (ifb (ndZ ks) (ifb (Nat.ble (lenE es) 4096) (sortedL h (sortZ ks)) .fail) .fail) .fail) .fail) .fail) .fail : Out (AV × AHeap)) ≠ .fail := hf
            obtain ⟨b1, hf⟩ := ifb_nf hf
            obtain ⟨b2, hf⟩ := ifb_nf hf
            obtain ⟨ks, b3, hf⟩ := onSome_nf hf
            obtain ⟨b4, hf⟩ := ifb_nf hf
            obtain ⟨b5, hf⟩ := ifb_nf hf
            obtain ⟨b6, hf⟩ := ifb_nf hf
            have hres : (ifb true (onSome (h.load1 pb po) (fun v => v.onMap .fail (fun m => h.onMap m (fun es clock => sortedA h es clock) .fail) .fail) .fail) (z [.func (.func 304) [] [.ptr pb po]] h) : Out (AV × AHeap)) = sortedL h (sortZ ks) := by
              rw [hl]
              show (h.onMap m _ .fail : Out (AV × AHeap)) = _
              rw [hdef]
              show (ifb (bornsLt clock es) (ifb (bornsNd es) (onSome (keysZ es) (fun ks => ifb (okZ ks) (ifb (ndZ ks) (ifb (Nat.ble (lenE es) 4096) (sortedL h (sortZ ks)) .fail) .fail) .fail) .fail) .fail) .fail : Out (AV × AHeap)) = _
              rw [b1, b2, b3]
              show (ifb (okZ ks) (ifb (ndZ ks) (ifb (Nat.ble (lenE es) 4096) (sortedL h (sortZ ks)) .fail) .fail) .fail : Out (AV × AHeap)) = _
              rw [b4, b5, b6]; rfl
            show ComesTo _ _ _ _ (Back K σ h (ifb (Nat.beq 304 304) (onSome (h.load1 pb po) (fun v => v.onMap .fail (fun m => h.onMap m (fun es clock => sortedA h es clock) .fail) .fail) .fail) (z [.func (.func 304) [] [.ptr pb po]] h)))
            rw [hb, hres]
            have hO := hH.obj m lm hlm
            rw [hgm] at hO
            obtain ⟨hown, ces, hces, hE2⟩ := hO
            have hbo := borns_eq hE2
            have hky := keysZ_ok hE2 b3
            have hnd := ndZ_ok b5
            have hwf := okZ_ok b4
            have hlen : ces.size = es.length := by have := congrArg List.length hbo; simpa using this
            have hsz : ces.size ≤ 4096 := by rw [hlen, ← lenE_eq]; exact Nat.le_of_ble_eq_true b6
            let R : Value → Option (DataW Unit × List MemPlace) := fun _ => some (.nil, [])
            have hrd : ∀ x ∈ ces.toList, ∃ n : Int, x.key = encZ n ∧ WideElems.rd Tryz.prog 3 R x = some (.int .i64 n, .nil) := fun x hx => by
              have : x.key ∈ ces.toList.map (·.key) := List.mem_map_of_mem hx
              rw [hky] at this
              obtain ⟨n, hn, e⟩ := List.mem_map.1 this
              obtain ⟨key, val, born⟩ := x
              have e : encZ n = key := e
              subst e
              exact ⟨n, rfl, WideElems.rd_mk (yv := (.nil, [])) (Maps.keyOf_int_mk Tryz.underlying3 (hwf n hn)) rfl⟩
            have hst : MapKept.Stamped ces clock := ⟨fun x hx => bornsLt_ok b1 x.born (by rw [← hbo]; exact List.mem_map_of_mem hx), by rw [hbo]; exact bornsNd_ok b2, by
              rw [hky]
              exact hnd.map encZ fun a b hab e => hab (encZ_inj e)⟩
            have hfit : WideElems.Fit Tryz.prog 3 R ces clock := ⟨Nat.le_trans hsz (by decide), hst, fun x hx => (hrd x hx).elim fun n hn => ⟨_, hn.2⟩⟩
            have hkeys : (intKeys (.map ((ces.toList.map (WideElems.rg Tryz.prog 3 R)).foldr DataW.insert []) : DataW Unit)).Perm ks := by
              show (((ces.toList.map (WideElems.rg Tryz.prog 3 R)).foldr DataW.insert []).map fun p => intOf p.1).Perm ks
              refine ((WideShapes.sorted_perm _).map _).trans ?_
              rw [List.map_map]
              have : ces.toList.map ((fun p : Lit × DataW Unit => intOf p.1) ∘ WideElems.rg Tryz.prog 3 R) = ks := by
                have hinj : ∀ {a b : Int}, encZ a = encZ b → a = b := fun e => encZ_inj e
                refine (List.map_inj_right (f := encZ) (fun a b e => hinj e)).1 ?_
                rw [List.map_map, ← hky]
                refine List.map_congr_left fun x hx => ?_
                obtain ⟨n, e1, e2⟩ := hrd x hx
                show encZ (intOf (WideElems.rg Tryz.prog 3 R x).1) = x.key
                rw [WideElems.rg_of e2, e1]; rfl
              rw [this]
            have hsz2 : Maps.size (.map ((ces.toList.map (WideElems.rg Tryz.prog 3 R)).foldr DataW.insert []) : DataW Unit) ≤ 4096 := by
              rw [Maps.size_eq, (WideShapes.sorted_perm _).length_eq, List.length_map]; simpa using hsz
            have hlB : lp.B < w.heap.size := by
              rcases Nat.lt_or_ge lp.B w.heap.size with h | h
              · exact h
              · have : w.heap[lp.B]? = none := Array.getElem?_eq_none h
                simp [World.cell?, this] at hcv
            have hc := hS ⟨lp.B, lp.o + po, none⟩ lm.B ces.size (.map ((ces.toList.map (WideElems.rg Tryz.prog 3 R)).foldr DataW.insert [])) R w hlB hcv ⟨ces, clock, hces, hfit, Nat.le_refl _, rfl⟩ (Nat.le_trans hsz2 (by decide)) (by omega)
            refine .inl ⟨hE, hc.mono ?_⟩
            rintro e w' ⟨v, ss, rfl, hp, hr, hn, hb⟩
            rw [sortZ_eq (hp.trans hkeys)] at hr
            refine sortedL_ok hH hb hr (hn.trans ?_)
            have hl : (sortZ ks).length = ss.length := by rw [(sortZ_perm ks).length_eq, (hp.trans hkeys).length_eq]
            constructor
            · rintro rfl; exact List.length_eq_zero_iff.1 hl
            · intro e; rw [e] at hl; exact List.length_eq_zero_iff.1 hl.symm
          | _ => exact absurd (by show onSome (h.get m) _ _ = _; rw [hgm]; rfl) hf
      | _ => exact absurd rfl hf
  · exact hz' hf
end Go.Eng
set_option linter.unusedVariables false
set_option maxRecDepth 100000
namespace Go.Eng
open Go.RowKit Go.Proofs Go.Maps Go.Sort Go.Shelf
theorem enters50 : Enters Tryz.prog 50 := enters_of Tryz.func50 (by kernel_rfl) (by kernel_rfl)
theorem enters304' : Enters Tryz.prog 304 := enters_of Tryz.func304 (by kernel_rfl) (by kernel_rfl)
theorem enters117 : Enters Tryz.prog 117 := enters_of Tryz.func117 (by kernel_rfl) (by kernel_rfl)
/-- slices.Sort's two contracts at this dump, at the fence that asks nothing -/
theorem sortsT (m : Nat) : AnyZI.SortsIn Tryz.prog Tryz.sortedS_ren Fence.wide m :=
  ⟨fun blk off cap ss W hH hblk hsz => callsIn_wide.2 (AnyM.slices_Sort_int Tryz.sortS blk off cap ss W hH hblk hsz),
   fun p cap W => callsIn_wide.2 (AnyM.slices_Sort_int_none Tryz.sortS p cap W)⟩
theorem sortedC : SortedC := by
  intro a b nn D0 R w ha hm hown hmax hbytes
  refine (callsIn_wide (n := 5)).1 ?_
  have hseq : SeqGives Fence.wide 2 Tryz.prog 304 #[.pointer (some a)] encZ (fun ss => ss.Perm (intKeys D0)) (Maps.size D0) w :=
    Tryz.keys304_gives Fence.wide 2 trivial rfl (by omega) a b nn D0 w ha hm hown
  exact AnyZI.sorted_in Tryz.sortedS Fence.wide 5 trivial trivial trivial trivial rfl (by omega) (sortsT _) enters117 304 #[.pointer (some a)] trivial enters304' _ _ hmax hbytes _ hseq
end Go.Eng
