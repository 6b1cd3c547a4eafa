/- A contract of cache.room, for any number of frames: the frame that goes; it says its own conditions. -/
import Derived.Test.YtaamiedjgfopiaaGreatDoorKeys
import Derived.BigQuiet
import Derived.Handy
import Derived.Lib.Hide
import Derived.Maps.OwnSet
import Derived.Maps.RangeWalk
import Derived.LoopTactic
set_option linter.unusedVariables false
set_option linter.unusedSimpArgs false
set_option maxRecDepth 100000
namespace Go.Proofs
open Go.RowKit Go.Maps Go.Sort
/-- an element as it stands -/
def heldR (v : Value) : Option (DataW Value × List MemPlace) := some (.held v, [])
theorem quiet_val {P : Program} {ops : Array Oper} {C : World → Prop} {Q : Act → Prop} {a : Act} {o : Oper} {rest : List Oper} (v : Value) (hw : Region.wanted o (yielded ops a.tmps) = true)
    (h : ∀ w, C w → (execOp a.eval o).run P w = .ok (.value v) w) (hk : wpQuiet P ops C Q rest (a.put o.dst v)) : wpQuiet P ops C Q (o :: rest) a :=
  BigFrame.wpQuiet_want hw fun K hK => ⟨v, fun w hw => by unfold Oper.quietAt; rw [h w hw]; exact ⟨rfl, rfl⟩, hK _ hk⟩
/-- the frame that goes, so far: none, or the one of those looked at that was not used for longest -/
def RoomInv (D0 : DataW Value) (Pn Us : Int → Int) (left : Lit → Bool) (od : Int) : Prop :=
  (od = -1 ∧ ∀ x, Maps.has D0 (.int .i64 x) = true → left (.int .i64 x) = false → Pn x ≠ 0) ∨
  (0 ≤ od ∧ Maps.has D0 (.int .i64 od) = true ∧ left (.int .i64 od) = false ∧ Pn od = 0 ∧ (Lit.int .i64 od).wf = true ∧ ∀ x, Maps.has D0 (.int .i64 x) = true → left (.int .i64 x) = false → Pn x = 0 → Us od ≤ Us x)
/-- what is known of the frames -/
def Frames (W : World) (D0 : DataW Value) (Pn Us : Int → Int) : Prop :=
  ∀ (x : Int) (c : Value), (∀ zd, D0.atKey (.int .i64 x) zd = .held c) → ∃ Ab Ao, c = .pointer (some ⟨Ab, Ao, none⟩) ∧ Ab < W.heap.size ∧ W.cell? ⟨Ab, Ao + 3, none⟩ = some (.int .i64 (Pn x)) ∧ W.cell? ⟨Ab, Ao + 1, none⟩ = some (.int .i64 (Us x)) ∧ 0 ≤ x
theorem inv_start (D0 : DataW Value) (Pn Us : Int → Int) : RoomInv D0 Pn Us (Maps.has D0) (-1) := .inl ⟨rfl, fun x h1 h2 => by rw [h1] at h2; cases h2⟩
theorem same_int {x y : Int} (h : (Lit.int .i64 x).sameKey (.int .i64 y) = true) : x = y := by
  by_cases e : x = y
  · exact e
  · have := Maps.sameKey_ne (a := .int .i64 x) (b := .int .i64 y) (fun h => e (by injection h))
    rw [this] at h; cases h
theorem left_old {left : Lit → Bool} {x y : Int} (h : (left (.int .i64 y) && !(Lit.int .i64 y).sameKey (.int .i64 x)) = false) : left (.int .i64 y) = false ∨ y = x := by
  rcases Bool.and_eq_false_iff.1 h with h | h
  · exact .inl h
  · exact .inr (same_int (by simpa using h))
theorem left_new {left : Lit → Bool} {x : Int} : (left (.int .i64 x) && !(Lit.int .i64 x).sameKey (.int .i64 x)) = false := by
  simp [Lit.sameKey]
theorem left_keep {left : Lit → Bool} {x y : Int} (h : left (.int .i64 y) = false) : (left (.int .i64 y) && !(Lit.int .i64 y).sameKey (.int .i64 x)) = false := by simp [h]
theorem inv_pinned {D0 : DataW Value} {Pn Us : Int → Int} {left : Lit → Bool} {od x : Int} (h : RoomInv D0 Pn Us left od) (hp : Pn x ≠ 0) : RoomInv D0 Pn Us (fun z => left z && !z.sameKey (.int .i64 x)) od := by
  rcases h with ⟨h1, h2⟩ | ⟨h1, h2, h3, h4, hw, h5⟩
  · exact .inl ⟨h1, fun y hy hl => (left_old hl).elim (h2 y hy) fun e => e ▸ hp⟩
  · exact .inr ⟨h1, h2, left_keep h3, h4, hw, fun y hy hl h0 => (left_old hl).elim (fun h => h5 y hy h h0) fun e => absurd (e ▸ h0) hp⟩
theorem inv_first {D0 : DataW Value} {Pn Us : Int → Int} {left : Lit → Bool} {od x : Int} (h : RoomInv D0 Pn Us left od) (hp : Pn x = 0) (hn : od < 0) (h0 : 0 ≤ x) (hx : Maps.has D0 (.int .i64 x) = true) (hw : (Lit.int .i64 x).wf = true) : RoomInv D0 Pn Us (fun z => left z && !z.sameKey (.int .i64 x)) x := by
  rcases h with ⟨h1, h2⟩ | ⟨h1, _⟩
  · exact .inr ⟨h0, hx, left_new, hp, hw, fun y hy hl hz => (left_old hl).elim (fun h => absurd hz (h2 y hy h)) fun e => e ▸ Int.le_refl _⟩
  · omega
theorem inv_less {D0 : DataW Value} {Pn Us : Int → Int} {left : Lit → Bool} {od x : Int} (h : RoomInv D0 Pn Us left od) (hp : Pn x = 0) (hn : ¬ od < 0) (hlt : Us x < Us od) (h0 : 0 ≤ x) (hx : Maps.has D0 (.int .i64 x) = true) (hw : (Lit.int .i64 x).wf = true) : RoomInv D0 Pn Us (fun z => left z && !z.sameKey (.int .i64 x)) x := by
  rcases h with ⟨h1, h2⟩ | ⟨h1, h2, h3, h4, _, h5⟩
  · omega
  · exact .inr ⟨h0, hx, left_new, hp, hw, fun y hy hl hz => (left_old hl).elim (fun h => by have := h5 y hy h hz; omega) fun e => e ▸ Int.le_refl _⟩
theorem inv_stays {D0 : DataW Value} {Pn Us : Int → Int} {left : Lit → Bool} {od x : Int} (h : RoomInv D0 Pn Us left od) (hn : ¬ od < 0) (hlt : ¬ Us x < Us od) : RoomInv D0 Pn Us (fun z => left z && !z.sameKey (.int .i64 x)) od := by
  rcases h with ⟨h1, h2⟩ | ⟨h1, h2, h3, h4, hw, h5⟩
  · omega
  · exact .inr ⟨h1, h2, left_keep h3, h4, hw, fun y hy hl hz => (left_old hl).elim (fun h => h5 y hy h hz) fun e => by subst e; omega⟩
theorem inv_end {D0 : DataW Value} {Pn Us : Int → Int} {left : Lit → Bool} {od k : Int} (h : RoomInv D0 Pn Us left od) (hl : ∀ kl, left kl = false) (hk : Maps.has D0 (.int .i64 k) = true) (hp : Pn k = 0)
    (hu : ∀ x, x ≠ k → Maps.has D0 (.int .i64 x) = true → Pn x = 0 → Us k < Us x) : od = k := by
  rcases h with ⟨h1, h2⟩ | ⟨h1, h2, h3, h4, _, h5⟩
  · exact absurd hp (h2 k hk (hl _))
  · by_cases e : od = k
    · exact e
    · have a := hu od e h2 h4
      have b := h5 k hk (hl _) hp
      omega
theorem atKey_has {D : DataW Value} {kl : Lit} (h : Maps.has D kl = true) (z z' : DataW Value) : D.atKey kl z = D.atKey kl z' := by
  cases D with
  | map es =>
    rw [Maps.has_eq, List.any_eq_true] at h
    obtain ⟨p, hp, hk⟩ := h
    have : (es.find? fun p => p.1.sameKey kl).isSome = true := List.find?_isSome.2 ⟨p, hp, hk⟩
    obtain ⟨q, hq⟩ := Option.isSome_iff_exists.1 this
    simp [DataW.atKey, hq]
  | _ => simp [Maps.has] at h
theorem ranges_dr {P : Program} {K : TypeId} {R : Value → Option (DataW Value × List MemPlace)} {w : World} {b r m : Nat} {D : DataW Value} {left : Lit → Bool} {cnt : Nat} (n : Nat) (h : w.ranges P K R b r m D left cnt) : (w.drewN n).ranges P K R b r m D left cnt := by
  unfold World.ranges at *; exact h
theorem below_dr {B : Nat} {a w : World} (n : Nat) (h : Below B a w) : Below B a (w.drewN n) := ⟨h.os, h.tape, h.output, h.size, h.block⟩
theorem left_dr {w w' : World} {b r : Nat} (n : Nat) (h : w.rangeLeft b r < w'.rangeLeft b r) : (w.drewN n).rangeLeft b r < w'.rangeLeft b r := h
theorem neg_decide {a b : Int} (h : ¬ a < b) : decide (a < b) = false := by simpa using h
set_option maxHeartbeats 1000000 in
theorem room_walk (B o b nn : Nat) (D0 : DataW Value) (most : Int) (W : World) (Pn Us : Int → Int) (k : Int) (R : Ending → World → Prop)
    (hm : W.cell? ⟨B, o + 1, none⟩ = some (.int .i64 most)) (hf : W.cell? ⟨B, o + 3, none⟩ = some (.map (some b))) (hown : W.ownsMap Tryz.prog 3 heldR b nn D0) (hsz : ¬ (Maps.size D0 : Int) < most)
    (hB : B < W.heap.size)
    (hfr : Hid (Frames W D0 Pn Us)) (hk : Hid (Maps.has D0 (.int .i64 k) = true)) (hp : Hid (Pn k = 0)) (hu : Hid (∀ x, x ≠ k → Maps.has D0 (.int .i64 x) = true → Pn x = 0 → Us k < Us x)) (hk0 : 0 ≤ k)
    (hout : Hid (∀ W', Below W.heap.size W W' → Calls Tryz.prog 205 #[.pointer (some ⟨B, o, none⟩), .int .i64 k] W' fun e w' => ∃ v, e = .returned v ∧ R e w')) :
    Calls Tryz.prog 253 #[.pointer (some ⟨B, o, none⟩)] W R := by
  have hl : ∀ n ty, (Builtin.len_ #[203] ty #[.map (some b)]).run Tryz.prog (W.drewN n) = .ok (.int .i64 (Maps.size D0)) (W.drewN n) := fun n ty => World.ownsMap.len (show (W.drewN n).ownsMap Tryz.prog 3 heldR b nn D0 from hown) Tryz.underlying203 ty
  have hd : decide ((Maps.size D0 : Int) < most) = false := by simpa using hsz
  generalize hq : Maps.size D0 = q at hl hd hsz
  have Hq := Lib.hid hq
  clear hq
  go_enter Tryz.func253, Tryz.ntmps253
  go_wp2
  go_quiet (fail)
  clear hl
  have hown' : (W.drewN nq).ownsMap Tryz.prog 3 heldR b nn D0 := hown
  go_wp2_with (first
    | (at_range; refine wpList_range_own _ rfl _ 203 rfl 3 _ Tryz.key3 Tryz.underlying203 _ b nn _ rfl hown' ?_; intro w0 hrg0 hg0 hs0))
  go_frame
  go_loopw [3] (fun v wr => ∃ (left : Lit → Bool) (cnt : Nat) (od : Int), v = .int .i64 od ∧ wr.ranges Tryz.prog 3 heldR b W.heap.size nn D0 left cnt ∧ Hid (RoomInv D0 Pn Us left od) ∧ Below W.heap.size W wr)
    (fun _ wr => wr.rangeLeft b W.heap.size)
  case atStart =>
    exact ⟨_, _, -1, rfl, hrg0, inv_start D0 Pn Us, Below.grown (w := W.drewN nq) ⟨rfl, rfl, rfl, Nat.le_refl _, fun _ _ => rfl⟩ hg0 (Nat.le_refl _) (fun k hk => by cases hk)⟩
  case round =>
    obtain ⟨left, cnt, od, rfl, hrg, hinv, hbl⟩ := hrel
    go_wp2_with (first
      | (at_next; refine wpList_next_ranges _ rfl _ rfl 3 Tryz.key3 heldR encZ id (fun key kl hk => by obtain ⟨x, hx, _⟩ := Maps.keyOf_i64 Tryz.underlying3 hk; exact ⟨x, hx⟩) (fun v _ _ => ⟨v, rfl⟩) b W.heap.size nn _ _ _ rfl hrg ?_ ?_))
    · intro hc0 hl0
      obtain rfl := inv_end hinv.out hl0 hk.out hp.out hu.out
      have hkd : decide (od < 0) = false := by simpa using hk0
      clear hl0 hc0
      go_wp2_with fail
      refine (hout.out _ hbl).mono ?_
      rintro e w2 ⟨v, rfl, hR⟩
      go_wp2
      first | exact hR | (go_ret; exact hR)
    · intro x c kl yd yp w2 cnt2 hkey hlk hv hat hrg2 hlt hg2 hs2 hen
      obtain ⟨x', ex, rfl, hwf⟩ := Maps.keyOf_i64 Tryz.underlying3 hkey
      obtain rfl : x = x' := encZ_inj ex
      have hv2 : yd = .held c := by simp [heldR] at hv; exact hv.1.symm
      subst hv2
      have hhas := Maps.has_true_of_atKey hat
      obtain ⟨Ab, Ao, rfl, hAlt, hpin, hus, hx0⟩ := hfr.out x c hat
      have hb2 : Below W.heap.size W w2 := hbl.grown hg2 hbl.size (fun k hk => by cases hk; exact Nat.le_refl _)
      have hc3 := (hb2.cell (p := ⟨Ab, Ao + 3, none⟩) hAlt).trans hpin
      have hc1 := (hb2.cell (p := ⟨Ab, Ao + 1, none⟩) hAlt).trans hus
      have hcf := (hb2.cell (p := ⟨B, o + 3, none⟩) hB).trans hf
      have hms : w2.rangeLeft b W.heap.size < wr.rangeLeft b W.heap.size := by rw [hrg2.left_eq, hrg.left_eq]; exact hlt
      have HM := Lib.hid hms
      have HE := Lib.hid hen
      have HR2 := Lib.hid hrg2
      have HH := Lib.hid hhas
      have HW := Lib.hid hwf
      clear hpin hus hms hrg2 hrg hlt hhas hwf hkey hlk hv hat hs2 hg2 hbl hm hf hown hown' hrg0 hg0 hs0 ex
      by_cases h1 : Pn x = 0
      case neg =>
        have hd1 : (Pn x == 0) = false := by simpa using h1
        have HI := Lib.hid (inv_pinned hinv.out h1)
        clear h1
        generalize Pn x = px at hc3 hd1
        go_wp2_with (rw [HE.out])
        go_quiet (fail)
        go_wp2
        go_roundw
        case rel => (repeat apply Exists.intro); exact ⟨⟨_, cnt2, _, rfl, ranges_dr _ HR2.out, HI, below_dr _ hb2⟩, rfl⟩
        case measure => exact left_dr _ HM.out
      case pos =>
        rw [h1] at hc3
        by_cases h2 : od < 0
        case pos =>
          have hd2 : decide (od < 0) = true := by simpa using h2
          have HI := Lib.hid (inv_first hinv.out h1 h2 hx0 HH.out HW.out)
          clear h1 hinv
          go_wp2_with (rw [HE.out])
          go_quiet (fail)
          go_wp2
          go_roundw
          case rel => (repeat apply Exists.intro); exact ⟨⟨_, cnt2, _, rfl, ranges_dr _ HR2.out, HI, below_dr _ hb2⟩, rfl⟩
          case measure => exact left_dr _ HM.out
        case neg =>
          have hd2 : decide (od < 0) = false := by simpa using h2
          obtain ⟨g1, g2, g3, g4, g5, g6⟩ : 0 ≤ od ∧ Maps.has D0 (.int .i64 od) = true ∧ left (.int .i64 od) = false ∧ Pn od = 0 ∧ (Lit.int .i64 od).wf = true ∧ ∀ x, Maps.has D0 (.int .i64 x) = true → left (.int .i64 x) = false → Pn x = 0 → Us od ≤ Us x := by
            rcases hinv.out with ⟨e, _⟩ | h
            · omega
            · exact h
          have hk2 := Maps.keyOf_int_mk Tryz.underlying3 g5
          obtain ⟨v2, ps2, hrun2, hRv2⟩ := (HR2.out.owns).lookup (z := .pointer none) Tryz.key3 Tryz.underlying203 (by kernel_rfl) (zd := .held (.pointer none)) (zp := []) rfl hk2
          have hx2 : DataW.held v2 = D0.atKey (.int .i64 od) (.held (.pointer none)) := by simp [heldR] at hRv2; exact hRv2.1
          obtain ⟨Ab2, Ao2, rfl, hAlt2, hpin2, hus2, _⟩ := hfr.out od v2 fun zd => (atKey_has g2 _ _).trans hx2.symm
          have hlk : ∀ n, (Instr.lookup 203 (.map (some b)) (.int .i64 od) false).run Tryz.prog (w2.drewN n) = .ok (.pointer (some ⟨Ab2, Ao2, none⟩)) (w2.drewN n) := fun n => by
            obtain ⟨v3, ps3, hrun3, hRv3⟩ := (ranges_dr n HR2.out).owns.lookup (z := .pointer none) Tryz.key3 Tryz.underlying203 (by kernel_rfl) (zd := .held (.pointer none)) (zp := []) rfl hk2
            have hx3 : DataW.held v3 = D0.atKey (.int .i64 od) (.held (.pointer none)) := by simp [heldR] at hRv3; exact hRv3.1
            have : v3 = .pointer (some ⟨Ab2, Ao2, none⟩) := by
              have e := hx3.trans hx2.symm
              injection e
            rw [hrun3, this]
          have hc4 := (hb2.cell (p := ⟨Ab2, Ao2 + 1, none⟩) hAlt2).trans hus2
          clear hrun2 hRv2 hx2 hpin2 hus2 hk2 g3 g4 g6 g1
          by_cases h3 : Us x < Us od
          case pos =>
            have hd3 : decide (Us x < Us od) = true := by simpa using h3
            have HI := Lib.hid (inv_less hinv.out h1 h2 h3 hx0 HH.out HW.out)
            clear h1 hinv g2 g5
            generalize Us x = ux at hc1 hd3 h3
            generalize Us od = uo at hc4 hd3 h3
            go_wp2_with (rw [HE.out])
            go_quiet (fail)
            go_wp2
            go_roundw
            case rel => (repeat apply Exists.intro); exact ⟨⟨_, cnt2, _, rfl, ranges_dr _ HR2.out, HI, below_dr _ hb2⟩, rfl⟩
            case measure => exact left_dr _ HM.out
          case neg =>
            have hd3 : decide (Us x < Us od) = false := by simpa using h3
            have HI := Lib.hid (inv_stays (x := x) hinv.out h2 h3)
            clear h1 hinv g2 g5
            generalize Us x = ux at hc1 hd3 h3
            generalize Us od = uo at hc4 hd3 h3
            go_wp2_with (rw [HE.out])
            go_quiet (fail)
            go_wp2
            go_roundw
            case rel => (repeat apply Exists.intro); exact ⟨⟨_, cnt2, _, rfl, ranges_dr _ HR2.out, HI, below_dr _ hb2⟩, rfl⟩
            case measure => exact left_dr _ HM.out
end Go.Proofs
set_option linter.unusedVariables false
set_option linter.unusedSimpArgs false
set_option maxRecDepth 100000
namespace Go.Eng
open Go.RowKit Go.Proofs Go.Maps
/-! ## cache.room: the frame that goes is told by the contract, for any number of frames -/
structure Tr where
  n : Int
  p : Int
  u : Int
noncomputable section
def intZ (v : AV) : Option Int := v.onInt (fun k n => ifb (keq k .i64) (some n) none) none
def ldZ (h : AHeap) (b : Pos) (o : Nat) : Option Int := onSome (h.load1 b o) intZ none
def trE (h : AHeap) (e : AEnt) : Option Tr := onSome (intZ e.key) (fun n => e.val.onPtr (fun b o => onSome (ldZ h b (Nat.add o 3)) (fun p => onSome (ldZ h b (Nat.add o 1)) (fun u => some ⟨n, p, u⟩) none) none) none) none
def frZ (h : AHeap) (l : List AEnt) : Option (List Tr) := List.rec (some []) (fun e _ ih => onSome (trE h e) (fun t => onSome ih (fun r => some (t :: r)) none) none) l
def nsZ (l : List Tr) : List Int := List.rec [] (fun t _ ih => t.n :: ih) l
def posZ (l : List Int) : Bool := List.rec true (fun x _ ih => ifb (ilt x 0) false ih) l
def pickZ (l : List Tr) : Option Tr := List.rec none (fun t _ ih => ifb (ieq t.p 0) (Option.rec (some t) (fun b => ifb (ilt b.u t.u) (some b) (some t)) ih) ih) l
def okC (k : Tr) (l : List Tr) : Bool := List.rec true (fun t _ ih => ifb (ieq t.n k.n) (ifb (ieq t.u k.u) (ifb (ieq t.p 0) ih false) false) (ifb (ieq t.p 0) (ifb (ilt k.u t.u) ih false) ih)) l
def roomE (h : AHeap) (es : List AEnt) (clock : Nat) : Option Tr :=
  ifb (bornsLt clock es) (ifb (bornsNd es) (onSome (frZ h es) (fun l => ifb (okZ (nsZ l)) (ifb (ndZ (nsZ l)) (ifb (posZ (nsZ l)) (ifb (Nat.ble (lenE es) 4096) (onSome (pickZ l) (fun t => ifb (okC t l) (ifb (memZ t.n (nsZ l)) (some t) none) none) none) none) none) none) none) none) none) none
def mapZ {α : Type} (h : AHeap) (b : Pos) (o : Nat) (f : List AEnt → Nat → α) (z : α) : α := onSome (h.load1 b (Nat.add o 3)) (fun v => v.onMap z (fun m => h.onMap m f z) z) z
def roomFull (h : AHeap) (b : Pos) (o : Nat) : Bool := onSome (ldZ h b (Nat.add o 1)) (fun most => mapZ h b o (fun es _ => ifb (ilt (.ofNat (lenE es)) most) false true) false) false
def roomD (h : AHeap) (b : Pos) (o : Nat) : Option Tr := mapZ h b o (fun es clock => roomE h es clock) none
def okOnly (r : Out (AV × AHeap)) : Out (AV × AHeap) := Out.rec (fun x => .ok x) (fun _ _ => .fail) .fail r
def roomK (c : Caller) (z : Known) : Known := fun args h =>
  match args with
  | [.ptr pb po] => ifb (roomFull h pb po) (onSome (roomD h pb po) (fun t => okOnly (c 205 [.ptr pb po, .int .i64 t.n] h)) .fail) (z args h)
  | _ => z args h
end
theorem intZ_ok {v : AV} {n : Int} (h : intZ v = some n) : v = .int .i64 n := by
  cases v with
  | int k m =>
    obtain ⟨h1, h2⟩ := ifb_some (show ifb (keq k .i64) (some m) none = some n from h)
    cases h2; rw [keq_iff h1]
  | _ => cases h
theorem ldZ_ok {K : Ctx} {σ : Env} {own : Owns} {h : AHeap} {w : World} (H : HR K σ own h w) {b : Pos} {l : Loc} (hl : σ b = some l) {o : Nat} {n : Int} (h1 : ldZ h b o = some n) : w.cell? ⟨l.B, l.o + o, none⟩ = some (.int .i64 n) := by
  obtain ⟨v, h2, h3⟩ := onSome_eq h1
  obtain ⟨c, h4, h5⟩ := H.load1 hl h2
  rw [intZ_ok h3] at h5
  have h5 : c = .int .i64 n := h5
  rw [h4, h5]
theorem cellB_lt {w : World} {B o : Nat} {v : Value} (h : w.cell? ⟨B, o, none⟩ = some v) : B < w.heap.size := by
  rcases Nat.lt_or_ge B w.heap.size with h' | h'
  · exact h'
  · have : w.heap[B]? = none := Array.getElem?_eq_none h'
    simp [World.cell?, this] at h
/-- an entry and what is known of it -/
def TrR (w : World) (t : Tr) (c : MapEntry) : Prop :=
  c.key = encZ t.n ∧ ∃ Ab Ao, c.val = .pointer (some ⟨Ab, Ao, none⟩) ∧ Ab < w.heap.size ∧ w.cell? ⟨Ab, Ao + 3, none⟩ = some (.int .i64 t.p) ∧ w.cell? ⟨Ab, Ao + 1, none⟩ = some (.int .i64 t.u)
theorem trE_ok {K : Ctx} {σ : Env} {own : Owns} {h : AHeap} {w : World} (H : HR K σ own h w) {e : AEnt} {c : MapEntry} (hE : EntR K σ e c) {t : Tr} (ht : trE h e = some t) : TrR w t c := by
  obtain ⟨h1, h2, h3⟩ := hE
  obtain ⟨n, k1, k2⟩ := onSome_eq ht
  rw [intZ_ok k1] at h1
  have h1 : c.key = .int .i64 n := h1
  cases hv : e.val with
  | ptr b o =>
    rw [hv] at k2 h2
    obtain ⟨l, hl, h2⟩ := h2
    obtain ⟨p, k3, k4⟩ := onSome_eq (show onSome (ldZ h b (o + 3)) (fun p => onSome (ldZ h b (o + 1)) (fun u => some ⟨n, p, u⟩) none) none = some t from k2)
    obtain ⟨u, k5, k6⟩ := onSome_eq k4
    cases k6
    have c3 := ldZ_ok H hl k3
    have c1 := ldZ_ok H hl k5
    exact ⟨h1, l.B, l.o + o, h2, cellB_lt c3, by rw [Nat.add_assoc]; exact c3, by rw [Nat.add_assoc]; exact c1⟩
  | _ => rw [hv] at k2; cases k2
theorem frZ_ok {K : Ctx} {σ : Env} {own : Owns} {h : AHeap} {w : World} (H : HR K σ own h w) : ∀ {es : List AEnt} {cs : List MapEntry} {L : List Tr}, EntsR K σ es cs → frZ h es = some L →
    cs.map (·.key) = (nsZ L).map encZ ∧ es.length = L.length ∧ (∀ c ∈ cs, ∃ t ∈ L, TrR w t c)
  | [], cs, L, hE, hL => by
    have hE : cs = [] := hE
    cases hL
    subst hE; exact ⟨rfl, rfl, fun c hc => by cases hc⟩
  | e :: es, _, L, ⟨c, cs, rfl, h1, hs⟩, hL => by
    obtain ⟨t, k1, k2⟩ := onSome_eq (show onSome (trE h e) (fun t => onSome (frZ h es) (fun r => some (t :: r)) none) none = some L from hL)
    obtain ⟨r, k3, k4⟩ := onSome_eq k2
    cases k4
    obtain ⟨i1, i2, i3⟩ := frZ_ok H hs k3
    have ht := trE_ok H h1 k1
    refine ⟨?_, by simp [i2], fun x hx => ?_⟩
    · show c.key :: cs.map (·.key) = encZ t.n :: (nsZ r).map encZ
      rw [ht.1, i1]
    · rcases List.mem_cons.1 hx with rfl | hx
      · exact ⟨t, List.mem_cons_self, ht⟩
      · obtain ⟨t', h1, h2⟩ := i3 x hx
        exact ⟨t', List.mem_cons_of_mem _ h1, h2⟩
theorem nsZ_eq : ∀ l : List Tr, nsZ l = l.map (·.n)
  | [] => rfl
  | t :: l => congrArg (t.n :: ·) (nsZ_eq l)
theorem posZ_ok : ∀ {l : List Int}, posZ l = true → ∀ x ∈ l, 0 ≤ x
  | y :: l, h, x, hx => by
    have h : ifb (ilt y 0) false (posZ l) = true := h
    cases hb : ilt y 0 with
    | true => rw [hb] at h; cases h
    | false =>
      rw [hb] at h
      rw [ilt_eq] at hb
      rcases List.mem_cons.1 hx with rfl | hx
      · have := of_decide_eq_false hb; omega
      · exact posZ_ok h x hx
theorem okC_ok {k : Tr} : ∀ {l : List Tr}, okC k l = true → ∀ t ∈ l, (t.n = k.n → t.u = k.u ∧ t.p = 0) ∧ (t.n ≠ k.n → t.p = 0 → k.u < t.u)
  | y :: l, h, t, ht => by
    have h : ifb (ieq y.n k.n) (ifb (ieq y.u k.u) (ifb (ieq y.p 0) (okC k l) false) false) (ifb (ieq y.p 0) (ifb (ilt k.u y.u) (okC k l) false) (okC k l)) = true := h
    simp only [ieq_eq, ilt_eq] at h
    have : okC k l = true ∧ (y.n = k.n → y.u = k.u ∧ y.p = 0) ∧ (y.n ≠ k.n → y.p = 0 → k.u < y.u) := by
      by_cases h1 : y.n = k.n <;> by_cases h2 : y.u = k.u <;> by_cases h3 : y.p = 0 <;> by_cases h4 : k.u < y.u <;> simp_all [ifb]
    rcases List.mem_cons.1 ht with rfl | ht
    · exact this.2
    · exact okC_ok this.1 t ht
theorem memZ_mem {x : Int} : ∀ {l : List Int}, memZ x l = true → x ∈ l
  | y :: l, h => by
    have h : ifb (ieq x y) true (memZ x l) = true := h
    cases hb : ieq x y with
    | true => rw [ieq_eq] at hb; have := of_decide_eq_true hb; subst this; exact List.mem_cons_self
    | false => rw [hb] at h; exact List.mem_cons_of_mem _ (memZ_mem h)
theorem find_nd : ∀ {L : List Tr}, (nsZ L).Nodup → ∀ {t : Tr}, t ∈ L → L.find? (fun s => decide (s.n = t.n)) = some t
  | y :: L, hn, t, ht => by
    have hn : (y.n :: nsZ L).Nodup := hn
    rw [List.nodup_cons] at hn
    by_cases e : y.n = t.n
    · rcases List.mem_cons.1 ht with rfl | h
      · simp
      · exact absurd (by rw [nsZ_eq]; exact e ▸ List.mem_map_of_mem h) hn.1
    · rcases List.mem_cons.1 ht with rfl | h
      · exact absurd rfl e
      · rw [List.find?_cons_of_neg (by simpa using e)]; exact find_nd hn.2 h
def pinsOf (L : List Tr) (x : Int) : Int := match L.find? (fun s => decide (s.n = x)) with | some t => t.p | none => 0
def usedOf (L : List Tr) (x : Int) : Int := match L.find? (fun s => decide (s.n = x)) with | some t => t.u | none => 0
theorem okOnly_nf {r : Out (AV × AHeap)} (h : okOnly r ≠ .fail) : ∃ x, r = .ok x := by
  cases r with
  | ok x => exact ⟨x, rfl⟩
  | _ => exact absurd rfl h
theorem mapZ_eq {α : Type} {h : AHeap} {b : Pos} {o : Nat} {f : List AEnt → Nat → α} {z x : α} (hx : mapZ h b o f z = x) (hz : x ≠ z) : ∃ m es clock, h.load1 b (o + 3) = some (.map m) ∧ h.get m = some (.map es clock) ∧ f es clock = x := by
  unfold mapZ at hx
  cases hl : h.load1 b (Nat.add o 3) with
  | none => rw [hl] at hx; exact absurd hx.symm hz
  | some v =>
    rw [hl] at hx
    have hx : v.onMap z (fun m => h.onMap m f z) z = x := hx
    cases v with
    | map m =>
      have hx : h.onMap m f z = x := hx
      cases hg : h.get m with
      | none => exact absurd (hx.symm.trans (by show onSome (h.get m) _ _ = _; rw [hg]; rfl)) hz
      | some ob =>
        cases ob with
        | map es clock => exact ⟨m, es, clock, rfl, hg, by rw [← hx]; show f es clock = onSome (h.get m) _ _; rw [hg]; rfl⟩
        | _ => exact absurd (hx.symm.trans (by show onSome (h.get m) _ _ = _; rw [hg]; rfl)) hz
    | _ => exact absurd hx.symm hz
theorem roomK_ok {K : Ctx} {c : Caller} {z : Known} (hc : CallOK Tryz.prog K 2 c) (hz : KnownOK Tryz.prog K 2 253 z) (hE : Enters Tryz.prog 253) (hE5 : Enters Tryz.prog 205) : KnownOK Tryz.prog K 2 253 (roomK c z) := by
  intro σ own w h args cargs hg hH ha hf
  have hz' := hz σ own w h args cargs hg hH ha
  unfold roomK at hf ⊢
  split at hf
  · rename_i pb po
    cases hb : roomFull h pb po with
    | false => rw [hb] at hf; exact hz' hf
    | true =>
      rw [hb] at hf
      have hf : onSome (roomD h pb po) (fun t => okOnly (c 205 [.ptr pb po, .int .i64 t.n] h)) .fail ≠ .fail := hf
      obtain ⟨t, ht, hf⟩ := onSome_nf hf
      obtain ⟨r, hr⟩ := okOnly_nf hf
      have hdef : (ifb true (onSome (roomD h pb po) (fun t => okOnly (c 205 [.ptr pb po, .int .i64 t.n] h)) .fail) (z [.ptr pb po] h) : Out (AV × AHeap)) = .ok r := by
        rw [ht]
        show okOnly (c 205 [.ptr pb po, .int .i64 t.n] h) = .ok r
        rw [hr]; rfl
      rw [hdef]
      obtain ⟨cl⟩ := cargs
      simp only at ha
      have hargs := ha
      obtain ⟨v0, _, rfl, ⟨lp, hlp, rfl⟩, h3⟩ := ha
      have h3 : _ = [] := h3
      subst h3
      obtain ⟨most, q1, q2⟩ := onSome_eq (α := Unit) (x := ldZ h pb (po + 1)) (f := fun most => ifb (mapZ h pb po (fun es _ => ifb (ilt (.ofNat (lenE es)) most) false true) false) (some ()) none) (y := ()) (by
        have : onSome (ldZ h pb (po + 1)) (fun most => mapZ h pb po (fun es _ => ifb (ilt (.ofNat (lenE es)) most) false true) false) false = true := hb
        cases hq : ldZ h pb (po + 1) with
        | none => rw [hq] at this; cases this
        | some most =>
          rw [hq] at this
          have this : mapZ h pb po (fun es _ => ifb (ilt (.ofNat (lenE es)) most) false true) false = true := this
          show ifb (mapZ h pb po (fun es _ => ifb (ilt (.ofNat (lenE es)) most) false true) false) (some ()) none = some ()
          rw [this]; rfl)
      have q2 := (ifb_some q2).1
      obtain ⟨m, es, clock, l1, l2, l3⟩ := mapZ_eq ht (by intro h; cases h)
      obtain ⟨m', es', clock', l1', l2', l3'⟩ := mapZ_eq q2 (by intro h; cases h)
      rw [l1] at l1'; cases l1'
      rw [l2] at l2'; cases l2'
      have hlen : ¬ ((es.length : Nat) : Int) < most := by
        rw [← lenE_eq]
        intro hlt
        have : ilt (.ofNat (lenE es)) most = true := by rw [ilt_eq]; exact decide_eq_true hlt
        rw [this] at l3'; cases l3'
      obtain ⟨b1, l3⟩ := ifb_some l3
      obtain ⟨b2, l3⟩ := ifb_some l3
      obtain ⟨L, b3, l3⟩ := onSome_eq l3
      obtain ⟨b4, l3⟩ := ifb_some l3
      obtain ⟨b5, l3⟩ := ifb_some l3
      obtain ⟨b6, l3⟩ := ifb_some l3
      obtain ⟨b7, l3⟩ := ifb_some l3
      obtain ⟨t', b8, l3⟩ := onSome_eq l3
      obtain ⟨b9, l3⟩ := ifb_some l3
      obtain ⟨b10, l3⟩ := ifb_some l3
      cases l3
      obtain ⟨cv, hcv, hvm⟩ := hH.load1 hlp l1
      obtain ⟨lm, hlm, rfl⟩ := hvm
      have hmost := ldZ_ok hH hlp q1
      have hO := hH.obj m lm hlm
      rw [l2] at hO
      obtain ⟨hown, ces, hces, hE2⟩ := hO
      obtain ⟨f1, f2, f3⟩ := frZ_ok hH hE2 b3
      have hbo := borns_eq hE2
      have hnd := ndZ_ok b5
      have hwf := okZ_ok b4
      have hces2 : ces.size = es.length := by have := congrArg List.length hbo; simpa using this
      have hsz : ces.size ≤ 4096 := by rw [hces2, ← lenE_eq]; exact Nat.le_of_ble_eq_true b7
      have hrd : ∀ x ∈ ces.toList, ∃ n : Int, x.key = encZ n ∧ n ∈ nsZ L ∧ WideElems.rd Tryz.prog 3 heldR x = some (.int .i64 n, (.held x.val : DataW Value)) := fun x hx => by
        have : x.key ∈ ces.toList.map (·.key) := List.mem_map_of_mem hx
        rw [f1] at this
        obtain ⟨n, hn, e⟩ := List.mem_map.1 this
        obtain ⟨key, val, born⟩ := x
        have e : encZ n = key := e
        subst e
        exact ⟨n, rfl, hn, WideElems.rd_mk (yv := (.held val, [])) (Maps.keyOf_int_mk Tryz.underlying3 (hwf n hn)) rfl⟩
      have hst : MapKept.Stamped ces clock := ⟨fun x hx => bornsLt_ok b1 x.born (by rw [← hbo]; exact List.mem_map_of_mem hx), by rw [hbo]; exact bornsNd_ok b2, by
        rw [f1]
        exact hnd.map encZ fun a b hab e => hab (encZ_inj e)⟩
      have hfit : WideElems.Fit Tryz.prog 3 heldR ces clock := ⟨Nat.le_trans hsz (by decide), hst, fun x hx => (hrd x hx).elim fun n hn => ⟨_, hn.2.2⟩⟩
      generalize hD : (.map ((ces.toList.map (WideElems.rg Tryz.prog 3 heldR)).foldr DataW.insert []) : DataW Value) = D0
      have hownM : w.ownsMap Tryz.prog 3 heldR lm.B ces.size D0 := ⟨ces, clock, hces, hfit, Nat.le_refl _, hD.symm⟩
      have hsize : Maps.size D0 = ces.size := by subst hD; rw [Maps.size_eq, (WideShapes.sorted_perm _).length_eq, List.length_map]; simp
      have hmem : ∀ p : Lit × DataW Value, p ∈ (ces.toList.map (WideElems.rg Tryz.prog 3 heldR)).foldr DataW.insert [] → ∃ x ∈ ces.toList, ∃ n, x.key = encZ n ∧ n ∈ nsZ L ∧ p = (.int .i64 n, .held x.val) := fun p hp => by
        have hp := (WideShapes.sorted_perm _).mem_iff.1 hp
        obtain ⟨x, hx, e⟩ := List.mem_map.1 hp
        obtain ⟨n, e1, e2, e3⟩ := hrd x hx
        exact ⟨x, hx, n, e1, e2, by rw [← e, WideElems.rg_of e3]⟩
      have hfr : Frames w D0 (pinsOf L) (usedOf L) := by
        intro x cv' hat
        subst hD
        have h0 := hat .nil
        cases hp : List.find? (fun p : Lit × DataW Value => p.1.sameKey (Lit.int .i64 x)) (List.foldr DataW.insert [] (List.map (WideElems.rg Tryz.prog 3 heldR) ces.toList)) with
        | some p =>
          simp only [DataW.atKey, hp] at h0
          obtain ⟨y, hy, n, e1, e2, rfl⟩ := hmem p (List.mem_of_find?_eq_some hp)
          have hs := List.find?_some hp
          obtain rfl : n = x := same_int hs
          injection h0 with h0
          subst h0
          obtain ⟨tr, ht1, ht2, Ab, Ao, g1, g2, g3, g4⟩ := f3 y hy
          rw [e1] at ht2
          obtain rfl := encZ_inj ht2
          have hfd := find_nd hnd ht1
          exact ⟨Ab, Ao, g1, g2, by rw [g3]; simp [pinsOf, hfd], by rw [g4]; simp [usedOf, hfd], posZ_ok b6 _ e2⟩
        | none => simp only [DataW.atKey, hp] at h0; cases h0
      have hasL : ∀ x, Maps.has D0 (.int .i64 x) = true → ∃ tr ∈ L, tr.n = x := fun x hx => by
        subst hD
        rw [Maps.has_eq, List.any_eq_true] at hx
        obtain ⟨p, hp, hs⟩ := hx
        obtain ⟨y, hy, n, e1, e2, rfl⟩ := hmem p hp
        obtain rfl : n = x := same_int hs
        rw [nsZ_eq] at e2
        obtain ⟨tr, h1, h2⟩ := List.mem_map.1 e2
        exact ⟨tr, h1, h2⟩
      have hkn : t.n ∈ nsZ L := memZ_mem b10
      have hkhas : Maps.has D0 (.int .i64 t.n) = true := by
        have : encZ t.n ∈ ces.toList.map (·.key) := by rw [f1]; exact List.mem_map_of_mem hkn
        obtain ⟨x, hx, e⟩ := List.mem_map.1 this
        obtain ⟨n, e1, e2, e3⟩ := hrd x hx
        have e : x.key = encZ t.n := e
        obtain rfl : n = t.n := encZ_inj (e1.symm.trans e)
        subst hD
        rw [Maps.has_eq, List.any_eq_true]
        refine ⟨(.int .i64 t.n, .held x.val), (WideShapes.sorted_perm _).mem_iff.2 (List.mem_map.2 ⟨x, hx, WideElems.rg_of e3⟩), by simp [Lit.sameKey]⟩
      have hok := okC_ok b9
      obtain ⟨tk, ht1, ht2⟩ := hasL _ hkhas
      have hfk := find_nd hnd ht1
      rw [ht2] at hfk
      have hpk : pinsOf L t.n = 0 := by simp [pinsOf, hfk, ((hok tk ht1).1 ht2).2]
      have huk : usedOf L t.n = t.u := by simp [usedOf, hfk, ((hok tk ht1).1 ht2).1]
      have hu : ∀ x, x ≠ t.n → Maps.has D0 (.int .i64 x) = true → pinsOf L x = 0 → usedOf L t.n < usedOf L x := fun x hx hh hp => by
        obtain ⟨tr, h1, rfl⟩ := hasL x hh
        have hfd := find_nd hnd h1
        have hp : tr.p = 0 := by simpa [pinsOf, hfd] using hp
        rw [huk]
        have := (hok tr h1).2 hx hp
        simpa [usedOf, hfd] using this
      refine .inl ⟨hE, room_walk lp.B (lp.o + po) lm.B ces.size D0 most w (pinsOf L) (usedOf L) t.n (Back K σ h (.ok r)) (by rw [Nat.add_assoc]; exact hmost) (by rw [Nat.add_assoc]; exact hcv) hownM (by rw [hsize, hces2]; exact hlen) (cellB_lt hcv)
        (Lib.hid hfr) (Lib.hid hkhas) (Lib.hid hpk) (Lib.hid hu) (posZ_ok b6 _ hkn) (Lib.hid fun W' hb => ?_)⟩
      have h5 := calls_of hE5 (hc.fn σ own W' h 205 [.ptr pb po, .int .i64 t.n] #[.pointer (some ⟨lp.B, lp.o + po, none⟩), .int .i64 t.n] (by decide) hg (hH.grownWorld hb) (VRs.cons ⟨lp, hlp, rfl⟩ (VRs.cons rfl VRs.nil)) (by rw [hr]; intro h; cases h))
      rw [hr] at h5
      exact h5.mono fun e w' hb => by
        obtain ⟨vc, he, ha⟩ := hb
        exact ⟨vc, he, ⟨vc, he, ha⟩⟩
  · exact hz' hf
end Go.Eng
