/- The law StoreNil, run by the kernel over an empty heap, kind by kind; each says its own conditions. -/
import Derived.Test.YtaamiedjgfopiaaGreatDoorStA
import Derived.Test.YtaamiedjgfopiaaGreatDoorDos
set_option linter.unusedVariables false
set_option linter.unusedSimpArgs false
set_option maxRecDepth 1000000
namespace Go.Eng
open Go.RowKit Go.Proofs
/-! ## StoreNil: what is asked of o -/
/-- a kind that is none: eql, geq, leq -/
noncomputable def kindT (g l : Bool) (b : BinOp) (n : Nat) : Option AV :=
  match b with
  | .eql => ifb (Nat.ble n 9) (some (.bool false)) none
  | .geq => ifb (Nat.beq n 0) (some (.bool g)) none
  | .leq => ifb (Nat.beq n 8) (some (.bool l)) none
  | _ => none
noncomputable def OT (kn g l : Bool) : Op → List AV → Option AV := fun op vs =>
  match op with
  | .binOp b t x y t' => (match vs with
    | [.opq i, .int .i64 (.ofNat n)] => ifb kn (ifb (Nat.beq i 0) (kindT g l b n) none) none
    | vs => O3 (.binOp b t x y t') vs)
  | _ => none
/-- what o is made of -/
structure OpD where
  k : Int
  oid : Int
  torn : Int
  kd : Int
  tg : Int
  a : Option Addr
  n : Nat
  c : Nat
  a' : Option Addr
  n' : Nat
  c' : Nat
  tx : ByteArray
  nm : ByteArray
  st : ByteArray
def OpD.opq (D : OpD) : Nat → Value
  | 0 => .int .i64 D.k
  | 1 => .int .i64 D.oid
  | 2 => .int .i64 D.torn
  | 3 => .int .u8 D.kd
  | 4 => .int .i64 D.tg
  | 5 => .slice D.a D.n D.c
  | 6 => .string D.tx
  | 7 => .string D.nm
  | 8 => .string D.st
  | 9 => .slice D.a' D.n' D.c'
  | _ => .nilIface
def OpD.cells (D : OpD) : List Value := [.int .i64 D.k, .int .i64 D.oid, .int .i64 D.torn, .int .u8 D.kd, .int .i64 D.tg, .slice D.a D.n D.c, .string D.tx, .string D.nm, .string D.st, .slice D.a' D.n' D.c']
theorem OpD.scal (D : OpD) : ∀ i, (D.opq i).cells = #[D.opq i] ∧ ∀ x, D.opq i ≠ .tuple x
  | 0 | 1 | 2 | 3 | 4 | 5 | 6 | 7 | 8 | 9 | _ + 10 => ⟨rfl, fun x h => by cases h⟩
def OpD.vast (D : OpD) : Bool := vastB D.n D.tx.size D.n' D.nm.size D.st.size
noncomputable def ctxT (w : World) (D : OpD) : Ctx := ⟨w.heap.size, w, D.opq, fun i => (D.scal i).1, fun i => (D.scal i).2, codesOf Tryz.prog, fun _ => ([], 0)⟩
structure OpOk (w : World) (D : OpD) : Prop where
  h1 : D.n ≤ 9223372036854775807
  h2 : D.tx.size ≤ 9223372036854775807
  h3 : D.n' ≤ 140737488355328
  h4 : D.nm.size ≤ 9223372036854775807
  h5 : D.st.size ≤ 9223372036854775807
  g : Given w D.a D.n
theorem orcT {K : Ctx} {kn g l : Bool} (H : kn = true → ∃ k : Int, K.opq 0 = .int .i64 k ∧ (k < 0 ∨ 9 < k) ∧ g = decide (0 ≤ k) ∧ l = decide (k ≤ 8)) : OrcOK Tryz.prog K (OT kn g l) := by
  intro op vs z h σ ρ w dst ty pos af gd hv
  unfold OT at h
  split at h
  · rename_i b t x y t'
    split at h
    · rename_i i n
      obtain ⟨u, _, e1, hu, v', _, e2, hv', e3⟩ := hv
      have e : ρ x = K.opq i ∧ ρ y = .int .i64 (.ofNat n) := by
        simp only [orcArgs, List.map_cons, List.map_nil, List.cons.injEq] at e1
        obtain ⟨rfl, e1⟩ := e1
        subst e2
        simp only [List.cons.injEq] at e1
        obtain ⟨rfl, _⟩ := e1
        exact ⟨hu, hv'⟩
      obtain ⟨hx, hy⟩ := e
      obtain ⟨e1, h⟩ := ifb_some h
      obtain ⟨e2, h⟩ := ifb_some h
      obtain rfl := Nat.eq_of_beq_eq_true e2
      obtain ⟨k, k1, k2, k3, k4⟩ := H e1
      rw [k1] at hx
      unfold kindT at h
      split at h
      · obtain ⟨e3, h⟩ := ifb_some (show ifb (Nat.ble n 9) (some (AV.bool false)) none = some z from h)
        cases h
        have := Nat.le_of_ble_eq_true e3
        refine ⟨.bool false, ?_, rfl⟩
        have hne : ¬ k = (n : Int) := by omega
        simp [execOp, hx, hy, binOp, eqGuard, Op.intCmp, hne]
      · obtain ⟨e3, h⟩ := ifb_some (show ifb (Nat.beq n 0) (some (AV.bool g)) none = some z from h)
        cases h
        obtain rfl := Nat.eq_of_beq_eq_true e3
        refine ⟨.bool g, ?_, rfl⟩
        rw [k3]
        simp [execOp, hx, hy, binOp_geq, eqGuard_geq]
      · obtain ⟨e3, h⟩ := ifb_some (show ifb (Nat.beq n 8) (some (AV.bool l)) none = some z from h)
        cases h
        obtain rfl := Nat.eq_of_beq_eq_true e3
        refine ⟨.bool l, ?_, rfl⟩
        rw [k4]
        simp [execOp, hx, hy, binOp_leq, eqGuard_leq]
      · cases h
    · exact orc3 _ _ _ h σ ρ w dst ty pos af gd hv
  · cases h
theorem enters26 : Enters Tryz.prog 26 := enters_of Tryz.func26 (by kernel_rfl) (by kernel_rfl)
theorem enters25 : Enters Tryz.prog 25 := enters_of Tryz.func25 (by kernel_rfl) (by kernel_rfl)
theorem enters27 : Enters Tryz.prog 27 := enters_of Tryz.func27 (by kernel_rfl) (by kernel_rfl)
theorem works26 (w : World) : Calls Tryz.prog 26 #[] w fun e w' => e = .returned (.bool true) ∧ Below w.heap.size w w' :=
  run_true (K := ctxAt Tryz.prog w) (callC st10_ok rfl) enters26 (by decide) rfl rfl (globs_of fun g hg => ⟨1, by simp [hg]⟩) (h0_ok rfl rfl) VRs.nil run26
/-- Vast, of a row of one Op -/
noncomputable def restQ : List AV := [.opq 1, .opq 2, .opq 3, .opq 4, .opq 5, .opq 6, .opq 7, .opq 8, .opq 9]
noncomputable def okQ (k : Int) (l : List AV) : Bool := List.rec false (fun x xs _ => ifb (avB x (.opq 0)) (avsB xs restQ) (ifb (avB x (.int .i64 k)) (avsB xs restQ) false)) l
noncomputable def vastK (k : Int) (v : Bool) : Known := fun args h =>
  match args with
  | [.slice b o 1 z] => onSome (h.loadN b o 10) (fun l => ifb (okQ k l) (.ok (.bool v, h)) .fail) .fail
  | _ => .fail
theorem rest_ok {K : Ctx} {σ : Env} {D : OpD} {vs : List Value} (hK : K.opq = D.opq) (h2 : VRs K σ restQ vs) : vs = D.cells.tail := by
  obtain ⟨y1, _, rfl, g1, y2, _, rfl, g2, y3, _, rfl, g3, y4, _, rfl, g4, y5, _, rfl, g5, y6, _, rfl, g6, y7, _, rfl, g7, y8, _, rfl, g8, y9, _, rfl, g9, g10⟩ := h2
  have g10 : _ = [] := g10
  have g1 : y1 = K.opq 1 := g1
  have g2 : y2 = K.opq 2 := g2
  have g3 : y3 = K.opq 3 := g3
  have g4 : y4 = K.opq 4 := g4
  have g5 : y5 = K.opq 5 := g5
  have g6 : y6 = K.opq 6 := g6
  have g7 : y7 = K.opq 7 := g7
  have g8 : y8 = K.opq 8 := g8
  have g9 : y9 = K.opq 9 := g9
  subst g10 g1 g2 g3 g4 g5 g6 g7 g8 g9
  rw [hK]; rfl
theorem okQ_ok {K : Ctx} {σ : Env} {D : OpD} {l : List AV} {vs : List Value} (hK : K.opq = D.opq) (h : okQ D.k l = true) (hv : VRs K σ l vs) : vs = D.cells := by
  cases l with
  | nil => cases h
  | cons x xs =>
    have h : ifb (avB x (.opq 0)) (avsB xs restQ) (ifb (avB x (.int .i64 D.k)) (avsB xs restQ) false) = true := h
    obtain ⟨y, ys, rfl, h1, h2⟩ := hv
    have key : y = .int .i64 D.k ∧ xs = restQ := by
      cases hb : avB x (.opq 0) with
      | true =>
        rw [hb] at h
        have := avB_eq hb
        subst this
        have h1 : y = K.opq 0 := h1
        rw [hK] at h1
        exact ⟨h1, avsB_eq h⟩
      | false =>
        rw [hb] at h
        obtain ⟨h3, h4⟩ := ifb_tt (show ifb (avB x (.int .i64 D.k)) (avsB xs restQ) false = true from h)
        have := avB_eq h3
        subst this
        exact ⟨h1, avsB_eq h4⟩
    obtain ⟨rfl, rfl⟩ := key
    rw [rest_ok hK h2]; rfl
theorem vastK_ok {K : Ctx} {D : OpD} {w0 : World} (hK : K.opq = D.opq) (H : OpOk w0 D) : KnownOK Tryz.prog K 2 25 (vastK D.k D.vast) := by
  intro σ own w h args cargs hg hH ha hf
  obtain ⟨cl⟩ := cargs
  simp only at ha
  unfold vastK at hf ⊢
  split at hf
  · rename_i b o z
    obtain ⟨l, hl, hf⟩ := onSome_nf hf
    obtain ⟨hq, hf⟩ := ifb_nf hf
    obtain ⟨v0, _, rfl, ⟨lp, hlp, rfl⟩, h3⟩ := ha
    have h3 : _ = [] := h3
    subst h3
    obtain ⟨vs, hlen, hvs, hc⟩ := hH.loadN hlp hl
    have hvs := okQ_ok hK hq hvs
    subst hvs
    have hc' : ∀ (j : Nat) (v : Value), D.cells[j]? = some v → w.cell? ⟨lp.B, lp.o + o + j, none⟩ = some v := fun j v hj => by
      have := hc j v hj
      unfold Addr.add at this
      split at this
      · rename_i e; subst e; exact this
      · exact this
    show ComesTo _ _ _ _ (Back K σ h (onSome (h.loadN b o 10) (fun l => ifb (okQ D.k l) (.ok (.bool D.vast, h)) .fail) .fail))
    rw [hl]
    show ComesTo _ _ _ _ (Back K σ h (ifb (okQ D.k l) (.ok (.bool D.vast, h)) .fail))
    rw [hq]
    refine .inl ⟨enters25, (vast_walk H.h1 H.h2 H.h3 H.h4 H.h5 (hc' 0 _ rfl) (hc' 1 _ rfl) (hc' 2 _ rfl) (hc' 3 _ rfl) (hc' 4 _ rfl) (hc' 5 _ rfl) (hc' 6 _ rfl) (hc' 7 _ rfl) (hc' 8 _ rfl) (hc' 9 _ rfl)).mono ?_⟩
    rintro e w' ⟨he, hb⟩
    have he : e = .returned (.bool D.vast) := he
    exact ⟨_, he, σ, own, rfl, Grow.refl _ _, hH.grownWorld hb⟩
  · exact absurd rfl hf
/-- does, of a kind that hands words on, with no store -/
noncomputable def toldV : AV := .agg [.int .i64 (.ofNat 0), .int .u8 (.ofNat 0), .int .i64 (.ofNat 0), .nilSlice, .str 0 0, .str 0 0, .bool false, errV]
noncomputable def doesK : Known := fun args h =>
  match args with
  | [.nilPtr, .agg (.int .i64 (.ofNat k) :: l)] => ifb (avsB l restQ) (ifb (Nat.beq k 0) (.ok (toldV, h)) (ifb (Nat.beq k 2) (.ok (toldV, h)) .fail)) .fail
  | _ => .fail
theorem doesK_ok {K : Ctx} {D : OpD} (hB : K.base = K.w0.heap.size) (hK : K.opq = D.opq) (H : OpOk K.w0 D) (hV : D.vast = false) : KnownOK Tryz.prog K 2 27 doesK := by
  intro σ own w h args cargs hg hH ha hf
  obtain ⟨cl⟩ := cargs
  simp only at ha
  unfold doesK at hf ⊢
  split at hf
  · rename_i k l
    obtain ⟨hq, hf⟩ := ifb_nf hf
    obtain ⟨v0, _, rfl, h0, v1, _, rfl, ⟨⟨cs⟩, rfl, h1⟩, h2⟩ := ha
    have h2 : _ = [] := h2
    subst h2
    simp only at h1
    obtain ⟨y, ys, rfl, h1, hys⟩ := h1
    have h1 : y = .int .i64 (.ofNat k) := h1
    subst h1
    have h0 : v0 = .pointer none := h0
    subst h0
    have hl := avsB_eq hq
    subst hl
    have hcs := rest_ok hK hys
    subst hcs
    have hgv : Given w D.a D.n := H.g.below (B := 0) (by have := hH.below; rw [hB] at this; exact this)
    have hn : D.n ≤ 8192 := vastB_le hV
    have fin : ∀ (e : Ending) (w' : World), (e = .returned (.agg #[.int .i64 0, .int .u8 0, .int .i64 0, .slice none 0 0, .string { data := #[] }, .string { data := #[] }, .bool false, .int .i64 2]) ∧ Below w.heap.size w w') → Back K σ h (.ok (toldV, h)) e w' := by
      rintro e w' ⟨rfl, hb⟩
      exact ⟨_, rfl, σ, own, ⟨_, rfl, VRs.cons (x := .int .i64 (.ofNat 0)) rfl (VRs.cons (x := .int .u8 (.ofNat 0)) rfl (VRs.cons (x := .int .i64 (.ofNat 0)) rfl (VRs.cons (x := .nilSlice) rfl (VRs.cons (x := .str 0 0) ⟨rfl, by decide⟩ (VRs.cons (x := .str 0 0) ⟨rfl, by decide⟩ (VRs.cons (x := .bool false) rfl (VRs.cons (x := errV) rfl VRs.nil)))))))⟩, Grow.refl _ _, hH.grownWorld hb⟩
    show ComesTo _ _ _ _ (Back K σ h (ifb (avsB restQ restQ) (ifb (Nat.beq k 0) (.ok (toldV, h)) (ifb (Nat.beq k 2) (.ok (toldV, h)) .fail)) .fail))
    rw [hq]
    show ComesTo _ _ _ _ (Back K σ h (ifb (Nat.beq k 0) (.ok (toldV, h)) (ifb (Nat.beq k 2) (.ok (toldV, h)) .fail)))
    cases k1 : Nat.beq k 0 with
    | true =>
      obtain rfl := Nat.eq_of_beq_eq_true k1
      exact .inl ⟨enters27, (does_alloc hn hgv (scal_sl _ _ _)).mono fin⟩
    | false =>
      rw [k1] at hf
      have hf : ifb (Nat.beq k 2) (.ok (toldV, h)) .fail ≠ Out.fail := hf
      obtain ⟨k2, hf⟩ := ifb_nf hf
      obtain rfl := Nat.eq_of_beq_eq_true k2
      exact .inl ⟨enters27, (does_update hn hgv (scal_sl _ _ _)).mono fin⟩
  · exact absurd rfl hf
noncomputable def poT (kn g l : Bool) : PO := ⟨[], OT kn g l, fun f => memN f [210, 251, 259, 310, 314, 118, 234, 304]⟩
theorem pokT {K : Ctx} {kn g l : Bool} (hO : kn = true → ∃ k : Int, K.opq 0 = .int .i64 k ∧ (k < 0 ∨ 9 < k) ∧ g = decide (0 ≤ k) ∧ l = decide (k ≤ 8)) : POK Tryz.prog K (poT kn g l) := ⟨fun t ht => (by cases ht), orcT hO, (pok3 (K := K)).ent⟩
noncomputable def FT (kn g l : Bool) : Nat → Option AFun := funs 2 cstA T3 (poT kn g l) nd4 fl3
noncomputable def knT (k : Int) (v : Bool) : List (Nat × KnownY) := (27, upK doesK) :: (25, upK (vastK k v)) :: (26, upK trueK) :: kn3
noncomputable def knU (k : Int) (v : Bool) : List (Nat × KnownY) := (25, upK (vastK k v)) :: (26, upK trueK) :: kn3
noncomputable def cT (k : Int) (v kn g l : Bool) : Caller := detC (callG (lookK (knU k v)) (fun _ => none) (FT kn g l) J4 2000 100 noY)
noncomputable def cU (k : Int) (v : Bool) : Caller := detC (callG (lookK (knT k v)) (fun _ => none) (FT false false false) J4 2000 100 noY)
theorem knU_ok {K : Ctx} {D : OpD} {w0 : World} (hK : K.opq = D.opq) (H : OpOk w0 D) : ∀ p ∈ knU D.k D.vast, KnownYOK Tryz.prog K 2 p.1 p.2 := by
  intro p hp
  rcases List.mem_cons.1 hp with rfl | hp
  · exact (vastK_ok hK H).up
  rcases List.mem_cons.1 hp with rfl | hp
  · exact (trueK_ok enters26 works26).up
  · exact kn3_ok p hp
theorem callT {K : Ctx} {D : OpD} {w0 : World} {kn g l : Bool} (hK : K.opq = D.opq) (H : OpOk w0 D) (hO : kn = true → ∃ k : Int, K.opq 0 = .int .i64 k ∧ (k < 0 ∨ 9 < k) ∧ g = decide (0 ≤ k) ∧ l = decide (k ≤ 8)) (hC : K.codes = codesOf Tryz.prog) : CallOK Tryz.prog K 2 (cT D.k D.vast kn g l) :=
  callG1_ok (lookK_ok (knU_ok hK H)) (fun f g h => by cases h) (funs_ok cst_ok T3_ok (pokT hO) mix3 hC fl3_ok) 2000 100
theorem callU {K : Ctx} {D : OpD} (hB : K.base = K.w0.heap.size) (hK : K.opq = D.opq) (H : OpOk K.w0 D) (hV : D.vast = false) (hC : K.codes = codesOf Tryz.prog) : CallOK Tryz.prog K 2 (cU D.k D.vast) :=
  callG1_ok (lookK_ok (l := knT D.k D.vast) fun p hp => by
    rcases List.mem_cons.1 hp with rfl | hp
    · exact (doesK_ok hB hK H hV).up
    · exact knU_ok hK H p hp) (fun f g h => by cases h) (funs_ok cst_ok T3_ok (pokT fun h => by cases h) mix3 hC fl3_ok) 2000 100
noncomputable def oT (x : AV) : List AV := [.agg (x :: restQ)]
theorem r5v (k : Int) : isTrueO (cT k true false false false 5 (oT (.opq 0)) h0) = true := by kernel_rfl
theorem r5lo (k : Int) : isTrueO (cT k false true false true 5 (oT (.opq 0)) h0) = true := by kernel_rfl
theorem r5hi (k : Int) : isTrueO (cT k false true true false 5 (oT (.opq 0)) h0) = true := by kernel_rfl
theorem r5k0 : isTrueO (cU (.ofNat 0) false 5 (oT (.int .i64 (.ofNat 0))) h0) = true := by kernel_rfl
theorem r5k1 : isTrueO (cT (.ofNat 1) false false false false 5 (oT (.int .i64 (.ofNat 1))) h0) = true := by kernel_rfl
theorem r5k2 : isTrueO (cU (.ofNat 2) false 5 (oT (.int .i64 (.ofNat 2))) h0) = true := by kernel_rfl
theorem r5k3 : isTrueO (cT (.ofNat 3) false false false false 5 (oT (.int .i64 (.ofNat 3))) h0) = true := by kernel_rfl
theorem r5k4 : isTrueO (cT (.ofNat 4) false false false false 5 (oT (.int .i64 (.ofNat 4))) h0) = true := by kernel_rfl
theorem r5k5 : isTrueO (cT (.ofNat 5) false false false false 5 (oT (.int .i64 (.ofNat 5))) h0) = true := by kernel_rfl
theorem r5k6 : isTrueO (cT (.ofNat 6) false false false false 5 (oT (.int .i64 (.ofNat 6))) h0) = true := by kernel_rfl
theorem r5k7 : isTrueO (cT (.ofNat 7) false false false false 5 (oT (.int .i64 (.ofNat 7))) h0) = true := by kernel_rfl
theorem r5k8 : isTrueO (cT (.ofNat 8) false false false false 5 (oT (.int .i64 (.ofNat 8))) h0) = true := by kernel_rfl
theorem r5k9 : isTrueO (cT (.ofNat 9) false false false false 5 (oT (.int .i64 (.ofNat 9))) h0) = true := by kernel_rfl
end Go.Eng
