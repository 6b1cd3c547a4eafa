/- Functions that sort keys of maps, run over the map alone; a contract of bytes.trimLeftByte. Each says its own conditions. -/
import Derived.Test.YtaamiedjgfopiaaGreatDoorWalk
import Derived.WalkKit
import Derived.Handy
import Derived.LoopTactic
set_option linter.unusedVariables false
set_option maxRecDepth 1000000
namespace Go.Eng
open Go.RowKit Go.Proofs
/-- sorted maps' keys: every order is run, and what is sorted is brought together -/
noncomputable def nd4 : Nat → Bool := fun f => memN f [89, 253, 246, 50, 116, 195, 304, 118, 234, 170, 232]
noncomputable def J4 : Nat → Bool := fun f => memN f [89, 253, 246, 50, 170]
noncomputable def F4 : Nat → Option AFun := funs 2 cstA T3 po3 nd4 fl3
theorem funs4 {K : Ctx} (hK : K.codes = codesOf Tryz.prog) : ∀ f fn, F4 f = some fn → FunOK Tryz.prog K 2 f fn := funs_ok cst_ok T3_ok pok3 mix3 hK fl3_ok
noncomputable def c4 : Caller := detC (callG I3 (fun _ => none) F4 J4 2000 100 noY)
theorem call4 {K : Ctx} (hK : K.codes = codesOf Tryz.prog) : CallOK Tryz.prog K 2 c4 := callG1_ok (lookK_ok kn3_ok) (fun f g h => by cases h) (funs4 hK) 2000 100
end Go.Eng
set_option linter.unusedVariables false
set_option linter.unusedSimpArgs false
set_option maxRecDepth 100000
namespace Go.Eng
open Go.RowKit Go.Proofs
section
variable {K : Ctx} {σ : Env} {own : Owns} {h : AHeap} {w w' : World}
/-- a block that somebody else has made, made one's own -/
theorem HR.addOwn (H : HR K σ own h w) (hb : Below w.heap.size w w') {l : Loc} {r : Row} (hB : w.heap.size ≤ l.B) (hlt : l.B < w'.heap.size) (R : RowR K (σ.add h.next l) w' l r) (nf : NoFr w' l.B) :
    HR K (σ.add h.next l) (own.add l.B (false, h.next)) (h.new (.cells none false r)) w' := by
  have hle : σ.le (σ.add h.next l) := Env.le_add _ (H.fresh _ (Nat.le_refl _))
  have hsz := hb.size
  have hba := H.base
  refine ⟨fun b hbn => ?_, fun b l' hl => ?_, fun b p ro r' hg => ?_, H.below.trans ⟨hb.os, hb.tape, hb.output, hb.size, fun k hk => hb.block k (by omega)⟩, by omega, fun B t hBt => ?_⟩
  · have hb' : h.next.num + 1 ≤ b.num := by rw [← Pos.num_succ]; exact hbn
    rw [Env.add_other _ _ (fun e => by subst e; omega)]
    exact H.fresh b (by omega)
  · rw [AHeap.get_new]
    by_cases e : b = h.next
    · subst e
      rw [if_pos rfl]
      rw [Env.add_same] at hl; cases hl
      exact ⟨R, hlt, fun _ => ⟨by simp [Owns.add, tagOf], nf⟩, fun e => by cases e⟩
    · rw [if_neg e]
      rw [Env.add_other _ _ e] at hl
      have hx := H.obj b l' hl
      by_cases hB' : l'.B < w.heap.size
      · exact hx.frame hle (hb.block _ hB') (by simp [Owns.add]; omega) hsz
      · cases ho' : h.get b with
        | none => trivial
        | some o' =>
          rw [ho'] at hx
          cases o' with
          | dead => trivial
          | cells g ro r => exact absurd hx.2.1 hB'
          | map es clock => exact absurd (H.owned _ _ hx.1).2 hB'
          | siter n d p => exact absurd (H.owned _ _ hx.1).2 hB'
          | ext e => exact absurd (H.owned _ _ hx.1.1).2 hB'
          | rmap es => exact absurd (Nat.lt_of_lt_of_le hx.1 H.base) hB'
  · rw [AHeap.get_new] at hg
    by_cases e : b = h.next
    · rw [if_pos e] at hg; cases hg
    · rw [if_neg e] at hg
      exact H.grp b p ro r' hg
  · unfold Owns.add at hBt
    split at hBt
    · rename_i e
      subst e
      exact ⟨by omega, hlt⟩
    · have := H.owned B t hBt
      exact ⟨by omega, by omega⟩
end
/-! ## Values that say the same everywhere -/
noncomputable def flat1 (v : AV) : Bool := v.onIntStr (fun _ _ => true) (fun _ _ => true) false
noncomputable def flatL (l : List AV) : Bool := List.rec true (fun x _ ih => ifb (flat1 x) ih false) l
noncomputable def flatR (r : Row) : Bool := Row.rec (fun _ l => flatL l) (fun _ _ => true) (fun _ _ => true) (fun _ _ => true) r
theorem flat1_ok {K K' : Ctx} {σ σ' : Env} {x : AV} {v : Value} (h : flat1 x = true) (hv : VR K σ x v) : VR K' σ' x v := by
  cases x <;> first | exact hv | exact absurd h (by intro e; cases e)
theorem flatL_mem : ∀ {l : List AV}, flatL l = true → ∀ x ∈ l, flat1 x = true
  | [], _, x, hx => by cases hx
  | y :: l, h, x, hx => by
    obtain ⟨h1, h2⟩ := ifb_tt (show ifb (flat1 y) (flatL l) false = true from h)
    rcases List.mem_cons.1 hx with rfl | hx
    · exact h1
    · exact flatL_mem h2 x hx
theorem flatL_ok {K K' : Ctx} {σ σ' : Env} : ∀ {l : List AV} {vs : List Value}, flatL l = true → VRs K σ l vs → VRs K' σ' l vs
  | [], vs, _, hv => hv
  | x :: l, vs, h, hv => by
    obtain ⟨h1, h2⟩ := ifb_tt (show ifb (flat1 x) (flatL l) false = true from h)
    obtain ⟨y, ys, rfl, k1, k2⟩ := hv
    exact ⟨y, ys, rfl, flat1_ok h1 k1, flatL_ok h2 k2⟩
theorem flatR_get {r : Row} (h : flatR r = true) {i : Nat} {x : AV} (hx : r.get i = some x) : flat1 x = true := by
  cases r with
  | lst n l =>
    rw [Row.get_lst] at hx
    exact flatL_mem h x (List.mem_of_getElem? hx)
  | byt n d =>
    rw [Row.get_byt] at hx
    split at hx
    · cases hx; rfl
    · cases hx
  | wid n d =>
    rw [Row.get_wid] at hx
    split at hx
    · cases hx; rfl
    · cases hx
  | dw n d =>
    rw [Row.get_dw] at hx
    split at hx
    · cases hx; rfl
    · cases hx
theorem RowR.flat {K K' : Ctx} {σ σ' : Env} {w : World} {l : Loc} {r : Row} (h : flatR r = true) (R : RowR K σ w l r) : RowR K' σ' w l r :=
  ⟨R.wf, R.cap, R.cell, fun i x hx => by
    obtain ⟨v, k1, k2⟩ := R.val i x hx
    exact ⟨v, k1, flat1_ok (flatR_get h hx) k2⟩⟩
/-! ## A map, alone -/
noncomputable def valT (i : Nat) (v : AV) : Option AV := ifb v.isCell (some (.opq i)) (v.onAgg (fun l => ifb (flatL l) (some v) none) none)
noncomputable def entsT : Nat → List AEnt → Option (List AEnt)
  | _, [] => some []
  | i, e :: l => ifb (flat1 e.key) (onSome (valT i e.val) (fun v => onSome (entsT (Nat.succ i) l) (fun l' => some (⟨e.key, v, i⟩ :: l')) none) none) none
noncomputable def bornsLt (clock : Nat) (l : List AEnt) : Bool := List.rec true (fun e _ ih => ifb (Nat.ble (Nat.succ e.born) clock) ih false) l
noncomputable def bornsNd (l : List AEnt) : Bool := List.rec true (fun e t ih => ifb (memN e.born (List.rec [] (fun e' _ r => e'.born :: r) t)) false ih) l
open Classical in
noncomputable def opqE (l : List MapEntry) (i : Nat) : Value := match l[i]? with | some c => if c.val.cells = #[c.val] ∧ ∀ x, c.val ≠ .tuple x then c.val else .nilIface | none => .nilIface
theorem opqE_scal (l : List MapEntry) (i : Nat) : (opqE l i).cells = #[opqE l i] ∧ ∀ x, opqE l i ≠ .tuple x := by
  unfold opqE
  split
  · split
    · assumption
    · exact ⟨rfl, fun x h => by cases h⟩
  · exact ⟨rfl, fun x h => by cases h⟩
noncomputable def ctxE (w : World) (l : List MapEntry) (clock : Nat) : Ctx :=
  ⟨w.heap.size, w, opqE l, fun i => (opqE_scal l i).1, fun i => (opqE_scal l i).2, codesOf Tryz.prog, fun _ => (l, clock)⟩
theorem cells_of_cell {v : Value} (h1 : ∀ c, v ≠ .agg c) : v.cells = #[v] := by
  cases v <;> first | rfl | exact absurd rfl (h1 _)
theorem entsT_ok {K : Ctx} {σ σ' : Env} {w : World} {L : List MapEntry} {clock : Nat} : ∀ {i : Nat} {es es' : List AEnt} {cs : List MapEntry}, (∀ j c, cs[j]? = some c → L[i + j]? = some c) → entsT i es = some es' → EntsR K σ es cs → EntsV (ctxE w L clock) σ' i es' cs
  | i, [], es', cs, hL, h, hE => by
    have h : some [] = some es' := h
    cases h
    exact hE
  | i, e :: es, es', cs, hL, h, hE => by
    obtain ⟨h1, h⟩ := ifb_some (show ifb (flat1 e.key) (onSome (valT i e.val) (fun v => onSome (entsT (Nat.succ i) es) (fun l' => some (⟨e.key, v, i⟩ :: l')) none) none) none = some es' from h)
    obtain ⟨v, h2, h⟩ := onSome_eq h
    obtain ⟨l', h3, h4⟩ := onSome_eq h
    cases h4
    obtain ⟨c, cs, rfl, ⟨e1, e2, e3⟩, hE⟩ := hE
    have hc : L[i]? = some c := by have := hL 0 c rfl; simpa using this
    refine ⟨c, cs, rfl, rfl, flat1_ok h1 e1, ?_, entsT_ok (fun j c' hj => ?_) h3 hE⟩
    · unfold valT at h2
      cases hcell : e.val.isCell with
      | true =>
        rw [hcell] at h2
        have h2 : AV.opq i = v := Option.some.inj h2
        subst h2
        obtain ⟨n1, n2⟩ := VR.isCell hcell e2
        show c.val = opqE L i
        unfold opqE
        rw [hc]
        simp only
        rw [if_pos ⟨cells_of_cell n1, n2⟩]
      | false =>
        rw [hcell] at h2
        have h2 : e.val.onAgg (fun l => ifb (flatL l) (some e.val) none) none = some v := h2
        cases hv : e.val with
        | agg l =>
          rw [hv] at h2 e2
          obtain ⟨h5, h6⟩ := ifb_some (show ifb (flatL l) (some (AV.agg l)) none = some v from h2)
          cases h6
          obtain ⟨x, k1, k2⟩ := e2
          exact ⟨x, k1, flatL_ok h5 k2⟩
        | _ => rw [hv] at h2; cases h2
    · have := hL (j + 1) c' (by simpa using hj)
      rw [show i + (j + 1) = Nat.succ i + j by omega] at this
      exact this
theorem borns_eq {K : Ctx} {σ : Env} : ∀ {es : List AEnt} {cs : List MapEntry}, EntsR K σ es cs → cs.map (·.born) = es.map (·.born)
  | [], cs, h => by
    have h : cs = [] := h
    subst h; rfl
  | e :: es, cs, ⟨c, cs', e1, ⟨_, _, e2⟩, h⟩ => by
    subst e1
    simp only [List.map_cons]
    rw [borns_eq h, e2]
theorem bornsLt_ok {clock : Nat} : ∀ {es : List AEnt}, bornsLt clock es = true → ∀ x ∈ es.map (·.born), x < clock
  | [], _, x, hx => by cases hx
  | e :: es, h, x, hx => by
    obtain ⟨h1, h2⟩ := ifb_tt (show ifb (Nat.ble (Nat.succ e.born) clock) (bornsLt clock es) false = true from h)
    rcases List.mem_cons.1 hx with rfl | hx
    · exact Nat.le_of_ble_eq_true h1
    · exact bornsLt_ok h2 x hx
theorem bornsL_eq : ∀ l : List AEnt, (List.rec [] (fun e' _ r => e'.born :: r) l : List Nat) = l.map (·.born)
  | [] => rfl
  | e :: l => by
    show e.born :: (List.rec [] (fun e' _ r => e'.born :: r) l : List Nat) = _
    rw [bornsL_eq l]; rfl
theorem memN_iff : ∀ {l : List Nat} {x : Nat}, x ∈ l → memN x l = true
  | y :: l, x, h => by
    show ifb (Nat.beq x y) true (memN x l) = true
    rcases List.mem_cons.1 h with rfl | h
    · rw [Nat.beq_refl]; rfl
    · have := memN_iff h
      cases Nat.beq x y
      · exact this
      · rfl
theorem bornsNd_ok : ∀ {es : List AEnt}, bornsNd es = true → (es.map (·.born)).Nodup
  | [], _ => List.nodup_nil
  | e :: es, h => by
    have h : ifb (memN e.born (List.rec [] (fun e' _ r => e'.born :: r) es)) false (bornsNd es) = true := h
    rw [bornsL_eq] at h
    cases hm : memN e.born (es.map (·.born)) with
    | true => rw [hm] at h; cases h
    | false =>
      rw [hm] at h
      refine List.nodup_cons.2 ⟨fun hin => ?_, bornsNd_ok h⟩
      rw [memN_iff hin] at hm; cases hm
noncomputable def hT (es : List AEnt) : AHeap := heapOfO 30 [(10, .cells none true (.lst 1 [.map (posOf 11)])), (11, .rmap es)]
def locT (lp lm : Loc) : Nat → Option Loc := fun i => if i < 2 then some ⟨i, 0, 1⟩ else if i = 10 then some lp else if i = 11 then some lm else none
noncomputable def putR (h : AHeap) (r : Out (AV × AHeap)) : Out (AV × AHeap) :=
  Out.rec (fun vh => Prod.rec (fun v hR => v.onSlice (.ok (.nilSlice, h)) (fun b off n sz => ifb (Nat.beq off 0) (hR.onRow b (fun _ ro r => ifb ro .fail (ifb (flatR r) (.ok (.slice h.next 0 n sz, h.new (.cells none false r))) .fail)) .fail) .fail) .fail) vh) (fun _ _ => .fail) .fail r
noncomputable def tiny (c : Caller) (f g : Nat) (es : List AEnt) : Out (AV × AHeap) := c f [.func (.func g) [] [.ptr (posOf 10) 0]] (hT es)
/-- a function of a closure over a map, by a run over the map alone -/
noncomputable def sortI (c : Caller) (f : Nat) : Known := fun args h =>
  match args with
  | [.func (.func g) [] [.ptr pb po]] => onSome (h.load1 pb po) (fun v => v.onMap .fail (fun m => h.onMap m (fun es clock => ifb (bornsLt clock es) (ifb (bornsNd es) (onSome (entsT 0 es) (fun es' => putR h (tiny c f g es')) .fail) .fail) .fail) .fail) .fail) .fail
  | _ => .fail
theorem hT_ok {w : World} {lp lm : Loc} {ces : Array MapEntry} {clock : Nat} {es' : List AEnt} (hp : lp.C = 1) (hc : w.cell? ⟨lp.B, lp.o, none⟩ = some (.map (some lm.B))) (hm : w.heap[lm.B]? = some (.map ces clock))
    (hlt : ∀ x ∈ ces.toList, x.born < clock) (hnd : (ces.toList.map (·.born)).Nodup) (hE : EntsV (ctxE w ces.toList clock) (envOf (locT lp lm)) 0 es' ces.toList) :
    HR (ctxE w ces.toList clock) (envOf (locT lp lm)) (fun _ => none) (hT es') w := by
  have e11 : envOf (locT lp lm) (posOf 11) = some lm := by rw [envOf_posOf]; rfl
  refine HR.of_objs rfl rfl (fun i hi => ?_) fun p hp' => ?_
  · have h1 : ¬ i < 2 := by omega
    have h2 : ¬ i = 10 := by omega
    have h3 : ¬ i = 11 := by omega
    simp [locT, h1, h2, h3]
  · simp only [List.mem_cons, List.mem_nil_iff, or_false] at hp'
    rcases hp' with rfl | rfl
    · refine ⟨fun q ro r e => (by cases e), fun l hl => ?_⟩
      have hl : some lp = some l := hl
      cases hl
      have hlB : lp.B < w.heap.size := by
        rcases Nat.lt_or_ge lp.B w.heap.size with h | h
        · exact h
        · have : w.heap[lp.B]? = none := Array.getElem?_eq_none h
          simp [World.cell?, this] at hc
      have R : RowR (ctxE w ces.toList clock) (envOf (locT lp lm)) w lp (.lst 1 [.map (posOf 11)]) := by
        refine ⟨rfl, ?_, fun i hi => ?_, fun i x hx => ?_⟩
        · rw [hp]; exact Nat.le_refl _
        · rw [hp] at hi
          obtain rfl : i = 0 := by omega
          exact ⟨_, hc⟩
        · have : i < 1 := Row.get_lt (r := .lst 1 [.map (posOf 11)]) rfl hx
          obtain rfl : i = 0 := by omega
          cases hx
          exact ⟨_, hc, _, e11, rfl⟩
      exact ObjR.ro R hlB (fun e => by cases e)
    · refine ⟨fun q ro r e => (by cases e), fun l hl => ?_⟩
      have hl : some lm = some l := hl
      cases hl
      exact ⟨(Array.getElem?_eq_some_iff.1 hm).1, rfl, ces, hm, List.Perm.refl _, hlt, hnd, hE⟩
theorem sortI_ok {K : Ctx} {c : Caller} {f : Nat} (hy : f ≠ yN) (hc : ∀ K : Ctx, K.codes = codesOf Tryz.prog → CallOK Tryz.prog K 2 c) : KnownOK Tryz.prog K 2 f (sortI c f) := by
  intro σ own w h args cargs hg hH ha hf
  obtain ⟨cl⟩ := cargs
  simp only at ha
  unfold sortI at hf ⊢
  split at hf
  · rename_i g pb po
    obtain ⟨v0, _, rfl, ⟨⟨x⟩, ⟨y⟩, rfl, h1, h2⟩, h3⟩ := ha
    have h3 : _ = [] := h3
    subst h3
    have h1 : x = [] := h1
    subst h1
    obtain ⟨p, _, h2, ⟨lp, hlp, rfl⟩, h4⟩ := h2
    simp only at h2
    subst h2
    have h4 : _ = [] := h4
    subst h4
    obtain ⟨v, hl, hf⟩ := onSome_nf hf
    have hfm : (v.onMap .fail (fun m => h.onMap m (fun es clock => ifb (bornsLt clock es) (ifb (bornsNd es) (onSome (entsT 0 es) (fun es' => putR h (tiny c f g es')) .fail) .fail) .fail) .fail) .fail : Out (AV × AHeap)) ≠ .fail := hf
    cases v with
    | map m =>
      obtain ⟨cv, hcv, ⟨lm, hlm, rfl⟩⟩ := hH.load1 hlp hl
      have hfm : (h.onMap m (fun es clock => ifb (bornsLt clock es) (ifb (bornsNd es) (onSome (entsT 0 es) (fun es' => putR h (tiny c f g es')) .fail) .fail) .fail) .fail : Out (AV × AHeap)) ≠ .fail := hfm
      cases hgm : h.get m with
      | none => exact absurd (by show onSome (h.get m) _ _ = _; rw [hgm]; rfl) hfm
      | some o =>
        cases o with
        | map es clock =>
          have hdef : (h.onMap m (fun es clock => ifb (bornsLt clock es) (ifb (bornsNd es) (onSome (entsT 0 es) (fun es' => putR h (tiny c f g es')) .fail) .fail) .fail) .fail : Out (AV × AHeap)) = ifb (bornsLt clock es) (ifb (bornsNd es) (onSome (entsT 0 es) (fun es' => putR h (tiny c f g es')) .fail) .fail) .fail := by
            show onSome (h.get m) _ _ = _
            rw [hgm]; rfl
          rw [hdef] at hfm
          obtain ⟨b1, hfm⟩ := ifb_nf hfm
          obtain ⟨b2, hfm⟩ := ifb_nf hfm
          obtain ⟨es', b3, hfm⟩ := onSome_nf hfm
          have hres : (onSome (h.load1 pb po) (fun v => v.onMap .fail (fun m => h.onMap m (fun es clock => ifb (bornsLt clock es) (ifb (bornsNd es) (onSome (entsT 0 es) (fun es' => putR h (tiny c f g es')) .fail) .fail) .fail) .fail) .fail) .fail : Out (AV × AHeap)) = putR h (tiny c f g es') := by
            rw [hl]
            show (h.onMap m _ .fail : Out (AV × AHeap)) = _
            rw [hdef, b1, b2, b3]; rfl
          show ComesTo _ _ _ _ (Back K σ h (onSome (h.load1 pb po) (fun v => v.onMap .fail (fun m => h.onMap m (fun es clock => ifb (bornsLt clock es) (ifb (bornsNd es) (onSome (entsT 0 es) (fun es' => putR h (tiny c f g es')) .fail) .fail) .fail) .fail) .fail) .fail))
          rw [hres]
          have hO := hH.obj m lm hlm
          rw [hgm] at hO
          obtain ⟨hown, ces, hces, hE⟩ := hO
          have hbo := borns_eq hE
          have hT := hT_ok (w := w) (lp := ⟨lp.B, lp.o + po, 1⟩) (lm := lm) (ces := ces) (clock := clock) (es' := es') rfl hcv hces
            (fun x hx => bornsLt_ok b1 x.born (by rw [← hbo]; exact List.mem_map_of_mem hx)) (by rw [hbo]; exact bornsNd_ok b2)
            (entsT_ok (w := w) (L := ces.toList) (clock := clock) (fun j c hj => by rw [Nat.zero_add]; exact hj) b3 hE)
          cases ht : tiny c f g es' with
          | fail => rw [ht] at hfm; exact absurd rfl hfm
          | panic _ _ => rw [ht] at hfm; exact absurd rfl hfm
          | ok vh =>
            obtain ⟨v, hR⟩ := vh
            rw [ht] at hfm
            have hcom := (hc (ctxE w ces.toList clock) rfl).fn (envOf (locT ⟨lp.B, lp.o + po, 1⟩ lm)) (fun _ => none) w (Eng.hT es') f [.func (.func g) [] [.ptr (posOf 10) 0]] #[.func (.func g) #[] #[.pointer (some ⟨lp.B, lp.o + po, none⟩)]] hy
              (globs_of fun q hq => ⟨1, by simp [locT, hq]⟩) hT (VRs.cons ⟨_, _, rfl, VRs.nil, VRs.cons ⟨⟨lp.B, lp.o + po, 1⟩, by rw [envOf_posOf]; rfl, rfl⟩ VRs.nil⟩ VRs.nil) (by show tiny c f g es' ≠ .fail; rw [ht]; intro e; cases e)
            have hcom : ComesTo Tryz.prog f #[.func (.func g) #[] #[.pointer (some ⟨lp.B, lp.o + po, none⟩)]] w (Back (ctxE w ces.toList clock) (envOf (locT ⟨lp.B, lp.o + po, 1⟩ lm)) (Eng.hT es') (tiny c f g es')) := hcom
            rw [ht] at hcom
            refine hcom.mono ?_
            rintro e w' ⟨vc, rfl, σ', own', hv, hgr, H'⟩
            have hb : Below w.heap.size w w' := H'.below
            cases v with
            | nilSlice =>
              have hv : vc = .slice none 0 0 := hv
              subst hv
              exact ⟨_, rfl, σ, own, rfl, Grow.refl _ _, hH.grownWorld hb⟩
            | slice b off n sz =>
              have hfm : (ifb (Nat.beq off 0) (hR.onRow b (fun _ ro r => ifb ro .fail (ifb (flatR r) (.ok (.slice h.next 0 n sz, h.new (.cells none false r))) .fail)) .fail) .fail : Out (AV × AHeap)) ≠ .fail := hfm
              obtain ⟨k1, hfm⟩ := ifb_nf hfm
              obtain rfl := Nat.eq_of_beq_eq_true k1
              cases hgb : hR.get b with
              | none => exact absurd (by show onSome (hR.get b) _ _ = _; rw [hgb]; rfl) hfm
              | some o =>
                cases o with
                | cells gg ro r =>
                  have hdef2 : (hR.onRow b (fun _ ro r => ifb ro .fail (ifb (flatR r) (.ok (.slice h.next 0 n sz, h.new (.cells none false r))) .fail)) .fail : Out (AV × AHeap)) = ifb ro .fail (ifb (flatR r) (.ok (.slice h.next 0 n sz, h.new (.cells none false r))) .fail) := by
                    show onSome (hR.get b) _ _ = _
                    rw [hgb]; rfl
                  rw [hdef2] at hfm
                  cases ro with
                  | true => exact absurd rfl hfm
                  | false =>
                    obtain ⟨k2, _⟩ := ifb_nf (show (ifb (flatR r) (.ok (.slice h.next 0 n sz, h.new (.cells none false r))) .fail : Out (AV × AHeap)) ≠ .fail from hfm)
                    have hres2 : putR h (.ok (.slice b 0 n sz, hR)) = .ok (.slice h.next 0 n sz, h.new (.cells none false r)) := by
                      show ifb (Nat.beq 0 0) (hR.onRow b (fun _ ro r => ifb ro .fail (ifb (flatR r) (.ok (.slice h.next 0 n sz, h.new (.cells none false r))) .fail)) .fail) .fail = (Out.ok (AV.slice h.next 0 n sz, h.new (.cells none false r)) : Out (AV × AHeap))
                      rw [k1, hdef2, k2]; rfl
                    rw [hres2]
                    obtain ⟨l, hlb, rfl⟩ := hv
                    have hO2 := H'.obj b l hlb
                    rw [hgb] at hO2
                    obtain ⟨R, r2, r3, _⟩ := hO2
                    obtain ⟨r4, r5⟩ := r3 rfl
                    have r6 : w.heap.size ≤ l.B := (H'.owned _ _ r4).1
                    refine ⟨_, rfl, σ.add h.next l, own.add l.B (false, h.next), ⟨l, Env.add_same _ _ _, rfl⟩, ?_, hH.addOwn hb r6 r2 (R.flat k2) r5⟩
                    exact Grow.add l (hH.fresh _ (Nat.le_refl _)) rfl
                | _ => exact absurd (by show onSome (hR.get b) _ _ = _; rw [hgb]; rfl) hfm
            | _ => exact absurd rfl hfm
        | _ => exact absurd (by show onSome (h.get m) _ _ = _; rw [hgm]; rfl) hfm
    | _ => exact absurd rfl hfm
  · exact absurd rfl hf
end Go.Eng
set_option linter.unusedVariables false
set_option linter.unusedSimpArgs false
set_option maxRecDepth 100000
namespace Go.Eng
open Go.RowKit Go.Proofs
/-! ## A function that only reads, run over what it reaches -/
mutual
theorem VR.ctx {K K' : Ctx} {σ : Env} (hq : K'.opq = K.opq) : ∀ {x : AV} {v : Value}, VR K σ x v → VR K' σ x v
  | .bool _, _, h => h
  | .int _ _, _, h => h
  | .str _ _, _, h => h
  | .nilPtr, _, h => h
  | .ptr _ _, _, h => h
  | .nilSlice, _, h => h
  | .slice _ _ _ _, _, h => h
  | .nilMap, _, h => h
  | .map _, _, h => h
  | .nilFunc, _, h => h
  | .func _ a b, _, ⟨x, y, e, h1, h2⟩ => ⟨x, y, e, VRs.ctx hq h1, VRs.ctx hq h2⟩
  | .nilIface, _, h => h
  | .iface _ x, _, ⟨y, e, h⟩ => ⟨y, e, VR.ctx hq h⟩
  | .agg cs, _, ⟨x, e, h⟩ => ⟨x, e, VRs.ctx hq h⟩
  | .tup cs, _, ⟨x, e, h⟩ => ⟨x, e, VRs.ctx hq h⟩
  | .opq i, v, h => by
    have h : v = K.opq i := h
    show v = K'.opq i
    rw [hq]; exact h
  | .yld _, _, h => h
  | .sliceC _ _ _ _ _, _, h => h
theorem VRs.ctx {K K' : Ctx} {σ : Env} (hq : K'.opq = K.opq) : ∀ {l : List AV} {vs : List Value}, VRs K σ l vs → VRs K' σ l vs
  | [], _, h => h
  | x :: l, _, ⟨y, ys, e, h1, h2⟩ => ⟨y, ys, e, VR.ctx hq h1, VRs.ctx hq h2⟩
end
theorem RowR.ctx {K K' : Ctx} {σ : Env} {w : World} {l : Loc} {r : Row} (hq : K'.opq = K.opq) (R : RowR K σ w l r) : RowR K' σ w l r :=
  ⟨R.wf, R.cap, R.cell, fun i x hx => by
    obtain ⟨v, k1, k2⟩ := R.val i x hx
    exact ⟨v, k1, k2.ctx hq⟩⟩
/-- what is reached: blocks of cells, read only -/
noncomputable def ptsR (r : Row) : List AV := Row.rec (fun _ l => l) (fun _ _ => []) (fun _ _ => []) (fun _ _ => []) r
noncomputable def snapT (h : AHeap) (n : Nat) : List AV → PT AObj → PT AObj :=
  Nat.rec (fun _ t => t) (fun _ ih l => List.rec (fun t => t) (fun x _ go t => go (List.rec t (fun b _ t' => onSome (t'.get b) (fun _ => t') (h.onRow b (fun _ _ r => ifb (Nat.beq r.size 0) t' (ih (ptsR r) (t'.set (.cells none true r) b))) t')) (ptsV [] x))) l) n
def SnapOK (h : AHeap) (t : PT AObj) : Prop := ∀ b o, t.get b = some o → ∃ g ro r, h.get b = some (.cells g ro r) ∧ o = .cells none true r ∧ r.size ≠ 0
theorem SnapOK.set {h : AHeap} {t : PT AObj} (H : SnapOK h t) {b : Pos} {g : Option Pos} {ro : Bool} {r : Row} (hb : h.get b = some (.cells g ro r)) (hr : r.size ≠ 0) : SnapOK h (t.set (.cells none true r) b) := by
  intro c o hc
  by_cases e : c = b
  · subst e
    rw [PT.get_set_same] at hc
    cases hc
    exact ⟨g, ro, r, hb, rfl, hr⟩
  · rw [PT.get_set_other _ _ e] at hc
    exact H c o hc
theorem snapT_ok {h : AHeap} : ∀ (n : Nat) (l : List AV) (t : PT AObj), SnapOK h t → SnapOK h (snapT h n l t)
  | 0, _, _, H => H
  | n + 1, l, t, H => by
    have stp : ∀ (ps : List Pos) (t : PT AObj), SnapOK h t → SnapOK h (List.rec t (fun b _ t' => onSome (t'.get b) (fun _ => t') (h.onRow b (fun _ _ r => ifb (Nat.beq r.size 0) t' (snapT h n (ptsR r) (t'.set (.cells none true r) b))) t')) ps) := by
      intro ps t H
      induction ps with
      | nil => exact H
      | cons b ps ih =>
        show SnapOK h (onSome (PT.get _ b) (fun _ => _) (h.onRow b (fun _ _ r => ifb (Nat.beq r.size 0) _ (snapT h n (ptsR r) (PT.set (.cells none true r) _ b))) _))
        generalize (List.rec t (fun b _ t' => onSome (t'.get b) (fun _ => t') (h.onRow b (fun _ _ r => ifb (Nat.beq r.size 0) t' (snapT h n (ptsR r) (t'.set (.cells none true r) b))) t')) ps : PT AObj) = t1 at ih ⊢
        cases t1.get b with
        | some _ => exact ih
        | none =>
          show SnapOK h (onSome (h.get b) _ _)
          cases hb : h.get b with
          | none => exact ih
          | some o =>
            cases o with
            | cells g ro r =>
              show SnapOK h (ifb (Nat.beq r.size 0) t1 (snapT h n (ptsR r) (t1.set (.cells none true r) b)))
              cases hz : Nat.beq r.size 0 with
              | true => exact ih
              | false => exact snapT_ok n _ _ (ih.set hb (fun e => by rw [e] at hz; cases hz))
            | _ => exact ih
    show SnapOK h (List.rec (fun t => t) (fun x _ go t => go (List.rec t (fun b _ t' => onSome (t'.get b) (fun _ => t') (h.onRow b (fun _ _ r => ifb (Nat.beq r.size 0) t' (snapT h n (ptsR r) (t'.set (.cells none true r) b))) t')) (ptsV [] x))) l t)
    induction l generalizing t with
    | nil => exact H
    | cons x l ih => exact ih _ (stp _ _ H)
noncomputable def snapH (h : AHeap) (args : List AV) : AHeap := ⟨h.next, snapT h 4 args .nil, .nil⟩
noncomputable def ctxR (K : Ctx) (w : World) : Ctx := ⟨w.heap.size, w, K.opq, K.scal, K.notup, K.codes, fun _ => ([], 0)⟩
theorem HR.snap {K : Ctx} {σ : Env} {own : Owns} {h : AHeap} {w : World} (H : HR K σ own h w) (args : List AV) : HR (ctxR K w) σ (fun _ => none) (snapH h args) w := by
  have S : SnapOK h (snapT h 4 args .nil) := snapT_ok 4 args .nil (fun b o hb => by cases hb)
  refine HR.outset rfl rfl (fun b hn => H.fresh b hn) (fun b l hl => ?_) (fun b p ro r hb => ?_)
  · show ObjR _ _ _ _ _ _ ((snapT h 4 args .nil).get b)
    cases hb : (snapT h 4 args .nil).get b with
    | none => trivial
    | some o =>
      obtain ⟨g, ro, r, h1, rfl, h2⟩ := S b o hb
      have hO := H.obj b l hl
      rw [h1] at hO
      exact ⟨RowR.ctx (K := K) (K' := ctxR K w) rfl hO.1, hO.2.1, fun e => (by cases e), fun _ => ⟨.inl rfl, fun e => absurd e h2⟩⟩
  · obtain ⟨_, _, _, _, e, _⟩ := S b _ (show (snapT h 4 args .nil).get b = _ from hb)
    cases e
/-- a function's answer is a row of plain values: it is run over what it reaches, and its answer laid as one new block -/
noncomputable def readI (c : Caller) (f : Nat) : Known := fun args h => putR h (c f args (snapH h args))
theorem readI_ok {K : Ctx} {c : Caller} {f : Nat} (hy : f ≠ yN) (hK : K.codes = codesOf Tryz.prog) (hc : ∀ K : Ctx, K.codes = codesOf Tryz.prog → CallOK Tryz.prog K 2 c) : KnownOK Tryz.prog K 2 f (readI c f) := by
  intro σ own w h args cargs hg hH ha hf
  have hfm : putR h (c f args (snapH h args)) ≠ .fail := hf
  show ComesTo _ _ _ _ (Back K σ h (putR h (c f args (snapH h args))))
  cases ht : c f args (snapH h args) with
  | fail => rw [ht] at hfm; exact absurd rfl hfm
  | panic _ _ => rw [ht] at hfm; exact absurd rfl hfm
  | ok vh =>
    obtain ⟨v, hR⟩ := vh
    rw [ht] at hfm
    have hcom := (hc (ctxR K w) hK).fn σ (fun _ => none) w (snapH h args) f args cargs hy hg (hH.snap args) (VRs.ctx (K := K) (K' := ctxR K w) rfl ha) (by rw [ht]; intro e; cases e)
    rw [ht] at hcom
    refine hcom.mono ?_
    rintro e w' ⟨vc, rfl, σ', own', hv, hgr, H'⟩
    have hb : Below w.heap.size w w' := H'.below
    cases v with
    | nilSlice =>
      have hv : vc = .slice none 0 0 := hv
      subst hv
      exact ⟨_, rfl, σ, own, rfl, Grow.refl _ _, hH.grownWorld hb⟩
    | slice b off n sz =>
      have hfm : (ifb (Nat.beq off 0) (hR.onRow b (fun _ ro r => ifb ro .fail (ifb (flatR r) (.ok (.slice h.next 0 n sz, h.new (.cells none false r))) .fail)) .fail) .fail : Out (AV × AHeap)) ≠ .fail := hfm
      obtain ⟨k1, hfm⟩ := ifb_nf hfm
      obtain rfl := Nat.eq_of_beq_eq_true k1
      cases hgb : hR.get b with
      | none => exact absurd (by show onSome (hR.get b) _ _ = _; rw [hgb]; rfl) hfm
      | some o =>
        cases o with
        | cells gg ro r =>
          have hdef2 : (hR.onRow b (fun _ ro r => ifb ro .fail (ifb (flatR r) (.ok (.slice h.next 0 n sz, h.new (.cells none false r))) .fail)) .fail : Out (AV × AHeap)) = ifb ro .fail (ifb (flatR r) (.ok (.slice h.next 0 n sz, h.new (.cells none false r))) .fail) := by
            show onSome (hR.get b) _ _ = _
            rw [hgb]; rfl
          rw [hdef2] at hfm
          cases ro with
          | true => exact absurd rfl hfm
          | false =>
            obtain ⟨k2, _⟩ := ifb_nf (show (ifb (flatR r) (.ok (.slice h.next 0 n sz, h.new (.cells none false r))) .fail : Out (AV × AHeap)) ≠ .fail from hfm)
            have hres2 : putR h (.ok (.slice b 0 n sz, hR)) = .ok (.slice h.next 0 n sz, h.new (.cells none false r)) := by
              show ifb (Nat.beq 0 0) (hR.onRow b (fun _ ro r => ifb ro .fail (ifb (flatR r) (.ok (.slice h.next 0 n sz, h.new (.cells none false r))) .fail)) .fail) .fail = (Out.ok (AV.slice h.next 0 n sz, h.new (.cells none false r)) : Out (AV × AHeap))
              rw [k1, hdef2, k2]; rfl
            rw [hres2]
            obtain ⟨l, hlb, rfl⟩ := hv
            have hO2 := H'.obj b l hlb
            rw [hgb] at hO2
            obtain ⟨R, r2, r3, _⟩ := hO2
            obtain ⟨r4, r5⟩ := r3 rfl
            have r6 : w.heap.size ≤ l.B := (H'.owned _ _ r4).1
            exact ⟨_, rfl, σ.add h.next l, own.add l.B (false, h.next), ⟨l, Env.add_same _ _ _, rfl⟩, Grow.add l (hH.fresh _ (Nat.le_refl _)) rfl, hH.addOwn hb r6 r2 (R.flat k2) r5⟩
        | _ => exact absurd (by show onSome (hR.get b) _ _ = _; rw [hgb]; rfl) hfm
    | _ => exact absurd rfl hfm
end Go.Eng
set_option linter.unusedVariables false
set_option linter.unusedSimpArgs false
set_option maxRecDepth 100000
namespace Go.Eng
open Go.RowKit Go.Proofs
/-! ## Answers that were reckoned before: over a snapshot that does not hang on where the heap ends -/
noncomputable def lenPos (p : Pos) : Nat := Pos.rec 0 (fun _ n => Nat.succ n) (fun _ n => Nat.succ n) p
theorem num_lt (p : Pos) : p.num < 2 ^ (lenPos p + 1) := by
  induction p with
  | h => decide
  | o p ih => show 2 * p.num < 2 ^ (lenPos p + 1 + 1); rw [Nat.pow_succ]; omega
  | i p ih => show 2 * p.num + 1 < 2 ^ (lenPos p + 1 + 1); rw [Nat.pow_succ]; omega
def bigP : Pos := .o (.o (.o (.o (.o (.o (.o (.o (.o (.o (.o (.o (.o (.o (.o (.o (.o (.o (.o (.o .h)))))))))))))))))))
theorem bigP_num : bigP.num = 1048576 := by decide
theorem big_of {p : Pos} (h : Nat.ble (Nat.succ (lenPos p)) 20 = true) : p.num ≤ bigP.num := by
  have h1 := num_lt p
  have h2 : lenPos p + 1 ≤ 20 := Nat.le_of_ble_eq_true h
  have h3 : 2 ^ (lenPos p + 1) ≤ 2 ^ 20 := Nat.pow_le_pow_right (by omega) h2
  rw [bigP_num]
  omega
noncomputable def snapB (h : AHeap) (args : List AV) : AHeap := ⟨bigP, snapT h 4 args .nil, .nil⟩
theorem HR.snapB {K : Ctx} {σ : Env} {own : Owns} {h : AHeap} {w : World} (H : HR K σ own h w) (hn : h.next.num ≤ bigP.num) (args : List AV) : HR (ctxR K w) σ (fun _ => none) (Eng.snapB h args) w := by
  have S := H.snap args
  exact ⟨fun b hb => H.fresh b (Nat.le_trans hn hb), S.obj, S.grp, S.below, S.base, S.owned⟩
structure Mem where
  args : List AV
  snap : PT AObj
  n : Nat
  sz : Nat
  row : Row
noncomputable def ofL (l : List (Pos × Row)) : PT AObj := List.rec .nil (fun p _ t => t.set (.cells none true p.2) p.1) l
noncomputable def memB (c : Caller) (f : Nat) (m : Mem) : Bool :=
  Out.rec (fun vh => Prod.rec (fun v hR => v.onSlice false (fun b off n sz => ifb (Nat.beq off 0) (ifb (Nat.beq n m.n) (ifb (Nat.beq sz m.sz) (hR.onRow b (fun _ ro r => ifb ro false (ifb (flatR r) (rowB r m.row) false)) false) false) false) false) false) vh) (fun _ _ => false) false (c f m.args ⟨bigP, m.snap, .nil⟩)
noncomputable def findM (h : AHeap) (args : List AV) (z : Out (AV × AHeap)) (l : List Mem) : Out (AV × AHeap) :=
  List.rec z (fun m _ ih => ifb (avsB args m.args) (ifb (ptB objB (snapT h 4 args .nil) m.snap) (.ok (.slice h.next 0 m.n m.sz, h.new (.cells none false m.row))) ih) ih) l
noncomputable def memoI (c : Caller) (f : Nat) (l : List Mem) : Known := fun args h => ifb (Nat.ble (Nat.succ (lenPos h.next)) 20) (findM h args (putR h (c f args (snapB h args))) l) .fail
theorem putB {c : Caller} {f : Nat} {m : Mem} {h : AHeap} (hm : memB c f m = true) : putR h (c f m.args ⟨bigP, m.snap, .nil⟩) = .ok (.slice h.next 0 m.n m.sz, h.new (.cells none false m.row)) := by
  unfold memB at hm
  cases hr : c f m.args ⟨bigP, m.snap, .nil⟩ with
  | fail => rw [hr] at hm; cases hm
  | panic _ _ => rw [hr] at hm; cases hm
  | ok vh =>
    obtain ⟨v, hR⟩ := vh
    rw [hr] at hm
    have hm : v.onSlice false (fun b off n sz => ifb (Nat.beq off 0) (ifb (Nat.beq n m.n) (ifb (Nat.beq sz m.sz) (hR.onRow b (fun _ ro r => ifb ro false (ifb (flatR r) (rowB r m.row) false)) false) false) false) false) false = true := hm
    cases v with
    | slice b off n sz =>
      obtain ⟨k1, hm1⟩ := ifb_tt (show ifb (Nat.beq off 0) (ifb (Nat.beq n m.n) (ifb (Nat.beq sz m.sz) (hR.onRow b (fun _ ro r => ifb ro false (ifb (flatR r) (rowB r m.row) false)) false) false) false) false = true from hm)
      obtain ⟨k2, hm2⟩ := ifb_tt hm1
      obtain ⟨k3, hm3⟩ := ifb_tt hm2
      obtain rfl := Nat.eq_of_beq_eq_true k1
      obtain rfl := Nat.eq_of_beq_eq_true k2
      obtain rfl := Nat.eq_of_beq_eq_true k3
      cases hb : hR.get b with
      | none =>
        have e : hR.onRow b (fun _ ro r => ifb ro false (ifb (flatR r) (rowB r m.row) false)) false = false := by show onSome (hR.get b) _ _ = _; rw [hb]; rfl
        rw [e] at hm3; cases hm3
      | some o =>
        cases o with
        | cells g ro r =>
          have e : hR.onRow b (fun _ ro r => ifb ro false (ifb (flatR r) (rowB r m.row) false)) false = ifb ro false (ifb (flatR r) (rowB r m.row) false) := by show onSome (hR.get b) _ _ = _; rw [hb]; rfl
          rw [e] at hm3
          cases ro with
          | true => cases hm3
          | false =>
            obtain ⟨k4, k5⟩ := ifb_tt (show ifb (flatR r) (rowB r m.row) false = true from hm3)
            have := rowB_eq k5
            show ifb (Nat.beq 0 0) (hR.onRow b (fun _ ro r => ifb ro .fail (ifb (flatR r) (.ok (.slice h.next 0 m.n m.sz, h.new (.cells none false r))) .fail)) .fail) .fail = (Out.ok (AV.slice h.next 0 m.n m.sz, h.new (.cells none false m.row)) : Out (AV × AHeap))
            have e2 : (hR.onRow b (fun _ ro r => ifb ro .fail (ifb (flatR r) (.ok (.slice h.next 0 m.n m.sz, h.new (.cells none false r))) .fail)) .fail : Out (AV × AHeap)) = ifb false .fail (ifb (flatR r) (.ok (.slice h.next 0 m.n m.sz, h.new (.cells none false r))) .fail) := by show onSome (hR.get b) _ _ = _; rw [hb]; rfl
            rw [k1, e2, k4, this]; rfl
        | _ =>
          have e : hR.onRow b (fun _ ro r => ifb ro false (ifb (flatR r) (rowB r m.row) false)) false = false := by show onSome (hR.get b) _ _ = _; rw [hb]; rfl
          rw [e] at hm3; cases hm3
    | _ => cases hm
theorem findM_eq {c : Caller} {f : Nat} {h : AHeap} {args : List AV} : ∀ {l : List Mem}, (∀ m ∈ l, memB c f m = true) → findM h args (putR h (c f args (snapB h args))) l = putR h (c f args (snapB h args))
  | [], _ => rfl
  | m :: l, hl => by
    have ih := findM_eq (h := h) (args := args) (l := l) fun m' hm => hl m' (List.mem_cons_of_mem _ hm)
    have hdef : findM h args (putR h (c f args (snapB h args))) (m :: l) = ifb (avsB args m.args) (ifb (ptB objB (snapT h 4 args .nil) m.snap) (.ok (.slice h.next 0 m.n m.sz, h.new (.cells none false m.row))) (findM h args (putR h (c f args (snapB h args))) l)) (findM h args (putR h (c f args (snapB h args))) l) := rfl
    rw [hdef, ih]
    cases e1 : avsB args m.args with
    | false => rfl
    | true =>
      cases e2 : ptB objB (snapT h 4 args .nil) m.snap with
      | false => rfl
      | true =>
        have a1 := avsB_eq e1
        have a2 := ptB_eq (fun _ _ => objB_eq) e2
        have := putB (h := h) (hl m List.mem_cons_self)
        show (Out.ok _ : Out (AV × AHeap)) = putR h (c f args ⟨bigP, snapT h 4 args .nil, .nil⟩)
        rw [a2, a1]
        exact this.symm
/-- what is known of a run over a snapshot -/
theorem put_ok {K : Ctx} {c : Caller} {f : Nat} (hy : f ≠ yN) (hK : K.codes = codesOf Tryz.prog) (hc : ∀ K : Ctx, K.codes = codesOf Tryz.prog → CallOK Tryz.prog K 2 c) {σ : Env} {own : Owns} {w : World} {h : AHeap} {args : List AV} {cargs : Array Value} (hg : Globs 2 σ) (hH : HR K σ own h w) (ha : VRs K σ args cargs.toList)
    {hs : AHeap} (hS : HR (ctxR K w) σ (fun _ => none) hs w) (hfm : putR h (c f args hs) ≠ .fail) : ComesTo Tryz.prog f cargs w (Back K σ h (putR h (c f args hs))) := by
  cases ht : c f args hs with
  | fail => rw [ht] at hfm; exact absurd rfl hfm
  | panic _ _ => rw [ht] at hfm; exact absurd rfl hfm
  | ok vh =>
    obtain ⟨v, hR⟩ := vh
    rw [ht] at hfm
    have hcom := (hc (ctxR K w) hK).fn σ (fun _ => none) w hs f args cargs hy hg hS (VRs.ctx (K := K) (K' := ctxR K w) rfl ha) (by rw [ht]; intro e; cases e)
    rw [ht] at hcom
    refine hcom.mono ?_
    rintro e w' ⟨vc, rfl, σ', own', hv, hgr, H'⟩
    have hb : Below w.heap.size w w' := H'.below
    cases v with
    | nilSlice =>
      have hv : vc = .slice none 0 0 := hv
      subst hv
      exact ⟨_, rfl, σ, own, rfl, Grow.refl _ _, hH.grownWorld hb⟩
    | slice b off n sz =>
      have hfm : (ifb (Nat.beq off 0) (hR.onRow b (fun _ ro r => ifb ro .fail (ifb (flatR r) (.ok (.slice h.next 0 n sz, h.new (.cells none false r))) .fail)) .fail) .fail : Out (AV × AHeap)) ≠ .fail := hfm
      obtain ⟨k1, hfm⟩ := ifb_nf hfm
      obtain rfl := Nat.eq_of_beq_eq_true k1
      cases hgb : hR.get b with
      | none => exact absurd (by show onSome (hR.get b) _ _ = _; rw [hgb]; rfl) hfm
      | some o =>
        cases o with
        | cells gg ro r =>
          have hdef2 : (hR.onRow b (fun _ ro r => ifb ro .fail (ifb (flatR r) (.ok (.slice h.next 0 n sz, h.new (.cells none false r))) .fail)) .fail : Out (AV × AHeap)) = ifb ro .fail (ifb (flatR r) (.ok (.slice h.next 0 n sz, h.new (.cells none false r))) .fail) := by
            show onSome (hR.get b) _ _ = _
            rw [hgb]; rfl
          rw [hdef2] at hfm
          cases ro with
          | true => exact absurd rfl hfm
          | false =>
            obtain ⟨k2, _⟩ := ifb_nf (show (ifb (flatR r) (.ok (.slice h.next 0 n sz, h.new (.cells none false r))) .fail : Out (AV × AHeap)) ≠ .fail from hfm)
            have hres2 : putR h (.ok (.slice b 0 n sz, hR)) = .ok (.slice h.next 0 n sz, h.new (.cells none false r)) := by
              show ifb (Nat.beq 0 0) (hR.onRow b (fun _ ro r => ifb ro .fail (ifb (flatR r) (.ok (.slice h.next 0 n sz, h.new (.cells none false r))) .fail)) .fail) .fail = (Out.ok (AV.slice h.next 0 n sz, h.new (.cells none false r)) : Out (AV × AHeap))
              rw [k1, hdef2, k2]; rfl
            rw [hres2]
            obtain ⟨l, hlb, rfl⟩ := hv
            have hO2 := H'.obj b l hlb
            rw [hgb] at hO2
            obtain ⟨R, r2, r3, _⟩ := hO2
            obtain ⟨r4, r5⟩ := r3 rfl
            have r6 : w.heap.size ≤ l.B := (H'.owned _ _ r4).1
            exact ⟨_, rfl, σ.add h.next l, own.add l.B (false, h.next), ⟨l, Env.add_same _ _ _, rfl⟩, Grow.add l (hH.fresh _ (Nat.le_refl _)) rfl, hH.addOwn hb r6 r2 (R.flat k2) r5⟩
        | _ => exact absurd (by show onSome (hR.get b) _ _ = _; rw [hgb]; rfl) hfm
    | _ => exact absurd rfl hfm
theorem memoI_ok {K : Ctx} {c : Caller} {f : Nat} {l : List Mem} (hy : f ≠ yN) (hK : K.codes = codesOf Tryz.prog) (hc : ∀ K : Ctx, K.codes = codesOf Tryz.prog → CallOK Tryz.prog K 2 c) (hl : ∀ m ∈ l, memB c f m = true) : KnownOK Tryz.prog K 2 f (memoI c f l) := by
  intro σ own w h args cargs hg hH ha hf
  have hdef : memoI c f l args h = ifb (Nat.ble (Nat.succ (lenPos h.next)) 20) (putR h (c f args (snapB h args))) .fail := by
    show ifb _ (findM h args _ l) .fail = _
    rw [findM_eq hl]
  rw [hdef] at hf ⊢
  obtain ⟨h1, h2⟩ := ifb_nf hf
  rw [h1]
  exact put_ok hy hK hc hg hH ha (hH.snapB (big_of h1) args) h2
end Go.Eng
set_option linter.unusedVariables false
set_option linter.unusedSimpArgs false
set_option maxRecDepth 100000
set_option maxHeartbeats 800000
namespace Go.Eng
open Go.RowKit Go.Proofs
def lenV (v : Value) : Nat := match v with | .slice _ n _ => n | _ => 0
theorem trim_walk {w : World} {B o n c x k : Nat} {bs : Nat → Nat} (hnc : n ≤ c) (hn : n ≤ 1048576) (hb : ∀ j, j < n → w.cell? ⟨B, o + j, none⟩ = some (.int .u8 (bs j))) (hk : k ≤ n) (hlead : ∀ j, j < k → bs j = x) (hstop : k < n → bs k ≠ x) :
    Calls Tryz.prog 255 #[.slice (some ⟨B, o, none⟩) n c, .int .u8 x] w fun e w' => (k = n → e = .returned (.slice none 0 0)) ∧ (k < n → e = .returned (.slice (some ⟨B, o + k, none⟩) (n - k) (c - k))) ∧ w' = w := by
  go_enter Tryz.func255, Tryz.ntmps255
  go_wp2_with fail
  go_loop [0] (fun s => ∃ j, j ≤ k ∧ (j < n → s = .slice (some ⟨B, o + j, none⟩) (n - j) (c - j)) ∧ (j = n → ∃ a c', s = .slice a 0 c')) (fun s => lenV s)
  case atStart => exact ⟨0, Nat.zero_le _, fun _ => rfl, fun h => ⟨_, _, by subst h; rfl⟩⟩
  case round =>
    obtain ⟨j, hj, h1, h2⟩ := hrel
    rcases Nat.lt_or_ge j n with hjn | hjn
    · obtain rfl := h1 hjn
      have hc := hb j hjn
      by_cases hjk : j < k
      · have hx := hlead j hjk
        rw [hx] at hc
        go_hidden (go_wp2)
        refine ⟨⟨j + 1, by omega, fun h => ?_, fun h => ?_⟩, ?_⟩
        · rw [if_neg (by omega), show o + j + 1 = o + (j + 1) by omega, show n - j - 1 = n - (j + 1) by omega, show c - j - 1 = c - (j + 1) by omega]
        · exact ⟨_, _, by rw [show n - j - 1 = 0 by omega]⟩
        · simp only [lenV]; omega
      · obtain rfl : j = k := by omega
        have hne : ¬ ((bs j : Nat) : Int) = (x : Int) := fun e => hstop hjn (by omega)
        go_hidden (go_wp2)
        go_ret
        exact ⟨fun h => by omega, rfl, rfl⟩
    · obtain rfl : j = n := by omega
      obtain ⟨a, c', rfl⟩ := h2 rfl
      go_hidden (go_wp2)
      go_ret
      exact ⟨fun _ => rfl, fun h => by omega, rfl⟩
/-- how many bytes at the beginning are x -/
noncomputable def leadN (x n : Nat) : Nat → Nat := Nat.rec (fun _ => 0) (fun _ ih d => ifb (Nat.beq (Nat.mod d 256) x) (Nat.succ (ih (Nat.div d 256))) 0) n
theorem leadN_spec (x : Nat) : ∀ (n d : Nat), leadN x n d ≤ n ∧ (∀ j, j < leadN x n d → byteAt d j = x) ∧ (leadN x n d < n → byteAt d (leadN x n d) ≠ x)
  | 0, d => ⟨Nat.le_refl _, fun j hj => absurd hj (Nat.not_lt_zero _), fun h => absurd h (Nat.not_lt_zero _)⟩
  | n + 1, d => by
    obtain ⟨i1, i2, i3⟩ := leadN_spec x n (d / 256)
    have hdef : leadN x (n + 1) d = ifb (Nat.beq (d % 256) x) (leadN x n (d / 256) + 1) 0 := rfl
    have hs : ∀ j, byteAt d (j + 1) = byteAt (d / 256) j := fun j => by
      rw [byteAt_eq, byteAt_eq, Nat.pow_succ', Nat.div_div_eq_div_mul]
    have h0 : byteAt d 0 = d % 256 := by rw [byteAt_eq]; simp
    cases e : Nat.beq (d % 256) x with
    | true =>
      have e' := Nat.eq_of_beq_eq_true e
      have h : leadN x (n + 1) d = leadN x n (d / 256) + 1 := by rw [hdef, e]; rfl
      rw [h]
      refine ⟨by omega, fun j hj => ?_, fun hlt => ?_⟩
      · cases j with
        | zero => rw [h0]; exact e'
        | succ j => rw [hs]; exact i2 j (by omega)
      · rw [hs]; exact i3 (by omega)
    | false =>
      have h : leadN x (n + 1) d = 0 := by rw [hdef, e]; rfl
      rw [h]
      refine ⟨Nat.zero_le _, fun j hj => absurd hj (Nat.not_lt_zero _), fun _ => ?_⟩
      rw [h0]
      intro e2
      rw [e2, Nat.beq_refl] at e
      cases e
/-- nought, and nothing but noughts -/
noncomputable def leadF (x n d : Nat) : Nat := ifb (Nat.beq x 0) (ifb (Nat.beq d 0) n (leadN x n d)) (leadN x n d)
theorem leadN_zero : ∀ n, leadN 0 n 0 = n
  | 0 => rfl
  | n + 1 => by
    have hdef : leadN 0 (n + 1) 0 = leadN 0 n (0 / 256) + 1 := rfl
    rw [hdef, Nat.zero_div, leadN_zero n]
theorem leadF_eq (x n d : Nat) : leadF x n d = leadN x n d := by
  unfold leadF
  cases e : Nat.beq x 0 with
  | false => rfl
  | true =>
    have := Nat.eq_of_beq_eq_true e
    subst this
    cases e2 : Nat.beq d 0 with
    | false => rfl
    | true =>
      have := Nat.eq_of_beq_eq_true e2
      subst this
      exact (leadN_zero n).symm
noncomputable def trimI : Known := fun args h =>
  match args with
  | [.slice b off len sz, .int .u8 (.ofNat x)] => h.onRow b (fun _ _ r => Row.rec (fun _ _ => .fail) (fun m d => ifb (Nat.ble (Nat.add off len) m) (ifb (Nat.beq sz 1) (ifb (Nat.ble len 1048576)
      (ifb (Nat.beq (leadF x len (Eng.cut d off len)) len) (.ok (.nilSlice, h)) (.ok (.slice b (Nat.add off (leadF x len (Eng.cut d off len))) (Nat.sub len (leadF x len (Eng.cut d off len))) sz, h))) .fail) .fail) .fail) (fun _ _ => .fail) (fun _ _ => .fail) r) .fail
  | _ => .fail
theorem enters255 : Enters Tryz.prog 255 := enters_of Tryz.func255 (by kernel_rfl) (by kernel_rfl)
theorem trimI_ok {K : Ctx} : KnownOK Tryz.prog K 2 255 trimI := by
  intro σ own w h args cargs hg hH ha hf
  obtain ⟨cl⟩ := cargs
  simp only at ha
  unfold trimI at hf ⊢
  split at hf
  · rename_i b off len sz x
    obtain ⟨v0, _, rfl, ⟨l, hl, rfl⟩, v1, _, rfl, h1, h2⟩ := ha
    have h2 : _ = [] := h2
    subst h2
    have h1 : v1 = .int .u8 (.ofNat x) := h1
    subst h1
    cases hb : h.get b with
    | none => exact absurd (by show onSome (h.get b) _ _ = _; rw [hb]; rfl) hf
    | some o =>
      cases o with
      | cells g ro r =>
        have hdef : ∀ (f : Option Pos → Bool → Row → Out (AV × AHeap)), h.onRow b f .fail = f g ro r := fun f => by show onSome (h.get b) _ _ = _; rw [hb]; rfl
        rw [hdef] at hf
        show ComesTo _ _ _ _ (Back K σ h (h.onRow b _ .fail))
        rw [hdef]
        have R := hH.row hl hb
        cases r with
        | byt m d =>
          obtain ⟨k1, hf1⟩ := ifb_nf (show ifb (Nat.ble (Nat.add off len) m) (ifb (Nat.beq sz 1) (ifb (Nat.ble len 1048576)
            (ifb (Nat.beq (leadF x len (Eng.cut d off len)) len) (Out.ok (AV.nilSlice, h)) (.ok (.slice b (Nat.add off (leadF x len (Eng.cut d off len))) (Nat.sub len (leadF x len (Eng.cut d off len))) sz, h))) .fail) .fail) .fail ≠ .fail from hf)
          obtain ⟨k2, hf2⟩ := ifb_nf hf1
          obtain ⟨k3, _⟩ := ifb_nf hf2
          obtain rfl := Nat.eq_of_beq_eq_true k2
          have k4 : off + len ≤ m := Nat.le_of_ble_eq_true k1
          have k5 : len ≤ 1048576 := Nat.le_of_ble_eq_true k3
          show ComesTo _ _ _ _ (Back K σ h (ifb (Nat.ble (Nat.add off len) m) (ifb (Nat.beq 1 1) (ifb (Nat.ble len 1048576)
            (ifb (Nat.beq (leadF x len (Eng.cut d off len)) len) (Out.ok (AV.nilSlice, h)) (.ok (.slice b (Nat.add off (leadF x len (Eng.cut d off len))) (Nat.sub len (leadF x len (Eng.cut d off len))) 1, h))) .fail) .fail) .fail))
          rw [k1, k2, k3]
          show ComesTo _ _ _ _ (Back K σ h (ifb (Nat.beq (leadF x len (Eng.cut d off len)) len) (Out.ok (AV.nilSlice, h)) (.ok (.slice b (Nat.add off (leadF x len (Eng.cut d off len))) (Nat.sub len (leadF x len (Eng.cut d off len))) 1, h))))
          rw [leadF_eq]
          obtain ⟨s1, s2, s3⟩ := leadN_spec x len (Eng.cut d off len)
          generalize leadN x len (Eng.cut d off len) = k at s1 s2 s3
          have hcap : m ≤ l.C := R.cap
          have hcell : ∀ j, j < len → w.cell? ⟨l.B, l.o + off + j, none⟩ = some (.int .u8 (byteAt d (off + j) : Nat)) := fun j hj => by
            obtain ⟨v, v1, v2⟩ := R.val (off + j) (.int .u8 (.ofNat (byteAt d (off + j)))) (by rw [Row.get_byt, if_pos (by omega)])
            have v2 : v = .int .u8 (.ofNat (byteAt d (off + j))) := v2
            rw [Nat.add_assoc, v1, v2]
            rfl
          have hbyte : ∀ j, j < len → byteAt (Eng.cut d off len) j = byteAt d (off + j) := fun j hj => byteAt_cut d off len j hj
          have hwalk := trim_walk (w := w) (B := l.B) (o := l.o + off) (n := len) (c := (l.C - off) / 1) (x := x) (k := k) (bs := fun j => byteAt d (off + j)) (by omega) k5 hcell s1 (fun j hj => by rw [← hbyte j (by omega)]; exact s2 j hj) (fun hlt => by
            show byteAt d (off + k) ≠ x
            rw [← hbyte k hlt]; exact s3 hlt)
          refine .inl ⟨enters255, hwalk.mono ?_⟩
          rintro e w' ⟨e1, e2, rfl⟩
          cases e3 : Nat.beq k len with
          | true =>
            rw [e1 (Nat.eq_of_beq_eq_true e3)]
            exact ⟨_, rfl, σ, own, rfl, Grow.refl _ _, hH⟩
          | false =>
            have hlt : k < len := by
              rcases Nat.lt_or_ge k len with h | h
              · exact h
              · exfalso
                have : k = len := by omega
                rw [this, Nat.beq_refl] at e3; cases e3
            rw [e2 hlt]
            refine ⟨_, rfl, σ, own, ⟨l, hl, ?_⟩, Grow.refl _ _, hH⟩
            show Value.slice _ _ _ = Value.slice _ _ _
            rw [show l.o + off + k = l.o + Nat.add off k from Nat.add_assoc _ _ _, show (l.C - off) / 1 - k = (l.C - Nat.add off k) / 1 by rw [Nat.div_one, Nat.div_one]; exact (Nat.sub_sub _ _ _)]
            rfl
        | lst _ _ => exact absurd rfl hf
        | wid _ _ => exact absurd rfl hf
        | dw _ _ => exact absurd rfl hf
      | _ => exact absurd (by show onSome (h.get b) _ _ = _; rw [hb]; rfl) hf
  · exact absurd rfl hf
end Go.Eng
