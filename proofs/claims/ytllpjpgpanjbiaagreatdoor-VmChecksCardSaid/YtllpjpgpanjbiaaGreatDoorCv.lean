/- What the row's list gives of the primitives, the anchor run by the kernel, and the law VmChecks whole. Each says its own conditions. -/
import Derived.Test.YtllpjpgpanjbiaaGreatDoorPost
import Derived.Test.YtllpjpgpanjbiaaGreatDoorCk3
import Derived.Test.YtllpjpgpanjbiaaGreatDoorCu
set_option linter.unusedVariables false
set_option maxRecDepth 1000000
namespace Go.Eng
open Go.RowKit Go.Proofs Go.Proofs.YtllpjpgpanjbiaaGreatDoor
noncomputable def ctxS (w : World) (s : ByteArray) (cs : List MapEntry) (clock : Nat) : Ctx := ⟨w.heap.size, w, fun _ => .string s, fun _ => rfl, (fun _ _ h => by cases h), codesOf Tryz.prog, fun _ => (cs, clock)⟩
theorem h2S_ok {w : World} {s : ByteArray} {b clock : Nat} {ces : Array MapEntry} {c1 c2 c3 : MapEntry} {l1 l2 l3 : Loc} (h0 : w.cell? ⟨0, 0, none⟩ = some (.map (some b))) (hb : w.heap[b]? = some (.map ces clock)) (hp : [c1, c2, c3].Perm ces.toList)
    (hlt : ∀ x ∈ ces.toList, x.born < clock) (hnd : (ces.toList.map (·.born)).Nodup) (a1 : SlotOK w 1 tx5 c1 l1) (a2 : SlotOK w 2 tx6 c2 l2) (a3 : SlotOK w 3 tx7 c3 l3) :
    HR (ctxS w s [c1, c2, c3] clock) (envOf (loc2 b l1 l2 l3)) (fun _ => none) h2 w := by
  have e4 : envOf (loc2 b l1 l2 l3) (posOf 4) = some ⟨b, 0, 0⟩ := by rw [envOf_posOf]; rfl
  have e5 : envOf (loc2 b l1 l2 l3) (posOf 5) = some l1 := by rw [envOf_posOf]; rfl
  have e6 : envOf (loc2 b l1 l2 l3) (posOf 6) = some l2 := by rw [envOf_posOf]; rfl
  have e7 : envOf (loc2 b l1 l2 l3) (posOf 7) = some l3 := by rw [envOf_posOf]; rfl
  have slot : ∀ {key : Int} {texts : List (List UInt8)} {c : MapEntry} {l : Loc} {p : Pos} {q : Nat}, SlotOK w key texts c l → envOf (loc2 b l1 l2 l3) p = some l → texts.length = q →
      VR (ctxS w s [c1, c2, c3] clock) (envOf (loc2 b l1 l2 l3)) (.int .i64 key) c.key ∧ VR (ctxS w s [c1, c2, c3] clock) (envOf (loc2 b l1 l2 l3)) (.slice p 0 q 1) c.val := fun h he hq => by
    subst hq
    exact ⟨h.key, _, he, by rw [h.val]; simp⟩
  refine HR.of_objs rfl rfl (fun i hi => ?_) fun p hp' => ?_
  · have h1 : ¬ i < 4 := by omega
    have h2 : ¬ i = 4 := by omega
    have h3 : ¬ i = 5 := by omega
    have h4 : ¬ i = 6 := by omega
    have h5 : ¬ i = 7 := by omega
    simp [loc2, h1, h2, h3, h4, h5]
  · simp only [List.mem_cons, List.mem_nil_iff, or_false] at hp'
    rcases hp' with rfl | rfl | rfl | rfl | rfl
    · refine ⟨fun q ro r e => (by cases e), fun l hl => ?_⟩
      have hl : some (⟨0, 0, 1⟩ : Loc) = some l := hl
      cases hl
      refine ObjR.ro ⟨rfl, Nat.le_refl _, fun i hi => ⟨_, by obtain rfl : i = 0 := Nat.lt_one_iff.1 hi
                                                             exact h0⟩, fun i x hx => ?_⟩ (cell_lt h0) (fun e => by cases e)
      have : i < 1 := Row.get_lt (r := .lst 1 [.map (posOf 4)]) rfl hx
      obtain rfl : i = 0 := by omega
      cases hx
      exact ⟨_, h0, _, e4, rfl⟩
    · refine ⟨fun q ro r e => (by cases e), fun l hl => ?_⟩
      have hl : some (⟨b, 0, 0⟩ : Loc) = some l := hl
      cases hl
      refine ⟨(Array.getElem?_eq_some_iff.1 hb).1, rfl, ces, hb, hp, hlt, hnd, ?_⟩
      obtain ⟨q1, q2⟩ := slot a1 e5 rfl
      obtain ⟨q3, q4⟩ := slot a2 e6 rfl
      obtain ⟨q5, q6⟩ := slot a3 e7 rfl
      exact ⟨_, _, rfl, rfl, q1, q2, _, _, rfl, rfl, q3, q4, _, _, rfl, rfl, q5, q6, rfl⟩
    · refine ⟨fun q ro r e => (by cases e), fun l hl => ?_⟩
      have hl : some l1 = some l := hl
      cases hl
      show ObjR _ _ _ _ _ _ (some (.cells none true r5))
      rw [r5_eq]
      exact ObjR.ro (slot_row a1) (slot_loc a1 (by decide)) (fun e => by cases e)
    · refine ⟨fun q ro r e => (by cases e), fun l hl => ?_⟩
      have hl : some l2 = some l := hl
      cases hl
      show ObjR _ _ _ _ _ _ (some (.cells none true r6))
      rw [r6_eq]
      exact ObjR.ro (slot_row a2) (slot_loc a2 (by decide)) (fun e => by cases e)
    · refine ⟨fun q ro r e => (by cases e), fun l hl => ?_⟩
      have hl : some l3 = some l := hl
      cases hl
      show ObjR _ _ _ _ _ _ (some (.cells none true r7))
      rw [r7_eq]
      exact ObjR.ro (slot_row a3) (slot_loc a3 (by decide)) (fun e => by cases e)
def nm2 : List (Nat × Nat) := [(5, 500068610672), (4, 1936684137), (4, 1702521203), (3, 7630702), (3, 6710642), (3, 7234924), (6, 127996156276579), (5, 500136108641), (1, 126), (1, 33), (4, 1701667187), (5, 521325933153), (3, 7628135), (1, 43), (1, 45), (1, 42), (3, 7760228), (3, 6582125), (1, 60), (2, 15676), (1, 62), (2, 15678), (1, 61), (2, 15932), (1, 94), (2, 15674), (3, 7632240)]
noncomputable def memQ (n d : Nat) : List (Nat × Nat) → Bool := fun l => List.rec false (fun p _ r => ifb (Nat.beq p.1 n) (ifb (Nat.beq p.2 d) true r) r) l
theorem memQ_mem {n d : Nat} : ∀ {l : List (Nat × Nat)}, memQ n d l = true → (n, d) ∈ l
  | [], h => by cases h
  | (a, b) :: l, h => by
    have h : ifb (Nat.beq a n) (ifb (Nat.beq b d) true (memQ n d l)) (memQ n d l) = true := h
    cases e : Nat.beq a n with
    | true =>
      rw [e] at h
      cases e2 : Nat.beq b d with
      | true => obtain rfl := Nat.eq_of_beq_eq_true e; obtain rfl := Nat.eq_of_beq_eq_true e2; exact List.mem_cons_self
      | false => rw [e2] at h; exact List.mem_cons_of_mem _ (memQ_mem h)
    | false => rw [e] at h; exact List.mem_cons_of_mem _ (memQ_mem h)
noncomputable def OT : Op → List AV → Option AV := fun op vs =>
  match op with
  | .binOp .eql 9 x y t' => (match vs with
    | [.str n d, .opq 0] => ifb (memQ n d nm2) (some (.bool false)) none
    | _ => none)
  | _ => none
noncomputable def poT : PO := ⟨[], OT, fun _ => false⟩
noncomputable def FT : Nat → Option AFun := funs 4 cstA T2 poT nd2 [(46, Tryz.f46)]
theorem flT_ok : ∀ p ∈ [(46, Tryz.f46)], Tryz.prog.funcs[p.1]? = some p.2 := by
  intro p hp
  obtain rfl := List.mem_singleton.1 hp
  exact Tryz.func46
noncomputable def cT : Caller := detC (callG (fun _ => none) (fun _ => none) FT nd2 1000 100 noY)
theorem names_all : (nm2.all fun p => decide (unp p.1 p.2 ∈ tx5 ++ (tx6 ++ tx7))) = true := by kernel_rfl
theorem eql_str (a s : ByteArray) (w : World) : (binOp .eql 9 (.string a) (.string s)).run Tryz.prog w = .ok (.bool (a.toList == s.toList)) w := by
  simp [binOp, Op.stringOp]
theorem orcT {K : Ctx} {s : ByteArray} (hK : K.opq 0 = .string s) (hs : s.data.toList ∉ tx5 ++ (tx6 ++ tx7)) : OrcOK Tryz.prog K OT := by
  intro op vs z h σ ρ w dst ty pos af gd hv
  unfold OT at h
  split at h
  · rename_i x y t'
    split at h
    · rename_i n d
      obtain ⟨e1, h⟩ := ifb_some h
      cases h
      obtain ⟨u, us, e, hu, v, vs', e2, hv', e3⟩ := hv
      have hx : ρ x = .string (bytesOf n d) ∧ ρ y = .string s := by
        simp only [orcArgs, List.map_cons, List.map_nil, List.cons.injEq] at e
        obtain ⟨rfl, e⟩ := e
        subst e2
        simp only [List.cons.injEq] at e
        obtain ⟨rfl, _⟩ := e
        exact ⟨hu.1, (show _ = _ from hv').trans hK⟩
      have hne : ((bytesOf n d).toList == s.toList) = false := by
        have hm := List.all_eq_true.1 names_all _ (memQ_mem e1)
        have hm : unp n d ∈ tx5 ++ (tx6 ++ tx7) := of_decide_eq_true hm
        rw [Lib.toList_data s]
        refine Go.Ck.str_ne fun hc => ?_
        apply hs
        rw [← hc]
        simpa [bytesOf] using hm
      refine ⟨.bool false, ?_, rfl⟩
      unfold execOp
      simp [hx.1, hx.2, eql_str, hne, eqGuard]
    · cases h
  · cases h
theorem pokT {K : Ctx} {s : ByteArray} (hK : K.opq 0 = .string s) (hs : s.data.toList ∉ tx5 ++ (tx6 ++ tx7)) : POK Tryz.prog K poT := ⟨fun t ht => (by cases ht), orcT hK hs, fun f h => (by cases h)⟩
noncomputable def outV (r : Out (AV × AHeap)) : Option AV := match r with | .ok (v, _) => some v | _ => none
theorem outV_eq {r : Out (AV × AHeap)} {v : AV} (h : outV r = some v) : ∃ h', r = .ok (v, h') := by
  unfold outV at h
  split at h
  · cases h; exact ⟨_, rfl⟩
  · cases h
theorem runT : outV (cT 46 [.opq 0] h2) = some (.tup [.int .i64 0, .bool false]) := by kernel_rfl
end Go.Eng
set_option linter.unusedSimpArgs false
namespace Go.Eng
open Go.RowKit Go.Proofs Go.Proofs.YtllpjpgpanjbiaaGreatDoor
def PrimsAt (W : World) : Prop := ∃ (b : Nat) (ces : Array MapEntry) (clock : Nat) (c1 c2 c3 : MapEntry) (l1 l2 l3 : Loc), W.cell? ⟨0, 0, none⟩ = some (.map (some b)) ∧ W.heap[b]? = some (.map ces clock) ∧
    [c1, c2, c3].Perm ces.toList ∧ (∀ x ∈ ces.toList, x.born < clock) ∧ (ces.toList.map (·.born)).Nodup ∧ SlotOK W 1 tx5 c1 l1 ∧ SlotOK W 2 tx6 c2 l2 ∧ SlotOK W 3 tx7 c3 l3
theorem SlotOK.below {W W' : World} {key : Int} {texts : List (List UInt8)} {c : MapEntry} {l : Loc} (h : SlotOK W key texts c l) (hb : Below W.heap.size W W') : SlotOK W' key texts c l :=
  ⟨h.key, h.val, h.room, fun i hi => by
    obtain ⟨v, hv⟩ := h.cell i hi
    exact ⟨v, by rw [hb.cell (by exact cell_lt hv)]; exact hv⟩, fun i t ht => by
    obtain ⟨s, h1, h2⟩ := h.text i t ht
    exact ⟨s, by rw [hb.cell (by exact cell_lt h1)]; exact h1, h2⟩⟩
theorem PrimsAt.below {W W' : World} (h : PrimsAt W) (hb : Below W.heap.size W W') : PrimsAt W' := by
  obtain ⟨b, ces, clock, c1, c2, c3, l1, l2, l3, h0, hb0, hp, hlt, hnd, a1, a2, a3⟩ := h
  exact ⟨b, ces, clock, c1, c2, c3, l1, l2, l3, by rw [hb.cell (by exact cell_lt h0)]; exact h0, (hb.block b (Array.getElem?_eq_some_iff.1 hb0).1).trans hb0, hp, hlt, hnd, a1.below hb, a2.below hb, a3.below hb⟩
theorem run_val {K : Ctx} {ng : Nat} {call : Caller} (hc : CallOK Tryz.prog K ng call) {f : Nat} (hE : Enters Tryz.prog f) (hy : f ≠ yN) {σ : Env} {own : Owns} {w : World} {h : AHeap} {args : List AV} {cargs : Array Value} {v : AV} (hb : K.base = w.heap.size) (hw : K.w0 = w) (hg : Globs ng σ) (hH : HR K σ own h w)
    (ha : VRs K σ args cargs.toList) (hr : outV (call f args h) = some v) : Calls Tryz.prog f cargs w fun e w' => (∃ vc σ', e = .returned vc ∧ VR K σ' v vc) ∧ Below w.heap.size w w' := by
  obtain ⟨h', hr'⟩ := outV_eq hr
  have := calls_of hE (hc.fn σ own w h f args cargs hy hg hH ha (by rw [hr']; intro e; cases e))
  rw [hr'] at this
  refine this.mono fun e w' ⟨vc, he, σ', own', h1, h2, h3⟩ => ⟨⟨vc, σ', he, h1⟩, ?_⟩
  have := h3.below
  rw [hb, hw] at this
  exact this
theorem vr_pair {K : Ctx} {σ : Env} {n : Int} {b : Bool} {vc : Value} (h : VR K σ (.tup [.int .i64 n, .bool b]) vc) : vc = .tuple #[.int .i64 n, .bool b] := by
  obtain ⟨x, rfl, h⟩ := h
  obtain ⟨y, ys, e, h1, z, zs, e2, h2, h3⟩ := h
  have h3 : zs = [] := h3
  subst h3 e2
  have h1 : y = _ := h1
  have h2 : z = _ := h2
  subst h1 h2
  congr 1
  exact Array.toList_inj.1 e
theorem enters46 : Enters Tryz.prog 46 := enters_of Tryz.func46 (by kernel_rfl) (by kernel_rfl)
theorem callT {w : World} {s : ByteArray} {cs : List MapEntry} {clock : Nat} (hs : s.data.toList ∉ tx5 ++ (tx6 ++ tx7)) : CallOK Tryz.prog (ctxS w s cs clock) 4 cT :=
  callG1_ok (fun f g h => by cases h) (fun f g h => by cases h) (funs_ok cst_ok T2_ok (pokT rfl hs) mix2 rfl flT_ok) 1000 100
def isTk (n : Nat) (o : Option AV) : Bool := match o with | some (.tup [.int .i64 (.ofNat k), .bool true]) => Nat.beq n k | _ => false
theorem isTk_eq {n : Nat} {o : Option AV} (h : isTk n o = true) : o = some (.tup [.int .i64 n, .bool true]) := by
  unfold isTk at h
  split at h
  · rw [Nat.eq_of_beq_eq_true h]; rfl
  · cases h
theorem runN5 : (tx5.all fun t => isTk 1 (outV (c2 46 [strOf t] h2))) = true := by kernel_rfl
theorem runN6 : (tx6.all fun t => isTk 2 (outV (c2 46 [strOf t] h2))) = true := by kernel_rfl
theorem runN7 : (tx7.all fun t => isTk 3 (outV (c2 46 [strOf t] h2))) = true := by kernel_rfl
theorem takes_at {W : World} (h : PrimsAt W) (s : ByteArray) : Calls Tryz.prog 46 #[.string s] W fun e w' => e = .returned (.tuple #[.int .i64 (Go.Ck.takesN s), .bool (Go.Ck.isPrim s)]) ∧ Below W.heap.size W w' := by
  obtain ⟨b, ces, clock, c1, c2', c3, l1, l2, l3, h0, hb, hp, hlt, hnd, a1, a2, a3⟩ := h
  have named : ∀ (n : Nat), isTk n (outV (c2 46 [strOf s.data.toList] h2)) = true → Calls Tryz.prog 46 #[.string s] W fun e w' => e = .returned (.tuple #[.int .i64 n, .bool true]) ∧ Below W.heap.size W w' := fun n hr => by
    refine (run_val (K := ctx2 W 0 [c1, c2', c3] clock) call2 enters46 (by decide) rfl rfl (globs_of fun g hg => ⟨1, by simp [loc2, hg]⟩) (h2_ok h0 hb hp hlt hnd a1 a2 a3) (VRs.cons (x := strOf s.data.toList) (str_of rfl rfl rfl) VRs.nil) (isTk_eq hr)).mono ?_
    rintro e w' ⟨⟨vc, σ', rfl, h1⟩, h2⟩
    exact ⟨by rw [vr_pair h1], h2⟩
  by_cases m5 : s.data.toList ∈ tx5
  · have := named 1 (List.all_eq_true.1 runN5 _ m5)
    have m5' : s.data.toList ∈ Go.Ck.t1 := m5
    rw [show Go.Ck.takesN s = (1 : Nat) by unfold Go.Ck.takesN; rw [if_pos m5']; rfl, show Go.Ck.isPrim s = true by unfold Go.Ck.isPrim; simp [m5']]
    exact this
  have m5' : s.data.toList ∉ Go.Ck.t1 := m5
  by_cases m6 : s.data.toList ∈ tx6
  · have := named 2 (List.all_eq_true.1 runN6 _ m6)
    have m6' : s.data.toList ∈ Go.Ck.t2 := m6
    rw [show Go.Ck.takesN s = (2 : Nat) by unfold Go.Ck.takesN; rw [if_neg m5', if_pos m6']; rfl, show Go.Ck.isPrim s = true by unfold Go.Ck.isPrim; simp [m6']]
    exact this
  have m6' : s.data.toList ∉ Go.Ck.t2 := m6
  by_cases m7 : s.data.toList ∈ tx7
  · have := named 3 (List.all_eq_true.1 runN7 _ m7)
    have m7' : s.data.toList ∈ Go.Ck.t3 := m7
    rw [show Go.Ck.takesN s = (3 : Nat) by unfold Go.Ck.takesN; rw [if_neg m5', if_neg m6', if_pos m7']; rfl, show Go.Ck.isPrim s = true by unfold Go.Ck.isPrim; simp [m7']]
    exact this
  have m7' : s.data.toList ∉ Go.Ck.t3 := m7
  have hs : s.data.toList ∉ tx5 ++ (tx6 ++ tx7) := fun hm => by
    rcases List.mem_append.1 hm with h | h
    · exact m5 h
    · rcases List.mem_append.1 h with h | h
      · exact m6 h
      · exact m7 h
  rw [show Go.Ck.takesN s = 0 by unfold Go.Ck.takesN; rw [if_neg m5', if_neg m6', if_neg m7'], show Go.Ck.isPrim s = false by unfold Go.Ck.isPrim; simp [m5', m6', m7']]
  refine (run_val (K := ctxS W s [c1, c2', c3] clock) (callT hs) enters46 (by decide) rfl rfl (globs_of fun g hg => ⟨1, by simp [loc2, hg]⟩) (h2S_ok h0 hb hp hlt hnd a1 a2 a3) (VRs.cons (x := .opq 0) rfl VRs.nil) runT).mono ?_
  rintro e w' ⟨⟨vc, σ', rfl, h1⟩, h2⟩
  exact ⟨by rw [vr_pair h1], h2⟩
theorem takesV {W : World} (h : PrimsAt W) : Go.Ck.TakesV W.heap.size W := fun W' s hb => takes_at (h.below hb) s
end Go.Eng
namespace Go.Eng
open Go.RowKit Go.Proofs Go.Proofs.YtllpjpgpanjbiaaGreatDoor
theorem run5 : isTrueO (c2 5 [] h2) = true := by kernel_rfl
theorem enters5 : Enters Tryz.prog 5 := enters_of Tryz.func5 (by kernel_rfl) (by kernel_rfl)
theorem works_at {W : World} (h : PrimsAt W) : Calls Tryz.prog 5 #[] W fun e w' => e = .returned (.bool true) ∧ Below W.heap.size W w' := by
  obtain ⟨b, ces, clock, c1, c2', c3, l1, l2, l3, h0, hb, hp, hlt, hnd, a1, a2, a3⟩ := h
  exact run_true (K := ctx2 W 0 [c1, c2', c3] clock) call2 enters5 (by decide) rfl rfl (globs_of fun g hg => ⟨1, by simp [loc2, hg]⟩) (h2_ok h0 hb hp hlt hnd a1 a2 a3) VRs.nil run5
end Go.Eng
set_option maxRecDepth 100000
set_option maxHeartbeats 1600000
namespace Go.Ck
open Go Go.RowKit Go.Proofs
def sumF (l : List (List Ins)) : Nat := l.foldl (fun s c => s + min c.length 65536 + 1) 0
theorem sumF_snoc (l : List (List Ins)) (c : List Ins) : sumF (l ++ [c]) = sumF l + min c.length 65536 + 1 := by unfold sumF; rw [List.foldl_append]; rfl
theorem sumF_le : ∀ (l : List (List Ins)) (s : Nat), s ≤ l.foldl (fun s c => s + min c.length 65536 + 1) s
  | [], s => Nat.le_refl _
  | c :: l, s => Nat.le_trans (by show s ≤ s + min c.length 65536 + 1; omega) (sumF_le l _)
theorem sumF_len : ∀ (l : List (List Ins)) (s : Nat), s + l.length ≤ l.foldl (fun s c => s + min c.length 65536 + 1) s
  | [], s => Nat.le_refl _
  | c :: l, s => by
    have := sumF_len l (s + min c.length 65536 + 1)
    simp only [List.length_cons, List.foldl_cons]; omega
theorem sumF_mem : ∀ {l : List (List Ins)} {s : Nat} {c : List Ins}, c ∈ l → s + min c.length 65536 + 1 ≤ l.foldl (fun s c => s + min c.length 65536 + 1) s
  | [], s, c, h => by cases h
  | d :: l, s, c, h => by
    rcases List.mem_cons.1 h with rfl | h
    · exact sumF_le l _
    · have := sumF_mem (s := s + min d.length 65536 + 1) h
      simp only [List.foldl_cons]; omega
theorem NewV.below {w w' : World} {vb : Nat} (h : NewV w vb) (hb : Below w.heap.size w w') : NewV w' vb := by
  obtain ⟨⟨fr, fb, h1, h2, h3, h4⟩, h5, h6, h7⟩ := h
  exact ⟨⟨fr, fb, by rw [hb.cell (by exact cell_lt' h1)]; exact h1, by rw [hb.cell (by exact cell_lt' h2)]; exact h2, by rw [hb.cell (by exact cell_lt' h3)]; exact h3, by rw [hb.cell (by exact cell_lt' h4)]; exact h4⟩, by rw [hb.cell (by exact cell_lt' h5)]; exact h5, by rw [hb.cell (by exact cell_lt' h6)]; exact h6, by rw [hb.cell (by exact cell_lt' h7)]; exact h7⟩
theorem law_ok {w : World} {funs : List (List Ins)} {rs : Rts} {fv rv : Value} (hf : FunsV w fv funs) (hr : RootsV w rv rs) (hP : Go.Eng.PrimsAt w) (hI : ∀ c ∈ funs, ∀ x ∈ c, rng x.a ∧ rng x.b) (lim : Int) :
    Calls Tryz.prog 3 #[.agg #[fv, rv], .int .i64 lim] w fun e w' => e = .returned (.bool true) ∧ Below w.heap.size w w' := by
  obtain ⟨fa, fc, rfl, hfc, _⟩ := id hf
  obtain ⟨ra, rc, rfl, hrc, _⟩ := id hr
  obtain ⟨W3, hW3⟩ : ∃ W3, W3 = w.alloc (.cells #[.slice fa funs.length fc, .slice ra rs.length rc] 25) := ⟨_, rfl⟩
  have hb3 : Below w.heap.size w W3 := by rw [hW3]; exact (Below.refl _ _).alloc (Nat.le_refl _) _
  have hs3 : W3.heap.size = w.heap.size + 1 := by rw [hW3]; simp
  have b0 : W3.cell? ⟨w.heap.size, 0, none⟩ = some (.slice fa funs.length fc) := by rw [hW3]; simp [go_sem]
  have b1 : W3.cell? ⟨w.heap.size, 1, none⟩ = some (.slice ra rs.length rc) := by rw [hW3]; simp [go_sem]
  have HB3 := Lib.hid hb3
  have HFV := Lib.hid hf
  have HRV := Lib.hid hr
  have HWK : Hid (∀ x, Below w.heap.size w x → Calls Tryz.prog 5 #[] x fun e w' => e = .returned (.bool true) ∧ Hid (Below w.heap.size w w')) := Lib.hid fun x hx =>
    (Go.Eng.works_at (hP.below hx)).mono fun e w' ⟨h1, h2⟩ => ⟨h1, Lib.hid (hx.trans (h2.mono hx.size))⟩
  have HT := Lib.hid (Go.Eng.takesV hP)
  have HII := Lib.hid hI
  have hwl : w.heap.size < W3.heap.size := by omega
  have HW3 := Lib.hid (HWK.out _ hb3)
  clear hf hr hb3 hP hI
  go_enter Tryz.func3, Tryz.ntmps3
  go_upto_region 1 with (fail)
  rw [← hW3]
  clear hW3
  go_wp2
  go_loopw [5, 6] (fun s j wr => ∃ k : Nat, k ≤ funs.length ∧ j = .int .i64 k ∧ sumF (funs.take k) ≤ 200 ∧ s = .int .i64 (sumF (funs.take k)) ∧ wr = W3) (fun _ j _ => funs.length - (intOf j).toNat)
  case atStart => exact ⟨0, Nat.zero_le _, rfl, by simp [sumF], by simp [sumF], rfl⟩
  case round =>
    obtain ⟨k, hk, rfl, hs, rfl, rfl⟩ := hrel
    by_cases hlt : k < funs.length
    · obtain ⟨code, hcode⟩ : ∃ code, funs[k]? = some code := ⟨funs[k], List.getElem?_eq_getElem hlt⟩
      obtain ⟨_, _, g1, o1, ca, cc, rfl, c0w, hcv⟩ := (HFV.out.below HB3.out).at hcode
      have y1 : (k : Int) < (funs.length : Int) := by omega
      have y0 : (0 : Int) ≤ (k : Int) := by omega
      have hsn : sumF (funs.take (k + 1)) = sumF (funs.take k) + min code.length 65536 + 1 := by rw [take_snoc hcode, sumF_snoc]
      have hk2 : k ≤ 200 := by
        have := sumF_len (funs.take k) 0
        unfold sumF at hs
        rw [List.length_take, Nat.min_eq_left (by omega)] at this
        omega
      have hk2' : (k : Int) ≤ 200 := by omega
      clear hcv hcode
      go_wp2_with (go_at_call 5; refine HW3.out.mono ?_; rintro e w5 ⟨rfl, HB5⟩)
      all_goals
        first
          | (go_ret; exact ⟨rfl, HB5.out⟩)
          | (go_roundw
             case rel => exact ⟨k + 1, by omega, by simp, by omega, congrArg (Value.int .i64) (by rw [hsn]; push_cast; omega), by first | rfl | trivial⟩
             case measure => simp [intOf]; omega)
    · obtain rfl : k = funs.length := by omega
      rw [List.take_length] at hs
      have hm : funs.length ≤ 200 := by have := sumF_len funs 0; unfold sumF at hs; omega
      have hn : ∀ c ∈ funs, c.length ≤ 250 := fun c hc => by have := sumF_mem (s := 0) hc; unfold sumF at hs; omega
      by_cases hrt : rs.length ≤ 50
      · have hrt' : ¬ (50 : Int) < (rs.length : Int) := by omega
        have H6 := Lib.hid (heapNew_ok wr)
        go_wp2_with fail
        refine H6.out.mono ?_
        rintro e w4 ⟨⟨hbk, rfl⟩, hb4⟩
        have HB4 : Hid (Below w.heap.size w w4) := Lib.hid (HB3.out.trans (hb4.mono HB3.out.size))
        have d0 : w4.cell? ⟨w.heap.size, 0, none⟩ = some (.slice fa funs.length fc) := by rw [hb4.cell (by exact cell_lt' b0)]; exact b0
        have d1 : w4.cell? ⟨w.heap.size, 1, none⟩ = some (.slice ra rs.length rc) := by rw [hb4.cell (by exact cell_lt' b1)]; exact b1
        have wl4 : w.heap.size < w4.heap.size := by have := hb4.size; omega
        have H7 := Lib.hid (new_ok (hbk := hbk) (HFV.out.below HB4.out) (HRV.out.below HB4.out) (by omega) hn (by omega) HII.out (HT.out.at HB4.out) HB4.out.size)
        clear hb4 H6 HW3
        go_wp2_with fail
        refine H7.out.mono ?_
        rintro e w5 ⟨HB5, (⟨vb, rfl, HV⟩ | ⟨rfl, HNO⟩)⟩
        · have HB5' : Hid (Below w.heap.size w w5) := Lib.hid (HB4.out.trans (HB5.out.mono HB4.out.size))
          have e0 : w5.cell? ⟨w.heap.size, 0, none⟩ = some (.slice fa funs.length fc) := by rw [HB5.out.cell (by exact cell_lt' d0)]; exact d0
          have e1 : w5.cell? ⟨w.heap.size, 1, none⟩ = some (.slice ra rs.length rc) := by rw [HB5.out.cell (by exact cell_lt' d1)]; exact d1
          have wl5 : w.heap.size < w5.heap.size := by have := HB5.out.size; omega
          have h8 := checkR_ok (HFV.out.below HB5'.out) (HRV.out.below HB5'.out) (by omega) hn (by omega) HII.out
          rw [checkI_t HV.out.1] at h8
          have H8 := Lib.hid h8
          clear h8 H7 d0 d1
          go_wp2_with fail
          refine H8.out.mono ?_
          rintro e w6 ⟨rfl, hb6⟩
          have HX6 : Hid (Below w.heap.size w w6 ∧ NewV w6 vb) := Lib.hid ⟨HB5'.out.trans (hb6.mono HB5'.out.size), HV.out.2.below hb6⟩
          have H9 : Hid (∀ x, Hid (Below w.heap.size w x ∧ NewV x vb) → Calls Tryz.prog 9 #[.pointer (some ⟨vb, 0, none⟩)] x fun e w' => e = .returned (.slice none 0 0) ∧ Hid (Below w.heap.size w w' ∧ NewV w' vb)) := Lib.hid fun x hx =>
            (roots_ok hx.out.2).mono fun e w' ⟨h1, h2⟩ => ⟨h1, Lib.hid ⟨hx.out.1.trans (h2.mono hx.out.1.size), hx.out.2.below h2⟩⟩
          have H10 : Hid (∀ x, Hid (Below w.heap.size w x ∧ NewV x vb) → Calls Tryz.prog 10 #[.pointer (some ⟨vb, 0, none⟩), .agg #[.int .u8 0, .int .i64 0], .bool true] x fun e w' => e = .returned (.int .i64 3) ∧ Hid (Below w.heap.size w w' ∧ NewV w' vb)) := Lib.hid fun x hx =>
            (kept_ok hx.out.2 0 0 true .i64).mono fun e w' ⟨h1, h2⟩ => ⟨h1, Lib.hid ⟨hx.out.1.trans (h2.mono hx.out.1.size), hx.out.2.below h2⟩⟩
          clear hb6 H8 HV
          go_wp2_with (first | (go_at_call 9; refine (H9.out _ HX6).mono ?_; rintro e w7 ⟨rfl, HX7⟩) | (go_at_call 10; refine (H10.out _ HX7).mono ?_; rintro e w8 ⟨rfl, HX8⟩) | (go_at_call 5; refine (HWK.out _ HX8.out.1).mono ?_; rintro e w9 ⟨rfl, HB9⟩))
          go_ret
          exact ⟨rfl, HB9.out⟩
        · have HB5' : Hid (Below w.heap.size w w5) := Lib.hid (HB4.out.trans (HB5.out.mono HB4.out.size))
          have e0 : w5.cell? ⟨w.heap.size, 0, none⟩ = some (.slice fa funs.length fc) := by rw [HB5.out.cell (by exact cell_lt' d0)]; exact d0
          have e1 : w5.cell? ⟨w.heap.size, 1, none⟩ = some (.slice ra rs.length rc) := by rw [HB5.out.cell (by exact cell_lt' d1)]; exact d1
          have wl5 : w.heap.size < w5.heap.size := by have := HB5.out.size; omega
          have h8 := checkR_ok (HFV.out.below HB5'.out) (HRV.out.below HB5'.out) (by omega) hn (by omega) HII.out
          rw [checkI_f HNO.out] at h8
          have H8 := Lib.hid h8
          clear h8 H7 d0 d1
          go_wp2_with fail
          refine H8.out.mono ?_
          rintro e w6 ⟨rfl, hb6⟩
          have H5 := Lib.hid (HWK.out _ (HB5'.out.trans (hb6.mono HB5'.out.size)))
          clear hb6 H8
          go_wp2_with (go_at_call 5; refine H5.out.mono ?_; rintro e w7 ⟨rfl, HB7⟩)
          go_ret
          exact ⟨rfl, HB7.out⟩
      · have hrt' : (50 : Int) < (rs.length : Int) := by omega
        go_wp2_with (go_at_call 5; refine HW3.out.mono ?_; rintro e w5 ⟨rfl, HB5⟩)
        go_ret
        exact ⟨rfl, HB5.out⟩
end Go.Ck
