/- A verified symbolic executor of the model's code, third part: regions whose order is drawn, functions, calls with contracts, worlds. No conditions of its own. -/
import Derived.Test.YtaegmbilkodhpaaGreatDoorEngB
import Derived.RangeFuncLeaves
import Derived.RecoverIn
import Derived.Lib.Join
import Derived.WideKeyElems3
import Derived.Deep.Slices
import Derived.Stop.LaidErr
set_option linter.unusedVariables false
set_option linter.unusedSimpArgs false
namespace Go.Eng
open Go.RowKit
section
variable {P : Program} {K : Ctx} {ng : Nat} {cst : Value → Option AV} {T : Nat → Option TI} {ptrs : PO}
theorem evL_ok {σ : Env} {tm : PT AV} {ρ : Operand → Value} : ∀ (l : List Opd) (m : List Operand), OpdsR K σ tm ρ l m → VRs K σ (evL l tm) (m.map ρ) := fun l m h => evL_VRs (s := ⟨tm, default⟩) l m h
theorem compCall_nd {op : Op} {r : Run} {dst : Option Tmp} {ty : TypeId} {pos : String} {af : Array Edge} {gd : Option (Nat × Bool)} (h : compCall ng cst (dP dst) op = some r) : NoDefer ⟨dst, op, ty, pos, af, gd⟩ := fun c e => by
  have e : op = .defer c := e
  subst e
  simp [compCall] at h
theorem compCall_ok {op : Op} {r : Run} {dst : Option Tmp} (h : compCall ng cst (dP dst) op = some r) (ty : TypeId) (pos : String) (af : Array Edge) (gd : Option (Nat × Bool)) :
    OpOK P K ng cst ⟨dst, op, ty, pos, af, gd⟩ r := by
  intro R σ own a w s call next Q hc hg ho hH hgo
  have hnd := compCall_nd (ty := ty) (pos := pos) (af := af) (gd := gd) h
  have mem : ∀ x ∈ op.operands, ∀ X, opd ng cst x = some X → VR K σ (X.ev s.tmps) (a.eval x) := ho
  cases op <;> simp only [compCall] at h <;> try (cases h; done)
  case call c =>
    obtain ⟨callee, args, ts⟩ := c
    have hargs : ∀ {A : List Opd}, compOpds ng cst args.toList = some A → VRs K σ (evL A s.tmps) (args.map a.eval).toList := fun {A} hA => by
      have := evL_ok _ _ (compOpds_ok (fun x hx => mem x (by simp only [Op.operands, Call.operands]; exact Array.mem_append.2 (.inr (by simpa using hx)))) hA)
      simpa using this
    cases callee with
    | builtin b => cases h
    | invoke r m => cases h
    | value f =>
      have hv : ∀ {X : Opd} {A : List Opd}, opd ng cst f = some X → compOpds ng cst args.toList = some A → r = rCallV X A (dP dst) →
          Oper.wpIn (FR R) 0 P ⟨dst, .call ⟨.value f, args, ts⟩, ty, pos, af, gd⟩ a w next Q := fun {X A} hX hA e => by
        subst e
        have hx := mem f (by simp [Op.operands, Call.operands]) X hX
        rw [rCallV_def] at hgo; dsimp only at hgo
        cases hv : X.ev s.tmps with
        | func fn ca cb =>
          rw [hv] at hgo hx
          cases fn with
          | func g =>
            obtain ⟨x, y, he, h1, h2⟩ := hx
            have hgo' : Goes K σ s dst a next Q (ifb (Nat.beq g yN) .fail (backTo (dP dst) s (call g (appL (appL ca (evL A s.tmps)) cb) s.heap))) := hgo
            cases hgy : Nat.beq g yN with
            | true => rw [hgy] at hgo'; exact hgo'.elim
            | false =>
              rw [hgy] at hgo'
              have hgo' : Goes K σ s dst a next Q (backTo (dP dst) s (call g (appL (appL ca (evL A s.tmps)) cb) s.heap)) := hgo'
              rw [appL_eq, appL_eq] at hgo'
              refine goes_back (o := ⟨dst, .call ⟨.value f, args, ts⟩, ty, pos, af, gd⟩) (cargs := x ++ args.map a.eval ++ y) hnd (nbeq hgy) hc hg hH ?_ ?_ hgo'
              · simp only [Array.toList_append]; exact (h1.append (hargs hA)).append h2
              · simp [execOp, resolve, he, Deferred.ofValue, invoke]
          | _ => exact hgo.elim
        | yld b =>
          rw [hv] at hgo hx
          obtain ⟨l, hl, he⟩ := hx
          refine goes_yield (o := ⟨dst, .call ⟨.value f, args, ts⟩, ty, pos, af, gd⟩) (b := b) (args := evL A s.tmps) (cargs := args.map a.eval) hnd hc hg hH hl (hargs hA) ?_ hgo
          simp [execOp, resolve, he, Deferred.ofValue, invoke]
        | _ => rw [hv] at hgo; exact hgo.elim
      cases f with
      | func g =>
        have h : (if Nat.beq g yN then none else (compOpds ng cst args.toList).bind fun A => some (rCall g A (dP dst))) = some r := h
        split at h
        · cases h
        · rename_i hgy
          obtain ⟨A, hA, h⟩ := bind_ok h
          cases h
          rw [rCall_def] at hgo; dsimp only at hgo
          refine goes_back (o := ⟨dst, .call ⟨.value (.func g), args, ts⟩, ty, pos, af, gd⟩) (cargs := args.map a.eval) hnd (by simpa using hgy) hc hg hH (hargs hA) ?_ hgo
          simp [execOp, resolve, Act.eval, Deferred.ofValue, invoke]
      | tmp t => obtain ⟨X, hX, h⟩ := bind_ok h; obtain ⟨A, hA, h⟩ := bind_ok h; cases h; exact hv hX hA rfl
      | const v => obtain ⟨X, hX, h⟩ := bind_ok h; obtain ⟨A, hA, h⟩ := bind_ok h; cases h; exact hv hX hA rfl
      | global v => obtain ⟨X, hX, h⟩ := bind_ok h; obtain ⟨A, hA, h⟩ := bind_ok h; cases h; exact hv hX hA rfl
  case panic x =>
    obtain ⟨X, hX, h⟩ := bind_ok h
    cases h
    have hx := mem x (by simp [Op.operands]) X hX
    unfold rPanic at hgo
    cases hv : X.ev s.tmps with
    | iface t v =>
      rw [hv] at hgo hx
      obtain ⟨c, he, h1⟩ := hx
      have hgo' : Goes K σ s dst a next Q (.panic (.iface t v) s.heap) := hgo
      refine wpIn_of_run hnd ?_
      have : (execOp a.eval ⟨dst, .panic x, ty, pos, af, gd⟩).run P w = .halt (.panic (.iface t c)) w := by
        simp [execOp, Instr.panic, he, goPanic]
      rw [this, Oper.uponIn_panic]
      exact hgo' _ w ⟨σ, own, ⟨c, rfl, h1⟩, Grow.refl _ _, hH⟩
    | _ => rw [hv] at hgo; exact hgo.elim
theorem compOp_ok {op : Op} {r : Run} {dst : Option Tmp} (hT : TOK P T) (hp : POK P K ptrs) (h : compOp ng cst T ptrs (dP dst) op = some r) (ty : TypeId) (pos : String) (af : Array Edge) (gd : Option (Nat × Bool)) :
    OpOK P K ng cst ⟨dst, op, ty, pos, af, gd⟩ r := by
  unfold compOp at h
  cases hc : compPure ng cst T ptrs (dP dst) op with
  | some r' => rw [hc] at h; cases h; exact compPure_ok hT hp hc ty pos af gd
  | none => rw [hc] at h; exact compCall_ok h ty pos af gd
theorem mem_mapB {d : Option Pos} {s : St} {l : List (Out (AV × AHeap))} {r : Out (AV × AHeap)} (h : r ∈ l) : backTo d s r ∈ mapB d s l := mem_bindG.2 ⟨r, h, List.mem_singleton.2 rfl⟩
theorem nback {o : Oper} {R : Option Nat} {call : CallerN} {σ : Env} {own : Owns} {a : Act} {w : World} {s : St} {next : Act → World → Prop} {Q : Exit → Act → World → Prop} {f : Nat} {args : List AV} {cargs : Array Value} (hnd : NoDefer o) (hf : f ≠ yN)
    (hc : CallNOK P K ng call) (hg : Globs ng σ) (hH : HR K σ own s.heap w) (ha : VRs K σ args cargs.toList) (he : (execOp a.eval o).run P w = (callFunc f cargs).run P w)
    (hgo : ∀ x ∈ mapB (dP o.dst) s (call f args s.heap), Goes K σ s o.dst a next Q x) : o.wpIn (FR R) 0 P a w next Q :=
  comes_wp hnd he (hc.fn σ own w s.heap f args cargs hf hg hH ha (fun r hr => goes_noF (hgo _ (mem_mapB hr)))) fun _ _ ⟨r, hr, hb⟩ => goes_end (R := R) (hgo _ (mem_mapB hr)) hb
theorem nyield {o : Oper} {R : Option Nat} {call : CallerN} {σ : Env} {own : Owns} {a : Act} {w : World} {s : St} {next : Act → World → Prop} {Q : Exit → Act → World → Prop} {b : Pos} {l : Loc} {args : List AV} {cargs : Array Value} (hnd : NoDefer o)
    (hc : CallNOK P K ng call) (hg : Globs ng σ) (hH : HR K σ own s.heap w) (hl : σ b = some l) (ha : VRs K σ args cargs.toList) (he : (execOp a.eval o).run P w = (Instr.yield l.B cargs).run P w)
    (hgo : ∀ x ∈ mapB (dP o.dst) s (call yN (.yld b :: args) s.heap), Goes K σ s o.dst a next Q x) : o.wpIn (FR R) 0 P a w next Q :=
  yields_wp hnd he (hc.yld σ own w s.heap b l args cargs hg hH hl ha (fun r hr => goes_noF (hgo _ (mem_mapB hr)))) fun _ _ ⟨r, hr, hb⟩ => goes_end (R := R) (hgo _ (mem_mapB hr)) hb
theorem nCallV_ok {f : Operand} {args : Array Operand} {ts : Array TypeId} {dst : Option Tmp} {X : Opd} {A : List Opd} (hX : opd ng cst f = some X) (hA : compOpds ng cst args.toList = some A) (ty : TypeId) (pos : String) (af : Array Edge) (gd : Option (Nat × Bool)) :
    OpNOK P K ng cst ⟨dst, .call ⟨.value f, args, ts⟩, ty, pos, af, gd⟩ (nCallV X A (dP dst)) := by
  intro R σ own a w s call next Q hc hg ho hH hgo
  have hnd : NoDefer ⟨dst, .call ⟨.value f, args, ts⟩, ty, pos, af, gd⟩ := fun c e => by cases e
  have mem : ∀ x ∈ (Op.call ⟨.value f, args, ts⟩).operands, ∀ X, opd ng cst x = some X → VR K σ (X.ev s.tmps) (a.eval x) := ho
  have hargs : VRs K σ (evL A s.tmps) (args.map a.eval).toList := by
    have := evL_ok _ _ (compOpds_ok (fun x hx => mem x (by simp only [Op.operands, Call.operands]; exact Array.mem_append.2 (.inr (by simpa using hx)))) hA)
    simpa using this
  have hx := mem f (by simp [Op.operands, Call.operands]) X hX
  have bad : ∀ {l : List (Out St)}, nCallV X A (dP dst) call s = l → l ≠ [.fail] := fun {l} e e' => by
    have := hgo .fail (by rw [e, e']; exact List.mem_singleton.2 rfl)
    exact this
  cases hv : X.ev s.tmps with
  | func fn ca cb =>
    rw [hv] at hx
    cases fn with
    | func g =>
      obtain ⟨x, y, he, h1, h2⟩ := hx
      have hdef : nCallV X A (dP dst) call s = ifb (Nat.beq g yN) [.fail] (mapB (dP dst) s (call g (appL (appL ca (evL A s.tmps)) cb) s.heap)) := by unfold nCallV; rw [hv]; simp only [evLK_eq]; rfl
      cases hgy : Nat.beq g yN with
      | true => rw [hgy] at hdef; exact absurd rfl (bad hdef)
      | false =>
        rw [hgy] at hdef
        have hdef : nCallV X A (dP dst) call s = mapB (dP dst) s (call g (appL (appL ca (evL A s.tmps)) cb) s.heap) := hdef
        rw [hdef, appL_eq, appL_eq] at hgo
        refine nback (cargs := x ++ args.map a.eval ++ y) hnd (nbeq hgy) hc hg hH ?_ ?_ hgo
        · simp only [Array.toList_append]; exact (h1.append hargs).append h2
        · simp [execOp, resolve, he, Deferred.ofValue, invoke]
    | _ => exact absurd (by unfold nCallV; rw [hv]; rfl) (bad rfl)
  | yld b =>
    rw [hv] at hx
    obtain ⟨l, hl, he⟩ := hx
    have hdef : nCallV X A (dP dst) call s = mapB (dP dst) s (call yN (.yld b :: evL A s.tmps) s.heap) := by unfold nCallV; rw [hv]; simp only [evLK_eq]; rfl
    rw [hdef] at hgo
    refine nyield (b := b) (args := evL A s.tmps) (cargs := args.map a.eval) hnd hc hg hH hl hargs ?_ hgo
    simp [execOp, resolve, he, Deferred.ofValue, invoke]
  | _ => exact absurd (by unfold nCallV; rw [hv]; rfl) (bad rfl)
theorem nCall_ok {g : Nat} {args : Array Operand} {ts : Array TypeId} {dst : Option Tmp} {A : List Opd} (hgy : g ≠ yN) (hA : compOpds ng cst args.toList = some A) (ty : TypeId) (pos : String) (af : Array Edge) (gd : Option (Nat × Bool)) :
    OpNOK P K ng cst ⟨dst, .call ⟨.value (.func g), args, ts⟩, ty, pos, af, gd⟩ (nCall g A (dP dst)) := by
  intro R σ own a w s call next Q hc hg ho hH hgo
  have hnd : NoDefer ⟨dst, .call ⟨.value (.func g), args, ts⟩, ty, pos, af, gd⟩ := fun c e => by cases e
  have mem : ∀ x ∈ (Op.call ⟨.value (.func g), args, ts⟩).operands, ∀ X, opd ng cst x = some X → VR K σ (X.ev s.tmps) (a.eval x) := ho
  have hargs : VRs K σ (evL A s.tmps) (args.map a.eval).toList := by
    have := evL_ok _ _ (compOpds_ok (fun x hx => mem x (by simp only [Op.operands, Call.operands]; exact Array.mem_append.2 (.inr (by simpa using hx)))) hA)
    simpa using this
  have hdef : nCall g A (dP dst) call s = mapB (dP dst) s (call g (evL A s.tmps) s.heap) := by unfold nCall; rw [evLK_eq]
  rw [hdef] at hgo
  refine nback (cargs := args.map a.eval) hnd hgy hc hg hH hargs ?_ hgo
  simp [execOp, resolve, Act.eval, Deferred.ofValue, invoke]
theorem compOpN_ok {op : Op} {r : NRun} {dst : Option Tmp} (hT : TOK P T) (hp : POK P K ptrs) (h : compOpN ng cst T ptrs (dP dst) op = some r) (ty : TypeId) (pos : String) (af : Array Edge) (gd : Option (Nat × Bool)) :
    OpNOK P K ng cst ⟨dst, op, ty, pos, af, gd⟩ r := by
  unfold compOpN at h
  cases hc : compPure ng cst T ptrs (dP dst) op with
  | some r' => rw [hc] at h; cases h; exact (compPure_ok hT hp hc ty pos af gd).up
  | none =>
    rw [hc] at h
    simp only at h
    cases op <;> (try (cases h; done))
    case call c =>
      obtain ⟨callee, args, ts⟩ := c
      cases callee with
      | builtin b => cases h
      | invoke r m => cases h
      | value f =>
        cases f with
        | func g =>
          simp only at h
          split at h
          · cases h
          · rename_i hgy
            obtain ⟨A, hA, h⟩ := bind_ok h
            cases h
            exact nCall_ok (by simpa using hgy) hA ty pos af gd
        | tmp t => obtain ⟨X, hX, h⟩ := bind_ok h; obtain ⟨A, hA, h⟩ := bind_ok h; cases h; exact nCallV_ok hX hA ty pos af gd
        | const v => obtain ⟨X, hX, h⟩ := bind_ok h; obtain ⟨A, hA, h⟩ := bind_ok h; cases h; exact nCallV_ok hX hA ty pos af gd
        | global v => obtain ⟨X, hX, h⟩ := bind_ok h; obtain ⟨A, hA, h⟩ := bind_ok h; cases h; exact nCallV_ok hX hA ty pos af gd
    case panic x =>
      obtain ⟨X, hX, h⟩ := bind_ok h
      cases h
      exact (compCall_ok (r := rPanic X) (by simp only [compCall]; rw [hX]; rfl) ty pos af gd).up
    case next x b =>
      cases b with
      | true => cases h
      | false => obtain ⟨X, hX, h⟩ := bind_ok h; cases h; exact (ok_next hX).or (ok_nextR hX)
theorem NStepOK.of_op {o : Oper} {r : NRun} {ops : Array Oper} {n : Nat} (hc : CstOK cst) (hg : o.guard = none) (h : OpNOK P K ng cst o r) : NStepOK P K ng n ops o r := by
  intro R σ own a w s call next Q hcall hgl hn hT hH hgo
  unfold Steps1
  rw [if_pos (by simp [Region.wanted, hg])]
  exact h R σ own a w s call next Q hcall hgl (hT.or hc hgl) hH hgo
theorem NStepOK.fail {n : Nat} {ops : Array Oper} {o : Oper} : NStepOK P K ng n ops o (fun _ _ => [.fail]) := fun R σ own a w s call next Q hcall hgl hn hT hH hgo => (hgo _ (List.mem_singleton.2 rfl) : Goes K σ s o.dst a next Q .fail).elim
theorem StepOK.fail {n : Nat} {ops : Array Oper} {o : Oper} : StepOK P K ng n ops o rFail := fun R σ own a w s call next Q hcall hgl hn hT hH hgo => hgo.elim
theorem get_ev {tm : PT AV} {p : Pos} {v : AV} (h : tm.get p = some v) : (Opd.t p).ev tm = v := by simp only [Opd.ev]; rw [h]
theorem StepOK.guard {n : Nat} {ops : Array Oper} {o : Oper} {r : Run} {j t : Nat} {want : Bool} (hc : CstOK cst) (hg : o.guard = some (j, want)) (hj : (ops[j]?).bind (·.dst) = some t) (hdn : DstOK n o) (ht : t < n)
    (h : OpOK P K ng cst o r) : StepOK P K ng n ops o (rGuard (posOf t) want (dP o.dst) r) := by
  intro R σ own a w s call next Q hcall hgl hn hT hH hgo
  have hTt := hT t (by
    unfold Oper.looksAt
    rw [hg]
    exact List.mem_append_right _ (by simp [hj]))
  have hlt : t < a.tmps.size := Nat.lt_of_lt_of_le ht hn
  have hy : yielded ops a.tmps j = match a.tmps.getD t undef with | .bool b => some b | _ => none := by
    unfold yielded
    rw [hj]
    simp [hlt]
    cases a.tmps[t] <;> rfl
  have skip : Goes K σ s o.dst a next Q (setD (dP o.dst) .undef s) → next (a.put o.dst undef) w := fun hgo => by
    cases hs : setD (dP o.dst) .undef s with
    | ok s' =>
      rw [hs] at hgo
      obtain ⟨s1, s2⟩ := setD_ok hs
      exact hgo .undef undef σ own w VR.undef (by rw [s2]; exact Grow.refl _ _) (by rw [s2]; exact hH) s1
    | panic _ _ => cases hd : dP o.dst <;> rw [hd] at hs <;> cases hs
    | fail => cases hd : dP o.dst <;> rw [hd] at hs <;> cases hs
  have go : Goes K σ s o.dst a next Q (r call s) → o.wpIn (FR R) 0 P a w next Q := fun hgo => h R σ own a w s call next Q hcall hgl (hT.or hc hgl) hH hgo
  have hwd : Region.wanted o (yielded ops a.tmps) = (yielded ops a.tmps j == some want) := by simp [Region.wanted, hg]
  have hdef : rGuard (posOf t) want (dP o.dst) r call s = onSome (s.tmps.get (posOf t)) (fun v => v.onBool (ifb want (r call s) (setD (dP o.dst) .undef s)) (ifb want (setD (dP o.dst) .undef s) (r call s)) (v.onTup (fun _ => setD (dP o.dst) .undef s) .fail)) (setD (dP o.dst) .undef s) := rfl
  rw [hdef] at hgo
  unfold Steps1
  cases hv : s.tmps.get (posOf t) with
  | none =>
    rw [hv] at hgo
    have he : (Opd.t (posOf t)).ev s.tmps = .undef := by simp only [Opd.ev]; rw [hv]
    rw [he] at hTt
    have hu : a.tmps.getD t undef = undef := hTt.fn VR.undef
    rw [hu] at hy
    rw [if_neg (by rw [hwd, hy]; cases want <;> decide)]
    exact ⟨fun _ _ => trivial, skip hgo⟩
  | some v =>
    rw [hv] at hgo
    rw [get_ev hv] at hTt
    cases v with
    | bool b =>
      have hb : a.tmps.getD t undef = .bool b := hTt
      rw [hb] at hy
      cases b <;> cases want
      · rw [if_pos (by rw [hwd, hy]; decide)]; exact go hgo
      · rw [if_neg (by rw [hwd, hy]; decide)]; exact ⟨fun _ _ => trivial, skip hgo⟩
      · rw [if_neg (by rw [hwd, hy]; decide)]; exact ⟨fun _ _ => trivial, skip hgo⟩
      · rw [if_pos (by rw [hwd, hy]; decide)]; exact go hgo
    | tup l =>
      obtain ⟨x, hx, _⟩ := hTt
      rw [hx] at hy
      have hy' : yielded ops a.tmps j = none := hy
      rw [if_neg (by rw [hwd, hy']; cases want <;> decide)]
      exact ⟨fun _ _ => trivial, skip hgo⟩
    | _ => exact hgo.elim
noncomputable def nGuard (t : Pos) (b : Bool) (d : Option Pos) (r : NRun) : NRun := fun call s =>
  onSome (s.tmps.get t) (fun v => v.onBool (ifb b (r call s) [setD d .undef s]) (ifb b [setD d .undef s] (r call s)) (v.onTup (fun _ => [setD d .undef s]) [.fail])) [setD d .undef s]
theorem NStepOK.guard {n : Nat} {ops : Array Oper} {o : Oper} {r : NRun} {j t : Nat} {want : Bool} (hc : CstOK cst) (hg : o.guard = some (j, want)) (hj : (ops[j]?).bind (·.dst) = some t) (hdn : DstOK n o) (ht : t < n)
    (h : OpNOK P K ng cst o r) : NStepOK P K ng n ops o (nGuard (posOf t) want (dP o.dst) r) := by
  intro R σ own a w s call next Q hcall hgl hn hT hH hgo
  have hTt := hT t (by
    unfold Oper.looksAt
    rw [hg]
    exact List.mem_append_right _ (by simp [hj]))
  have hlt : t < a.tmps.size := Nat.lt_of_lt_of_le ht hn
  have hy : yielded ops a.tmps j = match a.tmps.getD t undef with | .bool b => some b | _ => none := by
    unfold yielded
    rw [hj]
    simp [hlt]
    cases a.tmps[t] <;> rfl
  have skip : Goes K σ s o.dst a next Q (setD (dP o.dst) .undef s) → next (a.put o.dst undef) w := fun hgo => by
    cases hs : setD (dP o.dst) .undef s with
    | ok s' =>
      rw [hs] at hgo
      obtain ⟨s1, s2⟩ := setD_ok hs
      exact hgo .undef undef σ own w VR.undef (by rw [s2]; exact Grow.refl _ _) (by rw [s2]; exact hH) s1
    | panic _ _ => cases hd : dP o.dst <;> rw [hd] at hs <;> cases hs
    | fail => cases hd : dP o.dst <;> rw [hd] at hs <;> cases hs
  have go : (∀ x ∈ r call s, Goes K σ s o.dst a next Q x) → o.wpIn (FR R) 0 P a w next Q := fun hgo => h R σ own a w s call next Q hcall hgl (hT.or hc hgl) hH hgo
  have hwd : Region.wanted o (yielded ops a.tmps) = (yielded ops a.tmps j == some want) := by simp [Region.wanted, hg]
  have hdef : nGuard (posOf t) want (dP o.dst) r call s = onSome (s.tmps.get (posOf t)) (fun v => v.onBool (ifb want (r call s) [setD (dP o.dst) .undef s]) (ifb want [setD (dP o.dst) .undef s] (r call s)) (v.onTup (fun _ => [setD (dP o.dst) .undef s]) [.fail])) [setD (dP o.dst) .undef s] := rfl
  rw [hdef] at hgo
  unfold Steps1
  cases hv : s.tmps.get (posOf t) with
  | none =>
    rw [hv] at hgo
    have he : (Opd.t (posOf t)).ev s.tmps = .undef := by simp only [Opd.ev]; rw [hv]
    rw [he] at hTt
    have hu : a.tmps.getD t undef = undef := hTt.fn VR.undef
    rw [hu] at hy
    rw [if_neg (by rw [hwd, hy]; cases want <;> decide)]
    exact ⟨fun _ _ => trivial, skip (hgo _ (List.mem_singleton.2 rfl))⟩
  | some v =>
    rw [hv] at hgo
    rw [get_ev hv] at hTt
    cases v with
    | bool b =>
      have hb : a.tmps.getD t undef = .bool b := hTt
      rw [hb] at hy
      cases b <;> cases want
      · rw [if_pos (by rw [hwd, hy]; decide)]; exact go hgo
      · rw [if_neg (by rw [hwd, hy]; decide)]; exact ⟨fun _ _ => trivial, skip (hgo _ (List.mem_singleton.2 rfl))⟩
      · rw [if_neg (by rw [hwd, hy]; decide)]; exact ⟨fun _ _ => trivial, skip (hgo _ (List.mem_singleton.2 rfl))⟩
      · rw [if_pos (by rw [hwd, hy]; decide)]; exact go hgo
    | tup l =>
      obtain ⟨x, hx, _⟩ := hTt
      rw [hx] at hy
      have hy' : yielded ops a.tmps j = none := hy
      rw [if_neg (by rw [hwd, hy']; cases want <;> decide)]
      exact ⟨fun _ _ => trivial, skip (hgo _ (List.mem_singleton.2 rfl))⟩
    | _ => exact (hgo _ (List.mem_singleton.2 rfl) : Goes K σ s o.dst a next Q .fail).elim
end
noncomputable section
variable (ng : Nat) (cst : Value → Option AV) (T : Nat → Option TI) (ptrs : PO)
def compOper (n : Nat) (ops : Array Oper) (o : Oper) : Option Run :=
  match o.guard with
  | none => compOp ng cst T ptrs (dP o.dst) o.op
  | some (j, want) => ((ops[j]?).bind (·.dst)).bind fun t => if Nat.ble (Nat.succ t) n then (compOp ng cst T ptrs (dP o.dst) o.op).bind fun r => some (rGuard (posOf t) want (dP o.dst) r) else none
def dstB (n : Nat) (o : Oper) : Bool := match o.dst with | none => true | some t => Nat.ble (Nat.succ t) n
def compOps (n : Nat) (ops : Array Oper) : List Oper → Option (List Run)
  | [] => some []
  | o :: l => if dstB n o then (compOps n ops l).bind fun rs => some ((compOper ng cst T ptrs n ops o).getD rFail :: rs) else none
def compOperN (n : Nat) (ops : Array Oper) (o : Oper) : Option NRun :=
  match o.guard with
  | none => compOpN ng cst T ptrs (dP o.dst) o.op
  | some (j, want) => ((ops[j]?).bind (·.dst)).bind fun t => if Nat.ble (Nat.succ t) n then (compOpN ng cst T ptrs (dP o.dst) o.op).bind fun r => some (nGuard (posOf t) want (dP o.dst) r) else none
def compOpsN (n : Nat) (ops : Array Oper) : List Oper → Option (List NRun)
  | [] => some []
  | o :: l => if dstB n o then (compOpsN n ops l).bind fun rs => some ((compOperN ng cst T ptrs n ops o).getD (fun _ _ => [.fail]) :: rs) else none
end
section
variable {P : Program} {K : Ctx} {ng : Nat} {cst : Value → Option AV} {T : Nat → Option TI} {ptrs : PO}
theorem dstB_ok {n : Nat} {o : Oper} (h : dstB n o = true) : DstOK n o := fun t ht => by
  unfold dstB at h; rw [ht] at h; exact Nat.le_of_ble_eq_true h
theorem compOps_ok (hc : CstOK cst) (hT : TOK P T) (hp : POK P K ptrs) {n : Nat} {ops : Array Oper} : ∀ {l : List Oper} {rs : List Run}, compOps ng cst T ptrs n ops l = some rs → StepsOK P K ng n ops l rs
  | [], rs, h => by cases h; exact .nil
  | o :: l, rs, h => by
    unfold compOps at h
    split at h
    · rename_i hd
      obtain ⟨rs', h1, h⟩ := bind_ok h
      cases h
      have hdo := dstB_ok hd
      refine .cons ?_ hdo (compOps_ok hc hT hp h1)
      cases hr : compOper ng cst T ptrs n ops o with
      | none => exact .fail
      | some r =>
        show StepOK P K ng n ops o r
        unfold compOper at hr
        obtain ⟨dst, op, ty, pos, af, gd⟩ := o
        cases gd with
        | none => exact .of_op hc rfl (compOp_ok hT hp hr ty pos af none)
        | some jw =>
          obtain ⟨j, want⟩ := jw
          simp only at hr
          obtain ⟨t, h2, hr⟩ := bind_ok hr
          split at hr
          · rename_i hlt
            obtain ⟨r', h3, hr⟩ := bind_ok hr
            cases hr
            exact .guard hc rfl h2 hdo (Nat.le_of_ble_eq_true hlt) (compOp_ok hT hp h3 ty pos af _)
          · cases hr
    · cases h
theorem compOpsN_ok (hc : CstOK cst) (hT : TOK P T) (hp : POK P K ptrs) {n : Nat} {ops : Array Oper} : ∀ {l : List Oper} {rs : List NRun}, compOpsN ng cst T ptrs n ops l = some rs → NStepsOK P K ng n ops l rs
  | [], rs, h => by cases h; exact .nil
  | o :: l, rs, h => by
    unfold compOpsN at h
    split at h
    · rename_i hd
      obtain ⟨rs', h1, h⟩ := bind_ok h
      cases h
      have hdo := dstB_ok hd
      refine .cons ?_ hdo (compOpsN_ok hc hT hp h1)
      cases hr : compOperN ng cst T ptrs n ops o with
      | none => exact .fail
      | some r =>
        show NStepOK P K ng n ops o r
        unfold compOperN at hr
        obtain ⟨dst, op, ty, pos, af, gd⟩ := o
        cases gd with
        | none => exact .of_op hc rfl (compOpN_ok hT hp hr ty pos af none)
        | some jw =>
          obtain ⟨j, want⟩ := jw
          simp only at hr
          obtain ⟨t, h2, hr⟩ := bind_ok hr
          split at hr
          · rename_i hlt
            obtain ⟨r', h3, hr⟩ := bind_ok hr
            cases hr
            exact .guard hc rfl h2 hdo (Nat.le_of_ble_eq_true hlt) (compOpN_ok hT hp h3 ty pos af _)
          · cases hr
    · cases h
end
end Go.Eng
namespace Go.Eng
open Go.RowKit
theorem ifb_tt {c x : Bool} (h : ifb c x false = true) : c = true ∧ x = true := by
  cases c
  · cases h
  · exact ⟨rfl, h⟩
theorem peq {a b : Pos} (h : a.eqb b = true) : a = b := Pos.eqb_iff.1 h
mutual
theorem avB_eq : ∀ {x y : AV}, avB x y = true → x = y
  | .bool a, y, h => by
    cases y with
    | bool b => cases a <;> cases b <;> first | rfl | cases h
    | _ => cases h
  | .int k a, y, h => by
    cases y with
    | int k' b =>
      obtain ⟨h1, h2⟩ := ifb_tt (show ifb (keq k k') (ieq a b) false = true from h)
      rw [ieq_eq] at h2
      rw [keq_iff h1, of_decide_eq_true h2]
    | _ => cases h
  | .str m a, y, h => by
    cases y with
    | str n b =>
      obtain ⟨h1, h2⟩ := ifb_tt (show ifb (Nat.beq m n) (Nat.beq a b) false = true from h)
      rw [Nat.eq_of_beq_eq_true h1, Nat.eq_of_beq_eq_true h2]
    | _ => cases h
  | .nilPtr, y, h => by cases y <;> first | rfl | cases h
  | .ptr b o, y, h => by
    cases y with
    | ptr b' o' =>
      obtain ⟨h1, h2⟩ := ifb_tt (show ifb (b.eqb b') (Nat.beq o o') false = true from h)
      rw [peq h1, Nat.eq_of_beq_eq_true h2]
    | _ => cases h
  | .nilSlice, y, h => by cases y <;> first | rfl | cases h
  | .slice b o n z, y, h => by
    cases y with
    | slice b' o' n' z' =>
      obtain ⟨h1, h2⟩ := ifb_tt (show ifb (b.eqb b') (ifb (Nat.beq o o') (ifb (Nat.beq n n') (Nat.beq z z') false) false) false = true from h)
      obtain ⟨h2, h3⟩ := ifb_tt h2
      obtain ⟨h3, h4⟩ := ifb_tt h3
      rw [peq h1, Nat.eq_of_beq_eq_true h2, Nat.eq_of_beq_eq_true h3, Nat.eq_of_beq_eq_true h4]
    | _ => cases h
  | .nilMap, y, h => by cases y <;> first | rfl | cases h
  | .map b, y, h => by
    cases y with
    | map b' => rw [peq (show b.eqb b' = true from h)]
    | _ => cases h
  | .nilFunc, y, h => by cases y <;> first | rfl | cases h
  | .func fn x y, v, h => by
    cases v with
    | func fn' x' y' =>
      cases fn with
      | func f =>
        cases fn' with
        | func f' =>
          obtain ⟨h1, h2⟩ := ifb_tt (show ifb (Nat.beq f f') (ifb (avsB x x') (avsB y y') false) false = true from h)
          obtain ⟨h2, h3⟩ := ifb_tt h2
          rw [Nat.eq_of_beq_eq_true h1, avsB_eq h2, avsB_eq h3]
        | _ => cases h
      | _ => cases h
    | _ => cases h
  | .nilIface, y, h => by cases y <;> first | rfl | cases h
  | .iface t x, y, h => by
    cases y with
    | iface t' x' =>
      obtain ⟨h1, h2⟩ := ifb_tt (show ifb (Nat.beq t t') (avB x x') false = true from h)
      rw [Nat.eq_of_beq_eq_true h1, avB_eq h2]
    | _ => cases h
  | .agg x, y, h => by
    cases y with
    | agg x' => rw [avsB_eq (show avsB x x' = true from h)]
    | _ => cases h
  | .tup x, y, h => by
    cases y with
    | tup x' => rw [avsB_eq (show avsB x x' = true from h)]
    | _ => cases h
  | .opq i, y, h => by
    cases y with
    | opq j => rw [Nat.eq_of_beq_eq_true (show Nat.beq i j = true from h)]
    | _ => cases h
  | .yld b, y, h => by
    cases y with
    | yld b' => rw [peq (show b.eqb b' = true from h)]
    | _ => cases h
  | .sliceC b o n c z, y, h => by
    cases y with
    | sliceC b' o' n' c' z' =>
      obtain ⟨h1, h2⟩ := ifb_tt (show ifb (b.eqb b') (ifb (Nat.beq o o') (ifb (Nat.beq n n') (ifb (Nat.beq c c') (Nat.beq z z') false) false) false) false = true from h)
      obtain ⟨h2, h3⟩ := ifb_tt h2
      obtain ⟨h3, h4⟩ := ifb_tt h3
      obtain ⟨h4, h5⟩ := ifb_tt h4
      rw [peq h1, Nat.eq_of_beq_eq_true h2, Nat.eq_of_beq_eq_true h3, Nat.eq_of_beq_eq_true h4, Nat.eq_of_beq_eq_true h5]
    | _ => cases h
theorem avsB_eq : ∀ {l m : List AV}, avsB l m = true → l = m
  | [], m, h => by cases m <;> first | rfl | cases h
  | x :: l, m, h => by
    cases m with
    | nil => cases h
    | cons y m =>
      obtain ⟨h1, h2⟩ := ifb_tt (show ifb (avB x y) (avsB l m) false = true from h)
      rw [avB_eq h1, avsB_eq h2]
end
theorem rowB_eq {r r' : Row} (h : rowB r r' = true) : r = r' := by
  have two : ∀ {n d n' d' : Nat}, ifb (Nat.beq n n') (Nat.beq d d') false = true → n = n' ∧ d = d' := fun h => by
    obtain ⟨h1, h2⟩ := ifb_tt h
    exact ⟨Nat.eq_of_beq_eq_true h1, Nat.eq_of_beq_eq_true h2⟩
  cases r with
  | lst n l =>
    cases r' with
    | lst n' l' =>
      obtain ⟨h1, h2⟩ := ifb_tt (show ifb (Nat.beq n n') (avsB l l') false = true from h)
      rw [Nat.eq_of_beq_eq_true h1, avsB_eq h2]
    | _ => cases h
  | byt n d => cases r' with
    | byt n' d' => obtain ⟨h1, h2⟩ := two h; rw [h1, h2]
    | _ => cases h
  | wid n d => cases r' with
    | wid n' d' => obtain ⟨h1, h2⟩ := two h; rw [h1, h2]
    | _ => cases h
  | dw n d => cases r' with
    | dw n' d' => obtain ⟨h1, h2⟩ := two h; rw [h1, h2]
    | _ => cases h
theorem ownRow_eq {o : AObj} {r : Row} (h : ownRow o = some r) : o = .cells none false r := by
  cases o with
  | cells g ro r' => cases g <;> cases ro <;> cases h; rfl
  | _ => cases h
section
variable {K : Ctx} {σ : Env} {own : Owns} {h : AHeap} {w : World}
theorem HR.ghost (H : HR K σ own h w) (r : Row) : HR K σ own (h.new (.cells none false r)) w := by
  refine ⟨fun b hb => H.fresh b ?_, fun b l hl => ?_, fun b p ro r' hb => ?_, H.below, H.base, H.owned, fun b l r' hl hb => by
    rw [AHeap.get_new] at hb
    by_cases e : b = h.next
    · subst e; rw [H.fresh _ (Nat.le_refl _)] at hl; cases hl
    · rw [if_neg e] at hb; exact H.off b l r' hl hb⟩
  · have hb' : h.next.num + 1 ≤ b.num := by rw [← Pos.num_succ]; exact hb
    omega
  · rw [AHeap.get_new]
    by_cases e : b = h.next
    · subst e; rw [H.fresh _ (Nat.le_refl _)] at hl; cases hl
    · rw [if_neg e]; exact H.obj b l hl
  · rw [AHeap.get_new] at hb
    by_cases e : b = h.next
    · rw [if_pos e] at hb; cases hb
    · rw [if_neg e] at hb; exact H.grp b p ro r' hb
theorem newO_spec {o o' : AObj} (h : newO o = some o') : o' = o ∧ ∀ p ro r, o ≠ .cells (some p) ro r := by
  unfold newO at h
  split at h
  · cases h; exact ⟨rfl, fun p ro r e => by cases e⟩
  · cases h; exact ⟨rfl, fun p ro r e => by cases e⟩
  · cases h
theorem HR.ghostO (H : HR K σ own h w) {o : AObj} (ho : ∀ p ro r, o ≠ .cells (some p) ro r) : HR K σ own (h.new o) w := by
  refine ⟨fun b hb => H.fresh b ?_, fun b l hl => ?_, fun b p ro r' hb => ?_, H.below, H.base, H.owned, fun b l r' hl hb => by
    rw [AHeap.get_new] at hb
    by_cases e : b = h.next
    · subst e; rw [H.fresh _ (Nat.le_refl _)] at hl; cases hl
    · rw [if_neg e] at hb; exact H.off b l r' hl hb⟩
  · have hb' : h.next.num + 1 ≤ b.num := by rw [← Pos.num_succ]; exact hb
    omega
  · rw [AHeap.get_new]
    by_cases e : b = h.next
    · subst e; rw [H.fresh _ (Nat.le_refl _)] at hl; cases hl
    · rw [if_neg e]; exact H.obj b l hl
  · rw [AHeap.get_new] at hb
    by_cases e : b = h.next
    · rw [if_pos e] at hb; cases hb; exact absurd rfl (ho _ _ _)
    · rw [if_neg e] at hb; exact H.grp b p ro r' hb
theorem HR.lateDead (H : HR K σ own h w) {b : Pos} {l : Loc} (hb : h.get b = some .dead) (hn : σ b = none) (hlt : b.num < h.next.num) : HR K (σ.add b l) own h w := by
  have hle : σ.le (σ.add b l) := Env.le_add _ hn
  refine ⟨fun b' hb' => ?_, fun b' l' hl => ?_, H.grp, H.below, H.base, H.owned, fun b' l' r hl hc => by
    by_cases e' : b' = b
    · subst e'; rw [hb] at hc; cases hc
    · rw [Env.add_other _ _ e'] at hl; exact H.off b' l' r hl hc⟩
  · rw [Env.add_other _ _ (fun e => by subst e; omega)]
    exact H.fresh b' hb'
  · by_cases e' : b' = b
    · subst e'; rw [hb]; trivial
    · rw [Env.add_other _ _ e'] at hl
      exact (H.obj b' l' hl).frame hle rfl rfl (Nat.le_refl _)
theorem HR.late (H : HR K σ own h w) {b : Pos} {l : List AV} {c : Array Value} {e : TypeId} (hb : h.get b = some (.cells none false (mkRow l))) (hn : σ b = none) (hlt : b.num < h.next.num)
    (hc : l.length ≤ c.size) (hv : ∀ (i : Nat) (x : AV), l[i]? = some x → ∃ v, c[i]? = some v ∧ VR K σ x v) :
    HR K (σ.add b ⟨w.heap.size, 0, c.size⟩) (own.add w.heap.size (false, b)) h (w.alloc (.cells c e)) := by
  have hle : σ.le (σ.add b ⟨w.heap.size, 0, c.size⟩) := Env.le_add _ hn
  obtain ⟨m1, m2, m3⟩ := mkRow_spec l
  refine ⟨fun b' hb' => ?_, fun b' l' hl => ?_, H.grp, H.below.alloc H.base _, by have := H.base; simp; omega, fun B t hB => ?_, fun b' l' r hl hc => by
    by_cases e' : b' = b
    · subst e'; rw [Env.add_same] at hl; cases hl; rfl
    · rw [Env.add_other _ _ e'] at hl; exact H.off b' l' r hl hc⟩
  · rw [Env.add_other _ _ (fun e => by subst e; omega)]
    exact H.fresh b' hb'
  · by_cases e' : b' = b
    · subst e'
      rw [Env.add_same] at hl; cases hl
      rw [hb]
      refine ⟨⟨m1, by rw [m2]; exact hc, fun i hi => ?_, fun i x hx => ?_⟩, by simp, fun _ => ⟨by simp [Owns.add, tagOf], NoFr.alloc_new _ _ _⟩, fun e => by cases e⟩
      · simp only [Nat.zero_add]
        exact ⟨c[i], by rw [World.cell?_alloc_new]; exact Array.getElem?_eq_getElem hi⟩
      · rw [m3] at hx
        obtain ⟨v, h1, h2⟩ := hv i x hx
        simp only [Nat.zero_add]
        exact ⟨v, by rw [World.cell?_alloc_new]; exact h1, h2.mono hle⟩
    · rw [Env.add_other _ _ e'] at hl
      have hx := H.obj b' l' hl
      by_cases hB : l'.B < w.heap.size
      · exact hx.frame hle (Below.heap_alloc _ _ _ hB) (by simp [Owns.add]; omega) (by simp)
      · cases ho' : h.get b' with
        | none => trivial
        | some o' =>
          rw [ho'] at hx
          cases o' with
          | dead => trivial
          | cells g ro r => exact absurd hx.2.1 hB
          | map es clock => exact absurd (H.owned _ _ hx.1).2 hB
          | siter n d p => exact absurd (H.owned _ _ hx.1).2 hB
          | ext e => exact absurd (H.owned _ _ hx.1.1).2 hB
          | rmap es => exact absurd (Nat.lt_of_lt_of_le hx.1 H.base) hB
  · unfold Owns.add at hB
    by_cases e : B = w.heap.size
    · subst e; exact ⟨H.base, by simp⟩
    · rw [if_neg e] at hB
      have := H.owned B t hB
      exact ⟨this.1, by simp; omega⟩
end
theorem ptB_eq {α : Type} {f : α → α → Bool} (hf : ∀ x y, f x y = true → x = y) : ∀ {t u : PT α}, ptB f t u = true → t = u
  | .nil, u, h => by cases u <;> first | rfl | cases h
  | .node l v r, u, h => by
    cases u with
    | nil => cases h
    | node l' v' r' =>
      unfold ptB at h
      obtain ⟨h1, h2⟩ := ifb_tt h
      obtain ⟨h3, h4⟩ := ifb_tt h2
      rw [ptB_eq hf h3, ptB_eq hf h4]
      cases v <;> cases v' <;> first | rfl | (cases h1; done) | rw [hf _ _ h1]
theorem entsB_eq : ∀ {l m : List AEnt}, entsB l m = true → l = m
  | [], m, h => by cases m <;> first | rfl | cases h
  | x :: l, m, h => by
    cases m with
    | nil => cases h
    | cons y m =>
      obtain ⟨h1, h2⟩ := ifb_tt (show ifb (avB x.key y.key) (ifb (avB x.val y.val) (ifb (Nat.beq x.born y.born) (entsB l m) false) false) false = true from h)
      obtain ⟨h3, h4⟩ := ifb_tt h2
      obtain ⟨h5, h6⟩ := ifb_tt h4
      obtain ⟨k, v, b⟩ := x
      obtain ⟨k', v', b'⟩ := y
      rw [show k = k' from avB_eq h1, show v = v' from avB_eq h3, show b = b' from Nat.eq_of_beq_eq_true h5, entsB_eq h6]
theorem posOB_eq {x y : Option Pos} (h : posOB x y = true) : x = y := by
  cases x <;> cases y <;> first | rfl | (cases h; done) | rw [peq h]
theorem natsB_eq : ∀ {l m : List Nat}, natsB l m = true → l = m
  | [], m, h => by cases m <;> first | rfl | cases h
  | x :: l, m, h => by
    cases m with
    | nil => cases h
    | cons y m =>
      obtain ⟨h1, h2⟩ := ifb_tt (show ifb (Nat.beq x y) (natsB l m) false = true from h)
      rw [Nat.eq_of_beq_eq_true h1, natsB_eq h2]
theorem extB_eq {x y : AExt} (h : extB x y = true) : x = y := by
  cases x <;> cases y <;> first | rfl | (cases h; done) | skip
  · rename_i m a l n m' a' l' n'
    obtain ⟨h1, h2⟩ := ifb_tt (show ifb (posOB m m') (ifb (Nat.beq a a') (ifb (natsB l l') (Nat.beq n n') false) false) false = true from h)
    obtain ⟨h3, h4⟩ := ifb_tt h2
    obtain ⟨h5, h6⟩ := ifb_tt h4
    rw [posOB_eq h1, Nat.eq_of_beq_eq_true h3, natsB_eq h5, Nat.eq_of_beq_eq_true h6]
  · rename_i a b c d t a' b' c' d' t'
    obtain ⟨h1, h2⟩ := ifb_tt (show ifb (Nat.beq a a') (ifb (Nat.beq b b') (ifb (Nat.beq c c') (ifb (Nat.beq d d') (ptB avB t t') false) false) false) false = true from h)
    obtain ⟨h3, h4⟩ := ifb_tt h2
    obtain ⟨h5, h6⟩ := ifb_tt h4
    obtain ⟨h7, h8⟩ := ifb_tt h6
    rw [Nat.eq_of_beq_eq_true h1, Nat.eq_of_beq_eq_true h3, Nat.eq_of_beq_eq_true h5, Nat.eq_of_beq_eq_true h7, ptB_eq (fun _ _ => avB_eq) h8]
  · rename_i m l m' l'
    obtain ⟨h1, h2⟩ := ifb_tt (show ifb (m.eqb m') (natsB l l') false = true from h)
    rw [peq h1, natsB_eq h2]
theorem objB_eq {x y : AObj} (h : objB x y = true) : x = y := by
  cases x <;> cases y <;> first | rfl | (cases h; done) | skip
  · rename_i g ro r g' ro' r'
    obtain ⟨h1, h2⟩ := ifb_tt (show ifb (posOB g g') (ifb (boolB ro ro') (rowB r r') false) false = true from h)
    obtain ⟨h3, h4⟩ := ifb_tt h2
    have : ro = ro' := by cases ro <;> cases ro' <;> first | rfl | cases h3
    rw [posOB_eq h1, this, rowB_eq h4]
  · rename_i es c es' c'
    obtain ⟨h1, h2⟩ := ifb_tt (show ifb (Nat.beq c c') (entsB es es') false = true from h)
    rw [Nat.eq_of_beq_eq_true h1, entsB_eq h2]
  · rename_i a b c a' b' c'
    obtain ⟨h1, h2⟩ := ifb_tt (show ifb (Nat.beq a a') (ifb (Nat.beq b b') (Nat.beq c c') false) false = true from h)
    obtain ⟨h3, h4⟩ := ifb_tt h2
    rw [Nat.eq_of_beq_eq_true h1, Nat.eq_of_beq_eq_true h3, Nat.eq_of_beq_eq_true h4]
  · rename_i a b
    rw [extB_eq (show extB a b = true from h)]
  · rename_i a b
    rw [entsB_eq (show entsB a b = true from h)]
section
variable {P : Program} {K : Ctx} {ng n : Nat} {ops : Array Oper}
structure MoverOK (P : Program) (K : Ctx) (ng n : Nat) (ops : Array Oper) (i : Nat) (o : DOp) : Prop where
  at' : ∃ oper t, ops[i]? = some oper ∧ oper.dst = some t ∧ t < n ∧ o.d = posOf t ∧
    (o.new = false → ∀ (σ : Env) (own : Owns) (a : Act) (w : World) (s s' : St) (call : Caller), Globs ng σ → n ≤ a.tmps.size → FP K σ ops oper s.tmps a → HR K σ own s.heap w → o.r call s = .ok s' →
      ∃ vc, VR K σ (o.value s') vc ∧ (if Region.wanted oper (yielded ops a.tmps) then (execOp a.eval oper).run P w = .ok (.value vc) w else vc = undef)) ∧
    (o.new = true → ∀ (σ : Env) (own : Owns) (a : Act) (w : World) (s s' : St) (call : Caller), Globs ng σ → n ≤ a.tmps.size → FP K σ ops oper s.tmps a → HR K σ own s.heap w → o.r call s = .ok s' →
      Region.wanted oper (yielded ops a.tmps) = true ∧ (NewR P K σ oper a.eval w s s' ∨ GhostR P K σ oper a.eval w s s'))
noncomputable def predsOf (ops : Array Oper) (i : Nat) : List Nat := match ops[i]? with
  | some o => (o.after.toList.filter (Region.binds .any)).map (·.on)
  | none => []
theorem ready_preds {listed : Array Bool} {i : Nat} (h : i ∈ Region.ready .any ops listed) : listed.getD i true = false ∧ i < ops.size ∧ ∀ p ∈ predsOf ops i, listed.getD p false = true := by
  rw [mem_ready] at h
  obtain ⟨h0, o, ho, hall⟩ := h
  refine ⟨h0, (Array.getElem?_eq_some_iff.1 ho).1, fun p hp => ?_⟩
  unfold predsOf at hp
  rw [ho] at hp
  obtain ⟨e, he, rfl⟩ := List.mem_map.1 hp
  obtain ⟨h1, h2⟩ := List.mem_filter.1 he
  exact hall e (by simpa using h1) h2
theorem preds_ready {listed : Array Bool} {i : Nat} (h0 : listed.getD i true = false) (hi : i < ops.size) (hp : ∀ p ∈ predsOf ops i, listed.getD p false = true) : i ∈ Region.ready .any ops listed := by
  rw [mem_ready]
  refine ⟨h0, ops[i], Array.getElem?_eq_getElem hi, fun e he hb => hp _ ?_⟩
  unfold predsOf
  rw [Array.getElem?_eq_getElem hi]
  exact List.mem_map.2 ⟨e, List.mem_filter.2 ⟨by simpa using he, hb⟩, rfl⟩
def Ord (ops : Array Oper) (D : List Nat) : Prop := ∀ l1 i l2, D = l1 ++ i :: l2 → ∀ p ∈ predsOf ops i, p ∈ l1
theorem Ord.snoc {D : List Nat} (h : Ord ops D) {i : Nat} (hi : ∀ p ∈ predsOf ops i, p ∈ D) : Ord ops (D ++ [i]) := by
  intro l1 j l2 e p hp
  rcases List.eq_nil_or_concat l2 with rfl | ⟨l2', x, rfl⟩
  · have := List.append_inj' e rfl
    obtain ⟨e1, e2⟩ := this
    cases e2
    subst e1
    exact hi p hp
  · have e' : D ++ [i] = (l1 ++ j :: l2') ++ [x] := by rw [e]; simp
    obtain ⟨e1, e2⟩ := List.append_inj' e' rfl
    exact h l1 j l2' e1 p hp
theorem first_out {q : Nat → Bool} : ∀ {D : List Nat}, (∃ i ∈ D, q i = false) → ∃ l1 i l2, D = l1 ++ i :: l2 ∧ (∀ j ∈ l1, q j = true) ∧ q i = false
  | [], ⟨i, hi, _⟩ => by cases hi
  | x :: D, ⟨i, hi, hq⟩ => by
    cases hx : q x with
    | false => exact ⟨[], x, D, rfl, fun j hj => (by cases hj), hx⟩
    | true =>
      rcases List.mem_cons.1 hi with e | e
      · subst e; rw [hx] at hq; cases hq
      · obtain ⟨l1, j, l2, e1, e2, e3⟩ := first_out ⟨i, e, hq⟩
        exact ⟨x :: l1, j, l2, by rw [e1]; rfl, fun k hk => by
          rcases List.mem_cons.1 hk with e | e
          · subst e; exact hx
          · exact e2 k e, e3⟩
end
end Go.Eng
namespace Go.Eng
open Go.RowKit
structure IB where
  mv : List Nat
  ck : List Nat
  ef : Option Nat
  deriving Inhabited
section
variable (P : Program) (K : Ctx) (ng n : Nat) (ops : Array Oper) (M : Nat → DOp)
structure Apart : Prop where
  dst : ∀ (i j : Nat) (o o' : Oper) (t : Tmp), ops[i]? = some o → ops[j]? = some o' → o.dst = some t → o'.dst = some t → i = j
inductive Forced (E : List Nat) : Nat → Prop
  | eff {i : Nat} : i ∈ E → Forced E i
  | pred {i j : Nat} : Forced E j → i ∈ predsOf ops j → Forced E i
def LookOK (D E : List Nat) : Prop := ∀ (i j : Nat) (o o' : Oper) (t : Tmp), ops[i]? = some o → j ∈ D → ops[j]? = some o' → t ∈ o.looksAt ops → o'.dst = some t → j ∈ predsOf ops i ∨ Forced ops E i
structure BatchOK (D E mv ck : List Nat) : Prop where
  ord : Ord ops (D ++ mv)
  nodup : (D ++ mv).Nodup
  lt : ∀ i, i ∈ D ++ mv → i < ops.size
  mvs : ∀ i ∈ mv, MoverOK P K ng n ops i (M i)
  cks : ∀ i ∈ ck, MoverOK P K ng n ops i (M i)
  cov : ∀ i ∈ D ++ mv, i ∈ ck ∨ Forced ops E i
  look : LookOK ops (D ++ mv) E
inductive Sched : Option (List Nat) → List Nat → List Nat → BT → Prop
  | node {D E mv ck es : List Nat} {alts : BT} : BatchOK P K ng n ops M D E mv ck → (∀ i, i < ops.size → i ∈ D ++ mv ∨ i ∈ es ∨ ∃ p ∈ predsOf ops i, p ∉ D ++ mv) → Sched (some es) (D ++ mv) E alts → Sched none D E (.node (mv.map M) (ck.map M) alts)
  | last {D E : List Nat} : (∀ i, i < ops.size → i ∈ D) → Sched (some []) D E .last
  | alt1 {D E : List Nat} {e : Nat} {o : Oper} {r : Run} {b : BT} : e ∉ D → ops[e]? = some o → DstOK n o → StepOK P K ng n ops o r → (∀ p ∈ predsOf ops e, p ∈ D) → Sched none (D ++ [e]) (e :: E) b → Sched (some [e]) D E (.alt1 r b)
  | alt {D E es : List Nat} {e : Nat} {o : Oper} {r : Run} {b more : BT} : e ∉ D → ops[e]? = some o → DstOK n o → StepOK P K ng n ops o r → (∀ p ∈ predsOf ops e, p ∈ D) → Sched none (D ++ [e]) (e :: E) b → Sched (some es) D E more → Sched (some (e :: es)) D E (.alt r b more)
end
noncomputable def blk (v : AV) : Option Pos := match v with | .ptr b 0 => some b | .slice b 0 _ _ => some b | _ => none
theorem isNext_spec {next : Pos} {v v' : AV} {b : Pos} (h : isNext next v v' = some b) :
    (v = .ptr next 0 ∧ v' = .ptr b 0) ∨ ∃ n z, v = .slice next 0 n z ∧ v' = .slice b 0 n z := by
  unfold isNext at h
  split at h
  · split at h
    · obtain ⟨h1, h2⟩ := ifb_some h
      cases h2
      rw [peq h1]; exact .inl ⟨rfl, rfl⟩
    · cases h
  · split at h
    · obtain ⟨h1, k2⟩ := ifb_some h
      obtain ⟨h2, k3⟩ := ifb_some k2
      obtain ⟨h3, k4⟩ := ifb_some k3
      cases k4
      rw [peq h1, Nat.eq_of_beq_eq_true h2, Nat.eq_of_beq_eq_true h3]; exact .inr ⟨_, _, rfl, rfl⟩
    · cases h
  · cases h
section
variable {P : Program} {K : Ctx} {ng n : Nat} {ops : Array Oper} {M : Nat → DOp} {σ0 : Env} {h0 : AHeap}
def Pend (listed : Array Bool) (D : List Nat) (i : Nat) : Prop := i ∈ D ∧ listed.getD i false = false
structure Mid (K : Ctx) (ops : Array Oper) (M : Nat → DOp) (σ0 : Env) (h0 : AHeap) (listed : Array Bool) (D : List Nat) (G : List (Nat × Pos)) (σ : Env) (own : Owns) (s : St) (a : Act) (w : World) : Prop where
  grow : Grow σ0 σ h0 s.heap
  hr : HR K σ own s.heap w
  tr : ∀ t, (∀ i o, Pend listed D i → ops[i]? = some o → o.dst ≠ some t) → VR K σ ((Opd.t (posOf t)).ev s.tmps) (a.tmps.getD t undef)
  g1 : ∀ p ∈ G, h0.next.num ≤ p.2.num ∧ p.2.num < s.heap.next.num
  g2 : ∀ p ∈ G, listed.getD p.1 false = false → σ p.2 = none
  g3 : ∀ p ∈ G, ∀ q ∈ G, p.2 = q.2 → p.1 = q.1
  g4 : ∀ i o t, Pend listed D i → ops[i]? = some o → o.dst = some t → (M i).d = posOf t → (M i).new = true → ∀ b, blk ((M i).value s) = some b → (i, b) ∈ G
structure Lst (ops : Array Oper) (listed : Array Bool) (D E : List Nat) : Prop where
  size : listed.size = ops.size
  sub : ∀ i, listed.getD i false = true → i ∈ D
  closed : ∀ i, listed.getD i false = true → ∀ p ∈ predsOf ops i, listed.getD p false = true
  effs : ∀ e ∈ E, listed.getD e false = true
theorem Lst.forced {listed : Array Bool} {D E : List Nat} (h : Lst ops listed D E) {i : Nat} (hf : Forced ops E i) : listed.getD i false = true := by
  induction hf with
  | eff he => exact h.effs _ he
  | pred hj hp ih => exact h.closed _ ih _ hp
theorem value_set {o : DOp} {s : St} {t : Nat} (hd : o.d = posOf t) {tm : PT AV} : (Opd.t o.d).ev tm = (Opd.t (posOf t)).ev tm := by rw [hd]
theorem movers_ok (hA : Apart ops) {call : Caller} {listed : Array Bool} {σ : Env} {own : Owns} {a : Act} {w : World} :
    ∀ (mv : List Nat) (D : List Nat) (G : List (Nat × Pos)) (s s2 : St), (∀ i, listed.getD i false = true → i ∈ D) → (D ++ mv).Nodup → (∀ i ∈ mv, MoverOK P K ng n ops i (M i)) → Mid K ops M σ0 h0 listed D G σ own s a w →
      runMovers call (mv.map M) s = .ok s2 → ∃ G', Mid K ops M σ0 h0 listed (D ++ mv) G' σ own s2 a w
  | [], D, G, s, s2, hsub, hnd, hm, hM, h => by
    have h' : Out.ok s = .ok s2 := h
    cases h'
    exact ⟨G, by simpa using hM⟩
  | i :: mv, D, G, s, s2, hsub, hnd, hm, hM, h => by
    have hdef : runMovers call ((i :: mv).map M) s = Out.rec (motive := fun _ => Out St) (runMovers call (mv.map M)) (fun _ _ => .fail) .fail ((M i).move call s) := runMovers_cons call (M i) (mv.map M) s
    rw [hdef] at h
    cases hmv : (M i).move call s with
    | panic v hp => rw [hmv] at h; cases h
    | fail => rw [hmv] at h; cases h
    | ok s1 =>
      rw [hmv] at h
      have h : runMovers call (mv.map M) s1 = .ok s2 := h
      obtain ⟨oper, t, h1, h2, h3, h4, -, -⟩ := (hm i List.mem_cons_self).at'
      have hiD : i ∉ D := fun hi => by
        rw [List.nodup_append] at hnd
        exact hnd.2.2 i hi i List.mem_cons_self rfl
      have hun : listed.getD i false = false := by
        cases hl : listed.getD i false with
        | false => rfl
        | true => exact absurd (hsub i hl) hiD
      have pend_mono : ∀ j, Pend listed D j → Pend listed (D ++ [i]) j := fun j hj => ⟨List.mem_append_left _ hj.1, hj.2⟩
      have hpi : Pend listed (D ++ [i]) i := ⟨by simp, hun⟩
      -- the state of s1
      have key : (∃ v, s1 = ⟨s.tmps.set v (posOf t), s.heap⟩ ∧ (M i).new = false) ∨
          ∃ v row, s1 = ⟨s.tmps.set v (posOf t), s.heap.new row⟩ ∧ blk v = some s.heap.next ∧ ∀ p ro r, row ≠ .cells (some p) ro r := by
        rw [DOp.move_def] at hmv
        cases hr : (M i).r call s with
        | panic v hp => rw [hr] at hmv; cases hmv
        | fail => rw [hr] at hmv; cases hmv
        | ok s' =>
          rw [hr] at hmv
          cases hnew : (M i).new with
          | false =>
            rw [hnew] at hmv
            have : Out.ok (⟨s.tmps.set ((M i).value s') (M i).d, s.heap⟩ : St) = .ok s1 := hmv
            cases this
            exact .inl ⟨_, by rw [h4], rfl⟩
          | true =>
            rw [hnew] at hmv
            change onSome (isNext s.heap.next ((M i).value s') ((M i).value s')) (fun _ => onSome (s'.heap.get s.heap.next) (fun ob => onSome (newO ob) (fun ob' => Out.ok (⟨s.tmps.set ((M i).value s') (M i).d, s.heap.new ob'⟩ : St)) .fail) .fail) .fail = Out.ok s1 at hmv
            obtain ⟨b, q1, q2⟩ := onSome_ok hmv
            obtain ⟨ob, q3, q4⟩ := onSome_ok q2
            obtain ⟨row, q5, q6⟩ := onSome_ok q4
            cases q6
            obtain ⟨rfl, q7⟩ := newO_spec q5
            refine .inr ⟨_, row, by rw [h4], ?_, q7⟩
            rcases isNext_spec q1 with ⟨e1, _⟩ | ⟨_, _, e1, _⟩ <;> rw [e1] <;> rfl
      have tr' : ∀ (v : AV), ∀ u, (∀ j o, Pend listed (D ++ [i]) j → ops[j]? = some o → o.dst ≠ some u) → VR K σ ((Opd.t (posOf u)).ev (s.tmps.set v (posOf t))) (a.tmps.getD u undef) := fun v u hu => by
        have hne : u ≠ t := fun e => by subst e; exact hu i oper hpi h1 h2
        rw [ev_set_other _ _ (fun e => hne (posOf_inj e))]
        exact hM.tr u fun j o hj => hu j o (pend_mono j hj)
      have old : ∀ (v : AV) j o u, Pend listed D j → ops[j]? = some o → o.dst = some u → (M j).d = posOf u → (Opd.t (M j).d).ev (s.tmps.set v (posOf t)) = (M j).value s := fun v j o u hj ho hu hd => by
        have hne : u ≠ t := fun e => by
          subst e
          have := hA.dst j i o oper u ho h1 hu h2
          subst this
          exact hiD hj.1
        rw [hd, ev_set_other _ _ (fun e => hne (posOf_inj e))]
        unfold DOp.value; rw [hd]
      have hsub' : ∀ j, listed.getD j false = true → j ∈ D ++ [i] := fun j hj => List.mem_append_left _ (hsub j hj)
      have hnd' : (D ++ [i] ++ mv).Nodup := by simpa using hnd
      have fin : ∀ G1, Mid K ops M σ0 h0 listed (D ++ [i]) G1 σ own s1 a w → ∃ G', Mid K ops M σ0 h0 listed (D ++ i :: mv) G' σ own s2 a w := fun G1 hM1 => by
        obtain ⟨G', hG'⟩ := movers_ok hA mv (D ++ [i]) G1 s1 s2 hsub' hnd' (fun j hj => hm j (List.mem_cons_of_mem _ hj)) hM1 h
        exact ⟨G', by simpa using hG'⟩
      rcases key with ⟨v, rfl, hnew⟩ | ⟨v, row, rfl, hb, hgr⟩
      · refine fin G ⟨hM.grow, hM.hr, tr' v, hM.g1, hM.g2, hM.g3, fun j o u hj ho hu hd hn b hb => ?_⟩
        by_cases e : j = i
        · subst e; rw [hnew] at hn; cases hn
        · have hj' : Pend listed D j := ⟨by have := hj.1; simp at this; exact this.resolve_right e, hj.2⟩
          refine hM.g4 j o u hj' ho hu hd hn b ?_
          rw [← old v j o u hj' ho hu hd]; exact hb
      · refine fin ((i, s.heap.next) :: G) ⟨⟨hM.grow.le, hM.grow.keep, by have := hM.grow.next; show _ ≤ (s.heap.next.succ).num; rw [Pos.num_succ]; omega⟩, hM.hr.ghostO hgr, tr' v, fun p hp => ?_, fun p hp hl => ?_, fun p hp q hq e => ?_, fun j o u hj ho hu hd hn b hb' => ?_⟩
        · have hs : (s.heap.new row).next.num = s.heap.next.num + 1 := Pos.num_succ _
          rcases List.mem_cons.1 hp with e | e
          · subst e; exact ⟨hM.grow.next, by simp only [hs]; omega⟩
          · have := hM.g1 p e; exact ⟨this.1, by simp only [hs]; omega⟩
        · rcases List.mem_cons.1 hp with e | e
          · subst e; exact hM.hr.fresh _ (Nat.le_refl _)
          · exact hM.g2 p e hl
        · rcases List.mem_cons.1 hp with e1 | e1 <;> rcases List.mem_cons.1 hq with e2 | e2
          · subst e1; subst e2; rfl
          · subst e1; have := (hM.g1 q e2).2; rw [← e] at this; simp at this
          · subst e2; have := (hM.g1 p e1).2; rw [e] at this; simp at this
          · exact hM.g3 p e1 q e2 e
        · by_cases e : j = i
          · subst e
            have : (M j).value ⟨s.tmps.set v (posOf t), s.heap.new row⟩ = v := by
              unfold DOp.value; rw [h4, ev_set_same]
            rw [this, hb] at hb'
            cases hb'
            exact List.mem_cons_self
          · have hj' : Pend listed D j := ⟨by have := hj.1; simp at this; exact this.resolve_right e, hj.2⟩
            refine List.mem_cons_of_mem _ (hM.g4 j o u hj' ho hu hd hn b ?_)
            rw [← old v j o u hj' ho hu hd]; exact hb'
theorem allSame_mem {call : Caller} {s : St} : ∀ {l : List DOp}, allSame call l s = true → ∀ o ∈ l, o.same call s = true
  | [], _, o, ho => by cases ho
  | x :: l, h, o, ho => by
    obtain ⟨h1, h2⟩ := ifb_tt (show ifb (x.same call s) (allSame call l s) false = true from h)
    rcases List.mem_cons.1 ho with e | e
    · subst e; exact h1
    · exact allSame_mem h2 o e
theorem getD_put (a : Act) {t u : Tmp} {v : Value} (h : t < a.tmps.size) : (a.put (some t) v).tmps.getD u undef = if u = t then v else a.tmps.getD u undef := by
  by_cases e : u = t
  · subst e; rw [if_pos rfl]; simp [Act.put, h]
  · rw [if_neg e]; simp [Act.put, Array.getElem?_setIfInBounds_ne (Ne.symm e)]
theorem listed_set {listed : Array Bool} {i j : Nat} (hi : i < listed.size) : (listed.setIfInBounds i true).getD j false = if j = i then true else listed.getD j false := by
  by_cases e : j = i
  · subst e; rw [if_pos rfl]; simp [hi]
  · rw [if_neg e]; simp [Array.getElem?_setIfInBounds_ne (Ne.symm e)]
theorem value_nd {P : Program} {ρ : Operand → Value} {o : Oper} {v : Value} {w w' : World} (h : (execOp ρ o).run P w = .ok (.value v) w') : NoDefer o := fun c e => by
  unfold execOp at h
  rw [e] at h
  simp only [Sem.run_bind] at h
  cases hr : (resolve ρ c o.type).run P w with
  | ok d w2 => rw [hr] at h; cases h
  | halt x w2 => rw [hr] at h; cases h
theorem mover_step (hA : Apart ops) {call : Caller} {listed : Array Bool} {D E : List Nat} {G : List (Nat × Pos)} {σ : Env} {own : Owns} {s : St} {a : Act} {w : World} (hg : Globs ng σ)
    (hL : Lst ops listed D E) (hlook : LookOK ops D E) (hM : Mid K ops M σ0 h0 listed D G σ own s a w) (hn : n ≤ a.tmps.size) {i : Nat} (hi : Pend listed D i) (hlt : i < ops.size) (hp : ∀ p ∈ predsOf ops i, listed.getD p false = true)
    (hmo : MoverOK P K ng n ops i (M i)) (hsame : (M i).same call s = true) {Rd : Option Nat} {Q : Exit → Act → World → Prop} {N : Act → World → Prop}
    (hN : ∀ σ' own' w' vc o, ops[i]? = some o → Mid K ops M σ0 h0 (listed.setIfInBounds i true) D G σ' own' s (a.put o.dst vc) w' → σ.le σ' → N (a.put o.dst vc) w') : wpOpIn (FR Rd) 0 P ops Q i N a w := by
  obtain ⟨oper, t, h1, h2, h3, h4, hstill, hnew⟩ := hmo.at'
  have hsz : i < listed.size := by rw [hL.size]; exact hlt
  have hta : t < a.tmps.size := Nat.lt_of_lt_of_le h3 hn
  have hFP : FP K σ ops oper s.tmps a := fun u hu => hM.tr u fun j o hj ho hdst => by
    rcases hlook i j oper o u h1 hj.1 ho hu hdst with h | h
    · have := hp j h
      rw [hj.2] at this; cases this
    · have := hL.forced h
      rw [hi.2] at this; cases this
  have pend' : ∀ j, Pend (listed.setIfInBounds i true) D j ↔ Pend listed D j ∧ j ≠ i := fun j => by
    unfold Pend
    rw [listed_set hsz]
    by_cases e : j = i
    · subst e; simp
    · simp [e]
  have tr' : ∀ {σ' : Env} {vc : Value}, σ.le σ' → VR K σ' ((M i).value s) vc → ∀ u, (∀ j o, Pend (listed.setIfInBounds i true) D j → ops[j]? = some o → o.dst ≠ some u) → VR K σ' ((Opd.t (posOf u)).ev s.tmps) ((a.put oper.dst vc).tmps.getD u undef) := fun {σ' vc} hle hv u hu => by
    rw [h2, getD_put a hta]
    by_cases e : u = t
    · subst e; rw [if_pos rfl]; unfold DOp.value at hv; rw [h4] at hv; exact hv
    · rw [if_neg e]
      refine (hM.tr u fun j o hj ho hd => ?_).mono hle
      by_cases e2 : j = i
      · subst e2; rw [h1] at ho; cases ho; rw [h2] at hd; exact e (Option.some.inj hd).symm
      · exact hu j o ((pend' j).2 ⟨hj, e2⟩) ho hd
  unfold wpOpIn
  simp only [h1]
  unfold DOp.same at hsame
  cases hr : (M i).r call s with
  | panic v hp => rw [hr] at hsame; cases hsame
  | fail => rw [hr] at hsame; cases hsame
  | ok s' =>
    rw [hr] at hsame
    cases hnw : (M i).new with
    | false =>
      rw [hnw] at hsame
      have hv : (M i).value s' = (M i).value s := avB_eq hsame
      obtain ⟨vc, k1, k2⟩ := hstill hnw σ own a w s s' call hg hn hFP hM.hr hr
      rw [hv] at k1
      have hM' : Mid K ops M σ0 h0 (listed.setIfInBounds i true) D G σ own s (a.put oper.dst vc) w :=
        ⟨hM.grow, hM.hr, tr' (Env.le.refl σ) k1, hM.g1, fun p hp hl => hM.g2 p hp (by
          rw [listed_set hsz] at hl
          by_cases e : p.1 = i
          · rw [if_pos e] at hl; cases hl
          · rw [if_neg e] at hl; exact hl), hM.g3, fun j o u hj => hM.g4 j o u ((pend' j).1 hj).1⟩
      have := hN σ own w vc oper h1 hM' (Env.le.refl σ)
      split at k2
      · rename_i hw
        rw [if_pos hw]
        refine wpIn_of_run (value_nd k2) ?_
        rw [k2]; exact this
      · rename_i hw
        rw [if_neg hw]
        subst k2
        exact ⟨fun _ _ => trivial, this⟩
    | true =>
      rw [hnw] at hsame
      obtain ⟨hw, hng⟩ := hnew hnw σ own a w s s' call hg hn hFP hM.hr hr
      change onSome (isNext s.heap.next ((M i).value s') ((M i).value s)) (fun b => onSome (s'.heap.get s.heap.next) (fun ob => onSome (newO ob) (fun o1 =>
        onSome (s.heap.get b) (fun ob' => objB o1 ob') false) false) false) false = true at hsame
      have os : ∀ {α : Type} {x : Option α} {f : α → Bool}, onSome x f false = true → ∃ y, x = some y ∧ f y = true := fun {α x f} h => by
        cases x with
        | none => cases h
        | some y => exact ⟨y, rfl, h⟩
      obtain ⟨b, q1, q2⟩ := os hsame
      obtain ⟨ob, q3, q4⟩ := os q2
      obtain ⟨o1, q5, q6⟩ := os q4
      obtain ⟨ob', q7, q8⟩ := os q6
      obtain ⟨rfl, -⟩ := newO_spec q5
      have eo := objB_eq q8
      subst eo
      have hblk : blk ((M i).value s) = some b := by rcases isNext_spec q1 with ⟨_, e1⟩ | ⟨_, _, _, e1⟩ <;> rw [e1] <;> rfl
      have hG := hM.g4 i oper t hi h1 h2 h4 hnw b hblk
      obtain ⟨hb1, hb2⟩ := hM.g1 _ hG
      have hbn : σ b = none := hM.g2 _ hG hi.2
      rcases hng with ⟨l, c, e, v, vc, n1, n2, n3, n4, n5, n6⟩ | ⟨l, m, sz, vc, n1, n2, n3, n4⟩
      case inr =>
        rw [n4, AHeap.get_new, if_pos rfl] at q3
        cases q3
        have hv' : (M i).value s' = .slice s.heap.next 0 m sz := by unfold DOp.value; rw [h4, n3, h2]; exact ev_set_same _ _ _
        rw [hv'] at q1
        have hle : σ.le (σ.add b l) := Env.le_add _ hbn
        have hv : VR K (σ.add b l) ((M i).value s) vc := by
          rcases isNext_spec q1 with ⟨e1, e2⟩ | ⟨m', z, e1, e2⟩
          · cases e1
          · cases e1
            rw [e2, n2]; exact ⟨_, Env.add_same _ _ _, by simp⟩
        have hM' : Mid K ops M σ0 h0 (listed.setIfInBounds i true) D G (σ.add b l) own s (a.put oper.dst vc) w :=
          ⟨⟨hM.grow.le.trans hle, fun b' hb' => by rw [Env.add_other _ _ (fun e => by subst e; simp at hb1; omega)]; exact hM.grow.keep b' hb', hM.grow.next⟩, hM.hr.lateDead q7 hbn hb2, tr' hle hv, hM.g1, fun p hp hl => by
            rw [listed_set hsz] at hl
            by_cases e : p.1 = i
            · rw [if_pos e] at hl; cases hl
            · rw [if_neg e] at hl
              rw [Env.add_other _ _ (fun e2 => e (hM.g3 p hp _ hG e2))]
              exact hM.g2 p hp hl, hM.g3, fun j o u hj => hM.g4 j o u ((pend' j).1 hj).1⟩
        rw [if_pos hw]
        refine wpIn_of_run (value_nd n1) ?_
        rw [n1]
        exact hN _ _ _ vc oper h1 hM' hle
      have hv' : (M i).value s' = v := by unfold DOp.value; rw [h4, n5, h2]; exact ev_set_same _ _ _
      rw [n6, AHeap.get_new, if_pos rfl] at q3
      cases q3
      rw [hv'] at q1
      have hle : σ.le (σ.add b ⟨w.heap.size, 0, c.size⟩) := Env.le_add _ hbn
      have hv : VR K (σ.add b ⟨w.heap.size, 0, c.size⟩) ((M i).value s) vc := by
        rcases isNext_spec q1 with ⟨e1, e2⟩ | ⟨m, z, e1, e2⟩
        · rcases n4 with ⟨f1, f2⟩ | ⟨m', z', f1, f2⟩
          · rw [e2, f2]; exact ⟨_, Env.add_same _ _ _, rfl⟩
          · rw [f1] at e1; cases e1
        · rcases n4 with ⟨f1, f2⟩ | ⟨m', z', f1, f2⟩
          · rw [f1] at e1; cases e1
          · rw [f1] at e1; cases e1
            rw [e2, f2]; exact ⟨_, Env.add_same _ _ _, by simp⟩
      have hM' : Mid K ops M σ0 h0 (listed.setIfInBounds i true) D G (σ.add b ⟨w.heap.size, 0, c.size⟩) (own.add w.heap.size (false, b)) s (a.put oper.dst vc) (w.alloc (.cells c e)) :=
        ⟨⟨hM.grow.le.trans hle, fun b' hb' => by rw [Env.add_other _ _ (fun e => by subst e; simp at hb1; omega)]; exact hM.grow.keep b' hb', hM.grow.next⟩, hM.hr.late q7 hbn hb2 n2 n3, tr' hle hv, hM.g1, fun p hp hl => by
          rw [listed_set hsz] at hl
          by_cases e : p.1 = i
          · rw [if_pos e] at hl; cases hl
          · rw [if_neg e] at hl
            rw [Env.add_other _ _ (fun e2 => e (hM.g3 p hp _ hG e2))]
            exact hM.g2 p hp hl, hM.g3, fun j o u hj => hM.g4 j o u ((pend' j).1 hj).1⟩
      rw [if_pos hw]
      refine wpIn_of_run (value_nd n1) ?_
      rw [n1]
      exact hN _ _ _ vc oper h1 hM' hle
end
end Go.Eng
namespace Go.Eng
open Go.RowKit
section
variable {P : Program} {K : Ctx} {ng n : Nat} {ops : Array Oper} {M : Nat → DOp} {σ0 : Env} {h0 : AHeap} {Rd : Option Nat} {dd : List Deferred}
def SRd (K : Ctx) (n : Nat) (σ : Env) (h0 : AHeap) (dd : List Deferred) (s : St) (a : Act) (w : World) : Prop :=
  (∃ σ' own', Grow σ σ' h0 s.heap ∧ HR K σ' own' s.heap w ∧ TR K σ' s.tmps a) ∧ n ≤ a.tmps.size ∧ a.defers = dd
def LandsO (K : Ctx) (n : Nat) (σ : Env) (h0 : AHeap) (dd : List Deferred) (r : Out St) : Exit → Act → World → Prop :=
  match r with
  | .ok s => fun x a w => x = .normal ∧ SRd K n σ h0 dd s a w
  | .panic v h => fun x a w => a.defers = dd ∧ ∃ vc, x = .panic [{ v := vc, recovered := false }] ∧ After K σ h0 h w v vc
  | .fail => fun _ _ _ => True
noncomputable def cnt (listed : Array Bool) : Nat := listed.toList.countP id
theorem cnt_all {listed : Array Bool} (h : cnt listed = listed.size) (i : Nat) (hi : i < listed.size) : listed.getD i false = true := by
  unfold cnt at h
  have : ∀ x ∈ listed.toList, id x = true := List.countP_eq_length.1 (by rw [h]; simp)
  have := this listed[i] (by simp)
  simpa [hi] using this
theorem cnt_le (listed : Array Bool) : cnt listed ≤ listed.size := by
  have := List.countP_le_length (p := id) (l := listed.toList)
  simpa [cnt] using this
theorem cnt_set {listed : Array Bool} {i : Nat} (hi : i < listed.size) (h : listed.getD i false = false) : cnt (listed.setIfInBounds i true) = cnt listed + 1 := by
  unfold cnt
  have hget : listed[i] = false := by simpa [hi] using h
  rw [Array.toList_setIfInBounds, List.countP_set (by simpa using hi)]
  simp [hget]
theorem lst_set {listed : Array Bool} {D E : List Nat} {i : Nat} (hL : Lst ops listed D E) (hi : i ∈ D) (hlt : i < ops.size) (hp : ∀ p ∈ predsOf ops i, listed.getD p false = true) :
    Lst ops (listed.setIfInBounds i true) D E := by
  have hsz : i < listed.size := by rw [hL.size]; exact hlt
  have up : ∀ j, listed.getD j false = true → (listed.setIfInBounds i true).getD j false = true := fun j hj => by
    rw [listed_set hsz]; split
    · rfl
    · exact hj
  refine ⟨by simp [hL.size], fun j hj => ?_, fun j hj p hpj => ?_, fun e he => up e (hL.effs e he)⟩
  · rw [listed_set hsz] at hj
    split at hj
    · rename_i e; subst e; exact hi
    · exact hL.sub j hj
  · rw [listed_set hsz] at hj
    split at hj
    · rename_i e; subst e; exact up p (hp p hpj)
    · exact up p (hL.closed j hj p hpj)
theorem lst_eff {listed : Array Bool} {D E : List Nat} {e : Nat} (hL : Lst ops listed D E) (hlt : e < ops.size) (hp : ∀ p ∈ predsOf ops e, listed.getD p false = true) :
    Lst ops (listed.setIfInBounds e true) (D ++ [e]) (e :: E) := by
  have hsz : e < listed.size := by rw [hL.size]; exact hlt
  have up : ∀ j, listed.getD j false = true → (listed.setIfInBounds e true).getD j false = true := fun j hj => by
    rw [listed_set hsz]; split
    · rfl
    · exact hj
  refine ⟨by simp [hL.size], fun j hj => ?_, fun j hj p hpj => ?_, fun x hx => ?_⟩
  · rw [listed_set hsz] at hj
    split at hj
    · rename_i e; subst e; simp
    · exact List.mem_append_left _ (hL.sub j hj)
  · rw [listed_set hsz] at hj
    split at hj
    · rename_i e; subst e; exact up p (hp p hpj)
    · exact up p (hL.closed j hj p hpj)
  · rcases List.mem_cons.1 hx with e | hx
    · subst e; rw [listed_set hsz, if_pos rfl]
    · exact up x (hL.effs x hx)
theorem getD_true {listed : Array Bool} {i : Nat} (h : listed.getD i true = false) : listed.getD i false = false ∧ i < listed.size := by
  by_cases hi : i < listed.size
  · exact ⟨by simpa [hi] using h, hi⟩
  · simp [hi] at h
theorem getD_true' {listed : Array Bool} {i : Nat} (h : listed.getD i false = false) (hi : i < listed.size) : listed.getD i true = false := by
  simpa [hi] using h
theorem none_ready {listed : Array Bool} {D E : List Nat} (hL : Lst ops listed D E) (ho : Ord ops D) (hlt : ∀ i ∈ D, i < ops.size) (hr : Region.ready .any ops listed = []) : ∀ i ∈ D, listed.getD i false = true := by
  intro i hi
  cases hq : listed.getD i false with
  | true => rfl
  | false =>
    obtain ⟨l1, j, l2, e1, e2, e3⟩ := first_out (q := fun i => listed.getD i false) ⟨i, hi, hq⟩
    have hj : j ∈ D := by rw [e1]; simp
    have : j ∈ Region.ready .any ops listed := preds_ready (getD_true' e3 (by rw [hL.size]; exact hlt j hj)) (hlt j hj) fun p hp => e2 p (ho l1 j l2 e1 p hp)
    rw [hr] at this; cases this
theorem Mid.done {listed : Array Bool} {D : List Nat} {G : List (Nat × Pos)} {σ : Env} {own : Owns} {s : St} {a : Act} {w : World} (hM : Mid K ops M σ0 h0 listed D G σ own s a w)
    (h : ∀ i ∈ D, listed.getD i false = true) (hn : n ≤ a.tmps.size) (hd : a.defers = dd) : SRd K n σ0 h0 dd s a w :=
  ⟨⟨σ, own, hM.grow, hM.hr, fun t => hM.tr t fun i o hi => absurd (h i hi.1) (by rw [hi.2]; simp)⟩, hn, hd⟩
theorem phase_last (hA : Apart ops) {call : Caller} {D E ck : List Nat} (hlook : LookOK ops D E) (ho : Ord ops D) (hlt : ∀ i, i ∈ D → i < ops.size) (hall : ∀ i, i < ops.size → i ∈ D) (hck : ∀ i ∈ ck, MoverOK P K ng n ops i (M i)) (hcov : ∀ i ∈ D, i ∈ ck ∨ Forced ops E i)
    {s : St} (hsame : allSame call (ck.map M) s = true) {Q : Exit → Act → World → Prop} (hQ : ∀ a w, SRd K n σ0 h0 dd s a w → Q .normal a w) :
    ∀ (fuel : Nat) (listed : Array Bool) (G : List (Nat × Pos)) (σ : Env) (own : Owns) (a : Act) (w : World), cnt listed + fuel = ops.size → Globs ng σ → Lst ops listed D E → Mid K ops M σ0 h0 listed D G σ own s a w → n ≤ a.tmps.size → a.defers = dd →
      wpAnyIn (FR Rd) 0 P .any ops Q fuel listed a w
  | 0, listed, G, σ, own, a, w, hc, hg, hL, hM, hn, hd => by
    have hall' : ∀ i, i < ops.size → listed.getD i false = true := fun i hi => cnt_all (by rw [hL.size]; omega) i (by rw [hL.size]; exact hi)
    refine ⟨?_, hQ a w (hM.done (fun i hi => hall' i (hlt i hi)) hn hd)⟩
    cases hr : Region.ready .any ops listed with
    | nil => rfl
    | cons i l =>
      obtain ⟨h1, h2, _⟩ := ready_preds (by rw [hr]; exact List.mem_cons_self : i ∈ Region.ready .any ops listed)
      have := hall' i h2
      rw [(getD_true h1).1] at this; cases this
  | fuel + 1, listed, G, σ, own, a, w, hc, hg, hL, hM, hn, hd => by
    refine ⟨fun hr => hQ a w (hM.done (none_ready hL ho hlt hr) hn hd), fun i hi => ?_⟩
    obtain ⟨h1, h2, h3⟩ := ready_preds hi
    obtain ⟨h4, h5⟩ := getD_true h1
    have hiD := hall i h2
    have hick : i ∈ ck := (hcov i hiD).resolve_right fun hf => by have := hL.forced hf; rw [h4] at this; cases this
    refine mover_step hA hg hL hlook hM hn ⟨hiD, h4⟩ h2 h3 (hck i hick) (allSame_mem hsame _ (List.mem_map.2 ⟨i, hick, rfl⟩)) fun σ' own' w' vc o ho' hM' hle => ?_
    exact phase_last hA hlook ho hlt hall hck hcov hsame hQ fuel _ G σ' own' _ w' (by rw [cnt_set h5 h4]; omega) (hg.mono hle) (lst_set hL hiD h2 h3) hM' (by rw [put_size]; exact hn) (by rw [put_defers]; exact hd)
theorem possB_eq : ∀ {l m : List Pos}, possB l m = true → l = m
  | [], m, h => by cases m <;> first | rfl | cases h
  | x :: l, m, h => by
    cases m with
    | nil => cases h
    | cons y m =>
      obtain ⟨h1, h2⟩ := ifb_tt (show ifb (x.eqb y) (possB l m) false = true from h)
      rw [peq h1, possB_eq h2]
theorem heapB_eq {x y : AHeap} (h : heapB x y = true) : x = y := by
  obtain ⟨a, b, c⟩ := x
  obtain ⟨a', b', c'⟩ := y
  obtain ⟨h1, h2⟩ := ifb_tt (show ifb (a.eqb a') (ifb (ptB objB b b') (ptB possB c c') false) false = true from h)
  obtain ⟨h3, h4⟩ := ifb_tt h2
  rw [peq h1, ptB_eq (fun _ _ => objB_eq) h3, ptB_eq (fun _ _ => possB_eq) h4]
theorem exB_eq {x y : Out St} (h : exB x y = true) : x = y := by
  cases x <;> cases y <;> first | (cases h; done) | skip
  · rename_i s s'
    obtain ⟨a, b⟩ := s
    obtain ⟨a', b'⟩ := s'
    obtain ⟨h1, h2⟩ := ifb_tt (show ifb (ptB avB a a') (heapB b b') false = true from h)
    rw [ptB_eq (fun _ _ => avB_eq) h1, heapB_eq h2]
  · rename_i v hh v' hh'
    obtain ⟨h1, h2⟩ := ifb_tt (show ifb (avB v v') (heapB hh hh') false = true from h)
    rw [avB_eq h1, heapB_eq h2]
def EffOK (P : Program) (K : Ctx) (ng n : Nat) (ops : Array Oper) (M : Nat → DOp) (σ0 : Env) (h0 : AHeap) (Rd : Option Nat) (dd : List Deferred) (call : Caller) (Q : Exit → Act → World → Prop) (s : St) (D E : List Nat) (e : Nat) : Prop :=
  e ∉ D ∧ ∃ oe r, ops[e]? = some oe ∧ DstOK n oe ∧ StepOK P K ng n ops oe r ∧ (∀ p ∈ predsOf ops e, p ∈ D) ∧ r call s ≠ .fail ∧
    (∀ v h' a w vc, r call s = .panic v h' → a.defers = dd → After K σ0 h0 h' w v vc → Q (.panic [{ v := vc, recovered := false }]) a w) ∧
    (∀ s1 fuel listed G σ own a w, r call s = .ok s1 → cnt listed + fuel = ops.size → Globs ng σ → Lst ops listed (D ++ [e]) (e :: E) → Mid K ops M σ0 h0 listed (D ++ [e]) G σ own s1 a w → n ≤ a.tmps.size → a.defers = dd → wpAnyIn (FR Rd) 0 P .any ops Q fuel listed a w)
theorem phase_step (hA : Apart ops) {call : Caller} (hcall : CallOK P K ng call) {D E ck : List Nat} (hlook : LookOK ops D E) (ho : Ord ops D) (hlt : ∀ i, i ∈ D → i < ops.size) (hck : ∀ i ∈ ck, MoverOK P K ng n ops i (M i)) (hcov : ∀ i ∈ D, i ∈ ck ∨ Forced ops E i)
    {s : St} (hsame : allSame call (ck.map M) s = true) {Q : Exit → Act → World → Prop}
    (hnext : ∀ i, i < ops.size → i ∈ D ∨ EffOK P K ng n ops M σ0 h0 Rd dd call Q s D E i ∨ ∃ p ∈ predsOf ops i, p ∉ D) (hex : ∃ e, EffOK P K ng n ops M σ0 h0 Rd dd call Q s D E e) :
    ∀ (fuel : Nat) (listed : Array Bool) (G : List (Nat × Pos)) (σ : Env) (own : Owns) (a : Act) (w : World), cnt listed + fuel = ops.size → Globs ng σ → Lst ops listed D E → Mid K ops M σ0 h0 listed D G σ own s a w → n ≤ a.tmps.size → a.defers = dd →
      wpAnyIn (FR Rd) 0 P .any ops Q fuel listed a w
  | 0, listed, G, σ, own, a, w, hc, hg, hL, hM, hn, hd => by
    obtain ⟨e, heD, oe, r, hoe, -⟩ := hex
    have : listed.getD e false = true := cnt_all (by rw [hL.size]; omega) e (by rw [hL.size]; exact (Array.getElem?_eq_some_iff.1 hoe).1)
    exact absurd (hL.sub e this) heD
  | fuel + 1, listed, G, σ, own, a, w, hc, hg, hL, hM, hn, hd => by
    refine ⟨fun hr => ?_, fun i hi => ?_⟩
    · obtain ⟨e, heD, oe, r, hoe, _, _, hpe, -⟩ := hex
      have hesz : e < ops.size := (Array.getElem?_eq_some_iff.1 hoe).1
      have heun : listed.getD e false = false := by
        cases h : listed.getD e false with
        | false => rfl
        | true => exact absurd (hL.sub e h) heD
      have hall := none_ready hL ho hlt hr
      have : e ∈ Region.ready .any ops listed := preds_ready (getD_true' heun (by rw [hL.size]; exact hesz)) hesz fun p hp => hall p (hpe p hp)
      rw [hr] at this; cases this
    · obtain ⟨h1, h2, h3⟩ := ready_preds hi
      obtain ⟨h4, h5⟩ := getD_true h1
      by_cases hiD : i ∈ D
      · have hick : i ∈ ck := (hcov i hiD).resolve_right fun hf => by have := hL.forced hf; rw [h4] at this; cases this
        refine mover_step hA hg hL hlook hM hn ⟨hiD, h4⟩ h2 h3 (hck i hick) (allSame_mem hsame _ (List.mem_map.2 ⟨i, hick, rfl⟩)) fun σ' own' w' vc o ho' hM' hle => ?_
        exact phase_step hA hcall hlook ho hlt hck hcov hsame hnext hex fuel _ G σ' own' _ w' (by rw [cnt_set h5 h4]; omega) (hg.mono hle) (lst_set hL hiD h2 h3) hM' (by rw [put_size]; exact hn) (by rw [put_defers]; exact hd)
      · have heff : EffOK P K ng n ops M σ0 h0 Rd dd call Q s D E i := by
          rcases hnext i h2 with h | h | ⟨p, hp, hpD⟩
          · exact absurd h hiD
          · exact h
          · exact absurd (hL.sub p (h3 p hp)) hpD
        obtain ⟨_, oe, r, hoe, hde, hst, hpe, hnf, hpan, hok⟩ := heff
        have hFP : FP K σ ops oe s.tmps a := fun u hu => hM.tr u fun j o hj ho' hdst => by
          rcases hlook i j oe o u hoe hj.1 ho' hu hdst with h | h
          · have := h3 j h
            rw [hj.2] at this; cases this
          · have := hL.forced h
            rw [h4] at this; cases this
        have hL' := lst_eff hL h2 h3
        have pend' : ∀ j, Pend (listed.setIfInBounds i true) (D ++ [i]) j ↔ Pend listed D j := fun j => by
          unfold Pend
          rw [listed_set h5]
          by_cases e' : j = i
          · subst e'; simp [hiD]
          · simp [e']
        have main := hst Rd σ own a w s call (wpAnyIn (FR Rd) 0 P .any ops Q fuel (listed.setIfInBounds i true)) Q hcall hg hn hFP hM.hr (by
          cases hr : r call s with
          | fail => exact absurd hr hnf
          | panic v h' =>
            intro vc w' hAf
            exact hpan v h' a w' vc hr hd (hAf.grow hM.grow)
          | ok s1 =>
            intro v vc σ' own' w' k1 k2 k3 k4
            have hdl : ∀ t, oe.dst = some t → t < a.tmps.size := fun t ht => Nat.lt_of_lt_of_le (hde t ht) hn
            refine hok s1 fuel _ G σ' own' _ w' hr (by rw [cnt_set h5 h4]; omega) (hg.mono k2.le) hL' ⟨hM.grow.trans k2, k3, fun u hu => ?_, fun p hp => ?_, fun p hp hl => ?_, hM.g3, fun j o u hj ho' hdst hd' hnw b hb => ?_⟩ (by rw [put_size]; exact hn) (by rw [put_defers]; exact hd)
            · have hold : ∀ j o, Pend listed D j → ops[j]? = some o → o.dst ≠ some u := fun j o hj ho' => hu j o ((pend' j).2 hj) ho'
              rw [k4]
              cases hdst : oe.dst with
              | none =>
                show VR K σ' ((Opd.t (posOf u)).ev s.tmps) (a.tmps.getD u undef)
                exact (hM.tr u hold).mono k2.le
              | some t =>
                rw [getD_put a (hdl t hdst)]
                show VR K σ' ((Opd.t (posOf u)).ev (s.tmps.set v (posOf t))) _
                by_cases e' : u = t
                · subst e'; rw [if_pos rfl, ev_set_same]; exact k1
                · rw [if_neg e', ev_set_other _ _ (fun h => e' (posOf_inj h))]; exact (hM.tr u hold).mono k2.le
            · have := hM.g1 p hp
              exact ⟨this.1, Nat.lt_of_lt_of_le this.2 k2.next⟩
            · rw [k2.keep _ (hM.g1 p hp).2]
              refine hM.g2 p hp ?_
              rw [listed_set h5] at hl
              split at hl
              · cases hl
              · exact hl
            · have hj' := (pend' j).1 hj
              refine hM.g4 j o u hj' ho' hdst hd' hnw b ?_
              have : (M j).value s1 = (M j).value s := by
                unfold DOp.value
                rw [k4, hd']
                cases hdst' : oe.dst with
                | none => rfl
                | some t =>
                  refine ev_set_other _ _ fun h => ?_
                  have := posOf_inj h
                  subst this
                  have := hA.dst j i o oe u ho' hoe hdst hdst'
                  subst this
                  exact hiD hj'.1
              rw [← this]; exact hb)
        unfold Steps1 at main
        unfold wpOpIn
        simp only [hoe]
        exact main
theorem batches_ok (hA : Apart ops) {call : Caller} (hcall : CallOK P K ng call) {k : Option (List Nat)} {D E : List Nat} {bs : BT} (hS : Sched P K ng n ops M k D E bs) :
    match k with
    | none => ∀ (fuel : Nat) (listed : Array Bool) (G : List (Nat × Pos)) (σ : Env) (own : Owns) (s : St) (a : Act) (w : World), cnt listed + fuel = ops.size → Globs ng σ → Lst ops listed D E → Mid K ops M σ0 h0 listed D G σ own s a w → n ≤ a.tmps.size → a.defers = dd →
      runBatches call bs s ≠ .fail → wpAnyIn (FR Rd) 0 P .any ops (LandsO K n σ0 h0 dd (runBatches call bs s)) fuel listed a w
    | some es => ∀ s, runBatches call bs s ≠ .fail → (es = [] → bs = .last ∧ ∀ i, i < ops.size → i ∈ D) ∧ ∀ e ∈ es, EffOK P K ng n ops M σ0 h0 Rd dd call (LandsO K n σ0 h0 dd (runBatches call bs s)) s D E e := by
  induction hS with
  | @last D E hall => exact fun s _ => ⟨fun _ => ⟨rfl, hall⟩, fun e he => by cases he⟩
  | @alt1 D E e o r b heD hoe hde hst hpe hS ih =>
    intro s hf
    have hdef : runBatches call (.alt1 r b) s = Out.rec (motive := fun _ => Out St) (runBatches call b) .panic .fail (r call s) := runBatches_alt1 call r b s
    refine ⟨fun h => by (cases h), fun e' he' => ?_⟩
    simp only [List.mem_singleton] at he'
    subst he'
    refine ⟨heD, o, r, hoe, hde, hst, hpe, fun hr => hf (by rw [hdef, hr]), fun v h' a w vc hr hd hAf => ?_, fun s1 fuel listed G σ own a w hr k2 k3 k4 k5 k6 k7 => ?_⟩
    · rw [hdef, hr]; exact ⟨hd, vc, rfl, hAf⟩
    · rw [hdef, hr] at hf ⊢
      exact ih fuel listed G σ own s1 a w k2 k3 k4 k5 k6 k7 hf
  | @alt D E es e o r b more heD hoe hde hst hpe hS hS' ih ih' =>
    intro s hf
    have hdef : runBatches call (.alt r b more) s = ifb (exB (Out.rec (motive := fun _ => Out St) (runBatches call b) .panic .fail (r call s)) (runBatches call more s)) (Out.rec (motive := fun _ => Out St) (runBatches call b) .panic .fail (r call s)) .fail := runBatches_alt call r b more s
    cases hx : exB (Out.rec (motive := fun _ => Out St) (runBatches call b) .panic .fail (r call s)) (runBatches call more s) with
    | false => rw [hdef, hx] at hf; exact absurd rfl hf
    | true =>
      rw [hx] at hdef
      have hdef' : runBatches call (.alt r b more) s = Out.rec (motive := fun _ => Out St) (runBatches call b) .panic .fail (r call s) := hdef
      have hsame := exB_eq hx
      rw [← hsame, ← hdef'] at hsame
      refine ⟨fun h => by (cases h), fun e' he' => ?_⟩
      rcases List.mem_cons.1 he' with h | h
      · subst h
        refine ⟨heD, o, r, hoe, hde, hst, hpe, fun hr => hf (by rw [hdef', hr]), fun v h' a w vc hr hd hAf => ?_, fun s1 fuel listed G σ own a w hr k2 k3 k4 k5 k6 k7 => ?_⟩
        · rw [hdef', hr]; exact ⟨hd, vc, rfl, hAf⟩
        · rw [hdef', hr] at hf ⊢
          exact ih fuel listed G σ own s1 a w k2 k3 k4 k5 k6 k7 hf
      · have hm : runBatches call (.alt r b more) s = runBatches call more s := by rw [hdef']; exact exB_eq hx
        rw [hm] at hf ⊢
        exact (ih' s hf).2 e' h
  | @node D E mv ck es alts hB hnext hS ih =>
    intro fuel listed G σ own s a w hc hg hL hM hn hd hf
    have hdef : runBatches call (.node (mv.map M) (ck.map M) alts) s = Out.rec (motive := fun _ => Out St) (fun s1 => ifb (allSame call (ck.map M) s1) (runBatches call alts s1) .fail) (fun _ _ => .fail) .fail (runMovers call (mv.map M) s) := rfl
    rw [hdef] at hf ⊢
    cases hr : runMovers call (mv.map M) s with
    | fail => rw [hr] at hf; exact absurd rfl hf
    | panic v h' => rw [hr] at hf; exact absurd rfl hf
    | ok s2 =>
      rw [hr] at hf
      obtain ⟨G', hM'⟩ := movers_ok hA mv D G s s2 hL.sub hB.nodup hB.mvs hM hr
      cases hs : allSame call (ck.map M) s2 with
      | false => exact absurd (by simp only [hs]; rfl) hf
      | true =>
        simp only [hs] at hf ⊢
        have hf' : runBatches call alts s2 ≠ .fail := hf
        show wpAnyIn (FR Rd) 0 P .any ops (LandsO K n σ0 h0 dd (runBatches call alts s2)) fuel listed a w
        have hL' : Lst ops listed (D ++ mv) E := ⟨hL.size, fun i hi => List.mem_append_left _ (hL.sub i hi), hL.closed, hL.effs⟩
        obtain ⟨q1, q2⟩ := ih s2 hf'
        cases es with
        | nil =>
          obtain ⟨rfl, hall⟩ := q1 rfl
          exact phase_last hA hB.look hB.ord hB.lt hall hB.cks hB.cov hs (fun a w h => ⟨rfl, h⟩) fuel listed G' σ own a w hc hg hL' hM' hn hd
        | cons e es =>
          exact phase_step hA hcall hB.look hB.ord hB.lt hB.cks hB.cov hs (fun i hi => (hnext i hi).imp id (Or.imp (q2 i) id)) ⟨e, q2 e List.mem_cons_self⟩ fuel listed G' σ own a w hc hg hL' hM' hn hd
theorem CodeOK.draw {R : Option Nat} {id : Nat} {bs : BT} (hmix : P.follows .mixedOrders = true) (hA : Apart ops) (hS : Sched P K ng n ops M none [] [] bs) : CodeOK P K ng n R (.region id ops true) (.draw bs) := by
  intro callY Y lf hc hY σ own a w s ds hg hH hT hn hd hf
  have hdef : exec callY Y lf (.draw bs) s ds = [Ex.ofOut (runBatches (detC (callY Y)) bs s) ds] := rfl
  rw [hdef] at hf ⊢
  have hf' := hf _ (List.mem_singleton.2 rfl)
  refine wpIn_mono (wpIn_region_any hmix (batches_ok (σ0 := σ) (h0 := s.heap) (Rd := R) (dd := a.defers) hA (hc Y hY).det hS ops.size _ [] σ own s a w.drew ?_ hg ?_ ?_ hn rfl (fun e => hf' (by rw [e]; rfl)))) fun x a' w' hl => ⟨_, List.mem_singleton.2 rfl, ?_⟩
  · have : cnt (Array.replicate ops.size false) = 0 := by
      unfold cnt
      rw [List.countP_eq_zero]
      intro x hx
      simp at hx
      simp [hx.2]
    omega
  · have hno : ∀ i, (Array.replicate ops.size false).getD i false = false := fun i => by
      by_cases hi : i < ops.size <;> simp [hi]
    refine ⟨by simp, fun i hi => ?_, fun i hi => ?_, fun e he => by cases he⟩
    · rw [hno] at hi; cases hi
    · rw [hno] at hi; cases hi
  · exact ⟨Grow.refl _ _, hH.drew, fun t _ => hT t, (fun p hp => by cases hp), (fun p hp => by cases hp), (fun p hp => by cases hp), (fun i o t hi => by cases hi.1)⟩
  · cases hr : runBatches (detC (callY Y)) bs s with
    | ok s' =>
      rw [hr] at hl
      obtain ⟨h1, ⟨σ', own', g1, g2, g3⟩, g4, g5⟩ := hl
      exact ⟨h1, ⟨σ', own', g1, g2, g3, by rw [g5]; exact hd.mono g1.le⟩, g4⟩
    | panic v h' =>
      rw [hr] at hl hf'
      obtain ⟨h1, vc, rfl, h3⟩ := hl
      exact PanK.lands (a0 := a) hd hf' ⟨h3, h1⟩
    | fail => rw [hr] at hf'; exact absurd rfl hf'
end
end Go.Eng
namespace Go.Eng
open Go.RowKit
inductive IT where
  | last
  | alt1 (e : Nat) (b : IT)
  | alt (e : Nat) (b more : IT)
  | node (mv ck : List Nat) (alts : IT)
  deriving Inhabited
def IT.heads : IT → List Nat
  | .alt1 e _ => [e]
  | .alt e _ more => e :: more.heads
  | _ => []
noncomputable section
variable (ng : Nat) (cst : Value → Option AV) (T : Nat → Option TI) (ptrs : PO) (n : Nat) (ops : Array Oper)
def oneC (o : Operand) : Bool := match o with | .const (.int .i64 (.ofNat 1)) => true | _ => false
def compGhost (D : Option Pos) (op : Op) : Option Run :=
  match op with
  | .slice t x (some lo) none none => if oneC lo then (opd ng cst x).bind fun X => (T t).bind fun i => match i.k with
      | .slice e => (T e).bind fun j => if Nat.beq j.n 0 then none else some (rSliceE j.n X D)
      | _ => none
    else none
  | _ => none
def compMover (o : Oper) : Option DOp := o.dst.bind fun t => if Nat.ble (Nat.succ t) n then
  match o.guard with
  | none => match compStill ng cst T ptrs (some (posOf t)) o.op with
    | some r => some ⟨false, pureR r, posOf t⟩
    | none => match compNew ng cst T (some (posOf t)) o.op with
      | some r => some ⟨true, pureR r, posOf t⟩
      | none => (compGhost ng cst T (some (posOf t)) o.op).bind fun r => some ⟨true, pureR r, posOf t⟩
  | some (j, want) => ((ops[j]?).bind (·.dst)).bind fun u => (compStill ng cst T ptrs (some (posOf t)) o.op).bind fun r => some ⟨false, rGuard (posOf u) want (some (posOf t)) (pureR r), posOf t⟩
  else none
def hazB (i : Nat) (o : Oper) : Bool := match o.op with
  | .assign _ => match o.dst with
    | some t => (List.range ops.size).any fun k => match ops[k]? with
        | some o' => !(Nat.beq k i) && (o'.looksAt ops).contains t && !(predsOf ops k).contains i
        | none => false
    | none => false
  | _ => false
def isMover (i : Nat) : Bool := match ops[i]? with | some o => (compMover ng cst T ptrs n ops o).isSome && !hazB ops i o | none => false
def moverAt (i : Nat) : DOp := match ops[i]? with | some o => (compMover ng cst T ptrs n ops o).getD ⟨false, rFail, .h⟩ | none => ⟨false, rFail, .h⟩
def effAt (i : Nat) : Run := match ops[i]? with | some o => (compOper ng cst T ptrs n ops o).getD rFail | none => rFail
def insN (l : List Nat) (F : List Nat) : List Nat := match l with | [] => F | p :: l => if F.contains p then insN l F else p :: insN l F
def forcedL (E : List Nat) : Nat → List Nat
  | 0 => E
  | m + 1 => insN ((forcedL E m).flatMap (predsOf ops)) (forcedL E m)
def closeM : Nat → List Nat → List Nat
  | 0, _ => []
  | m + 1, D => match (List.range ops.size).find? (fun i => !D.contains i && isMover ng cst T ptrs n ops i && (predsOf ops i).all D.contains) with
    | some i => i :: closeM m (D ++ [i])
    | none => []
def altsOf (f : Nat → Option IT) : List Nat → Option IT
  | [] => some .last
  | [e] => (f e).bind fun b => some (.alt1 e b)
  | e :: es => (f e).bind fun b => (altsOf f es).bind fun more => some (.alt e b more)
def findS : Nat → List Nat → List Nat → Option IT
  | 0, _, _ => none
  | m + 1, D, E =>
    let mv := closeM ng cst T ptrs n ops ops.size D
    let D' := D ++ mv
    let F := forcedL ops E ops.size
    let ck := D'.filter fun i => !F.contains i
    (altsOf (fun e => findS m (D' ++ [e]) (e :: E)) ((List.range ops.size).filter (fun i => !D'.contains i && (predsOf ops i).all D'.contains))).bind fun alts => some (.node mv ck alts)
def apartB : Bool := (List.range ops.size).all fun i => (List.range ops.size).all fun j =>
  match ops[i]?, ops[j]? with
  | some o, some o' => (match o'.dst with
      | some t => (i == j || o.dst != some t)
      | none => true)
  | _, _ => true
def ordB : List Nat → List Nat → Bool
  | _, [] => true
  | D, i :: l => !D.contains i && Nat.ble (Nat.succ i) ops.size && (predsOf ops i).all D.contains && ordB (D ++ [i]) l
def lookB (D F : List Nat) : Bool := D.all fun j => match ops[j]? with
  | some o' => (match o'.dst with
      | some t => (List.range ops.size).all fun i => match ops[i]? with
          | some o => !(o.looksAt ops).contains t || (predsOf ops i).contains j || F.contains i
          | none => true
      | none => true)
  | none => true
def batchB (D E mv ck : List Nat) : Bool :=
  ordB ops D mv && mv.all (isMover ng cst T ptrs n ops) && ck.all (isMover ng cst T ptrs n ops) && (D ++ mv).all (fun i => ck.contains i || (forcedL ops E ops.size).contains i) && lookB ops (D ++ mv) (forcedL ops E ops.size)
def effB (D : List Nat) (e : Nat) : Bool := !D.contains e && (match ops[e]? with | some o => dstB n o | none => false) && (predsOf ops e).all D.contains
def schedB (k : Bool) (D E : List Nat) : IT → Bool
  | .last => !k && (List.range ops.size).all D.contains
  | .alt1 e b => !k && effB n ops D e && schedB true (D ++ [e]) (e :: E) b
  | .alt e b more => !k && effB n ops D e && schedB true (D ++ [e]) (e :: E) b && schedB false D E more
  | .node mv ck alts => k && batchB ng cst T ptrs n ops D E mv ck && (List.range ops.size).all (fun i => (D ++ mv).contains i || alts.heads.contains i || (predsOf ops i).any (fun p => !(D ++ mv).contains p)) &&
      schedB false (D ++ mv) E alts
def toBT : IT → BT
  | .last => .last
  | .alt1 e b => .alt1 (effAt ng cst T ptrs n ops e) (toBT b)
  | .alt e b more => .alt (effAt ng cst T ptrs n ops e) (toBT b) (toBT more)
  | .node mv ck alts => .node (mv.map (moverAt ng cst T ptrs n ops)) (ck.map (moverAt ng cst T ptrs n ops)) (toBT alts)
def compDraw : Option BT := (findS ng cst T ptrs n ops (ops.size + 1) [] []).bind fun l =>
  if apartB ops && schedB ng cst T ptrs n ops true [] [] l then some (toBT ng cst T ptrs n ops l) else none
end
section
variable {P : Program} {K : Ctx} {ng : Nat} {cst : Value → Option AV} {T : Nat → Option TI} {ptrs : PO} {n : Nat} {ops : Array Oper}
theorem pureR_ok {r : Run} {call : Caller} {s s' : St} (h : pureR r call s = .ok s') : r call s = .ok s' := by
  unfold pureR at h
  cases hr : r call s with
  | ok s'' => rw [hr] at h; cases h; rfl
  | panic v hp => rw [hr] at h; cases h
  | fail => rw [hr] at h; cases h
theorem StillR.value {σ : Env} {o : Oper} {ρ : Operand → Value} {w : World} {s s' : St} {t : Tmp} {d : DOp} (h : StillR P K σ o ρ w s s') (hd : o.dst = some t) (hdd : d.d = posOf t) :
    ∃ vc, VR K σ (d.value s') vc ∧ (execOp ρ o).run P w = .ok (.value vc) w := by
  obtain ⟨v, vc, h1, h2, h3, h4⟩ := h
  refine ⟨vc, ?_, h1⟩
  unfold DOp.value
  rw [hdd, h3, hd]
  show VR K σ ((Opd.t (posOf t)).ev (s.tmps.set v (posOf t))) vc
  rw [ev_set_same]; exact h2
theorem oneC_ok {o : Operand} (h : oneC o = true) : o = .const (.int .i64 1) := by
  unfold oneC at h
  split at h
  · rfl
  · cases h
theorem compGhost_ok {op : Op} {r : Run} {dst : Option Tmp} {σ : Env} (hT : TOK P T) (h : compGhost ng cst T (dP dst) op = some r) (ty : TypeId) (pos : String) (af : Array Edge) (gd : Option (Nat × Bool))
    {own : Owns} {a : Act} {w : World} {s s' : St} {call : Caller} (ho : OR K ng cst σ s.tmps a.eval ⟨dst, op, ty, pos, af, gd⟩) (H : HR K σ own s.heap w) (hr : r call s = .ok s') : GhostR P K σ ⟨dst, op, ty, pos, af, gd⟩ a.eval w s s' := by
  have mem : ∀ x ∈ op.operands, ∀ X, opd ng cst x = some X → VR K σ (X.ev s.tmps) (a.eval x) := ho
  unfold compGhost at h
  split at h
  · rename_i t x lo
    split at h
    · rename_i hlo
      have := oneC_ok hlo
      subst this
      obtain ⟨X, h1, h⟩ := bind_ok h
      obtain ⟨i, h2, h⟩ := bind_ok h
      obtain ⟨d, hd, hk⟩ := (hT _ _ h2).d
      split at h <;> (try rename_i hik; rw [hik] at hk; simp only [TKD] at hk)
      · subst hk
        obtain ⟨j, h3, h⟩ := bind_ok h
        obtain ⟨ji, jz, k1, k2, k3, k4, k5, k6⟩ := (hT _ _ h3).i
        split at h
        · cases h
        · rename_i hz
          cases h
          rw [← k2] at hr
          exact ok_sliceE H (mem _ (by simp [Op.operands]) X h1) rfl hd k1 (by rw [k2]; exact (by simpa using hz)) hr
      · cases h
    · cases h
  · cases h
theorem compMover_ok (hc : CstOK cst) (hT : TOK P T) (hp : POK P K ptrs) {i : Nat} {o : Oper} (ho : ops[i]? = some o) {d : DOp} (h : compMover ng cst T ptrs n ops o = some d) : MoverOK P K ng n ops i d := by
  unfold compMover at h
  obtain ⟨t, h1, hk⟩ := bind_ok h
  clear h
  have h := hk
  clear hk
  split at h
  · rename_i hlt
    have hlt' : t < n := Nat.le_of_ble_eq_true hlt
    obtain ⟨dst, op, ty, pos, af, gd⟩ := o
    simp only at h1 h
    subst h1
    cases gd with
    | none =>
      have hw : ∀ a : Act, Region.wanted (⟨some t, op, ty, pos, af, none⟩ : Oper) (yielded ops a.tmps) = true := fun a => by simp [Region.wanted]
      cases hs : compStill ng cst T ptrs (some (posOf t)) op with
      | some r =>
        rw [hs] at h
        cases h
        refine ⟨_, t, ho, rfl, hlt', rfl, fun _ σ own a w s s' call hg hn hF hH hr => ?_, fun e => by cases e⟩
        obtain ⟨vc, k1, k2⟩ := (compStill_ok (dst := some t) hT hp hs ty pos af none (hF.or hc hg) hH (pureR_ok hr)).value (d := ⟨false, pureR r, posOf t⟩) rfl rfl
        exact ⟨vc, k1, by rw [if_pos (hw a)]; exact k2⟩
      | none =>
        rw [hs] at h
        cases hs2 : compNew ng cst T (some (posOf t)) op with
        | some r =>
          simp only [hs2] at h
          cases h
          refine ⟨_, t, ho, rfl, hlt', rfl, fun e => (by cases e), fun _ σ own a w s s' call hg hn hF hH hr => ⟨hw a, .inl ?_⟩⟩
          exact compNew_ok (dst := some t) hT hp hs2 ty pos af none (hF.or hc hg) hH (pureR_ok hr)
        | none =>
          simp only [hs2] at h
          obtain ⟨r, h2, h⟩ := bind_ok h
          cases h
          refine ⟨_, t, ho, rfl, hlt', rfl, fun e => (by cases e), fun _ σ own a w s s' call hg hn hF hH hr => ⟨hw a, .inr ?_⟩⟩
          exact compGhost_ok (dst := some t) hT h2 ty pos af none (hF.or hc hg) hH (pureR_ok hr)
    | some jw =>
      obtain ⟨j, want⟩ := jw
      obtain ⟨u, h2, h⟩ := bind_ok h
      obtain ⟨r, h3, h⟩ := bind_ok h
      cases h
      refine ⟨_, t, ho, rfl, hlt', rfl, fun _ σ own a w s s' call hg hn hF hH hr => ?_, fun e => by cases e⟩
      have hTu := hF u (by
        unfold Oper.looksAt
        exact List.mem_append_right _ (by simp [h2]))
      have hy : ∀ v, (match a.tmps.getD u undef with | .bool b => some b | _ => none) = v → yielded ops a.tmps j = v := fun v hv => by
        rw [← hv]
        unfold yielded
        rw [h2]
        by_cases hu : u < a.tmps.size
        · simp [hu]
          cases a.tmps[u] <;> rfl
        · simp [hu]; rfl
      have hwd : Region.wanted (⟨some t, op, ty, pos, af, some (j, want)⟩ : Oper) (yielded ops a.tmps) = (yielded ops a.tmps j == some want) := by simp [Region.wanted]
      have skip : setD (some (posOf t)) .undef s = .ok s' → yielded ops a.tmps j ≠ some want → ∃ vc, VR K σ ((⟨false, rGuard (posOf u) want (some (posOf t)) (pureR r), posOf t⟩ : DOp).value s') vc ∧
          (if Region.wanted (⟨some t, op, ty, pos, af, some (j, want)⟩ : Oper) (yielded ops a.tmps) = true then (execOp a.eval ⟨some t, op, ty, pos, af, some (j, want)⟩).run P w = .ok (.value vc) w else vc = undef) := fun hs hne => by
        cases hs
        refine ⟨undef, ?_, ?_⟩
        · show VR K σ ((Opd.t (posOf t)).ev (s.tmps.set .undef (posOf t))) undef
          rw [ev_set_same]; exact VR.undef
        · rw [if_neg (by rw [hwd]; simpa using hne)]
      have go : pureR r call s = .ok s' → yielded ops a.tmps j = some want → ∃ vc, VR K σ ((⟨false, rGuard (posOf u) want (some (posOf t)) (pureR r), posOf t⟩ : DOp).value s') vc ∧
          (if Region.wanted (⟨some t, op, ty, pos, af, some (j, want)⟩ : Oper) (yielded ops a.tmps) = true then (execOp a.eval ⟨some t, op, ty, pos, af, some (j, want)⟩).run P w = .ok (.value vc) w else vc = undef) := fun hr he => by
        obtain ⟨vc, k1, k2⟩ := (compStill_ok (dst := some t) hT hp h3 ty pos af (some (j, want)) (hF.or hc hg) hH (pureR_ok hr)).value (d := ⟨false, rGuard (posOf u) want (some (posOf t)) (pureR r), posOf t⟩) rfl rfl
        exact ⟨vc, k1, by rw [if_pos (by rw [hwd, he]; simp)]; exact k2⟩
      have hdef : rGuard (posOf u) want (some (posOf t)) (pureR r) call s = onSome (s.tmps.get (posOf u)) (fun v => v.onBool (ifb want (pureR r call s) (setD (some (posOf t)) .undef s)) (ifb want (setD (some (posOf t)) .undef s) (pureR r call s)) (v.onTup (fun _ => setD (some (posOf t)) .undef s) .fail)) (setD (some (posOf t)) .undef s) := rfl
      have hr' : rGuard (posOf u) want (some (posOf t)) (pureR r) call s = .ok s' := hr
      rw [hdef] at hr'
      cases hv : s.tmps.get (posOf u) with
      | none =>
        rw [hv] at hr'
        have he : (Opd.t (posOf u)).ev s.tmps = .undef := by simp only [Opd.ev]; rw [hv]
        rw [he] at hTu
        have hu : a.tmps.getD u undef = undef := hTu.fn VR.undef
        exact skip hr' (by rw [hy none (by rw [hu]; rfl)]; simp)
      | some v =>
        rw [hv] at hr'
        rw [get_ev hv] at hTu
        cases v with
        | bool b =>
          have hb : a.tmps.getD u undef = .bool b := hTu
          have hyb : yielded ops a.tmps j = some b := hy _ (by rw [hb])
          cases b <;> cases want
          · exact go hr' hyb
          · exact skip hr' (by rw [hyb]; simp)
          · exact skip hr' (by rw [hyb]; simp)
          · exact go hr' hyb
        | tup l =>
          obtain ⟨x, hx, _⟩ := hTu
          exact skip hr' (by rw [hy none (by rw [hx])]; simp)
        | _ => cases hr'
  · cases h
theorem isMover_ok (hc : CstOK cst) (hT : TOK P T) (hp : POK P K ptrs) {i : Nat} (h : isMover ng cst T ptrs n ops i = true) : MoverOK P K ng n ops i (moverAt ng cst T ptrs n ops i) := by
  unfold isMover at h
  unfold moverAt
  cases ho : ops[i]? with
  | none => rw [ho] at h; cases h
  | some o =>
    rw [ho] at h
    simp only at h ⊢
    obtain ⟨d, hd⟩ := Option.isSome_iff_exists.1 (Bool.and_eq_true_iff.1 h).1
    rw [hd]
    exact compMover_ok hc hT hp ho hd
theorem insN_mem : ∀ {l F : List Nat} {x : Nat}, x ∈ insN l F → x ∈ l ∨ x ∈ F
  | [], F, x, h => .inr h
  | p :: l, F, x, h => by
    unfold insN at h
    split at h
    · rcases insN_mem h with h | h
      · exact .inl (List.mem_cons_of_mem _ h)
      · exact .inr h
    · rcases List.mem_cons.1 h with e | h
      · exact .inl (by rw [e]; exact List.mem_cons_self)
      · rcases insN_mem h with h | h
        · exact .inl (List.mem_cons_of_mem _ h)
        · exact .inr h
theorem forcedL_ok {E : List Nat} : ∀ {m x : Nat}, x ∈ forcedL ops E m → Forced ops E x
  | 0, x, h => .eff h
  | m + 1, x, h => by
    rcases insN_mem h with h | h
    · obtain ⟨j, hj, hx⟩ := List.mem_flatMap.1 h
      exact .pred (forcedL_ok hj) hx
    · exact forcedL_ok h
theorem apartB_ok (h : apartB ops = true) : Apart ops := by
  refine ⟨fun i j o o' t hi hj ht ht' => ?_⟩
  have h1 := List.all_eq_true.1 h i (List.mem_range.2 (Array.getElem?_eq_some_iff.1 hi).1)
  have h2 := List.all_eq_true.1 h1 j (List.mem_range.2 (Array.getElem?_eq_some_iff.1 hj).1)
  simp only [hi, hj, ht', Bool.or_eq_true, beq_iff_eq, bne_iff_ne] at h2
  exact h2.resolve_right fun hne => hne ht
theorem lookB_ok {D E : List Nat} {m : Nat} (h : lookB ops D (forcedL ops E m) = true) : LookOK ops D E := fun i j o o' t hi hjD hj hl ht => by
  have h1 := List.all_eq_true.1 h j hjD
  simp only [hj, ht] at h1
  have h2 := List.all_eq_true.1 h1 i (List.mem_range.2 (Array.getElem?_eq_some_iff.1 hi).1)
  simp only [hi, Bool.or_eq_true, Bool.not_eq_true', List.contains_iff_mem] at h2
  rcases h2 with (h3 | h3) | h3
  · rw [List.contains_iff_mem.2 hl] at h3; cases h3
  · exact .inl h3
  · exact .inr (forcedL_ok h3)
theorem ordB_ok : ∀ {l D : List Nat}, Ord ops D → D.Nodup → (∀ i ∈ D, i < ops.size) → ordB ops D l = true → Ord ops (D ++ l) ∧ (D ++ l).Nodup ∧ ∀ i ∈ D ++ l, i < ops.size
  | [], D, h1, h2, h3, _ => by simpa using ⟨h1, h2, h3⟩
  | i :: l, D, h1, h2, h3, h => by
    simp only [ordB, Bool.and_eq_true, Bool.not_eq_true', List.all_eq_true] at h
    obtain ⟨⟨⟨k1, k2⟩, k3⟩, k4⟩ := h
    have hn : i ∉ D := fun hi => by rw [List.contains_iff_mem.2 hi] at k1; cases k1
    have := ordB_ok (l := l) (D := D ++ [i]) (h1.snoc fun p hp => List.contains_iff_mem.1 (k3 p hp)) (by
      rw [List.nodup_append]
      exact ⟨h2, by simp, fun x hx y hy e => by simp at hy; subst hy; subst e; exact hn hx⟩) (fun j hj => by
      rcases List.mem_append.1 hj with hj | hj
      · exact h3 j hj
      · simp at hj; subst hj; exact Nat.le_of_ble_eq_true k2) k4
    simpa using this
theorem effB_ok (hc : CstOK cst) (hT : TOK P T) (hp : POK P K ptrs) {D : List Nat} {e : Nat} (h : effB n ops D e = true) :
    e ∉ D ∧ e < ops.size ∧ ∃ o, ops[e]? = some o ∧ DstOK n o ∧ StepOK P K ng n ops o (effAt ng cst T ptrs n ops e) ∧ ∀ p ∈ predsOf ops e, p ∈ D := by
  simp only [effB, Bool.and_eq_true, List.all_eq_true, Bool.not_eq_true'] at h
  obtain ⟨⟨k2, k3⟩, k4⟩ := h
  have heD : e ∉ D := fun he => by rw [List.contains_iff_mem.2 he] at k2; cases k2
  cases hoe : ops[e]? with
  | none => rw [hoe] at k3; cases k3
  | some o =>
    rw [hoe] at k3
    have hst : StepOK P K ng n ops o (effAt ng cst T ptrs n ops e) := by
      unfold effAt
      rw [hoe]
      simp only
      have hall := compOps_ok (K := K) hc hT hp (n := n) (ops := ops) (l := [o]) (rs := [(compOper ng cst T ptrs n ops o).getD rFail]) (by
        unfold compOps
        rw [if_pos k3]; rfl)
      cases hall with
      | cons h1 _ _ => exact h1
    exact ⟨heD, (Array.getElem?_eq_some_iff.1 hoe).1, o, rfl, dstB_ok k3, hst, fun p hp => List.contains_iff_mem.1 (k4 p hp)⟩
theorem schedB_ok (hc : CstOK cst) (hT : TOK P T) (hp : POK P K ptrs) : ∀ (t : IT) (k : Bool) {D E : List Nat}, Ord ops D → D.Nodup → (∀ i ∈ D, i < ops.size) → schedB ng cst T ptrs n ops k D E t = true →
    Sched P K ng n ops (moverAt ng cst T ptrs n ops) (if k then none else some t.heads) D E (toBT ng cst T ptrs n ops t)
  | .last, k, D, E, h1, h2, h3, h => by
    simp only [schedB, Bool.and_eq_true, List.all_eq_true, Bool.not_eq_true'] at h
    obtain ⟨rfl, h⟩ := h
    exact .last fun i hi => List.contains_iff_mem.1 (h i (List.mem_range.2 hi))
  | .alt1 e b, k, D, E, h1, h2, h3, h => by
    simp only [schedB, Bool.and_eq_true, Bool.not_eq_true'] at h
    obtain ⟨⟨rfl, k1⟩, k2⟩ := h
    obtain ⟨e1, e2, o, e3, e4, e5, e6⟩ := effB_ok (K := K) hc hT hp k1
    exact .alt1 e1 e3 e4 e5 e6 (schedB_ok hc hT hp b true (h1.snoc e6) (by
      rw [List.nodup_append]
      exact ⟨h2, by simp, fun x hx y hy e' => by simp at hy; subst hy; subst e'; exact e1 hx⟩) (fun j hj => by
      rcases List.mem_append.1 hj with hj | hj
      · exact h3 j hj
      · simp at hj; subst hj; exact e2) k2)
  | .alt e b more, k, D, E, h1, h2, h3, h => by
    simp only [schedB, Bool.and_eq_true, Bool.not_eq_true'] at h
    obtain ⟨⟨⟨rfl, k1⟩, k2⟩, k3⟩ := h
    obtain ⟨e1, e2, o, e3, e4, e5, e6⟩ := effB_ok (K := K) hc hT hp k1
    exact .alt e1 e3 e4 e5 e6 (schedB_ok hc hT hp b true (h1.snoc e6) (by
      rw [List.nodup_append]
      exact ⟨h2, by simp, fun x hx y hy e' => by simp at hy; subst hy; subst e'; exact e1 hx⟩) (fun j hj => by
      rcases List.mem_append.1 hj with hj | hj
      · exact h3 j hj
      · simp at hj; subst hj; exact e2) k2) (schedB_ok hc hT hp more false h1 h2 h3 k3)
  | .node mv ck alts, k, D, E, h1, h2, h3, h => by
    simp only [schedB, Bool.and_eq_true, List.all_eq_true] at h
    obtain ⟨⟨⟨rfl, hb⟩, hn⟩, hs⟩ := h
    simp only [batchB, Bool.and_eq_true, List.all_eq_true] at hb
    obtain ⟨⟨⟨⟨b1, b2⟩, b3⟩, b4⟩, b5⟩ := hb
    obtain ⟨o1, o2, o3⟩ := ordB_ok h1 h2 h3 b1
    have hB : BatchOK P K ng n ops (moverAt ng cst T ptrs n ops) D E mv ck := ⟨o1, o2, o3, fun i hi => isMover_ok hc hT hp (b2 i hi), fun i hi => isMover_ok hc hT hp (b3 i hi), fun i hi => by
      rcases Bool.or_eq_true_iff.1 (b4 i hi) with h | h
      · exact .inl (List.contains_iff_mem.1 h)
      · exact .inr (forcedL_ok (List.contains_iff_mem.1 h)), lookB_ok b5⟩
    refine .node hB (fun i hi => ?_) (schedB_ok hc hT hp alts false o1 o2 o3 hs)
    have := hn i (List.mem_range.2 hi)
    rcases Bool.or_eq_true_iff.1 this with h | h
    · rcases Bool.or_eq_true_iff.1 h with h | h
      · exact .inl (List.contains_iff_mem.1 h)
      · exact .inr (.inl (List.contains_iff_mem.1 h))
    · obtain ⟨p, hp, hq⟩ := List.any_eq_true.1 h
      exact .inr (.inr ⟨p, hp, fun hpD => by rw [List.contains_iff_mem.2 hpD] at hq; cases hq⟩)
theorem compDraw_ok {R : Option Nat} (hc : CstOK cst) (hT : TOK P T) (hp : POK P K ptrs) (hmix : P.follows .mixedOrders = true) {id : Nat} {bs : BT} (h : compDraw ng cst T ptrs n ops = some bs) : CodeOK P K ng n R (.region id ops true) (.draw bs) := by
  obtain ⟨l, h1, h⟩ := bind_ok h
  split at h
  · rename_i hb
    obtain ⟨h2, h3⟩ := Bool.and_eq_true_iff.1 hb
    cases h
    exact .draw hmix (apartB_ok h2) (schedB_ok hc hT hp l true (fun l1 i l2 e => by simp at e) (by simp) (fun i hi => by cases hi) h3)
  · cases h
end
end Go.Eng
namespace Go.Eng
open Go.RowKit
def rangeOf (n : Nat) : Code → List RCode
  | .seq a b => rangeOf n a ++ rangeOf n b
  | .cond _ a b => rangeOf n a ++ rangeOf n b
  | .block _ c => rangeOf n c
  | .loop c => rangeOf n c
  | .rangeFunc _ ps asg body => [⟨ps, asg, body, n⟩]
  | _ => []
def nRng : Code → Nat
  | .seq a b => nRng a + nRng b
  | .cond _ a b => nRng a + nRng b
  | .block _ c => nRng c
  | .loop c => nRng c
  | .rangeFunc _ _ _ _ => 1
  | _ => 0
theorem nRng_eq (n : Nat) : ∀ c : Code, (rangeOf n c).length = nRng c
  | .seq a b => by simp [rangeOf, nRng, nRng_eq n a, nRng_eq n b]
  | .cond _ a b => by simp [rangeOf, nRng, nRng_eq n a, nRng_eq n b]
  | .block _ c => by simp [rangeOf, nRng, nRng_eq n c]
  | .loop c => by simp [rangeOf, nRng, nRng_eq n c]
  | .rangeFunc _ _ _ _ => rfl
  | .skip => rfl
  | .ret => rfl
  | .exit _ => rfl
  | .region .. => rfl
  | .scope _ => rfl
  | .label _ => rfl
  | .goto _ => rfl
  | .refuse _ => rfl
def codesOf (P : Program) (f i : Nat) : Option RCode := (P.funcs[f]?).bind fun fn => fn.body.bind fun c => (rangeOf fn.ntmps c)[i]?
def splitD : List Oper → Option (List Oper × Oper)
  | [] => none
  | [o] => match o.op with | .defer _ => some ([], o) | _ => none
  | o :: l => match splitD l with | some (m, d) => some (o :: m, d) | none => none
theorem splitD_ok : ∀ {l m : List Oper} {d : Oper}, splitD l = some (m, d) → l = m ++ [d]
  | [], m, d, h => by cases h
  | [o], m, d, h => by
    unfold splitD at h
    split at h
    · cases h; rfl
    · cases h
  | o :: o' :: l, m, d, h => by
    unfold splitD at h
    split at h
    · rename_i m' d' h'
      cases h
      rw [splitD_ok h']; rfl
    · cases h
noncomputable section
variable (ng : Nat) (cst : Value → Option AV) (T : Nat → Option TI) (ptrs : PO)
def ltAll (n : Nat) : List Nat → Bool
  | [] => true
  | x :: l => ifb (Nat.ble (Nat.succ x) n) (ltAll n l) false
def compD (n : Nat) (ops : Array Oper) (l : List Oper) (d : Oper) : AC :=
  match d with
  | ⟨none, .defer ⟨.value f, args, _⟩, _, _, _, none⟩ => match compOps ng cst T ptrs n ops l with
    | some rs => match opd ng cst f with
      | some X => match compOpds ng cst args.toList with
        | some A => .regD rs X A
        | none => .bad
      | none => .bad
    | none => .bad
  | _ => .bad
def compReg (top nd : Bool) (n : Nat) (ops : Array Oper) : AC :=
  match splitD ops.toList with
  | some (l, d) => match top with | true => compD ng cst T ptrs n ops l d | false => .bad
  | none => match nd with
    | true => match compOpsN ng cst T ptrs n ops ops.toList with | some rs => .regN rs | none => .bad
    | false => match compOps ng cst T ptrs n ops ops.toList with | some rs => .reg rs | none => .bad
def compCode (nd : Bool) (f n : Nat) : Bool → Nat → Code → AC
  | _, _, .skip => .skip
  | _, _, .ret => .ret
  | _, _, .exit id => .exit id
  | top, _, .region _ ops false => compReg ng cst T ptrs top nd n ops
  | _, _, .region _ ops true => match compDraw ng cst T ptrs n ops with | some bs => .draw bs | none => .bad
  | top, i, .seq a b => .seq (compCode nd f n top i a) (compCode nd f n top (i + nRng a) b)
  | top, i, .cond c a b => match opd ng cst c with | some X => .cond X (compCode nd f n top i a) (compCode nd f n top (i + nRng a) b) | none => .bad
  | top, i, .block id c => .block id (compCode nd f n top i c)
  | top, i, .loop c => .loop (compCode nd f n top i c)
  | true, i, .rangeFunc g ps a b => match opd ng cst g with
    | some G => match ltAll n ps.toList with
      | true => .rng ptrs.ent G f i (ps.toList.map posOf) (compCode nd f n false 0 a) (compCode nd f n false 0 b)
      | false => .bad
    | none => .bad
  | _, _, _ => .bad
def compRes : List ResultVar → Option (List RA)
  | [] => some []
  | .tmp t :: l => (compRes l).bind fun L => some (.t (posOf t) :: L)
  | .cell t ty :: l => (compRes l).bind fun L => (T ty).bind fun i => i.k.agg.bind fun b => some ((if b then .cN (posOf t) i.n else .c1 (posOf t)) :: L)
def compFun (nd : Bool) (f : Nat) (fn : Func) : Option AFun := fn.body.bind fun c => if fn.name == "runtime.NumGoroutine" then none else (compRes T fn.results.toList).bind fun res => some ⟨fn.ntmps, res, compCode ng cst T ptrs nd f fn.ntmps true 0 c⟩
end
section
variable {P : Program} {K : Ctx} {ng : Nat} {cst : Value → Option AV} {T : Nat → Option TI} {ptrs : PO}
theorem ltAll_ok {n : Nat} : ∀ {l : List Nat}, ltAll n l = true → ∀ p ∈ l, p < n
  | [], h, p, hp => by cases hp
  | x :: l, h, p, hp => by
    have h : ifb (Nat.ble (Nat.succ x) n) (ltAll n l) false = true := h
    cases hb : Nat.ble (Nat.succ x) n with
    | false => rw [hb] at h; cases h
    | true =>
      rw [hb] at h
      rcases List.mem_cons.1 hp with rfl | hp
      · exact Nat.le_of_ble_eq_true hb
      · exact ltAll_ok h p hp
theorem compD_ok (hc : CstOK cst) (hT : TOK P T) (hp : POK P K ptrs) {n id : Nat} {ops : Array Oper} {l : List Oper} {d : Oper} (h : ops.toList = l ++ [d]) : CodeOK P K ng n none (.region id ops false) (compD ng cst T ptrs n ops l d) := by
  unfold compD
  split
  · rename_i f args ts ty pos af
    cases h1 : compOps ng cst T ptrs n ops l with
    | none => exact .bad
    | some rs =>
      cases h2 : opd ng cst f with
      | none => exact .bad
      | some X =>
        cases h3 : compOpds ng cst args.toList with
        | none => exact .bad
        | some A =>
          refine .regD h (compOps_ok hc hT hp h1) fun σ a tm hg hTR => ⟨opd_ok hc hg hTR h2, ?_⟩
          have := evL_ok (tm := tm) (ρ := a.eval) _ _ (compOpds_ok (fun x hx X hX => opd_ok hc hg hTR hX) h3)
          simpa using this
  · exact .bad
theorem compReg_ok (hc : CstOK cst) (hT : TOK P T) (hp : POK P K ptrs) {top nd : Bool} {n id : Nat} {ops : Array Oper} {R : Option Nat} (hR : top = true → R = none) : CodeOK P K ng n R (.region id ops false) (compReg ng cst T ptrs top nd n ops) := by
  unfold compReg
  cases h : splitD ops.toList with
  | some ld =>
    obtain ⟨l, d⟩ := ld
    cases top with
    | true => rw [hR rfl]; exact compD_ok hc hT hp (splitD_ok h)
    | false => exact .bad
  | none =>
    cases nd with
    | true =>
      simp only
      cases h : compOpsN ng cst T ptrs n ops ops.toList with
      | none => exact .bad
      | some rs => exact .regN (compOpsN_ok hc hT hp h)
    | false =>
      simp only
      cases h : compOps ng cst T ptrs n ops ops.toList with
      | none => exact .bad
      | some rs => exact .reg (compOps_ok hc hT hp h)
theorem compCode_ok (hc : CstOK cst) (hT : TOK P T) (hp : POK P K ptrs) (hmix : P.follows .mixedOrders = true) {nd : Bool} {f n : Nat} : ∀ (c : Code) (top : Bool) (i : Nat) (R : Option Nat), (top = true → R = none) →
    (top = true → ∀ j r, (rangeOf n c)[j]? = some r → K.codes f (i + j) = some r) → CodeOK P K ng n R c (compCode ng cst T ptrs nd f n top i c)
  | .skip, top, i, R, hR, hk => by unfold compCode; exact .skip
  | .ret, top, i, R, hR, hk => by unfold compCode; exact .ret
  | .exit id, top, i, R, hR, hk => by unfold compCode; exact .exit
  | .region id ops false, top, i, R, hR, hk => by unfold compCode; exact compReg_ok hc hT hp hR
  | .region id ops true, top, i, R, hR, hk => by
    unfold compCode
    cases h : compDraw ng cst T ptrs n ops with
    | none => exact .bad
    | some bs => exact compDraw_ok hc hT hp hmix h
  | .seq a b, top, i, R, hR, hk => by
    unfold compCode
    exact .seq (compCode_ok hc hT hp hmix a top i R hR (fun ht j r h => hk ht j r (by unfold rangeOf; rw [List.getElem?_append_left (List.getElem?_eq_some_iff.1 h).1]; exact h)))
      (compCode_ok hc hT hp hmix b top _ R hR (fun ht j r h => by
        have := hk ht (nRng a + j) r (by unfold rangeOf; rw [List.getElem?_append_right (by rw [nRng_eq]; omega), nRng_eq]; rw [show nRng a + j - nRng a = j by omega]; exact h)
        rw [Nat.add_assoc]; exact this))
  | .cond c a b, top, i, R, hR, hk => by
    unfold compCode
    cases h : opd ng cst c with
    | none => exact .bad
    | some X =>
      exact .cond hc h (compCode_ok hc hT hp hmix a top i R hR (fun ht j r h => hk ht j r (by unfold rangeOf; rw [List.getElem?_append_left (List.getElem?_eq_some_iff.1 h).1]; exact h)))
        (compCode_ok hc hT hp hmix b top _ R hR (fun ht j r h => by
          have := hk ht (nRng a + j) r (by unfold rangeOf; rw [List.getElem?_append_right (by rw [nRng_eq]; omega), nRng_eq]; rw [show nRng a + j - nRng a = j by omega]; exact h)
          rw [Nat.add_assoc]; exact this))
  | .block id c, top, i, R, hR, hk => by unfold compCode; exact .block (compCode_ok hc hT hp hmix c top i R hR hk)
  | .loop c, top, i, R, hR, hk => by unfold compCode; exact .loop (compCode_ok hc hT hp hmix c top i R hR hk)
  | .rangeFunc g ps a b, top, i, R, hR, hk => by
    cases top with
    | false => unfold compCode; exact .bad
    | true =>
      unfold compCode
      cases h : opd ng cst g with
      | none => exact .bad
      | some G =>
        simp only
        cases h2 : ltAll n ps.toList with
        | false => exact .bad
        | true =>
          simp only
          rw [hR rfl]
          exact .rng hp.ent hc h (hk rfl 0 _ rfl) (ltAll_ok h2) (fun R => compCode_ok hc hT hp hmix a false 0 R (fun e => by cases e) (fun e => by cases e)) (fun R => compCode_ok hc hT hp hmix b false 0 R (fun e => by cases e) (fun e => by cases e))
  | .scope _, top, i, R, hR, hk => by cases top <;> (unfold compCode; exact .bad)
  | .label _, top, i, R, hR, hk => by cases top <;> (unfold compCode; exact .bad)
  | .goto _, top, i, R, hR, hk => by cases top <;> (unfold compCode; exact .bad)
  | .refuse _, top, i, R, hR, hk => by cases top <;> (unfold compCode; exact .bad)
theorem compRes_ok (hT : TOK P T) : ∀ {l : List ResultVar} {L : List RA}, compRes T l = some L → RAsOK P L l
  | [], L, h => by cases h; rfl
  | .tmp t :: l, L, h => by
    obtain ⟨L', h1, h⟩ := bind_ok h
    cases h
    exact ⟨_, _, rfl, rfl, compRes_ok hT h1⟩
  | .cell t ty :: l, L, h => by
    obtain ⟨L', h1, h⟩ := bind_ok h
    obtain ⟨i, h2, h⟩ := bind_ok h
    obtain ⟨b, h3, h⟩ := bind_ok h
    cases h
    obtain ⟨ii, z, k1, k2, _⟩ := (hT _ _ h2).i
    obtain ⟨d, hd, hk⟩ := (hT _ _ h2).d
    have ha := agg_ok hk h3
    refine ⟨_, _, rfl, ⟨d, ii, hd, k1, ?_⟩, compRes_ok hT h1⟩
    cases b with
    | true => exact .inr ⟨ha, by rw [k2]; rfl⟩
    | false => exact .inl ⟨ha, rfl⟩
def FunOK (P : Program) (K : Ctx) (ng f : Nat) (fn : AFun) : Prop :=
  ∃ func c, P.funcs[f]? = some func ∧ (func.name == "runtime.NumGoroutine") = false ∧ func.body = some c ∧ CodeOK P K ng func.ntmps none c fn.code ∧ RAsOK P fn.res func.results.toList
theorem compFun_ok (hc : CstOK cst) (hT : TOK P T) (hp : POK P K ptrs) (hmix : P.follows .mixedOrders = true) (hK : K.codes = codesOf P) {nd : Bool} {f : Nat} {func : Func} {fn : AFun} (hf : P.funcs[f]? = some func) (h : compFun ng cst T ptrs nd f func = some fn) : FunOK P K ng f fn := by
  obtain ⟨c, h1, h⟩ := bind_ok h
  split at h
  · cases h
  · rename_i hn
    obtain ⟨res, h2, h⟩ := bind_ok h
    cases h
    refine ⟨func, c, hf, by simpa using hn, h1, compCode_ok hc hT hp hmix c true 0 none (fun _ => rfl) (fun _ j r hj => ?_), compRes_ok hT h2⟩
    rw [hK, Nat.zero_add]
    show (P.funcs[f]?).bind _ = _
    rw [hf]
    show func.body.bind _ = _
    rw [h1]
    exact hj
def packB : List UInt8 → Nat
  | [] => 0
  | b :: l => b.toNat + 256 * packB l
mutual
def cstA : Value → Option AV
  | .bool b => some (.bool b)
  | .int k n => some (.int k n)
  | .string s => some (.str s.data.toList.length (packB s.data.toList))
  | .pointer none => some .nilPtr
  | .slice none 0 0 => some .nilSlice
  | .map none => some .nilMap
  | .nilFunc => some .nilFunc
  | .nilIface => some .nilIface
  | .agg ⟨cs⟩ => (cstL cs).bind fun l => some (.agg l)
  | .tuple ⟨cs⟩ => (cstL cs).bind fun l => some (.tup l)
  | _ => none
termination_by structural x => x
def cstL : List Value → Option (List AV)
  | [] => some []
  | v :: l => (cstA v).bind fun x => (cstL l).bind fun xs => some (x :: xs)
termination_by structural x => x
end
def listB : List (Nat × Nat) → List (Nat × Nat) → Bool
  | [], [] => true
  | (a, b) :: l, (c, d) :: m => Nat.beq a c && Nat.beq b d && listB l m
  | _, _ => false
theorem listB_eq : ∀ {l m : List (Nat × Nat)}, listB l m = true → l = m
  | [], [], _ => rfl
  | (a, b) :: l, (c, d) :: m, h => by
    simp only [listB, Bool.and_eq_true] at h
    rw [Nat.eq_of_beq_eq_true h.1.1, Nat.eq_of_beq_eq_true h.1.2, listB_eq h.2]
  | [], _ :: _, h => by cases h
  | _ :: _, [], h => by cases h
noncomputable def tkB (k : TK) (d : TypeDesc) : Bool :=
  match k, d with
  | .bool, .bool => true
  | .str, .string => true
  | .int k, .int k' => keq k k'
  | .ptr e, .pointer e' => Nat.beq e e'
  | .slice e, .slice e' => Nat.beq e e'
  | .arr n e, .array n' e' => Nat.beq n n' && Nat.beq e e'
  | .map k e, .map k' e' => Nat.beq k k' && Nat.beq e e'
  | .iface any, .interface ms => !any || ms.isEmpty
  | .func, .func _ _ _ => true
  | .struct fs, .struct f => listB (f.toList.map fun x => (x.offset, x.type)) fs
  | .other, .interface _ => false
  | .other, _ => true
  | _, _ => false
theorem tkB_ok {k : TK} {d : TypeDesc} (h : tkB k d = true) : TKD k d := by
  cases k <;> cases d <;> simp only [tkB, Bool.and_eq_true, reduceCtorEq] at h <;> simp only [TKD]
  all_goals first
    | (cases h; done)
    | (rw [keq_iff h]; done)
    | (rw [Nat.eq_of_beq_eq_true h]; done)
    | (rw [Nat.eq_of_beq_eq_true h.1, Nat.eq_of_beq_eq_true h.2]; done)
    | (refine ⟨_, rfl, fun e => ?_⟩; subst e; simpa using h)
    | exact ⟨_, _, _, rfl⟩
    | exact ⟨_, rfl, listB_eq h⟩
    | (intro ms e; cases e; done)
noncomputable def tiB (P : Program) (t : Nat) (ti : TI) : Bool :=
  match P.underlying t with
  | some d => match P.info? t with
    | some i => match i.zero with
      | some z => match cstA z with
        | some v => tkB ti.k d && Nat.beq i.size ti.n && Nat.ble i.bytes 16777216 && avB v ti.z && Nat.beq (lenL (cellsOf ti.z)) ti.n
        | none => false
      | none => false
    | none => false
  | none => false
theorem unp_packB : ∀ l : List UInt8, unp l.length (packB l) = l ∧ packB l < 256 ^ l.length
  | [] => by simp [unp, packB]
  | b :: l => by
    obtain ⟨h1, h2⟩ := unp_packB l
    have hb : b.toNat < 256 := b.toNat_lt
    have e1 : (b.toNat + 256 * packB l) % 256 = b.toNat := by omega
    have e2 : (b.toNat + 256 * packB l) / 256 = packB l := by omega
    refine ⟨?_, ?_⟩
    · show UInt8.ofNat ((b.toNat + 256 * packB l) % 256) :: unp l.length ((b.toNat + 256 * packB l) / 256) = b :: l
      rw [e1, e2, h1]; simp
    · show b.toNat + 256 * packB l < 256 ^ (l.length + 1)
      rw [Nat.pow_succ]; omega
mutual
theorem cstA_ok : ∀ (v : Value) {x : AV}, cstA v = some x → CV1 x v
  | .bool b, x, h => by cases h; exact fun K σ => rfl
  | .int k n, x, h => by cases h; exact fun K σ => rfl
  | .string s, x, h => by
    cases h
    intro K σ
    obtain ⟨h1, h2⟩ := unp_packB s.data.toList
    refine ⟨?_, h2⟩
    unfold bytesOf
    rw [h1]
  | .pointer none, x, h => by cases h; exact fun K σ => rfl
  | .slice none 0 0, x, h => by cases h; exact fun K σ => rfl
  | .map none, x, h => by cases h; exact fun K σ => rfl
  | .nilFunc, x, h => by cases h; exact fun K σ => rfl
  | .nilIface, x, h => by cases h; exact fun K σ => rfl
  | .agg ⟨cs⟩, x, h => by
    unfold cstA at h
    obtain ⟨l, h1, h⟩ := bind_ok h
    cases h
    exact fun K σ => ⟨_, rfl, cstL_ok cs h1 K σ⟩
  | .tuple ⟨cs⟩, x, h => by
    unfold cstA at h
    obtain ⟨l, h1, h⟩ := bind_ok h
    cases h
    exact fun K σ => ⟨_, rfl, cstL_ok cs h1 K σ⟩
  | .pointer (some _), x, h => by cases h
  | .slice none 0 (_ + 1), x, h => by cases h
  | .slice none (_ + 1) _, x, h => by cases h
  | .slice (some _) _ _, x, h => by cases h
  | .map (some _), x, h => by cases h
  | .float _ _, x, h => by cases h
  | .complex _ _ _, x, h => by cases h
  | .chan _, x, h => by cases h
  | .func _ _ _, x, h => by cases h
  | .iface _ _, x, h => by cases h
theorem cstL_ok : ∀ (l : List Value) {m : List AV}, cstL l = some m → CV m l
  | [], m, h => by cases h; exact fun K σ => rfl
  | v :: l, m, h => by
    unfold cstL at h
    obtain ⟨x, h1, h⟩ := bind_ok h
    obtain ⟨xs, h2, h⟩ := bind_ok h
    cases h
    exact fun K σ => VRs.cons (cstA_ok v h1 K σ) (cstL_ok l h2 K σ)
end
theorem cst_ok : CstOK cstA := fun v x h => cstA_ok v h
theorem tiB_ok {P : Program} {t : Nat} {ti : TI} (h : tiB P t ti = true) : TiOK P t ti := by
  unfold tiB at h
  split at h
  · rename_i d hd
    split at h
    · rename_i i hi
      split at h
      · rename_i z hz
        split at h
        · rename_i v hv
          simp only [Bool.and_eq_true] at h
          obtain ⟨⟨⟨⟨h1, h2⟩, h3⟩, h4⟩, h5⟩ := h
          refine ⟨⟨d, hd, tkB_ok h1⟩, i, z, hi, Nat.eq_of_beq_eq_true h2, hz, Nat.le_of_ble_eq_true h3, ?_, ?_⟩
          · rw [← avB_eq h4]; exact cst_ok z v hv
          · rw [← lenL_eq]; exact Nat.eq_of_beq_eq_true h5
        · cases h
      · cases h
    · cases h
  · cases h
noncomputable def lookT (l : List (Nat × TI)) (t : Nat) : Option TI := List.rec none (fun p _ ih => ifb (Nat.beq p.1 t) (some p.2) ih) l
theorem lookT_ok {P : Program} : ∀ {l : List (Nat × TI)}, (∀ p ∈ l, tiB P p.1 p.2 = true) → TOK P (lookT l)
  | [], h, t, ti, hl => by cases hl
  | p :: l, h, t, ti, hl => by
    have hl' : ifb (Nat.beq p.1 t) (some p.2) (lookT l t) = some ti := hl
    cases hb : Nat.beq p.1 t with
    | true =>
      rw [hb] at hl'
      cases hl'
      have := Nat.eq_of_beq_eq_true hb
      subst this
      exact tiB_ok (h p List.mem_cons_self)
    | false =>
      rw [hb] at hl'
      exact lookT_ok (fun q hq => h q (List.mem_cons_of_mem _ hq)) t ti hl'
end
end Go.Eng
namespace Go.Eng
open Go.RowKit
noncomputable section
mutual
def ptsV (l : List Pos) : AV → List Pos
  | .ptr b _ => b :: l
  | .slice b _ _ _ => b :: l
  | .sliceC b _ _ _ _ => b :: l
  | .map b => b :: l
  | .yld b => b :: l
  | .iface _ x => ptsV l x
  | .agg cs => ptsL l cs
  | .tup cs => ptsL l cs
  | _ => l
def ptsL (l : List Pos) : List AV → List Pos
  | [] => l
  | x :: xs => ptsV (ptsL l xs) x
end
def memP (p : Pos) (l : List Pos) : Bool := List.rec false (fun q _ ih => ifb (p.eqb q) true ih) l
def killNew (keep : List Pos) (e : Pos) (n : Nat) : Pos → AHeap → AHeap :=
  Nat.rec (fun _ h => h) (fun _ ih p h => ifb (p.eqb e) h (ih p.succ (ifb (memP p keep) h (h.setObj p .dead)))) n
def killAll (keep : List Pos) (e p : Pos) (h : AHeap) : AHeap := killNew keep e 4096 p h
def aliveB (h : AHeap) (b : Pos) : Bool := h.onRow b (fun _ _ _ => true) false
def filtA (h : AHeap) (l : List Pos) : List Pos := List.rec [] (fun b _ ih => ifb (aliveB h b) (b :: ih) ih) l
def prune (h : AHeap) (p : Pos) : AHeap := onSome (h.grps.get p) (fun l => ⟨h.next, h.objs, h.grps.set (filtA h l) p⟩) h
def pruneNew (e : Pos) (n : Nat) : Pos → AHeap → AHeap := Nat.rec (fun _ h => h) (fun _ ih p h => ifb (p.eqb e) h (ih p.succ (prune h p))) n
def trim (base : Pos) (r : Out (AV × AHeap)) : Out (AV × AHeap) := Out.rec (fun vh => Prod.rec (fun v h => .ok (v, pruneNew h.next 4096 base (killAll (ptsV [] v) h.next base h))) vh) Out.panic .fail r
def outB (x y : Out (AV × AHeap)) : Bool :=
  Out.rec (fun vh => Prod.rec (fun v h => Out.rec (fun vh' => Prod.rec (fun v' h' => ifb (avB v v') (heapB h h') false) vh') (fun _ _ => false) false y) vh) (fun _ _ => false) false x
def trimL (base : Pos) (l : List (Out (AV × AHeap))) : List (Out (AV × AHeap)) := List.rec [] (fun x _ ih => trim base x :: ih) l
def sameL (x : Out (AV × AHeap)) (l : List (Out (AV × AHeap))) : Bool := List.rec true (fun y _ ih => ifb (outB x y) ih false) l
def joinOf (l : List (Out (AV × AHeap))) : List (Out (AV × AHeap)) := List.rec [] (fun x l' _ => ifb (sameL x l') [x] (x :: l')) l
def joinN (base : Pos) (l : List (Out (AV × AHeap))) : List (Out (AV × AHeap)) := List.rec [] (fun x l' _ => List.rec [x] (fun y l'' _ => joinOf (trimL base (x :: y :: l''))) l') l
abbrev Known := List AV → AHeap → Out (AV × AHeap)
abbrev KnownY := YH → List AV → AHeap → List (Out (AV × AHeap))
def upK (g : Known) : KnownY := fun _ args h => [g args h]
def AFun.ends0 (fn : AFun) (r : Ex) : Out (AV × AHeap) :=
  Ex.rec (fun s ds => List.rec (fn.done s) (fun _ _ _ => .fail) ds) (fun _ _ _ => .fail) (fun s ds => List.rec (fn.done s) (fun _ _ _ => .fail) ds) Out.panic .fail r
def runFn (C : CallerY) (Y : YH) (lf : Nat) (callD : Caller) (fn : AFun) (args : List AV) (h : AHeap) : List (Out (AV × AHeap)) :=
  bindG (exec C Y lf fn.code ⟨argsT args .h .nil, h⟩ []) (fun e => [fn.ends callD e])
def callDs (ID : Nat → Option Known) (F : Nat → Option AFun) (C : CallerY) (Y : YH) (lf : Nat) : Caller := fun f args h =>
  onSome (ID f) (fun g => g args h) (onSome (F f) (fun fn => oneG (bindG (exec C Y lf fn.code ⟨argsT args .h .nil, h⟩ []) (fun e => [fn.ends0 e]))) .fail)
def yieldTo (Y : YH) (args : List AV) (h : AHeap) : List (Out (AV × AHeap)) := List.rec [.fail] (fun v l _ => v.onYld (fun b => Y b l h) [.fail]) args
def callG (I : Nat → Option KnownY) (ID : Nat → Option Known) (F : Nat → Option AFun) (J : Nat → Bool) (lf : Nat) (m : Nat) : CallerY :=
  Nat.rec (fun _ _ _ _ => [.fail]) (fun _ ih Y f args h => ifb (Nat.beq f yN) (yieldTo Y args h)
    (onSome (I f) (fun g => g Y args h) (onSome (F f) (fun fn => ifb (J f) (joinN h.next (runFn ih Y lf (callDs ID F ih Y lf) fn args h)) (runFn ih Y lf (callDs ID F ih Y lf) fn args h)) [.fail]))) m
def noY : YH := fun _ _ _ => [.fail]
end
section
variable {P : Program} {K : Ctx} {ng : Nat}
theorem HR.kill {σ : Env} {own : Owns} {h : AHeap} {w : World} (H : HR K σ own h w) (p : Pos) : HR K σ own (h.setObj p .dead) w := by
  refine ⟨H.fresh, fun b l hl => ?_, fun b q ro r hb => ?_, H.below, H.base, H.owned, fun b l r hl hb => by
    rw [AHeap.get_setObj] at hb
    by_cases e : b = p
    · rw [if_pos e] at hb; cases hb
    · rw [if_neg e] at hb; exact H.off b l r hl hb⟩
  · rw [AHeap.get_setObj]
    by_cases e : b = p
    · rw [if_pos e]; trivial
    · rw [if_neg e]; exact H.obj b l hl
  · rw [AHeap.get_setObj] at hb
    by_cases e : b = p
    · rw [if_pos e] at hb; cases hb
    · rw [if_neg e] at hb; exact H.grp b q ro r hb
theorem HR.killNew {σ : Env} {own : Owns} {w : World} {keep : List Pos} {e : Pos} : ∀ (n : Nat) (p : Pos) {h : AHeap}, HR K σ own h w → HR K σ own (killNew keep e n p h) w ∧ (Eng.killNew keep e n p h).next = h.next
  | 0, p, h, H => ⟨H, rfl⟩
  | n + 1, p, h, H => by
    have hdef : Eng.killNew keep e (n + 1) p h = ifb (p.eqb e) h (Eng.killNew keep e n p.succ (ifb (memP p keep) h (h.setObj p .dead))) := rfl
    rw [hdef]
    cases p.eqb e with
    | true => exact ⟨H, rfl⟩
    | false =>
      cases memP p keep with
      | true => exact HR.killNew n p.succ H
      | false => exact HR.killNew n p.succ (H.kill p)
theorem mem_filtA {h : AHeap} {b : Pos} {g : Option Pos} {ro : Bool} {r : Row} (hb : h.get b = some (.cells g ro r)) : ∀ {l : List Pos}, b ∈ l → b ∈ filtA h l
  | x :: l, hm => by
    have hdef : filtA h (x :: l) = ifb (aliveB h x) (x :: filtA h l) (filtA h l) := rfl
    rw [hdef]
    rcases List.mem_cons.1 hm with rfl | hm
    · have : aliveB h b = true := by
        show onSome (h.get b) _ false = true
        rw [hb]; rfl
      rw [this]
      exact List.mem_cons_self
    · have ih := mem_filtA hb hm
      cases aliveB h x
      · exact ih
      · exact List.mem_cons_of_mem _ ih
theorem HR.prune {σ : Env} {own : Owns} {h : AHeap} {w : World} (H : HR K σ own h w) (p : Pos) : HR K σ own (Eng.prune h p) w ∧ (Eng.prune h p).next = h.next := by
  cases hp : h.grps.get p with
  | none =>
    have : Eng.prune h p = h := by show onSome (h.grps.get p) _ h = h; rw [hp]; rfl
    rw [this]; exact ⟨H, rfl⟩
  | some l =>
    have : Eng.prune h p = ⟨h.next, h.objs, h.grps.set (filtA h l) p⟩ := by show onSome (h.grps.get p) _ h = _; rw [hp]; rfl
    rw [this]
    refine ⟨⟨H.fresh, H.obj, fun b q ro r hb => ?_, H.below, H.base, H.owned, H.off⟩, rfl⟩
    have hm := H.grp b q ro r hb
    show b ∈ onSome ((h.grps.set (filtA h l) p).get q) (fun l => l) []
    by_cases e : q = p
    · subst e
      rw [PT.get_set_same]
      have hm : b ∈ onSome (h.grps.get q) (fun l => l) [] := hm
      rw [hp] at hm
      exact mem_filtA hb hm
    · rw [PT.get_set_other _ _ e]
      exact hm
theorem HR.pruneNew {σ : Env} {own : Owns} {w : World} {e : Pos} : ∀ (n : Nat) (p : Pos) {h : AHeap}, HR K σ own h w → HR K σ own (Eng.pruneNew e n p h) w ∧ (Eng.pruneNew e n p h).next = h.next
  | 0, p, h, H => ⟨H, rfl⟩
  | n + 1, p, h, H => by
    have hdef : Eng.pruneNew e (n + 1) p h = ifb (p.eqb e) h (Eng.pruneNew e n p.succ (Eng.prune h p)) := rfl
    rw [hdef]
    cases p.eqb e with
    | true => exact ⟨H, rfl⟩
    | false =>
      obtain ⟨h1, h2⟩ := HR.pruneNew n p.succ (H.prune p).1
      exact ⟨h1, h2.trans (H.prune p).2⟩
theorem Back.trim {σ : Env} {h : AHeap} {base : Pos} {r : Out (AV × AHeap)} {e : Ending} {w : World} (hb : Back K σ h r e w) : Back K σ h (Eng.trim base r) e w := by
  cases r with
  | ok vh =>
    obtain ⟨v, h'⟩ := vh
    obtain ⟨vc, h1, σ', own', h2, h3, h4⟩ := hb
    have hd : Eng.trim base (.ok (v, h')) = .ok (v, Eng.pruneNew h'.next 4096 base (killAll (ptsV [] v) h'.next base h')) := rfl
    obtain ⟨k1, k2⟩ : HR K σ' own' (killAll (ptsV [] v) h'.next base h') w ∧ (killAll (ptsV [] v) h'.next base h').next = h'.next := h4.killNew (keep := ptsV [] v) (e := h'.next) 4096 base
    obtain ⟨k3, k4⟩ := k1.pruneNew (e := h'.next) 4096 base
    rw [hd]
    rw [k2] at k4
    generalize Eng.pruneNew h'.next 4096 base (killAll (ptsV [] v) h'.next base h') = h'' at k3 k4
    exact ⟨vc, h1, σ', own', h2, ⟨h3.le, h3.keep, by rw [k4]; exact h3.next⟩, k3⟩
  | panic v h' => exact hb
  | fail => exact hb
theorem trim_fail {base : Pos} {r : Out (AV × AHeap)} (h : trim base r ≠ .fail) : r ≠ .fail := fun e => h (by rw [e]; rfl)
theorem outB_eq {x y : Out (AV × AHeap)} (h : outB x y = true) : x = y := by
  cases x with
  | ok vh =>
    obtain ⟨v, hh⟩ := vh
    cases y with
    | ok vh' =>
      obtain ⟨v', hh'⟩ := vh'
      obtain ⟨h1, h2⟩ := ifb_tt (show ifb (avB v v') (heapB hh hh') false = true from h)
      rw [avB_eq h1, heapB_eq h2]
    | panic _ _ => cases h
    | fail => cases h
  | panic _ _ => cases h
  | fail => cases h
theorem sameL_ok {x : Out (AV × AHeap)} : ∀ {l : List (Out (AV × AHeap))}, sameL x l = true → ∀ y ∈ l, x = y
  | [], h, y, hy => by cases hy
  | z :: l, h, y, hy => by
    obtain ⟨h1, h2⟩ := ifb_tt (show ifb (outB x z) (sameL x l) false = true from h)
    rcases List.mem_cons.1 hy with rfl | hy
    · exact outB_eq h1
    · exact sameL_ok h2 y hy
theorem mem_trimL {base : Pos} : ∀ {l : List (Out (AV × AHeap))} {r : Out (AV × AHeap)}, r ∈ l → trim base r ∈ trimL base l
  | x :: l, r, h => by
    rcases List.mem_cons.1 h with rfl | h
    · exact List.mem_cons_self
    · exact List.mem_cons_of_mem _ (mem_trimL h)
theorem mem_joinOf {l : List (Out (AV × AHeap))} {r : Out (AV × AHeap)} (h : r ∈ l) : r ∈ joinOf l := by
  cases l with
  | nil => cases h
  | cons x l =>
    have hdef : joinOf (x :: l) = ifb (sameL x l) [x] (x :: l) := rfl
    rw [hdef]
    cases hs : sameL x l with
    | false => exact h
    | true =>
      rcases List.mem_cons.1 h with rfl | h
      · exact List.mem_singleton.2 rfl
      · rw [sameL_ok hs r h]; exact List.mem_singleton.2 rfl
theorem mem_joinN {base : Pos} {l : List (Out (AV × AHeap))} {r : Out (AV × AHeap)} (h : r ∈ l) : r ∈ joinN base l ∨ trim base r ∈ joinN base l := by
  cases l with
  | nil => cases h
  | cons x l =>
    cases l with
    | nil => exact .inl h
    | cons y l => exact .inr (mem_joinOf (mem_trimL h))
theorem joinN_noF {base : Pos} {l : List (Out (AV × AHeap))} (h : noF (joinN base l)) : noF l := fun r hr => by
  rcases mem_joinN (base := base) hr with h1 | h1
  · exact h r h1
  · exact trim_fail (h _ h1)
theorem joinN_back {σ : Env} {h : AHeap} {base : Pos} {l : List (Out (AV × AHeap))} {e : Ending} {w : World} (hb : BackL K σ h l e w) : BackL K σ h (joinN base l) e w := by
  obtain ⟨r, hr, hb⟩ := hb
  rcases mem_joinN (base := base) hr with h1 | h1
  · exact ⟨r, h1, hb⟩
  · exact ⟨_, h1, hb.trim⟩
def KnownOK (P : Program) (K : Ctx) (ng : Nat) (f : Nat) (g : Known) : Prop :=
  ∀ (σ : Env) (own : Owns) (w : World) (h : AHeap) (args : List AV) (cargs : Array Value), Globs ng σ → HR K σ own h w → VRs K σ args cargs.toList →
    g args h ≠ .fail → ComesTo P f cargs w (Back K σ h (g args h))
def KnownYOK (P : Program) (K : Ctx) (ng : Nat) (f : Nat) (g : KnownY) : Prop :=
  ∀ Y, YOK P K ng Y → ∀ (σ : Env) (own : Owns) (w : World) (h : AHeap) (args : List AV) (cargs : Array Value), Globs ng σ → HR K σ own h w → VRs K σ args cargs.toList →
    noF (g Y args h) → ComesTo P f cargs w (BackL K σ h (g Y args h))
theorem KnownOK.up {f : Nat} {g : Known} (hg : KnownOK P K ng f g) : KnownYOK P K ng f (upK g) := fun Y hY σ own w h args cargs h1 h2 h3 hf =>
  (hg σ own w h args cargs h1 h2 h3 (hf _ (List.mem_singleton.2 rfl))).mono fun e w' hb => ⟨_, List.mem_singleton.2 rfl, hb⟩
def KnownDOK (P : Program) (K : Ctx) (ng : Nat) (f : Nat) (g : Known) : Prop :=
  ∀ (σ : Env) (own : Owns) (w : World) (h : AHeap) (args : List AV) (cargs : Array Value), Globs ng σ → HR K σ own h w → VRs K σ args cargs.toList →
    g args h ≠ .fail → Enters P f ∧ CallsDIn (FR none) 0 P f cargs .returning w fun e u w' => u = .returning ∧ Back K σ h (g args h) e w'
theorem done_ok {fn : AFun} {func : Func} (hr : RAsOK P fn.res func.results.toList) {σ σ' : Env} {own' : Owns} {h h' : AHeap} {tm : PT AV} {a : Act} {w : World} (g : Grow σ σ' h h') (hH : HR K σ' own' h' w) (hT : TR K σ' tm a)
    (hd : fn.done ⟨tm, h'⟩ ≠ .fail) : ∃ v, (results func a.tmps).run P w = .ok v w ∧ Back K σ h (fn.done ⟨tm, h'⟩) (.returned v) w := by
  have : ∃ l, resL ⟨tm, h'⟩ fn.res = some l := by
    cases hr : resL ⟨tm, h'⟩ fn.res with
    | none => exact absurd (by show onSome (resL ⟨tm, h'⟩ fn.res) _ _ = _; rw [hr]; rfl) hd
    | some l => exact ⟨l, rfl⟩
  obtain ⟨l, hl⟩ := this
  obtain ⟨cv, k1, k2⟩ := results_ok (s := ⟨tm, h'⟩) hH hT hr hl
  have he : fn.done ⟨tm, h'⟩ = .ok (oneV l, h') := by show onSome (resL ⟨tm, h'⟩ fn.res) _ _ = _; rw [hl]; rfl
  rw [he]
  exact ⟨cv, k1, cv, rfl, σ', own', k2, g, hH⟩
theorem funEnters {f : Nat} {fn : AFun} (hF : FunOK P K ng f fn) : Enters P f := by
  obtain ⟨func, c, h1, hnm, h2, h3, h4⟩ := hF
  exact fun args w => by simp [callFunc, h1, hnm, h2, show ¬ func.name = "runtime.NumGoroutine" from fun e => by rw [e] at hnm; simp at hnm]
theorem funD_ok {C : CallerY} {Y : YH} (hC : CallYOK P K ng C) (hY : YOK P K ng Y) {f : Nat} {fn : AFun} (hF : FunOK P K ng f fn) (lf : Nat) :
    KnownDOK P K ng f (fun args h => oneG (bindG (exec C Y lf fn.code ⟨argsT args .h .nil, h⟩ []) (fun e => [fn.ends0 e]))) := by
  intro σ own w h args cargs hg hH ha hf
  refine ⟨funEnters hF, ?_⟩
  obtain ⟨func, c, h1, hnm, h2, h3, h4⟩ := hF
  obtain ⟨x, e1, e2, e3⟩ := oneG_some (show oneG (bindG (exec C Y lf fn.code ⟨argsT args .h .nil, h⟩ []) (fun e => [fn.ends0 e])) ≠ .fail from hf)
  show CallsDIn (FR none) 0 P f cargs .returning w fun e u w' => u = .returning ∧ Back K σ h (oneG (bindG (exec C Y lf fn.code ⟨argsT args .h .nil, h⟩ []) (fun e => [fn.ends0 e]))) e w'
  rw [e2]
  have hin : ∀ {e}, e ∈ exec C Y lf fn.code ⟨argsT args .h .nil, h⟩ [] → fn.ends0 e = x := fun {e} he => by
    have : fn.ends0 e ∈ bindG (exec C Y lf fn.code ⟨argsT args .h .nil, h⟩ []) (fun e => [fn.ends0 e]) := mem_bindG.2 ⟨e, he, List.mem_singleton.2 rfl⟩
    rw [e1] at this
    exact List.mem_singleton.1 this
  refine callsDIn_of_wp (R := fun e w' => Back K σ h x e w') h1 h2 trivial (wpIn_mono (h3 C Y lf hC hY σ own _ w _ [] hg hH (TR.args ha _) (by simp; omega) rfl (fun e he hfl => e3 (by rw [← hin he, hfl]; rfl))) ?_)
  rintro e a' w' ⟨ex, hex, hl⟩
  have hx := hin hex
  have key : ∀ s' ds', SR K func.ntmps σ h s' ds' a' w' → (List.rec (fn.done s') (fun _ _ _ => .fail) ds' : Out (AV × AHeap)) = x → a'.defers = [] ∧ ∃ v, (results func a'.tmps).run P w' = .ok v w' ∧ Back K σ h x (.returned v) w' := by
    intro s' ds' hs hx
    obtain ⟨⟨σ', own', g1, g2, g3, g4⟩, g5⟩ := hs
    cases ds' with
    | cons d ds => exact absurd hx.symm e3
    | nil =>
      have hx : fn.done s' = x := hx
      obtain ⟨v, k1, k2⟩ := done_ok (tm := s'.tmps) h4 g1 g2 g3 (by show fn.done s' ≠ _; rw [hx]; exact e3)
      rw [← hx]
      exact ⟨g4, v, k1, k2⟩
  cases ex with
  | normal s' ds' => obtain ⟨rfl, hs⟩ := hl; exact key s' ds' hs hx
  | ret s' ds' => obtain ⟨rfl, hs⟩ := hl; exact key s' ds' hs hx
  | exit id s' ds' => exact absurd hx.symm e3
  | panic v h' =>
    obtain ⟨d0, vc, rfl, hs⟩ := hl
    rw [← hx]
    exact ⟨d0, vc, rfl, hs⟩
  | fail => exact absurd hx.symm e3
theorem endDs_ok {callD : Caller} (hD : ∀ f, KnownDOK P K ng f (callD f)) {func : Func} {tmps : Array Value} {R : Ending → World → Prop} : ∀ (ds : List DE) (defs : List Deferred) (σ : Env) (own : Owns) (h h' : AHeap) (w : World), Globs ng σ → DefsR K σ ds defs → HR K σ own h w →
    endDs callD ds h = .ok h' → (∀ σ' own' w', Grow σ σ' h h' → HR K σ' own' h' w' → LeavesInM (FR none) 0 P func tmps R [] .returning w') → LeavesInM (FR none) 0 P func tmps R defs .returning w
  | [], defs, σ, own, h, h', w, hg, hd, hH, he, hk => by
    have hd : defs = [] := hd
    subst hd
    have he : Out.ok h = .ok h' := he
    cases he
    exact hk σ own w (Grow.refl _ _) hH
  | .mark b :: ds, _, σ, own, h, h', w, hg, ⟨y, ys, rfl, hy, hd⟩, hH, he, hk => by
    obtain ⟨l, hl, rfl⟩ := hy
    have he : deadE h b (endDs callD ds) = .ok h' := he
    obtain ⟨x, k1, k2⟩ := onExt_some (show h.onExt b _ _ = deadE h b (endDs callD ds) from rfl) (by rw [he]; intro e; cases e)
    rw [he] at k2
    cases x with
    | miter _ _ _ _ => cases k2
    | loop _ _ _ _ _ => cases k2
    | riter _ _ => cases k2
    | dfr =>
      have k2 : endDs callD ds (h.setObj b .dead) = .ok h' := k2
      obtain ⟨ho, o, k3, k4⟩ := hH.ext hl k1
      have k4 : o = .deferred (some []) := k4
      subst k4
      refine ⟨by simp, .inl ⟨l.B, _, rfl, run_takeDeferred k3, ?_⟩⟩
      exact endDs_ok hD ds ys σ own _ h' _ hg hd (hH.killExt hl ho _) k2 (fun σ' own' w' g H => hk σ' own' w' ⟨g.le, g.keep, g.next⟩ H)
  | .call v args :: ds, _, σ, own, h, h', w, hg, ⟨y, ys, rfl, hy, hd⟩, hH, he, hk => by
    obtain ⟨f, a, b, ca, cb, cargs, rfl, rfl, h1, h2, h3⟩ := hy
    have he : (Out.rec (motive := fun _ => Out AHeap) (fun vh => Prod.rec (fun _ h' => endDs callD ds h') vh) (fun _ _ => .fail) .fail (callD f (appL (appL a args) b) h)) = .ok h' := he
    cases hc : callD f (appL (appL a args) b) h with
    | fail => rw [hc] at he; cases he
    | panic _ _ => rw [hc] at he; cases he
    | ok vh =>
      obtain ⟨v', h''⟩ := vh
      rw [hc] at he
      have he : endDs callD ds h'' = .ok h' := he
      obtain ⟨hE, hC⟩ := hD f σ own w h (appL (appL a args) b) (ca ++ cargs ++ cb) hg hH (by rw [appL_eq, appL_eq]; simp only [Array.toList_append]; exact (h1.append h3).append h2) (by rw [hc]; intro e; cases e)
      refine ⟨by simp, .inr ⟨FR_depth, .func f, cb, f, ca ++ cargs ++ cb, rfl, hE _ _, fun g hg => trivial, hC.mono ?_⟩⟩
      rintro e u w' ⟨rfl, hb⟩
      rw [hc] at hb
      obtain ⟨vc, rfl, σ', own', b1, b2, b3⟩ := hb
      show LeavesInM _ _ _ _ _ _ _ _ _
      exact endDs_ok hD ds ys σ' own' h'' h' w' (hg.mono b2.le) (hd.mono b2.le) b3 he (fun σ2 own2 w2 g H => hk σ2 own2 w2 (b2.trans g) H)
theorem runFn_ok {C : CallerY} {Y : YH} (hC : CallYOK P K ng C) (hY : YOK P K ng Y) {callD : Caller} (hD : ∀ f, KnownDOK P K ng f (callD f)) {f : Nat} {fn : AFun} (hF : FunOK P K ng f fn) (lf : Nat)
    {σ : Env} {own : Owns} {w : World} {h : AHeap} {args : List AV} {cargs : Array Value} (hg : Globs ng σ) (hH : HR K σ own h w) (ha : VRs K σ args cargs.toList) (hf : noF (runFn C Y lf callD fn args h)) : ComesTo P f cargs w (BackL K σ h (runFn C Y lf callD fn args h)) := by
  refine .inl ⟨funEnters hF, ?_⟩
  obtain ⟨func, c, h1, hnm, h2, h3, h4⟩ := hF
  have hin : ∀ {e}, e ∈ exec C Y lf fn.code ⟨argsT args .h .nil, h⟩ [] → fn.ends callD e ∈ runFn C Y lf callD fn args h := fun {e} he => mem_bindG.2 ⟨e, he, List.mem_singleton.2 rfl⟩
  refine (callsR (R := none) (n := 0)).1 (callsIn_of_wp_marks h1 h2 trivial (wpIn_mono (h3 C Y lf hC hY σ own _ w _ [] hg hH (TR.args ha _) (by simp; omega) rfl (fun e he hfl => hf _ (hin he) (by rw [hfl]; rfl))) ?_))
  rintro e a' w' ⟨ex, hex, hl⟩
  have hx := hin hex
  have hne := hf _ hx
  have key : ∀ s' ds', SR K func.ntmps σ h s' ds' a' w' → fn.ends callD ex = (Out.rec (motive := fun _ => Out (AV × AHeap)) (fun h => fn.done ⟨s'.tmps, h⟩) (fun _ _ => .fail) .fail (endDs callD ds' s'.heap)) → LeavesInM (FR none) 0 P func a'.tmps (BackL K σ h (runFn C Y lf callD fn args h)) a'.defers .returning w' := by
    intro s' ds' hs hd
    obtain ⟨⟨σ', own', g1, g2, g3, g4⟩, g5⟩ := hs
    rw [hd] at hx hne
    cases he : endDs callD ds' s'.heap with
    | fail => rw [he] at hne; exact absurd rfl hne
    | panic _ _ => rw [he] at hne; exact absurd rfl hne
    | ok h' =>
      rw [he] at hx hne
      refine endDs_ok hD ds' a'.defers σ' own' s'.heap h' w' (hg.mono g1.le) g4 g2 he fun σ2 own2 w2 g H => ?_
      have hne : fn.done ⟨s'.tmps, h'⟩ ≠ .fail := hne
      obtain ⟨v, k1, k2⟩ := done_ok h4 (g1.trans g) H (g3.mono g.le) hne
      exact ⟨v, k1, _, hx, k2⟩
  cases ex with
  | normal s' ds' => obtain ⟨rfl, hs⟩ := hl; exact key s' ds' hs rfl
  | ret s' ds' => obtain ⟨rfl, hs⟩ := hl; exact key s' ds' hs rfl
  | exit id s' ds' => exact absurd rfl hne
  | panic v h' =>
    obtain ⟨d0, vc, rfl, hs⟩ := hl
    show LeavesInM _ _ _ _ _ _ _ _ _
    rw [d0]
    exact ⟨_, hx, vc, rfl, hs⟩
  | fail => exact absurd rfl hne
theorem noY_ok : YOK P K ng noY := fun σ own w h b l args cargs hg hH hb ha hf => absurd rfl (hf _ (List.mem_singleton.2 rfl))
theorem callG_ok {I : Nat → Option KnownY} {ID : Nat → Option Known} {F : Nat → Option AFun} {J : Nat → Bool} (hI : ∀ f g, I f = some g → KnownYOK P K ng f g) (hID : ∀ f g, ID f = some g → KnownDOK P K ng f g) (hF : ∀ f fn, F f = some fn → FunOK P K ng f fn) (lf : Nat) :
    ∀ m, CallYOK P K ng (callG I ID F J lf m)
  | 0 => fun Y hY => ⟨fun σ own w h f args cargs hy hg hH ha hf => absurd rfl (hf _ (List.mem_singleton.2 rfl)), fun σ own w h b l args cargs hg hH hl ha hf => absurd rfl (hf _ (List.mem_singleton.2 rfl))⟩
  | m + 1 => fun Y hY => by
    have ih := callG_ok (J := J) hI hID hF lf m
    have hdef : ∀ f args h, callG I ID F J lf (m + 1) Y f args h = ifb (Nat.beq f yN) (yieldTo Y args h) (onSome (I f) (fun g => g Y args h) (onSome (F f) (fun fn => ifb (J f) (joinN h.next (runFn (callG I ID F J lf m) Y lf (callDs ID F (callG I ID F J lf m) Y lf) fn args h)) (runFn (callG I ID F J lf m) Y lf (callDs ID F (callG I ID F J lf m) Y lf) fn args h)) [.fail])) := fun _ _ _ => rfl
    have hD : ∀ f, KnownDOK P K ng f (callDs ID F (callG I ID F J lf m) Y lf f) := by
      intro f σ own w h args cargs hg hH ha hf
      have hd : callDs ID F (callG I ID F J lf m) Y lf f args h = onSome (ID f) (fun g => g args h) (onSome (F f) (fun fn => oneG (bindG (exec (callG I ID F J lf m) Y lf fn.code ⟨argsT args .h .nil, h⟩ []) (fun e => [fn.ends0 e]))) .fail) := rfl
      rw [hd] at hf ⊢
      cases hi : ID f with
      | some g => rw [hi] at hf; exact hID f g hi σ own w h args cargs hg hH ha hf
      | none =>
        rw [hi] at hf
        cases hfn : F f with
        | none => rw [hfn] at hf; exact absurd rfl hf
        | some fn => rw [hfn] at hf; exact funD_ok ih hY (hF f fn hfn) lf σ own w h args cargs hg hH ha hf
    constructor
    · intro σ own w h f args cargs hy hg hH ha hf
      rw [hdef] at hf ⊢
      have hb : Nat.beq f yN = false := by
        cases h : Nat.beq f yN with
        | true => exact absurd (Nat.eq_of_beq_eq_true h) hy
        | false => rfl
      rw [hb] at hf ⊢
      cases hi : I f with
      | some g =>
        rw [hi] at hf
        exact hI f g hi Y hY σ own w h args cargs hg hH ha hf
      | none =>
        rw [hi] at hf
        cases hfn : F f with
        | none => rw [hfn] at hf; exact absurd rfl (hf _ (List.mem_singleton.2 rfl))
        | some fn =>
          rw [hfn] at hf
          cases hj : J f with
          | false =>
            rw [hj] at hf
            exact runFn_ok ih hY hD (hF f fn hfn) lf hg hH ha hf
          | true =>
            rw [hj] at hf
            exact (runFn_ok ih hY hD (hF f fn hfn) lf hg hH ha (joinN_noF hf)).mono fun e w' hb => joinN_back hb
    · intro σ own w h b l args cargs hg hH hl ha hf
      exact hY σ own w h b l args cargs hg hH hl ha hf
theorem callG1_ok {I : Nat → Option KnownY} {ID : Nat → Option Known} {F : Nat → Option AFun} {J : Nat → Bool} (hI : ∀ f g, I f = some g → KnownYOK P K ng f g) (hID : ∀ f g, ID f = some g → KnownDOK P K ng f g) (hF : ∀ f fn, F f = some fn → FunOK P K ng f fn) (lf m : Nat) :
    CallOK P K ng (detC (callG I ID F J lf m noY)) := (callG_ok (J := J) hI hID hF lf m noY noY_ok).det
end
end Go.Eng
namespace Go.Eng
open Go.RowKit
section
variable {K : Ctx} {σ : Env} {own : Owns} {h : AHeap} {w w' : World}
theorem HR.grownWorld (H : HR K σ own h w) (hb : Below w.heap.size w w') : HR K σ own h w' := by
  refine ⟨H.fresh, fun b l hl => ?_, H.grp, H.below.trans ⟨hb.os, hb.tape, hb.output, hb.size, fun k hk => hb.block k (by have := H.base; omega)⟩, by have := H.base; have := hb.size; omega, fun B t hB => ?_, H.off⟩
  · have hx := H.obj b l hl
    by_cases hB : l.B < w.heap.size
    · exact hx.frame (Env.le.refl σ) (hb.block _ hB) rfl hb.size
    · cases ho' : h.get b with
      | none => trivial
      | some o' =>
        rw [ho'] at hx
        cases o' with
        | dead => trivial
        | cells g ro r => exact absurd hx.2.1 hB
        | map es clock => exact absurd (H.owned _ _ hx.1).2 hB
        | siter n d p => exact absurd (H.owned _ _ hx.1).2 hB
        | ext e => exact absurd (H.owned _ _ hx.1.1).2 hB
        | rmap es => exact absurd (Nat.lt_of_lt_of_le hx.1 H.base) hB
  · have := H.owned B t hB
    have := hb.size
    exact ⟨by omega, by omega⟩
end
noncomputable def joinL (m sep : Nat) : List AV → Option (Nat × Nat)
  | [] => some (0, 0)
  | x :: l => x.onStr (fun n d => match l with
      | [] => some (n, d)
      | _ :: _ => onSome (joinL m sep l) (fun r => some (Nat.add n (Nat.add m r.1), glue n d (glue m sep r.2))) none) none
noncomputable def joinI : Known := fun args h =>
  match args with
  | [x, y] => y.onStr (fun m sep => x.onSlice .fail (fun b off len sz => ifb (Nat.beq sz 1) (onSome (h.loadN b off len) (fun l => onSome (joinL m sep l) (fun r => ifb (Nat.ble (Nat.add r.1 len) 1048576) (.ok (.str r.1 r.2, h)) .fail) .fail) .fail) .fail) .fail) .fail
  | _ => .fail
end Go.Eng
namespace Go.Eng
open Go.RowKit
theorem glue_eq (m a b : Nat) : glue m a b = a + 256 ^ m * b := by
  show a + b <<< (8 * m) = _
  rw [Nat.shiftLeft_eq, Nat.pow_mul, Nat.mul_comm b]
theorem joinL_ok {K : Ctx} {σ : Env} {m sep : Nat} (hs : sep < 256 ^ m) : ∀ (l : List AV) (cs : List Value) (n d : Nat), VRs K σ l cs → joinL m sep l = some (n, d) →
    ∃ xs : List ByteArray, cs = xs.map Value.string ∧ d < 256 ^ n ∧ unp n d = Lib.join (xs.map (·.data.toList)) (unp m sep)
  | [], cs, n, d, h, hj => by
    simp only [VRs] at h
    subst h
    cases hj
    exact ⟨[], rfl, by decide, rfl⟩
  | x :: l, _, n, d, ⟨y, ys, rfl, h1, h2⟩, hj => by
    cases x with
    | str n1 d1 =>
      obtain ⟨rfl, hd⟩ := h1
      cases l with
      | nil =>
        have hj' : some (n1, d1) = some (n, d) := hj
        cases hj'
        simp only [VRs] at h2
        subst h2
        exact ⟨[bytesOf n d], rfl, hd, by rw [List.map_cons, List.map_nil, Lib.join_one]; rfl⟩
      | cons z l =>
        have hj' : onSome (joinL m sep (z :: l)) (fun r => some (Nat.add n1 (Nat.add m r.1), glue n1 d1 (glue m sep r.2))) none = some (n, d) := hj
        obtain ⟨⟨n2, d2⟩, k1, k2⟩ := onSome_eq hj'
        cases k2
        obtain ⟨xs, e1, e2, e3⟩ := joinL_ok hs (z :: l) ys n2 d2 h2 k1
        subst e1
        refine ⟨bytesOf n1 d1 :: xs, rfl, glue_lt _ _ _ _ hd (glue_lt _ _ _ _ hs e2), ?_⟩
        show unp (n1 + (m + n2)) (glue n1 d1 (glue m sep d2)) = _
        rw [glue_eq n1, unp_append _ _ _ _ hd, glue_eq m, unp_append _ _ _ _ hs, e3]
        cases xs with
        | nil => obtain ⟨_, _, e, _⟩ := h2; simp at e
        | cons a xs =>
          simp only [List.map_cons]
          rw [Lib.join_cons, Lib.join_cons]
          simp [Lib.joinTail, bytesOf]
    | _ => cases hj
end Go.Eng
namespace Go.Eng
open Go.RowKit
noncomputable def lookFn (l : List (Nat × Func)) (t : Nat) : Option Func := List.rec none (fun p _ ih => ifb (Nat.beq p.1 t) (some p.2) ih) l
noncomputable def funs (ng : Nat) (cst : Value → Option AV) (T : Nat → Option TI) (ptrs : PO) (nd : Nat → Bool) (l : List (Nat × Func)) : Nat → Option AFun :=
  fun f => onSome (lookFn l f) (fun fn => compFun ng cst T ptrs (nd f) f fn) none
theorem lookFn_ok : ∀ {l : List (Nat × Func)} {f : Nat} {fn : Func}, lookFn l f = some fn → (f, fn) ∈ l
  | [], f, fn, h => by cases h
  | p :: l, f, fn, h => by
    have h' : ifb (Nat.beq p.1 f) (some p.2) (lookFn l f) = some fn := h
    cases hb : Nat.beq p.1 f with
    | true =>
      rw [hb] at h'
      cases h'
      have := Nat.eq_of_beq_eq_true hb
      subst this
      exact List.mem_cons_self
    | false => rw [hb] at h'; exact List.mem_cons_of_mem _ (lookFn_ok h')
theorem funs_ok {P : Program} {K : Ctx} {ng : Nat} {cst : Value → Option AV} {T : Nat → Option TI} {ptrs : PO} {l : List (Nat × Func)} (hc : CstOK cst) (hT : TOK P T) (hp : POK P K ptrs) (hmix : P.follows .mixedOrders = true) (hK : K.codes = codesOf P) {nd : Nat → Bool}
    (hl : ∀ p ∈ l, P.funcs[p.1]? = some p.2) : ∀ f fn, funs ng cst T ptrs nd l f = some fn → FunOK P K ng f fn := fun f fn h => by
  obtain ⟨func, h1, h2⟩ := onSome_eq (show onSome (lookFn l f) (fun fn => compFun ng cst T ptrs (nd f) f fn) none = some fn from h)
  exact compFun_ok hc hT hp hmix hK (hl _ (lookFn_ok h1)) h2
end Go.Eng
namespace Go.Eng
open Go.RowKit
def noHeap (next : Pos) : AHeap := ⟨next, .nil, .nil⟩
theorem HR.outset {K : Ctx} {w : World} {σ : Env} {h : AHeap} (hb : K.base = w.heap.size) (hw : K.w0 = w) (hf : ∀ b, h.next.num ≤ b.num → σ b = none) (ho : ∀ b l, σ b = some l → ObjR K σ (fun _ => none) w b l (h.get b))
    (hg : ∀ b p ro r, h.get b = some (.cells (some p) ro r) → b ∈ h.grpL p) : HR K σ (fun _ => none) h w :=
  ⟨hf, ho, hg, by rw [hw]; exact Below.refl _ _, by rw [hb]; exact Nat.le_refl _, (fun B t hB => by cases hB), fun b l r hl hc => by
    have h1 := ho b l hl
    rw [hc] at h1
    have h2 := (h1.2.2.1 rfl).1
    cases h2⟩
end Go.Eng
namespace Go.Eng
open Go.RowKit
theorem posOf_num (b : Pos) : posOf (b.num - 1) = b := by
  apply Pos.num_inj
  rw [num_posOf]
  have := b.num_pos
  show 1 + _ = _
  omega
theorem num_posOf' (n : Nat) : (posOf n).num = n + 1 := by rw [num_posOf]; show 1 + n = _; omega
noncomputable def envOf (loc : Nat → Option Loc) : Env := fun b => loc (b.num - 1)
theorem envOf_posOf (loc : Nat → Option Loc) (n : Nat) : envOf loc (posOf n) = loc n := by
  show loc _ = _
  rw [num_posOf']; rfl
noncomputable def rowsT (l : List (Nat × Row)) : PT AObj := List.rec .nil (fun p _ t => t.set (.cells none true p.2) (posOf p.1)) l
theorem rowsT_get : ∀ {l : List (Nat × Row)} {b : Pos} {o : AObj}, (rowsT l).get b = some o → ∃ p ∈ l, b = posOf p.1 ∧ o = .cells none true p.2
  | [], b, o, h => by cases h
  | p :: l, b, o, h => by
    have h' : ((rowsT l).set (.cells none true p.2) (posOf p.1)).get b = some o := h
    by_cases e : b = posOf p.1
    · subst e
      rw [PT.get_set_same] at h'
      exact ⟨p, List.mem_cons_self, rfl, (Option.some.inj h').symm⟩
    · rw [PT.get_set_other _ _ e] at h'
      obtain ⟨q, hq, h1, h2⟩ := rowsT_get h'
      exact ⟨q, List.mem_cons_of_mem _ hq, h1, h2⟩
noncomputable def heapOf (next : Nat) (rows : List (Nat × Row)) : AHeap := ⟨posOf next, rowsT rows, .nil⟩
theorem HR.of_rows {K : Ctx} {w : World} {loc : Nat → Option Loc} {next : Nat} {rows : List (Nat × Row)} (hb : K.base = w.heap.size) (hw : K.w0 = w) (hloc : ∀ i, next ≤ i → loc i = none)
    (hr : ∀ p ∈ rows, ∀ l, loc p.1 = some l → RowR K (envOf loc) w l p.2 ∧ l.B < w.heap.size ∧ (p.2.size = 0 → l.C = 0)) : HR K (envOf loc) (fun _ => none) (heapOf next rows) w := by
  refine HR.outset hb hw (fun b hn => ?_) (fun b l hl => ?_) (fun b p ro r h => ?_)
  · have hn : (posOf next).num ≤ b.num := hn
    rw [num_posOf'] at hn
    exact hloc _ (by omega)
  · show ObjR _ _ _ _ _ _ ((rowsT rows).get b)
    cases hg : (rowsT rows).get b with
    | none => trivial
    | some o =>
      obtain ⟨p, hp, rfl, rfl⟩ := rowsT_get hg
      rw [envOf_posOf] at hl
      obtain ⟨h1, h2, h3⟩ := hr p hp l hl
      exact ⟨h1, h2, fun e => (by cases e), fun _ => ⟨.inl rfl, h3⟩⟩
  · obtain ⟨q, _, _, hq⟩ := rowsT_get (show (rowsT rows).get b = _ from h)
    cases hq
theorem globs_of {ng : Nat} {loc : Nat → Option Loc} (h : ∀ g, g < ng → ∃ C, loc g = some ⟨g, 0, C⟩) : Globs ng (envOf loc) := fun g hg => by
  rw [envOf_posOf]; exact h g hg
section
variable {P : Program} {K : Ctx} {ng : Nat}
theorem calls_of {f : Nat} {cargs : Array Value} {w : World} {R : Ending → World → Prop} (hE : Enters P f) (h : ComesTo P f cargs w R) : Calls P f cargs w R := by
  rcases h with h | ⟨v, w', h, _⟩
  · exact h.2
  · rw [hE] at h; cases h
theorem enters_of {f : Nat} {fn : Func} (h : P.funcs[f]? = some fn) (hb : fn.body.isSome = true) (hn : (fn.name == "runtime.NumGoroutine") = false) : Enters P f := by
  obtain ⟨c, hc⟩ := Option.isSome_iff_exists.1 hb
  have hn' : ¬ fn.name = "runtime.NumGoroutine" := by intro e; rw [e] at hn; simp at hn
  intro args w
  simp [callFunc, h, hn', hc]
noncomputable def isTrueO (r : Out (AV × AHeap)) : Bool := Out.rec (fun vh => Prod.rec (fun v _ => v.onBool true false false) vh) (fun _ _ => false) false r
theorem isTrueO_eq {r : Out (AV × AHeap)} (h : isTrueO r = true) : ∃ h', r = .ok (.bool true, h') := by
  cases r with
  | ok vh =>
    obtain ⟨v, h'⟩ := vh
    cases v with
    | bool b => cases b with
      | true => exact ⟨h', rfl⟩
      | false => cases h
    | _ => cases h
  | panic v h' => cases h
  | fail => cases h
theorem run_true {call : Caller} (hc : CallOK P K ng call) {f : Nat} (hE : Enters P f) (hy : f ≠ yN) {σ : Env} {own : Owns} {w : World} {h : AHeap} {args : List AV} {cargs : Array Value} (hb : K.base = w.heap.size) (hw : K.w0 = w) (hg : Globs ng σ) (hH : HR K σ own h w)
    (ha : VRs K σ args cargs.toList) (hr : isTrueO (call f args h) = true) : Calls P f cargs w fun e w' => e = .returned (.bool true) ∧ Below w.heap.size w w' := by
  obtain ⟨h', hr'⟩ := isTrueO_eq hr
  have := calls_of hE (hc.fn σ own w h f args cargs hy hg hH ha (by rw [hr']; intro e; cases e))
  rw [hr'] at this
  refine this.mono fun e w' ⟨vc, he, σ', own', h1, h2, h3⟩ => ?_
  subst he
  have hv : vc = .bool true := h1
  subst hv
  have := h3.below
  rw [hb, hw] at this
  exact ⟨rfl, this⟩
end
noncomputable def ctxAt (P : Program) (w : World) : Ctx := ⟨w.heap.size, w, fun _ => .nilIface, fun _ => rfl, (fun _ _ h => by cases h), codesOf P, fun _ => ([], 0)⟩
end Go.Eng
namespace Go.Eng
open Go.RowKit
noncomputable def lookM (j m : Nat) (l : List (Nat × Nat × Nat)) : Option Nat := List.rec none (fun p _ ih => ifb (Nat.beq p.1 j) (ifb (Nat.beq p.2.1 m) (some p.2.2) ih) ih) l
theorem lookM_ok {j m r : Nat} : ∀ {l : List (Nat × Nat × Nat)}, lookM j m l = some r → (j, m, r) ∈ l
  | [], h => by cases h
  | p :: l, h => by
    have h' : ifb (Nat.beq p.1 j) (ifb (Nat.beq p.2.1 m) (some p.2.2) (lookM j m l)) (lookM j m l) = some r := h
    cases h1 : Nat.beq p.1 j with
    | false => rw [h1] at h'; exact List.mem_cons_of_mem _ (lookM_ok h')
    | true =>
      cases h2 : Nat.beq p.2.1 m with
      | false => rw [h1, h2] at h'; exact List.mem_cons_of_mem _ (lookM_ok h')
      | true =>
        rw [h1, h2] at h'
        obtain ⟨a, b, c⟩ := p
        have := Nat.eq_of_beq_eq_true h1
        have := Nat.eq_of_beq_eq_true h2
        cases h'
        subst_vars
        exact List.mem_cons_self
def remQ : Op → Bool | .binOp .rem _ _ _ _ => true | _ => false
noncomputable def modO (tu ti : Nat) (l : List (Nat × Nat × Nat)) : Op → List AV → Option AV := fun op vs =>
  match op with
  | .convert t u _ => ifb (Nat.beq t tu) (ifb (Nat.beq u ti) (match vs with | [.opq j] => ifb (Nat.beq (Nat.mod j 2) 0) (some (.opq (Nat.succ j))) none | _ => none) none) none
  | .binOp .rem _ _ _ _ => match vs with
    | [.opq j, .int .i64 (.ofNat m)] => onSome (lookM j m l) (fun r => some (.int .i64 (.ofNat r))) none
    | _ => none
  | _ => none
def opqM (ns : Nat → Nat) (j : Nat) : Value := if j % 2 = 0 then .int .u8 (ns (j / 2)) else .int .i64 (ns (j / 2))
theorem opqM_even (ns : Nat → Nat) (j : Nat) : opqM ns (2 * j) = .int .u8 (ns j) := by
  have h1 : 2 * j % 2 = 0 := by omega
  have h2 : 2 * j / 2 = j := by omega
  simp [opqM, h1, h2]
noncomputable def ctxM (P : Program) (w : World) (ns : Nat → Nat) : Ctx := ⟨w.heap.size, w, opqM ns, (fun i => by unfold opqM; split <;> rfl), (fun i x h => by unfold opqM at h; split at h <;> cases h), codesOf P, fun _ => ([], 0)⟩
theorem modO_ok {P : Program} {w : World} {ns : Nat → Nat} {tu ti : Nat} {l : List (Nat × Nat × Nat)} (htu : P.underlying tu = some (.int .u8)) (hti : P.underlying ti = some (.int .i64)) (hns : ∀ j, ns j < 256)
    (hl : ∀ p ∈ l, p.1 % 2 = 1 ∧ p.2.1 ≠ 0 ∧ ns (p.1 / 2) % p.2.1 = p.2.2) : OrcOK P (ctxM P w ns) (modO tu ti l) := by
  intro op vs z h σ ρ w' dst ty pos af gd hv
  unfold modO at h
  split at h
  · rename_i t u x
    cases ht : Nat.beq t tu with
    | false => rw [ht] at h; cases h
    | true =>
      cases hu : Nat.beq u ti with
      | false => rw [ht, hu] at h; cases h
      | true =>
        rw [ht, hu] at h
        obtain rfl := Nat.eq_of_beq_eq_true ht
        obtain rfl := Nat.eq_of_beq_eq_true hu
        simp only [ifb] at h
        split at h
        · rename_i j
          cases hj : Nat.beq (Nat.mod j 2) 0 with
          | false => rw [hj] at h; cases h
          | true =>
            rw [hj] at h
            cases h
            have hj : j % 2 = 0 := Nat.eq_of_beq_eq_true hj
            obtain ⟨y, ys, e1, e2, e3⟩ := hv
            have e1 : [ρ x] = y :: ys := e1
            cases e1
            have e2 : ρ x = opqM ns j := e2
            have hn : ns (j / 2) < 256 := hns _
            refine ⟨.int .i64 (ns (j / 2)), ?_, ?_⟩
            · rw [opqM, if_pos hj] at e2
              have hw : IntKind.i64.wrap (ns (j / 2) : Int) = (ns (j / 2) : Int) := by
                have := wrapN_eq .i64 (Int.ofNat (ns (j / 2)))
                rw [show ((ns (j / 2) : Nat) : Int) = Int.ofNat (ns (j / 2)) from rfl, ← this]
                show ifb (Nat.ble _ 9223372036854775807) _ _ = _
                rw [Nat.ble_eq_true_of_le (by omega)]; rfl
              simp [execOp, e2, convert, run_underlying htu, run_underlying hti, Conv.intToInt, hw]
            · show _ = opqM ns (j + 1)
              have h1 : ¬ (j + 1) % 2 = 0 := by omega
              have h2 : (j + 1) / 2 = j / 2 := by omega
              rw [opqM, if_neg h1, h2]
        · cases h
  · rename_i t x y t'
    split at h
    · rename_i j m
      obtain ⟨r, hr, h⟩ := onSome_eq h
      cases h
      obtain ⟨h1, h2, h3⟩ := hl _ (lookM_ok hr)
      simp only at h1 h2 h3
      obtain ⟨a, as, e1, e2, b, bs, e3, e4, e5⟩ := hv
      have e1 : [ρ x, ρ y] = a :: as := e1
      cases e1
      cases e3
      have e2 : ρ x = opqM ns j := e2
      have e4 : ρ y = .int .i64 (Int.ofNat m) := e4
      have hj : ¬ j % 2 = 0 := by omega
      rw [opqM, if_neg hj] at e2
      refine ⟨.int .i64 (Int.tmod (ns (j / 2)) m), ?_, ?_⟩
      · simp [execOp, e2, e4, go_sem, Op.intDiv, h2]
      · show _ = _
        rw [← h3]
        rfl
    · cases h
  · cases h
end Go.Eng
namespace Go.Eng
open Go.RowKit
noncomputable def objsT (l : List (Nat × AObj)) : PT AObj := List.rec .nil (fun p _ t => t.set p.2 (posOf p.1)) l
theorem objsT_get : ∀ {l : List (Nat × AObj)} {b : Pos} {o : AObj}, (objsT l).get b = some o → ∃ p ∈ l, b = posOf p.1 ∧ o = p.2
  | [], b, o, h => by cases h
  | p :: l, b, o, h => by
    have h' : ((objsT l).set p.2 (posOf p.1)).get b = some o := h
    by_cases e : b = posOf p.1
    · subst e
      rw [PT.get_set_same] at h'
      exact ⟨p, List.mem_cons_self, rfl, (Option.some.inj h').symm⟩
    · rw [PT.get_set_other _ _ e] at h'
      obtain ⟨q, hq, h1, h2⟩ := objsT_get h'
      exact ⟨q, List.mem_cons_of_mem _ hq, h1, h2⟩
noncomputable def heapOfO (next : Nat) (objs : List (Nat × AObj)) : AHeap := ⟨posOf next, objsT objs, .nil⟩
theorem HR.of_objs {K : Ctx} {w : World} {loc : Nat → Option Loc} {next : Nat} {objs : List (Nat × AObj)} (hb : K.base = w.heap.size) (hw : K.w0 = w) (hloc : ∀ i, next ≤ i → loc i = none)
    (hr : ∀ p ∈ objs, (∀ q ro r, p.2 ≠ .cells (some q) ro r) ∧ ∀ l, loc p.1 = some l → ObjR K (envOf loc) (fun _ => none) w (posOf p.1) l (some p.2)) : HR K (envOf loc) (fun _ => none) (heapOfO next objs) w := by
  refine HR.outset hb hw (fun b hn => ?_) (fun b l hl => ?_) (fun b p ro r h => ?_)
  · have hn : (posOf next).num ≤ b.num := hn
    rw [num_posOf'] at hn
    exact hloc _ (by omega)
  · show ObjR _ _ _ _ _ _ ((objsT objs).get b)
    cases hg : (objsT objs).get b with
    | none => trivial
    | some o =>
      obtain ⟨p, hp, rfl, rfl⟩ := objsT_get hg
      rw [envOf_posOf] at hl
      exact (hr p hp).2 l hl
  · obtain ⟨q, hq, _, e⟩ := objsT_get (show (objsT objs).get b = _ from h)
    exact absurd e.symm ((hr q hq).1 p ro r)
theorem ObjR.ro {K : Ctx} {σ : Env} {w : World} {b : Pos} {l : Loc} {r : Row} (h : RowR K σ w l r) (hb : l.B < w.heap.size) (h0 : r.size = 0 → l.C = 0) : ObjR K σ (fun _ => none) w b l (some (.cells none true r)) :=
  ⟨h, hb, fun e => (by cases e), fun _ => ⟨.inl rfl, h0⟩⟩
structure SlotOK (w : World) (key : Int) (texts : List (List UInt8)) (c : MapEntry) (l : Loc) : Prop where
  key : c.key = .int .i64 key
  val : c.val = .slice (some ⟨l.B, l.o, none⟩) texts.length l.C
  room : texts.length ≤ l.C
  cell : ∀ i, i < l.C → ∃ v, w.cell? ⟨l.B, l.o + i, none⟩ = some v
  text : ∀ i t, texts[i]? = some t → ∃ s : ByteArray, w.cell? ⟨l.B, l.o + i, none⟩ = some (.string s) ∧ s.data.toList = t
theorem perm_map {α β : Type} {f : α → β} : ∀ {m : List β} {l : List α}, (l.map f).Perm m → ∃ l' : List α, l'.Perm l ∧ l'.map f = m
  | [], l, h => by
    have : l = [] := by have := h.length_eq; simpa using this
    subst this
    exact ⟨[], .refl _, rfl⟩
  | y :: m, l, h => by
    have hy : y ∈ l.map f := h.mem_iff.2 List.mem_cons_self
    obtain ⟨x, hx, rfl⟩ := List.mem_map.1 hy
    obtain ⟨l1, l2, rfl⟩ := List.append_of_mem hx
    have h2 : ((l1 ++ l2).map f).Perm m := by
      have h3 : (f x :: (l1 ++ l2).map f).Perm (f x :: m) := by
        refine List.Perm.trans ?_ h
        rw [List.map_append, List.map_append, List.map_cons]
        exact List.perm_middle.symm
      exact h3.cons_inv
    obtain ⟨l', k1, k2⟩ := perm_map h2
    exact ⟨x :: l', (k1.cons x).trans List.perm_middle.symm, by rw [List.map_cons, k2]⟩
inductive All2 {α β : Type} (R : α → β → Prop) : List α → List β → Prop
  | nil : All2 R [] []
  | cons {x : α} {y : β} {l : List α} {m : List β} : R x y → All2 R l m → All2 R (x :: l) (y :: m)
theorem forall2_of_map {α β γ : Type} {f : α → γ} {g : β → γ} {R : β → α → Prop} : ∀ {l : List α} {m : List β}, l.map f = m.map g → (∀ x ∈ l, ∀ y, f x = g y → R y x) → All2 R m l
  | [], [], _, _ => .nil
  | x :: l, y :: m, h, hr => by
    rw [List.map_cons, List.map_cons] at h
    obtain ⟨h1, h2⟩ := List.cons.inj h
    exact .cons (hr x List.mem_cons_self y h1) (forall2_of_map h2 fun z hz => hr z (List.mem_cons_of_mem _ hz))
  | [], _ :: _, h, _ => by cases h
  | _ :: _, [], h, _ => by cases h
def laidTexts {H : Type} (x : Int × List (List UInt8)) : Lit × DataW H := (.int .i64 x.1, .slice (x.2.map fun t => .lit (.string t)) [])
theorem cell_lt {w : World} {a : Addr} {v : Value} (h : w.cell? a = some v) : a.block < w.heap.size := by
  rcases Nat.lt_or_ge a.block w.heap.size with h' | h'
  · exact h'
  · have : w.heap[a.block]? = none := Array.getElem?_eq_none h'
    simp [World.cell?, this] at h
theorem slot_of {P : Program} {w : World} {k e ts : TypeId} {H : Type} {enc : TypeId × Value → H} {n : Nat} (hk : P.underlying k = some (.int .i64)) (he : P.underlying e = some (.slice ts)) (hs : P.underlying ts = some .string) (hc : P.cellsOf ts = 1)
    {c : MapEntry} {x : Int × List (List UInt8)} (hr : ∃ y, WideElems.rd P k (WideElems.elemAt enc P w 0 (fun _ => true) false n e) c = some y) (h : WideElems.rg P k (WideElems.elemAt enc P w 0 (fun _ => true) false n e) c = laidTexts x) (hx : x.2 ≠ []) :
    ∃ l, SlotOK w x.1 x.2 c l := by
  obtain ⟨y, hy⟩ := hr
  rw [WideElems.rg_of hy] at h
  subst h
  have hkey := WideElems.rd_key hy
  obtain ⟨z, hz, hzz⟩ := WideElems.rd_val hy
  have hck : c.key = .int .i64 x.1 := by
    have hkey : _root_.Go.keyOf P k c.key = some (.int .i64 x.1) := hkey
    generalize c.key = q at hkey ⊢
    unfold _root_.Go.keyOf at hkey
    rw [hk] at hkey
    simp only at hkey
    unfold mapKey at hkey
    rw [hk] at hkey
    cases q <;> simp only at hkey <;> try (cases hkey; done)
    split at hkey
    · rename_i h3
      cases hkey
      rw [h3.1]
    · cases hkey
  unfold WideElems.elemAt at hz
  split at hz
  · rename_i hf
    obtain ⟨z1, z2⟩ := z
    have hzz : DataW.slice (x.2.map fun t => DataW.lit (.string t)) [] = z1 := hzz
    subst hzz
    have hcells : ∀ v, c.val.cells.toList = [v] → (∃ a l cp, v = .slice a l cp) → c.val = v := fun v hv ⟨a, l, cp, e1⟩ => by
      subst e1
      have key : ∀ u : Value, u.cells.toList = [Value.slice a l cp] → u.formed P e = true → u = .slice a l cp := fun u hu hf => by
        cases u <;> simp [Value.cells] at hu
        · obtain ⟨rfl, rfl, rfl⟩ := hu; rfl
        · simp [Value.formed, he] at hf
      exact key _ hv hf
    rcases Deep.open_slice1 he hc hz with ⟨e1, e2⟩ | ⟨a, len, cap, m, n', V, D, Pl, e1, hb, hl, hm, hmm, e2, hx2⟩
    · cases e2
    · have hv := hcells _ e1 ⟨_, _, _, rfl⟩
      have hmm : m = cap := hmm
      subst hmm
      have e3 := congrArg Prod.fst e2
      have e3 : DataW.slice (x.2.map fun t => DataW.lit (.string t)) [] = .slice ((List.range len).map D) ((List.range (m - len)).map fun j => D (len + j)) := e3
      obtain ⟨e4, e5⟩ := DataW.slice.inj e3
      have hlen : x.2.length = len := by have := congrArg List.length e4; simpa using this
      have hcap : len = m := by
        have := congrArg List.length e5
        simp at this
        omega
      have hpos : 0 < len := by rw [← hlen]; exact List.length_pos_iff.2 hx
      obtain ⟨B, o, sp⟩ := a
      have hsp : sp = none := by
        have := (hx2 0 (by omega)).1
        cases sp with
        | none => rfl
        | some q => unfold World.cell? at this; split at this <;> simp [Addr.add] at this
      subst hsp
      have hadd : ∀ i, (⟨B, o, none⟩ : Addr).add i = ⟨B, o + i, none⟩ := fun i => by
        unfold Addr.add
        split
        · rename_i h0; subst h0; rfl
        · rfl
      refine ⟨⟨B, o, m⟩, hck, by rw [hv, hlen], Nat.le_of_eq (hlen.trans hcap), fun i hi => ⟨_, by have := (hx2 i hi).1; rw [hadd] at this; exact this⟩, fun i t ht => ?_⟩
      have hi : i < len := by rw [← hlen]; exact (List.getElem?_eq_some_iff.1 ht).1
      obtain ⟨k1, k2⟩ := hx2 i (by omega)
      obtain ⟨s, k3, k4, _⟩ := DataW.trod_string hs k2
      have hDi : D i = .lit (.string t) := by
        have := congrArg (fun l => l[i]?) e4
        simp only [List.getElem?_map, ht, List.getElem?_range hi, Option.map_some] at this
        exact (Option.some.inj this).symm
      refine ⟨s, ?_, ?_⟩
      · rw [← List.head_eq_of_cons_eq k3]; rw [hadd] at k1; exact k1
      · have := congrArg Prod.fst k4
        have this : D i = .lit (.string s.data.toList) := this
        rw [hDi] at this
        cases this; rfl
  · cases hz
end Go.Eng
