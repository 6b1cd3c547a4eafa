/- The anchor 'works', and a table over a new space of 130 sectors, run by the kernel over an empty heap. -/
import Derived.Test.YtaegmbilkodhpaaGreatDoorWalk
set_option linter.unusedVariables false
set_option maxRecDepth 1000000
namespace Go.Eng
open Go.RowKit Go.Proofs
theorem run8 : isTrueO (c7 8 [] h0) = true := by kernel_rfl
theorem enters8 : Enters Tryz.prog 8 := enters_of Tryz.func8 (by kernel_rfl) (by kernel_rfl)
end Go.Eng
namespace Go.Eng
open Go.RowKit Go.Proofs
noncomputable def ptr0 (x : Option AV) (f : Pos → Bool) : Bool := onSome x (fun v => v.onPtr (fun b o => ifb (Nat.beq o 0) (f b) false) false) false
noncomputable def isI (x : Option AV) (k : IntKind) (n : Int) : Bool := onSome x (fun v => v.onInt (fun k' n' => ifb (keq k' k) (ieq n' n) false) false) false
noncomputable def anyI (x : Option AV) (k : IntKind) : Bool := onSome x (fun v => v.onInt (fun k' _ => keq k' k) false) false
noncomputable def isMapV (x : Option AV) (f : Pos → Bool) : Bool := match x with | some (.map b) => f b | _ => false
noncomputable def isSl (x : Option AV) (n : Nat) : Bool := match x with | some (.slice _ _ len _) => Nat.beq len n | some (.sliceC _ _ len _ _) => Nat.beq len n | _ => false
noncomputable def isFalse (x : Option AV) : Bool := match x with | some (.bool b) => bnot b | _ => false
noncomputable def isSome1 (x : Option AV) : Bool := onSome x (fun v => v.isCell) false
noncomputable def lone (h : AHeap) (b : Pos) : Bool := match h.get b with | some (.cells none false _) => true | _ => false
noncomputable def noEnt (h : AHeap) (b : Pos) : Bool := match h.get b with | some (.map [] 0) => true | _ => false
noncomputable def noMap (h : AHeap) (b : Pos) : Bool := match h.get b with | some (.cells none false (.wid n d)) => ifb (Nat.ble 1024 n) (Nat.beq d 0) false | _ => false
noncomputable def andB (x y : Bool) : Bool := ifb x y false
noncomputable def notIn (p : Pos) (l : List Pos) : Bool := List.rec true (fun q _ ih => ifb (p.eqb q) false ih) l
noncomputable def allDiff (l : List Pos) : Bool := List.rec true (fun p l ih => ifb (notIn p l) ih false) l
theorem notIn_eq {p : Pos} : ∀ {l : List Pos}, notIn p l = true → p ∉ l
  | [], _ => by simp
  | q :: l, h => by
    have h : ifb (p.eqb q) false (notIn p l) = true := h
    cases e : p.eqb q with
    | true => rw [e] at h; cases h
    | false =>
      rw [e] at h
      have hne : p ≠ q := fun e2 => by rw [Pos.eqb_iff.2 e2] at e; cases e
      simp only [List.mem_cons, not_or]
      exact ⟨hne, notIn_eq h⟩
theorem allDiff_eq : ∀ {l : List Pos}, allDiff l = true → l.Nodup
  | [], _ => List.nodup_nil
  | p :: l, h => by
    have h : ifb (notIn p l) (allDiff l) false = true := h
    cases e : notIn p l with
    | false => rw [e] at h; cases h
    | true => rw [e] at h; exact List.nodup_cons.2 ⟨notIn_eq e, allDiff_eq h⟩
noncomputable def startB (t e : AV) (s : AV) (h : AHeap) : Bool :=
  andB (isI (some e) .i64 0) (ptr0 (some t) (fun tb => ptr0 (some s) (fun sb => isMapV (h.load1 tb 1) (fun eb => ptr0 (h.load1 sb 0) (fun db => ptr0 (h.load1 sb 1) (fun cb => isMapV (h.load1 cb 3) (fun fb =>
    ptr0 (h.load1 sb 14) (fun ob => ptr0 (h.load1 sb 13) (fun rb => ptr0 (h.load1 sb 15) (fun kb =>
      andB (allDiff [sb, db, cb, fb, ob, rb, tb, eb, kb]) (andB (ptr0 (h.load1 tb 0) (fun p => p.eqb sb)) (andB (ptr0 (h.load1 cb 0) (fun p => p.eqb db)) (andB (isI (h.load1 cb 1) .i64 20) (andB (anyI (h.load1 cb 2) .i64) (andB (isSl (h.load1 db 0) 130) (andB (isFalse (h.load1 db 2))
      (andB (isI (h.load1 kb 0) .u32 0) (andB (isI (h.load1 kb 1) .i32 0) (andB (isSome1 (h.load1 sb 16)) (andB (lone h tb) (andB (lone h sb) (andB (lone h db) (andB (lone h cb) (andB (lone h kb)
      (andB (noMap h ob) (andB (noMap h rb) (andB (noEnt h eb) (andB (noEnt h fb)
      (andB (isI (h.load1 sb 3) .i64 0) (andB (isI (h.load1 sb 4) .i64 0) (andB (isI (h.load1 sb 5) .i64 0) (andB (isI (h.load1 sb 6) .i64 0) (andB (isI (h.load1 sb 7) .i64 0) (andB (isI (h.load1 sb 8) .i64 0) (andB (isI (h.load1 sb 9) .i64 0) (andB (isI (h.load1 sb 10) .i64 0) (isI (h.load1 sb 11) .i64 0)
      ))))))))))))))))))))))))))))))))))))
noncomputable def onTup2 (r : Out (AV × AHeap)) (f : AV → AV → AHeap → Bool) : Bool := match r with | .ok (.tup [a, b], h) => f a b h | _ => false
noncomputable def startR : Bool := onTup2 (c7 6 [.int .i64 130] h0) (fun d s h1 => andB (ptr0 (some s) (fun sb => lone h1 sb)) (onTup2 (c7 7 [s] h1) (fun t e h2 => startB t e s h2)))
theorem startR_ok : startR = true := by kernel_rfl
theorem enters6 : Enters Tryz.prog 6 := enters_of Tryz.func6 (by kernel_rfl) (by kernel_rfl)
theorem enters7 : Enters Tryz.prog 7 := enters_of Tryz.func7 (by kernel_rfl) (by kernel_rfl)
theorem andB_eq {x y : Bool} (h : andB x y = true) : x = true ∧ y = true := by
  cases x
  · cases h
  · exact ⟨rfl, h⟩
theorem ptr0_eq {x : Option AV} {f : Pos → Bool} (h : ptr0 x f = true) : ∃ b, x = some (.ptr b 0) ∧ f b = true := by
  cases x with
  | none => cases h
  | some v =>
    cases v with
    | ptr b o =>
      have h : ifb (Nat.beq o 0) (f b) false = true := h
      cases e : Nat.beq o 0 with
      | false => rw [e] at h; cases h
      | true =>
        rw [e] at h
        have := Nat.eq_of_beq_eq_true e
        subst this
        exact ⟨b, rfl, h⟩
    | _ => cases h
theorem isI_eq {x : Option AV} {k : IntKind} {n : Int} (h : isI x k n = true) : x = some (.int k n) := by
  cases x with
  | none => cases h
  | some v =>
    cases v with
    | int k' n' =>
      have h : ifb (keq k' k) (ieq n' n) false = true := h
      cases e : keq k' k with
      | false => rw [e] at h; cases h
      | true =>
        rw [e] at h
        have h2 : ieq n' n = true := h
        rw [ieq_beq] at h2
        rw [beq_iff_eq.1 h2, keq_eq e]
    | _ => cases h
theorem anyI_eq {x : Option AV} {k : IntKind} (h : anyI x k = true) : ∃ n, x = some (.int k n) := by
  cases x with
  | none => cases h
  | some v =>
    cases v with
    | int k' n' => exact ⟨n', by rw [keq_eq (show keq k' k = true from h)]⟩
    | _ => cases h
theorem isMapV_eq {x : Option AV} {f : Pos → Bool} (h : isMapV x f = true) : ∃ b, x = some (.map b) ∧ f b = true := by
  unfold isMapV at h
  split at h
  · exact ⟨_, rfl, h⟩
  · cases h
theorem isFalse_eq {x : Option AV} (h : isFalse x = true) : x = some (.bool false) := by
  unfold isFalse at h
  split at h
  · rename_i b
    cases b
    · rfl
    · cases h
  · cases h
theorem isSome1_eq {x : Option AV} (h : isSome1 x = true) : ∃ v, x = some v := by
  cases x with
  | none => cases h
  | some v => exact ⟨v, rfl⟩
theorem lone_eq {h : AHeap} {b : Pos} (hl : lone h b = true) : ∃ r, h.get b = some (.cells none false r) := by
  unfold lone at hl
  split at hl
  · rename_i r e; exact ⟨r, e⟩
  · cases hl
theorem noEnt_eq {h : AHeap} {b : Pos} (hl : noEnt h b = true) : h.get b = some (.map [] 0) := by
  unfold noEnt at hl
  split at hl
  · rename_i e; exact e
  · cases hl
theorem noMap_eq {h : AHeap} {b : Pos} (hl : noMap h b = true) : ∃ n, 1024 ≤ n ∧ h.get b = some (.cells none false (.wid n 0)) := by
  unfold noMap at hl
  split at hl
  · rename_i n d e
    cases e1 : Nat.ble 1024 n with
    | false => rw [e1] at hl; cases hl
    | true =>
      rw [e1] at hl
      have := Nat.eq_of_beq_eq_true (show Nat.beq d 0 = true from hl)
      subst this
      exact ⟨n, Nat.le_of_ble_eq_true e1, e⟩
  · cases hl
theorem isSl_eq {x : Option AV} {n : Nat} (h : isSl x n = true) : (∃ b o z, x = some (.slice b o n z)) ∨ ∃ b o c z, x = some (.sliceC b o n c z) := by
  unfold isSl at h
  split at h
  · rename_i b o l z
    rw [Nat.eq_of_beq_eq_true h]
    exact .inl ⟨_, _, _, rfl⟩
  · rename_i b o l c z
    rw [Nat.eq_of_beq_eq_true h]
    exact .inr ⟨_, _, _, _, rfl⟩
  · cases h
theorem onTup2_eq {r : Out (AV × AHeap)} {f : AV → AV → AHeap → Bool} (h : onTup2 r f = true) : ∃ a b h', r = .ok (.tup [a, b], h') ∧ f a b h' = true := by
  unfold onTup2 at h
  split at h
  · exact ⟨_, _, _, rfl, h⟩
  · cases h
end Go.Eng
