/- Plain Lean: a model of the shadow space, its disk, its maps, its parts. Each theorem says its own conditions. -/
set_option linter.unusedVariables false
namespace Go.Sp
abbrev Bs := List Nat
def pad (n : Nat) (bs : Bs) : Bs := bs ++ List.replicate (n - bs.length) 0
theorem pad_len {n : Nat} {bs : Bs} (h : bs.length ≤ n) : (pad n bs).length = n := by simp [pad]; omega
def setS (S : Nat → Bs) (p : Nat × Bs) : Nat → Bs := fun x => if x = p.1 then p.2 else S x
structure Dk where
  N : Nat
  S : Nat → Bs
  P : List (Nat × Bs)
  dead : Bool
  ar : Nat
  st : Nat
def Dk.says (d : Dk) (s : Nat) : Bs := d.P.foldl setS d.S s
def Dk.pw (d : Dk) : Nat := if d.dead then 4 else 0
def Dk.tick (d : Dk) : Dk := { d with st := d.st + 1, ar := d.ar - 1, dead := d.dead || decide (d.ar = 1) }
def Dk.read (d : Dk) (s : Nat) : Nat × Bs :=
  if d.dead then (4, []) else if d.N ≤ s then (1, []) else if d.says s = [] then (5, []) else (0, d.says s)
def Dk.push (d : Dk) (s : Nat) (b : Bs) : Dk := { d with P := d.P ++ [(s, pad 256 b)] }
def Dk.write (d : Dk) (s : Nat) (b : Bs) : Nat × Dk :=
  if d.dead then (4, d) else if d.N ≤ s ∨ 256 < b.length then (1, d) else ((d.push s b).tick.pw, (d.push s b).tick)
def setK (tn kp : Nat → Bool) (S : Nat → Bs) (i : Nat) (p : Nat × Bs) : Nat → Bs := if tn i then setS S (p.1, []) else if kp i then setS S p else S
def upK (tn kp : Nat → Bool) (S : Nat → Bs) (P : List (Nat × Bs)) : Nat → (Nat → Bs)
  | 0 => S
  | k + 1 => match P[k]? with | none => upK tn kp S P k | some p => setK tn kp (upK tn kp S P k) k p
theorem upK_all (S : Nat → Bs) (P : List (Nat × Bs)) : ∀ k, upK (fun _ => false) (fun _ => true) S P k = (P.take k).foldl setS S
  | 0 => rfl
  | k + 1 => by
    unfold upK
    rw [upK_all S P k, List.take_add_one]
    cases h : P[k]? with
    | none => simp
    | some p => simp [setK]
def Dk.settle (d : Dk) (tn kp : Nat → Bool) : Dk := { d with S := upK tn kp d.S d.P d.P.length, P := [] }
def Dk.on (d : Dk) (tn kp : Nat → Bool) : Dk := { d.settle tn kp with dead := false, ar := 0 }
def Dk.flat (d : Dk) : Dk := { d with S := d.P.foldl setS d.S, P := [] }
def Dk.barrier (d : Dk) : Nat × Dk :=
  if d.dead then (4, d) else if d.tick.dead then (4, d.tick) else (0, d.tick.flat)
theorem Dk.flat_eq (d : Dk) : d.settle (fun _ => false) (fun _ => true) = d.flat := by
  unfold Dk.settle Dk.flat; rw [upK_all, List.take_length]
structure Fr where
  b : Bs
  used : Nat
  dirty : Bool
structure Ca where
  d : Dk
  M : Nat
  clk : Nat
  F : Nat → Option Fr
def upd {α : Type} (f : Nat → α) (k : Nat) (x : α) : Nat → α := fun j => if j = k then x else f j
def Ca.keys (c : Ca) : List Nat := (List.range c.d.N).filter fun s => (c.F s).isSome
def Ca.cw (c : Ca) (s : Nat) : Nat × Ca :=
  match c.F s with
  | none => (0, c)
  | some f => if f.dirty then ((c.d.write s f.b).1, { c with d := (c.d.write s f.b).2 }) else (0, c)
def Ca.drop (c : Ca) (s : Nat) : Ca := { c with F := upd c.F s none }
def Ca.out (c : Ca) (s : Nat) : Nat × Ca := if (c.cw s).1 = 0 then (0, (c.cw s).2.drop s) else c.cw s
def Ca.when (c : Ca) (s : Nat) : Nat := match c.F s with | none => 0 | some f => f.used
def Ca.elder (c : Ca) (o : Option Nat) (s : Nat) : Option Nat :=
  match o with
  | none => some s
  | some t => if c.when s < c.when t then some s else some t
def Ca.oldest (c : Ca) : Option Nat := c.keys.foldl c.elder none
def Ca.room (c : Ca) : Nat × Ca :=
  if c.keys.length < c.M then (0, c) else match c.oldest with | none => (3, c) | some s => c.out s
def Ca.use (c : Ca) (s : Nat) : Ca :=
  match c.F s with
  | none => c
  | some f => { c with clk := c.clk + 1, F := upd c.F s (some { f with used := c.clk + 1 }) }
def Ca.lay (c : Ca) (s : Nat) (f : Fr) : Ca := { c with F := upd c.F s (some f) }
def Ca.may (c : Ca) (s : Nat) : Nat := if c.d.dead then 4 else if c.d.N ≤ s then 1 else 0
def Ca.bring (c : Ca) (s : Nat) : Nat × Ca :=
  if c.may s ≠ 0 then (c.may s, c)
  else if (c.F s).isSome then (0, c.use s)
  else if c.room.1 ≠ 0 then c.room
  else if (c.room.2.d.read s).1 ≠ 0 then ((c.room.2.d.read s).1, c.room.2)
  else (0, (c.room.2.lay s ⟨(c.room.2.d.read s).2, 0, false⟩).use s)
def Ca.bytes (c : Ca) (s : Nat) : Bs := match c.F s with | none => [] | some f => f.b
def Ca.read (c : Ca) (s : Nat) : Nat × Bs × Ca := if (c.bring s).1 ≠ 0 then ((c.bring s).1, [], (c.bring s).2) else (0, (c.bring s).2.bytes s, (c.bring s).2)
def Ca.fill (c : Ca) (s : Nat) (b : Bs) : Ca := { c with clk := c.clk + 1, F := upd c.F s (some ⟨pad 256 b, c.clk + 1, true⟩) }
def Ca.write (c : Ca) (s : Nat) (b : Bs) : Nat × Ca :=
  if c.may s ≠ 0 then (c.may s, c)
  else if 256 < b.length then (1, c)
  else if (c.F s).isSome then (0, c.fill s b)
  else if c.room.1 ≠ 0 then c.room
  else (0, c.room.2.fill s b)
def Ca.evict (c : Ca) (k : Int) : Bool × Nat × Ca :=
  if c.d.dead then (false, 4, c)
  else if c.keys.length = 0 ∨ k < 0 then (false, 0, c)
  else (decide ((c.out (c.keys.getD (k.toNat % c.keys.length) 0)).1 = 0), c.out (c.keys.getD (k.toNat % c.keys.length) 0))
def Ca.forget (c : Ca) (s : Nat) : Ca := if c.d.dead then c else c.drop s
def Ca.clean (c : Ca) (s : Nat) : Ca := { c with F := upd c.F s ((c.F s).map fun f => { f with dirty := false }) }
def Ca.flushL (c : Ca) : List Nat → Nat × Ca
  | [] => (0, c)
  | s :: l => if (c.cw s).1 ≠ 0 then c.cw s else ((c.cw s).2.clean s).flushL l
def Ca.flush (c : Ca) : Nat × Ca :=
  if c.d.dead then (4, c)
  else if (c.flushL c.keys).1 ≠ 0 then c.flushL c.keys
  else ((c.flushL c.keys).2.d.barrier.1, { (c.flushL c.keys).2 with d := (c.flushL c.keys).2.d.barrier.2 })
structure Dk.Ok (d : Dk) : Prop where
  S : ∀ s, (d.S s).length = 256 ∨ d.S s = []
  P : ∀ p, p ∈ d.P → p.1 < d.N ∧ p.2.length = 256
structure Ca.Ok (c : Ca) : Prop where
  d : c.d.Ok
  dom : ∀ s f, c.F s = some f → s < c.d.N ∧ f.used ≤ c.clk ∧ f.b.length = 256
  inj : ∀ s t f g, c.F s = some f → c.F t = some g → f.used = g.used → s = t
theorem fold_says (Q : Bs → Prop) : ∀ (P : List (Nat × Bs)) (S : Nat → Bs), (∀ s, Q (S s)) → (∀ p, p ∈ P → Q p.2) → ∀ s, Q (P.foldl setS S s)
  | [], S, h, _, s => h s
  | p :: P, S, h, hp, s => fold_says Q P (setS S p) (fun x => by unfold setS; split; exact hp p List.mem_cons_self; exact h x) (fun q hq => hp q (List.mem_cons_of_mem _ hq)) s
theorem Dk.Ok.says {d : Dk} (h : d.Ok) (s : Nat) : (d.says s).length = 256 ∨ d.says s = [] :=
  fold_says (fun b => b.length = 256 ∨ b = []) d.P d.S h.S (fun p hp => .inl (h.P p hp).2) s
theorem take_says {P : List (Nat × Bs)} {k x : Nat} {b : Bs} (h : P[k]? = some (x, b)) (S : Nat → Bs) (s : Nat) : (P.take (k + 1)).foldl setS S s = if s = x then b else (P.take k).foldl setS S s := by
  rw [List.take_add_one, h, List.foldl_append]
  rfl
def tabN (k : Nat) : Nat := Nat.mod (Nat.shiftRight 9937593612760466100516450665319420528403982636753068485404800763335476026940182181175496972418787619281442302519629725716261212251300561153615832085954560 (Nat.mul 32 k)) 4294967296
def nib (x : Nat) : Nat := Nat.xor (Nat.div x 16) (tabN (Nat.mod x 16))
def crcStep (r c : Nat) : Nat := nib (nib (Nat.xor r c))
def crcR (r : Nat) (bs : Bs) : Nat := bs.foldl crcStep r
def crc (bs : Bs) : Nat := Nat.xor 4294967295 (crcR 4294967295 bs)
def le : Nat → Nat → Bs
  | _, 0 => []
  | x, n + 1 => x % 256 :: le (x / 256) n
def num : Bs → Nat
  | [] => 0
  | x :: l => x + 256 * num l
def front (k n : Nat) : Bs := [k, 0, n % 256, n / 256 % 256]
def sealed (k : Nat) (body : Bs) : Bs := pad 252 (front k body.length ++ body) ++ le (crc (pad 252 (front k body.length ++ body))) 4
def sealB (k : Nat) (body : Bs) : Nat × Bs := if k = 0 ∨ 248 < body.length then (1, []) else (0, sealed k body)
def openB (b : Bs) : Nat × Bs × Nat :=
  if b.length ≠ 256 then (0, [], 8)
  else if crc (b.take 252) ≠ num (b.drop 252) ∨ b.getD 0 0 = 0 ∨ 248 < num ((b.drop 2).take 2) then (0, [], 8)
  else if b.take 4 ≠ front (b.getD 0 0) (num ((b.drop 2).take 2)) then (0, [], 8)
  else if ((b.take 252).drop (4 + num ((b.drop 2).take 2))).any (· ≠ 0) then (0, [], 8)
  else (b.getD 0 0, (b.drop 4).take (num ((b.drop 2).take 2)), 0)
def pgs (f : Nat → Nat) : List Nat := (List.range 1024).filter fun p => decide (0 < f p)
def secs (f : Nat → Nat) : List Nat := (pgs f).map f
def pgPart (f : Nat → Nat) (i : Nat) : List Nat := ((List.range 1024).map f).drop (i * 124) |>.take 124
def trim0 (l : List Nat) : List Nat := (l.reverse.dropWhile (· == 0)).reverse
def part (f : Nat → Nat) (i : Nat) : Bs := (trim0 (pgPart f i)).flatMap fun s => le s 2
def turnedP (f g : Nat → Nat) : List Nat := (List.range 9).filter fun i => decide (pgPart f i ≠ pgPart g i)
structure Rt where
  ep : Nat
  at' : Nat → Nat
  mt : Bs
  pg : Nat → Nat
structure Sp where
  c : Ca
  r : Rt
  own : Nat → Nat
def Sp.taken (s : Sp) (x : Nat) : Bool := decide (x < 2) || (secs s.r.pg).contains x || (secs s.own).contains x || (List.range 9).any fun i => s.r.at' i == x
def Sp.rooms (s : Sp) : List Nat := (List.range s.c.d.N).filter fun x => !s.taken x
def Sp.room (s : Sp) : Nat := s.rooms.length - 18
def Sp.on (s : Sp) : Nat := if s.c.d.dead then 4 else 0
def Sp.may (s : Sp) (p : Int) : Nat := if s.c.d.dead then 4 else if p < 0 ∨ 1024 ≤ p then 1 else 0
def Sp.turned (s : Sp) (p : Nat) : Bool := decide (0 < s.own p ∧ s.own p ≠ s.r.pg p)
def Sp.withC (s : Sp) (c : Ca) : Sp := { s with c := c }
def Sp.put (s : Sp) (x k : Nat) (b : Bs) : Nat × Sp :=
  if (sealB k b).1 ≠ 0 then ((sealB k b).1, s) else ((s.c.write x (sealB k b).2).1, s.withC (s.c.write x (sealB k b).2).2)
def Sp.setOwn (s : Sp) (p x : Nat) : Sp := { s with own := upd s.own p x }
def Sp.write (s : Sp) (p : Int) (b : Bs) : Nat × Sp :=
  if s.may p ≠ 0 then (s.may p, s)
  else if 248 < b.length then (1, s)
  else if s.turned p.toNat then s.put (s.own p.toNat) 3 b
  else if s.rooms.length ≤ 18 then (6, s)
  else if (s.put (s.rooms.getD 0 0) 3 b).1 ≠ 0 then s.put (s.rooms.getD 0 0) 3 b
  else (0, (s.put (s.rooms.getD 0 0) 3 b).2.setOwn p.toNat (s.rooms.getD 0 0))
def Sp.read (s : Sp) (p : Int) : Nat × Bs × Sp :=
  if s.may p ≠ 0 then (s.may p, [], s)
  else if s.own p.toNat = 0 then (7, [], s)
  else if (s.c.read (s.own p.toNat)).1 ≠ 0 then ((s.c.read (s.own p.toNat)).1, [], s.withC (s.c.read (s.own p.toNat)).2.2)
  else ((openB (s.c.read (s.own p.toNat)).2.1).2.2, (openB (s.c.read (s.own p.toNat)).2.1).2.1, s.withC (s.c.read (s.own p.toNat)).2.2)
def Sp.drop (s : Sp) (p : Int) : Nat × Sp :=
  if s.may p ≠ 0 then (s.may p, s) else if s.own p.toNat = 0 then (7, s) else (0, s.setOwn p.toNat 0)
def Sp.putL (s : Sp) (at' : Nat → Nat) : List (Nat × Nat) → Nat × (Nat → Nat) × Sp
  | [] => (0, at', s)
  | (x, i) :: l => if (s.put x 2 (part s.own i)).1 ≠ 0 then ((s.put x 2 (part s.own i)).1, upd at' i x, (s.put x 2 (part s.own i)).2) else (s.put x 2 (part s.own i)).2.putL (upd at' i x) l
def Sp.full (s : Sp) : List Nat := (turnedP s.own s.r.pg).filter fun i => decide ((part s.own i).length ≠ 0)
def Sp.at0 (s : Sp) : Nat → Nat := fun i => if (turnedP s.own s.r.pg).contains i then 0 else s.r.at' i
def Sp.parts (s : Sp) : Nat × (Nat → Nat) × Sp :=
  if s.rooms.length < s.full.length then (6, s.r.at', s) else s.putL s.at0 (s.rooms.zip s.full)
def bodyR (r : Rt) : Bs := [97, 117, 109, 49] ++ le r.ep 4 ++ (List.range 9).flatMap (fun i => le (r.at' i) 2) ++ r.mt
def Sp.next (s : Sp) (at' : Nat → Nat) (meta' : Bs) : Rt := ⟨s.r.ep + 1, at', meta', s.own⟩
def Sp.commit (s : Sp) (mt : Bs) : Nat × Sp :=
  if s.on ≠ 0 then (s.on, s)
  else if 200 < mt.length then (1, s)
  else if (s.r.ep + 1) % 4294967296 = 0 then (6, s)
  else if s.parts.1 ≠ 0 then (s.parts.1, s.parts.2.2)
  else if s.parts.2.2.c.flush.1 ≠ 0 then (s.parts.2.2.c.flush.1, s.parts.2.2.withC s.parts.2.2.c.flush.2)
  else
    let c := s.parts.2.2.c.flush.2
    let r := s.next s.parts.2.1 mt
    let w := c.d.write (r.ep % 2) (sealB 1 (bodyR r)).2
    if w.1 ≠ 0 then (w.1, s.withC { c with d := w.2 })
    else if w.2.barrier.1 ≠ 0 then (w.2.barrier.1, s.withC { c with d := w.2.barrier.2 })
    else (0, { c := { c with d := w.2.barrier.2 }, r := r, own := s.own })
def Sp.abort (s : Sp) : Nat × Sp :=
  if s.on ≠ 0 then (s.on, s)
  else (0, { s with c := ((pgs s.own).filter s.turned).foldl (fun c p => c.forget (s.own p)) s.c, own := s.r.pg })
end Go.Sp
set_option linter.unusedSimpArgs false
namespace Go.Sp
theorem filter_add {p q : Nat → Bool} {s : Nat} (hp : p s = false) (hq : q s = true) (ho : ∀ t, t ≠ s → q t = p t) : ∀ (l : List Nat), l.Nodup → s ∈ l → (l.filter q).length = (l.filter p).length + 1
  | [], _, h => by simp at h
  | a :: l, hn, h => by
    rw [List.nodup_cons] at hn
    by_cases e : a = s
    · subst e
      have hc : l.filter q = l.filter p := List.filter_congr fun t ht => ho t fun e => hn.1 (e ▸ ht)
      simp [List.filter_cons, hp, hq, hc]
    · have ih := filter_add hp hq ho l hn.2 ((List.mem_cons.1 h).resolve_left fun e' => e e'.symm)
      simp only [List.filter_cons, ho a e]
      split <;> simp [ih]
theorem upd_same {α : Type} (f : Nat → α) (k : Nat) (x : α) : upd f k x k = x := if_pos rfl
theorem upd_other {α : Type} (f : Nat → α) {k j : Nat} (h : j ≠ k) (x : α) : upd f k x j = f j := if_neg h
theorem upd_upd {α : Type} (f : Nat → α) (k : Nat) (x y : α) : upd (upd f k x) k y = upd f k y := by funext j; unfold upd; split <;> rfl
theorem Ca.mem_keys {c : Ca} {s : Nat} : s ∈ c.keys ↔ s < c.d.N ∧ (c.F s).isSome = true := by simp [Ca.keys]
theorem Ca.keys_nodup (c : Ca) : c.keys.Nodup := List.nodup_range.filter _
theorem Ca.keys_lay {c : Ca} {s : Nat} {f : Fr} (hs : s < c.d.N) (h : c.F s = none) : (c.lay s f).keys.length = c.keys.length + 1 :=
  filter_add (s := s) (p := fun s => (c.F s).isSome) (q := fun t => ((c.lay s f).F t).isSome) (by simp [h]) (by simp [Ca.lay, upd]) (fun t ht => by simp [Ca.lay, upd, ht]) _ List.nodup_range (List.mem_range.2 hs)
theorem Ca.keys_drop {c : Ca} {s : Nat} (hs : s < c.d.N) (h : (c.F s).isSome = true) : c.keys.length = (c.drop s).keys.length + 1 :=
  filter_add (s := s) (p := fun t => ((c.drop s).F t).isSome) (q := fun s => (c.F s).isSome) (by simp [Ca.drop, upd]) h (fun t ht => by simp [Ca.drop, upd, ht]) _ List.nodup_range (List.mem_range.2 hs)
theorem Ca.keys_same {c c' : Ca} (hN : c'.d.N = c.d.N) (h : ∀ s, (c'.F s).isSome = (c.F s).isSome) : c'.keys = c.keys := by
  unfold Ca.keys; rw [hN]; exact List.filter_congr fun s _ => h s
theorem Ca.keys_le (c : Ca) : c.keys.length ≤ c.d.N := by
  have := List.length_filter_le (fun s => (c.F s).isSome) (List.range c.d.N)
  simpa [Ca.keys] using this
theorem Dk.write_N (d : Dk) (s : Nat) (b : Bs) : (d.write s b).2.N = d.N := by
  unfold Dk.write; split; rfl; split <;> rfl
theorem Ca.cw_F (c : Ca) (s : Nat) : (c.cw s).2.F = c.F ∧ (c.cw s).2.clk = c.clk ∧ (c.cw s).2.M = c.M ∧ (c.cw s).2.d.N = c.d.N := by
  unfold Ca.cw; split
  · exact ⟨rfl, rfl, rfl, rfl⟩
  · split
    · exact ⟨rfl, rfl, rfl, Dk.write_N _ _ _⟩
    · exact ⟨rfl, rfl, rfl, rfl⟩
theorem Dk.Ok.push {d : Dk} (h : d.Ok) {s : Nat} {b : Bs} (hs : s < d.N) (hb : b.length ≤ 256) : (d.push s b).tick.Ok := by
  refine ⟨h.S, fun p hp => ?_⟩
  rcases List.mem_append.1 (show p ∈ d.P ++ [(s, pad 256 b)] from hp) with h1 | h1
  · exact h.P p h1
  · rw [List.mem_singleton.1 h1]; exact ⟨hs, pad_len hb⟩
theorem Dk.Ok.tick {d : Dk} (h : d.Ok) : d.tick.Ok := ⟨h.S, h.P⟩
theorem Dk.Ok.write {d : Dk} (h : d.Ok) (s : Nat) (b : Bs) : (d.write s b).2.Ok := by
  unfold Dk.write
  split
  · exact h
  · split
    · exact h
    · rename_i h1 h2; exact h.push (by omega) (by omega)
theorem Dk.Ok.flat {d : Dk} (h : d.Ok) : d.flat.Ok := ⟨fun s => fold_says (fun b => b.length = 256 ∨ b = []) d.P d.S h.S (fun p hp => .inl (h.P p hp).2) s, fun p hp => by simp [Dk.flat] at hp⟩
theorem Dk.Ok.barrier {d : Dk} (h : d.Ok) : d.barrier.2.Ok := by
  unfold Dk.barrier; split; exact h; split; exact h.tick; exact h.tick.flat
theorem Dk.barrier_N (d : Dk) : d.barrier.2.N = d.N := by
  unfold Dk.barrier; split; rfl; split <;> rfl
structure Ca.Fit (c : Ca) : Prop where
  ok : c.Ok
  M : 1 ≤ c.M
theorem Ca.elder_fold (c : Ca) (hinj : ∀ s t, (c.F s).isSome = true → (c.F t).isSome = true → c.when s = c.when t → s = t) : ∀ (l : List Nat) (k : Nat), (c.F k).isSome = true → (∀ t ∈ l, (c.F t).isSome = true) →
    ∃ r, l.foldl c.elder (some k) = some r ∧ (r = k ∨ r ∈ l) ∧ ∀ t, t = k ∨ t ∈ l → t ≠ r → c.when r < c.when t
  | [], k, hk, _ => ⟨k, rfl, .inl rfl, fun t ht hne => by simp at ht; exact absurd ht hne⟩
  | s :: l, k, hk, hl => by
    have hs := hl s List.mem_cons_self
    by_cases h : c.when s < c.when k
    · obtain ⟨r, h1, h2, h3⟩ := Ca.elder_fold c hinj l s hs (fun t ht => hl t (List.mem_cons_of_mem _ ht))
      refine ⟨r, by simp [Ca.elder, h]; exact h1, .inr ?_, fun t ht hne => ?_⟩
      · rcases h2 with rfl | h2
        · exact List.mem_cons_self
        · exact List.mem_cons_of_mem _ h2
      · rcases ht with rfl | ht
        · by_cases e : s = r
          · subst e; exact h
          · exact Nat.lt_trans (h3 s (.inl rfl) e) h
        · rcases List.mem_cons.1 ht with rfl | ht
          · exact h3 t (.inl rfl) hne
          · exact h3 t (.inr ht) hne
    · obtain ⟨r, h1, h2, h3⟩ := Ca.elder_fold c hinj l k hk (fun t ht => hl t (List.mem_cons_of_mem _ ht))
      refine ⟨r, by simp [Ca.elder, h]; exact h1, ?_, fun t ht hne => ?_⟩
      · rcases h2 with rfl | h2
        · exact .inl rfl
        · exact .inr (List.mem_cons_of_mem _ h2)
      · rcases ht with rfl | ht
        · exact h3 t (.inl rfl) hne
        · rcases List.mem_cons.1 ht with rfl | ht
          · by_cases e : k = r
            · subst e
              have : c.when t ≠ c.when k := fun q => hne (hinj t k hs hk q)
              omega
            · have := h3 k (.inl rfl) e; omega
          · exact h3 t (.inr ht) hne
theorem Ca.Ok.when_inj {c : Ca} (h : c.Ok) : ∀ s t, (c.F s).isSome = true → (c.F t).isSome = true → c.when s = c.when t → s = t := fun s t hs ht e => by
  obtain ⟨f, hf⟩ := Option.isSome_iff_exists.1 hs
  obtain ⟨g, hg⟩ := Option.isSome_iff_exists.1 ht
  refine h.inj s t f g hf hg ?_
  simpa [Ca.when, hf, hg] using e
theorem Ca.oldest_spec {c : Ca} (h : c.Ok) (hne : c.keys ≠ []) : ∃ k, c.oldest = some k ∧ k ∈ c.keys ∧ ∀ t ∈ c.keys, t ≠ k → c.when k < c.when t := by
  unfold Ca.oldest
  cases e : c.keys with
  | nil => exact absurd e hne
  | cons k l =>
    have hk : ∀ t ∈ c.keys, (c.F t).isSome = true := fun t ht => (Ca.mem_keys.1 ht).2
    rw [e] at hk
    obtain ⟨r, h1, h2, h3⟩ := Ca.elder_fold c h.when_inj l k (hk k List.mem_cons_self) (fun t ht => hk t (List.mem_cons_of_mem _ ht))
    refine ⟨r, h1, ?_, fun t ht hne => h3 t (List.mem_cons.1 ht) hne⟩
    rcases h2 with rfl | h2
    · exact List.mem_cons_self
    · exact List.mem_cons_of_mem _ h2
end Go.Sp
namespace Go.Sp
def Ca.fresh (c : Ca) (s : Nat) (b : Bs) (dr : Bool) : Ca := { c with clk := c.clk + 1, F := upd c.F s (some ⟨b, c.clk + 1, dr⟩) }
theorem Ca.fill_eq (c : Ca) (s : Nat) (b : Bs) : c.fill s b = c.fresh s (pad 256 b) true := rfl
theorem Ca.use_eq {c : Ca} {s : Nat} {f : Fr} (h : c.F s = some f) : c.use s = c.fresh s f.b f.dirty := by simp [Ca.use, h, Ca.fresh]
theorem Ca.lay_use (c : Ca) (s : Nat) (f : Fr) : (c.lay s f).use s = c.fresh s f.b f.dirty := by
  simp [Ca.use, Ca.lay, upd_same, Ca.fresh, upd_upd]
theorem Ca.Ok.fresh {c : Ca} (h : c.Ok) {s : Nat} {b : Bs} {dr : Bool} (hs : s < c.d.N) (hb : b.length = 256) : (c.fresh s b dr).Ok := by
  have hF : ∀ t, (c.fresh s b dr).F t = if t = s then some ⟨b, c.clk + 1, dr⟩ else c.F t := fun t => rfl
  refine ⟨h.d, fun t f hf => ?_, fun t u f g hf hg e => ?_⟩
  · rw [hF] at hf
    by_cases e : t = s
    · rw [if_pos e] at hf; injection hf with hf; subst hf; exact ⟨by rw [e]; exact hs, Nat.le_refl _, hb⟩
    · rw [if_neg e] at hf; obtain ⟨h1, h2, h3⟩ := h.dom t f hf; exact ⟨h1, by show f.used ≤ c.clk + 1; omega, h3⟩
  · rw [hF] at hf hg
    by_cases e1 : t = s <;> by_cases e2 : u = s
    · rw [e1, e2]
    · rw [if_pos e1] at hf; rw [if_neg e2] at hg
      injection hf with hf; subst hf
      have := (h.dom u g hg).2.1
      have e : c.clk + 1 = g.used := e
      omega
    · rw [if_neg e1] at hf; rw [if_pos e2] at hg
      injection hg with hg; subst hg
      have := (h.dom t f hf).2.1
      have e : f.used = c.clk + 1 := e
      omega
    · rw [if_neg e1] at hf; rw [if_neg e2] at hg
      exact h.inj t u f g hf hg e
theorem Ca.Ok.cw {c : Ca} (h : c.Ok) (s : Nat) : (c.cw s).2.Ok := by
  obtain ⟨e1, e2, e3, e4⟩ := Ca.cw_F c s
  refine ⟨?_, fun t f hf => ?_, fun t u f g hf hg => ?_⟩
  · unfold Ca.cw; split
    · exact h.d
    · split
      · exact h.d.write _ _
      · exact h.d
  · rw [e1] at hf; rw [e2, e4]; exact h.dom t f hf
  · rw [e1] at hf hg; exact h.inj t u f g hf hg
theorem Ca.Ok.drop {c : Ca} (h : c.Ok) (s : Nat) : (c.drop s).Ok := by
  have hF : ∀ t, (c.drop s).F t = if t = s then none else c.F t := fun t => rfl
  refine ⟨h.d, fun t f hf => ?_, fun t u f g hf hg e => ?_⟩
  · rw [hF] at hf; split at hf; cases hf; exact h.dom t f hf
  · rw [hF] at hf hg; split at hf; cases hf; split at hg; cases hg; exact h.inj t u f g hf hg e
theorem Ca.Ok.out {c : Ca} (h : c.Ok) (s : Nat) : (c.out s).2.Ok := by
  unfold Ca.out; split
  · exact (h.cw s).drop s
  · exact h.cw s
theorem Ca.Ok.room {c : Ca} (h : c.Ok) : c.room.2.Ok := by
  unfold Ca.room; split
  · exact h
  · split
    · exact h
    · exact h.out _
theorem Ca.out_F (c : Ca) (s : Nat) : (∀ t, (c.out s).2.F t = c.F t ∨ (c.out s).2.F t = none) ∧ (c.out s).2.clk = c.clk ∧ (c.out s).2.M = c.M ∧ (c.out s).2.d.N = c.d.N := by
  obtain ⟨e1, e2, e3, e4⟩ := Ca.cw_F c s
  unfold Ca.out; split
  · refine ⟨fun t => ?_, e2, e3, e4⟩
    have e : ((c.cw s).2.drop s).F t = if t = s then none else c.F t := by rw [← e1]; rfl
    show ((c.cw s).2.drop s).F t = _ ∨ ((c.cw s).2.drop s).F t = none
    rw [e]
    split
    · exact .inr rfl
    · exact .inl rfl
  · exact ⟨fun t => .inl (by rw [e1]), e2, e3, e4⟩
theorem Ca.room_F (c : Ca) : (∀ t, c.room.2.F t = c.F t ∨ c.room.2.F t = none) ∧ c.room.2.clk = c.clk ∧ c.room.2.M = c.M ∧ c.room.2.d.N = c.d.N := by
  unfold Ca.room; split
  · exact ⟨fun _ => .inl rfl, rfl, rfl, rfl⟩
  · split
    · exact ⟨fun _ => .inl rfl, rfl, rfl, rfl⟩
    · exact Ca.out_F c _
theorem Dk.write_alive {d : Dk} {s : Nat} {b : Bs} (h : (d.write s b).1 = 0) : (d.write s b).2.dead = false := by
  unfold Dk.write at h ⊢
  split
  · rename_i h1; rw [if_pos h1] at h; cases h
  · rename_i h1; rw [if_neg h1] at h
    split
    · rename_i h2; rw [if_pos h2] at h; cases h
    · rename_i h2; rw [if_neg h2] at h
      simp only [Dk.pw] at h
      cases e : (d.push s b).tick.dead with
      | false => rfl
      | true => rw [e] at h; simp at h
theorem Dk.write_P (d : Dk) (s : Nat) (b : Bs) : (d.write s b).2.P.length ≤ d.P.length + 1 := by
  unfold Dk.write; split
  · simp
  · split
    · simp
    · simp [Dk.tick, Dk.push]
theorem Ca.cw_alive {c : Ca} {s : Nat} (hd : c.d.dead = false) (h : (c.cw s).1 = 0) : (c.cw s).2.d.dead = false := by
  unfold Ca.cw at h ⊢
  split
  · exact hd
  · rename_i f hf
    rw [hf] at h
    dsimp only at h
    split
    · rename_i h1; rw [if_pos h1] at h; exact Dk.write_alive h
    · exact hd
theorem Ca.cw_P (c : Ca) (s : Nat) : (c.cw s).2.d.P.length ≤ c.d.P.length + 1 := by
  unfold Ca.cw; split
  · simp
  · split
    · exact Dk.write_P _ _ _
    · simp
theorem Ca.out_alive {c : Ca} {s : Nat} (hd : c.d.dead = false) (h : (c.out s).1 = 0) : (c.out s).2.d.dead = false := by
  unfold Ca.out at h ⊢
  split
  · rename_i h1; exact Ca.cw_alive hd h1
  · rename_i h1; rw [if_neg h1] at h; exact absurd h h1
theorem Ca.out_P (c : Ca) (s : Nat) : (c.out s).2.d.P.length ≤ c.d.P.length + 1 := by
  unfold Ca.out; split
  · exact Ca.cw_P c s
  · exact Ca.cw_P c s
theorem Ca.room_alive {c : Ca} (hd : c.d.dead = false) (h : c.room.1 = 0) : c.room.2.d.dead = false := by
  unfold Ca.room at h ⊢
  split
  · exact hd
  · rename_i h1
    rw [if_neg h1] at h
    split
    · exact hd
    · rename_i k hk; rw [hk] at h; exact Ca.out_alive hd h
theorem Ca.room_P (c : Ca) : c.room.2.d.P.length ≤ c.d.P.length + 1 := by
  unfold Ca.room; split
  · simp
  · split
    · simp
    · exact Ca.out_P c _
theorem Dk.read_len {d : Dk} (h : d.Ok) {s : Nat} (he : (d.read s).1 = 0) : (d.read s).2.length = 256 := by
  unfold Dk.read at he ⊢
  split
  · rename_i h1; rw [if_pos h1] at he; cases he
  · rename_i h1; rw [if_neg h1] at he
    split
    · rename_i h2; rw [if_pos h2] at he; cases he
    · rename_i h2; rw [if_neg h2] at he
      split
      · rename_i h3; rw [if_pos h3] at he; cases he
      · rename_i h3; exact (h.says s).resolve_right h3
theorem Ca.Ok.bring {c : Ca} (h : c.Ok) (s : Nat) : (c.bring s).2.Ok := by
  unfold Ca.bring
  split
  · exact h
  · rename_i hm
    have hs : s < c.d.N := by
      unfold Ca.may at hm
      by_cases h1 : c.d.dead = true
      · simp [h1] at hm
      · by_cases h2 : c.d.N ≤ s
        · simp [h1, h2] at hm
        · omega
    split
    · rename_i hf
      obtain ⟨f, hf⟩ := Option.isSome_iff_exists.1 hf
      rw [Ca.use_eq hf]
      exact h.fresh hs (h.dom s f hf).2.2
    · split
      · exact h.room
      · split
        · exact h.room
        · rename_i h4
          rw [Ca.lay_use]
          exact h.room.fresh (by rw [(Ca.room_F c).2.2.2]; exact hs) (Dk.read_len h.room.d (by omega))
theorem Ca.Ok.write {c : Ca} (h : c.Ok) (s : Nat) (b : Bs) : (c.write s b).2.Ok := by
  unfold Ca.write
  split
  · exact h
  · rename_i hm
    have hs : s < c.d.N := by
      unfold Ca.may at hm
      by_cases h1 : c.d.dead = true
      · simp [h1] at hm
      · by_cases h2 : c.d.N ≤ s
        · simp [h1, h2] at hm
        · omega
    split
    · exact h
    · rename_i hb
      split
      · exact h.fresh hs (pad_len (by omega))
      · split
        · exact h.room
        · exact h.room.fresh (by rw [(Ca.room_F c).2.2.2]; exact hs) (pad_len (by omega))
theorem Ca.Ok.clean {c : Ca} (h : c.Ok) (s : Nat) : (c.clean s).Ok := by
  have hF : ∀ t, (c.clean s).F t = if t = s then (c.F s).map (fun f => { f with dirty := false }) else c.F t := fun t => rfl
  have key : ∀ t f, (c.clean s).F t = some f → ∃ g, c.F t = some g ∧ g.used = f.used ∧ g.b = f.b := fun t f hf => by
    rw [hF] at hf
    by_cases e : t = s
    · rw [if_pos e] at hf
      obtain ⟨g, hg, e2⟩ := Option.map_eq_some_iff.1 hf
      subst e2
      exact ⟨g, by rw [e]; exact hg, rfl, rfl⟩
    · rw [if_neg e] at hf; exact ⟨f, hf, rfl, rfl⟩
  refine ⟨h.d, fun t f hf => ?_, fun t u f g hf hg e => ?_⟩
  · obtain ⟨g, h1, h2, h3⟩ := key t f hf
    obtain ⟨q1, q2, q3⟩ := h.dom t g h1
    exact ⟨q1, by rw [← h2]; exact q2, by rw [← h3]; exact q3⟩
  · obtain ⟨f', h1, h2, _⟩ := key t f hf
    obtain ⟨g', h3, h4, _⟩ := key u g hg
    exact h.inj t u f' g' h1 h3 (by rw [h2, h4]; exact e)
theorem Ca.Ok.flushL : ∀ (l : List Nat) {c : Ca}, c.Ok → (c.flushL l).2.Ok
  | [], c, h => h
  | s :: l, c, h => by
    unfold Ca.flushL; split
    · exact h.cw s
    · exact Ca.Ok.flushL l ((h.cw s).clean s)
theorem Ca.Ok.setD {c : Ca} {d : Dk} (h : c.Ok) (hd : d.Ok) (hN : d.N = c.d.N) : Ca.Ok { c with d := d } := ⟨hd, fun s f hf => by rw [show ({ c with d := d } : Ca).d.N = d.N from rfl, hN]; exact h.dom s f hf, h.inj⟩
theorem Ca.Ok.flush {c : Ca} (h : c.Ok) : c.flush.2.Ok := by
  unfold Ca.flush; split
  · exact h
  · split
    · exact Ca.Ok.flushL _ h
    · exact (Ca.Ok.flushL _ h).setD (Ca.Ok.flushL _ h).d.barrier (Dk.barrier_N _)
theorem Ca.bring_some {c : Ca} {s : Nat} (h : (c.bring s).1 = 0) : ((c.bring s).2.F s).isSome = true := by
  unfold Ca.bring at h ⊢
  split
  · rename_i h1; rw [if_pos h1] at h; exact absurd h h1
  · rename_i h1; rw [if_neg h1] at h
    split
    · rename_i h2
      obtain ⟨f, hf⟩ := Option.isSome_iff_exists.1 h2
      rw [Ca.use_eq hf]; simp [Ca.fresh, upd_same]
    · rename_i h2; rw [if_neg h2] at h
      split
      · rename_i h3; rw [if_pos h3] at h; exact absurd h h3
      · rename_i h3; rw [if_neg h3] at h
        split
        · rename_i h4; rw [if_pos h4] at h; exact absurd h h4
        · rw [Ca.lay_use]; simp [Ca.fresh, upd_same]
end Go.Sp
namespace Go.Sp
structure Ca.In0 (c c' : Ca) (k : Nat) : Prop where
  N : c'.d.N = c.d.N
  M : c'.M = c.M
  clk : c'.clk ≤ c.clk + k
  P : c'.d.P.length ≤ c.d.P.length + k
structure Ca.In (c c' : Ca) (k : Nat) : Prop extends Ca.In0 c c' k where
  ok : c.Ok → c'.Ok
theorem Ca.In0.refl (c : Ca) (k : Nat) : Ca.In0 c c k := ⟨rfl, rfl, by omega, by omega⟩
theorem Ca.In.refl (c : Ca) (k : Nat) : Ca.In c c k := ⟨Ca.In0.refl c k, id⟩
theorem Ca.In0.trans {a b c : Ca} {j k : Nat} (h : Ca.In0 a b j) (g : Ca.In0 b c k) : Ca.In0 a c (j + k) :=
  ⟨g.N.trans h.N, g.M.trans h.M, by have := h.clk; have := g.clk; omega, by have := h.P; have := g.P; omega⟩
theorem Ca.In.trans {a b c : Ca} {j k : Nat} (h : Ca.In a b j) (g : Ca.In b c k) : Ca.In a c (j + k) := ⟨h.toIn0.trans g.toIn0, fun x => g.ok (h.ok x)⟩
theorem Ca.In0.mono {a b : Ca} {j k : Nat} (h : Ca.In0 a b j) (hk : j ≤ k) : Ca.In0 a b k := ⟨h.N, h.M, by have := h.clk; omega, by have := h.P; omega⟩
theorem Ca.In.mono {a b : Ca} {j k : Nat} (h : Ca.In a b j) (hk : j ≤ k) : Ca.In a b k := ⟨h.toIn0.mono hk, h.ok⟩
theorem Ca.cw_in (c : Ca) (s : Nat) : Ca.In c (c.cw s).2 1 :=
  ⟨⟨(Ca.cw_F c s).2.2.2, (Ca.cw_F c s).2.2.1, by rw [(Ca.cw_F c s).2.1]; omega, Ca.cw_P c s⟩, fun h => h.cw s⟩
theorem Ca.out_in (c : Ca) (s : Nat) : Ca.In c (c.out s).2 1 :=
  ⟨⟨(Ca.out_F c s).2.2.2, (Ca.out_F c s).2.2.1, by rw [(Ca.out_F c s).2.1]; omega, Ca.out_P c s⟩, fun h => h.out s⟩
theorem Ca.room_in (c : Ca) : Ca.In c c.room.2 1 :=
  ⟨⟨(Ca.room_F c).2.2.2, (Ca.room_F c).2.2.1, by rw [(Ca.room_F c).2.1]; omega, Ca.room_P c⟩, fun h => h.room⟩
theorem Ca.use_in0 (c : Ca) (s : Nat) : Ca.In0 c (c.use s) 1 := by
  unfold Ca.use; split
  · exact Ca.In0.refl _ _
  · exact ⟨rfl, rfl, Nat.le_refl _, Nat.le_succ _⟩
theorem Ca.bring_in (c : Ca) (s : Nat) : Ca.In c (c.bring s).2 2 := by
  have hr := (Ca.room_in c).toIn0
  refine ⟨?_, fun h => h.bring s⟩
  unfold Ca.bring
  split
  · exact Ca.In0.refl _ _
  · split
    · exact (Ca.use_in0 c s).mono (by omega)
    · split
      · exact hr.mono (by omega)
      · split
        · exact hr.mono (by omega)
        · exact hr.trans ((⟨rfl, rfl, Nat.le_refl _, Nat.le_refl _⟩ : Ca.In0 c.room.2 (c.room.2.lay s ⟨(c.room.2.d.read s).2, 0, false⟩) 0).trans (Ca.use_in0 _ s))
theorem Ca.read_in (c : Ca) (s : Nat) : Ca.In c (c.read s).2.2 2 := by
  unfold Ca.read; split <;> exact Ca.bring_in c s
theorem Ca.fill_in0 (c : Ca) (s : Nat) (b : Bs) : Ca.In0 c (c.fill s b) 1 := ⟨rfl, rfl, Nat.le_refl _, Nat.le_succ _⟩
theorem Ca.write_in (c : Ca) (s : Nat) (b : Bs) : Ca.In c (c.write s b).2 2 := by
  have hr := (Ca.room_in c).toIn0
  refine ⟨?_, fun h => h.write s b⟩
  unfold Ca.write
  split
  · exact Ca.In0.refl _ _
  · split
    · exact Ca.In0.refl _ _
    · split
      · exact (Ca.fill_in0 _ _ _).mono (by omega)
      · split
        · exact hr.mono (by omega)
        · exact hr.trans (Ca.fill_in0 _ _ _)
theorem Ca.forget_in (c : Ca) (s : Nat) : Ca.In c (c.forget s) 0 := by
  unfold Ca.forget
  split
  · exact Ca.In.refl _ _
  · exact ⟨⟨rfl, rfl, Nat.le_refl _, Nat.le_refl _⟩, fun h => h.drop s⟩
theorem Ca.clean_in (c : Ca) (s : Nat) : Ca.In c (c.clean s) 0 := ⟨⟨rfl, rfl, Nat.le_refl _, Nat.le_refl _⟩, fun h => h.clean s⟩
theorem Ca.flushL_in : ∀ (l : List Nat) (c : Ca), Ca.In c (c.flushL l).2 l.length
  | [], c => Ca.In.refl c 0
  | s :: l, c => by
    unfold Ca.flushL
    split
    · exact (Ca.cw_in c s).mono (by simp)
    · exact (((Ca.cw_in c s).trans (Ca.clean_in _ s)).trans (Ca.flushL_in l _)).mono (by simp; try omega)
theorem Dk.barrier_P (d : Dk) : d.barrier.2.P.length ≤ d.P.length := by
  unfold Dk.barrier
  split
  · exact Nat.le_refl _
  · split
    · exact Nat.le_refl _
    · simp [Dk.flat]
theorem Ca.flush_in (c : Ca) : Ca.In c c.flush.2 c.d.N := by
  have h := ((Ca.flushL_in c.keys c).mono (Ca.keys_le c)).toIn0
  refine ⟨?_, fun h => h.flush⟩
  unfold Ca.flush
  split
  · exact Ca.In0.refl _ _
  · split
    · exact h
    · exact ⟨(Dk.barrier_N _).trans h.N, h.M, h.clk, Nat.le_trans (Dk.barrier_P _) h.P⟩
structure Sp.Ok (s : Sp) : Prop where
  c : s.c.Ok
  M : 1 ≤ s.c.M
  own : ∀ p, s.own p < s.c.d.N
  pg : ∀ p, s.r.pg p < s.c.d.N
  at' : ∀ i, s.r.at' i < s.c.d.N
structure Sp.Bd (s : Sp) (k : Nat) : Prop where
  clk : s.c.clk + k < 1000000000
  P : s.c.d.P.length + k < 900000
theorem Sp.Ok.withC {s : Sp} (h : s.Ok) {c' : Ca} {k : Nat} (hi : Ca.In s.c c' k) : (s.withC c').Ok :=
  ⟨hi.ok h.c, by show 1 ≤ c'.M; rw [hi.M]; exact h.M, fun p => by show _ < c'.d.N; rw [hi.N]; exact h.own p, fun p => by show _ < c'.d.N; rw [hi.N]; exact h.pg p, fun i => by show _ < c'.d.N; rw [hi.N]; exact h.at' i⟩
theorem sealB_eq {k : Nat} {b : Bs} (hk : 0 < k) (hb : b.length ≤ 248) : sealB k b = (0, sealed k b) := by unfold sealB; rw [if_neg (by omega)]
theorem Sp.put_eq {s : Sp} {x k : Nat} {b : Bs} (hk : 0 < k) (hb : b.length ≤ 248) : s.put x k b = ((s.c.write x (sealed k b)).1, s.withC (s.c.write x (sealed k b)).2) := by
  unfold Sp.put; rw [sealB_eq hk hb]; rfl
theorem Sp.put_in {s : Sp} {x k : Nat} {b : Bs} : Ca.In s.c (s.put x k b).2.c 2 := by
  unfold Sp.put
  split
  · exact Ca.In.refl _ _
  · exact Ca.write_in _ _ _
theorem Sp.put_same {s : Sp} {x k : Nat} {b : Bs} : (s.put x k b).2.own = s.own ∧ (s.put x k b).2.r = s.r := by
  unfold Sp.put
  split <;> exact ⟨rfl, rfl⟩
theorem Sp.Ok.put {s : Sp} (h : s.Ok) {x k : Nat} {b : Bs} : (s.put x k b).2.Ok := by
  unfold Sp.put
  split
  · exact h
  · exact h.withC (Ca.write_in _ _ _)
theorem mem_rooms {s : Sp} {x : Nat} : x ∈ s.rooms ↔ x < s.c.d.N ∧ s.taken x = false := by simp [Sp.rooms]
theorem rooms_two {s : Sp} {x : Nat} (h : x ∈ s.rooms) : 2 ≤ x := by
  have := (mem_rooms.1 h).2
  unfold Sp.taken at this
  simp only [Bool.or_eq_false_iff, decide_eq_false_iff_not] at this
  omega
theorem Ca.read_len {c : Ca} (h : c.Ok) {s : Nat} (he : (c.read s).1 = 0) : (c.read s).2.1.length = 256 := by
  unfold Ca.read at he ⊢
  by_cases hb : (c.bring s).1 ≠ 0
  · rw [if_pos hb] at he; exact absurd he hb
  · rw [if_neg hb]
    obtain ⟨f, hf⟩ := Option.isSome_iff_exists.1 (Ca.bring_some (c := c) (s := s) (by omega))
    show ((c.bring s).2.bytes s).length = 256
    unfold Ca.bytes
    rw [hf]
    exact ((h.bring s).dom s f hf).2.2
end Go.Sp
namespace Go.Sp
def Dk.new (N : Nat) : Dk := ⟨N, fun _ => List.replicate 256 0, [], false, 0, 0⟩
def root0 : Rt := ⟨1, fun _ => 0, [], fun _ => 0⟩
def Dk.bw (q : Nat × Dk) (k : Dk → Nat × Dk) : Nat × Dk := if q.1 ≠ 0 then q else k q.2
def Dk.lays (d : Dk) (s : Nat) (b : Bs) : Nat × Dk := Dk.bw (d.write s b) Dk.barrier
def Dk.format (d : Dk) : Nat × Dk := Dk.bw (d.lays 0 []) fun d => d.lays 1 (sealB 1 (bodyR root0)).2
def Dk.rd (d : Dk) (s k : Nat) : Bs × Bool :=
  if (d.read s).1 ≠ 0 then ([], false) else ((openB (d.read s).2).2.1, decide ((openB (d.read s).2).2.2 = 0) && decide ((openB (d.read s).2).1 = k))
def rootOf (b : Bs) : Rt := ⟨num ((b.drop 4).take 4), fun i => if i < 9 then num ((b.drop (8 + 2 * i)).take 2) else 0, b.drop 26, fun _ => 0⟩
def rootMay (b : Bs) : Bool := decide (26 ≤ b.length) && decide (b.take 4 = [97, 117, 109, 49])
def Dk.cand (d : Dk) (s : Nat) : Option Rt :=
  if (d.rd s 1).2 = true ∧ rootMay (d.rd s 1).1 = true ∧ 0 < (rootOf (d.rd s 1).1).ep ∧ (rootOf (d.rd s 1).1).ep % 2 = s then some (rootOf (d.rd s 1).1) else none
def better (a b : Option Rt) : Option Rt :=
  match b with
  | none => a
  | some x => match a with
    | none => some x
    | some r => if r.ep < x.ep then some x else some r
def Dk.best (d : Dk) : Option Rt := better (d.cand 0) (d.cand 1)
def partN (i : Nat) : Nat := min 124 (1024 - i * 124)
def layOk (i : Nat) (b : Bs) : Bool :=
  decide (b.length % 2 = 0) && decide (b.length ≤ 2 * partN i) && !(decide (0 < b.length) && decide (b.getD (b.length - 1) 0 = 0) && decide (b.getD (b.length - 2) 0 = 0))
def layP (f : Nat → Nat) (i : Nat) (b : Bs) : Nat → Nat := fun p => if i * 124 ≤ p ∧ p < (i + 1) * 124 ∧ p < 1024 then num ((b.drop (2 * (p - i * 124))).take 2) else f p
def fresh (N : Nat) (seen : List Nat) (s : Nat) : Bool := decide (2 ≤ s) && decide (s < N) && !seen.contains s
def Dk.wpart (d : Dk) (r : Rt) (i : Nat) (x : List Nat × (Nat → Nat)) : Option (List Nat × (Nat → Nat)) :=
  if r.at' i = 0 then some x
  else if fresh d.N x.1 (r.at' i) = true ∧ (d.rd (r.at' i) 2).2 = true ∧ (d.rd (r.at' i) 2).1 ≠ [] ∧ layOk i (d.rd (r.at' i) 2).1 = true then some (r.at' i :: x.1, layP x.2 i (d.rd (r.at' i) 2).1)
  else none
def Dk.wparts (d : Dk) (r : Rt) : Nat → Option (List Nat × (Nat → Nat))
  | 0 => some ([], fun _ => 0)
  | k + 1 => (d.wparts r k).bind (d.wpart r k)
def Dk.wpages (d : Dk) : List Nat → List Nat → Bool
  | _, [] => true
  | seen, s :: l => fresh d.N seen s && (d.rd s 3).2 && d.wpages (s :: seen) l
def Dk.whole (d : Dk) (r : Rt) : Option Rt :=
  if 200 < r.mt.length then none
  else match d.wparts r 9 with
    | none => none
    | some x => if d.wpages x.1 (secs x.2) = true then some { r with pg := x.2 } else none
def opened (d : Dk) (F : Nat) (r : Rt) : Sp := ⟨⟨d, F, 0, fun _ => none⟩, r, r.pg⟩
def Dk.open (d : Dk) (F : Int) : Nat × Option Sp :=
  if d.dead then (4, none) else if F < 2 ∨ 1024 < F then (1, none)
  else match d.best with
    | none => (9, none)
    | some r => match d.whole r with
      | none => (9, none)
      | some r => (0, some (opened d F.toNat r))
def zero256 : Bs := List.replicate 256 0
def root1 : Bs := sealed 1 (bodyR root0)
theorem root1_len : root1.length = 256 := by decide +kernel
theorem open_zero : openB zero256 = (0, [], 8) := by decide +kernel
theorem open_root1 : openB root1 = (1, bodyR root0, 0) := by decide +kernel
theorem seal_root0 : (sealB 1 (bodyR root0)).2 = root1 := by decide +kernel
def fmtS : Nat → Bs := setS (setS (fun _ => zero256) (0, zero256)) (1, root1)
def fmtDk (N : Nat) : Dk := ⟨N, fmtS, [], false, 0, 4⟩
theorem zero256_eq : pad 256 [] = zero256 := by decide +kernel
theorem root1_pad : pad 256 root1 = root1 := by unfold pad; rw [root1_len]; simp
theorem lays_ok (d : Dk) (s : Nat) (b : Bs) (hd : d.dead = false) (ha : d.ar = 0) (hs : s < d.N) (hb : b.length ≤ 256) (hP : d.P = []) :
    d.lays s b = (0, { d with S := setS d.S (s, pad 256 b), st := d.st + 2 }) := by
  have h1 : ¬ (d.N ≤ s ∨ 256 < b.length) := by omega
  cases d with
  | mk N S P dead ar st =>
  simp only at hd ha hP hs h1
  subst hd; subst ha; subst hP
  simp [Dk.lays, Dk.bw, Dk.write, h1, Dk.push, Dk.tick, Dk.pw, Dk.barrier, Dk.flat]
theorem format_new (N : Nat) (h : 16 ≤ N) : (Dk.new N).format = (0, fmtDk N) := by
  unfold Dk.format
  rw [lays_ok (Dk.new N) 0 [] rfl rfl (by show 0 < N; omega) (by simp) rfl]
  have : ¬ (0 : Nat) ≠ 0 := by omega
  simp only [Dk.bw, this, if_false]
  rw [seal_root0, lays_ok _ 1 root1 rfl rfl (by show 1 < N; omega) (by rw [root1_len]; decide) rfl, root1_pad, zero256_eq]
  rfl
theorem rd_fmt0 (N : Nat) (h : 16 ≤ N) (k : Nat) : (fmtDk N).rd 0 k = ([], false) := by
  have e : (fmtDk N).read 0 = (0, zero256) := by
    unfold Dk.read
    have h1 : ¬ N ≤ 0 := by omega
    have h2 : ¬ zero256 = [] := by decide +kernel
    simp [fmtDk, Dk.says, fmtS, setS, h1, h2]
  unfold Dk.rd
  rw [e, open_zero]
  simp
theorem rd_fmt1 (N : Nat) (h : 16 ≤ N) : (fmtDk N).rd 1 1 = (bodyR root0, true) := by
  have e : (fmtDk N).read 1 = (0, root1) := by
    unfold Dk.read
    have h1 : ¬ N ≤ 1 := by omega
    have h2 : ¬ root1 = [] := by intro e; have := root1_len; rw [e] at this; cases this
    simp [fmtDk, Dk.says, fmtS, setS, h1, h2]
  unfold Dk.rd
  rw [e, open_root1]
  simp
theorem rootOf0 : rootOf (bodyR root0) = root0 := by
  have h : ∀ i, i < 9 → num (((bodyR root0).drop (8 + 2 * i)).take 2) = 0 := by decide +kernel
  unfold rootOf root0
  congr 1
  funext i
  by_cases hi : i < 9
  · rw [if_pos hi]; exact h i hi
  · rw [if_neg hi]
theorem best_fmt (N : Nat) (h : 16 ≤ N) : (fmtDk N).best = some root0 := by
  have e0 : (fmtDk N).cand 0 = none := by unfold Dk.cand; rw [rd_fmt0 N h]; simp
  have e1 : (fmtDk N).cand 1 = some root0 := by
    unfold Dk.cand
    rw [rd_fmt1 N h]
    simp only [rootOf0]
    exact if_pos ⟨trivial, by decide +kernel, by decide, by decide⟩
  unfold Dk.best
  rw [e0, e1]
  rfl
theorem wparts_zero (d : Dk) (r : Rt) (h : ∀ i, r.at' i = 0) : ∀ k, d.wparts r k = some ([], fun _ => 0)
  | 0 => rfl
  | k + 1 => by simp [Dk.wparts, wparts_zero d r h k, Dk.wpart, h]
theorem pgs_zero : pgs (fun _ => 0) = [] := by
  unfold pgs
  rw [List.filter_eq_nil_iff]
  intro a _
  simp
theorem secs_zero : secs (fun _ => 0) = [] := by unfold secs; rw [pgs_zero]; rfl
def sp0 (N F : Nat) : Sp := opened (fmtDk N) F root0
theorem open_fmt (N : Nat) (h : 16 ≤ N) (F : Nat) (hF : 2 ≤ F) (hF2 : F ≤ 1024) : (fmtDk N).open (F : Int) = (0, some (sp0 N F)) := by
  unfold Dk.open
  have h1 : ¬ ((F : Int) < 2 ∨ (1024 : Int) < (F : Int)) := by omega
  have e : (fmtDk N).whole root0 = some root0 := by
    unfold Dk.whole
    rw [wparts_zero _ _ (fun _ => rfl)]
    simp only [secs_zero, Dk.wpages]
    simp [root0]
  rw [best_fmt N h]
  simp only [e, h1, if_false]
  simp [fmtDk, sp0]
theorem fmt_ok (N : Nat) : (fmtDk N).Ok := ⟨fun s => .inl (by
  show (fmtS s).length = 256
  unfold fmtS setS
  simp only
  split
  · exact root1_len
  · split <;> decide +kernel), fun p hp => by cases hp⟩
theorem sp0_ok (N F : Nat) (h : 16 ≤ N) (hF : 1 ≤ F) : (sp0 N F).Ok :=
  ⟨⟨fmt_ok N, (fun s f e => nomatch e), (fun s t f g e => nomatch e)⟩, hF, fun p => by show 0 < N; omega, fun p => by show 0 < N; omega, fun p => by show 0 < N; omega⟩
end Go.Sp
