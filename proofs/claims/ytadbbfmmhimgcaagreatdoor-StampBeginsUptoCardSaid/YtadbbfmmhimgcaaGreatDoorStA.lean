/- Plain laws of types' texts, how types and datatypes lie in memory, and walks of what counts and finds them. Each says its own conditions. -/
import Derived.Lib.Join
import Derived.Test.YtadbbfmmhimgcaaGreatDoorProg
import Derived.WalkKit
import Derived.Handy
import Derived.LoopTactic
import Derived.Lib.Hide
import Derived.Outline
import Derived.Lib.Strings
import Derived.Maps.OwnSet
import Derived.Maps.Keyed
import Derived.StringKeys
namespace Go.Stamp
/-- a type: its kind, name, number, kids -/
inductive Ty where
  | mk (kind : Int) (name : ByteArray) (num : Int) (kids : List Ty)
def Ty.kind : Ty → Int | .mk k _ _ _ => k
def Ty.name : Ty → ByteArray | .mk _ n _ _ => n
def Ty.num : Ty → Int | .mk _ _ n _ => n
def Ty.kids : Ty → List Ty | .mk _ _ _ l => l
structure Con where
  name : ByteArray
  has : Bool
  ty : Ty
structure Dec where
  kind : Int
  name : ByteArray
  vars : List ByteArray
  cons : List Con
/-- the first datatype of a name -/
def find (D : List Dec) (name : ByteArray) : Option Dec := D.find? fun d => decide (d.kind = 1) && decide (d.name = name)
variable (ownN : ByteArray → Option Nat)
def note (D row : List Dec) (name : ByteArray) : List Dec :=
  match ownN name with
  | some _ => row
  | none => match find D name with
    | none => row
    | some d => if row.any (fun e => decide (e.name = name)) then row else row ++ [d]
def asks (D : List Dec) (name : ByteArray) : Option Nat :=
  match ownN name with
  | some n => some n
  | none => (find D name).map (·.vars.length)
mutual
def come (D : List Dec) (vars : List ByteArray) : Ty → List Dec → Option (List Dec)
  | .mk kind name _ kids, row =>
    if kind = 1 then (if vars.any (fun v => decide (v = name)) then comes D vars kids row else none)
    else if kind = 4 then (if kids.length < 2 then none else comes D vars kids row)
    else if kind = 2 then (if asks ownN D name = some kids.length then comes D vars kids (note ownN D row name) else none)
    else none
def comes (D : List Dec) (vars : List ByteArray) : List Ty → List Dec → Option (List Dec)
  | [], row => some row
  | t :: ts, row => (come D vars t row).bind (comes D vars ts)
end
def consL (D : List Dec) (vars : List ByteArray) : List Con → List Dec → Option (List Dec)
  | [], row => some row
  | c :: cs, row => if c.has then (come ownN D vars c.ty row).bind (consL D vars cs) else consL D vars cs row
def goRow (D : List Dec) : Nat → Nat → List Dec → Option (List Dec)
  | 0, _, row => some row
  | f + 1, i, row => match row[i]? with
    | none => some row
    | some d => (consL ownN D d.vars d.cons row).bind (goRow D f (i + 1))
def allOf (D : List Dec) (t : Ty) : Option (List Dec) := (come ownN D [] t []).bind (goRow ownN D (D.length + 1) 0)
/-! ## More datatypes turn nothing -/
def Agree (D D' : List Dec) : Prop := ∀ name d, find D name = some d → find D' name = some d
variable {ownN}
theorem asks_agree {D D' : List Dec} (h : Agree D D') {name : ByteArray} {n : Nat} (hn : asks ownN D name = some n) : asks ownN D' name = some n ∧ ∀ row, note ownN D' row name = note ownN D row name := by
  unfold asks note at *
  cases ho : ownN name with
  | some m => rw [ho] at hn; exact ⟨hn, fun row => rfl⟩
  | none =>
    rw [ho] at hn
    obtain ⟨d, hd, rfl⟩ := Option.map_eq_some_iff.1 hn
    simp only [h name d hd, hd]
    first | exact ⟨rfl, fun row => rfl⟩ | exact ⟨trivial, fun row => rfl⟩ | simp
mutual
theorem come_agree {D D' : List Dec} (h : Agree D D') (vars : List ByteArray) : ∀ (t : Ty) (row r : List Dec), come ownN D vars t row = some r → come ownN D' vars t row = some r
  | .mk kind name num kids, row, r, hr => by
    rw [come] at hr ⊢
    split at hr
    · rename_i hk
      rw [if_pos hk]
      split at hr
      · rename_i hv; rw [if_pos hv]; exact comes_agree h vars kids row r hr
      · cases hr
    · rename_i hk
      rw [if_neg hk]
      split at hr
      · rename_i hk4
        rw [if_pos hk4]
        split at hr
        · cases hr
        · rename_i hl; rw [if_neg hl]; exact comes_agree h vars kids row r hr
      · rename_i hk4
        rw [if_neg hk4]
        split at hr
        · rename_i hk2
          rw [if_pos hk2]
          split at hr
          · rename_i ha
            obtain ⟨a1, a2⟩ := asks_agree h ha
            rw [if_pos a1, a2]
            exact comes_agree h vars kids _ r hr
          · cases hr
        · cases hr
theorem comes_agree {D D' : List Dec} (h : Agree D D') (vars : List ByteArray) : ∀ (l : List Ty) (row r : List Dec), comes ownN D vars l row = some r → comes ownN D' vars l row = some r
  | [], row, r, hr => by rw [comes] at hr ⊢; exact hr
  | t :: ts, row, r, hr => by
    rw [comes] at hr ⊢
    obtain ⟨r1, h1, h2⟩ := Option.bind_eq_some_iff.1 hr
    rw [come_agree h vars t row r1 h1]
    exact comes_agree h vars ts r1 r h2
end
theorem consL_agree {D D' : List Dec} (h : Agree D D') (vars : List ByteArray) : ∀ (l : List Con) (row r : List Dec), consL ownN D vars l row = some r → consL ownN D' vars l row = some r
  | [], row, r, hr => by rw [consL] at hr ⊢; exact hr
  | c :: cs, row, r, hr => by
    rw [consL] at hr ⊢
    split at hr
    · rename_i hh
      rw [if_pos hh]
      obtain ⟨r1, h1, h2⟩ := Option.bind_eq_some_iff.1 hr
      rw [come_agree h vars c.ty row r1 h1]
      exact consL_agree h vars cs r1 r h2
    · rename_i hh
      rw [if_neg hh]
      exact consL_agree h vars cs row r hr
end Go.Stamp
set_option linter.unusedVariables false
set_option linter.unusedSimpArgs false
/-! Plain laws of texts: how types and datatypes are told -/
namespace Go.Stamp
open Go
/-- in parentheses, if so -/
def roundT (s : ByteArray) (so : Bool) : ByteArray := if so then ({ data := #[40] } : ByteArray) ++ s ++ { data := #[41] } else s
/-- texts, with one between each two -/
def joinB (l : List ByteArray) (sep : ByteArray) : ByteArray := ⟨(Lib.join (l.map (·.data.toList)) sep.data.toList).toArray⟩
/-- the signs between: ' * ', ', ', ' ', '(', ') ', tick t -/
def sStar : ByteArray := { data := #[32, 42, 32] }
def sComma : ByteArray := { data := #[44, 32] }
def sBlank : ByteArray := { data := #[32] }
def sOpen : ByteArray := { data := #[40] }
def sShut : ByteArray := { data := #[41, 32] }
def sTick : ByteArray := { data := #[39, 116] }
variable (numT : Int → ByteArray)
mutual
/-- a type's text -/
def tyT : Ty → ByteArray
  | .mk kind name num kids =>
    if kind = 1 then (if name.size = 0 then sTick ++ numT num else name)
    else if kind = 4 then joinB (loneL kids) sStar
    else if kind = 2 then
      (if kids.length = 0 then name
      else if kids.length = 1 then (loneL kids).headD { data := #[] } ++ sBlank ++ name
      else sOpen ++ joinB (tyL kids) sComma ++ sShut ++ name)
    else { data := #[] }
def tyL : List Ty → List ByteArray
  | [] => []
  | t :: ts => tyT t :: tyL ts
def loneL : List Ty → List ByteArray
  | [] => []
  | t :: ts => roundT (tyT t) (decide (3 = t.kind) || decide (4 = t.kind)) :: loneL ts
end
/-- one that is no arrow and no row, or in parentheses -/
def loneT (t : Ty) : ByteArray := roundT (tyT numT t) (decide (3 = t.kind) || decide (4 = t.kind))
theorem loneL_eq : ∀ l, loneL numT l = l.map (loneT numT)
  | [] => by rw [loneL]; rfl
  | t :: ts => by rw [loneL, loneL_eq ts]; rfl
theorem tyL_eq : ∀ l, tyL numT l = l.map (tyT numT)
  | [] => by rw [tyL]; rfl
  | t :: ts => by rw [tyL, tyL_eq ts]; rfl
/-! ## How long texts are -/
theorem size_append (a b : ByteArray) : (a ++ b).size = a.size + b.size := by simp
theorem round_size (s : ByteArray) (so : Bool) : (roundT s so).size ≤ s.size + 2 := by
  unfold roundT
  split
  · rw [size_append, size_append]
    show 1 + s.size + 1 ≤ _
    omega
  · omega
theorem joinB_size (l : List ByteArray) (sep : ByteArray) : (joinB l sep).size ≤ (l.map fun x => x.size + sep.size).sum := by
  unfold joinB
  show (Lib.join (l.map (·.data.toList)) sep.data.toList).toArray.size ≤ _
  rw [List.size_toArray]
  cases l with
  | nil => simp [Lib.join_nil]
  | cons x r =>
    rw [List.map_cons, Lib.join_length]
    have e : ∀ r : List ByteArray, sep.data.toList.length * (r.map (·.data.toList)).length + Lib.lens (r.map (·.data.toList)) = (r.map fun x => x.size + sep.size).sum := by
      intro r
      induction r with
      | nil => simp [Lib.lens]
      | cons y r ih =>
        simp only [List.map_cons, List.length_cons, Nat.mul_succ, Lib.lens, List.sum_cons] at ih ⊢
        rw [← ih]
        show _ + sep.data.size + (y.data.size + _) = y.data.size + sep.data.size + _
        simp only [Lib.lens, Array.length_toList]
        omega
    have := e r
    simp only [Lib.lens, List.map_cons, List.sum_cons] at this ⊢
    rw [← this]
    show _ + (x.data.size + _) ≤ x.data.size + sep.data.size + _
    omega
/-- a constructor's text -/
def sOf : ByteArray := { data := #[32, 111, 102, 32] }
def sData : ByteArray := { data := #[100, 97, 116, 97, 116, 121, 112, 101, 32] }
def sIs : ByteArray := { data := #[32, 61, 32] }
def sBar : ByteArray := { data := #[32, 124, 32] }
def sSemi : ByteArray := { data := #[59, 32] }
def conT (c : Con) : ByteArray := if c.has then c.name ++ sOf ++ tyT numT c.ty else c.name
/-- the text of a datatype's variables -/
def varsT (l : List ByteArray) : ByteArray := if l.length = 0 then { data := #[] } else roundT (joinB l sComma) (decide (1 < l.length)) ++ sBlank
/-- a datatype's text -/
def decT (d : Dec) : ByteArray := sData ++ varsT d.vars ++ d.name ++ sIs ++ joinB (d.cons.map (conT numT)) sBar
/-- a type's text, with all to which it leads -/
def textT (t : Ty) (row : List Dec) : ByteArray := joinB (tyT numT t :: row.map (decT numT)) sSemi
/-! ## Types that are told -/
mutual
def goodT : Ty → Prop
  | .mk kind _ _ kids => (kind = 1 ∨ kind = 2 ∨ kind = 4) ∧ goodL kids
def goodL : List Ty → Prop
  | [] => True
  | t :: ts => goodT t ∧ goodL ts
end
theorem goodT_kind {t : Ty} (h : goodT t) : t.kind = 1 ∨ t.kind = 2 ∨ t.kind = 4 := by cases t; rw [goodT] at h; exact h.1
theorem goodT_kids {t : Ty} (h : goodT t) : goodL t.kids := by cases t; rw [goodT] at h; exact h.2
theorem goodL_get : ∀ {l : List Ty} (h : goodL l) {k : Nat} (hk : k < l.length), goodT l[k]
  | t :: ts, h, 0, _ => by rw [goodL] at h; exact h.1
  | t :: ts, h, k + 1, hk => by rw [goodL] at h; exact goodL_get h.2 (by simpa using hk)
variable {ownN : ByteArray → Option Nat}
mutual
theorem come_good {D : List Dec} {vars : List ByteArray} : ∀ (t : Ty) {row r : List Dec}, come ownN D vars t row = some r → goodT t
  | .mk kind name num kids, row, r, h => by
    rw [come] at h
    rw [goodT]
    split at h
    · rename_i hk
      split at h
      · exact ⟨.inl hk, comes_good kids h⟩
      · cases h
    · split at h
      · rename_i hk
        split at h
        · cases h
        · exact ⟨.inr (.inr hk), comes_good kids h⟩
      · split at h
        · rename_i hk
          split at h
          · exact ⟨.inr (.inl hk), comes_good kids h⟩
          · cases h
        · cases h
theorem comes_good {D : List Dec} {vars : List ByteArray} : ∀ (l : List Ty) {row r : List Dec}, comes ownN D vars l row = some r → goodL l
  | [], row, r, h => by rw [goodL]; trivial
  | t :: ts, row, r, h => by
    rw [comes] at h
    obtain ⟨r1, h1, h2⟩ := Option.bind_eq_some_iff.1 h
    rw [goodL]
    exact ⟨come_good t h1, comes_good ts h2⟩
end
theorem consL_good {D : List Dec} {vars : List ByteArray} : ∀ (l : List Con) {row r : List Dec}, consL ownN D vars l row = some r → ∀ c ∈ l, c.has = true → goodT c.ty
  | [], row, r, h, c, hc, _ => by cases hc
  | c :: cs, row, r, h, x, hx, hh => by
    rw [consL] at h
    rcases List.mem_cons.1 hx with rfl | hx
    · rw [if_pos hh] at h
      obtain ⟨r1, h1, h2⟩ := Option.bind_eq_some_iff.1 h
      exact come_good _ h1
    · split at h
      · obtain ⟨r1, h1, h2⟩ := Option.bind_eq_some_iff.1 h
        exact consL_good cs h2 x hx hh
      · exact consL_good cs h x hx hh
end Go.Stamp
set_option linter.unusedVariables false
set_option linter.unusedSimpArgs false
set_option maxRecDepth 100000
namespace Go.Stamp
open Go Go.RowKit Go.Proofs
/-! ## How types lie in memory -/
def Cells (W : World) (b o : Nat) (vs : List Value) : Prop := ∀ j v, vs[j]? = some v → W.cell? ⟨b, o + j, none⟩ = some v
mutual
/-- a type's four values -/
def TyV (W : World) : Ty → List Value → Prop
  | .mk kind name num kids, vs => ∃ s, vs = [.int .u8 kind, .string name, .int .i64 num, s] ∧ SlV W kids s
def SlV (W : World) : List Ty → Value → Prop
  | [], s => ∃ a c, s = .slice a 0 c
  | t :: ts, s => ∃ b o c, s = .slice (some ⟨b, o, none⟩) (ts.length + 1) c ∧ (∃ vs, Cells W b o vs ∧ TyV W t vs) ∧ RowV W ts b (o + 4)
def RowV (W : World) : List Ty → Nat → Nat → Prop
  | [], _, _ => True
  | t :: ts, b, o => (∃ vs, Cells W b o vs ∧ TyV W t vs) ∧ RowV W ts b (o + 4)
end
theorem SlV.slice {W : World} {l : List Ty} {s : Value} (h : SlV W l s) : ∃ a c, s = .slice a l.length c ∧ (l ≠ [] → ∃ b o, a = some ⟨b, o, none⟩ ∧ RowV W l b o) := by
  cases l with
  | nil => rw [SlV] at h; obtain ⟨a, c, rfl⟩ := h; exact ⟨a, c, rfl, fun h => absurd rfl h⟩
  | cons t ts => rw [SlV] at h; obtain ⟨b, o, c, rfl, h1, h2⟩ := h; exact ⟨_, c, rfl, fun _ => ⟨b, o, rfl, by rw [RowV]; exact ⟨h1, h2⟩⟩⟩
theorem RowV.get {W : World} : ∀ {l : List Ty} {b o : Nat}, RowV W l b o → ∀ {i : Nat} {t : Ty}, l[i]? = some t → ∃ vs, Cells W b (o + i * 4) vs ∧ TyV W t vs
  | t :: ts, b, o, h, i, t', hi => by
    rw [RowV] at h
    cases i with
    | zero => simp at hi; subst hi; simpa using h.1
    | succ i =>
      simp at hi
      obtain ⟨vs, h1, h2⟩ := RowV.get h.2 hi
      exact ⟨vs, by rw [show o + (i + 1) * 4 = o + 4 + i * 4 by omega]; exact h1, h2⟩
theorem TyV.vals {W : World} {t : Ty} {vs : List Value} (h : TyV W t vs) : ∃ s, vs = [.int .u8 t.kind, .string t.name, .int .i64 t.num, s] ∧ SlV W t.kids s := by
  cases t with
  | mk k n m l => rw [TyV] at h; exact h
theorem cell_lt {w : World} {b o : Nat} {v : Value} (h : w.cell? ⟨b, o, none⟩ = some v) : b < w.heap.size := by
  rcases Nat.lt_or_ge b w.heap.size with h' | h'
  · exact h'
  · have : w.heap[b]? = none := Array.getElem?_eq_none h'
    simp [World.cell?, this] at h
theorem Cells.below {W W' : World} {b o : Nat} {vs : List Value} (h : Cells W b o vs) (hb : Below W.heap.size W W') : Cells W' b o vs := fun j v hj => by
  have := h j v hj
  rw [hb.cell (by exact cell_lt this)]; exact this
mutual
theorem TyV.below {W W' : World} (hb : Below W.heap.size W W') : ∀ {t : Ty} {vs : List Value}, TyV W t vs → TyV W' t vs
  | .mk k n m l, vs, h => by
    rw [TyV] at h ⊢
    obtain ⟨s, rfl, hs⟩ := h
    exact ⟨s, rfl, SlV.below hb hs⟩
theorem SlV.below {W W' : World} (hb : Below W.heap.size W W') : ∀ {l : List Ty} {s : Value}, SlV W l s → SlV W' l s
  | [], s, h => by rw [SlV] at h ⊢; exact h
  | t :: ts, s, h => by
    rw [SlV] at h ⊢
    obtain ⟨b, o, c, rfl, ⟨vs, h1, h2⟩, h3⟩ := h
    exact ⟨b, o, c, rfl, ⟨vs, h1.below hb, TyV.below hb h2⟩, RowV.below hb h3⟩
theorem RowV.below {W W' : World} (hb : Below W.heap.size W W') : ∀ {l : List Ty} {b o : Nat}, RowV W l b o → RowV W' l b o
  | [], b, o, h => by rw [RowV]; trivial
  | t :: ts, b, o, h => by
    rw [RowV] at h ⊢
    obtain ⟨⟨vs, h1, h2⟩, h3⟩ := h
    exact ⟨⟨vs, h1.below hb, TyV.below hb h2⟩, RowV.below hb h3⟩
end
end Go.Stamp
set_option linter.unusedVariables false
set_option linter.unusedSimpArgs false
set_option maxRecDepth 100000
set_option maxHeartbeats 800000
namespace Go.Stamp
open Go Go.RowKit Go.Proofs
mutual
def partsT : Ty → Nat
  | .mk _ _ _ kids => partsN kids
def partsN : List Ty → Nat
  | [] => 0
  | t :: ts => 1 + partsT t + partsN ts
end
theorem partsT_eq (t : Ty) : partsT t = partsN t.kids := by cases t; rw [partsT]; rfl
theorem partsN_cons (t : Ty) (ts : List Ty) : partsN (t :: ts) = 1 + partsT t + partsN ts := by rw [partsN]
theorem partsN_nil : partsN [] = 0 := by rw [partsN]
def sumT (l : List Ty) : Nat := (l.map partsT).sum
theorem partsN_eq : ∀ l : List Ty, partsN l = l.length + sumT l
  | [] => by rw [partsN_nil]; rfl
  | t :: ts => by
    rw [partsN_cons, partsN_eq ts]
    simp [sumT]; omega
theorem sumT_take {l : List Ty} {i : Nat} {t : Ty} (h : l[i]? = some t) : sumT (l.take (i + 1)) = sumT (l.take i) + partsT t := by
  rw [List.take_add_one, h]
  simp [sumT]
theorem sumT_app (a b : List Ty) : sumT (a ++ b) = sumT a + sumT b := by simp [sumT]
theorem sumT_le (l : List Ty) (i : Nat) : sumT (l.take i) ≤ sumT l := by
  have := sumT_app (l.take i) (l.drop i)
  rw [List.take_append_drop] at this
  omega
theorem partsT_le {l : List Ty} {i : Nat} {t : Ty} (h : l[i]? = some t) : partsT t < partsN l := by
  have h1 := sumT_take h
  have h2 := sumT_le l (i + 1)
  have h3 := (List.getElem?_eq_some_iff.1 h).1
  rw [partsN_eq]; omega
theorem ret_int {k : IntKind} {a b : Int} (h : a = b) : Ending.returned (.int k a) = .returned (.int k b) := by rw [h]
theorem parts_ok : ∀ (m : Nat) (l : List Ty), partsN l < m → m ≤ 1099511627776 → ∀ (W : World) (s : Value), SlV W l s → Calls Tryz.prog 15 #[s] W fun e w' => e = .returned (.int .i64 (partsN l)) ∧ w' = W
  | 0, l, h, _, W, s, hs => by omega
  | m + 1, l, h, hm, W, s, hs => by
    have IH := fun l h => parts_ok m l h (by omega)
    have IHH := Lib.hid IH
    clear IH
    obtain ⟨a, c, rfl, hrow⟩ := hs.slice
    have hlen : l.length ≤ partsN l := by rw [partsN_eq]; omega
    have hpn := partsN_eq l
    have HP := Lib.hid hpn
    clear hpn
    have hsm := sumT_le l
    have HS := Lib.hid hsm
    clear hsm
    go_enter Tryz.func15, Tryz.ntmps15
    go_wp2
    go_loop [3, 4] (fun n i => ∃ k : Nat, k ≤ l.length ∧ i = .int .i64 k ∧ n = .int .i64 ((l.length + sumT (l.take k) : Nat) : Int)) (fun _ i => l.length - (intOf i).toNat)
    case atStart => exact ⟨0, Nat.zero_le _, rfl, by simp [sumT]⟩
    case round =>
      obtain ⟨k, hk, rfl, rfl⟩ := hrel
      by_cases hlt : k < l.length
      · obtain ⟨b, o, rfl, hr⟩ := hrow (by intro e; simp [e] at hlt)
        have hget : l[k]? = some l[k] := List.getElem?_eq_getElem hlt
        obtain ⟨vs, hc, hv⟩ := hr.get hget
        obtain ⟨s1, rfl, hs1⟩ := hv.vals
        have c3 := hc 3 s1 rfl
        have htk := sumT_take hget
        have hle := HS.out (k + 1)
        have hlt2 := partsT_le hget
        rw [partsT_eq] at hlt2
        have hcall := IHH.out l[k].kids (by omega) W s1 hs1
        have HC := Lib.hid hcall
        have HT := Lib.hid htk
        rw [htk] at hle
        have hpe := HP.out
        rw [partsT_eq] at hle
        clear htk hget hc hs1 hcall
        generalize sumT (l.take k) = sk at *
        have HT2 := Lib.hid ((HT.out).trans (by rw [partsT_eq] : _ = sk + partsN l[k].kids))
        clear HT
        generalize partsN l[k].kids = pk at *
        go_wp2_with fail
        refine HC.out.mono ?_
        rintro e w2 ⟨rfl, rfl⟩
        go_wp2
        go_round
        case rel => exact ⟨k + 1, by omega, by simp, congrArg (Value.int .i64) (by rw [HT2.out]; simp; omega)⟩
        case measure => simp [intOf]; omega
      · obtain rfl : k = l.length := by omega
        go_wp2
        go_ret
        exact ⟨ret_int (by rw [HP.out]; simp), rfl⟩
end Go.Stamp
set_option linter.unusedVariables false
set_option linter.unusedSimpArgs false
/-! Plain laws: how long texts are -/
namespace Go.Stamp
open Go
mutual
/-- names up to M long, numbers that an int holds -/
def fitT (M : Nat) : Ty → Prop
  | .mk _ name num kids => name.size ≤ M ∧ (-9223372036854775808 ≤ num ∧ num ≤ 9223372036854775807) ∧ fitL M kids
def fitL (M : Nat) : List Ty → Prop
  | [] => True
  | t :: ts => fitT M t ∧ fitL M ts
end
theorem fitT_name {M : Nat} {t : Ty} (h : fitT M t) : t.name.size ≤ M := by cases t; rw [fitT] at h; exact h.1
theorem fitT_num {M : Nat} {t : Ty} (h : fitT M t) : -9223372036854775808 ≤ t.num ∧ t.num ≤ 9223372036854775807 := by cases t; rw [fitT] at h; exact h.2.1
theorem fitT_kids {M : Nat} {t : Ty} (h : fitT M t) : fitL M t.kids := by cases t; rw [fitT] at h; exact h.2.2
theorem fitL_get {M : Nat} : ∀ {l : List Ty} (h : fitL M l) {k : Nat} (hk : k < l.length), fitT M l[k]
  | t :: ts, h, 0, _ => by rw [fitL] at h; exact h.1
  | t :: ts, h, k + 1, hk => by rw [fitL] at h; exact fitL_get h.2 (by simpa using hk)
variable {numT : Int → ByteArray} {M : Nat}
theorem sum_map_le {α : Type} {l : List α} {f g : α → Nat} (h : ∀ x ∈ l, f x ≤ g x) : (l.map f).sum ≤ (l.map g).sum := by
  induction l with
  | nil => simp
  | cons x l ih =>
    have h1 := h x (by simp)
    have h2 := ih fun y hy => h y (by simp [hy])
    simp only [List.map_cons, List.sum_cons]
    omega
theorem joinB_le {l : List ByteArray} {sep : ByteArray} {k : Nat} (h : sep.size ≤ k) : (joinB l sep).size ≤ (l.map fun x => x.size + k).sum :=
  Nat.le_trans (joinB_size l sep) (sum_map_le fun x _ => by omega)
mutual
theorem tyT_size (hn : ∀ k, (numT k).size ≤ 32) : ∀ (t : Ty), fitT M t → (tyT numT t).size + 8 ≤ (M + 64) * (partsT t + 1)
  | .mk kind name num kids, h => by
    rw [fitT] at h
    obtain ⟨h1, _, h3⟩ := h
    have hL := tyL_size hn kids h3
    have hO := loneL_size hn kids h3
    have hN := hn num
    rw [partsT, Nat.mul_add, Nat.mul_one]
    generalize (M + 64) * partsN kids = X at hL hO ⊢
    rw [tyT]
    split
    · split
      · rw [size_append]
        show 2 + _ + 8 ≤ _
        omega
      · omega
    · split
      · have := joinB_le (l := loneL numT kids) (sep := sStar) (k := 3) (Nat.le_refl _)
        omega
      · split
        · split
          · omega
          · split
            · rw [size_append, size_append]
              have e : ((loneL numT kids).headD { data := #[] }).size ≤ ((loneL numT kids).map fun x => x.size + 3).sum := by
                cases loneL numT kids with
                | nil => exact Nat.zero_le _
                | cons x l =>
                  show x.size ≤ (x.size + 3) + _
                  omega
              show _ + 1 + _ + 8 ≤ _
              omega
            · have := joinB_le (l := tyL numT kids) (sep := sComma) (k := 3) (by decide)
              rw [size_append, size_append, size_append]
              show 1 + _ + 2 + _ + 8 ≤ _
              omega
        · show 0 + 8 ≤ _
          omega
theorem tyL_size (hn : ∀ k, (numT k).size ≤ 32) : ∀ (l : List Ty), fitL M l → ((tyL numT l).map fun x => x.size + 3).sum ≤ (M + 64) * partsN l
  | [], h => by rw [tyL]; simp
  | t :: ts, h => by
    rw [fitL] at h
    have h1 := tyT_size hn t h.1
    have h2 := tyL_size hn ts h.2
    rw [partsN_cons, show 1 + partsT t + partsN ts = (partsT t + 1) + partsN ts by omega, Nat.mul_add, tyL, List.map_cons, List.sum_cons]
    omega
theorem loneL_size (hn : ∀ k, (numT k).size ≤ 32) : ∀ (l : List Ty), fitL M l → ((loneL numT l).map fun x => x.size + 3).sum ≤ (M + 64) * partsN l
  | [], h => by rw [loneL]; simp
  | t :: ts, h => by
    rw [fitL] at h
    have h1 := tyT_size hn t h.1
    have h2 := loneL_size hn ts h.2
    have h3 := round_size (tyT numT t) (decide (3 = t.kind) || decide (4 = t.kind))
    rw [partsN_cons, show 1 + partsT t + partsN ts = (partsT t + 1) + partsN ts by omega, Nat.mul_add, loneL, List.map_cons, List.sum_cons]
    omega
end
/-- a declaration of bounded names and parts -/
structure DecB (M : Nat) (d : Dec) : Prop where
  name : d.name.size ≤ M
  vars : ∀ v ∈ d.vars, v.size ≤ M
  many : d.vars.length ≤ 2000
  cons : ∀ c ∈ d.cons, c.name.size ≤ M ∧ fitT M c.ty
  parts : partsN (d.cons.map (·.ty)) ≤ 2000
theorem sum_const {α : Type} (l : List α) (k : Nat) : (l.map fun _ => k).sum = k * l.length := by
  induction l with
  | nil => simp
  | cons x l ih => rw [List.map_cons, List.sum_cons, ih, List.length_cons, Nat.mul_succ]; omega
theorem consT_size (hn : ∀ k, (numT k).size ≤ 32) : ∀ (l : List Con), (∀ c ∈ l, c.name.size ≤ M ∧ fitT M c.ty) → ((l.map (conT numT)).map fun x => x.size + 3).sum ≤ (M + 64) * (2 * partsN (l.map (·.ty)))
  | [], h => by simp
  | c :: cs, h => by
    have h1 := consT_size hn cs fun x hx => h x (by simp [hx])
    obtain ⟨h2, h3⟩ := h c (by simp)
    have h4 := tyT_size hn c.ty h3
    rw [List.map_cons, List.map_cons, List.map_cons, List.sum_cons, partsN_cons,
      show 2 * (1 + partsT c.ty + partsN (cs.map (·.ty))) = (partsT c.ty + 1) + (partsT c.ty + 1) + 2 * partsN (cs.map (·.ty)) by omega, Nat.mul_add, Nat.mul_add]
    have h5 : M + 64 ≤ (M + 64) * (partsT c.ty + 1) := Nat.le_mul_of_pos_right _ (by omega)
    have : (conT numT c).size ≤ M + 4 + (tyT numT c.ty).size := by
      unfold conT
      split
      · rw [size_append, size_append]
        show _ + 4 + _ ≤ _
        omega
      · omega
    omega
theorem decT_size (hn : ∀ k, (numT k).size ≤ 32) {d : Dec} (h : DecB M d) : (decT numT d).size + 2 ≤ (M + 64) * 10000 := by
  unfold decT
  rw [size_append, size_append, size_append, size_append]
  have h1 := consT_size hn d.cons h.cons
  have h2 := joinB_le (l := d.cons.map (conT numT)) (sep := sBar) (k := 3) (Nat.le_refl _)
  have h3 : (M + 64) * (2 * partsN (d.cons.map (·.ty))) ≤ (M + 64) * 4000 := Nat.mul_le_mul_left _ (by have := h.parts; omega)
  have h4 : (varsT d.vars).size ≤ (M + 64) * 2000 + 3 := by
    unfold varsT
    split
    · exact Nat.zero_le _
    · rw [size_append]
      have r := round_size (joinB d.vars sComma) (decide (1 < d.vars.length))
      have j := joinB_le (l := d.vars) (sep := sComma) (k := 2) (by decide)
      have s := sum_map_le (l := d.vars) (f := fun x => x.size + 2) (g := fun _ => M + 64) fun x hx => by have := h.vars x hx; omega
      rw [sum_const] at s
      have m := Nat.mul_le_mul_left (M + 64) h.many
      show _ + 1 ≤ _
      omega
  have h5 := h.name
  show 9 + _ + _ + 3 + _ + 2 ≤ _
  omega
theorem textT_size (hn : ∀ k, (numT k).size ≤ 32) {t : Ty} (ht : fitT M t) {row : List Dec} (h : ∀ d ∈ row, DecB M d) : (textT numT t row).size ≤ (M + 64) * (partsT t + 1) + (M + 64) * 10000 * row.length := by
  unfold textT
  have j := joinB_le (l := tyT numT t :: row.map (decT numT)) (sep := sSemi) (k := 2) (Nat.le_refl _)
  rw [List.map_cons, List.sum_cons, List.map_map] at j
  have s := sum_map_le (l := row) (f := ((fun x : ByteArray => x.size + 2) ∘ decT numT)) (g := fun _ => (M + 64) * 10000) fun d hd => decT_size hn (h d hd)
  rw [sum_const] at s
  have := tyT_size hn t ht
  omega
end Go.Stamp
set_option linter.unusedVariables false
set_option linter.unusedSimpArgs false
set_option maxRecDepth 100000
set_option maxHeartbeats 800000
namespace Go.Stamp
open Go Go.RowKit Go.Proofs
/-! ## How rows of texts, constructors and datatypes lie in memory -/
/-- n elements of k cells each -/
def RowsV {α : Type} (W : World) (k : Nat) (E : α → List Value → Prop) (l : List α) (s : Value) : Prop :=
  ∃ a c, s = .slice a l.length c ∧ (l ≠ [] → ∃ b o, a = some ⟨b, o, none⟩ ∧ ∀ i x, l[i]? = some x → ∃ vs, Cells W b (o + i * k) vs ∧ E x vs) ∧ l.length ≤ c
theorem RowsV.mono {α : Type} {W W' : World} {k : Nat} {E E' : α → List Value → Prop} {l : List α} {s : Value} (h : RowsV W k E l s) (hb : Below W.heap.size W W') (hE : ∀ x vs, x ∈ l → E x vs → E' x vs) : RowsV W' k E' l s := by
  obtain ⟨a, c, rfl, h, hcap⟩ := h
  refine ⟨a, c, rfl, fun hl => ?_, hcap⟩
  obtain ⟨b, o, rfl, h'⟩ := h hl
  refine ⟨b, o, rfl, fun i x hi => ?_⟩
  obtain ⟨vs, h1, h2⟩ := h' i x hi
  exact ⟨vs, h1.below hb, hE x vs (List.mem_of_getElem? hi) h2⟩
def StrV (x : ByteArray) (vs : List Value) : Prop := vs = [.string x]
def StrsV (W : World) (l : List ByteArray) (s : Value) : Prop := RowsV W 1 StrV l s
def ConV (W : World) (c : Con) (vs : List Value) : Prop := ∃ ts, vs = .string c.name :: .bool c.has :: ts ∧ TyV W c.ty ts
def ConsV (W : World) (l : List Con) (s : Value) : Prop := RowsV W 6 (ConV W) l s
/-- what of a declaration is not looked at -/
structure Rest where
  a1 : Option Addr
  n1 : Nat
  c1 : Nat
  k1 : Int
  s1 : ByteArray
  m1 : Int
  a2 : Option Addr
  n2 : Nat
  c2 : Nat
  k2 : Int
  s2 : ByteArray
  m2 : Int
  s3 : ByteArray
  a3 : Option Addr
  n3 : Nat
  c3 : Nat
  a4 : Option Addr
  n4 : Nat
  c4 : Nat
  a5 : Option Addr
  n5 : Nat
  c5 : Nat
def Rest.vals (R : Rest) : List Value := [.slice R.a1 R.n1 R.c1, .int .u8 R.k1, .string R.s1, .int .i64 R.m1, .slice R.a2 R.n2 R.c2, .int .u8 R.k2, .string R.s2, .int .i64 R.m2, .string R.s3, .slice R.a3 R.n3 R.c3, .slice R.a4 R.n4 R.c4, .slice R.a5 R.n5 R.c5]
def DecV (W : World) (d : Dec) (vs : List Value) : Prop :=
  ∃ sv sc R, vs = .int .u8 d.kind :: .string d.name :: sv :: sc :: Rest.vals R ∧ StrsV W d.vars sv ∧ ConsV W d.cons sc
def DecsV (W : World) (l : List Dec) (s : Value) : Prop := RowsV W 16 (DecV W) l s
theorem StrsV.below {W W' : World} (hb : Below W.heap.size W W') {l : List ByteArray} {s : Value} (h : StrsV W l s) : StrsV W' l s := RowsV.mono h hb fun x vs _ h => h
theorem ConV.below {W W' : World} (hb : Below W.heap.size W W') {c : Con} {vs : List Value} (h : ConV W c vs) : ConV W' c vs := by
  obtain ⟨ts, h1, h2⟩ := h
  exact ⟨ts, h1, h2.below hb⟩
theorem ConsV.below {W W' : World} (hb : Below W.heap.size W W') {l : List Con} {s : Value} (h : ConsV W l s) : ConsV W' l s := RowsV.mono h hb fun x vs _ h => h.below hb
theorem DecV.below {W W' : World} (hb : Below W.heap.size W W') {d : Dec} {vs : List Value} (h : DecV W d vs) : DecV W' d vs := by
  obtain ⟨sv, sc, R, h1, h2, h3⟩ := h
  exact ⟨sv, sc, R, h1, h2.below hb, h3.below hb⟩
theorem DecsV.below {W W' : World} (hb : Below W.heap.size W W') {l : List Dec} {s : Value} (h : DecsV W l s) : DecsV W' l s := RowsV.mono h hb fun x vs _ h => h.below hb
theorem RowsV.slice {α : Type} {W : World} {k : Nat} {E : α → List Value → Prop} {l : List α} {s : Value} (h : RowsV W k E l s) : ∃ a c, s = .slice a l.length c := by
  obtain ⟨a, c, rfl, _⟩ := h
  exact ⟨a, c, rfl⟩
theorem RowsV.get {α : Type} {W : World} {k : Nat} {E : α → List Value → Prop} {l : List α} {a : Option Addr} {n c : Nat} (h : RowsV W k E l (.slice a n c)) {i : Nat} (hi : i < l.length) :
    ∃ b o vs, a = some ⟨b, o, none⟩ ∧ Cells W b (o + i * k) vs ∧ E l[i] vs := by
  obtain ⟨a', c', e, h, hcap⟩ := h
  cases e
  obtain ⟨b, o, rfl, h'⟩ := h (by intro e; simp [e] at hi)
  obtain ⟨vs, h1, h2⟩ := h' i l[i] (List.getElem?_eq_getElem hi)
  exact ⟨b, o, vs, rfl, h1, h2⟩
theorem neq_bytes {a b : ByteArray} (h : a ≠ b) : (a.toList == b.toList) = false := by
  rw [beq_eq_false_iff_ne]
  intro e
  rw [Lib.toList_data, Lib.toList_data] at e
  exact h (WideShapes.bytes_inj e)
/-! ## Data: the first datatype of a name -/
def isD (name : ByteArray) (d : Dec) : Bool := decide (d.kind = 1) && decide (d.name = name)
theorem find_eq (D : List Dec) (name : ByteArray) : find D name = D.find? (isD name) := rfl
theorem find_none {D : List Dec} {name : ByteArray} (h : ∀ i (hi : i < D.length), isD name D[i] = false) : find D name = none := by
  rw [find_eq, List.find?_eq_none]
  intro d hd
  obtain ⟨i, hi, rfl⟩ := List.getElem_of_mem hd
  simp [h i hi]
theorem find_some {D : List Dec} {name : ByteArray} {k : Nat} (hk : k < D.length) (h : ∀ i (hi : i < D.length), i < k → isD name D[i] = false) (h1 : isD name D[k] = true) : find D name = some D[k] := by
  rw [find_eq, List.find?_eq_some_iff_getElem]
  exact ⟨h1, k, hk, rfl, fun j hj => by simp [h j (by omega) hj]⟩
/-- what Data tells -/
def DataP (D : List Dec) (name : ByteArray) (e : Ending) : Prop :=
  ∃ k s va vn vc ca cn cc R, e = .returned (.tuple #[.agg ⟨.int .u8 k :: .string s :: .slice va vn vc :: .slice ca cn cc :: Rest.vals R⟩, .bool (find D name).isSome])
theorem data_ok {D : List Dec} {W : World} {s : Value} (h : DecsV W D s) (hD : D.length ≤ 1099511627776) (name : ByteArray) : Calls Tryz.prog 10 #[s, .string name] W fun e w' => DataP D name e ∧ Below W.heap.size W w' := by
  obtain ⟨a, c, rfl⟩ := h.slice
  have H := Lib.hid h
  clear h
  go_enter Tryz.func10, Tryz.ntmps10
  go_wp2
  go_loop [6] (fun i => ∃ k : Nat, k ≤ D.length ∧ i = .int .i64 k ∧ Hid (∀ j (hj : j < D.length), j < k → isD name D[j] = false)) (fun i => D.length - (intOf i).toNat)
  case atStart => exact ⟨0, Nat.zero_le _, rfl, fun j _ h => absurd h (Nat.not_lt_zero _)⟩
  case round =>
    obtain ⟨k, hk, rfl, hno⟩ := hrel
    by_cases hlt : k < D.length
    · obtain ⟨b, o, vs, rfl, hc, sv, sc, R, rfl, hsv, hsc⟩ := H.out.get hlt
      obtain ⟨va, vc, rfl⟩ := hsv.slice
      obtain ⟨ca, cc, rfl⟩ := hsc.slice
      have c0 : W.cell? ⟨b, o + k * 16, none⟩ = some (.int .u8 D[k].kind) := hc 0 _ rfl
      have hb0 := cell_lt c0
      have c1 := hc 1 _ rfl
      have HC := Lib.hid hc
      clear hc hsv hsc
      have hiD : isD name D[k] = (decide (D[k].kind = 1) && decide (D[k].name = name)) := rfl
      have HI := Lib.hid hiD
      clear hiD
      generalize D[k].kind = kd at *
      generalize D[k].name = nm at *
      by_cases h1 : kd = 1
      · subst h1
        by_cases h2 : nm = name
        · subst h2
          have c2 := HC.out 2 _ rfl
          have c3 := HC.out 3 _ rfl
          have c4 := HC.out 4 _ rfl
          have c5 := HC.out 5 _ rfl
          have c6 := HC.out 6 _ rfl
          have c7 := HC.out 7 _ rfl
          have c8 := HC.out 8 _ rfl
          have c9 := HC.out 9 _ rfl
          have c10 := HC.out 10 _ rfl
          have c11 := HC.out 11 _ rfl
          have c12 := HC.out 12 _ rfl
          have c13 := HC.out 13 _ rfl
          have c14 := HC.out 14 _ rfl
          have c15 := HC.out 15 _ rfl
          have hfs := find_some hlt hno.out (by rw [HI.out]; simp)
          have HF := Lib.hid hfs
          clear hfs
          go_wp2
          exact bodyPost_ret (v := .tuple #[.agg #[.int .u8 1, .string nm, .slice va D[k].vars.length vc, .slice ca D[k].cons.length cc, .slice R.a1 R.n1 R.c1, .int .u8 R.k1, .string R.s1, .int .i64 R.m1, .slice R.a2 R.n2 R.c2, .int .u8 R.k2, .string R.s2, .int .i64 R.m2, .string R.s3, .slice R.a3 R.n3 R.c3, .slice R.a4 R.n4 R.c4, .slice R.a5 R.n5 R.c5], .bool true])
            (by simp [results, Tryz.results10, go_sem]) rfl ⟨⟨_, _, _, _, _, _, _, _, R, by rw [HF.out]; rfl⟩, (Below.refl _ _).alloc (Nat.le_refl _) _⟩
        · have hb := neq_bytes h2
          go_wp2
          go_round
          case rel => exact ⟨k + 1, by omega, by simp, fun j hj hjk => by
            by_cases e : j = k
            · subst e; rw [HI.out]; simp [h2]
            · exact hno.out j hj (by omega)⟩
          case measure => simp [intOf]; omega
      · have hb : (kd == 1) = false := by simpa using h1
        go_wp2
        go_round
        case rel => exact ⟨k + 1, by omega, by simp, fun j hj hjk => by
          by_cases e : j = k
          · subst e; rw [HI.out]; simp [h1]
          · exact hno.out j hj (by omega)⟩
        case measure => simp [intOf]; omega
    · obtain rfl : k = D.length := by omega
      have hfn := find_none (name := name) fun i hi => hno.out i hi hi
      have HF := Lib.hid hfn
      clear hfn
      go_wp2
      exact bodyPost_ret (v := .tuple #[.agg #[.int .u8 0, .string { data := #[] }, .slice none 0 0, .slice none 0 0, .slice none 0 0, .int .u8 0, .string { data := #[] }, .int .i64 0, .slice none 0 0, .int .u8 0, .string { data := #[] }, .int .i64 0, .string { data := #[] }, .slice none 0 0, .slice none 0 0, .slice none 0 0], .bool false])
        (by simp [results, Tryz.results10, go_sem]) rfl ⟨⟨_, _, _, _, _, _, _, _, ⟨none, 0, 0, 0, { data := #[] }, 0, none, 0, 0, 0, { data := #[] }, 0, { data := #[] }, none, 0, 0, none, 0, 0, none, 0, 0⟩, by rw [HF.out]; rfl⟩, (Below.refl _ _).alloc (Nat.le_refl _) _⟩
end Go.Stamp
set_option linter.unusedVariables false
set_option linter.unusedSimpArgs false
set_option maxRecDepth 100000
set_option maxHeartbeats 1600000
namespace Go.Stamp
open Go Go.RowKit Go.Proofs
/-! ## The first datatype of a name, by slices.IndexFunc -/
theorem isD_closure (w : World) (nb : Nat) (k : Int) (nm name : ByteArray) (va : Option Addr) (vn vc : Nat) (ca : Option Addr) (cn cc : Nat) (R : Rest) (hn : w.cell? ⟨nb, 0, none⟩ = some (.string name)) :
    Calls Tryz.prog 61 #[.agg #[.int .u8 k, .string nm, .slice va vn vc, .slice ca cn cc, .slice R.a1 R.n1 R.c1, .int .u8 R.k1, .string R.s1, .int .i64 R.m1, .slice R.a2 R.n2 R.c2, .int .u8 R.k2, .string R.s2, .int .i64 R.m2, .string R.s3, .slice R.a3 R.n3 R.c3, .slice R.a4 R.n4 R.c4, .slice R.a5 R.n5 R.c5], .pointer (some ⟨nb, 0, none⟩)] w
      fun e w' => e = .returned (.bool (decide (k = 1) && decide (nm = name))) ∧ Below w.heap.size w w' := by
  have hlt := cell_lt hn
  by_cases h1 : k = 1
  · subst h1
    by_cases h2 : nm = name
    · subst h2
      have hb : (nm.toList == nm.toList) = true := by simp
      go_enter Tryz.func61, Tryz.ntmps61
      go_wp2
      go_ret
      exact ⟨by simp, (Below.refl _ _).alloc (Nat.le_refl _) _⟩
    · have hb := neq_bytes h2
      go_enter Tryz.func61, Tryz.ntmps61
      go_wp2
      go_ret
      exact ⟨by simp [h2], (Below.refl _ _).alloc (Nat.le_refl _) _⟩
  · have hb : (k == 1) = false := by simpa using h1
    go_enter Tryz.func61, Tryz.ntmps61
    go_wp2
    go_ret
    exact ⟨by simp [h1], (Below.refl _ _).alloc (Nat.le_refl _) _⟩
/-- what IndexFunc tells -/
def IdxP (D : List Dec) (name : ByteArray) (e : Ending) : Prop :=
  (∃ k, ∃ hk : k < D.length, e = .returned (.int .i64 (k : Nat)) ∧ find D name = some D[k]) ∨ (e = .returned (.int .i64 (-1)) ∧ find D name = none)
theorem idx_ok {D : List Dec} {W0 W : World} {s : Value} (h : DecsV W0 D s) (hB : Below W0.heap.size W0 W) (hD : D.length ≤ 1099511627776) (name : ByteArray) (nb : Nat) (hn : W.cell? ⟨nb, 0, none⟩ = some (.string name)) :
    Calls Tryz.prog 60 #[s, .func (.func 61) #[] #[.pointer (some ⟨nb, 0, none⟩)]] W fun e w' => IdxP D name e ∧ Below W.heap.size W w' := by
  obtain ⟨a, c, rfl⟩ := h.slice
  have hnl := cell_lt hn
  have H := Lib.hid h
  clear h
  go_enter Tryz.func60, Tryz.ntmps60
  go_wp2
  go_loopw [8] (fun i wr => ∃ k : Nat, k ≤ D.length ∧ i = .int .i64 k ∧ Hid (∀ j (hj : j < D.length), j < k → isD name D[j] = false) ∧ Below W.heap.size W wr) (fun i _ => D.length - (intOf i).toNat)
  case atStart => exact ⟨0, Nat.zero_le _, rfl, fun j _ h => absurd h (Nat.not_lt_zero _), Below.refl _ _⟩
  case round =>
    obtain ⟨k, hk, rfl, hno, hbw⟩ := hrel
    by_cases hlt : k < D.length
    · obtain ⟨b, o, vs, rfl, hc, sv, sc, R, rfl, hsv, hsc⟩ := H.out.get hlt
      obtain ⟨va, vc, rfl⟩ := hsv.slice
      obtain ⟨ca, cc, rfl⟩ := hsc.slice
      have hc : Cells wr b (o + k * 16) _ := (hc.below hB).below hbw |> fun h => h
      have c0 : wr.cell? ⟨b, o + k * 16, none⟩ = some (.int .u8 D[k].kind) := hc 0 _ rfl
      have c1 := hc 1 _ rfl
      have c2 := hc 2 _ rfl
      have c3 := hc 3 _ rfl
      have c4 := hc 4 _ rfl
      have c5 := hc 5 _ rfl
      have c6 := hc 6 _ rfl
      have c7 := hc 7 _ rfl
      have c8 := hc 8 _ rfl
      have c9 := hc 9 _ rfl
      have c10 := hc 10 _ rfl
      have c11 := hc 11 _ rfl
      have c12 := hc 12 _ rfl
      have c13 := hc 13 _ rfl
      have c14 := hc 14 _ rfl
      have c15 := hc 15 _ rfl
      have hn' : wr.cell? ⟨nb, 0, none⟩ = some (.string name) := (hbw.cell (p := ⟨nb, 0, none⟩) hnl).trans hn
      have hcl := isD_closure wr nb D[k].kind D[k].name name va D[k].vars.length vc ca D[k].cons.length cc R hn'
      have HCL := Lib.hid hcl
      have hiD : isD name D[k] = (decide (D[k].kind = 1) && decide (D[k].name = name)) := rfl
      have HI := Lib.hid hiD
      clear hc hsv hsc hcl hn' hiD
      go_wp2_with fail
      refine HCL.out.mono ?_
      rintro e w2 ⟨rfl, hb2⟩
      rw [← HI.out]
      have hb3 := hbw.trans (hb2.mono hbw.size)
      clear c0 c1 c2 c3 c4 c5 c6 c7 c8 c9 c10 c11 c12 c13 c14 c15 hb2
      cases hd : isD name D[k] with
      | true =>
        have hfs := Lib.hid (find_some hlt hno.out hd)
        clear hd
        go_wp2
        go_ret
        exact ⟨.inl ⟨k, hlt, rfl, hfs.out⟩, hb3⟩
      | false =>
        have HD := Lib.hid hd
        clear hd
        go_wp2
        go_roundw
        case rel => exact ⟨k + 1, by omega, by simp, (fun j hj hjk => by
          by_cases e : j = k
          · subst e; exact HD.out
          · exact hno.out j hj (by omega)), hb3⟩
        case measure => simp [intOf]; omega
    · obtain rfl : k = D.length := by omega
      have hfn := Lib.hid (find_none (name := name) fun i hi => hno.out i hi hi)
      go_wp2
      go_ret
      exact ⟨.inr ⟨rfl, hfn.out⟩, hbw⟩
end Go.Stamp
set_option linter.unusedVariables false
set_option linter.unusedSimpArgs false
set_option maxRecDepth 100000
set_option maxHeartbeats 1600000
namespace Go.Stamp
open Go Go.RowKit Go.Proofs Go.Maps
theorem key9 : Keyed Tryz.prog 9 := string_keyed Tryz.underlying9
/-- the language's own types -/
def ownD : DataW Unit := (((((((((((((.map []) : DataW Unit).put (.string [105, 110, 116]) (.lit (.int .i64 0))) : DataW Unit).put (.string [115, 116, 114, 105, 110, 103]) (.lit (.int .i64 0))) : DataW Unit).put (.string [117, 110, 105, 116]) (.lit (.int .i64 0))) : DataW Unit).put (.string [98, 111, 111, 108]) (.lit (.int .i64 0))) : DataW Unit).put (.string [114, 101, 102]) (.lit (.int .i64 1))) : DataW Unit).put (.string [97, 114, 114, 97, 121]) (.lit (.int .i64 1)))
def ownN (name : ByteArray) : Option Nat := if Maps.has ownD (.string name.data.toList) then (match ownD.atKey (.string name.data.toList) (.lit (.int .i64 0)) with | .lit (.int _ n) => some n.toNat | _ => none) else none
theorem own_ok (w : World) : Calls Tryz.prog 59 #[] w fun e w' => e = .returned (.map (some w.heap.size)) ∧ w'.ownsMap Tryz.prog 9 (plainElem Tryz.prog 3) w.heap.size 6 ownD ∧ Below w.heap.size w w' := by
  have hmm := @run_makeMap Tryz.prog
  have o0 := World.ownsMap_made (H := Unit) w Tryz.prog 9 (plainElem Tryz.prog 3)
  have b0 := (Below.refl w.heap.size w).alloc (Nat.le_refl _) (.map #[] 0)
  obtain ⟨w1, r1, o1, g1⟩ := o0.update (key := .string ⟨#[105, 110, 116]⟩) (val := .int .i64 0) key9 Tryz.underlying117 (by decide) (WideMaps.keyOf_string_mk Tryz.underlying9 (by decide)) (plainElem_int Tryz.underlying3 (by decide))
  have b1 := b0.grown g1 b0.size (fun k hk => by cases hk; exact Nat.le_refl _)
  obtain ⟨w2, r2, o2, g2⟩ := o1.update (key := .string ⟨#[115, 116, 114, 105, 110, 103]⟩) (val := .int .i64 0) key9 Tryz.underlying117 (by decide) (WideMaps.keyOf_string_mk Tryz.underlying9 (by decide)) (plainElem_int Tryz.underlying3 (by decide))
  have b2 := b1.grown g2 b1.size (fun k hk => by cases hk; exact Nat.le_refl _)
  obtain ⟨w3, r3, o3, g3⟩ := o2.update (key := .string ⟨#[117, 110, 105, 116]⟩) (val := .int .i64 0) key9 Tryz.underlying117 (by decide) (WideMaps.keyOf_string_mk Tryz.underlying9 (by decide)) (plainElem_int Tryz.underlying3 (by decide))
  have b3 := b2.grown g3 b2.size (fun k hk => by cases hk; exact Nat.le_refl _)
  obtain ⟨w4, r4, o4, g4⟩ := o3.update (key := .string ⟨#[98, 111, 111, 108]⟩) (val := .int .i64 0) key9 Tryz.underlying117 (by decide) (WideMaps.keyOf_string_mk Tryz.underlying9 (by decide)) (plainElem_int Tryz.underlying3 (by decide))
  have b4 := b3.grown g4 b3.size (fun k hk => by cases hk; exact Nat.le_refl _)
  obtain ⟨w5, r5, o5, g5⟩ := o4.update (key := .string ⟨#[114, 101, 102]⟩) (val := .int .i64 1) key9 Tryz.underlying117 (by decide) (WideMaps.keyOf_string_mk Tryz.underlying9 (by decide)) (plainElem_int Tryz.underlying3 (by decide))
  have b5 := b4.grown g5 b4.size (fun k hk => by cases hk; exact Nat.le_refl _)
  obtain ⟨w6, r6, o6, g6⟩ := o5.update (key := .string ⟨#[97, 114, 114, 97, 121]⟩) (val := .int .i64 1) key9 Tryz.underlying117 (by decide) (WideMaps.keyOf_string_mk Tryz.underlying9 (by decide)) (plainElem_int Tryz.underlying3 (by decide))
  have b6 := b5.grown g6 b5.size (fun k hk => by cases hk; exact Nat.le_refl _)
  have HO : Hid (w6.ownsMap Tryz.prog 9 (plainElem Tryz.prog 3) w.heap.size 6 ownD) := o6
  have HB : Hid (Below w.heap.size w w6) := b6
  go_enter Tryz.func59, Tryz.ntmps59
  go_wp2
  go_ret
  exact ⟨rfl, HO.out, HB.out⟩
end Go.Stamp
set_option linter.unusedVariables false
set_option linter.unusedSimpArgs false
namespace Go.Stamp
open Go Go.RowKit Go.Proofs Go.Maps
theorem ownD_eq : ∃ es : List (Lit × DataW Unit), ownD = .map es ∧ ∀ p ∈ es, p.2 = .lit (.int .i64 0) ∨ p.2 = .lit (.int .i64 1) := by
  refine ⟨_, rfl, ?_⟩
  intro p hp
  have : p ∈ ([((.string [97, 114, 114, 97, 121]), (.lit (.int .i64 1))), ((.string [98, 111, 111, 108]), (.lit (.int .i64 0))), ((.string [105, 110, 116]), (.lit (.int .i64 0))), ((.string [114, 101, 102]), (.lit (.int .i64 1))), ((.string [115, 116, 114, 105, 110, 103]), (.lit (.int .i64 0))), ((.string [117, 110, 105, 116]), (.lit (.int .i64 0)))] : List (Lit × DataW Unit)) := hp
  simp at this
  rcases this with rfl | rfl | rfl | rfl | rfl | rfl <;> simp
theorem ownD_at (k : Lit) : ∃ n : Nat, ownD.atKey k (.lit (.int .i64 0)) = .lit (.int .i64 n) := by
  obtain ⟨es, e, h⟩ := ownD_eq
  rw [e]
  unfold DataW.atKey
  simp only
  cases hf : es.find? (fun p => p.1.sameKey k) with
  | none => exact ⟨0, rfl⟩
  | some p =>
    rcases h p (List.mem_of_find?_eq_some hf) with h | h
    · exact ⟨0, h⟩
    · exact ⟨1, h⟩
theorem own_look {w : World} {b : Nat} (h : w.ownsMap Tryz.prog 9 (plainElem Tryz.prog 3) b 6 ownD) {name : ByteArray} (hs : name.size ≤ maxLen) :
    ∃ c : Nat, (Instr.lookup 117 (.map (some b)) (.string name) true).run Tryz.prog w = .ok (.tuple #[.int .i64 c, .bool (ownN name).isSome]) w ∧ (∀ n, ownN name = some n → c = n) := by
  obtain ⟨v, ps, hlk, hv⟩ := h.look_ok key9 Tryz.underlying117 (z := .int .i64 0) (by kernel_rfl) (zd := .lit (.int .i64 0)) (zp := []) (plainElem_int Tryz.underlying3 (by decide)) (WideMaps.keyOf_string_mk Tryz.underlying9 hs)
  obtain ⟨c, rfl, hc, _⟩ := plainElem_int_inv Tryz.underlying3 hv
  obtain ⟨n, hn⟩ := ownD_at (.string name.data.toList)
  have hc' := (congrArg Prod.fst hc).symm.trans hn
  simp at hc'
  subst hc'
  refine ⟨n, ?_, ?_⟩
  · rw [hlk]
    unfold ownN
    rw [hn]
    cases Maps.has ownD (.string name.data.toList) <;> simp
  · intro k hk
    unfold ownN at hk
    rw [hn] at hk
    split at hk
    · simpa using hk
    · cases hk
end Go.Stamp
