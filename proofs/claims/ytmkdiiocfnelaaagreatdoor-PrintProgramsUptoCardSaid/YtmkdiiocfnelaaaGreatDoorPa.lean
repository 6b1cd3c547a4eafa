/- The digest of a program's parts, the text that is told of it, how the parts lie in memory, bounds on texts. Each says its own conditions. -/
import Derived.Lib.Join
import Derived.WideShapes
import Derived.Lib.ItoaLen
import Derived.Lib.Replace
import Derived.Below
import Derived.Test.YtmkdiiocfnelaaaGreatDoorProg
import Derived.WalkKit
import Derived.Handy
import Derived.LoopTactic
import Derived.Lib.Hide
import Derived.Outline
import Derived.Deep.RegionWith
import Derived.Laws.AppendOwn
import Derived.Maps.AppendAt
import Derived.Carry
import Derived.Shelf.Strings.OnBuilder
import Derived.Shelf.Strconv.Itoa4
import Derived.Shelf.Strings.Replace
import Derived.Ground.NamesProg
import Derived.Lib.AppendIntMem
import Derived.Lib.Strings
set_option linter.unusedVariables false
set_option linter.unusedSimpArgs false
namespace Go.Pr
open Go
def roundT (s : ByteArray) (so : Bool) : ByteArray := if so then ({ data := #[40] } : ByteArray) ++ s ++ { data := #[41] } else s
def joinB (l : List ByteArray) (sep : ByteArray) : ByteArray := ⟨(Lib.join (l.map (·.data.toList)) sep.data.toList).toArray⟩
theorem size_append (a b : ByteArray) : (a ++ b).size = a.size + b.size := by simp
theorem round_size (s : ByteArray) (so : Bool) : (roundT s so).size ≤ s.size + 2 := by
  unfold roundT
  split
  · rw [size_append, size_append]
    show 1 + s.size + 1 ≤ _
    omega
  · omega
theorem joinB_size (l : List ByteArray) (sep : ByteArray) : (joinB l sep).size ≤ (l.map fun x => x.size + sep.size).sum := by
  unfold joinB
  show (Lib.join (l.map (·.data.toList)) sep.data.toList).toArray.size ≤ _
  rw [List.size_toArray]
  cases l with
  | nil => simp [Lib.join_nil]
  | cons x r =>
    rw [List.map_cons, Lib.join_length]
    have e : ∀ r : List ByteArray, sep.data.toList.length * (r.map (·.data.toList)).length + Lib.lens (r.map (·.data.toList)) = (r.map fun x => x.size + sep.size).sum := by
      intro r
      induction r with
      | nil => simp [Lib.lens]
      | cons y r ih =>
        simp only [List.map_cons, List.length_cons, Nat.mul_succ, Lib.lens, List.sum_cons] at ih ⊢
        rw [← ih]
        show _ + sep.data.size + (y.data.size + _) = y.data.size + sep.data.size + _
        simp only [Lib.lens, Array.length_toList]
        omega
    have := e r
    simp only [Lib.lens, List.map_cons, List.sum_cons] at this ⊢
    rw [← this]
    show _ + (x.data.size + _) ≤ x.data.size + sep.data.size + _
    omega
theorem bytes_of {a b : ByteArray} (h : a.data.toList = b.data.toList) : a = b := WideShapes.bytes_inj h
theorem append_list (a b : ByteArray) : (a ++ b).data.toList = a.data.toList ++ b.data.toList := by
  rw [ByteArray.data_append, Array.toList_append]
theorem joinB_list (l : List ByteArray) (sep : ByteArray) : (joinB l sep).data.toList = Lib.join (l.map (·.data.toList)) sep.data.toList := rfl
theorem joinB_zero {l : List ByteArray} (h : 0 < l.length) (sep : ByteArray) : joinB (l.take 1) sep = l[0] := by
  match l, h with
  | x :: r, _ =>
    apply bytes_of
    rw [joinB_list]
    show Lib.join [x.data.toList] _ = _
    rw [Lib.join_one]
    rfl
theorem joinB_succ {l : List ByteArray} {k : Nat} (hk : k < l.length) (h0 : 0 < k) (sep : ByteArray) : joinB (l.take (k + 1)) sep = joinB (l.take k) sep ++ sep ++ l[k] := by
  apply bytes_of
  rw [joinB_list, append_list, append_list, joinB_list]
  match l, k, hk, h0 with
  | x :: r, k + 1, hk, _ =>
    rw [List.take_succ_cons, List.take_succ_cons, List.map_cons, List.map_cons, Lib.join_cons, Lib.join_cons, List.map_take, List.map_take,
      Lib.joinTail_take_succ _ _ k (r[k]'(by simpa using hk)).data.toList (by rw [List.getElem?_map, List.getElem?_eq_getElem (by simpa using hk)]; rfl)]
    simp [List.append_assoc]
theorem joinB_takele (l : List ByteArray) (sep : ByteArray) (k : Nat) : (joinB (l.take k) sep).size ≤ (l.map fun x => x.size + sep.size).sum := by
  refine Nat.le_trans (joinB_size _ _) ?_
  have : l.map (fun x => x.size + sep.size) = (l.take k).map (fun x => x.size + sep.size) ++ (l.drop k).map (fun x => x.size + sep.size) := by rw [← List.map_append, List.take_append_drop]
  rw [this, List.sum_append]
  omega
theorem mem_le_sum {l : List Nat} {x : Nat} (h : x ∈ l) : x ≤ l.sum := by
  induction l with
  | nil => cases h
  | cons y r ih =>
    rw [List.sum_cons]
    rcases List.mem_cons.1 h with e | e
    · omega
    · have := ih e; omega
theorem sum_map_le {α : Type} {l : List α} {f g : α → Nat} (h : ∀ x ∈ l, f x ≤ g x) : (l.map f).sum ≤ (l.map g).sum := by
  induction l with
  | nil => simp
  | cons x l ih =>
    have h1 := h x (by simp)
    have h2 := ih fun y hy => h y (by simp [hy])
    simp only [List.map_cons, List.sum_cons]
    omega
theorem joinB_le {l : List ByteArray} {sep : ByteArray} {k : Nat} (h : sep.size ≤ k) : (joinB l sep).size ≤ (l.map fun x => x.size + k).sum :=
  Nat.le_trans (joinB_size l sep) (sum_map_le fun x _ => by omega)
end Go.Pr
namespace Go.Pr
open Go
def numS (n : Int) : ByteArray := if -9223372036854775808 ≤ n ∧ n ≤ 9223372036854775807 then ⟨(Lib.replace (Lib.itoa n) [45] [126] 1).toArray⟩ else { data := #[] }
theorem replaceK_le (k : Nat) (hk : k ≤ 1) (s : List UInt8) : (Lib.replaceK [45] [126] k s).length ≤ s.length + 1 := by
  match k, hk with
  | 0, _ => rw [Lib.replaceK]; omega
  | 1, _ =>
    rw [Lib.replaceK]
    split
    · omega
    · rw [Lib.replaceK]
      simp
      omega
theorem replace_le (s : List UInt8) : (Lib.replace s [45] [126] 1).length ≤ s.length + 1 := by
  unfold Lib.replace
  split
  · omega
  · refine replaceK_le _ ?_ s
    unfold Lib.replaceNum
    split
    · omega
    · decide
theorem numS_size (n : Int) : (numS n).size ≤ 32 := by
  unfold numS
  split
  · rename_i h
    show (Lib.replace (Lib.itoa n) [45] [126] 1).toArray.size ≤ 32
    rw [List.size_toArray]
    have h1 := replace_le (Lib.itoa n)
    have h2 := Lib.itoa_length_le n h.1 h.2
    omega
  · exact Nat.zero_le _
def quoteB (b : UInt8) : List UInt8 := if b = 10 then [92, 110] else if b = 34 ∨ b = 92 then [92, b] else [b]
def quoteS (s : ByteArray) : ByteArray := ⟨(([34] : List UInt8) ++ s.data.toList.flatMap quoteB ++ [34]).toArray⟩
theorem quoteB_le (b : UInt8) : (quoteB b).length ≤ 2 := by unfold quoteB; split; exact Nat.le_refl _; split <;> simp
theorem flat_le : ∀ l : List UInt8, (l.flatMap quoteB).length ≤ 2 * l.length
  | [] => by simp
  | b :: l => by
    have h1 := quoteB_le b
    have h2 := flat_le l
    simp only [List.flatMap_cons, List.length_append, List.length_cons]
    omega
theorem quoteS_size (s : ByteArray) : (quoteS s).size ≤ 2 * s.size + 2 := by
  unfold quoteS
  show (([34] : List UInt8) ++ s.data.toList.flatMap quoteB ++ [34]).toArray.size ≤ _
  rw [List.size_toArray]
  have := flat_le s.data.toList
  simp only [List.length_append, List.length_cons, List.length_nil, Array.length_toList] at this ⊢
  show _ ≤ 2 * s.data.size + 2
  omega
structure D where
  k : Int
  n : Nat
  t : ByteArray
  w : Nat
def wsum (l : List D) : Nat := (l.map (·.w)).sum
def bs (l : List UInt8) : ByteArray := ⟨l.toArray⟩
def emp : ByteArray := { data := #[] }
def sComma : ByteArray := { data := #[44, 32] }
def sStar : ByteArray := { data := #[32, 42, 32] }
def sArrow : ByteArray := { data := #[32, 45, 62, 32] }
def sBlank : ByteArray := { data := #[32] }
def sOpen : ByteArray := { data := #[40] }
def sClose : ByteArray := { data := #[41] }
def sShut : ByteArray := { data := #[41, 32] }
def sTick : ByteArray := { data := #[39, 116] }
def sSemi : ByteArray := { data := #[59, 32] }
def sBar : ByteArray := { data := #[32, 124, 32] }
def sFat : ByteArray := { data := #[32, 61, 62, 32] }
def sIs : ByteArray := { data := #[32, 61, 32] }
def sOf : ByteArray := { data := #[32, 111, 102, 32] }
def sUnit : ByteArray := { data := #[40, 41] }
def sAny : ByteArray := { data := #[95] }
def sFn : ByteArray := { data := #[102, 110, 32] }
def sLet : ByteArray := { data := #[108, 101, 116, 32] }
def sIn : ByteArray := { data := #[105, 110, 32] }
def sEnd : ByteArray := { data := #[32, 101, 110, 100] }
def sCase : ByteArray := { data := #[99, 97, 115, 101, 32] }
def sRaise : ByteArray := { data := #[114, 97, 105, 115, 101, 32] }
def sHandle : ByteArray := { data := #[32, 104, 97, 110, 100, 108, 101, 32] }
def sIf : ByteArray := { data := #[105, 102, 32] }
def sThen : ByteArray := { data := #[32, 116, 104, 101, 110, 32] }
def sElse : ByteArray := { data := #[32, 101, 108, 115, 101, 32] }
def sData : ByteArray := { data := #[100, 97, 116, 97, 116, 121, 112, 101, 32] }
def sExn : ByteArray := { data := #[101, 120, 99, 101, 112, 116, 105, 111, 110, 32] }
def sVal : ByteArray := { data := #[118, 97, 108, 32] }
def sFun : ByteArray := { data := #[102, 117, 110, 32] }
def sAnd : ByteArray := { data := #[32, 97, 110, 100, 32] }
def sRoot : ByteArray := { data := #[114, 111, 111, 116, 32] }
def sColon : ByteArray := { data := #[32, 58, 32] }
def sDo : ByteArray := { data := #[100, 111, 32] }
def sEnds : ByteArray := { data := #[59, 10] }
def txts (l : List D) : List ByteArray := l.map (·.t)
def loneD (d : D) : ByteArray := roundT d.t (decide (3 = d.k) || decide (4 = d.k))
def arrD (d : D) : ByteArray := roundT d.t (decide (3 = d.k)) ++ sArrow
def tyText (k : Int) (name : ByteArray) (num : Int) (l : List D) : ByteArray :=
  if k = 1 then (if name.size = 0 then sTick ++ numS num else name)
  else if k = 3 then (if l.length = 0 then emp else joinB (l.dropLast.map arrD) emp ++ (txts l).getLastD emp)
  else if k = 4 then joinB (l.map loneD) sStar
  else if k = 2 then
    (if l.length = 0 then name
    else if l.length = 1 then (l.map loneD).headD emp ++ sBlank ++ name
    else sOpen ++ joinB (txts l) sComma ++ sShut ++ name)
  else emp
def patArg (d : D) : ByteArray := sBlank ++ roundT d.t (decide (d.k = 6) && decide (0 < d.n))
def patText (k : Int) (name : ByteArray) (num : Int) (l : List D) : ByteArray :=
  if k = 1 then sAny else if k = 2 then name else if k = 3 then numS num else if k = 4 then sUnit
  else if k = 5 then sOpen ++ joinB (txts l) sComma ++ sClose
  else if k = 6 then name ++ joinB (l.map patArg) emp
  else emp
def isLoose (k : Int) : Bool := decide (7 = k) || decide (8 = k) || decide (9 = k) || decide (11 = k) || decide (12 = k) || decide (13 = k) || decide (15 = k)
def tightD (d : D) : ByteArray := roundT d.t (isLoose d.k)
def semiD (d : D) : ByteArray := d.t ++ sSemi
def endsD (d : D) : ByteArray := d.t ++ sEnds
def ifT : List ByteArray → ByteArray
  | [] => emp
  | [a] => sIf ++ a
  | [a, b] => sIf ++ a ++ (sThen ++ b)
  | a :: b :: c :: _ => sIf ++ a ++ (sThen ++ b) ++ (sElse ++ c)
def expText2 (k : Int) (name : ByteArray) (l rules decs : List D) : ByteArray :=
  if k = 10 then sLet ++ joinB (decs.map semiD) emp ++ sIn ++ joinB (txts l) sBlank ++ sEnd
  else if k = 11 then sCase ++ joinB (txts l) sBlank ++ sOf ++ joinB (txts rules) sBar
  else if k = 13 then sRaise ++ joinB (txts l) sBlank
  else if k = 12 then joinB (l.map tightD) sBlank ++ sHandle ++ joinB (txts rules) sBar
  else if k = 15 then (if l.length = 1 then name ++ (l.map tightD).headD emp else joinB (l.map tightD) (sBlank ++ name ++ sBlank))
  else if k = 8 then joinB (l.map tightD) sBlank
  else emp
def expText (k : Int) (name : ByteArray) (num : Int) (text : ByteArray) (l rules decs : List D) : ByteArray :=
  if k = 1 ∨ k = 2 then name
  else if k = 3 then numS num
  else if k = 4 then quoteS text
  else if k = 5 then sUnit
  else if k = 6 then sOpen ++ joinB (txts l) sComma ++ sClose
  else if k = 14 then sOpen ++ joinB (txts l) sSemi ++ sClose
  else if k = 7 then sFn ++ name ++ sFat ++ joinB (txts l) sBlank
  else if k = 9 then ifT (txts l)
  else expText2 k name l rules decs
def ruleText (p e : D) : ByteArray := p.t ++ sFat ++ tightD e
def conText (name : ByteArray) (has : Bool) (t : D) : ByteArray := if has then name ++ sOf ++ t.t else name
def funText (name : ByteArray) (args : List ByteArray) (e : D) : ByteArray := joinB (name :: args) sBlank ++ sIs ++ e.t
def varsT (l : List ByteArray) : ByteArray := if l.length = 0 then emp else roundT (joinB l sComma) (decide (1 < l.length)) ++ sBlank
def decText (k : Int) (name : ByteArray) (vars : List ByteArray) (cons funs : List D) (ty e : D) : ByteArray :=
  if k = 1 then sData ++ varsT vars ++ name ++ sIs ++ joinB (txts cons) sBar
  else if k = 2 then sExn ++ joinB (txts cons) sBar
  else if k = 3 then sVal ++ name ++ sIs ++ e.t
  else if k = 4 then sFun ++ joinB (txts funs) sAnd
  else if k = 5 then sRoot ++ name ++ sColon ++ ty.t ++ sIs ++ e.t
  else if k = 6 then sDo ++ e.t
  else emp
inductive Nd where | ty | pat | exp | rule | con | fn | dec
def Cells (W : World) (b o : Nat) (vs : List Value) : Prop := ∀ j v, vs[j]? = some v → W.cell? ⟨b, o + j, none⟩ = some v
def RowC (W : World) (k : Nat) (s : Value) (n : Nat) (vf : Nat → List Value) : Prop :=
  ∃ a c, s = .slice a n c ∧ n ≤ c ∧ (0 < n → ∃ b o, a = some ⟨b, o, none⟩ ∧ ∀ i, i < n → Cells W b (o + i * k) (vf i))
def i64 (n : Int) : Prop := -9223372036854775808 ≤ n ∧ n ≤ 9223372036854775807
inductive S (W : World) : Nd → D → List Value → Prop
  | ty {k : Int} {name : ByteArray} {num : Int} {s : Value} {l : List D} {vf : Nat → List Value} : i64 num → RowC W 4 s l.length vf → (∀ i x, l[i]? = some x → S W .ty x (vf i)) →
      S W .ty ⟨k, l.length, tyText k name num l, 1 + name.size + wsum l⟩ [.int .u8 k, .string name, .int .i64 num, s]
  | pat {k : Int} {name : ByteArray} {num : Int} {s : Value} {l : List D} {vf : Nat → List Value} : i64 num → RowC W 4 s l.length vf → (∀ i x, l[i]? = some x → S W .pat x (vf i)) →
      S W .pat ⟨k, l.length, patText k name num l, 1 + name.size + wsum l⟩ [.int .u8 k, .string name, .int .i64 num, s]
  | exp {k : Int} {name : ByteArray} {num : Int} {text : ByteArray} {s sr sd : Value} {l lr ld : List D} {vf vr vd : Nat → List Value} : i64 num → RowC W 7 s l.length vf → RowC W 11 sr lr.length vr → RowC W 16 sd ld.length vd →
      (∀ i x, l[i]? = some x → S W .exp x (vf i)) → (∀ i x, lr[i]? = some x → S W .rule x (vr i)) → (∀ i x, ld[i]? = some x → S W .dec x (vd i)) →
      S W .exp ⟨k, l.length, expText k name num text l lr ld, 1 + name.size + text.size + wsum l + wsum lr + wsum ld⟩ [.int .u8 k, .string name, .int .i64 num, .string text, s, sr, sd]
  | rule {p e : D} {vp ve : List Value} : S W .pat p vp → S W .exp e ve → S W .rule ⟨0, 0, ruleText p e, 1 + p.w + e.w⟩ (vp ++ ve)
  | con {name : ByteArray} {has : Bool} {t : D} {vt : List Value} : S W .ty t vt → S W .con ⟨0, 0, conText name has t, 1 + name.size + t.w⟩ (.string name :: .bool has :: vt)
  | fn {name : ByteArray} {args : List ByteArray} {sa : Value} {e : D} {ve : List Value} : RowC W 1 sa args.length (fun i => [.string (args.getD i emp)]) → S W .exp e ve →
      S W .fn ⟨0, 0, funText name args e, 1 + name.size + (args.map fun x => 1 + x.size).sum + e.w⟩ (.string name :: sa :: ve)
  | dec {k : Int} {name : ByteArray} {vars : List ByteArray} {sv sc sf : Value} {lc lf : List D} {vc vf : Nat → List Value} {t e : D} {vt ve : List Value} :
      RowC W 1 sv vars.length (fun i => [.string (vars.getD i emp)]) → RowC W 6 sc lc.length vc → RowC W 9 sf lf.length vf → (∀ i x, lc[i]? = some x → S W .con x (vc i)) → (∀ i x, lf[i]? = some x → S W .fn x (vf i)) → S W .ty t vt → S W .exp e ve →
      S W .dec ⟨k, 0, decText k name vars lc lf t e, 1 + name.size + (vars.map fun x => 1 + x.size).sum + wsum lc + wsum lf + t.w + e.w⟩ (.int .u8 k :: .string name :: sv :: sc :: sf :: (vt ++ ve))
end Go.Pr
namespace Go.Pr
open Go
def F (x : Nat) : Nat := 64 * x + x * x
theorem F_add (a b : Nat) : F (a + b) = F a + F b + 2 * (a * b) := by
  unfold F
  rw [Nat.mul_add, Nat.add_mul, Nat.mul_add, Nat.mul_add, Nat.mul_comm b a]
  omega
theorem F_le {a b : Nat} (h : a ≤ b) : F a ≤ F b := by
  obtain ⟨c, rfl⟩ : ∃ c, b = a + c := ⟨b - a, by omega⟩
  rw [F_add]; omega
theorem F_lin (a : Nat) : 64 * a ≤ F a := by unfold F; omega
def Fit (d : D) : Prop := 1 ≤ d.w ∧ d.t.size + 16 ≤ F d.w
def Fits (l : List D) : Prop := ∀ x ∈ l, Fit x
theorem wsum_cons (x : D) (l : List D) : wsum (x :: l) = x.w + wsum l := by simp [wsum]
theorem sum_fit {g : D → Nat} : ∀ {l : List D}, Fits l → (∀ x ∈ l, g x ≤ x.t.size + 16) → (l.map g).sum ≤ F (wsum l)
  | [], _, _ => by simp [wsum]
  | x :: l, h, hg => by
    have h1 := h x (by simp)
    have h2 := sum_fit (l := l) (fun y hy => h y (by simp [hy])) fun y hy => hg y (by simp [hy])
    have h3 := hg x (by simp)
    rw [wsum_cons, F_add, List.map_cons, List.sum_cons]
    have := h1.2
    omega
theorem len_le : ∀ {l : List D}, Fits l → l.length ≤ wsum l
  | [], _ => by simp
  | x :: l, h => by
    have h1 := (h x (by simp)).1
    have h2 := len_le (l := l) fun y hy => h y (by simp [hy])
    rw [wsum_cons, List.length_cons]; omega
theorem join_fit {g : D → ByteArray} {sep : ByteArray} {l : List D} (h : Fits l) (hg : ∀ x ∈ l, (g x).size + sep.size ≤ x.t.size + 16) : (joinB (l.map g) sep).size ≤ F (wsum l) := by
  refine Nat.le_trans (joinB_size _ _) ?_
  rw [List.map_map]
  exact sum_fit h hg
theorem mem_fit {l : List D} (h : Fits l) {x : D} (hx : x ∈ l) : x.t.size + 16 ≤ F (wsum l) := by
  have h1 := sum_fit (g := fun x => x.t.size + 16) h fun _ _ => Nat.le_refl _
  have h2 : x.t.size + 16 ≤ (l.map fun x => x.t.size + 16).sum := mem_le_sum (List.mem_map.2 ⟨x, hx, rfl⟩)
  omega
theorem lone_le (d : D) : (loneD d).size ≤ d.t.size + 2 := round_size _ _
theorem tight_le (d : D) : (tightD d).size ≤ d.t.size + 2 := round_size _ _
theorem size_emp : emp.size = 0 := rfl
theorem head_le {l : List D} (h : Fits l) {g : D → ByteArray} (hg : ∀ x ∈ l, (g x).size ≤ x.t.size + 16) : ((l.map g).headD emp).size ≤ F (wsum l) := by
  cases l with
  | nil => exact Nat.zero_le _
  | cons x r =>
    have h1 := mem_fit h (x := x) (by simp)
    have h2 := hg x (by simp)
    show (g x).size ≤ _
    omega
theorem last_le : ∀ {l : List D}, Fits l → l ≠ [] → (l.dropLast.map fun x => x.t.size + 16).sum + ((txts l).getLastD emp).size + 16 ≤ F (wsum l)
  | [], _, h => absurd rfl h
  | [x], h, _ => by
    have := (h x (by simp)).2
    have e : wsum [x] = x.w := by simp [wsum]
    rw [e]
    show 0 + x.t.size + 16 ≤ F x.w
    omega
  | x :: y :: r, h, _ => by
    have h1 := h x (by simp)
    have h2 := last_le (l := y :: r) (fun z hz => h z (by simp at hz ⊢; exact .inr hz)) (by simp)
    rw [wsum_cons, F_add]
    have e : (txts (x :: y :: r)).getLastD emp = (txts (y :: r)).getLastD emp := by simp [txts, List.getLastD]
    rw [e]
    simp only [List.dropLast_cons_cons, List.map_cons, List.sum_cons] at h2 ⊢
    have := h1.2
    omega
theorem fit_tyText {k : Int} {name : ByteArray} {num : Int} {l : List D} (h : Fits l) : (tyText k name num l).size + 16 ≤ F (1 + name.size + wsum l) := by
  have e : F (1 + name.size + wsum l) = F (1 + name.size) + F (wsum l) + 2 * ((1 + name.size) * wsum l) := F_add _ _
  have e1 := F_lin (1 + name.size)
  have hn := numS_size num
  unfold tyText
  split
  · split
    · rw [size_append]
      show 2 + _ + 16 ≤ _
      omega
    · omega
  · split
    · split
      · rw [size_emp]; omega
      · rename_i h0
        rw [size_append]
        have h1 := last_le h (by intro e; simp [e] at h0)
        have h2 : (joinB (l.dropLast.map arrD) emp).size ≤ (l.dropLast.map fun x => x.t.size + 16).sum := by
          refine Nat.le_trans (joinB_size _ _) ?_
          rw [List.map_map]
          refine sum_map_le fun x _ => ?_
          have := round_size x.t (decide (3 = x.k))
          show (roundT x.t (decide (3 = x.k)) ++ sArrow).size + 0 ≤ _
          rw [size_append]
          show _ + 4 + 0 ≤ _
          omega
        omega
    · split
      · have := join_fit (g := loneD) (sep := sStar) h fun x _ => by
          have := lone_le x
          show _ + 3 ≤ _
          omega
        omega
      · split
        · split
          · omega
          · split
            · have := head_le (g := loneD) h fun x _ => by have := lone_le x; omega
              rw [size_append, size_append]
              show _ + 1 + _ + 16 ≤ _
              omega
            · have := join_fit (g := (·.t)) (sep := sComma) h fun x _ => by show _ + 2 ≤ _; omega
              rw [size_append, size_append, size_append]
              show 1 + (joinB (l.map (·.t)) sComma).size + 2 + _ + 16 ≤ _
              omega
        · rw [size_emp]; omega
theorem fit_patText {k : Int} {name : ByteArray} {num : Int} {l : List D} (h : Fits l) : (patText k name num l).size + 16 ≤ F (1 + name.size + wsum l) := by
  have e : F (1 + name.size + wsum l) = F (1 + name.size) + F (wsum l) + 2 * ((1 + name.size) * wsum l) := F_add _ _
  have e1 := F_lin (1 + name.size)
  have hn := numS_size num
  unfold patText
  split
  · show 1 + 16 ≤ _; omega
  split
  · omega
  split
  · omega
  split
  · show 2 + 16 ≤ _; omega
  split
  · have := join_fit (g := (·.t)) (sep := sComma) h fun x _ => by show _ + 2 ≤ _; omega
    rw [size_append, size_append]
    show 1 + (joinB (l.map (·.t)) sComma).size + 1 + 16 ≤ _
    omega
  split
  · have := join_fit (g := patArg) (sep := emp) h fun x _ => by
      have := round_size x.t (decide (x.k = 6) && decide (0 < x.n))
      show (sBlank ++ roundT x.t (decide (x.k = 6) && decide (0 < x.n))).size + 0 ≤ _
      rw [size_append]
      show 1 + _ + 0 ≤ _
      omega
    rw [size_append]
    omega
  · rw [size_emp]; omega
theorem ifT_le : ∀ (l : List ByteArray), (ifT l).size ≤ (l.map fun x => x.size + 16).sum
  | [] => by show 0 ≤ _; omega
  | [a] => by
    simp only [ifT, size_append, List.map_cons, List.sum_cons, List.map_nil, List.sum_nil]
    show 3 + _ ≤ _
    omega
  | [a, b] => by
    simp only [ifT, size_append, List.map_cons, List.sum_cons, List.map_nil, List.sum_nil]
    show 3 + _ + (6 + _) ≤ _
    omega
  | a :: b :: c :: r => by
    simp only [ifT, size_append, List.map_cons, List.sum_cons]
    show 3 + _ + (6 + _) + (6 + _) ≤ _
    omega
theorem fit_expText {k : Int} {name : ByteArray} {num : Int} {text : ByteArray} {l lr ld : List D} (h : Fits l) (hr : Fits lr) (hd : Fits ld) : (expText k name num text l lr ld).size + 16 ≤ F (1 + name.size + text.size + wsum l + wsum lr + wsum ld) := by
  have e : F (1 + name.size + text.size + wsum l + wsum lr + wsum ld) = F (1 + name.size + text.size + wsum l) + F (wsum lr) + 2 * ((1 + name.size + text.size + wsum l) * wsum lr) + F (wsum ld) + 2 * ((1 + name.size + text.size + wsum l + wsum lr) * wsum ld) := by rw [F_add, F_add]
  have e0 : F (1 + name.size + text.size + wsum l) = F (1 + name.size + text.size) + F (wsum l) + 2 * ((1 + name.size + text.size) * wsum l) := F_add _ _
  have e1 := F_lin (1 + name.size + text.size)
  have hn := numS_size num
  have hq := quoteS_size text
  have jk : ∀ sep : ByteArray, sep.size ≤ 16 → (joinB (txts l) sep).size ≤ F (wsum l) := fun sep hs => join_fit (g := (·.t)) h fun x _ => by omega
  have jr : ∀ sep : ByteArray, sep.size ≤ 16 → (joinB (txts lr) sep).size ≤ F (wsum lr) := fun sep hs => join_fit (g := (·.t)) hr fun x _ => by omega
  have jt : (joinB (l.map tightD) sBlank).size ≤ F (wsum l) := join_fit h fun x _ => by have := tight_le x; show _ + 1 ≤ _; omega
  unfold expText
  split
  · omega
  split
  · omega
  split
  · omega
  split
  · show 2 + 16 ≤ _; omega
  split
  · have := jk sComma (by decide)
    rw [size_append, size_append]
    show 1 + _ + 1 + 16 ≤ _
    omega
  split
  · have := jk sSemi (by decide)
    rw [size_append, size_append]
    show 1 + _ + 1 + 16 ≤ _
    omega
  split
  · have := jk sBlank (by decide)
    rw [size_append, size_append, size_append]
    show 3 + _ + 4 + _ + 16 ≤ _
    omega
  split
  · have h1 := ifT_le (txts l)
    have h2 := sum_fit (g := fun x => x.t.size + 16) h fun _ _ => Nat.le_refl _
    have h3 : ((txts l).map fun x => x.size + 16).sum = (l.map fun x => x.t.size + 16).sum := by unfold txts; rw [List.map_map]; rfl
    omega
  unfold expText2
  split
  · have h1 := jk sBlank (by decide)
    have h2 := join_fit (g := semiD) (sep := emp) hd fun x _ => by
      show (x.t ++ sSemi).size + 0 ≤ _
      rw [size_append]
      show _ + 2 + 0 ≤ _
      omega
    rw [size_append, size_append, size_append, size_append]
    show 4 + _ + 3 + _ + 4 + 16 ≤ _
    omega
  split
  · have h1 := jk sBlank (by decide)
    have h2 := jr sBar (by decide)
    rw [size_append, size_append, size_append]
    show 5 + _ + 4 + _ + 16 ≤ _
    omega
  split
  · have h1 := jk sBlank (by decide)
    rw [size_append]
    show 6 + _ + 16 ≤ _
    omega
  split
  · have h2 := jr sBar (by decide)
    rw [size_append, size_append]
    show _ + 8 + _ + 16 ≤ _
    omega
  split
  · split
    · have := head_le (g := tightD) h fun x _ => by have := tight_le x; omega
      rw [size_append]
      omega
    · have h1 := joinB_size (l.map tightD) (sBlank ++ name ++ sBlank)
      rw [List.map_map] at h1
      have h2 : (l.map ((fun x : ByteArray => x.size + (sBlank ++ name ++ sBlank).size) ∘ tightD)).sum ≤ F (wsum l) + l.length * name.size := by
        have h3 : ∀ (l : List D), (l.map ((fun x : ByteArray => x.size + (sBlank ++ name ++ sBlank).size) ∘ tightD)).sum = (l.map fun x => (tightD x).size + 2).sum + l.length * name.size := by
          intro l
          induction l with
          | nil => simp
          | cons x r ih =>
            rw [List.map_cons, List.sum_cons, ih, List.map_cons, List.sum_cons, List.length_cons, Nat.add_mul, Nat.one_mul]
            show (tightD x).size + (sBlank ++ name ++ sBlank).size + _ = _
            rw [size_append, size_append]
            show _ + (1 + _ + 1) + _ = _
            omega
        rw [h3]
        have := sum_fit (g := fun x => (tightD x).size + 2) h fun x _ => by have := tight_le x; omega
        omega
      have h4 : l.length * name.size ≤ (1 + name.size + text.size) * wsum l := by
        rw [Nat.mul_comm]
        exact Nat.mul_le_mul (by omega) (len_le h)
      omega
  split
  · omega
  · rw [size_emp]; omega
theorem args_le (l : List ByteArray) (sep : ByteArray) (hs : sep.size ≤ 2) : (joinB l sep).size ≤ 3 * (l.map fun x => 1 + x.size).sum := by
  refine Nat.le_trans (joinB_size _ _) ?_
  induction l with
  | nil => simp
  | cons x r ih =>
    simp only [List.map_cons, List.sum_cons]
    omega
theorem S_fit {W : World} {nd : Nd} {d : D} {vs : List Value} (h : S W nd d vs) : Fit d := by
  have mem : ∀ {l : List D}, (∀ (i : Nat) (x : D), l[i]? = some x → Fit x) → Fits l := fun h x hx => by
    obtain ⟨i, hi, rfl⟩ := List.getElem_of_mem hx
    exact h i _ (List.getElem?_eq_getElem hi)
  induction h with
  | ty _ _ _ ih => exact ⟨by simp only; omega, fit_tyText (mem ih)⟩
  | pat _ _ _ ih => exact ⟨by simp only; omega, fit_patText (mem ih)⟩
  | exp _ _ _ _ _ _ _ ih ihr ihd => exact ⟨by simp only; omega, fit_expText (mem ih) (mem ihr) (mem ihd)⟩
  | rule _ _ ihp ihe =>
    rename_i p e vp ve _ _
    refine ⟨by simp only; omega, ?_⟩
    have h1 := ihp.2
    have h2 := ihe.2
    have h3 := tight_le e
    show (p.t ++ sFat ++ tightD e).size + 16 ≤ F (1 + p.w + e.w)
    rw [F_add, F_add, size_append, size_append]
    have := F_lin 1
    show _ + 4 + _ + 16 ≤ _
    omega
  | con _ iht =>
    rename_i name has t vt _
    refine ⟨by simp only; omega, ?_⟩
    have h1 := iht.2
    have h2 := F_lin (1 + name.size)
    show (conText name has t).size + 16 ≤ F (1 + name.size + t.w)
    rw [F_add]
    unfold conText
    split
    · rw [size_append, size_append]
      show _ + 4 + _ + 16 ≤ _
      omega
    · omega
  | fn _ _ ihe =>
    rename_i name args sa e ve _ _
    refine ⟨by simp only; omega, ?_⟩
    have h1 := ihe.2
    have h2 := F_lin (1 + name.size + (args.map fun x => 1 + x.size).sum)
    have h3 := args_le (name :: args) sBlank (by decide)
    rw [List.map_cons, List.sum_cons] at h3
    show (joinB (name :: args) sBlank ++ sIs ++ e.t).size + 16 ≤ F (1 + name.size + (args.map fun x => 1 + x.size).sum + e.w)
    rw [F_add, size_append, size_append]
    show _ + 3 + _ + 16 ≤ _
    omega
  | dec _ _ _ _ _ _ _ ihc ihf iht ihe =>
    rename_i k name vars sv sc sf lc lf vc vf t e vt ve _ _ _ _ _ _ _
    refine ⟨by simp only; omega, ?_⟩
    have hc := mem ihc
    have hf := mem ihf
    have h1 := iht.2
    have h2 := ihe.2
    have h3 := F_lin (1 + name.size + (vars.map fun x => 1 + x.size).sum)
    have h4 := args_le vars sComma (by decide)
    have jc := join_fit (g := (·.t)) (sep := sBar) hc fun x _ => by show _ + 3 ≤ _; omega
    have jf := join_fit (g := (·.t)) (sep := sAnd) hf fun x _ => by show _ + 5 ≤ _; omega
    have hv : (varsT vars).size ≤ (joinB vars sComma).size + 3 := by
      unfold varsT
      split
      · rw [size_emp]; omega
      · have := round_size (joinB vars sComma) (decide (1 < vars.length))
        rw [size_append]
        show _ + 1 ≤ _
        omega
    show (decText k name vars lc lf t e).size + 16 ≤ F (1 + name.size + (vars.map fun x => 1 + x.size).sum + wsum lc + wsum lf + t.w + e.w)
    rw [F_add, F_add, F_add, F_add]
    unfold decText
    split
    · rw [size_append, size_append, size_append, size_append]
      show 9 + _ + _ + 3 + (joinB (lc.map (·.t)) sBar).size + 16 ≤ _
      omega
    split
    · rw [size_append]
      show 10 + (joinB (lc.map (·.t)) sBar).size + 16 ≤ _
      omega
    split
    · rw [size_append, size_append, size_append]
      show 4 + _ + 3 + _ + 16 ≤ _
      omega
    split
    · rw [size_append]
      show 4 + (joinB (lf.map (·.t)) sAnd).size + 16 ≤ _
      omega
    split
    · rw [size_append, size_append, size_append, size_append, size_append]
      show 5 + _ + 3 + _ + 3 + _ + 16 ≤ _
      omega
    split
    · rw [size_append]
      show 3 + _ + 16 ≤ _
      omega
    · rw [size_emp]; omega
end Go.Pr
set_option maxRecDepth 100000
set_option maxHeartbeats 4000000
namespace Go.Pr
open Go Go.RowKit Go.Proofs
theorem cell_lt {w : World} {b o : Nat} {v : Value} (h : w.cell? ⟨b, o, none⟩ = some v) : b < w.heap.size := by
  rcases Nat.lt_or_ge b w.heap.size with h' | h'
  · exact h'
  · have : w.heap[b]? = none := Array.getElem?_eq_none h'
    simp [World.cell?, this] at h
theorem Cells.below {W W' : World} {b o : Nat} {vs : List Value} (h : Cells W b o vs) (hb : Below W.heap.size W W') : Cells W' b o vs := fun j v hj => by
  have := h j v hj
  rw [hb.cell (by exact cell_lt this)]; exact this
theorem ownsRow_below {w w' : World} {base e size n : Nat} {v : Value} {xs : List Value} (h : w.ownsRow base e size v n xs) (hb : Below w.heap.size w w') : w'.ownsRow base e size v n xs := by
  refine ⟨h.1, ?_⟩
  rcases h.2 with h | ⟨g, cap, cur, h1, h2, h3, h4⟩
  · exact .inl h
  · exact .inr ⟨g, cap, cur, h1, h2, (hb.block g (Array.getElem?_eq_some_iff.1 h3).1).trans h3, h4⟩
theorem round_ok (s : ByteArray) (so : Bool) (w : World) (hs : s.size ≤ 17592186044416) : Calls Tryz.prog 27 #[.string s, .bool so] w fun e w' => e = .returned (.string (roundT s so)) ∧ w' = w := by
  cases so with
  | true =>
    go_enter Tryz.func27, Tryz.ntmps27
    go_wp2
    go_ret
    exact ⟨rfl, rfl⟩
  | false =>
    go_enter Tryz.func27, Tryz.ntmps27
    go_wp2
    go_ret
    exact ⟨rfl, rfl⟩
def inB (k : Int) (ks : List Int) : Bool := ks.any fun x => decide (x = k)
theorem in_ok (k : Int) (ks : List Int) (b c : Nat) (w : World) (h : ∀ i x, ks[i]? = some x → w.cell? ⟨b, i, none⟩ = some (.int .u8 x)) (hl : ks.length ≤ 100) :
    Calls Tryz.prog 37 #[.int .u8 k, .slice (some ⟨b, 0, none⟩) ks.length c] w fun e w' => e = .returned (.bool (inB k ks)) ∧ w' = w := by
  have HH := Lib.hid h
  clear h
  go_enter Tryz.func37, Tryz.ntmps37
  go_wp2
  go_loop [9] (fun i => ∃ j : Nat, j ≤ ks.length ∧ i = .int .i64 j ∧ Hid (∀ m, m < j → ∀ x, ks[m]? = some x → x ≠ k)) (fun i => ks.length - (intOf i).toNat)
  case atStart => exact ⟨0, Nat.zero_le _, rfl, Lib.hid fun m hm => absurd hm (Nat.not_lt_zero _)⟩
  case round =>
    obtain ⟨j, hj, rfl, hbef⟩ := hrel
    by_cases hlt : j < ks.length
    · have hx : ks[j]? = some ks[j] := List.getElem?_eq_getElem hlt
      have cj := HH.out j _ hx
      by_cases he : ks[j] = k
      · have e1 : (ks[j] == k) = true := by simpa using he
        have hin : Hid (inB k ks = true) := Lib.hid (List.any_eq_true.2 ⟨ks[j], List.getElem_mem hlt, by simpa using he⟩)
        go_wp2
        go_ret
        exact ⟨by rw [hin.out]; rfl, rfl⟩
      · have e1 : (ks[j] == k) = false := by simpa using he
        have HN : Hid (∀ m, m < j + 1 → ∀ x, ks[m]? = some x → x ≠ k) := Lib.hid fun m hm x hx' => by
          by_cases em : m = j
          · subst em; rw [hx] at hx'; cases hx'; exact he
          · exact hbef.out m (by omega) x hx'
        clear he
        go_wp2
        go_round
        case rel => exact ⟨j + 1, by omega, by simp, HN⟩
        case measure => simp [intOf]; omega
    · obtain rfl : j = ks.length := by omega
      have hin : Hid (inB k ks = false) := Lib.hid (by
        unfold inB
        rw [List.any_eq_false]
        intro x hx
        obtain ⟨m, hm, rfl⟩ := List.getElem_of_mem hx
        simpa using hbef.out m hm _ (List.getElem?_eq_getElem hm))
      go_wp2
      go_ret
      exact ⟨by rw [hin.out]; rfl, rfl⟩
def OutV (W wr : World) (out : Value) (xs : List ByteArray) : Prop := wr.ownsRow W.heap.size 9 1 out xs.length (xs.map Value.string) ∧ Below W.heap.size W wr
theorem OutV.below {W wr w' : World} {out : Value} {xs : List ByteArray} (h : OutV W wr out xs) (hb : Below wr.heap.size wr w') : OutV W w' out xs :=
  ⟨ownsRow_below h.1 hb, h.2.trans (hb.mono h.2.size)⟩
theorem OutV.grown {W wr w' : World} {out v' : Value} {xs : List ByteArray} {x : ByteArray} (h : OutV W wr out xs) (ho : w'.ownsRow W.heap.size 9 1 v' (xs.length + 1) (xs.map Value.string ++ [.string x])) (hg : wr.grownBy w' out.ownBlock) : OutV W w' v' (xs ++ [x]) :=
  ⟨by simpa using ho, h.2.grown hg h.2.size fun k hk => by
    rcases h.1.2 with ⟨h', _⟩ | ⟨g, cap, cur, h1, h2, _⟩
    · subst h'; cases hk
    · subst h1; simp [Value.ownBlock] at hk; subst hk; exact h2⟩
theorem i9 : (Tryz.prog.info? 9).map (fun i => (i.size, i.bytes, i.zero)) = some (1, 16, some (.string { data := #[] })) := by kernel_rfl
theorem str_one (x : ByteArray) : ∀ u ∈ [Value.string x], u.oneCell' = true := by simp [Value.oneCell']
end Go.Pr
namespace Go.Proofs
open Go.Shelf
def Tryz.laysJoin_ren : Go.Shelf.Ren := ⟨fun | 156 => 26 | 165 => 51 | 166 => 52 | 169 => 53 | 240 => 85 | 241 => 86 | 276 => 115 | 277 => 116 | n => n, fun | 31 => 25 | 9 => 9 | 3 => 3 | 4 => 4 | 0 => 0 | 20 => 20 | 72 => 97 | 76 => 101 | 70 => 95 | 37 => 65 | 75 => 100 | 127 => 127 | 164 => 163 | 5 => 5 | 80 => 103 | n => n, fun | n => n⟩
theorem Tryz.laysJoin : Go.Proofs.Lays.n156 Tryz.prog Tryz.laysJoin_ren := {
  mixed := by kernel_rfl
  f156 := Tryz.func26.trans (congrArg some (by kernel_rfl))
  f165 := Tryz.func51.trans (congrArg some (by kernel_rfl))
  f166 := Tryz.func52.trans (congrArg some (by kernel_rfl))
  f169 := Tryz.func53.trans (congrArg some (by kernel_rfl))
  f240 := Tryz.func85.trans (congrArg some (by kernel_rfl))
  f241 := Tryz.func86.trans (congrArg some (by kernel_rfl))
  f276 := Tryz.func115.trans (congrArg some (by kernel_rfl))
  f277 := Tryz.func116.trans (congrArg some (by kernel_rfl))
  t0 := Tryz.underlying0
  a0 := Tryz.isAgg0
  z0 := Tryz.sizeOf0
  v0 := Tryz.zeroValue0
  t3 := Tryz.underlying3
  a3 := Tryz.isAgg3
  z3 := Tryz.sizeOf3
  v3 := Tryz.zeroValue3
  t4 := Tryz.underlying4
  a4 := Tryz.isAgg4
  z4 := Tryz.sizeOf4
  v4 := Tryz.zeroValue4
  t9 := Tryz.underlying9
  a9 := Tryz.isAgg9
  z9 := Tryz.sizeOf9
  v9 := Tryz.zeroValue9
  t20 := Tryz.underlying20
  a20 := Tryz.isAgg20
  z20 := Tryz.sizeOf20
  v20 := Tryz.zeroValue20
  t31 := Tryz.underlying25
  a31 := Tryz.isAgg25
  z31 := Tryz.sizeOf25
  v31 := Tryz.zeroValue25
  t37 := Tryz.underlying65
  a37 := Tryz.isAgg65
  z37 := Tryz.sizeOf65
  v37 := Tryz.zeroValue65
  t70 := Tryz.underlying95
  a70 := Tryz.isAgg95
  z70 := Tryz.sizeOf95
  v70 := Tryz.zeroValue95
  t72 := Tryz.underlying97
  a72 := Tryz.isAgg97
  z72 := Tryz.sizeOf97
  v72 := Tryz.zeroValue97
  t75 := Tryz.underlying100
  a75 := Tryz.isAgg100
  z75 := Tryz.sizeOf100
  v75 := Tryz.zeroValue100
  t76 := Tryz.underlying101
  a76 := Tryz.isAgg101
  z76 := Tryz.sizeOf101
  v76 := Tryz.zeroValue101
  t127 := Tryz.underlying127
  a127 := Tryz.isAgg127
  z127 := Tryz.sizeOf127
  v127 := Tryz.zeroValue127
  t164 := Tryz.underlying163
  a164 := Tryz.isAgg163
  z164 := Tryz.sizeOf163
  v164 := Tryz.zeroValue163 }
def Tryz.laysNum_ren : Go.Shelf.Ren := ⟨fun | 173 => 54 | 246 => 87 | 283 => 117 | 284 => 118 | 285 => 119 | 286 => 120 | 129 => 142 | 317 => 141 | 318 => 143 | 319 => 144 | 320 => 145 | 337 => 161 | 338 => 162 | n => n, fun | 2 => 2 | 3 => 3 | 9 => 9 | 4 => 4 | 171 => 167 | 0 => 0 | 53 => 112 | 37 => 65 | 5 => 5 | 173 => 170 | 212 => 188 | 51 => 133 | 20 => 20 | 213 => 189 | 46 => 191 | 232 => 230 | 233 => 231 | n => n, fun | 17 => 4 | 18 => 7 | 19 => 8 | n => n⟩
theorem Tryz.laysNum : Go.Proofs.LaysM.n173 Tryz.prog Tryz.laysNum_ren := {
  mixed := by kernel_rfl
  f129 := Tryz.func142.trans (congrArg some (by kernel_rfl))
  f173 := Tryz.func54.trans (congrArg some (by kernel_rfl))
  f246 := Tryz.func87.trans (congrArg some (by kernel_rfl))
  f283 := Tryz.func117.trans (congrArg some (by kernel_rfl))
  f284 := Tryz.func118.trans (congrArg some (by kernel_rfl))
  f285 := Tryz.func119.trans (congrArg some (by kernel_rfl))
  f286 := Tryz.func120.trans (congrArg some (by kernel_rfl))
  f317 := Tryz.func141.trans (congrArg some (by kernel_rfl))
  f318 := Tryz.func143.trans (congrArg some (by kernel_rfl))
  f319 := Tryz.func144.trans (congrArg some (by kernel_rfl))
  f320 := Tryz.func145.trans (congrArg some (by kernel_rfl))
  f337 := Tryz.func161.trans (congrArg some (by kernel_rfl))
  f338 := Tryz.func162.trans (congrArg some (by kernel_rfl))
  t0 := Tryz.underlying0
  a0 := Tryz.isAgg0
  z0 := Tryz.sizeOf0
  v0 := Tryz.zeroValue0
  t2 := Tryz.underlying2
  a2 := Tryz.isAgg2
  z2 := Tryz.sizeOf2
  v2 := Tryz.zeroValue2
  t3 := Tryz.underlying3
  a3 := Tryz.isAgg3
  z3 := Tryz.sizeOf3
  v3 := Tryz.zeroValue3
  t4 := Tryz.underlying4
  a4 := Tryz.isAgg4
  z4 := Tryz.sizeOf4
  v4 := Tryz.zeroValue4
  t5 := Tryz.underlying5
  a5 := Tryz.isAgg5
  z5 := Tryz.sizeOf5
  v5 := Tryz.zeroValue5
  t9 := Tryz.underlying9
  a9 := Tryz.isAgg9
  z9 := Tryz.sizeOf9
  v9 := Tryz.zeroValue9
  t20 := Tryz.underlying20
  a20 := Tryz.isAgg20
  z20 := Tryz.sizeOf20
  v20 := Tryz.zeroValue20
  t37 := Tryz.underlying65
  a37 := Tryz.isAgg65
  z37 := Tryz.sizeOf65
  v37 := Tryz.zeroValue65
  t46 := Tryz.underlying191
  a46 := Tryz.isAgg191
  z46 := Tryz.sizeOf191
  v46 := Tryz.zeroValue191
  t51 := Tryz.underlying133
  a51 := Tryz.isAgg133
  z51 := Tryz.sizeOf133
  v51 := Tryz.zeroValue133
  t53 := Tryz.underlying112
  a53 := Tryz.isAgg112
  z53 := Tryz.sizeOf112
  v53 := Tryz.zeroValue112
  t171 := Tryz.underlying167
  a171 := Tryz.isAgg167
  z171 := Tryz.sizeOf167
  v171 := Tryz.zeroValue167
  t173 := Tryz.underlying170
  a173 := Tryz.isAgg170
  z173 := Tryz.sizeOf170
  v173 := Tryz.zeroValue170
  t212 := Tryz.underlying188
  a212 := Tryz.isAgg188
  z212 := Tryz.sizeOf188
  v212 := Tryz.zeroValue188
  t213 := Tryz.underlying189
  a213 := Tryz.isAgg189
  z213 := Tryz.sizeOf189
  t232 := Tryz.underlying230
  a232 := Tryz.isAgg230
  z232 := Tryz.sizeOf230
  v232 := Tryz.zeroValue230
  t233 := Tryz.underlying231
  a233 := Tryz.isAgg231
  z233 := Tryz.sizeOf231
  v233 := Tryz.zeroValue231
  g17 := by kernel_rfl
  g18 := by kernel_rfl
  g19 := by kernel_rfl
  i0 := by kernel_rfl
  i2 := by kernel_rfl
  i3 := by kernel_rfl
  i4 := by kernel_rfl
  i5 := by kernel_rfl
  i9 := by kernel_rfl
  i20 := by kernel_rfl
  i37 := by kernel_rfl
  i46 := by kernel_rfl
  i51 := by kernel_rfl
  i53 := by kernel_rfl
  i171 := by kernel_rfl
  i173 := by kernel_rfl
  i212 := by kernel_rfl
  i232 := by kernel_rfl
  i233 := by kernel_rfl
  m17 := by kernel_rfl
  m18 := by kernel_rfl
  m19 := by kernel_rfl }
def Tryz.laysRep_ren : Go.Shelf.Ren := ⟨fun | 154 => 55 | 138 => 88 | 165 => 51 | 143 => 89 | 166 => 52 | 197 => 90 | 169 => 53 | 195 => 121 | 218 => 122 | 240 => 85 | 241 => 86 | 219 => 123 | 260 => 124 | 276 => 115 | 277 => 116 | 217 => 96 | 225 => 146 | 224 => 147 | 267 => 148 | 266 => 129 | 314 => 163 | n => n, fun | 9 => 9 | 3 => 3 | 4 => 4 | 72 => 97 | 0 => 0 | 76 => 101 | 105 => 129 | 21 => 21 | 5 => 5 | 70 => 95 | 20 => 20 | 37 => 65 | 75 => 100 | 127 => 127 | 164 => 163 | 46 => 191 | 119 => 193 | 139 => 196 | 138 => 195 | 146 => 214 | 51 => 133 | 80 => 103 | n => n, fun | 1 => 3 | 3 => 5 | 4 => 6 | n => n⟩
theorem Tryz.laysRep : Go.Proofs.Lays.n154 Tryz.prog Tryz.laysRep_ren := {
  mixed := by kernel_rfl
  f138 := Tryz.func88.trans (congrArg some (by kernel_rfl))
  f143 := Tryz.func89.trans (congrArg some (by kernel_rfl))
  f154 := Tryz.func55.trans (congrArg some (by kernel_rfl))
  f165 := Tryz.func51.trans (congrArg some (by kernel_rfl))
  f166 := Tryz.func52.trans (congrArg some (by kernel_rfl))
  f169 := Tryz.func53.trans (congrArg some (by kernel_rfl))
  f195 := Tryz.func121.trans (congrArg some (by kernel_rfl))
  f197 := Tryz.func90.trans (congrArg some (by kernel_rfl))
  f217 := Tryz.func96.trans (congrArg some (by kernel_rfl))
  f218 := Tryz.func122.trans (congrArg some (by kernel_rfl))
  f219 := Tryz.func123.trans (congrArg some (by kernel_rfl))
  f224 := Tryz.func147.trans (congrArg some (by kernel_rfl))
  f225 := Tryz.func146.trans (congrArg some (by kernel_rfl))
  f240 := Tryz.func85.trans (congrArg some (by kernel_rfl))
  f241 := Tryz.func86.trans (congrArg some (by kernel_rfl))
  f260 := Tryz.func124.trans (congrArg some (by kernel_rfl))
  f266 := Tryz.func129.trans (congrArg some (by kernel_rfl))
  f267 := Tryz.func148.trans (congrArg some (by kernel_rfl))
  f276 := Tryz.func115.trans (congrArg some (by kernel_rfl))
  f277 := Tryz.func116.trans (congrArg some (by kernel_rfl))
  f314 := Tryz.func163.trans (congrArg some (by kernel_rfl))
  t0 := Tryz.underlying0
  a0 := Tryz.isAgg0
  z0 := Tryz.sizeOf0
  v0 := Tryz.zeroValue0
  t3 := Tryz.underlying3
  a3 := Tryz.isAgg3
  z3 := Tryz.sizeOf3
  v3 := Tryz.zeroValue3
  t4 := Tryz.underlying4
  a4 := Tryz.isAgg4
  z4 := Tryz.sizeOf4
  v4 := Tryz.zeroValue4
  t5 := Tryz.underlying5
  a5 := Tryz.isAgg5
  z5 := Tryz.sizeOf5
  v5 := Tryz.zeroValue5
  t9 := Tryz.underlying9
  a9 := Tryz.isAgg9
  z9 := Tryz.sizeOf9
  v9 := Tryz.zeroValue9
  t20 := Tryz.underlying20
  a20 := Tryz.isAgg20
  z20 := Tryz.sizeOf20
  v20 := Tryz.zeroValue20
  t21 := Tryz.underlying21
  a21 := Tryz.isAgg21
  z21 := Tryz.sizeOf21
  v21 := Tryz.zeroValue21
  t37 := Tryz.underlying65
  a37 := Tryz.isAgg65
  z37 := Tryz.sizeOf65
  v37 := Tryz.zeroValue65
  t46 := Tryz.underlying191
  a46 := Tryz.isAgg191
  z46 := Tryz.sizeOf191
  v46 := Tryz.zeroValue191
  t51 := Tryz.underlying133
  a51 := Tryz.isAgg133
  z51 := Tryz.sizeOf133
  v51 := Tryz.zeroValue133
  t70 := Tryz.underlying95
  a70 := Tryz.isAgg95
  z70 := Tryz.sizeOf95
  v70 := Tryz.zeroValue95
  t72 := Tryz.underlying97
  a72 := Tryz.isAgg97
  z72 := Tryz.sizeOf97
  v72 := Tryz.zeroValue97
  t75 := Tryz.underlying100
  a75 := Tryz.isAgg100
  z75 := Tryz.sizeOf100
  v75 := Tryz.zeroValue100
  t76 := Tryz.underlying101
  a76 := Tryz.isAgg101
  z76 := Tryz.sizeOf101
  v76 := Tryz.zeroValue101
  t105 := Tryz.underlying129
  a105 := Tryz.isAgg129
  z105 := Tryz.sizeOf129
  v105 := Tryz.zeroValue129
  t119 := Tryz.underlying193
  a119 := Tryz.isAgg193
  z119 := Tryz.sizeOf193
  t127 := Tryz.underlying127
  a127 := Tryz.isAgg127
  z127 := Tryz.sizeOf127
  v127 := Tryz.zeroValue127
  t138 := Tryz.underlying195
  a138 := Tryz.isAgg195
  z138 := Tryz.sizeOf195
  v138 := Tryz.zeroValue195
  t139 := Tryz.underlying196
  a139 := Tryz.isAgg196
  z139 := Tryz.sizeOf196
  v139 := Tryz.zeroValue196
  t146 := Tryz.underlying214
  a146 := Tryz.isAgg214
  z146 := Tryz.sizeOf214
  v146 := Tryz.zeroValue214
  t164 := Tryz.underlying163
  a164 := Tryz.isAgg163
  z164 := Tryz.sizeOf163
  v164 := Tryz.zeroValue163
  g1 := by kernel_rfl
  g3 := by kernel_rfl
  g4 := by kernel_rfl }
end Go.Proofs
namespace Go.Pr
open Go Go.RowKit Go.Proofs
theorem joinExtra : Builder.Extra Tryz.prog Tryz.laysJoin_ren := {
  sizeBuilder := by kernel_rfl
  liesBuilder := by kernel_rfl
  t5 := by kernel_rfl
  a5 := fun w => by kernel_rfl
  z5 := fun w => by kernel_rfl
  v5 := fun w => by kernel_rfl
  infoByte := by kernel_rfl
  cellsByte := by kernel_rfl
  sizeByte := by kernel_rfl
  neB5 := by decide }
theorem repExtra : Builder.Extra Tryz.prog Tryz.laysRep_ren := {
  sizeBuilder := by kernel_rfl
  liesBuilder := by kernel_rfl
  t5 := by kernel_rfl
  a5 := fun w => by kernel_rfl
  z5 := fun w => by kernel_rfl
  v5 := fun w => by kernel_rfl
  infoByte := by kernel_rfl
  cellsByte := by kernel_rfl
  sizeByte := by kernel_rfl
  neB5 := by decide }
theorem join26 : Tryz.laysJoin_ren.f 156 = 26 := by kernel_rfl
theorem num54 : Tryz.laysNum_ren.f 173 = 54 := by kernel_rfl
theorem rep55 : Tryz.laysRep_ren.f 154 = 55 := by kernel_rfl
theorem OutV.join {W wr : World} {out : Value} {xs : List ByteArray} {sep : ByteArray} (h : OutV W wr out xs) (hn : xs.length ≤ 1099511627776) (hsz : (joinB xs sep).size ≤ 140737488355328) :
    Calls Tryz.prog 26 #[out, .string sep] wr fun e w' => e = .returned (.string (joinB xs sep)) ∧ Below wr.heap.size wr w' := by
  rcases h.1.2 with ⟨rfl, h0⟩ | ⟨g, cap, cur, rfl, h2, h3, h4, h5, h6, h7⟩
  · obtain rfl : xs = [] := List.eq_nil_of_length_eq_zero h0
    have := Any.strings_Join_none Tryz.laysJoin joinExtra none 0 sep wr
    rw [join26] at this
    refine this.mono ?_
    rintro e w' ⟨rfl, rfl⟩
    exact ⟨rfl, Below.refl _ _⟩
  · have hlt : g < wr.heap.size := (Array.getElem?_eq_some_iff.1 h3).1
    have := Any.strings_Join Tryz.laysJoin joinExtra g 0 cap xs sep wr (fun j x hj => by
      have := h.1.cells (g := g) rfl j (.string x) (by rw [List.getElem?_map, hj]; rfl)
      rw [show (⟨g, 0, none⟩ : Addr).add j = ⟨g, 0 + j, none⟩ by unfold Addr.add; split <;> simp_all] at this
      exact this) hlt (by omega) h4 (by
        have : (joinB xs sep).size = (Lib.join (xs.map (·.data.toList)) sep.data.toList).length := by
          unfold joinB
          show (Lib.join (xs.map (·.data.toList)) sep.data.toList).toArray.size = _
          rw [List.size_toArray]
        omega)
    rw [join26] at this
    exact this
structure TabV (W : World) : Prop where
  tab : Lib.TabIs Tryz.prog W "internal/strconv.uint64pow10" .u64 Lib.pow10Tab
  max : ∃ m : Int, W.cell? ⟨Tryz.laysRep_ren.g 1, 0, none⟩ = some (.int .i64 m)
theorem TabV.below {W W' : World} (h : TabV W) (hb : Below W.heap.size W W') : TabV W' := by
  obtain ⟨h1, m, h2⟩ := h
  refine ⟨?_, m, (hb.cell (p := ⟨Tryz.laysRep_ren.g 1, 0, none⟩) ?_).trans h2⟩
  · unfold Lib.TabIs World.var? at h1 ⊢
    obtain ⟨g, hg, h3⟩ := Option.bind_eq_some_iff.1 h1
    rw [hg]
    show (match W'.heap[g]? with | some (.cells cs _ _) => some cs | _ => none) = _
    have hl : g < W.heap.size := by
      rcases Nat.lt_or_ge g W.heap.size with h | h
      · exact h
      · rw [Array.getElem?_eq_none h] at h3; cases h3
    rw [hb.block g hl]
    exact h3
  · rcases Nat.lt_or_ge (Tryz.laysRep_ren.g 1) W.heap.size with h' | h'
    · exact h'
    · have : W.heap[Tryz.laysRep_ren.g 1]? = none := Array.getElem?_eq_none h'
      simp [World.cell?, this] at h2
theorem countB_dash (s : ByteArray) : Lib.countB s { data := #[45] } ≤ s.size := by
  have := Lib.countB_mul_le { data := #[45] } (by decide) s.size s (Nat.le_refl _)
  rw [show ({ data := #[45] } : ByteArray).size = 1 from rfl] at this
  omega
theorem number_ok (n : Int) (h0 : -9223372036854775808 ≤ n) (h1 : n ≤ 9223372036854775807) (w : World) (ht : TabV w) :
    Calls Tryz.prog 30 #[.int .i64 n] w fun e w' => e = .returned (.string (numS n)) ∧ Below w.heap.size w w' := by
  have hF := Any.strconv_FormatInt_10 Tryz.laysNum n h0 h1 w ht.tab
  rw [num54] at hF
  have HF := Lib.hid hF
  have HN : Hid (∀ w', Below w.heap.size w w' → Calls Tryz.prog 55 #[.string ⟨(Lib.itoa n).toArray⟩, .string { data := #[45] }, .string { data := #[126] }, .int .i64 1] w' fun e w2 => e = .returned (.string (numS n)) ∧ Below w'.heap.size w' w2) := by
    refine Lib.hid fun w' hb => ?_
    obtain ⟨m, hm⟩ := (ht.below hb).max
    have hl := Lib.itoa_length_le n h0 h1
    have hsz : (⟨(Lib.itoa n).toArray⟩ : ByteArray).size ≤ 21 := by
      show (Lib.itoa n).toArray.size ≤ 21
      rw [List.size_toArray]; exact hl
    have hc := countB_dash ⟨(Lib.itoa n).toArray⟩
    have hR := Any.strings_Replace Tryz.laysRep repExtra ⟨(Lib.itoa n).toArray⟩ { data := #[45] } { data := #[126] } 1 m w' (by omega) hm (by decide) (by
      rw [show ({ data := #[126] } : ByteArray).size = 1 from rfl]; omega)
    rw [rep55] at hR
    refine hR.mono ?_
    rintro e w2 ⟨rfl, hb2⟩
    refine ⟨?_, hb2⟩
    rw [numS, if_pos ⟨h0, h1⟩]
  clear hF ht
  go_enter Tryz.func30, Tryz.ntmps30
  go_wp2_with fail
  refine HF.out.mono ?_
  rintro e w1 ⟨rfl, k, os, rfl⟩
  have HB := Lib.hid (Lib.below_grow w.heap.size w (Nat.le_refl _) k os)
  have HN2 := Lib.hid (HN.out _ HB.out)
  generalize Sort.grow (w.drewN k) os = w1 at *
  clear HN
  go_wp2_with fail
  refine HN2.out.mono ?_
  rintro e w2 ⟨rfl, hb⟩
  have HB2 := Lib.hid (HB.out.trans (hb.mono HB.out.size))
  clear hb
  go_wp2
  go_ret
  exact ⟨rfl, HB2.out⟩
end Go.Pr
namespace Go.Pr
open Go Go.RowKit Go.Proofs
theorem RowC.slice {W : World} {k : Nat} {s : Value} {n : Nat} {vf : Nat → List Value} (h : RowC W k s n vf) : ∃ a n c, s = .slice a n c := by
  obtain ⟨a, c, rfl, _⟩ := h; exact ⟨a, n, c, rfl⟩
def FnOK (fn : Nat) (nd : Nd) (G : D → ByteArray) (W0 : World) (d : D) : Prop := ∀ (W : World) (vs : List Value), S W0 nd d vs → Below W0.heap.size W0 W → Calls Tryz.prog fn #[.agg ⟨vs⟩] W fun e w' => e = .returned (.string (G d)) ∧ Below W.heap.size W w'
theorem S.ty_vals {W : World} {d : D} {vs : List Value} (h : S W .ty d vs) : ∃ (v0 : Int) (v1 : ByteArray) (v2 : Int) (a3 : Option Addr) (n3 c3 : Nat), vs = [.int .u8 v0, .string v1, .int .i64 v2, .slice a3 n3 c3] := by
  cases h with
  | ty hn hr hk => obtain ⟨a, n, c, rfl⟩ := hr.slice; exact ⟨_, _, _, _, _, _, rfl⟩
theorem S.pat_vals {W : World} {d : D} {vs : List Value} (h : S W .pat d vs) : ∃ (v0 : Int) (v1 : ByteArray) (v2 : Int) (a3 : Option Addr) (n3 c3 : Nat), vs = [.int .u8 v0, .string v1, .int .i64 v2, .slice a3 n3 c3] := by
  cases h with
  | pat hn hr hk => obtain ⟨a, n, c, rfl⟩ := hr.slice; exact ⟨_, _, _, _, _, _, rfl⟩
theorem S.exp_vals {W : World} {d : D} {vs : List Value} (h : S W .exp d vs) : ∃ (v0 : Int) (v1 : ByteArray) (v2 : Int) (v3 : ByteArray) (a4 : Option Addr) (n4 c4 : Nat) (a5 : Option Addr) (n5 c5 : Nat) (a6 : Option Addr) (n6 c6 : Nat), vs = [.int .u8 v0, .string v1, .int .i64 v2, .string v3, .slice a4 n4 c4, .slice a5 n5 c5, .slice a6 n6 c6] := by
  cases h with
  | exp hn hr h2 h3 => obtain ⟨a, n, c, rfl⟩ := hr.slice; obtain ⟨a, n, c, rfl⟩ := h2.slice; obtain ⟨a, n, c, rfl⟩ := h3.slice; exact ⟨_, _, _, _, _, _, _, _, _, _, _, _, _, rfl⟩
theorem S.con_vals {W : World} {d : D} {vs : List Value} (h : S W .con d vs) : ∃ (v0 : ByteArray) (v1 : Bool) (v2 : Int) (v3 : ByteArray) (v4 : Int) (a5 : Option Addr) (n5 c5 : Nat), vs = [.string v0, .bool v1, .int .u8 v2, .string v3, .int .i64 v4, .slice a5 n5 c5] := by
  cases h with
  | con ht => obtain ⟨_, _, _, _, _, _, rfl⟩ := ht.ty_vals; exact ⟨_, _, _, _, _, _, _, _, rfl⟩
theorem S.fn_vals {W : World} {d : D} {vs : List Value} (h : S W .fn d vs) : ∃ (v0 : ByteArray) (a1 : Option Addr) (n1 c1 : Nat) (v2 : Int) (v3 : ByteArray) (v4 : Int) (v5 : ByteArray) (a6 : Option Addr) (n6 c6 : Nat) (a7 : Option Addr) (n7 c7 : Nat) (a8 : Option Addr) (n8 c8 : Nat), vs = [.string v0, .slice a1 n1 c1, .int .u8 v2, .string v3, .int .i64 v4, .string v5, .slice a6 n6 c6, .slice a7 n7 c7, .slice a8 n8 c8] := by
  cases h with
  | fn ha he => obtain ⟨a, n, c, rfl⟩ := ha.slice; obtain ⟨_, _, _, _, _, _, _, _, _, _, _, _, _, rfl⟩ := he.exp_vals; exact ⟨_, _, _, _, _, _, _, _, _, _, _, _, _, _, _, _, _, rfl⟩
theorem S.rule_vals {W : World} {d : D} {vs : List Value} (h : S W .rule d vs) : ∃ (v0 : Int) (v1 : ByteArray) (v2 : Int) (a3 : Option Addr) (n3 c3 : Nat) (v4 : Int) (v5 : ByteArray) (v6 : Int) (v7 : ByteArray) (a8 : Option Addr) (n8 c8 : Nat) (a9 : Option Addr) (n9 c9 : Nat) (a10 : Option Addr) (n10 c10 : Nat), vs = [.int .u8 v0, .string v1, .int .i64 v2, .slice a3 n3 c3, .int .u8 v4, .string v5, .int .i64 v6, .string v7, .slice a8 n8 c8, .slice a9 n9 c9, .slice a10 n10 c10] := by
  cases h with
  | rule hp he => obtain ⟨_, _, _, _, _, _, rfl⟩ := hp.pat_vals; obtain ⟨_, _, _, _, _, _, _, _, _, _, _, _, _, rfl⟩ := he.exp_vals; exact ⟨_, _, _, _, _, _, _, _, _, _, _, _, _, _, _, _, _, _, _, rfl⟩
theorem S.dec_vals {W : World} {d : D} {vs : List Value} (h : S W .dec d vs) : ∃ (v0 : Int) (v1 : ByteArray) (a2 : Option Addr) (n2 c2 : Nat) (a3 : Option Addr) (n3 c3 : Nat) (a4 : Option Addr) (n4 c4 : Nat) (v5 : Int) (v6 : ByteArray) (v7 : Int) (a8 : Option Addr) (n8 c8 : Nat) (v9 : Int) (v10 : ByteArray) (v11 : Int) (v12 : ByteArray) (a13 : Option Addr) (n13 c13 : Nat) (a14 : Option Addr) (n14 c14 : Nat) (a15 : Option Addr) (n15 c15 : Nat), vs = [.int .u8 v0, .string v1, .slice a2 n2 c2, .slice a3 n3 c3, .slice a4 n4 c4, .int .u8 v5, .string v6, .int .i64 v7, .slice a8 n8 c8, .int .u8 v9, .string v10, .int .i64 v11, .string v12, .slice a13 n13 c13, .slice a14 n14 c14, .slice a15 n15 c15] := by
  cases h with
  | dec h1 h2 h3 _ _ ht he => obtain ⟨a, n, c, rfl⟩ := h1.slice; obtain ⟨a, n, c, rfl⟩ := h2.slice; obtain ⟨a, n, c, rfl⟩ := h3.slice; obtain ⟨_, _, _, _, _, _, rfl⟩ := ht.ty_vals; obtain ⟨_, _, _, _, _, _, _, _, _, _, _, _, _, rfl⟩ := he.exp_vals; exact ⟨_, _, _, _, _, _, _, _, _, _, _, _, _, _, _, _, _, _, _, _, _, _, _, _, _, _, _, _, _, _, rfl⟩
end Go.Pr
