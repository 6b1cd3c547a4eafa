/- The walker of types: what it holds, and the region in which a datatype is noted. Each says its own conditions. -/
import Derived.Test.YtadbbfmmhimgcaaGreatDoorStA
import Derived.Deep.RegionWith
import Derived.Deep.RegionLaw
import Derived.Lib.SmallJoins
import Derived.BigQuiet
import Derived.OneCell
import Derived.Deep.RegionHeld3
import Derived.Deep.MidRow
set_option linter.unusedVariables false
set_option linter.unusedSimpArgs false
set_option maxRecDepth 100000
set_option maxHeartbeats 1600000
namespace Go.Stamp
open Go Go.RowKit Go.Proofs Go.Maps
/-! ## What the walker holds -/
def litOf (s : ByteArray) : Lit := .string s.data.toList
structure WS (W0 w : World) (D row : List Dec) (dv : Value) (pb m : Nat) (rv : Value) (xs : List Value) : Prop where
  below : Below W0.heap.size W0 w
  pbge : W0.heap.size ≤ pb
  mge : W0.heap.size ≤ m
  blk : w.heap[pb]? = some (.cells #[dv, .map (some m), rv] 55 (0, 0))
  seen : w.ownsMap Tryz.prog 9 (unitElem (H := Unit)) m row.length (setOf (.agg []) (row.map fun d => litOf d.name))
  rows : w.ownsRow W0.heap.size 39 16 rv row.length xs
  items : ∀ i (hi : i < row.length), ∃ vs, vs.length = 16 ∧ (∀ j, j < 16 → xs[i * 16 + j]? = vs[j]?) ∧ DecV W0 row[i] vs
  apart : rv.ownBlock ≠ some pb
  source : ∀ d ∈ row, find D d.name = some d
  nodup : (row.map fun d => d.name.data.toList).Nodup
theorem ownsMap_below {H : Type} {P : Program} {k : TypeId} {R : Value → Option (DataW H × List MemPlace)} {w w' : World} {b n : Nat} {D : DataW H} (h : w.ownsMap P k R b n D) (hb : Below w.heap.size w w') : w'.ownsMap P k R b n D := by
  have hl := h.lt
  obtain ⟨es, clock, h1, h2⟩ := h
  exact ⟨es, clock, (hb.block b hl).trans h1, h2⟩
theorem ownsRow_below {w w' : World} {base e size n : Nat} {v : Value} {xs : List Value} (h : w.ownsRow base e size v n xs) (hb : Below w.heap.size w w') : w'.ownsRow base e size v n xs := by
  refine ⟨h.1, ?_⟩
  rcases h.2 with h | ⟨g, cap, cur, h1, h2, h3, h4⟩
  · exact .inl h
  · exact .inr ⟨g, cap, cur, h1, h2, (hb.block g (Array.getElem?_eq_some_iff.1 h3).1).trans h3, h4⟩
theorem WS.grow {W0 w w' : World} {D row : List Dec} {dv : Value} {pb m : Nat} {rv : Value} {xs : List Value} (h : WS W0 w D row dv pb m rv xs) (hb : Below w.heap.size w w') : WS W0 w' D row dv pb m rv xs :=
  ⟨h.below.trans (hb.mono h.below.size), h.pbge, h.mge, (hb.block pb (Array.getElem?_eq_some_iff.1 h.blk).1).trans h.blk, ownsMap_below h.seen hb, ownsRow_below h.rows hb, h.items, h.apart, h.source, h.nodup⟩
theorem WS.c0 {W0 w : World} {D row : List Dec} {dv : Value} {pb m : Nat} {rv : Value} {xs : List Value} (h : WS W0 w D row dv pb m rv xs) : w.cell? ⟨pb, 0, none⟩ = some dv ∧ w.cell? ⟨pb, 1, none⟩ = some (.map (some m)) ∧ w.cell? ⟨pb, 2, none⟩ = some rv ∧ w.frozen? ⟨pb, 2, none⟩ = false ∧ pb < w.heap.size :=
  ⟨by simp [World.cell?, h.blk], by simp [World.cell?, h.blk], by simp [World.cell?, h.blk], by simp [World.frozen?, h.blk], (Array.getElem?_eq_some_iff.1 h.blk).1⟩
theorem litOf_inj {a b : ByteArray} (h : litOf a = litOf b) : a = b := by
  unfold litOf at h
  injection h with h
  exact WideShapes.bytes_inj h
/-- is a name's datatype held? -/
def inRow (row : List Dec) (name : ByteArray) : Bool := Maps.has (setOf (.agg [] : DataW Unit) (row.map fun d => litOf d.name)) (litOf name)
theorem seen_look {w : World} {m n : Nat} {row : List Dec} (h : w.ownsMap Tryz.prog 9 (unitElem (H := Unit)) m n (setOf (.agg []) (row.map fun d => litOf d.name))) {name : ByteArray} (hs : name.size ≤ maxLen) :
    (Instr.lookup 53 (.map (some m)) (.string name) true).run Tryz.prog w = .ok (.tuple #[.agg #[], .bool (inRow row name)]) w := by
  obtain ⟨v, ps, hlk, hv⟩ := h.look_ok key9 Tryz.underlying53 (z := .agg #[]) (by kernel_rfl) (zd := .agg []) (zp := []) unitElem_mk (WideMaps.keyOf_string_mk Tryz.underlying9 hs)
  obtain ⟨rfl, _⟩ := unitElem_inv hv
  exact hlk
theorem step_append_own {P : Program} {ops : Array Oper} {o : Oper} {a : Act} {w : World} {K : Act → World → Prop} {Q : Exit → Act → World → Prop} {E : Prop} (hgd : o.guard = none) (s x : Operand) (t : TypeId)
    (ho : o.op = .call { callee := .builtin .append, args := #[s, x], argTypes := #[t, t] })
    (base : Nat) (e : TypeId) (i : TypeInfo) (z : Value) (size bytes : Nat) (ht : P.underlying t = some (.slice e)) (hi : P.info? e = some i) (hz : i.zero = some z)
    (hsize : i.size = size) (hby : i.bytes = bytes) (hzs : z.cells.size = size) (hsz : 0 < size)
    (v : Value) (n : Nat) (xs : List Value) (hs : a.eval s = v) (hown : w.ownsRow base e size v n xs)
    (ad : Addr) (m c : Nat) (news : List Value) (hx : a.eval x = .slice (some ad) m c) (hl : news.length = m * size) (hnews : ∀ j u, news[j]? = some u → w.cell? (ad.add j) = some u) (h1 : ∀ u ∈ news, u.oneCell' = true)
    (h63 : n + m ≤ maxLen) (hbytes : (n + m) * bytes ≤ 140737488355328) (hbase : base ≤ w.heap.size)
    (h : ∀ v' w', w'.ownsRow base e size v' (n + m) (xs ++ news) → w.grownBy w' v.ownBlock → (v' = .slice none 0 0 ↔ v = .slice none 0 0 ∧ m = 0) → K (a.put o.dst v') w') : if Region.wanted o (yielded ops a.tmps) = true then Oper.wp P o a w K Q else E := by
  have hw : Region.wanted o (yielded ops a.tmps) = true := by simp [Region.wanted, hgd]
  rw [if_pos hw]
  exact wp_append_own w s x t ho base e i z size bytes ht hi hz hsize hby hzs hsz v n xs hs hown ad m c news hx hl hnews h1 h63 hbytes hbase h
/-- no datatype -/
def zeroDec : List Value := [.int .u8 0, .string { data := #[] }, .slice none 0 0, .slice none 0 0, .slice none 0 0, .int .u8 0, .string { data := #[] }, .int .i64 0, .slice none 0 0, .int .u8 0, .string { data := #[] }, .int .i64 0, .string { data := #[] }, .slice none 0 0, .slice none 0 0, .slice none 0 0]
theorem i39 : (Tryz.prog.info? 39).map (fun i => (i.size, i.bytes, i.zero)) = some (16, 272, some (.agg ⟨zeroDec⟩)) := by kernel_rfl
theorem news_zero {w : World} {T : TypeId} {zs : List Value} : ∀ j u, zs[j]? = some u → (w.alloc (.cells ⟨zs⟩ T)).cell? ((⟨w.heap.size, 0, none⟩ : Addr).add j) = some u := fun j u hj => by
  unfold Addr.add
  split
  · rename_i e; subst e; rw [World.cell?_alloc_new]; simpa using hj
  · rw [World.cell?_alloc_new]; simpa using hj
theorem row_facts {w : World} {base n : Nat} {v : Value} {xs : List Value} (h : w.ownsRow base 39 16 v (n + 1) xs) : ∃ g cap, v = .slice (some ⟨g, 0, none⟩) (n + 1) cap ∧ base ≤ g ∧ g < w.heap.size ∧ ∀ j, j < 16 → (∃ u, w.cell? ⟨g, n * 16 + j, none⟩ = some u) ∧ w.frozen? ⟨g, n * 16 + j, none⟩ = false := by
  rcases h.2 with ⟨_, h0⟩ | ⟨g, cap, cur, rfl, hbg, hg, hnc, _, hcs, _⟩
  · omega
  · refine ⟨g, cap, rfl, hbg, (Array.getElem?_eq_some_iff.1 hg).1, fun j hj => ?_⟩
    have hjc : n * 16 + j < cur.size := by omega
    exact ⟨⟨cur[n * 16 + j], by simp [World.cell?, hg, Array.getElem?_eq_getElem hjc]⟩, by simp [World.frozen?, hg]⟩
/-- what stands behind the mark that a datatype is seen -/
structure W3 (W0 w3 : World) (D row : List Dec) (dv : Value) (pb m : Nat) (rv : Value) (xs : List Value) (name : ByteArray) : Prop where
  below : Below W0.heap.size W0 w3
  blk : w3.heap[pb]? = some (.cells #[dv, .map (some m), rv] 55 (0, 0))
  seen : w3.ownsMap Tryz.prog 9 (unitElem (H := Unit)) m (row.length + 1) ((setOf (.agg []) (row.map fun d => litOf d.name)).put (litOf name) (.agg []))
  rows : w3.ownsRow W0.heap.size 39 16 rv row.length xs
theorem W3.of {W0 w2 w3 : World} {D row : List Dec} {dv : Value} {pb m : Nat} {rv : Value} {xs : List Value} {name : ByteArray} (h : WS W0 w2 D row dv pb m rv xs) {o : Obj}
    (hs : w3.ownsMap Tryz.prog 9 (unitElem (H := Unit)) m (row.length + 1) ((setOf (.agg []) (row.map fun d => litOf d.name)).put (litOf name) (.agg []))) (hg : (w2.alloc o).drew.drew.grownBy w3 (some m)) : W3 W0 w3 D row dv pb m rv xs name := by
  have hb0 : Below w2.heap.size w2 (w2.alloc o).drew.drew := ((Below.refl _ _).alloc (Nat.le_refl _) o).drew.drew
  have hpl := (Array.getElem?_eq_some_iff.1 h.blk).1
  have hmap : ∃ es clock, w2.heap[m]? = some (.map es clock) := by obtain ⟨es, clock, h1, _⟩ := h.seen; exact ⟨es, clock, h1⟩
  obtain ⟨es, clock, hmap⟩ := hmap
  have keep : ∀ b, b < w2.heap.size → b ≠ m → w3.heap[b]? = w2.heap[b]? := fun b hb hne => (hg.block b (by have := hb0.size; omega) (by intro e; cases e; exact hne rfl)).trans (hb0.block b hb)
  refine ⟨h.below.trans ((hb0.mono h.below.size).grown hg (by have := hb0.size; have := h.below.size; omega) (fun k hk => by cases hk; exact h.mge)), ?_, hs, h.rows.1, ?_⟩
  · rw [keep pb hpl (by rintro rfl; rw [h.blk] at hmap; cases hmap)]; exact h.blk
  · rcases h.rows.2 with h' | ⟨g, cap, cur, h1, h2, h3, h4⟩
    · exact .inl h'
    · exact .inr ⟨g, cap, cur, h1, h2, (keep g (Array.getElem?_eq_some_iff.1 h3).1 (by rintro rfl; rw [h3] at hmap; cases hmap)).trans h3, h4⟩
theorem W3.c0 {W0 w3 : World} {D row : List Dec} {dv : Value} {pb m : Nat} {rv : Value} {xs : List Value} {name : ByteArray} (h : W3 W0 w3 D row dv pb m rv xs name) : w3.cell? ⟨pb, 0, none⟩ = some dv ∧ w3.cell? ⟨pb, 2, none⟩ = some rv ∧ w3.frozen? ⟨pb, 2, none⟩ = false ∧ pb < w3.heap.size :=
  ⟨by simp [World.cell?, h.blk], by simp [World.cell?, h.blk], by simp [World.frozen?, h.blk], (Array.getElem?_eq_some_iff.1 h.blk).1⟩
theorem row_facts16 {w : World} {base n : Nat} {v : Value} {xs : List Value} (h : w.ownsRow base 39 16 v (n + 1) xs) : ∃ g cap, v = .slice (some ⟨g, 0, none⟩) (n + 1) cap ∧ base ≤ g ∧ g < w.heap.size ∧ (∃ u, w.cell? ⟨g, n * 16, none⟩ = some u) ∧ w.frozen? ⟨g, n * 16, none⟩ = false ∧ (∃ u, w.cell? ⟨g, n * 16 + 1, none⟩ = some u) ∧ w.frozen? ⟨g, n * 16 + 1, none⟩ = false ∧ (∃ u, w.cell? ⟨g, n * 16 + 2, none⟩ = some u) ∧ w.frozen? ⟨g, n * 16 + 2, none⟩ = false ∧ (∃ u, w.cell? ⟨g, n * 16 + 3, none⟩ = some u) ∧ w.frozen? ⟨g, n * 16 + 3, none⟩ = false ∧ (∃ u, w.cell? ⟨g, n * 16 + 4, none⟩ = some u) ∧ w.frozen? ⟨g, n * 16 + 4, none⟩ = false ∧ (∃ u, w.cell? ⟨g, n * 16 + 5, none⟩ = some u) ∧ w.frozen? ⟨g, n * 16 + 5, none⟩ = false ∧ (∃ u, w.cell? ⟨g, n * 16 + 6, none⟩ = some u) ∧ w.frozen? ⟨g, n * 16 + 6, none⟩ = false ∧ (∃ u, w.cell? ⟨g, n * 16 + 7, none⟩ = some u) ∧ w.frozen? ⟨g, n * 16 + 7, none⟩ = false ∧ (∃ u, w.cell? ⟨g, n * 16 + 8, none⟩ = some u) ∧ w.frozen? ⟨g, n * 16 + 8, none⟩ = false ∧ (∃ u, w.cell? ⟨g, n * 16 + 9, none⟩ = some u) ∧ w.frozen? ⟨g, n * 16 + 9, none⟩ = false ∧ (∃ u, w.cell? ⟨g, n * 16 + 10, none⟩ = some u) ∧ w.frozen? ⟨g, n * 16 + 10, none⟩ = false ∧ (∃ u, w.cell? ⟨g, n * 16 + 11, none⟩ = some u) ∧ w.frozen? ⟨g, n * 16 + 11, none⟩ = false ∧ (∃ u, w.cell? ⟨g, n * 16 + 12, none⟩ = some u) ∧ w.frozen? ⟨g, n * 16 + 12, none⟩ = false ∧ (∃ u, w.cell? ⟨g, n * 16 + 13, none⟩ = some u) ∧ w.frozen? ⟨g, n * 16 + 13, none⟩ = false ∧ (∃ u, w.cell? ⟨g, n * 16 + 14, none⟩ = some u) ∧ w.frozen? ⟨g, n * 16 + 14, none⟩ = false ∧ (∃ u, w.cell? ⟨g, n * 16 + 15, none⟩ = some u) ∧ w.frozen? ⟨g, n * 16 + 15, none⟩ = false := by
  obtain ⟨g, cap, h1, h2, h3, h4⟩ := row_facts h
  exact ⟨g, cap, h1, h2, h3, (h4 0 (by omega)).1, (h4 0 (by omega)).2, (h4 1 (by omega)).1, (h4 1 (by omega)).2, (h4 2 (by omega)).1, (h4 2 (by omega)).2, (h4 3 (by omega)).1, (h4 3 (by omega)).2, (h4 4 (by omega)).1, (h4 4 (by omega)).2, (h4 5 (by omega)).1, (h4 5 (by omega)).2, (h4 6 (by omega)).1, (h4 6 (by omega)).2, (h4 7 (by omega)).1, (h4 7 (by omega)).2, (h4 8 (by omega)).1, (h4 8 (by omega)).2, (h4 9 (by omega)).1, (h4 9 (by omega)).2, (h4 10 (by omega)).1, (h4 10 (by omega)).2, (h4 11 (by omega)).1, (h4 11 (by omega)).2, (h4 12 (by omega)).1, (h4 12 (by omega)).2, (h4 13 (by omega)).1, (h4 13 (by omega)).2, (h4 14 (by omega)).1, (h4 14 (by omega)).2, (h4 15 (by omega)).1, (h4 15 (by omega)).2⟩
theorem keepB {w3 X w' : World} {row : Option Nat} (hX : Below w3.heap.size w3 X) (hg : X.grownBy w' row) {b : Nat} (hb : b < w3.heap.size) (hne : row ≠ some b) (off : Nat) : w'.cell? ⟨b, off, none⟩ = w3.cell? ⟨b, off, none⟩ ∧ w'.frozen? ⟨b, off, none⟩ = w3.frozen? ⟨b, off, none⟩ := by
  have h : w'.heap[b]? = w3.heap[b]? := (hg.block b (by have := hX.size; omega) (fun e => hne e.symm)).trans (hX.block b hb)
  exact ⟨World.cell?_of_block (a := ⟨b, off, none⟩) h, World.frozen?_of_block (a := ⟨b, off, none⟩) h⟩
theorem row_apart {w3 X w' : World} {row : Option Nat} (hX : Below w3.heap.size w3 X) (hg : X.grownBy w' row) {pb : Nat} {cs : Array Value} (hb : w3.heap[pb]? = some (.cells cs 55 (0, 0))) (hne : row ≠ some pb)
    {base n g cap : Nat} {xs : List Value} (ho : w'.ownsRow base 39 16 (.slice (some ⟨g, 0, none⟩) (n + 1) cap) (n + 1) xs) : g ≠ pb := by
  have hl := (Array.getElem?_eq_some_iff.1 hb).1
  have h : w'.heap[pb]? = w3.heap[pb]? := (hg.block pb (by have := hX.size; omega) (fun e => hne e.symm)).trans (hX.block pb hl)
  rintro rfl
  rcases ho.2 with ⟨h0, _⟩ | ⟨g', cap', cur, h1, _, h3, _⟩
  · cases h0
  · cases h1
    rw [h, hb] at h3
    cases h3
theorem nodup_len : ∀ {l m : List (List UInt8)}, l.Nodup → (∀ x ∈ l, x ∈ m) → l.length ≤ m.length
  | [], m, _, _ => Nat.zero_le _
  | x :: l, m, hn, hs => by
    rw [List.nodup_cons] at hn
    have hx := hs x List.mem_cons_self
    have h := nodup_len (m := m.erase x) hn.2 fun y hy => (List.mem_erase_of_ne (by rintro rfl; exact hn.1 hy)).2 (hs y (List.mem_cons_of_mem _ hy))
    have h2 := List.length_erase_of_mem hx
    have h3 : 0 < m.length := List.length_pos_of_mem hx
    simp only [List.length_cons]; omega
theorem find_mem {D : List Dec} {name : ByteArray} {d : Dec} (h : find D name = some d) : d ∈ D ∧ d.name = name ∧ d.kind = 1 := by
  rw [find_eq] at h
  have h1 := List.find?_some h
  have h2 := List.mem_of_find?_eq_some h
  simp [isD] at h1
  exact ⟨h2, h1.2, h1.1⟩
theorem WS.len {W0 w : World} {D row : List Dec} {dv : Value} {pb m : Nat} {rv : Value} {xs : List Value} (h : WS W0 w D row dv pb m rv xs) : row.length ≤ D.length := by
  have := nodup_len (m := D.map fun d => d.name.data.toList) h.nodup fun x hx => by
    obtain ⟨d, hd, rfl⟩ := List.mem_map.1 hx
    exact List.mem_map_of_mem (find_mem (h.source d hd)).1
  simpa using this
theorem zero_one : ∀ u ∈ zeroDec, u.oneCell' = true := by
  intro u hu
  simp only [zeroDec, List.mem_cons, List.not_mem_nil, or_false] at hu
  rcases hu with rfl | rfl | rfl | rfl | rfl | rfl | rfl | rfl | rfl | rfl | rfl | rfl | rfl | rfl | rfl | rfl <;> rfl
end Go.Stamp
set_option linter.unusedVariables false
set_option linter.unusedSimpArgs false
set_option maxRecDepth 100000
set_option maxHeartbeats 4000000
namespace Go.Stamp
open Go Go.RowKit Go.Proofs Go.Maps
theorem block_setCells {g : Nat} {T : TypeId} {fr : Nat × Nat} : ∀ (vs : List Value) (o : Nat) (w : World) (cur : Array Value), w.heap[g]? = some (.cells cur T fr) → o + vs.length ≤ cur.size →
    ∃ cur', (w.setCells g o vs).heap[g]? = some (.cells cur' T fr) ∧ cur'.size = cur.size ∧ (∀ i, i < o → cur'[i]? = cur[i]?) ∧ ∀ i, i < vs.length → cur'[o + i]? = vs[i]?
  | [], o, w, cur, h, _ => ⟨cur, h, rfl, fun _ _ => rfl, fun i hi => absurd hi (Nat.not_lt_zero _)⟩
  | v :: vs, o, w, cur, h, hl => by
    simp only [List.length_cons] at hl
    obtain ⟨cur', h1, h2, h3, h4⟩ := block_setCells vs (o + 1) (w.setCell ⟨g, o, none⟩ v) (cur.setIfInBounds o v) (Go.Joins.block_setCell h v) (by simp; omega)
    refine ⟨cur', h1, by simpa using h2, fun i hi => ?_, fun i hi => ?_⟩
    · rw [h3 i (by omega), Array.getElem?_setIfInBounds_ne (by omega)]
    · cases i with
      | zero => rw [Nat.add_zero, h3 o (by omega), Array.getElem?_setIfInBounds_self_of_lt (by omega)]; rfl
      | succ i =>
        have := h4 i (by simpa using hi)
        rw [show o + (i + 1) = o + 1 + i by omega, this]; rfl
theorem setCells_meta (g : Nat) : ∀ (vs : List Value) (o : Nat) (w : World), (w.setCells g o vs).os = w.os ∧ (w.setCells g o vs).tape = w.tape ∧ (w.setCells g o vs).output = w.output ∧ (w.setCells g o vs).heap.size = w.heap.size ∧ ∀ b, b ≠ g → (w.setCells g o vs).heap[b]? = w.heap[b]?
  | [], o, w => ⟨rfl, rfl, rfl, rfl, fun _ _ => rfl⟩
  | v :: vs, o, w => by
    obtain ⟨h1, h2, h3, h4, h5⟩ := setCells_meta g vs (o + 1) (w.setCell ⟨g, o, none⟩ v)
    exact ⟨h1, h2, h3, by rw [World.setCells, h4]; simp, fun b hb => by rw [World.setCells, h5 b hb, Below.heap_setCell _ _ _ _ hb]⟩
/-- a world in which a row has one datatype more -/
structure Fin (w' F : World) (pb g : Nat) (blk : Array Value) (n : Nat) (vs : List Value) : Prop where
  os : F.os = w'.os
  tape : F.tape = w'.tape
  output : F.output = w'.output
  size : F.heap.size = w'.heap.size
  other : ∀ b, b ≠ g → b ≠ pb → F.heap[b]? = w'.heap[b]?
  pblk : F.heap[pb]? = some (.cells blk 55 (0, 0))
  row : ∀ cur, w'.heap[g]? = some (.cells cur 39 (0, 0)) → n * 16 + 16 ≤ cur.size → ∃ cur', F.heap[g]? = some (.cells cur' 39 (0, 0)) ∧ cur'.size = cur.size ∧ (∀ i, i < n * 16 → cur'[i]? = cur[i]?) ∧ ∀ i, i < 16 → cur'[n * 16 + i]? = vs[i]?
theorem fin1 {w' : World} {pb g n m : Nat} {dv rv rv' : Value} {vs : List Value} (hv : vs.length = 16) (hne : g ≠ pb) (hb : w'.heap[pb]? = some (.cells #[dv, .map (some m), rv] 55 (0, 0))) :
    Fin w' ((w'.setCells g (n * 16) vs).setCell ⟨pb, 2, none⟩ rv') pb g #[dv, .map (some m), rv'] n vs := by
  obtain ⟨h1, h2, h3, h4, h5⟩ := setCells_meta g vs (n * 16) w'
  refine ⟨h1, h2, h3, by simp [h4], fun b hbg hbp => by rw [Below.heap_setCell _ _ _ _ hbp, h5 b hbg], ?_, fun cur hc hs => ?_⟩
  · exact Go.Joins.block_setCell (cs := #[dv, .map (some m), rv]) ((h5 pb hne.symm).trans hb) rv'
  · obtain ⟨cur', c1, c2, c3, c4⟩ := block_setCells vs (n * 16) w' cur hc (by omega)
    exact ⟨cur', by rw [Below.heap_setCell _ _ _ _ hne]; exact c1, c2, c3, fun i hi => c4 i (by omega)⟩
theorem fin2 {w' : World} {pb g n m : Nat} {dv rv rv' : Value} {vs : List Value} (hv : vs.length = 16) (hne : g ≠ pb) (hb : w'.heap[pb]? = some (.cells #[dv, .map (some m), rv] 55 (0, 0))) :
    Fin w' ((w'.setCell ⟨pb, 2, none⟩ rv').setCells g (n * 16) vs) pb g #[dv, .map (some m), rv'] n vs := by
  obtain ⟨h1, h2, h3, h4, h5⟩ := setCells_meta g vs (n * 16) (w'.setCell ⟨pb, 2, none⟩ rv')
  refine ⟨h1, h2, h3, by simp [h4], fun b hbg hbp => by rw [h5 b hbg, Below.heap_setCell _ _ _ _ hbp], ?_, fun cur hc hs => ?_⟩
  · rw [h5 pb hne.symm]; exact Go.Joins.block_setCell (cs := #[dv, .map (some m), rv]) hb rv'
  · obtain ⟨cur', c1, c2, c3, c4⟩ := block_setCells vs (n * 16) (w'.setCell ⟨pb, 2, none⟩ rv') cur (by rw [Below.heap_setCell _ _ _ _ hne]; exact hc) (by omega)
    exact ⟨cur', c1, c2, c3, fun i hi => c4 i (by omega)⟩
end Go.Stamp
set_option linter.unusedVariables false
set_option linter.unusedSimpArgs false
namespace Go.Stamp
theorem take_row {α : Type} {cur cur' : Array α} {xs zs vs : List α} {n : Nat} (hx : xs.length = n * 16) (hv : vs.length = 16) (hcs : (n + 1) * 16 ≤ cur.size) (h2 : cur'.size = cur.size)
    (htk : cur.toList.take ((n + 1) * 16) = xs ++ zs) (c3 : ∀ i, i < n * 16 → cur'[i]? = cur[i]?) (c4 : ∀ i, i < 16 → cur'[n * 16 + i]? = vs[i]?) : cur'.toList.take ((n + 1) * 16) = xs ++ vs := by
  apply List.ext_getElem?
  intro i
  by_cases h1 : i < n * 16
  · rw [List.getElem?_take_of_lt (by omega), List.getElem?_append_left (by omega), Array.getElem?_toList, c3 i h1]
    have := congrArg (fun l => l[i]?) htk
    rw [List.getElem?_take_of_lt (by omega), List.getElem?_append_left (by omega), Array.getElem?_toList] at this
    exact this
  · by_cases h3 : i < (n + 1) * 16
    · rw [List.getElem?_take_of_lt (by omega), List.getElem?_append_right (by omega), Array.getElem?_toList]
      have := c4 (i - n * 16) (by omega)
      rw [show n * 16 + (i - n * 16) = i by omega] at this
      rw [this, hx]
    · rw [List.getElem?_eq_none (by simp; omega), List.getElem?_eq_none (by simp; omega)]
end Go.Stamp
set_option linter.unusedVariables false
set_option linter.unusedSimpArgs false
set_option maxRecDepth 100000
set_option maxHeartbeats 16000000
namespace Go.Stamp
open Go Go.RowKit Go.Proofs Go.Maps
theorem store39 {w : World} {b o : Nat} {cs : List Value} (ht : w.there b o 16) (h16 : cs.length = 16) (h1 : cs.all (·.oneCell') = true) : (Instr.storeAt 39 (.pointer (some ⟨b, o, none⟩)) (.agg cs.toArray)).run Tryz.prog w = .ok () (w.setCells b o cs) := by
  obtain ⟨i, hi, hi2⟩ := Option.map_eq_some_iff.1 i39
  have hz1 : i.size = 16 := congrArg Prod.fst hi2
  have := run_storeAt_mid (P := Tryz.prog) w b o 39 cs.toArray (by simpa [h16] using ht) (by rw [hi]; simp [hz1, h16]) (by simpa using h1)
  simpa using this
theorem store39' {w : World} {b o : Nat} {kd : Int} {nm : ByteArray} {va : Option Addr} {vn vc : Nat} {ca : Option Addr} {cn cc : Nat} {R : Rest} (ht : w.there b o 16) : (Instr.storeAt 39 (.pointer (some ⟨b, o, none⟩)) (.agg #[.int .u8 kd, .string nm, .slice va vn vc, .slice ca cn cc, .slice R.a1 R.n1 R.c1, .int .u8 R.k1, .string R.s1, .int .i64 R.m1, .slice R.a2 R.n2 R.c2, .int .u8 R.k2, .string R.s2, .int .i64 R.m2, .string R.s3, .slice R.a3 R.n3 R.c3, .slice R.a4 R.n4 R.c4, .slice R.a5 R.n5 R.c5])).run Tryz.prog w = .ok () (w.setCells b o [.int .u8 kd, .string nm, .slice va vn vc, .slice ca cn cc, .slice R.a1 R.n1 R.c1, .int .u8 R.k1, .string R.s1, .int .i64 R.m1, .slice R.a2 R.n2 R.c2, .int .u8 R.k2, .string R.s2, .int .i64 R.m2, .string R.s3, .slice R.a3 R.n3 R.c3, .slice R.a4 R.n4 R.c4, .slice R.a5 R.n5 R.c5]) :=
  store39 ht rfl rfl
/-- the store of a declaration, as one step -/
def Store39 (p v : Value) : Sem Unit := Instr.storeAt 39 p v
theorem alias39 (p v : Value) : Instr.storeAt 39 p v = Store39 p v := rfl
theorem run39 {w : World} {b o : Nat} {kd : Int} {nm : ByteArray} {va : Option Addr} {vn vc : Nat} {ca : Option Addr} {cn cc : Nat} {R : Rest} (ht : w.there b o 16) : (Store39 (.pointer (some ⟨b, o, none⟩)) (.agg #[.int .u8 kd, .string nm, .slice va vn vc, .slice ca cn cc, .slice R.a1 R.n1 R.c1, .int .u8 R.k1, .string R.s1, .int .i64 R.m1, .slice R.a2 R.n2 R.c2, .int .u8 R.k2, .string R.s2, .int .i64 R.m2, .string R.s3, .slice R.a3 R.n3 R.c3, .slice R.a4 R.n4 R.c4, .slice R.a5 R.n5 R.c5])).run Tryz.prog w = .ok () (w.setCells b o [.int .u8 kd, .string nm, .slice va vn vc, .slice ca cn cc, .slice R.a1 R.n1 R.c1, .int .u8 R.k1, .string R.s1, .int .i64 R.m1, .slice R.a2 R.n2 R.c2, .int .u8 R.k2, .string R.s2, .int .i64 R.m2, .string R.s3, .slice R.a3 R.n3 R.c3, .slice R.a4 R.n4 R.c4, .slice R.a5 R.n5 R.c5]) := store39' ht
theorem store25 {w : World} {b o : Nat} {a : Option Addr} {n c : Nat} {u : Value} (hc : w.cell? ⟨b, o, none⟩ = some u) (hf : w.frozen? ⟨b, o, none⟩ = false) : (Instr.storeAt 25 (.pointer (some ⟨b, o, none⟩)) (.slice a n c)).run Tryz.prog w = .ok () (w.setCell ⟨b, o, none⟩ (.slice a n c)) := by
  go_simp
attribute [local simp ↓] alias39
attribute [local simp] run39
theorem there_of {w : World} {base n g cap : Nat} {xs : List Value} (h : w.ownsRow base 39 16 (.slice (some ⟨g, 0, none⟩) (n + 1) cap) (n + 1) xs) : w.there g (n * 16) 16 := by
  obtain ⟨g', cap', e, _, _, h4⟩ := row_facts h
  cases e
  intro j hj
  obtain ⟨⟨u, hu⟩, hf⟩ := h4 j hj
  exact ⟨by rw [hu]; rfl, hf⟩
theorem there_set {w : World} {b o n : Nat} (h : w.there b o n) (p : Addr) (v : Value) : (w.setCell p v).there b o n := fun j hj => by
  obtain ⟨h1, h2⟩ := h j hj
  obtain ⟨u, hu⟩ := Option.isSome_iff_exists.1 h1
  obtain ⟨u', hu'⟩ := cell?_setCell_some (w := w) (p := p) (x := v) hu
  exact ⟨by rw [hu']; rfl, by rw [World.frozen?_setCell]; exact h2⟩
theorem keepH {w3 X w' : World} {row : Option Nat} (hX : Below w3.heap.size w3 X) (hg : X.grownBy w' row) {pb : Nat} {ob : Obj} (hb : w3.heap[pb]? = some ob) (hne : row ≠ some pb) : w'.heap[pb]? = some ob := by
  have hl := (Array.getElem?_eq_some_iff.1 hb).1
  exact ((hg.block pb (by have := hX.size; omega) (fun e => hne e.symm)).trans (hX.block pb hl)).trans hb
/-- a region of a code, by its number -/
def regionOf (n : Nat) : Code → Option Code
  | .region k ops d => if k = n then some (.region k ops d) else none
  | .seq a b => match regionOf n a with
    | some c => some c
    | none => regionOf n b
  | .cond _ a b => match regionOf n a with
    | some c => some c
    | none => regionOf n b
  | .block _ c => regionOf n c
  | .scope c => regionOf n c
  | .loop c => regionOf n c
  | _ => none
/-- asks' region in which a datatype is noted, out of the program -/
noncomputable def region10 : Code := (Tryz.f46.body.bind (regionOf 10)).getD .skip
/-- asks' region in which a datatype is noted: what it does -/
theorem reg10 {W0 w3 : World} {D row : List Dec} {dc pb m b o k : Nat} {ra : Option Addr} {rc : Nat} {xs : List Value} {name : ByteArray} (hD : D.length ≤ 1000000) (hk : k < D.length) (hrl : row.length ≤ D.length)
    (H3 : Hid (W3 W0 w3 D row (.slice (some ⟨b, o, none⟩) D.length dc) pb m (.slice ra row.length rc) xs name)) (hpa : Hid ((Value.slice ra row.length rc).ownBlock ≠ some pb))
    {kd : Int} {nm : ByteArray} {va : Option Addr} {vn vc : Nat} {ca : Option Addr} {cn cc : Nat} {R : Rest} (hc : Cells w3 b (o + k * 16) [.int .u8 kd, .string nm, .slice va vn vc, .slice ca cn cc, .slice R.a1 R.n1 R.c1, .int .u8 R.k1, .string R.s1, .int .i64 R.m1, .slice R.a2 R.n2 R.c2, .int .u8 R.k2, .string R.s2, .int .i64 R.m2, .string R.s3, .slice R.a3 R.n3 R.c3, .slice R.a4 R.n4 R.c4, .slice R.a5 R.n5 R.c5])
    (x1 x2 x3 x4 x5 x6 x7 x9 x10 x11 x12 x13 x14 x15 x16 x17 x18 x19 x20 x21 x22 x23 x24 x25 x26 x27 x28 x29 x30 x31 x32 x33 x34 x35 x36 x37 x38 x39 x40 x41 x42 x43 : Value) (Q : Exit → Act → World → Prop)
    (hQ : Hid (∀ (y44 y45 y46 y47 y48 y49 y50 y51 y52 y53 y54 y55 y56 y57 y58 y59 y60 : Value) (g cap : Nat) (w' F : World), w'.ownsRow W0.heap.size 39 16 (.slice (some ⟨g, 0, none⟩) (row.length + 1) cap) (row.length + 1) (xs ++ zeroDec) → (∃ X, Below w3.heap.size w3 X ∧ X.grownBy w' (Value.slice ra row.length rc).ownBlock) →
      Fin w' F pb g #[.slice (some ⟨b, o, none⟩) D.length dc, .map (some m), .slice (some ⟨g, 0, none⟩) (row.length + 1) cap] row.length [.int .u8 kd, .string nm, .slice va vn vc, .slice ca cn cc, .slice R.a1 R.n1 R.c1, .int .u8 R.k1, .string R.s1, .int .i64 R.m1, .slice R.a2 R.n2 R.c2, .int .u8 R.k2, .string R.s2, .int .i64 R.m2, .string R.s3, .slice R.a3 R.n3 R.c3, .slice R.a4 R.n4 R.c4, .slice R.a5 R.n5 R.c5] → Q .normal { tmps := #[.pointer (some ⟨pb, 0, none⟩), x1, x2, x3, x4, x5, x6, x7, .int .i64 k, x9, x10, x11, x12, x13, x14, x15, x16, x17, x18, x19, x20, x21, x22, x23, x24, x25, x26, x27, x28, x29, x30, x31, x32, x33, x34, x35, x36, x37, x38, x39, x40, x41, x42, x43, y44, y45, y46, y47, y48, y49, y50, y51, y52, y53, y54, y55, y56, y57, y58, y59, y60, undef, undef, undef, undef, undef, undef, undef, undef, undef], defers := [] } F)) :
    region10.wp Tryz.prog Q { tmps := #[.pointer (some ⟨pb, 0, none⟩), x1, x2, x3, x4, x5, x6, x7, .int .i64 k, x9, x10, x11, x12, x13, x14, x15, x16, x17, x18, x19, x20, x21, x22, x23, x24, x25, x26, x27, x28, x29, x30, x31, x32, x33, x34, x35, x36, x37, x38, x39, x40, x41, x42, x43, undef, undef, undef, undef, undef, undef, undef, undef, undef, undef, undef, undef, undef, undef, undef, undef, undef, undef, undef, undef, undef, undef, undef, undef, undef, undef], defers := [] } w3 := by
  conv => arg 2; whnf
  obtain ⟨p0, p2, pf, pl⟩ := H3.out.c0
  have d0 : w3.cell? ⟨b, o + k * 16, none⟩ = some (.int .u8 kd) := hc 0 _ rfl
  have d1 := hc 1 _ rfl
  have d2 := hc 2 _ rfl
  have d3 := hc 3 _ rfl
  have d4 := hc 4 _ rfl
  have d5 := hc 5 _ rfl
  have d6 := hc 6 _ rfl
  have d7 := hc 7 _ rfl
  have d8 := hc 8 _ rfl
  have d9 := hc 9 _ rfl
  have d10 := hc 10 _ rfl
  have d11 := hc 11 _ rfl
  have d12 := hc 12 _ rfl
  have d13 := hc 13 _ rfl
  have d14 := hc 14 _ rfl
  have d15 := hc 15 _ rfl
  have hb3l := cell_lt d0
  have HC := Lib.hid hc
  clear hc
  obtain ⟨i, hi, hi2⟩ := Option.map_eq_some_iff.1 i39
  have HI := Lib.hid hi
  have HZ1 := Lib.hid (congrArg Prod.fst hi2 : i.size = 16)
  have HZ2 := Lib.hid (congrArg (fun x => x.2.1) hi2 : i.bytes = 272)
  have HZ0 := Lib.hid (congrArg (fun x => x.2.2) hi2 : i.zero = some (.agg ⟨zeroDec⟩))
  clear hi hi2
  have hl1 : (row.length : Int) < row.length + 1 := by omega
  refine wp_region_noPanic ?_
  go_region_law ((refine step_append_own rfl _ _ 25 rfl W0.heap.size 39 i (.agg ⟨zeroDec⟩) 16 272 Tryz.underlying25 HI.out HZ0.out HZ1.out HZ2.out rfl (by decide) _ row.length xs rfl (ownsRow_below H3.out.rows (by first | exact ((Below.refl _ _).alloc (Nat.le_refl _) _).drew | exact (Below.refl _ _).drew.alloc (Nat.le_refl _) _ | exact (Below.refl _ _).alloc (Nat.le_refl _) _)) ⟨w3.heap.size, 0, none⟩ 1 1 zeroDec rfl rfl news_zero zero_one (by simp only [maxLen]; omega) (by omega) (by have := H3.out.below.size; simp; omega) ?_; intro v' w' ho hgr hnil; obtain ⟨g, cap, rfl, hgg, hgs, _⟩ := row_facts ho; (have hth := there_of ho); obtain ⟨r2, rf⟩ := keepB (w3 := w3) (b := pb) (by first | exact ((Below.refl _ _).alloc (Nat.le_refl _) _).drew | exact (Below.refl _ _).drew.alloc (Nat.le_refl _) _ | exact (Below.refl _ _).alloc (Nat.le_refl _) _) hgr pl hpa.out 2; rw [p2] at r2; rw [pf] at rf; (have hgp := row_apart (w3 := w3) (by first | exact ((Below.refl _ _).alloc (Nat.le_refl _) _).drew | exact (Below.refl _ _).drew.alloc (Nat.le_refl _) _ | exact (Below.refl _ _).alloc (Nat.le_refl _) _) hgr H3.out.blk hpa.out ho); (have hgp' := hgp.symm); (have hth2 := fun v => there_set hth ⟨pb, 2, none⟩ v); (have hs2 : ∀ cs, (w'.setCells g (row.length * 16) cs).cell? ⟨pb, 2, none⟩ = some (.slice ra row.length rc) := fun cs => (World.cell?_of_block (a := ⟨pb, 2, none⟩) ((setCells_meta g cs (row.length * 16) w').2.2.2.2 pb hgp')).trans r2); (have hs3 : ∀ cs, (w'.setCells g (row.length * 16) cs).frozen? ⟨pb, 2, none⟩ = false := fun cs => (World.frozen?_of_block (a := ⟨pb, 2, none⟩) ((setCells_meta g cs (row.length * 16) w').2.2.2.2 pb hgp')).trans rf); (have HBK := Lib.hid (keepH (w3 := w3) (by first | exact ((Below.refl _ _).alloc (Nat.le_refl _) _).drew | exact (Below.refl _ _).drew.alloc (Nat.le_refl _) _ | exact (Below.refl _ _).alloc (Nat.le_refl _) _) hgr H3.out.blk hpa.out)); (have HOW := Lib.hid ho); (have HGR := Lib.hid (⟨_, (by first | exact ((Below.refl _ _).alloc (Nat.le_refl _) _).drew | exact (Below.refl _ _).drew.alloc (Nat.le_refl _) _ | exact (Below.refl _ _).alloc (Nat.le_refl _) _), hgr⟩ : ∃ X, Below w3.heap.size w3 X ∧ X.grownBy w' (Value.slice ra row.length rc).ownBlock)); clear ho hgr hnil))
  all_goals refine hQ.out _ _ _ _ _ _ _ _ _ _ _ _ _ _ _ _ _ g cap w' _ HOW.out HGR.out ?_
  all_goals first
    | (with_reducible refine fin1 ?_ hgp HBK.out); rfl
    | (with_reducible refine fin2 ?_ hgp HBK.out); rfl
end Go.Stamp
set_option linter.unusedVariables false
set_option linter.unusedSimpArgs false
set_option maxRecDepth 100000
set_option maxHeartbeats 1600000
namespace Go.Stamp
open Go Go.RowKit Go.Proofs Go.Maps
/-- the walker behind a datatype that is noted -/
theorem ws_noted {W0 w3 w' F : World} {D row : List Dec} {dv rv : Value} {pb m g cap : Nat} {xs vs : List Value} {name : ByteArray} {d : Dec}
    (hpbge : W0.heap.size ≤ pb) (hmge : W0.heap.size ≤ m) (hitems : ∀ i (hi : i < row.length), ∃ vs, vs.length = 16 ∧ (∀ j, j < 16 → xs[i * 16 + j]? = vs[j]?) ∧ DecV W0 row[i] vs)
    (hsrc : ∀ d ∈ row, find D d.name = some d) (hnd : (row.map fun d => d.name.data.toList).Nodup)
    (H3 : W3 W0 w3 D row dv pb m rv xs name) (hd : find D name = some d) (hnew : name.data.toList ∉ row.map fun d => d.name.data.toList) (hdv : DecV W0 d vs) (hvl : vs.length = 16)
    (ho : w'.ownsRow W0.heap.size 39 16 (.slice (some ⟨g, 0, none⟩) (row.length + 1) cap) (row.length + 1) (xs ++ zeroDec)) (hX : ∃ X, Below w3.heap.size w3 X ∧ X.grownBy w' rv.ownBlock)
    (hrvb : ∀ k, rv.ownBlock = some k → W0.heap.size ≤ k ∧ k ≠ m) (hgp : g ≠ pb) (hgm : g ≠ m)
    (hF : Fin w' F pb g #[dv, .map (some m), .slice (some ⟨g, 0, none⟩) (row.length + 1) cap] row.length vs) :
    WS W0 F D (row ++ [d]) dv pb m (.slice (some ⟨g, 0, none⟩) (row.length + 1) cap) (xs ++ vs) := by
  obtain ⟨hdD, hdn, hdk⟩ := find_mem hd
  obtain ⟨X, hX1, hX2⟩ := hX
  have hb3 : Below W0.heap.size W0 w' := (H3.below.trans (hX1.mono H3.below.size)).grown hX2 (by have := hX1.size; have := H3.below.size; omega) (fun k hk => (hrvb k hk).1)
  have hml := H3.seen.lt
  have hmw : w'.heap[m]? = w3.heap[m]? := (hX2.block m (by have := hX1.size; omega) (fun e => (hrvb m e.symm).2 rfl)).trans (hX1.block m hml)
  obtain ⟨hlen, hrow⟩ := ho
  rcases hrow with ⟨h0, _⟩ | ⟨g', cap', cur, h1, hgb, hg, hnc, hcm, hcs, htk⟩
  · cases h0
  cases h1
  have hxl : xs.length = row.length * 16 := H3.rows.1
  obtain ⟨cur', c1, c2, c3, c4⟩ := hF.row cur hg (by omega)
  refine ⟨⟨hF.os.trans hb3.os, hF.tape.trans hb3.tape, hF.output.trans hb3.output, by rw [hF.size]; exact hb3.size, fun b hb => by rw [hF.other b (by omega) (by omega)]; exact hb3.block b hb⟩, hpbge, hmge, hF.pblk, ?_, ?_, ?_, ?_, ?_, ?_⟩
  · obtain ⟨es, clock, e1, e2, e3, e4⟩ := H3.seen
    have hmpb : m ≠ pb := by rintro rfl; rw [H3.blk] at e1; cases e1
    refine ⟨es, clock, by rw [hF.other m (Ne.symm hgm) hmpb, hmw]; exact e1, e2, by simpa using e3, ?_⟩
    rw [List.map_append, List.map_cons, List.map_nil, setOf_snoc, hdn]; exact e4
  · refine ⟨by simp [hxl, hvl]; omega, .inr ⟨g, cap, cur', by simp, hgb, c1, by simpa using hnc, hcm, by rw [c2, hcs], ?_⟩⟩
    simpa using take_row hxl hvl (by rw [hcs]; omega) c2 htk c3 c4
  · intro i hi
    by_cases e : i < row.length
    · obtain ⟨us, u1, u2, u3⟩ := hitems i e
      refine ⟨us, u1, fun j hj => ?_, by rw [List.getElem_append_left e]; exact u3⟩
      rw [List.getElem?_append_left (by omega)]; exact u2 j hj
    · have : i = row.length := by simp at hi; omega
      subst this
      refine ⟨vs, hvl, fun j hj => ?_, by simpa using hdv⟩
      rw [List.getElem?_append_right (by omega)]; congr 1; omega
  · intro h; injection h with h; exact hgp h
  · intro e he
    rcases List.mem_append.1 he with h | h
    · exact hsrc e h
    · simp at h; subst h; rw [hdn]; exact hd
  · rw [List.map_append, List.nodup_append]
    refine ⟨hnd, by simp, fun a ha b hb => ?_⟩
    simp at hb
    subst hb
    rw [hdn]
    rintro rfl
    exact hnew ha
end Go.Stamp
set_option linter.unusedVariables false
set_option linter.unusedSimpArgs false
namespace Go.Stamp
open Go Go.RowKit Go.Proofs Go.Maps
theorem inRow_iff (row : List Dec) (name : ByteArray) : inRow row name = row.any (fun e => decide (e.name = name)) := by
  unfold inRow
  rw [has_setOf _ _ _ (by intro x hx; obtain ⟨d, _, rfl⟩ := List.mem_map.1 hx; trivial)]
  rw [List.any_map]
  congr 1
  funext d
  by_cases h : d.name = name
  · subst h; simp [litOf, Lit.sameKey]
  · have : litOf d.name ≠ litOf name := fun e => h (litOf_inj e)
    show (litOf d.name).sameKey (litOf name) = _
    rw [sameKey_ne this]
    simp [h]
theorem not_inRow {row : List Dec} {name : ByteArray} (h : inRow row name = false) : name.data.toList ∉ row.map fun d => d.name.data.toList := by
  rw [inRow_iff] at h
  intro hm
  obtain ⟨d, hd, e⟩ := List.mem_map.1 hm
  have : d.name = name := WideShapes.bytes_inj e
  have h2 := List.any_eq_false.1 h d hd
  simp [this] at h2
theorem note_miss {D row : List Dec} {name : ByteArray} (ho : ownN name = none) (hf : find D name = none) : note ownN D row name = row := by simp [note, ho, hf]
theorem note_held {D row : List Dec} {name : ByteArray} {d : Dec} (ho : ownN name = none) (hf : find D name = some d) (h : inRow row name = true) : note ownN D row name = row := by
  rw [inRow_iff] at h
  simp only [note, ho, hf, h, if_true]
theorem note_new {D row : List Dec} {name : ByteArray} {d : Dec} (ho : ownN name = none) (hf : find D name = some d) (h : inRow row name = false) : note ownN D row name = row ++ [d] := by
  rw [inRow_iff] at h
  simp only [note, ho, hf, h]; rfl
theorem note_own {D row : List Dec} {name : ByteArray} {n : Nat} (ho : ownN name = some n) : note ownN D row name = row := by simp [note, ho]
theorem WS.rvb {W0 w : World} {D row : List Dec} {dv : Value} {pb m : Nat} {rv : Value} {xs : List Value} (h : WS W0 w D row dv pb m rv xs) : ∀ k, rv.ownBlock = some k → W0.heap.size ≤ k ∧ k ≠ m := by
  intro k hk
  obtain ⟨es, clock, e1, _⟩ := h.seen
  rcases h.rows.2 with ⟨h', _⟩ | ⟨g, cap, cur, h1, h2, h3, _⟩
  · subst h'; cases hk
  · subst h1
    simp [Value.ownBlock] at hk
    subst hk
    exact ⟨h2, by rintro rfl; rw [h3] at e1; cases e1⟩
theorem row_map {w3 X w' : World} {row : Option Nat} (hX : Below w3.heap.size w3 X) (hg : X.grownBy w' row) {m : Nat} {es : Array MapEntry} {clock : Nat} (hm : w3.heap[m]? = some (.map es clock)) (hne : row ≠ some m)
    {base n g cap : Nat} {xs : List Value} (ho : w'.ownsRow base 39 16 (.slice (some ⟨g, 0, none⟩) (n + 1) cap) (n + 1) xs) : g ≠ m := by
  have hl := (Array.getElem?_eq_some_iff.1 hm).1
  have h : w'.heap[m]? = w3.heap[m]? := (hg.block m (by have := hX.size; omega) (fun e => hne e.symm)).trans (hX.block m hl)
  rintro rfl
  rcases ho.2 with ⟨h0, _⟩ | ⟨g', cap', cur, h1, _, h3, _⟩
  · cases h0
  · cases h1
    rw [h3, hm] at h
    cases h
/-- the walker behind a noted datatype, from the region -/
theorem WS.noted {W0 w2 w3 w' F : World} {D row : List Dec} {dv rv : Value} {pb m g cap : Nat} {xs vs : List Value} {name : ByteArray} {d : Dec} (h : WS W0 w2 D row dv pb m rv xs) (H3 : W3 W0 w3 D row dv pb m rv xs name)
    (hd : find D name = some d) (hi : inRow row name = false) (hdv : DecV W0 d vs) (hvl : vs.length = 16)
    (ho : w'.ownsRow W0.heap.size 39 16 (.slice (some ⟨g, 0, none⟩) (row.length + 1) cap) (row.length + 1) (xs ++ zeroDec)) (hX : ∃ X, Below w3.heap.size w3 X ∧ X.grownBy w' rv.ownBlock)
    (hF : Fin w' F pb g #[dv, .map (some m), .slice (some ⟨g, 0, none⟩) (row.length + 1) cap] row.length vs) :
    WS W0 F D (row ++ [d]) dv pb m (.slice (some ⟨g, 0, none⟩) (row.length + 1) cap) (xs ++ vs) := by
  obtain ⟨X, hX1, hX2⟩ := hX
  obtain ⟨es, clock, e1, _⟩ := H3.seen
  exact ws_noted h.pbge h.mge h.items h.source h.nodup H3 hd (not_inRow hi) hdv hvl ho ⟨X, hX1, hX2⟩ h.rvb (row_apart hX1 hX2 H3.blk h.apart ho) (row_map hX1 hX2 e1 (fun e => (h.rvb m e).2 rfl) ho) hF
end Go.Stamp
set_option linter.unusedVariables false
set_option linter.unusedSimpArgs false
namespace Go.Stamp
open Go Go.RowKit Go.Proofs Go.Maps
/-- what the walker's steps leave alone: every block but the walker's own, its map and rows of datatypes -/
def Kept (pb m : Nat) (w w' : World) : Prop := w.heap.size ≤ w'.heap.size ∧ ∀ b, b < w.heap.size → b ≠ pb → b ≠ m → (∀ cs fr, w.heap[b]? ≠ some (.cells cs 39 fr)) → w'.heap[b]? = w.heap[b]?
theorem Kept.of_below {pb m : Nat} {w w' : World} (h : Below w.heap.size w w') : Kept pb m w w' := ⟨h.size, fun b hb _ _ _ => h.block b hb⟩
theorem Kept.trans {pb m : Nat} {w w' w'' : World} (h : Kept pb m w w') (h' : Kept pb m w' w'') : Kept pb m w w'' :=
  ⟨Nat.le_trans h.1 h'.1, fun b hb h1 h2 h3 => by
    have := h.2 b hb h1 h2 h3
    rw [h'.2 b (Nat.lt_of_lt_of_le hb h.1) h1 h2 (by rw [this]; exact h3), this]⟩
theorem Kept.grown {pb m : Nat} {w X w' : World} (hX : Below w.heap.size w X) (hg : X.grownBy w' (some m)) : Kept pb m w w' :=
  ⟨by have := hX.size; have := hg.size; omega, fun b hb _ h2 _ => (hg.block b (by have := hX.size; omega) (by intro e; cases e; exact h2 rfl)).trans (hX.block b hb)⟩
theorem Kept.noted {pb m n g cap : Nat} {W0 w3 X w' F : World} {rv : Value} {k n' : Nat} {xs xs' vs : List Value} {blk : Array Value} (hX : Below w3.heap.size w3 X) (hg : X.grownBy w' rv.ownBlock)
    (hr : w3.ownsRow W0.heap.size 39 16 rv k xs) (ho : w'.ownsRow W0.heap.size 39 16 (.slice (some ⟨g, 0, none⟩) (n + 1) cap) (n + 1) xs') (hF : Fin w' F pb g blk n' vs) : Kept pb m w3 F := by
  have hsz : w3.heap.size ≤ w'.heap.size := by have := hX.size; have := hg.size; omega
  refine ⟨by rw [hF.size]; exact hsz, fun b hb h1 h2 h3 => ?_⟩
  have e1 : w'.heap[b]? = w3.heap[b]? := by
    refine (hg.block b (by have := hX.size; omega) ?_).trans (hX.block b hb)
    intro e
    rcases hr.2 with ⟨h', _⟩ | ⟨g', cap', cur, h4, _, h6, _⟩
    · subst h'; cases e
    · subst h4; simp [Value.ownBlock] at e; subst e; exact h3 _ _ h6
  have hgb : b ≠ g := by
    rintro rfl
    rcases ho.2 with ⟨h', _⟩ | ⟨g', cap', cur, h4, _, h6, _⟩
    · cases h'
    · cases h4; rw [e1] at h6; exact h3 _ _ h6
  rw [hF.other b hgb h1, e1]
end Go.Stamp
set_option linter.unusedVariables false
set_option linter.unusedSimpArgs false
set_option maxRecDepth 100000
set_option maxHeartbeats 4000000
namespace Go.Stamp
open Go Go.RowKit Go.Proofs Go.Maps
/-- what asks answers and leaves -/
def AsksP (W0 w : World) (D row : List Dec) (dv : Value) (pb m : Nat) (name : ByteArray) (e : Ending) (w' : World) : Prop :=
  e = .returned (.tuple #[.int .i64 ((asks ownN D name).getD 0 : Nat), .bool (asks ownN D name).isSome]) ∧ Kept pb m w w' ∧ ∃ rv' xs', WS W0 w' D (note ownN D row name) dv pb m rv' xs'
theorem asks_own {W0 w : World} {D row : List Dec} {dv : Value} {pb m : Nat} {rv : Value} {xs : List Value} (hS : WS W0 w D row dv pb m rv xs) (name : ByteArray) (hs : name.size ≤ maxLen) {n : Nat} (ho : ownN name = some n) :
    Calls Tryz.prog 46 #[.pointer (some ⟨pb, 0, none⟩), .string name] w fun e w' => AsksP W0 w D row dv pb m name e w' := by
  have hpl := hS.c0.2.2.2.2
  have HS := Lib.hid hS
  have HO := Lib.hid ho
  clear hS
  have hbx : Below w.heap.size w (w.alloc (.cells #[.string name] 9)) := (Below.refl _ _).alloc (Nat.le_refl _) _
  have HB := Lib.hid hbx
  clear hbx
  go_enter Tryz.func46, Tryz.ntmps46
  go_wp2
  go_region_with (go_at_call 59; refine (own_ok _).mono ?_; rintro e w' ⟨rfl, ho, hb⟩; (have hcell := hb.cell (p := ⟨w.heap.size, 0, none⟩) (by simp)); simp [go_sem] at hcell; (have ho' : w'.ownsMap Tryz.prog 9 (plainElem Tryz.prog 3) (w.heap.size + 1) 6 ownD := by simpa using ho); (have hbb := Lib.hid hb); clear hb ho; obtain ⟨c, hlk, hc⟩ := own_look ho' hs)
  all_goals
    rw [HO.out] at hlk
    obtain rfl := hc n HO.out
    have hB2 : Below w.heap.size (w.alloc (.cells #[.string name] 9)) w' := ⟨hbb.out.os, hbb.out.tape, hbb.out.output, hbb.out.size, fun k hk => hbb.out.block k (by simp; omega)⟩
    have hBB := Lib.hid (HB.out.trans hB2)
    clear hB2 hbb hc
    go_wp2
    go_ret2
    refine ⟨by simp [asks, HO.out], ?_, rv, xs, ?_⟩
    · first | exact Kept.of_below hBB.out | exact Kept.of_below hBB.out.drew
    · rw [note_own HO.out]
      first | exact HS.out.grow hBB.out | exact HS.out.grow hBB.out.drew
end Go.Stamp
