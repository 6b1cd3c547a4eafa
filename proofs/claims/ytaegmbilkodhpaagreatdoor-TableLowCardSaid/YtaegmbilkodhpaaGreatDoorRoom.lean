/- A part of the proof of TableLow: what a function of the program answers, walked by hand. Each theorem says its own conditions. -/
import Derived.Test.YtaegmbilkodhpaaGreatDoorOct
import Derived.Defers
import Derived.Laws.Pointers
import Derived.Laws.LoneSync
import Derived.RegionTactic
import Derived.RegionCalls
import Derived.RangeFuncWrites
import Derived.Test.YtaegmbilkodhpaaGreatDoorTbB
set_option linter.unusedVariables false
set_option linter.unusedSimpArgs false
set_option maxRecDepth 100000
set_option maxHeartbeats 1600000
namespace Go.Tb
open Go Go.RowKit Go.Proofs Go.Maps
theorem disable (w : World) : (callFunc 157 #[]).run Tryz.prog w = .ok (.value (.tuple #[])) w := run_call_mark0 Tryz.func157 (by kernel_rfl) (by kernel_rfl) (by kernel_rfl) .disable (by kernel_rfl) w
theorem enable (w : World) : (callFunc 159 #[]).run Tryz.prog w = .ok (.value (.tuple #[])) w := run_call_mark0 Tryz.func159 (by kernel_rfl) (by kernel_rfl) (by kernel_rfl) .enable (by kernel_rfl) w
theorem acquire (a : Addr) (w : World) : (callFunc 160 #[.pointer (some a)]).run Tryz.prog w = .ok (.value (.tuple #[])) w := run_call_marked Tryz.func160 (by kernel_rfl) (by kernel_rfl) (by kernel_rfl) .acquire (by kernel_rfl) a w
theorem releaseMerge (a : Addr) (w : World) : (callFunc 162 #[.pointer (some a)]).run Tryz.prog w = .ok (.value (.tuple #[])) w := run_call_marked Tryz.func162 (by kernel_rfl) (by kernel_rfl) (by kernel_rfl) .releaseMerge (by kernel_rfl) a w
theorem store_deferred (a : Addr) (x : Value) (u : FrameMode) (w : World) (hc : w.cell? a = some x) (hz : w.frozen? a = false) :
    CallsD Tryz.prog 150 #[.pointer (some a), .bool true] u w fun e u' w' => u' = u ∧ (e = .returned (.tuple #[]) ∧ w' = w.drew.setCell a (.int .u32 1)) := by
  have hc' : w.drew.cell? a = some x := by go_simp
  have hz' : w.drew.frozen? a = false := by go_simp
  have hst := run_call_store (P := Tryz.prog) Tryz.func155 (by kernel_rfl) (by kernel_rfl) (by kernel_rfl) (by kernel_rfl) (k := .u32) (y := 1) hc' hz'
  go_enter_d Tryz.func150, Tryz.ntmps150
  go_wp2
  go_region_calls
  all_goals (go_end0; exact ⟨rfl, rfl⟩)
theorem unlock_deferred (a : Addr) (u : FrameMode) (w : World) (hc : w.cell? a = some (.int .i32 1)) (hz : w.frozen? a = false) :
    CallsD Tryz.prog 149 #[.pointer (some a)] u w fun e u' w' => u' = u ∧ (e = .returned (.tuple #[]) ∧ w' = w.setCell a (.int .i32 0)) := by
  have hd := disable
  have he := enable
  have hr := releaseMerge
  have hadd := run_call_add (P := Tryz.prog) Tryz.func163 (by kernel_rfl) (by kernel_rfl) (by kernel_rfl) .i32 (by kernel_rfl) (y := -1) (s := 0) hc hz (by simp [go_sem]; rfl)
  have hcv := run_convert_to_unsafe (P := Tryz.prog) (src := 222) (dst := 226) Tryz.underlying222 Tryz.underlying226 (by kernel_rfl) hc
  go_enter_d Tryz.func149, Tryz.ntmps149
  go_wp2
  go_end0
  exact ⟨rfl, rfl⟩
theorem lock_free (a : Addr) (w : World) (hc : w.cell? a = some (.int .i32 0)) (hz : w.frozen? a = false) :
    Calls Tryz.prog 148 #[.pointer (some a)] w fun e w' => e = .returned (.tuple #[]) ∧ w' = w.setCell a (.int .i32 1) := by
  have hd := disable
  have he := enable
  have ha := acquire
  have hcas := run_call_cas_hit (P := Tryz.prog) Tryz.func158 (by kernel_rfl) (by kernel_rfl) (by kernel_rfl) .i32 (by kernel_rfl) (y := 1) hc hz
  have hc' : (w.setCell a (.int .i32 1)).cell? a = some (.int .i32 1) := World.cell?_setCell_same w a _ hc
  have hcv := run_convert_to_unsafe (P := Tryz.prog) (src := 222) (dst := 226) Tryz.underlying222 Tryz.underlying226 (by kernel_rfl) hc'
  go_enter Tryz.func148, Tryz.ntmps148
  go_wp2
  go_end0
  exact ⟨rfl, rfl⟩
def onceEnd (W : World) (kb : Nat) : World := (W.drew.setCell ⟨kb, 0, none⟩ (.int .u32 1)).setCell ⟨kb, 1, none⟩ (.int .i32 0)
theorem slow_ok {kb g : Nat} {lb : Array Value} {w : World} {R : World → Prop} (h0 : w.cell? ⟨kb, 0, none⟩ = some (.int .u32 0)) (h1 : w.cell? ⟨kb, 1, none⟩ = some (.int .i32 0)) (hz : ∀ o, o < 2 → w.frozen? ⟨kb, o, none⟩ = false)
    (eg : ∀ args w, (callFunc g args).run Tryz.prog w = .ok (.enter g args) w)
    (hf : Calls Tryz.prog g lb (w.setCell ⟨kb, 1, none⟩ (.int .i32 1)) fun e W => (∃ v, e = .returned v) ∧ R W ∧ W.heap[kb]? = (w.setCell ⟨kb, 1, none⟩ (.int .i32 1)).heap[kb]?) :
    Calls Tryz.prog 132 #[.pointer (some ⟨kb, 0, none⟩), .func (.func g) #[] lb] w fun e w' => e = .returned (.tuple #[]) ∧ ∃ W, R W ∧ w' = onceEnd W kb := by
  have hl := run_call_load (P := Tryz.prog) Tryz.func147 (by kernel_rfl) (by kernel_rfl) (by kernel_rfl) .u32 (by kernel_rfl) (w := w.setCell ⟨kb, 1, none⟩ (.int .i32 1)) (a := ⟨kb, 0, none⟩) (x := 0) ((World.cell?_setCell_other _ ⟨kb, 1, none⟩ ⟨kb, 0, none⟩ _ (by simp)).trans h0)
  have hnot : ∀ (x : Bool) (w : World), (Op.unary .not (.bool x)).run Tryz.prog w = .ok (.bool (!x)) w := fun _ _ => rfl
  have HF := Lib.hid hf
  have HZ := Lib.hid hz
  have f1 := hz 1 (by decide)
  clear hf hz
  go_enter_defers Tryz.func132, Tryz.ntmps132
  go_wp2_with (go_at_call 148; refine (lock_free ⟨kb, 1, none⟩ _ h1 f1).mono ?_; rintro e w' ⟨rfl, rfl⟩)
  go_wp2
  refine HF.out.mono ?_
  rintro e W ⟨⟨v, rfl⟩, hR, hb⟩
  have hb1 : W.cell? ⟨kb, 1, none⟩ = some (.int .i32 1) := (cell_of_heap (a := ⟨kb, 1, none⟩) hb).1.trans (World.cell?_setCell_same w _ _ h1)
  have hb0 : W.cell? ⟨kb, 0, none⟩ = some (.int .u32 0) := (cell_of_heap (a := ⟨kb, 0, none⟩) hb).1.trans ((World.cell?_setCell_other _ ⟨kb, 1, none⟩ ⟨kb, 0, none⟩ _ (by simp)).trans h0)
  have hbz : ∀ o, o < 2 → W.frozen? ⟨kb, o, none⟩ = false := fun o ho => by rw [(cell_of_heap (a := ⟨kb, o, none⟩) hb).2, World.frozen?_setCell]; exact HZ.out o ho
  have HR := Lib.hid hR
  have HBZ := Lib.hid hbz
  clear hR hbz hb
  go_wp2
  refine leaves_cons (f := 150) (args := #[.pointer (some ⟨kb, 0, none⟩), .bool true]) (by simp) (by simp [go_sem]) ?_
  refine (store_deferred ⟨kb, 0, none⟩ (.int .u32 0) .returning _ hb0 (HBZ.out 0 (by decide))).mono ?_
  rintro e u' w'' ⟨rfl, rfl, rfl⟩
  refine leaves_cons (f := 149) (args := #[.pointer (some ⟨kb, 1, none⟩)]) (by simp [settle]) (by simp [go_sem]) ?_
  refine (unlock_deferred ⟨kb, 1, none⟩ _ _ ?_ (by rw [World.frozen?_setCell]; exact HBZ.out 1 (by decide))).mono ?_
  · exact (World.cell?_setCell_other _ ⟨kb, 0, none⟩ ⟨kb, 1, none⟩ _ (by simp)).trans (by rw [World.cell?_drew]; exact hb1)
  rintro e u' w'' ⟨rfl, rfl, rfl⟩
  simp [Leaves, settle, results, Tryz.results132]
  exact ⟨W, HR.out, rfl⟩
theorem once_ok {kb g : Nat} {lb : Array Value} {w : World} {R : World → Prop} (h0 : w.cell? ⟨kb, 0, none⟩ = some (.int .u32 0)) (h1 : w.cell? ⟨kb, 1, none⟩ = some (.int .i32 0)) (hz : ∀ o, o < 2 → w.frozen? ⟨kb, o, none⟩ = false)
    (eg : ∀ args w, (callFunc g args).run Tryz.prog w = .ok (.enter g args) w)
    (hf : Calls Tryz.prog g lb (w.setCell ⟨kb, 1, none⟩ (.int .i32 1)) fun e W => (∃ v, e = .returned v) ∧ R W ∧ W.heap[kb]? = (w.setCell ⟨kb, 1, none⟩ (.int .i32 1)).heap[kb]?) :
    Calls Tryz.prog 100 #[.pointer (some ⟨kb, 0, none⟩), .func (.func g) #[] lb] w fun e w' => e = .returned (.tuple #[]) ∧ ∃ W, R W ∧ w' = onceEnd W kb := by
  have S := Lib.hid (slow_ok (R := R) h0 h1 hz eg hf)
  have hl := run_call_load (P := Tryz.prog) Tryz.func147 (by kernel_rfl) (by kernel_rfl) (by kernel_rfl) .u32 (by kernel_rfl) h0
  have hnot : ∀ (x : Bool) (w : World), (Op.unary .not (.bool x)).run Tryz.prog w = .ok (.bool (!x)) w := fun _ _ => rfl
  clear hf
  go_enter Tryz.func100, Tryz.ntmps100
  go_wp2_with (first | (go_at_call 132; refine S.out.mono ?_; rintro e w' ⟨rfl, W, hR, rfl⟩; have HR := Lib.hid hR; clear hR) | (go_at_call 131; go_in))
  go_end0
  exact ⟨rfl, W, HR.out, rfl⟩
theorem once_done {a : Addr} {d : Int} (hd : ¬ d = 0) (fv : Value) {w : World} (h0 : w.cell? a = some (.int .u32 d)) :
    Calls Tryz.prog 100 #[.pointer (some a), fv] w fun e w' => e = .returned (.tuple #[]) ∧ w' = w := by
  have hl := run_call_load (P := Tryz.prog) Tryz.func147 (by kernel_rfl) (by kernel_rfl) (by kernel_rfl) .u32 (by kernel_rfl) h0
  have hnot : ∀ (x : Bool) (w : World), (Op.unary .not (.bool x)).run Tryz.prog w = .ok (.bool (!x)) w := fun _ _ => rfl
  have hd' : (d != 0) = true := by simp [hd]
  go_enter Tryz.func100, Tryz.ntmps100
  go_wp2
  go_end0
  exact ⟨rfl, rfl⟩
end Go.Tb
namespace Go.Tb
open Go Go.RowKit Go.Proofs Go.Maps
attribute [local go_sem] Oper.semAt_some
def ents (f : Nat → Nat) : Nat → List (Nat × Nat)
  | 0 => []
  | k + 1 => if 0 < f k then ents f k ++ [(k, f k)] else ents f k
theorem ents_len (f : Nat → Nat) : ∀ k, (ents f k).length ≤ k
  | 0 => Nat.le_refl _
  | k + 1 => by
    have := ents_len f k
    unfold ents
    split
    · simp; omega
    · omega
theorem mem_ents {f : Nat → Nat} {p s : Nat} : ∀ {k}, (p, s) ∈ ents f k ↔ p < k ∧ s = f p ∧ 0 < f p
  | 0 => by simp [ents]
  | k + 1 => by
    have ih := mem_ents (f := f) (p := p) (s := s) (k := k)
    unfold ents
    split
    · rename_i h
      simp only [List.mem_append, ih, List.mem_singleton, Prod.mk.injEq]
      constructor
      · rintro (⟨h1, h2, h3⟩ | ⟨rfl, rfl⟩)
        · exact ⟨by omega, h2, h3⟩
        · exact ⟨by omega, rfl, h⟩
      · rintro ⟨h1, rfl, h3⟩
        by_cases e : p = k
        · subst e; exact .inr ⟨rfl, rfl⟩
        · exact .inl ⟨by omega, rfl, h3⟩
    · rename_i h
      rw [ih]
      constructor
      · rintro ⟨h1, h2⟩; exact ⟨by omega, h2⟩
      · rintro ⟨h1, h2, h3⟩
        by_cases e : p = k
        · subst e; exact absurd h3 h
        · exact ⟨by omega, h2, h3⟩
def enc2 (x : Nat × Nat) : Array Value := #[.int .i64 (x.1 : Int), .int .i64 (x.2 : Int)]
def Keep2 (mb pb : Nat) (A B : World) : Prop := B.heap[mb]? = A.heap[mb]? ∧ B.heap[pb]? = A.heap[pb]?
theorem Keep2.trans {mb pb : Nat} {A B C : World} (h : Keep2 mb pb A B) (k : Keep2 mb pb B C) : Keep2 mb pb A C := ⟨k.1.trans h.1, k.2.trans h.2⟩
theorem all1_stops {w0 : World} {mb pb n : Nat} {f : Nat → Nat} (hn : 1 ≤ n) (hm : MapV w0 mb f) (hp : Boxed w0 pb 73 (.pointer (some ⟨mb, 0, none⟩))) :
    SeqStopsK Fence.wide n Tryz.prog 118 #[.pointer (some ⟨pb, 0, none⟩)] enc2 (Keep2 mb pb) (fun xs => xs = ents f 1024) (fun _ => True) 1024 w0 := by
  intro l J Jx W hW hJ hJx hY h0
  have hml : mb < w0.heap.size := cell_lt' (hm.at (i := 0) (by decide)).1
  have hpl := hp.lt
  have hm1 : MapV W mb f := hm.keep (hW.block mb hml)
  have hp1 : Boxed W pb 73 (.pointer (some ⟨mb, 0, none⟩)) := (hW.block pb hpl).trans hp
  clear hm hp hW
  refine callsIn_of_wp Tryz.func118 rfl trivial ?_ rfl
  simp only [Tryz.ntmps118, List.size_toArray, List.length_cons, List.length_nil, Nat.reduceAdd, Nat.reduceSub, Array.replicate_succ, Array.replicate_zero, List.push_toArray, List.append_toArray, List.nil_append, List.cons_append]
  gi_wp2
  gi_loopw [4] (fun i wr => ∃ k : Nat, k ≤ 1024 ∧ i = .int .i64 k ∧ J (ents f k) wr ∧ Keep2 mb pb W wr) (fun i _ => 1024 - (Go.RowKit.intOf i).toNat)
  case atStart => exact ⟨0, Nat.zero_le _, rfl, h0, rfl, rfl⟩
  case round =>
    obtain ⟨k, hk, rfl, hJk, hK1, hK2⟩ := hrel
    by_cases e : k = 1024
    · subst e
      gi_wp2_with fail
      go_end0
      exact ⟨⟨_, rfl⟩, .inl ⟨_, rfl, hJk⟩⟩
    · have hk1 : k < 1024 := by omega
      have hki : (k : Int) < 1024 := by omega
      have hm2 := hm1.keep hK1
      have hp2 : Boxed wr pb 73 (.pointer (some ⟨mb, 0, none⟩)) := hK2.trans hp1
      obtain ⟨c0, cz, c1⟩ := hm2.at hk1
      have pc := hp2.cell
      have pl := hp2.lt
      have ml := cell_lt' c0
      have H := has_ok hm2 hk1
      have i0 : (0 : Int) ≤ (k : Int) := by omega
      have hw : IntKind.i64.wrap (f k : Int) = (f k : Int) := by rw [IntKind.wrap_i64]; omega
      clear hm2 hp2
      by_cases hf : 0 < f k
      · have hst : ents f (k + 1) = ents f k ++ [(k, f k)] := by simp [ents, hf]
        obtain ⟨fn, tmps, assign, body, hy, hR⟩ := hY (ents f k) (k, f k) wr hJk (Nat.lt_of_le_of_lt (ents_len f k) hk1)
        rw [decide_eq_true hf] at H
        have hy : (Instr.yield l #[.int .i64 (k : Int), .int .i64 (f k : Int)]).run Tryz.prog wr = .ok (.round l fn tmps assign body) wr := hy
        gi_wp2_with fail
        refine ⟨trivial, (callsIn_wide.2 H).mono ?_⟩
        rintro e w' ⟨rfl, rfl⟩
        gi_wp2
        refine hR.mono ?_
        rintro e W3 (⟨rfl, hJ3, hk3⟩ | ⟨rfl, hJx3⟩)
        · have hst' : J (ents f (k + 1)) W3 := by rw [hst]; exact hJ3
          have hKK := Keep2.trans ⟨hK1, hK2⟩ hk3
          gi_wp2
          go_roundw
          case rel => exact ⟨k + 1, by omega, by simp, hst', hKK⟩
          case measure => simp [Go.RowKit.intOf]; omega
        · gi_wp2
          refine bodyPost_ret (results_none rfl _ _ _) rfl ?_
          exact ⟨⟨_, rfl⟩, .inr ⟨_, trivial, hJx3⟩⟩
      · rw [decide_eq_false hf] at H
        have hst : ents f (k + 1) = ents f k := by simp [ents, hf]
        gi_wp2_with fail
        refine ⟨trivial, (callsIn_wide.2 H).mono ?_⟩
        rintro e w' ⟨rfl, rfl⟩
        gi_wp2
        refine ⟨(fun _ h => by cases h), ?_⟩
        gi_wp2_with fail
        go_roundw
        case rel => exact ⟨k + 1, by omega, by simp, by rw [hst]; exact hJk, hK1, hK2⟩
        case measure => simp [Go.RowKit.intOf]; omega
theorem all_ok (mb : Nat) (w : World) : Calls Tryz.prog 92 #[.pointer (some ⟨mb, 0, none⟩)] w fun e w' => e = .returned (.func (.func 118) #[] #[.pointer (some ⟨w.heap.size, 0, none⟩)]) ∧ w' = w.alloc (.cells #[.pointer (some ⟨mb, 0, none⟩)] 73) := by
  go_enter Tryz.func92, Tryz.ntmps92
  go_wp2
  go_ret
  exact ⟨rfl, rfl⟩
end Go.Tb
namespace Go.Tb
open Go Go.RowKit Go.Proofs Go.Maps
attribute [local go_sem] Oper.semAt_some
theorem enters118 : ∀ args w, (callFunc 118 args).run Tryz.prog w = .ok (.enter 118 args) w := enters_of' Tryz.func118 (by kernel_rfl) (by kernel_rfl)
theorem i3' : ∃ i : TypeInfo, Tryz.prog.info? 3 = some i ∧ i.size = 1 ∧ i.bytes = 8 ∧ i.zero = some (.int .i64 0) := by
  have : (Tryz.prog.info? 3).map (fun i => (i.size, i.bytes, i.zero)) = some (1, 8, some (.int .i64 0)) := by kernel_rfl
  obtain ⟨i, hi, hi2⟩ := Option.map_eq_some_iff.1 this
  injection hi2 with h1 h2
  injection h2 with h2 h3
  exact ⟨i, hi, h1, h2, h3⟩
def encI (x : Nat) : Value := .int .i64 (x : Int)
theorem secs_ok {w : World} {mb : Nat} {f : Nat → Nat} (hm : MapV w mb f) :
    Calls Tryz.prog 87 #[.pointer (some ⟨mb, 0, none⟩)] w fun e w' => ∃ v, e = .returned v ∧ w'.ownsRow w.heap.size 3 1 v (ents f 1024).length ((ents f 1024).map fun x => encI x.2) ∧ Below w.heap.size w w' := by
  have hml : mb < w.heap.size := cell_lt' (hm.at (i := 0) (by decide)).1
  obtain ⟨i, hi, i1, i2, i3⟩ := i3'
  have A := fun w => all_ok mb w
  refine (callsIn_wide (n := 5)).1 ?_
  refine callsIn_of_wp_marks Tryz.func87 rfl trivial ?_ rfl
  simp only [Tryz.ntmps87, List.size_toArray, List.length_cons, List.length_nil, Nat.reduceAdd, Nat.reduceSub, Array.replicate_succ, Array.replicate_zero, List.push_toArray, List.append_toArray, List.nil_append, List.cons_append]
  gi_wp2_with fail
  refine ⟨trivial, (callsIn_wide.2 (A _)).mono ?_⟩
  rintro e w1 ⟨rfl, rfl⟩
  gi_wp2_with fail
  obtain ⟨W0, hW0⟩ : ∃ W0, (w.alloc (.cells #[.slice none 0 0] 38)).alloc (.cells #[.pointer (some ⟨mb, 0, none⟩)] 73) = W0 := ⟨_, rfl⟩
  have hsz : W0.heap.size = w.heap.size + 2 := by rw [← hW0]; simp
  have hbp : Boxed W0 (w.heap.size + 1) 73 (.pointer (some ⟨mb, 0, none⟩)) := by
    rw [← hW0]; have := Boxed.new (w.alloc (.cells #[.slice none 0 0] 38)) 73 (.pointer (some ⟨mb, 0, none⟩)); simpa using this
  have hbs : Boxed W0 w.heap.size 38 (.slice none 0 0) := by rw [← hW0]; exact (Boxed.new w 38 _).alloc _
  have hbel : Below w.heap.size w W0 := by rw [← hW0]; exact ((Below.refl _ w).alloc (Nat.le_refl _) _).alloc (by simp) _
  have hm0 : MapV W0 mb f := hm.keep (hbel.block mb hml)
  rw [hW0]
  clear hW0 A hm
  have HM0 := Lib.hid hm0
  have HBS := Lib.hid hbs
  have HBP := Lib.hid hbp
  have HSZ := Lib.hid hsz
  have HBEL := Lib.hid hbel
  have HI := Lib.hid hi
  clear hm0 hbs hbp hsz hbel hi
  have hwW : w.heap.size ≤ W0.heap.size := HBEL.out.size
  refine wpIn_rangeFunc_ownG rfl (by decide) (gf := 118) (lb := #[.pointer (some ⟨w.heap.size + 1, 0, none⟩)]) rfl trivial enters118 (encs := enc2) (Kp := Keep2 mb (w.heap.size + 1))
    (all1_stops (by decide) HM0.out HBP.out) Keep2.trans (fun W l o o' hl ho hc hw => by
      have := HSZ.out
      exact ⟨World.putObj_heap_other (by omega), World.putObj_heap_other (by omega)⟩) (Below.refl _ _) (fun _ => rfl)
    (fun (xs : List (Nat × Nat)) W => (∃ v, Boxed W w.heap.size 38 v ∧ W.ownsRow w.heap.size 3 1 v xs.length (xs.map fun x => encI x.2) ∧ True) ∧ Below w.heap.size w W ∧ Boxed W (w.heap.size + 1) 73 (.pointer (some ⟨mb, 0, none⟩)))
    (fun _ _ _ => False)
    (OwnFrom.and (Own.from (holdsRow_own w.heap.size w.heap.size 38 3 1 (fun (xs : List (Nat × Nat)) => xs.length) (fun xs => xs.map fun x => encI x.2) (fun _ _ => True)) _)
      (OwnFrom.and (ownFrom_below (Nat.le_refl _) hwW) (fun s A B row hs hg hr => (hs.kept hg (fun e => by obtain ⟨h1, o, h2, h3⟩ := hr _ e.symm; rw [show A.heap[w.heap.size + 1]? = _ from hs] at h2; cases h2; cases h3)))))
    (fun _ _ _ _ _ hs _ _ => hs)
    ⟨⟨_, HBS.out, ⟨rfl, .inl ⟨rfl, rfl⟩⟩, trivial⟩, HBEL.out, HBP.out⟩
    (fun x => { tmps := #[.pointer (some ⟨mb, 0, none⟩), undef, .slice none 0 0, .pointer (some ⟨w.heap.size, 0, none⟩), undef, .int .i64 (x.2 : Int), .pointer (some ⟨mb, 0, none⟩), .func (.func 118) #[] #[.pointer (some ⟨w.heap.size + 1, 0, none⟩)], .int .i64 (x.1 : Int), .int .i64 (x.2 : Int), undef, undef, undef, undef, undef], defers := [] }) ?assign ?body ?done ?stop
  case assign =>
    intro l x W K hK
    simp only [enc2]
    gi_wp2_with (rw [Oper.semAt_eq _ _ _ (fun c h => by cases h)]; go_simp; try go_bits)
    exact hK
  case body =>
    rintro l pre x W ⟨⟨v, hv, ho, _⟩, hB, hP⟩ hlt
    have hvc := hv.cell
    have hvf := hv.frozen
    have hvl := hv.lt
    have HV := Lib.hid hv
    have HO := Lib.hid ho
    have HB := Lib.hid hB
    have HP := Lib.hid hP
    have HL := Lib.hid hlt
    clear hv ho hB hP hlt
    gi_wp2_with (first
      | (gi_at_builtin; refine wpListIn_append_own _ rfl _ _ 38 rfl w.heap.size 3 i (.int .i64 0) 1 8 Tryz.underlying38 HI.out i3 i1 i2 rfl (by decide) _ _ _ rfl (HO.out.alloc _) ⟨W.heap.size, 0, none⟩ 1 1 [.int .i64 (x.2 : Int)] rfl rfl (cell_one_new _ _ _) (by simp [Value.oneCell']) (Nat.le_trans (show pre.length + 1 ≤ 1024 from HL.out) (by decide)) (by have := HL.out; omega) (by have := HB.out.size; simp; omega) ?_; intro v' w3 hown' hg3 hnil3
         have hA := Boxed.appended HV.out (by decide) HO.out HB.out.size (Nat.le_refl _) hown' hg3
         obtain ⟨q1, q2, q3, q4, q5⟩ := hA
         have hc3 := q1.cell
         have hf3 := q1.frozen
         have hl3 := q1.lt
         have hbk : ∀ (B : Nat) (t : TypeId) (u : Value), t ≠ 3 → B ≠ w.heap.size → Boxed W B t u → Boxed (w3.setCell ⟨w.heap.size, 0, none⟩ v') B t u := fun B t u ht hBn h => (heap_setCell_other w3 (⟨w.heap.size, 0, none⟩ : Addr) B v' hBn).trans ((h.alloc _).kept hg3 (h.not_row ht HO.out))
         have HBK := Lib.hid hbk
         have Q2 := Lib.hid q2
         have Q3 := Lib.hid q3
         have Q4 := Lib.hid q4
         have Q5 := Lib.hid q5
         obtain ⟨a', c', rfl⟩ := own_slice hown'
         clear hbk q2 q3 q4 q5 hown' hnil3 hg3)
      | (rw [Oper.semAt_eq _ _ _ (fun c h => by cases h)]; go_simp; try go_bits))
    have hP3 := HBK.out _ _ _ (by decide) (by omega) HP.out
    exact ⟨Q4.out.from _, ⟨Q5.out.block mb hml, hP3.trans HP.out.symm⟩, ⟨_, Q2.out, by simpa [encI] using Q3.out, trivial⟩, Below.trans HB.out Q5.out, hP3⟩
  case done =>
    rintro D ys W hD rfl ⟨⟨v, hv, ho, _⟩, hB, hP⟩ hK
    have hvc := hv.cell
    have hvf := hv.frozen
    have hvl := hv.lt
    obtain ⟨a3, c3, rfl⟩ := own_slice ho
    have hB' := hB
    have HO := Lib.hid ho
    clear ho
    generalize hle : (ents f 1024).length = len at *
    gi_wp2_with fail
    refine ⟨by simp, .inl ⟨_, _, rfl, run_takeDeferred hK, ?_⟩⟩
    subst hle
    refine ⟨_, results_tmp rfl _ _ _, .slice a3 _ c3, rfl, HO.out.kept (grownBy_putObj' W D _) ?_, hB'.grown (grownBy_putObj' W D _) hB'.size (fun k e => by cases e; omega)⟩
    rcases HO.out.2 with ⟨h1, _⟩ | ⟨g, cap, cur, h1, _, hh, _⟩
    · exact .inl (by rw [h1]; rfl)
    · refine .inr fun e => ?_
      rw [h1] at e; simp [Value.ownBlock] at e
      subst e; rw [hK] at hh; cases hh
  case stop =>
    rintro D c pre W _ _ h _
    exact h.elim
end Go.Tb
namespace Go.Tb
open Go Go.RowKit Go.Proofs Go.Maps
structure RmV (w : World) (qb sb db rb ob N : Nat) (fr fo pt : Nat → Nat) : Prop where
  bx : Boxed w qb 24 (.pointer (some ⟨sb, 0, none⟩))
  s0 : w.cell? ⟨sb, 0, none⟩ = some (.pointer (some ⟨db, 0, none⟩))
  sp : ∀ i, i < 9 → w.cell? ⟨sb, 3 + i, none⟩ = some (.int .i64 (pt i : Int)) ∧ pt i < 65536
  s13 : w.cell? ⟨sb, 13, none⟩ = some (.pointer (some ⟨rb, 0, none⟩))
  s14 : w.cell? ⟨sb, 14, none⟩ = some (.pointer (some ⟨ob, 0, none⟩))
  s16 : ∃ v, w.cell? ⟨sb, 16, none⟩ = some v
  sz : ∀ o, o < 17 → w.frozen? ⟨sb, o, none⟩ = false
  d0 : ∃ a c, w.cell? ⟨db, 0, none⟩ = some (.slice a N c)
  N : N ≤ 65536
  mo : MapV w ob fo
  mr : MapV w rb fr
  ne : qb ≠ sb ∧ db ≠ sb ∧ rb ≠ sb ∧ ob ≠ sb
theorem wpList_insert_held {P : Program} (w : World) {ops : Array Oper} {rest : List Oper} {o : Oper} {a : Act} {Q : Exit → Act → World → Prop}
    (hg : o.guard = none) (m x v : Operand) (t : TypeId) (hop : o.op = Op.insert t m x v)
    (k e : TypeId) (K : Keyed P k) (ht : P.underlying t = some (.map k e)) (b n : Nat) (D : DataW Value)
    (hm : a.eval m = .map (some b)) (hown : w.ownsMap P k heldR b n D) (hn : n < maxLen) (key val : Value) (kl : Lit) (hx : a.eval x = key) (hv : a.eval v = val) (hkey : keyOf P k key = some kl)
    (hK : ∀ w', w'.ownsMap P k heldR b (n + 1) (D.put kl (.held val)) → w.grownBy w' (some b) → wpList P ops Q rest (a.put o.dst undef) w') :
    wpList P ops Q (o :: rest) a w := by
  refine wpList_plain hg fun K' hK' => ?_
  obtain ⟨w', hrun, r1, r2⟩ := hown.update K ht hn hkey (d := .held val) (ps := []) rfl
  unfold Oper.wp
  simp [execOp, hop, hm, hx, hv, hrun, Result.andThen]
  exact hK' _ _ (hK w' r1 r2)
theorem Below.allocs {w x : World} (h : Below w.heap.size w x) (o : Obj) : Below w.heap.size w (x.alloc o) := h.alloc h.size _
def RR (W : World) (v : Value) (l : List Nat) : Prop := ∃ a c, v = .slice a l.length c ∧ ∀ (j x : Nat), l[j]? = some x → ∃ ad : Addr, a = some ad ∧ W.cell? (ad.add j) = some (encI x)
theorem RR.of {W W' : World} {v : Value} {l : List Nat} (h : RR W v l) (hk : ∀ a u, W.cell? a = some u → W'.cell? a = some u) : RR W' v l := by
  obtain ⟨a, c, e, hc⟩ := h
  exact ⟨a, c, e, fun j x hj => by obtain ⟨ad, e2, h2⟩ := hc j x hj; exact ⟨ad, e2, hk _ _ h2⟩⟩
theorem cell_lt2 {w : World} {b o : Nat} {s} {v : Value} (h : w.cell? ⟨b, o, s⟩ = some v) : b < w.heap.size := by
  by_cases hb : b < w.heap.size
  · exact hb
  · simp [World.cell?, Array.getElem?_eq_none (Nat.le_of_not_lt hb)] at h
theorem cells_below {W W' : World} (h : Below W.heap.size W W') : ∀ a u, W.cell? a = some u → W'.cell? a = some u := fun a u hu => by
  obtain ⟨b, o, s⟩ := a
  by_cases hb : b < W.heap.size
  · have := h.block b hb
    simp only [World.cell?, this] at hu ⊢; exact hu
  · simp [World.cell?, Array.getElem?_eq_none (Nat.le_of_not_lt hb)] at hu
theorem RR.row {W : World} {base n : Nat} {v : Value} {l : List Nat} (hn : l.length = n) (h : W.ownsRow base 3 1 v n (l.map encI)) : RR W v l := by
  subst hn
  rcases h.2 with ⟨rfl, h0⟩ | ⟨g, cap, cur, rfl, _⟩
  · refine ⟨none, 0, by rw [h0], fun j x hj => ?_⟩
    have : l = [] := List.length_eq_zero_iff.1 h0
    subst this; simp at hj
  · exact ⟨_, _, rfl, fun j x hj => ⟨_, rfl, h.cells rfl j (encI x) (by simp [hj])⟩⟩
def secs (f : Nat → Nat) : List Nat := (ents f 1024).map (·.2)
theorem mem_secs {f : Nat → Nat} {s : Nat} : s ∈ secs f ↔ 0 < s ∧ ∃ p, p < 1024 ∧ f p = s := by
  unfold secs
  rw [List.mem_map]
  constructor
  · rintro ⟨⟨p, s'⟩, h, rfl⟩
    obtain ⟨h1, h2, h3⟩ := mem_ents.1 h
    exact ⟨by simp only; omega, p, h1, h2.symm⟩
  · rintro ⟨h0, p, hp, rfl⟩
    exact ⟨(p, f p), mem_ents.2 ⟨hp, rfl, h0⟩, rfl⟩
theorem secs_len (f : Nat → Nat) : (secs f).length ≤ 1024 := by unfold secs; rw [List.length_map]; exact ents_len f 1024
theorem secs_rr {x : World} {mb : Nat} {f : Nat → Nat} (hm : MapV x mb f) : Calls Tryz.prog 87 #[.pointer (some ⟨mb, 0, none⟩)] x fun e w' => ∃ a c, e = .returned (.slice a (secs f).length c) ∧ RR w' (.slice a (secs f).length c) (secs f) ∧ Below x.heap.size x w' := by
  refine (secs_ok hm).mono ?_
  rintro e w' ⟨v, rfl, ho, hb⟩
  have h := RR.row (W := w') (v := v) (l := secs f) (n := (ents f 1024).length) (by simp [secs]) (by unfold secs; rw [List.map_map]; exact ho)
  obtain ⟨a, c, rfl, hc⟩ := h
  exact ⟨a, c, rfl, ⟨a, c, rfl, hc⟩, hb⟩
theorem RmV.keep {w w' : World} {qb sb db rb ob N : Nat} {fr fo pt : Nat → Nat} (H : RmV w qb sb db rb ob N fr fo pt) (hb : Below w.heap.size w w') : RmV w' qb sb db rb ob N fr fo pt := by
  have hc := cells_below hb
  have hq := H.bx.lt
  have hs : sb < w.heap.size := cell_lt' H.s0
  have ho : ob < w.heap.size := cell_lt' (H.mo.at (i := 0) (by decide)).1
  have hr : rb < w.heap.size := cell_lt' (H.mr.at (i := 0) (by decide)).1
  exact { bx := (hb.block qb hq).trans H.bx, s0 := hc _ _ H.s0, sp := fun i hi => ⟨hc _ _ (H.sp i hi).1, (H.sp i hi).2⟩, s13 := hc _ _ H.s13, s14 := hc _ _ H.s14, s16 := H.s16.imp fun v h => hc _ _ h, sz := fun o ho => by rw [(cell_of_heap (a := ⟨sb, o, none⟩) (hb.block sb hs)).2]; exact H.sz o ho, d0 := (by obtain ⟨a, c, h⟩ := H.d0; exact ⟨a, c, hc _ _ h⟩), N := H.N, mo := H.mo.keep (hb.block ob ho), mr := H.mr.keep (hb.block rb hr), ne := H.ne }
end Go.Tb
namespace Go.Tb
open Go Go.RowKit Go.Proofs Go.Maps
structure Exc (B b : Nat) (W W' : World) : Prop where
  os : W'.os = W.os
  tape : W'.tape = W.tape
  output : W'.output = W.output
  size : W.heap.size ≤ W'.heap.size
  block : ∀ k, k < B → k ≠ b → W'.heap[k]? = W.heap[k]?
theorem Exc.refl (B b : Nat) (W : World) : Exc B b W W := ⟨rfl, rfl, rfl, Nat.le_refl _, fun _ _ _ => rfl⟩
theorem Exc.trans {B b : Nat} {X Y Z : World} (h : Exc B b X Y) (k : Exc B b Y Z) : Exc B b X Z :=
  ⟨k.os.trans h.os, k.tape.trans h.tape, k.output.trans h.output, Nat.le_trans h.size k.size, fun i h1 h2 => (k.block i h1 h2).trans (h.block i h1 h2)⟩
theorem Exc.of_grownBy {B b : Nat} {W W' : World} (hB : B ≤ W.heap.size) (hg : W.grownBy W' (some b)) : Exc B b W W' :=
  ⟨hg.os, hg.tape, hg.output, hg.size, fun k h1 h2 => hg.block k (Nat.lt_of_lt_of_le h1 hB) (fun e => h2 (by cases e; rfl))⟩
theorem Exc.of_below {B b : Nat} {W W' : World} (h : Below B W W') : Exc B b W W' := ⟨h.os, h.tape, h.output, h.size, fun k h1 _ => h.block k h1⟩
theorem Exc.cell {B b : Nat} {W W' : World} (h : Exc B b W W') {k o : Nat} {s} (h1 : k < B) (h2 : k ≠ b) : W'.cell? ⟨k, o, s⟩ = W.cell? ⟨k, o, s⟩ := by simp only [World.cell?, h.block k h1 h2]
theorem cells_exc {b : Nat} {W W' : World} (h : Exc W.heap.size b W W') {es : Array MapEntry} {c : Nat} (hm : W.heap[b]? = some (.map es c)) : ∀ a u, W.cell? a = some u → W'.cell? a = some u := fun a u hu => by
  obtain ⟨k, o, s⟩ := a
  by_cases e : k = b
  · subst e; simp [World.cell?, hm] at hu
  · rw [h.cell (cell_lt2 hu) e]; exact hu
structure TK (D : DataW Value) (K : List Nat) : Prop where
  isMap : IsMap D
  has : ∀ x : Nat, Maps.has D (.int .i64 (x : Int)) = decide (x ∈ K)
  val : ∀ x : Nat, x ∈ K → ∀ z, D.atKey (.int .i64 (x : Int)) z = .held (.int .i64 1)
theorem TK.empty : TK (.map []) [] := ⟨isMap_empty, fun x => by simp [Maps.has], fun x h => by simp at h⟩
theorem nat_lit_ne {x y : Nat} (h : x ≠ y) : Lit.int .i64 (x : Int) ≠ .int .i64 (y : Int) := fun e => h (by injection e with _ e; exact Int.ofNat.inj e)
theorem TK.put {D : DataW Value} {K : List Nat} (h : TK D K) (y : Nat) : TK (D.put (.int .i64 (y : Int)) (.held (.int .i64 1))) (K ++ [y]) := by
  refine ⟨h.isMap.put _ _, fun x => ?_, fun x hx z => ?_⟩
  · by_cases e : x = y
    · subst e; rw [has_put_same h.isMap (show WideAt.IsKeyLit (.int .i64 (x : Int)) from trivial)]; simp
    · rw [has_put_other (nat_lit_ne e), h.has]; simp [e]
  · by_cases e : x = y
    · subst e; rw [atKey_put_same h.isMap (show WideAt.IsKeyLit (.int .i64 (x : Int)) from trivial)]
    · rw [atKey_put_other (nat_lit_ne e)]
      exact h.val x (by simpa [e] using hx) z
theorem TK.look {w : World} {b n : Nat} {D : DataW Value} {K : List Nat} (h : TK D K) (ho : w.ownsMap Tryz.prog 3 heldR b n D) {x : Nat} (hx : x < 2 ^ 62) :
    (Instr.lookup 161 (.map (some b)) (.int .i64 (x : Int)) false).run Tryz.prog w = .ok (.int .i64 (if x ∈ K then 1 else 0)) w := by
  obtain ⟨v, h1, h2⟩ := held_look ho key3 Tryz.underlying161 (Tryz.zeroValue3 w) (key_nat hx)
  rw [h1]
  by_cases e : x ∈ K
  · rw [h.val x e] at h2
    injection h2 with h2
    simp [e, ← h2]
  · rw [atKey_of_not_has (by rw [h.has]; simp [e])] at h2
    injection h2 with h2
    simp [e, ← h2]
theorem step_append_own {P : Program} {ops : Array Oper} {o : Oper} {a : Act} {w : World} {K : Act → World → Prop} {Q : Exit → Act → World → Prop} {E : Prop} (hgd : o.guard = none) (s x : Operand) (t : TypeId)
    (ho : o.op = .call { callee := .builtin .append, args := #[s, x], argTypes := #[t, t] })
    (base : Nat) (e : TypeId) (i : TypeInfo) (z : Value) (size bytes : Nat) (ht : P.underlying t = some (.slice e)) (hi : P.info? e = some i) (hz : i.zero = some z)
    (hsize : i.size = size) (hby : i.bytes = bytes) (hzs : z.cells.size = size) (hsz : 0 < size)
    (v : Value) (n : Nat) (xs : List Value) (hs : a.eval s = v) (hown : w.ownsRow base e size v n xs)
    (ad : Addr) (m c : Nat) (news : List Value) (hx : a.eval x = .slice (some ad) m c) (hl : news.length = m * size) (hnews : ∀ j u, news[j]? = some u → w.cell? (ad.add j) = some u) (h1 : ∀ u ∈ news, u.oneCell' = true)
    (h63 : n + m ≤ maxLen) (hbytes : (n + m) * bytes ≤ 140737488355328) (hbase : base ≤ w.heap.size)
    (h : ∀ v' w', w'.ownsRow base e size v' (n + m) (xs ++ news) → w.grownBy w' v.ownBlock → (v' = .slice none 0 0 ↔ v = .slice none 0 0 ∧ m = 0) → K (a.put o.dst v') w') : if Region.wanted o (yielded ops a.tmps) = true then Oper.wp P o a w K Q else E := by
  have hw : Region.wanted o (yielded ops a.tmps) = true := by simp [Region.wanted, hgd]
  rw [if_pos hw]
  exact wp_append_own w s x t ho base e i z size bytes ht hi hz hsize hby hzs hsz v n xs hs hown ad m c news hx hl hnews h1 h63 hbytes hbase h
end Go.Tb
namespace Go.Tb
open Go Go.RowKit Go.Proofs Go.Maps
def lst (fr fo pt : Nat → Nat) : Nat → List Nat
  | 0 => secs fr
  | 1 => secs fo
  | _ => (List.range 9).map pt
theorem lst_lt {fr fo pt : Nat → Nat} (h1 : ∀ i, i < 1024 → fr i < 65536) (h2 : ∀ i, i < 1024 → fo i < 65536) (h3 : ∀ i, i < 9 → pt i < 65536) : ∀ k x, x ∈ lst fr fo pt k → x < 65536
  | 0, x, h => by obtain ⟨_, p, hp, rfl⟩ := mem_secs.1 h; exact h1 p hp
  | 1, x, h => by obtain ⟨_, p, hp, rfl⟩ := mem_secs.1 h; exact h2 p hp
  | _ + 2, x, h => by obtain ⟨i, hi, rfl⟩ := List.mem_map.1 h; exact h3 i (List.mem_range.1 hi)
theorem lst_len (fr fo pt : Nat → Nat) : ∀ k, (lst fr fo pt k).length ≤ 1024
  | 0 => secs_len fr
  | 1 => secs_len fo
  | _ + 2 => by simp [lst]
def keys (L : Nat → List Nat) : Nat → List Nat
  | 0 => [0, 1]
  | k + 1 => keys L k ++ L k
def freeL (K : List Nat) (k : Nat) : List Nat := (List.range k).filter fun x => !decide (x ∈ K)
theorem freeL_succ (K : List Nat) (k : Nat) : freeL K (k + 1) = freeL K k ++ (if k ∈ K then [] else [k]) := by
  unfold freeL
  rw [List.range_succ, List.filter_append]
  by_cases h : k ∈ K <;> simp [h]
theorem freeL_len (K : List Nat) (k : Nat) : (freeL K k).length ≤ k := by
  have := List.length_filter_le (fun x => !decide (x ∈ K)) (List.range k)
  simpa [freeL] using this
theorem sectorsN_ok {w : World} {db N : Nat} {a : Option Addr} {c : Nat} (h : w.cell? ⟨db, 0, none⟩ = some (.slice a N c)) :
    Calls Tryz.prog 82 #[.pointer (some ⟨db, 0, none⟩)] w fun e w' => e = .returned (.int .i64 (N : Int)) ∧ w' = w := by
  have hl := cell_lt' h
  go_enter Tryz.func82, Tryz.ntmps82
  go_wp2
  go_ret
  exact ⟨rfl, rfl⟩
theorem rooms_round {wr w3 W5 : World} {sb n : Nat} {u v' : Value} {ys : List Value} (hx : Exc W5.heap.size sb W5 wr) (hX : ∃ X, Below wr.heap.size wr X ∧ X.grownBy w3 u.ownBlock) (hob : ∀ j, u.ownBlock = some j → W5.heap.size ≤ j) (hsb : sb < W5.heap.size)
    (hc3 : w3.cell? ⟨sb, 16, none⟩ = some u) (hown : w3.ownsRow W5.heap.size 3 1 v' n ys) (hoo : ∀ o, o ≠ 16 → wr.cell? ⟨sb, o, none⟩ = W5.cell? ⟨sb, o, none⟩) (hzz : ∀ o, o < 17 → wr.frozen? ⟨sb, o, none⟩ = false) :
    (w3.setCell ⟨sb, 16, none⟩ v').cell? ⟨sb, 16, none⟩ = some v' ∧ (w3.setCell ⟨sb, 16, none⟩ v').ownsRow W5.heap.size 3 1 v' n ys ∧ Exc W5.heap.size sb W5 (w3.setCell ⟨sb, 16, none⟩ v') ∧ (∀ o, o ≠ 16 → (w3.setCell ⟨sb, 16, none⟩ v').cell? ⟨sb, o, none⟩ = W5.cell? ⟨sb, o, none⟩) ∧ (∀ o, o < 17 → (w3.setCell ⟨sb, 16, none⟩ v').frozen? ⟨sb, o, none⟩ = false) := by
  obtain ⟨X, hb, hg⟩ := hX
  have hwX : W5.heap.size ≤ X.heap.size := Nat.le_trans hx.size hb.size
  have hsb3 : w3.heap[sb]? = wr.heap[sb]? := (hg.block sb (by omega) (fun e => by have := hob _ e.symm; omega)).trans (hb.block sb (Nat.lt_of_lt_of_le hsb hx.size))
  refine ⟨World.cell?_setCell_same _ _ _ hc3, ⟨hown.1, hown.2.imp id fun ⟨g, cap, cur, e, hbg, hh, r⟩ => ⟨g, cap, cur, e, hbg, (heap_setCell_other w3 (⟨sb, 16, none⟩ : Addr) g v' (by simp; omega)).trans hh, r⟩⟩, ⟨?_, ?_, ?_, ?_, fun k h1 h2 => ?_⟩, fun o ho => ?_, fun o ho => ?_⟩
  · exact hg.os.trans (hb.os.trans hx.os)
  · exact hg.tape.trans (hb.tape.trans hx.tape)
  · exact hg.output.trans (hb.output.trans hx.output)
  · have := hg.size; simp [World.setCell]; omega
  · exact (heap_setCell_other w3 (⟨sb, 16, none⟩ : Addr) k v' h2).trans ((hg.block k (by omega) (fun e => by have := hob _ e.symm; omega)).trans ((hb.block k (Nat.lt_of_lt_of_le h1 hx.size)).trans (hx.block k h1 h2)))
  · rw [World.cell?_setCell_other w3 ⟨sb, 16, none⟩ ⟨sb, o, none⟩ _ (fun q => ho (by injection q with _ q; exact q.symm)), (cell_of_heap (a := ⟨sb, o, none⟩) hsb3).1]
    exact hoo o ho
  · rw [World.frozen?_setCell, (cell_of_heap (a := ⟨sb, o, none⟩) hsb3).2]
    exact hzz o ho
theorem rooms1_ok {w : World} {bx sb db rb ob N : Nat} {fr fo pt : Nat → Nat} (H : RmV w bx sb db rb ob N fr fo pt) :
    Calls Tryz.prog 101 #[.pointer (some ⟨bx, 0, none⟩)] w fun e W => (∃ v, e = .returned v) ∧ ∃ u, W.cell? ⟨sb, 16, none⟩ = some u ∧ W.ownsRow w.heap.size 3 1 u (freeL (keys (lst fr fo pt) 3) N).length ((freeL (keys (lst fr fo pt) 3) N).map encI) ∧ Exc w.heap.size sb w W ∧ (∀ o, o ≠ 16 → W.cell? ⟨sb, o, none⟩ = w.cell? ⟨sb, o, none⟩) ∧ (∀ o, o < 17 → W.frozen? ⟨sb, o, none⟩ = false) := by
  have HH := Lib.hid H
  have lbx := H.bx.lt
  have lsb := cell_lt' H.s0
  have ldb : db < w.heap.size := by obtain ⟨a, c, h⟩ := H.d0; exact cell_lt' h
  have nbs := H.ne.1
  have nds := H.ne.2.1
  clear H
  have hm0 := World.ownsMap_made w Tryz.prog 3 heldR
  have hmm := @run_makeMap Tryz.prog
  go_enter Tryz.func101, Tryz.ntmps101
  go_upto_region 1 with (first
    | (refine wpList_insert_held _ rfl _ _ _ 161 rfl 3 3 key3 Tryz.underlying161 w.heap.size _ _ rfl hm0 (by decide) (.int .i64 0) (.int .i64 1) _ rfl rfl (key_nat (n := 0) (by decide)) ?_; intro w1 hm1 hg1)
    | (refine wpList_insert_held _ rfl _ _ _ 161 rfl 3 3 key3 Tryz.underlying161 w.heap.size _ _ rfl hm1 (by decide) (.int .i64 1) (.int .i64 1) _ rfl rfl (key_nat (n := 1) (by decide)) ?_; intro w2 hm2 hg2))
  have hb2 : Below w.heap.size w w2 := (((Below.refl _ w).alloc (Nat.le_refl _) _).grown hg1 (by simp) (fun k e => by cases e; exact Nat.le_refl _)).grown hg2 (by have := hg1.size; simp at this; omega) (fun k e => by cases e; exact Nat.le_refl _)
  have H2 := HH.out.keep hb2
  have HS : Hid (∀ x, Below w2.heap.size w2 x → Hid (Below w2.heap.size w2 x) ∧ x.cell? ⟨bx, 0, none⟩ = some (.pointer (some ⟨sb, 0, none⟩)) ∧ x.cell? ⟨sb, 13, none⟩ = some (.pointer (some ⟨rb, 0, none⟩)) ∧ x.cell? ⟨sb, 14, none⟩ = some (.pointer (some ⟨ob, 0, none⟩)) ∧ x.cell? ⟨sb, 3, none⟩ = some (.int .i64 (pt 0 : Int))) :=
    Lib.hid fun x hx => ⟨Lib.hid hx, cells_below hx _ _ H2.bx.cell, cells_below hx _ _ H2.s13, cells_below hx _ _ H2.s14, cells_below hx _ _ (H2.sp 0 (by decide)).1⟩
  have HR := Lib.hid (fun x (hx : Below w2.heap.size w2 x) => (secs_rr (H2.keep hx).mr).mono (R' := fun e w' => ∃ a c, e = .returned (.slice a (secs fr).length c) ∧ RR w' (.slice a (secs fr).length c) (secs fr) ∧ Below x.heap.size x w' ∧ Below w2.heap.size w2 w') fun e w' ⟨a, c, h1, h2, h3⟩ => ⟨a, c, h1, h2, h3, Below.up hx h3⟩)
  have HO := Lib.hid (fun x (hx : Below w2.heap.size w2 x) => (secs_rr (H2.keep hx).mo).mono (R' := fun e w' => ∃ a c, e = .returned (.slice a (secs fo).length c) ∧ RR w' (.slice a (secs fo).length c) (secs fo) ∧ Below x.heap.size x w' ∧ Below w2.heap.size w2 w') fun e w' ⟨a, c, h1, h2, h3⟩ => ⟨a, c, h1, h2, h3, Below.up hx h3⟩)
  have HM2 := Lib.hid hm2
  have HB2 := Lib.hid hb2
  have HH2 := Lib.hid H2
  have hc := HS.out w2 (Below.refl _ _)
  clear hmm hm0 hm1 hm2 hg1 hg2 hb2 H2 HH
  obtain ⟨_, k1, k2, k3, k4⟩ := hc
  go_wp2_with fail
  go_region_held3 (fun x => Hid (Below w2.heap.size w2 x) ∧ x.cell? ⟨bx, 0, none⟩ = some (.pointer (some ⟨sb, 0, none⟩)) ∧ x.cell? ⟨sb, 13, none⟩ = some (.pointer (some ⟨rb, 0, none⟩)) ∧ x.cell? ⟨sb, 14, none⟩ = some (.pointer (some ⟨ob, 0, none⟩)) ∧ x.cell? ⟨sb, 3, none⟩ = some (.int .i64 (pt 0 : Int)))
    ((refine HS.out _ ?_; (repeat (first | exact Below.refl _ _ | assumption | refine Below.drew ?_ | refine Below.allocs ?_ _))))
    ((first
      | (go_at_call_of 87 (Value.pointer (some ⟨rb, 0, none⟩)); refine (HR.out _ ?_).mono ?_; (repeat (first | exact Below.refl _ _ | assumption | refine Below.drew ?_ | refine Below.allocs ?_ _)); rintro e w3 ⟨a3, c3, rfl, hr3, hb3, hbw3⟩; have HR3 := Lib.hid hr3; have HB3 := Lib.hid hb3; clear hr3 hb3)
      | (go_at_call_of 87 (Value.pointer (some ⟨ob, 0, none⟩)); refine (HO.out _ ?_).mono ?_; (repeat (first | exact Below.refl _ _ | assumption | refine Below.drew ?_ | refine Below.allocs ?_ _)); rintro e w4 ⟨a4, c4, rfl, hr4, hb4, hbw4⟩; have HR4 := Lib.hid hr4; have HB4 := Lib.hid hb4; clear hr4 hb4)))
  have hB4 : Below w2.heap.size w2 w4 := by assumption
  have hB34 := HB4.out
  obtain ⟨W3, hW3⟩ : ∃ W3, w4.alloc (.cells #[.slice a3 (secs fr).length c3, .slice a4 (secs fo).length c4, .slice (some ⟨sb, 3, none⟩) 9 9] 38) = W3 := ⟨_, rfl⟩
  have hb3 : Below w2.heap.size w2 W3 := by rw [← hW3]; exact Below.allocs hB4 _
  have hb43 : Below w4.heap.size w4 W3 := by rw [← hW3]; exact Below.allocs (Below.refl _ _) _
  have hsz3 : W3.heap.size = w4.heap.size + 1 := by rw [← hW3]; simp
  have H3 := HH2.out.keep hb3
  have hL : ∀ k, k < 3 → ∃ a c, W3.cell? ⟨w4.heap.size, k, none⟩ = some (.slice a (lst fr fo pt k).length c) ∧ RR W3 (.slice a (lst fr fo pt k).length c) (lst fr fo pt k) := by
    intro k hk
    have hk' : k = 0 ∨ k = 1 ∨ k = 2 := by omega
    rcases hk' with rfl | rfl | rfl
    · exact ⟨a3, c3, by rw [← hW3]; simp [cell_new, lst], (HR3.out.of (cells_below hB34)).of (cells_below hb43)⟩
    · exact ⟨a4, c4, by rw [← hW3]; simp [cell_new, lst], HR4.out.of (cells_below hb43)⟩
    · refine ⟨some ⟨sb, 3, none⟩, 9, by rw [← hW3]; simp [cell_new, lst], some ⟨sb, 3, none⟩, 9, rfl, fun j x hj => ⟨_, rfl, ?_⟩⟩
      have hj9 : j < 9 := by
        have := (List.getElem?_eq_some_iff.1 hj).1
        simpa [lst] using this
      have hx : pt j = x := by simpa [lst, hj9] using hj
      subst hx
      have h5 : (⟨sb, 3, none⟩ : Addr).add j = ⟨sb, 3 + j, none⟩ := by simp [Addr.add]
      rw [h5]; exact (H3.sp j hj9).1
  have hm3 : W3.ownsMap Tryz.prog 3 heldR w.heap.size 2 (((DataW.map []).put (.int .i64 ((0 : Nat) : Int)) (.held (.int .i64 1))).put (.int .i64 ((1 : Nat) : Int)) (.held (.int .i64 1))) := by
    obtain ⟨es, ck, hb, hr⟩ := HM2.out
    exact ⟨es, ck, (hb3.block _ (Array.getElem?_eq_some_iff.1 hb).1).trans hb, hr⟩
  have hT : TK (((DataW.map []).put (.int .i64 ((0 : Nat) : Int)) (.held (.int .i64 1))).put (.int .i64 ((1 : Nat) : Int)) (.held (.int .i64 1))) (keys (lst fr fo pt) 0) := (TK.empty.put 0).put 1
  have hbw : Below w.heap.size w W3 := Below.trans HB2.out ⟨hb3.os, hb3.tape, hb3.output, hb3.size, fun k hk => hb3.block k (Nat.lt_of_lt_of_le hk HB2.out.size)⟩
  rw [hW3]
  have hlt := lst_lt (fun i hi => (H3.mr.at hi).2.2) (fun i hi => (H3.mo.at hi).2.2) (fun i hi => (H3.sp i hi).2)
  have hln := lst_len fr fo pt
  generalize hLe : lst fr fo pt = L at hL hT hlt hln ⊢
  have HLE := Lib.hid hLe
  clear hLe
  have hmb : w.heap.size < W3.heap.size := hm3.lt
  have hm3' := hm3
  obtain ⟨es3, ck3, hmap, _⟩ := hm3'
  have hnb : w4.heap.size ≠ w.heap.size := by
    have := HB2.out.size; have := hB4.size
    have h2 : w.heap.size < w2.heap.size := by obtain ⟨es, ck, hb, _⟩ := HM2.out; exact (Array.getElem?_eq_some_iff.1 hb).1
    omega
  have hbb : w4.heap.size < W3.heap.size := by omega
  clear hW3 HR HO HS HR3 HR4 HB3 HB4 HM2 hB34 hB4 hb43 k1 k2 k3 k4 hb3 HB2 HH2 hbw3 hbw4
  generalize w4.heap.size = nb at hL hnb hbb ⊢
  have HL := Lib.hid hL
  have HM3 := Lib.hid hm3
  have HT := Lib.hid hT
  have HBW := Lib.hid hbw
  have H3' := Lib.hid H3
  have HLT := Lib.hid hlt
  have HLN := Lib.hid hln
  have HMAP := Lib.hid hmap
  clear hL hm3 hT hbw H3 hlt hln hmap hsz3
  go_wp2_with fail
  go_loopw [27] (fun v wr => ∃ (k n : Nat) (D : DataW Value), v = .int .i64 k ∧ k ≤ 3 ∧ wr.ownsMap Tryz.prog 3 heldR w.heap.size n D ∧ n ≤ 2 + 1024 * k ∧ TK D (keys L k) ∧ Exc W3.heap.size w.heap.size W3 wr) (fun v _ => 3 - (Go.RowKit.intOf v).toNat)
  case atStart => exact ⟨0, 2, _, rfl, by decide, HM3.out, by decide, HT.out, Exc.refl _ _ _⟩
  case round =>
    obtain ⟨k, n, D, rfl, hk, hm, hn, hT, hE⟩ := hrel
    by_cases e : k = 3
    · subst e
      have HM := Lib.hid hm
      have HTT := Lib.hid hT
      have HE := Lib.hid hE
      have lW := hmb
      have cb : wr.cell? ⟨bx, 0, none⟩ = some (.pointer (some ⟨sb, 0, none⟩)) := (hE.cell (by omega) (by omega)).trans H3'.out.bx.cell
      have cs0 : wr.cell? ⟨sb, 0, none⟩ = some (.pointer (some ⟨db, 0, none⟩)) := (hE.cell (by omega) (by omega)).trans H3'.out.s0
      obtain ⟨v16, c16⟩ : ∃ v, wr.cell? ⟨sb, 16, none⟩ = some v := by obtain ⟨v, h⟩ := H3'.out.s16; exact ⟨v, (hE.cell (by omega) (by omega)).trans h⟩
      have z16 : ∀ o, o < 17 → wr.frozen? ⟨sb, o, none⟩ = false := fun o ho => by rw [(cell_of_heap (a := ⟨sb, o, none⟩) (hE.block sb (by omega) (by omega))).2]; exact H3'.out.sz o ho
      obtain ⟨ad, cd, cd0⟩ : ∃ a c, wr.cell? ⟨db, 0, none⟩ = some (.slice a N c) := by obtain ⟨a, c, h⟩ := H3'.out.d0; exact ⟨a, c, (hE.cell (by omega) (by omega)).trans h⟩
      have blr := cell_lt' cb
      have slr := cell_lt' cs0
      have HZ := Lib.hid z16
      have z16' := z16 16 (by decide)
      have cb5 : (wr.setCell ⟨sb, 16, none⟩ (.slice none 0 0)).cell? ⟨bx, 0, none⟩ = some (.pointer (some ⟨sb, 0, none⟩)) := (World.cell?_setCell_other wr ⟨sb, 16, none⟩ ⟨bx, 0, none⟩ _ (fun q => nbs (congrArg Addr.block q).symm)).trans cb
      have cs5 : (wr.setCell ⟨sb, 16, none⟩ (.slice none 0 0)).cell? ⟨sb, 0, none⟩ = some (.pointer (some ⟨db, 0, none⟩)) := (World.cell?_setCell_other wr ⟨sb, 16, none⟩ ⟨sb, 0, none⟩ _ (by simp)).trans cs0
      have cd5 : (wr.setCell ⟨sb, 16, none⟩ (.slice none 0 0)).cell? ⟨db, 0, none⟩ = some (.slice ad N cd) := (World.cell?_setCell_other wr ⟨sb, 16, none⟩ ⟨db, 0, none⟩ _ (fun q => nds (congrArg Addr.block q).symm)).trans cd0
      have SN := sectorsN_ok cd5
      clear hm hT hE z16 cd5
      go_upto_region 11 with fail
      go_wp2_with (go_at_call 82; refine SN.mono ?_; rintro e w5 ⟨rfl, hw⟩; subst hw)
      have c165 := World.cell?_setCell_same wr ⟨sb, 16, none⟩ (.slice none 0 0) c16
      have hm5 : (wr.setCell ⟨sb, 16, none⟩ (.slice none 0 0)).ownsMap Tryz.prog 3 heldR w.heap.size n D := HM.out.setCell (show w.heap.size ≠ sb by omega) _
      have hsz5 : wr.heap.size = (wr.setCell ⟨sb, 16, none⟩ (.slice none 0 0)).heap.size := by simp [World.setCell]
      have hE5 : Exc w.heap.size sb w (wr.setCell ⟨sb, 16, none⟩ (.slice none 0 0)) := by
        have h1 := HBW.out
        have h2 := HE.out
        exact ⟨h2.os.trans h1.os, h2.tape.trans h1.tape, h2.output.trans h1.output, by rw [← hsz5]; exact Nat.le_trans h1.size h2.size, fun k hk hne => (heap_setCell_other wr (⟨sb, 16, none⟩ : Addr) k _ hne).trans ((h2.block k (by omega) (by omega)).trans (h1.block k hk))⟩
      have ho5 : ∀ o, o ≠ 16 → (wr.setCell ⟨sb, 16, none⟩ (.slice none 0 0)).cell? ⟨sb, o, none⟩ = w.cell? ⟨sb, o, none⟩ := fun o ho => by
        rw [World.cell?_setCell_other wr ⟨sb, 16, none⟩ ⟨sb, o, none⟩ _ (fun q => ho (by injection q with _ q; exact q.symm)), HE.out.cell (by omega) (by omega)]
        exact HBW.out.cell (p := ⟨sb, o, none⟩) lsb
      have hz5 : ∀ o, o < 17 → (wr.setCell ⟨sb, 16, none⟩ (.slice none 0 0)).frozen? ⟨sb, o, none⟩ = false := fun o ho => by rw [World.frozen?_setCell]; exact HZ.out o ho
      rw [hsz5] at slr
      have hmb5 : w.heap.size < wr.heap.size := Nat.lt_of_lt_of_le hmb HE.out.size
      rw [hsz5] at hmb5
      clear hsz5 z16' cs0 cs5 c16 cb cd0 blr HM HE HZ SN
      generalize wr.setCell ⟨sb, 16, none⟩ (.slice none 0 0) = W5 at cb5 c165 hm5 hE5 ho5 hz5 slr hmb5 ⊢
      have HM5 := Lib.hid hm5
      have HE5 := Lib.hid hE5
      have HO5 := Lib.hid ho5
      have HZ5 := Lib.hid hz5
      have HN := Lib.hid H3'.out.N
      clear hm5 hE5 ho5 hz5
      go_loopw [49] (fun v wr' => ∃ (k : Nat) (u : Value), v = .int .i64 k ∧ k ≤ N ∧ wr'.cell? ⟨sb, 16, none⟩ = some u ∧ wr'.ownsRow W5.heap.size 3 1 u (freeL (keys L 3) k).length ((freeL (keys L 3) k).map encI) ∧ Exc W5.heap.size sb W5 wr' ∧ (∀ o, o ≠ 16 → wr'.cell? ⟨sb, o, none⟩ = W5.cell? ⟨sb, o, none⟩) ∧ (∀ o, o < 17 → wr'.frozen? ⟨sb, o, none⟩ = false)) (fun v _ => N - (Go.RowKit.intOf v).toNat)
      case atStart => exact ⟨0, _, rfl, Nat.zero_le _, c165, ⟨rfl, .inl ⟨rfl, rfl⟩⟩, Exc.refl _ _ _, fun _ _ => rfl, HZ5.out⟩
      case round =>
        obtain ⟨k, u, rfl, hk, hu, hrow, hx, hoo, hzz⟩ := hrel
        have HROW := Lib.hid hrow
        have HX := Lib.hid hx
        have HOO := Lib.hid hoo
        have HZZ := Lib.hid hzz
        by_cases ek : k = N
        · subst ek
          clear hrow hx hoo hzz
          go_wp2_with fail
          go_end0
          have hx := HX.out
          have hE := HE5.out
          refine ⟨⟨_, rfl⟩, u, hu, ?_, hE.trans ⟨hx.os, hx.tape, hx.output, hx.size, fun i h1 h2 => hx.block i (Nat.lt_of_lt_of_le h1 hE.size) h2⟩, fun o ho => (HOO.out o ho).trans (HO5.out o ho), HZZ.out⟩
          have hr := HROW.out
          rw [HLE.out]
          exact ⟨hr.1, hr.2.imp id fun ⟨g, cap, cur, e, hg, r⟩ => ⟨g, cap, cur, e, Nat.le_trans hE.size hg, r⟩⟩
        · have hk2 : k < N := by omega
          have hki : (k : Int) < (N : Int) := by omega
          have hk3 : (k : Int) < 65536 := by have := HN.out; omega
          have hm6 : ∀ w' : World, w'.heap[w.heap.size]? = wr.heap[w.heap.size]? → w'.ownsMap Tryz.prog 3 heldR w.heap.size n D := fun w' h => by
            obtain ⟨es, ck, hb, hr⟩ := HM5.out
            exact ⟨es, ck, h.trans ((hx.block _ hmb5 (by omega)).trans hb), hr⟩
          have hL6 := HTT.out.look (hm6 wr rfl) (x := k) (by omega)
          have cb6 : wr.cell? ⟨bx, 0, none⟩ = some (.pointer (some ⟨sb, 0, none⟩)) := (hx.cell (by omega) nbs).trans cb5
          have zz := hzz 16 (by decide)
          have lsr := cell_lt' hu
          have lbr := cell_lt' cb6
          by_cases hin : k ∈ keys L 3
          · rw [if_pos hin] at hL6
            clear hrow hx hoo hzz hm6
            go_wp2_with fail
            go_roundw
            case rel => exact ⟨k + 1, u, by simp, by omega, hu, by rw [freeL_succ, if_pos hin, List.append_nil]; exact HROW.out, HX.out, HOO.out, HZZ.out⟩
            case measure => simp [Go.RowKit.intOf]; omega
          · rw [if_neg hin] at hL6
            obtain ⟨i, hi, i1, i2, i3⟩ := i3'
            have HI := Lib.hid hi
            have hsx : ∀ x, Below wr.heap.size wr x → x.cell? ⟨bx, 0, none⟩ = some (.pointer (some ⟨sb, 0, none⟩)) ∧ x.cell? ⟨sb, 16, none⟩ = some u := fun x h => ⟨cells_below h _ _ cb6, cells_below h _ _ hu⟩
            have HS := Lib.hid hsx
            have hro : ∀ x, Below wr.heap.size wr x → x.ownsRow W5.heap.size 3 1 u (freeL (keys L 3) k).length ((freeL (keys L 3) k).map encI) := fun x h => by
              have hl := hrow.lt
              exact ⟨hrow.1, hrow.2.imp id fun ⟨g, cap, cur, e, hg, hh, r⟩ => ⟨g, cap, cur, e, hg, (h.block g (by subst e; exact (hl g rfl).2)).trans hh, r⟩⟩
            have HRO := Lib.hid hro
            have hob : ∀ j, u.ownBlock = some j → W5.heap.size ≤ j := fun j h => (hrow.lt j h).1
            have HOB := Lib.hid hob
            have hfl := freeL_len (keys L 3) k
            have hfs : Hid (freeL (keys L 3) (k + 1) = freeL (keys L 3) k ++ [k]) := Lib.hid (by rw [freeL_succ, if_neg hin])
            have hbx5 : bx < W5.heap.size := by omega
            generalize hfe : freeL (keys L 3) k = fl at HRO hfs hfl
            clear hrow hx hoo hzz hm6 hsx hro hob hi hfe hin
            go_upto_region 15 with fail
            go_wp2_with fail
            go_region_law ((refine step_append_own rfl _ _ 38 rfl W5.heap.size 3 i (.int .i64 0) 1 8 Tryz.underlying38 HI.out i3 i1 i2 rfl (by decide) _ fl.length (fl.map encI) rfl (HRO.out _ (by (repeat (first | exact Below.refl _ _ | assumption | refine Below.drew ?_ | refine Below.allocs ?_ _)))) ⟨wr.heap.size, 0, none⟩ 1 1 [.int .i64 (k : Int)] rfl rfl (cell_one_new _ _ _) (by simp [Value.oneCell']) (Nat.le_trans (show fl.length + 1 ≤ 65536 by have := HN.out; omega) (by decide)) (by have := HN.out; omega) (by have := HX.out.size; simp; omega) ?_; intro v' w3 hown' hgrow hnil; have hcb3 : w3.cell? ⟨bx, 0, none⟩ = some (.pointer (some ⟨sb, 0, none⟩)) := ((cell_of_heap (a := ⟨bx, 0, none⟩) (hgrow.block bx (by have := HX.out.size; simp; omega) (fun e => by have := HOB.out _ e.symm; omega))).1).trans (HS.out _ (by (repeat (first | exact Below.refl _ _ | assumption | refine Below.drew ?_ | refine Below.allocs ?_ _)))).1; have hcs3 : w3.cell? ⟨sb, 16, none⟩ = some u := ((cell_of_heap (a := ⟨sb, 16, none⟩) (hgrow.block sb (by have := HX.out.size; simp; omega) (fun e => by have := HOB.out _ e.symm; omega))).1).trans (HS.out _ (by (repeat (first | exact Below.refl _ _ | assumption | refine Below.drew ?_ | refine Below.allocs ?_ _)))).2; have hz3 : w3.frozen? ⟨sb, 16, none⟩ = false := (by rw [(cell_of_heap (a := ⟨sb, 16, none⟩) (hgrow.block sb (by have := HX.out.size; simp; omega) (fun e => by have := HOB.out _ e.symm; omega))).2]; simp only [World.frozen?_drew]; rw [World.frozen?_alloc_past _ _ _ lsr]; simpa using zz); have HOW := Lib.hid hown'; have HGR : Hid (∃ X, Below wr.heap.size wr X ∧ X.grownBy w3 u.ownBlock) := Lib.hid ⟨_, (by (repeat (first | exact Below.refl _ _ | assumption | refine Below.drew ?_ | refine Below.allocs ?_ _))), hgrow⟩; have HC3 := Lib.hid hcs3; obtain ⟨a', c', rfl⟩ := own_slice hown'; clear hown' hgrow hnil))
            all_goals go_wp2_with fail
            all_goals
              have hfin := rooms_round HX.out HGR.out HOB.out slr HC3.out HOW.out HOO.out HZZ.out
              go_roundw
            all_goals first
              | (refine ⟨k + 1, _, by simp, by omega, hfin.1, ?_, hfin.2.2.1, hfin.2.2.2.1, hfin.2.2.2.2⟩; rw [hfs.out, List.length_append, List.map_append]; exact hfin.2.1)
              | (simp [Go.RowKit.intOf]; omega)
    · have hk3 : k < 3 := by omega
      have hki : (k : Int) < 3 := by omega
      obtain ⟨a, c, hc, hrr⟩ := HL.out k hk3
      have hcr := (hE.cell hbb hnb).trans hc
      have hln := HLN.out k
      have HRR := Lib.hid hrr
      have HM := Lib.hid hm
      have HTT := Lib.hid hT
      have HE := Lib.hid hE
      have hbl := cell_lt' hcr
      clear hm hT hE hrr hc
      go_wp2_with fail
      go_loopw [33] (fun v wr' => ∃ (j n' : Nat) (D' : DataW Value), v = .int .i64 j ∧ j ≤ (L k).length ∧ wr'.ownsMap Tryz.prog 3 heldR w.heap.size n' D' ∧ n' ≤ 2 + 1024 * k + j ∧ TK D' (keys L k ++ (L k).take j) ∧ Exc W3.heap.size w.heap.size W3 wr') (fun v _ => (L k).length - (Go.RowKit.intOf v).toNat)
      case atStart => exact ⟨0, n, D, rfl, Nat.zero_le _, HM.out, by omega, by simpa using HTT.out, HE.out⟩
      case round =>
        obtain ⟨j, n', D', rfl, hj, hm', hn', hT', hE'⟩ := hrel
        have HM' := Lib.hid hm'
        have HT' := Lib.hid hT'
        have HE' := Lib.hid hE'
        clear hm' hT' hE' HM HTT HE
        by_cases ej : j = (L k).length
        · clear hcr hbl
          have HLN' := Lib.hid hln
          have HN' := Lib.hid hn'
          clear hln hn'
          go_wp2_with fail
          refine ⟨⟨k + 1, n', D', by simp, by omega, HM'.out, by have := HN'.out; have := HLN'.out; omega, ?_, HE'.out⟩, by simp [Go.RowKit.intOf]; omega⟩
          have := HT'.out
          rw [ej, List.take_length] at this
          exact this
        · have hj2 : j < (L k).length := by omega
          have hji : (j : Int) < ((L k).length : Int) := by omega
          have hj3 : (j : Int) < 1024 := by omega
          obtain ⟨x, hx⟩ : ∃ x, (L k)[j]? = some x := ⟨_, List.getElem?_eq_getElem hj2⟩
          obtain ⟨a', c', e2, hcc⟩ := HRR.out
          obtain ⟨ad, rfl, hcx⟩ := hcc j x hx
          injection e2 with e2 _ e3
          subst e2
          have hcx' := cells_exc HE'.out HMAP.out _ _ hcx
          have hxl := HLT.out k x (List.mem_of_getElem? hx)
          have hst : (L k).take (j + 1) = (L k).take j ++ [x] := by rw [List.take_add_one, hx]; rfl
          have HBD : Hid (n' < maxLen) := Lib.hid (Nat.lt_of_le_of_lt (show n' ≤ 100000 by omega) (by decide))
          have HST := Lib.hid hst
          have HN' := Lib.hid hn'
          have HLN' := Lib.hid hln
          have HXL := Lib.hid hxl
          have HX := Lib.hid hx
          clear hcr hbl hcx hcc hst hn' hln hxl hx
          unfold encI at hcx'
          have hbl2 := cell_lt2 hcx'
          generalize (L k).length = len at hj hj2 hji ej ⊢
          go_wp2_with (at_mapUpdate; go_loud (refine wpList_mapUpdate_own _ rfl _ _ _ 161 rfl 3 3 key3 Tryz.underlying161 heldR w.heap.size _ _ rfl HM'.out HBD.out (.int .i64 (x : Int)) (.int .i64 1) _ rfl rfl (key_nat (by have := HXL.out; omega)) (.held (.int .i64 1)) [] rfl ?_; intro w8 hm8 hg8))
          go_roundw
          case rel =>
            refine ⟨j + 1, ?_, by omega, n' + 1, _, hm8, by have := HN'.out; omega, ?_, HE'.out.trans (Exc.of_grownBy HE'.out.size hg8)⟩
            · first | omega | rfl | simp
            · have := HT'.out.put x; rw [HST.out, ← List.append_assoc]; exact this
          case measure => simp [Go.RowKit.intOf]; omega
end Go.Tb
namespace Go.Tb
open Go Go.RowKit Go.Proofs Go.Maps
structure RmB (w : World) (sb db rb ob N : Nat) (fr fo pt : Nat → Nat) : Prop where
  s0 : w.cell? ⟨sb, 0, none⟩ = some (.pointer (some ⟨db, 0, none⟩))
  sp : ∀ i, i < 9 → w.cell? ⟨sb, 3 + i, none⟩ = some (.int .i64 (pt i : Int)) ∧ pt i < 65536
  s13 : w.cell? ⟨sb, 13, none⟩ = some (.pointer (some ⟨rb, 0, none⟩))
  s14 : w.cell? ⟨sb, 14, none⟩ = some (.pointer (some ⟨ob, 0, none⟩))
  s16 : ∃ v, w.cell? ⟨sb, 16, none⟩ = some v
  sz : ∀ o, o < 17 → w.frozen? ⟨sb, o, none⟩ = false
  d0 : ∃ a c, w.cell? ⟨db, 0, none⟩ = some (.slice a N c)
  N : N ≤ 65536
  mo : MapV w ob fo
  mr : MapV w rb fr
  ne : db ≠ sb ∧ rb ≠ sb ∧ ob ≠ sb
theorem RmB.lt {w : World} {sb db rb ob N : Nat} {fr fo pt : Nat → Nat} (H : RmB w sb db rb ob N fr fo pt) : sb < w.heap.size ∧ db < w.heap.size ∧ rb < w.heap.size ∧ ob < w.heap.size :=
  ⟨cell_lt' H.s0, (by obtain ⟨a, c, h⟩ := H.d0; exact cell_lt' h), cell_lt' (H.mr.at (i := 0) (by decide)).1, cell_lt' (H.mo.at (i := 0) (by decide)).1⟩
theorem RmB.same {w x : World} {sb db rb ob N : Nat} {fr fo pt : Nat → Nat} (H : RmB w sb db rb ob N fr fo pt) (hs : x.heap[sb]? = w.heap[sb]?) (hd : x.heap[db]? = w.heap[db]?) (hr : x.heap[rb]? = w.heap[rb]?) (ho : x.heap[ob]? = w.heap[ob]?) : RmB x sb db rb ob N fr fo pt := by
  have hc := fun o => (cell_of_heap (a := ⟨sb, o, none⟩) hs).1
  have hz := fun o => (cell_of_heap (a := ⟨sb, o, none⟩) hs).2
  have hdc := fun o => (cell_of_heap (a := ⟨db, o, none⟩) hd).1
  exact { s0 := (hc _).trans H.s0, sp := fun i hi => ⟨(hc _).trans (H.sp i hi).1, (H.sp i hi).2⟩, s13 := (hc _).trans H.s13, s14 := (hc _).trans H.s14, s16 := H.s16.imp fun v h => (hc _).trans h, sz := fun o ho => (hz o).trans (H.sz o ho), d0 := (by obtain ⟨a, c, h⟩ := H.d0; exact ⟨a, c, (hdc _).trans h⟩), N := H.N, mo := H.mo.keep ho, mr := H.mr.keep hr, ne := H.ne }
theorem RmB.box {w : World} {qb sb db rb ob N : Nat} {fr fo pt : Nat → Nat} (H : RmB w sb db rb ob N fr fo pt) (hq : Boxed w qb 24 (.pointer (some ⟨sb, 0, none⟩))) (hne : qb ≠ sb) : RmV w qb sb db rb ob N fr fo pt :=
  { bx := hq, s0 := H.s0, sp := H.sp, s13 := H.s13, s14 := H.s14, s16 := H.s16, sz := H.sz, d0 := H.d0, N := H.N, mo := H.mo, mr := H.mr, ne := ⟨hne, H.ne⟩ }
theorem OnceV.c0 {w : World} {kb : Nat} (h : OnceV w kb) : w.cell? ⟨kb, 0, none⟩ = some (.int .u32 0) ∧ w.cell? ⟨kb, 1, none⟩ = some (.int .i32 0) ∧ ∀ o, o < 2 → w.frozen? ⟨kb, o, none⟩ = false := h
structure Exc2 (B b c : Nat) (W W' : World) : Prop where
  os : W'.os = W.os
  tape : W'.tape = W.tape
  output : W'.output = W.output
  size : W.heap.size ≤ W'.heap.size
  block : ∀ k, k < B → k ≠ b → k ≠ c → W'.heap[k]? = W.heap[k]?
theorem rooms_ok {w : World} {sb db rb ob N kb : Nat} {fr fo pt : Nat → Nat} (H : RmB w sb db rb ob N fr fo pt) (h15 : w.cell? ⟨sb, 15, none⟩ = some (.pointer (some ⟨kb, 0, none⟩))) (hO : OnceV w kb) (hks : kb ≠ sb) (hkd : kb ≠ db) (hkr : kb ≠ rb) (hko : kb ≠ ob) :
    Calls Tryz.prog 62 #[.pointer (some ⟨sb, 0, none⟩)] w fun e W => ∃ u, e = .returned u ∧ W.cell? ⟨sb, 16, none⟩ = some u ∧ W.ownsRow w.heap.size 3 1 u (freeL (keys (lst fr fo pt) 3) N).length ((freeL (keys (lst fr fo pt) 3) N).map encI) ∧
      Exc2 w.heap.size sb kb w W ∧ (∀ o, o ≠ 16 → W.cell? ⟨sb, o, none⟩ = w.cell? ⟨sb, o, none⟩) ∧ (∀ o, o < 17 → W.frozen? ⟨sb, o, none⟩ = false) := by
  obtain ⟨ls, ld, lr, lo⟩ := H.lt
  have lk : kb < w.heap.size := cell_lt' hO.1
  -- the world in which the once is asked
  have hb1 : ∀ k, k < w.heap.size → (w.alloc (.cells #[.pointer (some ⟨sb, 0, none⟩)] 24)).heap[k]? = w.heap[k]? := fun k hk => Below.heap_alloc _ _ k hk
  have hO1 : OnceV (w.alloc (.cells #[.pointer (some ⟨sb, 0, none⟩)] 24)) kb := hO.same (hb1 kb lk)
  have hbx1 : Boxed (w.alloc (.cells #[.pointer (some ⟨sb, 0, none⟩)] 24)) w.heap.size 24 (.pointer (some ⟨sb, 0, none⟩)) := Boxed.new w 24 _
  have h151 : (w.alloc (.cells #[.pointer (some ⟨sb, 0, none⟩)] 24)).cell? ⟨sb, 15, none⟩ = some (.pointer (some ⟨kb, 0, none⟩)) := (cell_of_heap (a := ⟨sb, 15, none⟩) (hb1 sb ls)).1.trans h15
  have hR1 : RmB (w.alloc (.cells #[.pointer (some ⟨sb, 0, none⟩)] 24)) sb db rb ob N fr fo pt := H.same (hb1 sb ls) (hb1 db ld) (hb1 rb lr) (hb1 ob lo)
  have hs1 : (w.alloc (.cells #[.pointer (some ⟨sb, 0, none⟩)] 24)).heap.size = w.heap.size + 1 := by simp
  have hE1 : Below w.heap.size w (w.alloc (.cells #[.pointer (some ⟨sb, 0, none⟩)] 24)) := (Below.refl _ _).alloc (Nat.le_refl _) _
  obtain ⟨w1, hw1⟩ : ∃ w1, w.alloc (.cells #[.pointer (some ⟨sb, 0, none⟩)] 24) = w1 := ⟨_, rfl⟩
  rw [hw1] at hO1 hbx1 h151 hR1 hs1 hE1
  obtain ⟨k0, k1, kz⟩ := hO1.c0
  have hset := fun k (hk : k ≠ kb) => heap_setCell_other w1 (⟨kb, 1, none⟩ : Addr) k (.int .i32 1) hk
  have hR2 : RmV (w1.setCell ⟨kb, 1, none⟩ (.int .i32 1)) w.heap.size sb db rb ob N fr fo pt := (hR1.same (hset sb (Ne.symm hks)) (hset db (Ne.symm hkd)) (hset rb (Ne.symm hkr)) (hset ob (Ne.symm hko))).box ((hset w.heap.size (by omega)).trans hbx1) (by omega)
  have RM := rooms1_ok hR2
  have hsz2 : (w1.setCell ⟨kb, 1, none⟩ (.int .i32 1)).heap.size = w.heap.size + 1 := by rw [← hs1]; simp [World.setCell]
  have OK := once_ok (kb := kb) (g := 101) (lb := #[.pointer (some ⟨w.heap.size, 0, none⟩)]) (w := w1) k0 k1 kz (enters_of' Tryz.func101 (by kernel_rfl) (by kernel_rfl)) (RM.mono fun e W ⟨h1, h2⟩ => ⟨h1, h2, h2.choose_spec.2.2.1.block kb (by omega) hks⟩)
  have OK2 : Calls Tryz.prog 100 #[.pointer (some ⟨kb, 0, none⟩), .func (.func 101) #[] #[.pointer (some ⟨w.heap.size, 0, none⟩)]] w1 fun e W => e = .returned (.tuple #[]) ∧ W.cell? ⟨w.heap.size, 0, none⟩ = some (.pointer (some ⟨sb, 0, none⟩)) ∧ ∃ a n c, W.cell? ⟨sb, 16, none⟩ = some (.slice a n c) ∧ Hid (W.ownsRow w.heap.size 3 1 (.slice a n c) (freeL (keys (lst fr fo pt) 3) N).length ((freeL (keys (lst fr fo pt) 3) N).map encI) ∧
      Exc2 w.heap.size sb kb w W ∧ (∀ o, o ≠ 16 → W.cell? ⟨sb, o, none⟩ = w.cell? ⟨sb, o, none⟩) ∧ (∀ o, o < 17 → W.frozen? ⟨sb, o, none⟩ = false)) := by
    refine OK.mono ?_
    rintro e w' ⟨rfl, W, ⟨u, q1, q2, q3, q4, q5⟩, rfl⟩
    have hd : ∀ k : Nat, W.drew.heap[k]? = W.heap[k]? := fun _ => rfl
    have ho : ∀ k : Nat, k ≠ kb → (onceEnd W kb).heap[k]? = W.heap[k]? := fun k hk =>
      (heap_setCell_other _ (⟨kb, 1, none⟩ : Addr) k _ hk).trans ((heap_setCell_other _ (⟨kb, 0, none⟩ : Addr) k _ hk).trans (hd k))
    have hE : ∀ k : Nat, k < w.heap.size → k ≠ sb → k ≠ kb → (onceEnd W kb).heap[k]? = w.heap[k]? := fun k h1 h2 h3 =>
      (ho k h3).trans ((q3.block k (by omega) h2).trans ((hset k h3).trans (hE1.block k h1)))
    have hbx : (onceEnd W kb).heap[w.heap.size]? = some (.cells #[.pointer (some ⟨sb, 0, none⟩)] 24 (0, 0)) := (ho _ (by omega)).trans ((q3.block _ (by omega) (by omega)).trans ((hset _ (by omega)).trans hbx1))
    have hsbc := fun o => cell_of_heap (w := W) (w' := onceEnd W kb) (a := (⟨sb, o, none⟩ : Addr)) (ho sb (Ne.symm hks))
    have hszW : W.heap.size ≤ (onceEnd W kb).heap.size := by unfold onceEnd; simp only [World.setCell, Array.size_modify]; exact Nat.le_refl _
    obtain ⟨a, c, rfl⟩ := own_slice q2
    refine ⟨rfl, Boxed.cell hbx, a, _, c, (hsbc 16).1.trans q1, Lib.hid ⟨⟨q2.1, q2.2.imp id fun ⟨g, cap, cur, e, hg, hh, r⟩ => ⟨g, cap, cur, e, by omega, (ho g (by omega)).trans hh, r⟩⟩, ⟨?_, ?_, ?_, ?_, hE⟩, fun o hne => ?_, fun o ho => ?_⟩⟩
    · exact q3.os.trans hE1.os
    · exact q3.tape.trans hE1.tape
    · exact q3.output.trans hE1.output
    · have := q3.size; omega
    · rw [(hsbc o).1, q4 o hne, (cell_of_heap (a := ⟨sb, o, none⟩) (hset sb (Ne.symm hks))).1, hE1.cell (p := ⟨sb, o, none⟩) ls]
    · rw [(hsbc o).2]; exact q5 o ‹_›
  have bxl := hbx1.lt
  have bxc := hbx1.cell
  have sl1 := cell_lt' h151
  have hmf : ∀ (fn : Fn) (first cap : Array Value) (w : World), (Instr.makeFunc fn first cap).run Tryz.prog w = .ok (.func fn first cap) w := fun _ _ _ _ => rfl
  have HW1 := Lib.hid hw1
  clear RM OK hR2 hR1 hset H hsz2 hE1 hO1 hb1 k0 k1 kz hs1 hbx1 hw1
  go_enter Tryz.func62, Tryz.ntmps62
  go_upto_region 1 with fail
  rw [HW1.out]
  go_wp2_with (go_at_call 100; refine OK2.mono ?_; rintro e w2 ⟨rfl, cbx, a, n, c, c16, HQ⟩; have cl2 := cell_lt' cbx; have cl3 := cell_lt' c16)
  go_ret
  obtain ⟨q1, q2, q3, q4⟩ := HQ.out
  exact ⟨_, rfl, c16, q1, q2, q3, q4⟩
end Go.Tb
