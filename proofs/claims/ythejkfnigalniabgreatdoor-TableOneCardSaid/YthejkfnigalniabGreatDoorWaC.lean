/- A part of a proof about the table over the shadow space: what a function of the program answers, walked by hand. Each theorem says its own conditions. -/
import Derived.Test.YthejkfnigalniabGreatDoorWaB
import Derived.Defers
import Derived.Laws.Pointers
import Derived.Laws.LoneSync
import Derived.RegionTactic
import Derived.RegionCalls
import Derived.RangeFuncWrites
import Derived.RangeFuncBox
import Derived.RangeFuncSeq
import Derived.OwnWalkIn
import Derived.TacticsInMore
import Derived.RegionIn
import Derived.LoopNIn
import Derived.LoopIn
import Derived.Test.YthejkfnigalniabGreatDoorPla
set_option linter.unusedVariables false
set_option linter.unusedSimpArgs false
set_option maxRecDepth 100000
set_option maxHeartbeats 1600000
namespace Go.Tb
open Go Go.RowKit Go.Proofs Go.Maps
theorem disable (w : World) : (callFunc 155 #[]).run Tryz.prog w = .ok (.value (.tuple #[])) w := run_call_mark0 Tryz.func155 (by kernel_rfl) (by kernel_rfl) (by kernel_rfl) .disable (by kernel_rfl) w
theorem enable (w : World) : (callFunc 157 #[]).run Tryz.prog w = .ok (.value (.tuple #[])) w := run_call_mark0 Tryz.func157 (by kernel_rfl) (by kernel_rfl) (by kernel_rfl) .enable (by kernel_rfl) w
theorem acquire (a : Addr) (w : World) : (callFunc 158 #[.pointer (some a)]).run Tryz.prog w = .ok (.value (.tuple #[])) w := run_call_marked Tryz.func158 (by kernel_rfl) (by kernel_rfl) (by kernel_rfl) .acquire (by kernel_rfl) a w
theorem releaseMerge (a : Addr) (w : World) : (callFunc 160 #[.pointer (some a)]).run Tryz.prog w = .ok (.value (.tuple #[])) w := run_call_marked Tryz.func160 (by kernel_rfl) (by kernel_rfl) (by kernel_rfl) .releaseMerge (by kernel_rfl) a w
theorem store_deferred (a : Addr) (x : Value) (u : FrameMode) (w : World) (hc : w.cell? a = some x) (hz : w.frozen? a = false) :
    CallsD Tryz.prog 132 #[.pointer (some a), .bool true] u w fun e u' w' => u' = u ∧ (e = .returned (.tuple #[]) ∧ w' = w.drew.setCell a (.int .u32 1)) := by
  have hc' : w.drew.cell? a = some x := by go_simp
  have hz' : w.drew.frozen? a = false := by go_simp
  have hst := run_call_store (P := Tryz.prog) Tryz.func147 (by kernel_rfl) (by kernel_rfl) (by kernel_rfl) (by kernel_rfl) (k := .u32) (y := 1) hc' hz'
  go_enter_d Tryz.func132, Tryz.ntmps132
  go_wp2
  go_region_calls
  all_goals (go_end0; exact ⟨rfl, rfl⟩)
theorem unlock_deferred (a : Addr) (u : FrameMode) (w : World) (hc : w.cell? a = some (.int .i32 1)) (hz : w.frozen? a = false) :
    CallsD Tryz.prog 131 #[.pointer (some a)] u w fun e u' w' => u' = u ∧ (e = .returned (.tuple #[]) ∧ w' = w.setCell a (.int .i32 0)) := by
  have hd := disable
  have he := enable
  have hr := releaseMerge
  have hadd := run_call_add (P := Tryz.prog) Tryz.func161 (by kernel_rfl) (by kernel_rfl) (by kernel_rfl) .i32 (by kernel_rfl) (y := -1) (s := 0) hc hz (by simp [go_sem]; rfl)
  have hcv := run_convert_to_unsafe (P := Tryz.prog) (src := 218) (dst := 222) Tryz.underlying218 Tryz.underlying222 (by kernel_rfl) hc
  go_enter_d Tryz.func131, Tryz.ntmps131
  go_wp2
  go_end0
  exact ⟨rfl, rfl⟩
theorem lock_free (a : Addr) (w : World) (hc : w.cell? a = some (.int .i32 0)) (hz : w.frozen? a = false) :
    Calls Tryz.prog 130 #[.pointer (some a)] w fun e w' => e = .returned (.tuple #[]) ∧ w' = w.setCell a (.int .i32 1) := by
  have hd := disable
  have he := enable
  have ha := acquire
  have hcas := run_call_cas_hit (P := Tryz.prog) Tryz.func156 (by kernel_rfl) (by kernel_rfl) (by kernel_rfl) .i32 (by kernel_rfl) (y := 1) hc hz
  have hc' : (w.setCell a (.int .i32 1)).cell? a = some (.int .i32 1) := World.cell?_setCell_same w a _ hc
  have hcv := run_convert_to_unsafe (P := Tryz.prog) (src := 218) (dst := 222) Tryz.underlying218 Tryz.underlying222 (by kernel_rfl) hc'
  go_enter Tryz.func130, Tryz.ntmps130
  go_wp2
  go_end0
  exact ⟨rfl, rfl⟩
def onceEnd (W : World) (kb : Nat) : World := (W.drew.setCell ⟨kb, 0, none⟩ (.int .u32 1)).setCell ⟨kb, 1, none⟩ (.int .i32 0)
theorem slow_ok {kb g : Nat} {lb : Array Value} {w : World} {R : World → Prop} (h0 : w.cell? ⟨kb, 0, none⟩ = some (.int .u32 0)) (h1 : w.cell? ⟨kb, 1, none⟩ = some (.int .i32 0)) (hz : ∀ o, o < 2 → w.frozen? ⟨kb, o, none⟩ = false)
    (eg : ∀ args w, (callFunc g args).run Tryz.prog w = .ok (.enter g args) w)
    (hf : Calls Tryz.prog g lb (w.setCell ⟨kb, 1, none⟩ (.int .i32 1)) fun e W => (∃ v, e = .returned v) ∧ R W ∧ W.heap[kb]? = (w.setCell ⟨kb, 1, none⟩ (.int .i32 1)).heap[kb]?) :
    Calls Tryz.prog 116 #[.pointer (some ⟨kb, 0, none⟩), .func (.func g) #[] lb] w fun e w' => e = .returned (.tuple #[]) ∧ ∃ W, R W ∧ w' = onceEnd W kb := by
  have hl := run_call_load (P := Tryz.prog) Tryz.func129 (by kernel_rfl) (by kernel_rfl) (by kernel_rfl) .u32 (by kernel_rfl) (w := w.setCell ⟨kb, 1, none⟩ (.int .i32 1)) (a := ⟨kb, 0, none⟩) (x := 0) ((World.cell?_setCell_other _ ⟨kb, 1, none⟩ ⟨kb, 0, none⟩ _ (by simp)).trans h0)
  have hnot : ∀ (x : Bool) (w : World), (Op.unary .not (.bool x)).run Tryz.prog w = .ok (.bool (!x)) w := fun _ _ => rfl
  have HF := Lib.hid hf
  have HZ := Lib.hid hz
  have f1 := hz 1 (by decide)
  clear hf hz
  go_enter_defers Tryz.func116, Tryz.ntmps116
  go_wp2_with (go_at_call 130; refine (lock_free ⟨kb, 1, none⟩ _ h1 f1).mono ?_; rintro e w' ⟨rfl, rfl⟩)
  go_wp2
  refine HF.out.mono ?_
  rintro e W ⟨⟨v, rfl⟩, hR, hb⟩
  have hb1 : W.cell? ⟨kb, 1, none⟩ = some (.int .i32 1) := (cell_of_heap (a := ⟨kb, 1, none⟩) hb).1.trans (World.cell?_setCell_same w _ _ h1)
  have hb0 : W.cell? ⟨kb, 0, none⟩ = some (.int .u32 0) := (cell_of_heap (a := ⟨kb, 0, none⟩) hb).1.trans ((World.cell?_setCell_other _ ⟨kb, 1, none⟩ ⟨kb, 0, none⟩ _ (by simp)).trans h0)
  have hbz : ∀ o, o < 2 → W.frozen? ⟨kb, o, none⟩ = false := fun o ho => by rw [(cell_of_heap (a := ⟨kb, o, none⟩) hb).2, World.frozen?_setCell]; exact HZ.out o ho
  have HR := Lib.hid hR
  have HBZ := Lib.hid hbz
  clear hR hbz hb
  go_wp2
  refine leaves_cons (f := 132) (args := #[.pointer (some ⟨kb, 0, none⟩), .bool true]) (by simp) (by simp [go_sem]) ?_
  refine (store_deferred ⟨kb, 0, none⟩ (.int .u32 0) .returning _ hb0 (HBZ.out 0 (by decide))).mono ?_
  rintro e u' w'' ⟨rfl, rfl, rfl⟩
  refine leaves_cons (f := 131) (args := #[.pointer (some ⟨kb, 1, none⟩)]) (by simp [settle]) (by simp [go_sem]) ?_
  refine (unlock_deferred ⟨kb, 1, none⟩ _ _ ?_ (by rw [World.frozen?_setCell]; exact HBZ.out 1 (by decide))).mono ?_
  · exact (World.cell?_setCell_other _ ⟨kb, 0, none⟩ ⟨kb, 1, none⟩ _ (by simp)).trans (by rw [World.cell?_drew]; exact hb1)
  rintro e u' w'' ⟨rfl, rfl, rfl⟩
  simp [Leaves, settle, results, Tryz.results116]
  exact ⟨W, HR.out, rfl⟩
theorem once_ok {kb g : Nat} {lb : Array Value} {w : World} {R : World → Prop} (h0 : w.cell? ⟨kb, 0, none⟩ = some (.int .u32 0)) (h1 : w.cell? ⟨kb, 1, none⟩ = some (.int .i32 0)) (hz : ∀ o, o < 2 → w.frozen? ⟨kb, o, none⟩ = false)
    (eg : ∀ args w, (callFunc g args).run Tryz.prog w = .ok (.enter g args) w)
    (hf : Calls Tryz.prog g lb (w.setCell ⟨kb, 1, none⟩ (.int .i32 1)) fun e W => (∃ v, e = .returned v) ∧ R W ∧ W.heap[kb]? = (w.setCell ⟨kb, 1, none⟩ (.int .i32 1)).heap[kb]?) :
    Calls Tryz.prog 90 #[.pointer (some ⟨kb, 0, none⟩), .func (.func g) #[] lb] w fun e w' => e = .returned (.tuple #[]) ∧ ∃ W, R W ∧ w' = onceEnd W kb := by
  have S := Lib.hid (slow_ok (R := R) h0 h1 hz eg hf)
  have hl := run_call_load (P := Tryz.prog) Tryz.func129 (by kernel_rfl) (by kernel_rfl) (by kernel_rfl) .u32 (by kernel_rfl) h0
  have hnot : ∀ (x : Bool) (w : World), (Op.unary .not (.bool x)).run Tryz.prog w = .ok (.bool (!x)) w := fun _ _ => rfl
  clear hf
  go_enter Tryz.func90, Tryz.ntmps90
  go_wp2_with (first | (go_at_call 116; refine S.out.mono ?_; rintro e w' ⟨rfl, W, hR, rfl⟩; have HR := Lib.hid hR; clear hR) | (go_at_call 115; go_in))
  go_end0
  exact ⟨rfl, W, HR.out, rfl⟩
theorem once_done {a : Addr} {d : Int} (hd : ¬ d = 0) (fv : Value) {w : World} (h0 : w.cell? a = some (.int .u32 d)) :
    Calls Tryz.prog 90 #[.pointer (some a), fv] w fun e w' => e = .returned (.tuple #[]) ∧ w' = w := by
  have hl := run_call_load (P := Tryz.prog) Tryz.func129 (by kernel_rfl) (by kernel_rfl) (by kernel_rfl) .u32 (by kernel_rfl) h0
  have hnot : ∀ (x : Bool) (w : World), (Op.unary .not (.bool x)).run Tryz.prog w = .ok (.bool (!x)) w := fun _ _ => rfl
  have hd' : (d != 0) = true := by simp [hd]
  go_enter Tryz.func90, Tryz.ntmps90
  go_wp2
  go_end0
  exact ⟨rfl, rfl⟩
end Go.Tb
namespace Go.Tb
open Go Go.RowKit Go.Proofs Go.Maps
attribute [local go_sem] Oper.semAt_some
def ents (f : Nat → Nat) : Nat → List (Nat × Nat)
  | 0 => []
  | k + 1 => if 0 < f k then ents f k ++ [(k, f k)] else ents f k
theorem ents_len (f : Nat → Nat) : ∀ k, (ents f k).length ≤ k
  | 0 => Nat.le_refl _
  | k + 1 => by
    have := ents_len f k
    unfold ents
    split
    · simp; omega
    · omega
theorem mem_ents {f : Nat → Nat} {p s : Nat} : ∀ {k}, (p, s) ∈ ents f k ↔ p < k ∧ s = f p ∧ 0 < f p
  | 0 => by simp [ents]
  | k + 1 => by
    have ih := mem_ents (f := f) (p := p) (s := s) (k := k)
    unfold ents
    split
    · rename_i h
      simp only [List.mem_append, ih, List.mem_singleton, Prod.mk.injEq]
      constructor
      · rintro (⟨h1, h2, h3⟩ | ⟨rfl, rfl⟩)
        · exact ⟨by omega, h2, h3⟩
        · exact ⟨by omega, rfl, h⟩
      · rintro ⟨h1, rfl, h3⟩
        by_cases e : p = k
        · subst e; exact .inr ⟨rfl, rfl⟩
        · exact .inl ⟨by omega, rfl, h3⟩
    · rename_i h
      rw [ih]
      constructor
      · rintro ⟨h1, h2⟩; exact ⟨by omega, h2⟩
      · rintro ⟨h1, h2, h3⟩
        by_cases e : p = k
        · subst e; exact absurd h3 h
        · exact ⟨by omega, h2, h3⟩
def enc2 (x : Nat × Nat) : Array Value := #[.int .i64 (x.1 : Int), .int .i64 (x.2 : Int)]
theorem all1_stops {w0 : World} {mb pb n : Nat} {f : Nat → Nat} (hn : 1 ≤ n) (hm : MapV w0 mb f) (hp : Boxed w0 pb 68 (.pointer (some ⟨mb, 0, none⟩))) :
    SeqStopsK Fence.wide n Tryz.prog 114 #[.pointer (some ⟨pb, 0, none⟩)] enc2 (Keep2 mb pb) (fun xs => xs = ents f 1024) (fun _ => True) 1024 w0 := by
  intro l J Jx W hW hJ hJx hY h0
  have hml : mb < w0.heap.size := cell_lt' (hm.at (i := 0) (by decide)).1
  have hpl := hp.lt
  have hm1 : MapV W mb f := hm.keep (hW.block mb hml)
  have hp1 : Boxed W pb 68 (.pointer (some ⟨mb, 0, none⟩)) := (hW.block pb hpl).trans hp
  clear hm hp hW
  refine callsIn_of_wp Tryz.func114 rfl trivial ?_ rfl
  simp only [Tryz.ntmps114, List.size_toArray, List.length_cons, List.length_nil, Nat.reduceAdd, Nat.reduceSub, Array.replicate_succ, Array.replicate_zero, List.push_toArray, List.append_toArray, List.nil_append, List.cons_append]
  gi_wp2
  gi_loopw [4] (fun i wr => ∃ k : Nat, k ≤ 1024 ∧ i = .int .i64 k ∧ J (ents f k) wr ∧ Keep2 mb pb W wr) (fun i _ => 1024 - (Go.RowKit.intOf i).toNat)
  case atStart => exact ⟨0, Nat.zero_le _, rfl, h0, rfl, rfl⟩
  case round =>
    obtain ⟨k, hk, rfl, hJk, hK1, hK2⟩ := hrel
    by_cases e : k = 1024
    · subst e
      gi_wp2_with fail
      go_end0
      exact ⟨⟨_, rfl⟩, .inl ⟨_, rfl, hJk⟩⟩
    · have hk1 : k < 1024 := by omega
      have hki : (k : Int) < 1024 := by omega
      have hm2 := hm1.keep hK1
      have hp2 : Boxed wr pb 68 (.pointer (some ⟨mb, 0, none⟩)) := hK2.trans hp1
      obtain ⟨c0, cz, c1⟩ := hm2.at hk1
      have pc := hp2.cell
      have pl := hp2.lt
      have ml := cell_lt' c0
      have H := has_ok hm2 hk1
      have i0 : (0 : Int) ≤ (k : Int) := by omega
      have hw : IntKind.i64.wrap (f k : Int) = (f k : Int) := by rw [IntKind.wrap_i64]; omega
      clear hm2 hp2
      by_cases hf : 0 < f k
      · have hst : ents f (k + 1) = ents f k ++ [(k, f k)] := by simp [ents, hf]
        obtain ⟨fn, tmps, assign, body, hy, hR⟩ := hY (ents f k) (k, f k) wr hJk (Nat.lt_of_le_of_lt (ents_len f k) hk1)
        rw [decide_eq_true hf] at H
        have hy : (Instr.yield l #[.int .i64 (k : Int), .int .i64 (f k : Int)]).run Tryz.prog wr = .ok (.round l fn tmps assign body) wr := hy
        gi_wp2_with fail
        refine ⟨trivial, (callsIn_wide.2 H).mono ?_⟩
        rintro e w' ⟨rfl, rfl⟩
        gi_wp2
        refine hR.mono ?_
        rintro e W3 (⟨rfl, hJ3, hk3⟩ | ⟨rfl, hJx3⟩)
        · have hst' : J (ents f (k + 1)) W3 := by rw [hst]; exact hJ3
          have hKK := Keep2.trans ⟨hK1, hK2⟩ hk3
          gi_wp2
          go_roundw
          case rel => exact ⟨k + 1, by omega, by simp, hst', hKK⟩
          case measure => simp [Go.RowKit.intOf]; omega
        · gi_wp2
          refine bodyPost_ret (results_none rfl _ _ _) rfl ?_
          exact ⟨⟨_, rfl⟩, .inr ⟨_, trivial, hJx3⟩⟩
      · rw [decide_eq_false hf] at H
        have hst : ents f (k + 1) = ents f k := by simp [ents, hf]
        gi_wp2_with fail
        refine ⟨trivial, (callsIn_wide.2 H).mono ?_⟩
        rintro e w' ⟨rfl, rfl⟩
        gi_wp2
        refine ⟨(fun _ h => by cases h), ?_⟩
        gi_wp2_with fail
        go_roundw
        case rel => exact ⟨k + 1, by omega, by simp, by rw [hst]; exact hJk, hK1, hK2⟩
        case measure => simp [Go.RowKit.intOf]; omega
theorem all_ok (mb : Nat) (w : World) : Calls Tryz.prog 88 #[.pointer (some ⟨mb, 0, none⟩)] w fun e w' => e = .returned (.func (.func 114) #[] #[.pointer (some ⟨w.heap.size, 0, none⟩)]) ∧ w' = w.alloc (.cells #[.pointer (some ⟨mb, 0, none⟩)] 68) := by
  go_enter Tryz.func88, Tryz.ntmps88
  go_wp2
  go_ret
  exact ⟨rfl, rfl⟩
end Go.Tb
namespace Go.Tb
open Go Go.RowKit Go.Proofs Go.Maps
attribute [local go_sem] Oper.semAt_some
theorem enters114 : ∀ args w, (callFunc 114 args).run Tryz.prog w = .ok (.enter 114 args) w := enters_of' Tryz.func114 (by kernel_rfl) (by kernel_rfl)
theorem i3' : ∃ i : TypeInfo, Tryz.prog.info? 3 = some i ∧ i.size = 1 ∧ i.bytes = 8 ∧ i.zero = some (.int .i64 0) := by
  have : (Tryz.prog.info? 3).map (fun i => (i.size, i.bytes, i.zero)) = some (1, 8, some (.int .i64 0)) := by kernel_rfl
  obtain ⟨i, hi, hi2⟩ := Option.map_eq_some_iff.1 this
  injection hi2 with h1 h2
  injection h2 with h2 h3
  exact ⟨i, hi, h1, h2, h3⟩
def encI (x : Nat) : Value := .int .i64 (x : Int)
theorem secs_ok {w : World} {mb : Nat} {f : Nat → Nat} (hm : MapV w mb f) :
    Calls Tryz.prog 83 #[.pointer (some ⟨mb, 0, none⟩)] w fun e w' => ∃ v, e = .returned v ∧ w'.ownsRow w.heap.size 3 1 v (ents f 1024).length ((ents f 1024).map fun x => encI x.2) ∧ Below w.heap.size w w' := by
  have hml : mb < w.heap.size := cell_lt' (hm.at (i := 0) (by decide)).1
  obtain ⟨i, hi, i1, i2, i3⟩ := i3'
  have A := fun w => all_ok mb w
  refine (callsIn_wide (n := 5)).1 ?_
  refine callsIn_of_wp_marks Tryz.func83 rfl trivial ?_ rfl
  simp only [Tryz.ntmps83, List.size_toArray, List.length_cons, List.length_nil, Nat.reduceAdd, Nat.reduceSub, Array.replicate_succ, Array.replicate_zero, List.push_toArray, List.append_toArray, List.nil_append, List.cons_append]
  gi_wp2_with fail
  refine ⟨trivial, (callsIn_wide.2 (A _)).mono ?_⟩
  rintro e w1 ⟨rfl, rfl⟩
  gi_wp2_with fail
  obtain ⟨W0, hW0⟩ : ∃ W0, (w.alloc (.cells #[.slice none 0 0] 51)).alloc (.cells #[.pointer (some ⟨mb, 0, none⟩)] 68) = W0 := ⟨_, rfl⟩
  have hsz : W0.heap.size = w.heap.size + 2 := by rw [← hW0]; simp
  have hbp : Boxed W0 (w.heap.size + 1) 68 (.pointer (some ⟨mb, 0, none⟩)) := by
    rw [← hW0]; have := Boxed.new (w.alloc (.cells #[.slice none 0 0] 51)) 68 (.pointer (some ⟨mb, 0, none⟩)); simpa using this
  have hbs : Boxed W0 w.heap.size 51 (.slice none 0 0) := by rw [← hW0]; exact (Boxed.new w 51 _).alloc _
  have hbel : Below w.heap.size w W0 := by rw [← hW0]; exact ((Below.refl _ w).alloc (Nat.le_refl _) _).alloc (by simp) _
  have hm0 : MapV W0 mb f := hm.keep (hbel.block mb hml)
  rw [hW0]
  clear hW0 A hm
  have HM0 := Lib.hid hm0
  have HBS := Lib.hid hbs
  have HBP := Lib.hid hbp
  have HSZ := Lib.hid hsz
  have HBEL := Lib.hid hbel
  have HI := Lib.hid hi
  clear hm0 hbs hbp hsz hbel hi
  have hwW : w.heap.size ≤ W0.heap.size := HBEL.out.size
  refine wpIn_rangeFunc_ownG rfl (by decide) (gf := 114) (lb := #[.pointer (some ⟨w.heap.size + 1, 0, none⟩)]) rfl trivial enters114 (encs := enc2) (Kp := Keep2 mb (w.heap.size + 1))
    (all1_stops (by decide) HM0.out HBP.out) Keep2.trans (fun W l o o' hl ho hc hw => by
      have := HSZ.out
      exact ⟨World.putObj_heap_other (by omega), World.putObj_heap_other (by omega)⟩) (Below.refl _ _) (fun _ => rfl)
    (fun (xs : List (Nat × Nat)) W => (∃ v, Boxed W w.heap.size 51 v ∧ W.ownsRow w.heap.size 3 1 v xs.length (xs.map fun x => encI x.2) ∧ True) ∧ Below w.heap.size w W ∧ Boxed W (w.heap.size + 1) 68 (.pointer (some ⟨mb, 0, none⟩)))
    (fun _ _ _ => False)
    (OwnFrom.and (Own.from (holdsRow_own w.heap.size w.heap.size 51 3 1 (fun (xs : List (Nat × Nat)) => xs.length) (fun xs => xs.map fun x => encI x.2) (fun _ _ => True)) _)
      (OwnFrom.and (ownFrom_below (Nat.le_refl _) hwW) (fun s A B row hs hg hr => (hs.kept hg (fun e => by obtain ⟨h1, o, h2, h3⟩ := hr _ e.symm; rw [show A.heap[w.heap.size + 1]? = _ from hs] at h2; cases h2; cases h3)))))
    (fun _ _ _ _ _ hs _ _ => hs)
    ⟨⟨_, HBS.out, ⟨rfl, .inl ⟨rfl, rfl⟩⟩, trivial⟩, HBEL.out, HBP.out⟩
    (fun x => { tmps := #[.pointer (some ⟨mb, 0, none⟩), undef, .slice none 0 0, .pointer (some ⟨w.heap.size, 0, none⟩), undef, .int .i64 (x.2 : Int), .pointer (some ⟨mb, 0, none⟩), .func (.func 114) #[] #[.pointer (some ⟨w.heap.size + 1, 0, none⟩)], .int .i64 (x.1 : Int), .int .i64 (x.2 : Int), undef, undef, undef, undef, undef], defers := [] }) ?assign ?body ?done ?stop
  case assign =>
    intro l x W K hK
    simp only [enc2]
    gi_wp2_with (rw [Oper.semAt_eq _ _ _ (fun c h => by cases h)]; go_simp; try go_bits)
    exact hK
  case body =>
    rintro l pre x W ⟨⟨v, hv, ho, _⟩, hB, hP⟩ hlt
    have hvc := hv.cell
    have hvf := hv.frozen
    have hvl := hv.lt
    have HV := Lib.hid hv
    have HO := Lib.hid ho
    have HB := Lib.hid hB
    have HP := Lib.hid hP
    have HL := Lib.hid hlt
    clear hv ho hB hP hlt
    gi_wp2_with (first
      | (gi_at_builtin; refine wpListIn_append_own _ rfl _ _ 51 rfl w.heap.size 3 i (.int .i64 0) 1 8 Tryz.underlying51 HI.out i3 i1 i2 rfl (by decide) _ _ _ rfl (HO.out.alloc _) ⟨W.heap.size, 0, none⟩ 1 1 [.int .i64 (x.2 : Int)] rfl rfl (cell_one_new _ _ _) (by simp [Value.oneCell']) (Nat.le_trans (show pre.length + 1 ≤ 1024 from HL.out) (by decide)) (by have := HL.out; omega) (by have := HB.out.size; simp; omega) ?_; intro v' w3 hown' hg3 hnil3
         have hA := Boxed.appended HV.out (by decide) HO.out HB.out.size (Nat.le_refl _) hown' hg3
         obtain ⟨q1, q2, q3, q4, q5⟩ := hA
         have hc3 := q1.cell
         have hf3 := q1.frozen
         have hl3 := q1.lt
         have hbk : ∀ (B : Nat) (t : TypeId) (u : Value), t ≠ 3 → B ≠ w.heap.size → Boxed W B t u → Boxed (w3.setCell ⟨w.heap.size, 0, none⟩ v') B t u := fun B t u ht hBn h => (heap_setCell_other w3 (⟨w.heap.size, 0, none⟩ : Addr) B v' hBn).trans ((h.alloc _).kept hg3 (h.not_row ht HO.out))
         have HBK := Lib.hid hbk
         have Q2 := Lib.hid q2
         have Q3 := Lib.hid q3
         have Q4 := Lib.hid q4
         have Q5 := Lib.hid q5
         obtain ⟨a', c', rfl⟩ := own_slice hown'
         clear hbk q2 q3 q4 q5 hown' hnil3 hg3)
      | (rw [Oper.semAt_eq _ _ _ (fun c h => by cases h)]; go_simp; try go_bits))
    have hP3 := HBK.out _ _ _ (by decide) (by omega) HP.out
    exact ⟨Q4.out.from _, ⟨Q5.out.block mb hml, hP3.trans HP.out.symm⟩, ⟨_, Q2.out, by simpa [encI] using Q3.out, trivial⟩, Below.trans HB.out Q5.out, hP3⟩
  case done =>
    rintro D ys W hD rfl ⟨⟨v, hv, ho, _⟩, hB, hP⟩ hK
    have hvc := hv.cell
    have hvf := hv.frozen
    have hvl := hv.lt
    obtain ⟨a3, c3, rfl⟩ := own_slice ho
    have hB' := hB
    have HO := Lib.hid ho
    clear ho
    generalize hle : (ents f 1024).length = len at *
    gi_wp2_with fail
    refine ⟨by simp, .inl ⟨_, _, rfl, run_takeDeferred hK, ?_⟩⟩
    subst hle
    refine ⟨_, results_tmp rfl _ _ _, .slice a3 _ c3, rfl, HO.out.kept (grownBy_putObj' W D _) ?_, hB'.grown (grownBy_putObj' W D _) hB'.size (fun k e => by cases e; omega)⟩
    rcases HO.out.2 with ⟨h1, _⟩ | ⟨g, cap, cur, h1, _, hh, _⟩
    · exact .inl (by rw [h1]; rfl)
    · refine .inr fun e => ?_
      rw [h1] at e; simp [Value.ownBlock] at e
      subst e; rw [hK] at hh; cases hh
  case stop =>
    rintro D c pre W _ _ h _
    exact h.elim
theorem pages_ok {w : World} {mb : Nat} {f : Nat → Nat} (hm : MapV w mb f) :
    Calls Tryz.prog 46 #[.pointer (some ⟨mb, 0, none⟩)] w fun e w' => ∃ v, e = .returned v ∧ w'.ownsRow w.heap.size 3 1 v (ents f 1024).length ((ents f 1024).map fun x => encI x.1) ∧ Below w.heap.size w w' := by
  have hml : mb < w.heap.size := cell_lt' (hm.at (i := 0) (by decide)).1
  obtain ⟨i, hi, i1, i2, i3⟩ := i3'
  have A := fun w => all_ok mb w
  refine (callsIn_wide (n := 5)).1 ?_
  refine callsIn_of_wp_marks Tryz.func46 rfl trivial ?_ rfl
  simp only [Tryz.ntmps46, List.size_toArray, List.length_cons, List.length_nil, Nat.reduceAdd, Nat.reduceSub, Array.replicate_succ, Array.replicate_zero, List.push_toArray, List.append_toArray, List.nil_append, List.cons_append]
  gi_wp2_with fail
  refine ⟨trivial, (callsIn_wide.2 (A _)).mono ?_⟩
  rintro e w1 ⟨rfl, rfl⟩
  gi_wp2_with fail
  obtain ⟨W0, hW0⟩ : ∃ W0, (w.alloc (.cells #[.slice none 0 0] 51)).alloc (.cells #[.pointer (some ⟨mb, 0, none⟩)] 68) = W0 := ⟨_, rfl⟩
  have hsz : W0.heap.size = w.heap.size + 2 := by rw [← hW0]; simp
  have hbp : Boxed W0 (w.heap.size + 1) 68 (.pointer (some ⟨mb, 0, none⟩)) := by
    rw [← hW0]; have := Boxed.new (w.alloc (.cells #[.slice none 0 0] 51)) 68 (.pointer (some ⟨mb, 0, none⟩)); simpa using this
  have hbs : Boxed W0 w.heap.size 51 (.slice none 0 0) := by rw [← hW0]; exact (Boxed.new w 51 _).alloc _
  have hbel : Below w.heap.size w W0 := by rw [← hW0]; exact ((Below.refl _ w).alloc (Nat.le_refl _) _).alloc (by simp) _
  have hm0 : MapV W0 mb f := hm.keep (hbel.block mb hml)
  rw [hW0]
  clear hW0 A hm
  have HM0 := Lib.hid hm0
  have HBS := Lib.hid hbs
  have HBP := Lib.hid hbp
  have HSZ := Lib.hid hsz
  have HBEL := Lib.hid hbel
  have HI := Lib.hid hi
  clear hm0 hbs hbp hsz hbel hi
  have hwW : w.heap.size ≤ W0.heap.size := HBEL.out.size
  refine wpIn_rangeFunc_ownG rfl (by decide) (gf := 114) (lb := #[.pointer (some ⟨w.heap.size + 1, 0, none⟩)]) rfl trivial enters114 (encs := enc2) (Kp := Keep2 mb (w.heap.size + 1))
    (all1_stops (by decide) HM0.out HBP.out) Keep2.trans (fun W l o o' hl ho hc hw => by
      have := HSZ.out
      exact ⟨World.putObj_heap_other (by omega), World.putObj_heap_other (by omega)⟩) (Below.refl _ _) (fun _ => rfl)
    (fun (xs : List (Nat × Nat)) W => (∃ v, Boxed W w.heap.size 51 v ∧ W.ownsRow w.heap.size 3 1 v xs.length (xs.map fun x => encI x.1) ∧ True) ∧ Below w.heap.size w W ∧ Boxed W (w.heap.size + 1) 68 (.pointer (some ⟨mb, 0, none⟩)))
    (fun _ _ _ => False)
    (OwnFrom.and (Own.from (holdsRow_own w.heap.size w.heap.size 51 3 1 (fun (xs : List (Nat × Nat)) => xs.length) (fun xs => xs.map fun x => encI x.1) (fun _ _ => True)) _)
      (OwnFrom.and (ownFrom_below (Nat.le_refl _) hwW) (fun s A B row hs hg hr => (hs.kept hg (fun e => by obtain ⟨h1, o, h2, h3⟩ := hr _ e.symm; rw [show A.heap[w.heap.size + 1]? = _ from hs] at h2; cases h2; cases h3)))))
    (fun _ _ _ _ _ hs _ _ => hs)
    ⟨⟨_, HBS.out, ⟨rfl, .inl ⟨rfl, rfl⟩⟩, trivial⟩, HBEL.out, HBP.out⟩
    (fun x => { tmps := #[.pointer (some ⟨mb, 0, none⟩), undef, .slice none 0 0, .pointer (some ⟨w.heap.size, 0, none⟩), .int .i64 (x.1 : Int), .pointer (some ⟨mb, 0, none⟩), .func (.func 114) #[] #[.pointer (some ⟨w.heap.size + 1, 0, none⟩)], .int .i64 (x.1 : Int), .int .i64 (x.2 : Int), undef, undef, undef, undef, undef], defers := [] }) ?assign ?body ?done ?stop
  case assign =>
    intro l x W K hK
    simp only [enc2]
    gi_wp2_with (rw [Oper.semAt_eq _ _ _ (fun c h => by cases h)]; go_simp; try go_bits)
    exact hK
  case body =>
    rintro l pre x W ⟨⟨v, hv, ho, _⟩, hB, hP⟩ hlt
    have hvc := hv.cell
    have hvf := hv.frozen
    have hvl := hv.lt
    have HV := Lib.hid hv
    have HO := Lib.hid ho
    have HB := Lib.hid hB
    have HP := Lib.hid hP
    have HL := Lib.hid hlt
    clear hv ho hB hP hlt
    gi_wp2_with (first
      | (gi_at_builtin; refine wpListIn_append_own _ rfl _ _ 51 rfl w.heap.size 3 i (.int .i64 0) 1 8 Tryz.underlying51 HI.out i3 i1 i2 rfl (by decide) _ _ _ rfl (HO.out.alloc _) ⟨W.heap.size, 0, none⟩ 1 1 [.int .i64 (x.1 : Int)] rfl rfl (cell_one_new _ _ _) (by simp [Value.oneCell']) (Nat.le_trans (show pre.length + 1 ≤ 1024 from HL.out) (by decide)) (by have := HL.out; omega) (by have := HB.out.size; simp; omega) ?_; intro v' w3 hown' hg3 hnil3
         have hA := Boxed.appended HV.out (by decide) HO.out HB.out.size (Nat.le_refl _) hown' hg3
         obtain ⟨q1, q2, q3, q4, q5⟩ := hA
         have hc3 := q1.cell
         have hf3 := q1.frozen
         have hl3 := q1.lt
         have hbk : ∀ (B : Nat) (t : TypeId) (u : Value), t ≠ 3 → B ≠ w.heap.size → Boxed W B t u → Boxed (w3.setCell ⟨w.heap.size, 0, none⟩ v') B t u := fun B t u ht hBn h => (heap_setCell_other w3 (⟨w.heap.size, 0, none⟩ : Addr) B v' hBn).trans ((h.alloc _).kept hg3 (h.not_row ht HO.out))
         have HBK := Lib.hid hbk
         have Q2 := Lib.hid q2
         have Q3 := Lib.hid q3
         have Q4 := Lib.hid q4
         have Q5 := Lib.hid q5
         obtain ⟨a', c', rfl⟩ := own_slice hown'
         clear hbk q2 q3 q4 q5 hown' hnil3 hg3)
      | (rw [Oper.semAt_eq _ _ _ (fun c h => by cases h)]; go_simp; try go_bits))
    have hP3 := HBK.out _ _ _ (by decide) (by omega) HP.out
    exact ⟨Q4.out.from _, ⟨Q5.out.block mb hml, hP3.trans HP.out.symm⟩, ⟨_, Q2.out, by simpa [encI] using Q3.out, trivial⟩, Below.trans HB.out Q5.out, hP3⟩
  case done =>
    rintro D ys W hD rfl ⟨⟨v, hv, ho, _⟩, hB, hP⟩ hK
    have hvc := hv.cell
    have hvf := hv.frozen
    have hvl := hv.lt
    obtain ⟨a3, c3, rfl⟩ := own_slice ho
    have hB' := hB
    have HO := Lib.hid ho
    clear ho
    generalize hle : (ents f 1024).length = len at *
    gi_wp2_with fail
    refine ⟨by simp, .inl ⟨_, _, rfl, run_takeDeferred hK, ?_⟩⟩
    subst hle
    refine ⟨_, results_tmp rfl _ _ _, .slice a3 _ c3, rfl, HO.out.kept (grownBy_putObj' W D _) ?_, hB'.grown (grownBy_putObj' W D _) hB'.size (fun k e => by cases e; omega)⟩
    rcases HO.out.2 with ⟨h1, _⟩ | ⟨g, cap, cur, h1, _, hh, _⟩
    · exact .inl (by rw [h1]; rfl)
    · refine .inr fun e => ?_
      rw [h1] at e; simp [Value.ownBlock] at e
      subst e; rw [hK] at hh; cases hh
  case stop =>
    rintro D c pre W _ _ h _
    exact h.elim
end Go.Tb
namespace Go.Tb
open Go Go.RowKit Go.Proofs Go.Maps Go.Sp
def OnceV (w : World) (kb : Nat) : Prop := w.cell? ⟨kb, 0, none⟩ = some (.int .u32 0) ∧ w.cell? ⟨kb, 1, none⟩ = some (.int .i32 0) ∧ ∀ o, o < 2 → w.frozen? ⟨kb, o, none⟩ = false
theorem OnceV.same {w w' : World} {kb : Nat} (h : OnceV w kb) (hb : w'.heap[kb]? = w.heap[kb]?) : OnceV w' kb :=
  ⟨(cell_of_heap (a := ⟨kb, 0, none⟩) hb).1.trans h.1, (cell_of_heap (a := ⟨kb, 1, none⟩) hb).1.trans h.2.1, fun o ho => (cell_of_heap (a := ⟨kb, o, none⟩) hb).2.trans (h.2.2 o ho)⟩
theorem OnceV.of_block {w : World} {kb : Nat} (h : w.heap[kb]? = some (.cells #[.int .u32 0, .int .i32 0, .int .u32 0] 137 (0, 0))) : OnceV w kb := by
  refine ⟨?_, ?_, fun o _ => ?_⟩ <;> simp [World.cell?, World.frozen?, h]
structure RmV (w : World) (qb sb db rb ob N : Nat) (fr fo pt : Nat → Nat) : Prop where
  bx : Boxed w qb 26 (.pointer (some ⟨sb, 0, none⟩))
  s0 : w.cell? ⟨sb, 0, none⟩ = some (.pointer (some ⟨db, 0, none⟩))
  sp : ∀ i, i < 9 → w.cell? ⟨sb, 3 + i, none⟩ = some (.int .i64 (pt i : Int)) ∧ pt i < 65536
  s13 : w.cell? ⟨sb, 13, none⟩ = some (.pointer (some ⟨rb, 0, none⟩))
  s14 : w.cell? ⟨sb, 14, none⟩ = some (.pointer (some ⟨ob, 0, none⟩))
  s16 : ∃ v, w.cell? ⟨sb, 16, none⟩ = some v
  sz : ∀ o, o < 17 → w.frozen? ⟨sb, o, none⟩ = false
  d0 : ∃ a c, w.cell? ⟨db, 0, none⟩ = some (.slice a N c)
  N : N ≤ 65536
  mo : MapV w ob fo
  mr : MapV w rb fr
  ne : qb ≠ sb ∧ db ≠ sb ∧ rb ≠ sb ∧ ob ≠ sb
theorem wpList_insert_held {P : Program} (w : World) {ops : Array Oper} {rest : List Oper} {o : Oper} {a : Act} {Q : Exit → Act → World → Prop}
    (hg : o.guard = none) (m x v : Operand) (t : TypeId) (hop : o.op = Op.insert t m x v)
    (k e : TypeId) (K : Keyed P k) (ht : P.underlying t = some (.map k e)) (b n : Nat) (D : DataW Value)
    (hm : a.eval m = .map (some b)) (hown : w.ownsMap P k heldR b n D) (hn : n < maxLen) (key val : Value) (kl : Lit) (hx : a.eval x = key) (hv : a.eval v = val) (hkey : keyOf P k key = some kl)
    (hK : ∀ w', w'.ownsMap P k heldR b (n + 1) (D.put kl (.held val)) → w.grownBy w' (some b) → wpList P ops Q rest (a.put o.dst undef) w') :
    wpList P ops Q (o :: rest) a w := by
  refine wpList_plain hg fun K' hK' => ?_
  obtain ⟨w', hrun, r1, r2⟩ := hown.update K ht hn hkey (d := .held val) (ps := []) rfl
  unfold Oper.wp
  simp [execOp, hop, hm, hx, hv, hrun, Result.andThen]
  exact hK' _ _ (hK w' r1 r2)
def RR (W : World) (v : Value) (l : List Nat) : Prop := ∃ a c, v = .slice a l.length c ∧ ∀ (j x : Nat), l[j]? = some x → ∃ ad : Addr, a = some ad ∧ W.cell? (ad.add j) = some (encI x)
theorem RR.of {W W' : World} {v : Value} {l : List Nat} (h : RR W v l) (hk : ∀ a u, W.cell? a = some u → W'.cell? a = some u) : RR W' v l := by
  obtain ⟨a, c, e, hc⟩ := h
  exact ⟨a, c, e, fun j x hj => by obtain ⟨ad, e2, h2⟩ := hc j x hj; exact ⟨ad, e2, hk _ _ h2⟩⟩
theorem RR.row {W : World} {base n : Nat} {v : Value} {l : List Nat} (hn : l.length = n) (h : W.ownsRow base 3 1 v n (l.map encI)) : RR W v l := by
  subst hn
  rcases h.2 with ⟨rfl, h0⟩ | ⟨g, cap, cur, rfl, _⟩
  · refine ⟨none, 0, by rw [h0], fun j x hj => ?_⟩
    have : l = [] := List.length_eq_zero_iff.1 h0
    subst this; simp at hj
  · exact ⟨_, _, rfl, fun j x hj => ⟨_, rfl, h.cells rfl j (encI x) (by simp [hj])⟩⟩
theorem ents_eq (f : Nat → Nat) : ∀ k, ents f k = ((List.range k).filter fun p => decide (0 < f p)).map fun p => (p, f p)
  | 0 => rfl
  | k + 1 => by
    unfold ents
    rw [ents_eq f k, List.range_succ, List.filter_append, List.map_append]
    by_cases h : 0 < f k
    · rw [if_pos h]; simp [h]
    · rw [if_neg h]; simp [h]
theorem secs_eq (f : Nat → Nat) : (ents f 1024).map (·.2) = secs f := by
  unfold secs pgs; rw [ents_eq, List.map_map]; rfl
theorem pgs_eq (f : Nat → Nat) : (ents f 1024).map (·.1) = pgs f := by
  unfold pgs; rw [ents_eq, List.map_map]; exact List.map_id _
theorem mem_secs {f : Nat → Nat} {s : Nat} : s ∈ secs f ↔ 0 < s ∧ ∃ p, p < 1024 ∧ f p = s := by
  rw [← secs_eq, List.mem_map]
  constructor
  · rintro ⟨⟨p, s'⟩, h, rfl⟩
    obtain ⟨h1, h2, h3⟩ := mem_ents.1 h
    exact ⟨by simp only; omega, p, h1, h2.symm⟩
  · rintro ⟨h0, p, hp, rfl⟩
    exact ⟨(p, f p), mem_ents.2 ⟨hp, rfl, h0⟩, rfl⟩
theorem secs_len (f : Nat → Nat) : (secs f).length ≤ 1024 := by rw [← secs_eq, List.length_map]; exact ents_len f 1024
theorem secs_rr {x : World} {mb : Nat} {f : Nat → Nat} (hm : MapV x mb f) : Calls Tryz.prog 83 #[.pointer (some ⟨mb, 0, none⟩)] x fun e w' => ∃ a c, e = .returned (.slice a (secs f).length c) ∧ RR w' (.slice a (secs f).length c) (secs f) ∧ Below x.heap.size x w' := by
  refine (secs_ok hm).mono ?_
  rintro e w' ⟨v, rfl, ho, hb⟩
  have h := RR.row (W := w') (v := v) (l := secs f) (n := (ents f 1024).length) (by rw [← secs_eq, List.length_map]) (by rw [← secs_eq, List.map_map]; exact ho)
  obtain ⟨a, c, rfl, hc⟩ := h
  exact ⟨a, c, rfl, ⟨a, c, rfl, hc⟩, hb⟩
theorem RmV.keep {w w' : World} {qb sb db rb ob N : Nat} {fr fo pt : Nat → Nat} (H : RmV w qb sb db rb ob N fr fo pt) (hb : Below w.heap.size w w') : RmV w' qb sb db rb ob N fr fo pt := by
  have hc := cells_below hb
  have hq := H.bx.lt
  have hs : sb < w.heap.size := cell_lt' H.s0
  have ho : ob < w.heap.size := cell_lt' (H.mo.at (i := 0) (by decide)).1
  have hr : rb < w.heap.size := cell_lt' (H.mr.at (i := 0) (by decide)).1
  exact { bx := (hb.block qb hq).trans H.bx, s0 := hc _ _ H.s0, sp := fun i hi => ⟨hc _ _ (H.sp i hi).1, (H.sp i hi).2⟩, s13 := hc _ _ H.s13, s14 := hc _ _ H.s14, s16 := H.s16.imp fun v h => hc _ _ h, sz := fun o ho => by rw [(cell_of_heap (a := ⟨sb, o, none⟩) (hb.block sb hs)).2]; exact H.sz o ho, d0 := (by obtain ⟨a, c, h⟩ := H.d0; exact ⟨a, c, hc _ _ h⟩), N := H.N, mo := H.mo.keep (hb.block ob ho), mr := H.mr.keep (hb.block rb hr), ne := H.ne }
end Go.Tb
namespace Go.Tb
open Go Go.RowKit Go.Proofs Go.Maps Go.Sp
structure Exc (B b : Nat) (W W' : World) : Prop where
  os : W'.os = W.os
  tape : W'.tape = W.tape
  output : W'.output = W.output
  size : W.heap.size ≤ W'.heap.size
  block : ∀ k, k < B → k ≠ b → W'.heap[k]? = W.heap[k]?
theorem Exc.refl (B b : Nat) (W : World) : Exc B b W W := ⟨rfl, rfl, rfl, Nat.le_refl _, fun _ _ _ => rfl⟩
theorem Exc.trans {B b : Nat} {X Y Z : World} (h : Exc B b X Y) (k : Exc B b Y Z) : Exc B b X Z :=
  ⟨k.os.trans h.os, k.tape.trans h.tape, k.output.trans h.output, Nat.le_trans h.size k.size, fun i h1 h2 => (k.block i h1 h2).trans (h.block i h1 h2)⟩
theorem Exc.of_grownBy {B b : Nat} {W W' : World} (hB : B ≤ W.heap.size) (hg : W.grownBy W' (some b)) : Exc B b W W' :=
  ⟨hg.os, hg.tape, hg.output, hg.size, fun k h1 h2 => hg.block k (Nat.lt_of_lt_of_le h1 hB) (fun e => h2 (by cases e; rfl))⟩
theorem Exc.of_below {B b : Nat} {W W' : World} (h : Below B W W') : Exc B b W W' := ⟨h.os, h.tape, h.output, h.size, fun k h1 _ => h.block k h1⟩
theorem Exc.cell {B b : Nat} {W W' : World} (h : Exc B b W W') {k o : Nat} {s} (h1 : k < B) (h2 : k ≠ b) : W'.cell? ⟨k, o, s⟩ = W.cell? ⟨k, o, s⟩ := by simp only [World.cell?, h.block k h1 h2]
theorem cell_lt3 {w : World} {b o : Nat} {s} {v : Value} (h : w.cell? ⟨b, o, s⟩ = some v) : b < w.heap.size := by
  by_cases hb : b < w.heap.size
  · exact hb
  · simp [World.cell?, Array.getElem?_eq_none (Nat.le_of_not_lt hb)] at h
theorem cells_exc {b : Nat} {W W' : World} (h : Exc W.heap.size b W W') {es : Array MapEntry} {c : Nat} (hm : W.heap[b]? = some (.map es c)) : ∀ a u, W.cell? a = some u → W'.cell? a = some u := fun a u hu => by
  obtain ⟨k, o, s⟩ := a
  by_cases e : k = b
  · subst e; simp [World.cell?, hm] at hu
  · rw [h.cell (cell_lt3 hu) e]; exact hu
structure TK (D : DataW Value) (K : List Nat) : Prop where
  isMap : IsMap D
  has : ∀ x : Nat, Maps.has D (.int .i64 (x : Int)) = decide (x ∈ K)
  val : ∀ x : Nat, x ∈ K → ∀ z, D.atKey (.int .i64 (x : Int)) z = .held (.int .i64 1)
theorem TK.empty : TK (.map []) [] := ⟨isMap_empty, fun x => by simp [Maps.has], fun x h => by simp at h⟩
theorem nat_lit_ne {x y : Nat} (h : x ≠ y) : Lit.int .i64 (x : Int) ≠ .int .i64 (y : Int) := fun e => h (by injection e with _ e; exact Int.ofNat.inj e)
theorem TK.put {D : DataW Value} {K : List Nat} (h : TK D K) (y : Nat) : TK (D.put (.int .i64 (y : Int)) (.held (.int .i64 1))) (K ++ [y]) := by
  refine ⟨h.isMap.put _ _, fun x => ?_, fun x hx z => ?_⟩
  · by_cases e : x = y
    · subst e; rw [has_put_same h.isMap (show WideAt.IsKeyLit (.int .i64 (x : Int)) from trivial)]; simp
    · rw [has_put_other (nat_lit_ne e), h.has]; simp [e]
  · by_cases e : x = y
    · subst e; rw [atKey_put_same h.isMap (show WideAt.IsKeyLit (.int .i64 (x : Int)) from trivial)]
    · rw [atKey_put_other (nat_lit_ne e)]
      exact h.val x (by simpa [e] using hx) z
theorem TK.look {w : World} {b n : Nat} {D : DataW Value} {K : List Nat} (h : TK D K) (ho : w.ownsMap Tryz.prog 3 heldR b n D) {x : Nat} (hx : x < 2 ^ 62) :
    (Instr.lookup 153 (.map (some b)) (.int .i64 (x : Int)) false).run Tryz.prog w = .ok (.int .i64 (if x ∈ K then 1 else 0)) w := by
  obtain ⟨v, h1, h2⟩ := held_look ho key3 Tryz.underlying153 (Tryz.zeroValue3 w) (key_nat hx)
  rw [h1]
  by_cases e : x ∈ K
  · rw [h.val x e] at h2
    injection h2 with h2
    simp [e, ← h2]
  · rw [atKey_of_not_has (by rw [h.has]; simp [e])] at h2
    injection h2 with h2
    simp [e, ← h2]
end Go.Tb
namespace Go.Tb
open Go Go.RowKit Go.Proofs Go.Maps Go.Sp
def lst (fr fo pt : Nat → Nat) : Nat → List Nat
  | 0 => secs fr
  | 1 => secs fo
  | _ => (List.range 9).map pt
theorem cell_new (w : World) (cs : Array Value) (t : TypeId) (i : Nat) : (w.alloc (.cells cs t)).cell? ⟨w.heap.size, i, none⟩ = cs[i]? := by
  have h := (Go.MapKept.heap_alloc w (.cells cs t)).1
  generalize w.alloc (.cells cs t) = W at h ⊢
  simp [World.cell?, h]
theorem lst_lt {fr fo pt : Nat → Nat} (h1 : ∀ i, i < 1024 → fr i < 65536) (h2 : ∀ i, i < 1024 → fo i < 65536) (h3 : ∀ i, i < 9 → pt i < 65536) : ∀ k x, x ∈ lst fr fo pt k → x < 65536
  | 0, x, h => by obtain ⟨_, p, hp, rfl⟩ := mem_secs.1 h; exact h1 p hp
  | 1, x, h => by obtain ⟨_, p, hp, rfl⟩ := mem_secs.1 h; exact h2 p hp
  | _ + 2, x, h => by obtain ⟨i, hi, rfl⟩ := List.mem_map.1 h; exact h3 i (List.mem_range.1 hi)
theorem lst_len (fr fo pt : Nat → Nat) : ∀ k, (lst fr fo pt k).length ≤ 1024
  | 0 => secs_len fr
  | 1 => secs_len fo
  | _ + 2 => by simp [lst]
def keys (L : Nat → List Nat) : Nat → List Nat
  | 0 => [0, 1]
  | k + 1 => keys L k ++ L k
def freeL (K : List Nat) (k : Nat) : List Nat := (List.range k).filter fun x => !decide (x ∈ K)
theorem freeL_succ (K : List Nat) (k : Nat) : freeL K (k + 1) = freeL K k ++ (if k ∈ K then [] else [k]) := by
  unfold freeL
  rw [List.range_succ, List.filter_append]
  by_cases h : k ∈ K <;> simp [h]
theorem freeL_len (K : List Nat) (k : Nat) : (freeL K k).length ≤ k := by
  have := List.length_filter_le (fun x => !decide (x ∈ K)) (List.range k)
  simpa [freeL] using this
theorem sectorsN_ok {w : World} {db N : Nat} {a : Option Addr} {c : Nat} (h : w.cell? ⟨db, 0, none⟩ = some (.slice a N c)) :
    Calls Tryz.prog 78 #[.pointer (some ⟨db, 0, none⟩)] w fun e w' => e = .returned (.int .i64 (N : Int)) ∧ w' = w := by
  have hl := cell_lt' h
  go_enter Tryz.func78, Tryz.ntmps78
  go_wp2
  go_ret
  exact ⟨rfl, rfl⟩
def FK (K : Option TypeId) (sb : Nat) (W : World) : Prop := (∀ o, o < 17 → W.frozen? ⟨sb, o, none⟩ = false) ∧ kindOf W sb = K
theorem rooms_round {K : Option TypeId} {wr w3 W5 : World} {sb n : Nat} {u v' : Value} {ys : List Value} (hx : Exc W5.heap.size sb W5 wr) (hX : ∃ X, Below wr.heap.size wr X ∧ X.grownBy w3 u.ownBlock) (hob : ∀ j, u.ownBlock = some j → W5.heap.size ≤ j) (hsb : sb < W5.heap.size)
    (hc3 : w3.cell? ⟨sb, 16, none⟩ = some u) (hown : w3.ownsRow W5.heap.size 3 1 v' n ys) (hoo : ∀ o, o ≠ 16 → wr.cell? ⟨sb, o, none⟩ = W5.cell? ⟨sb, o, none⟩) (hzz : FK K sb wr) :
    (w3.setCell ⟨sb, 16, none⟩ v').cell? ⟨sb, 16, none⟩ = some v' ∧ (w3.setCell ⟨sb, 16, none⟩ v').ownsRow W5.heap.size 3 1 v' n ys ∧ Exc W5.heap.size sb W5 (w3.setCell ⟨sb, 16, none⟩ v') ∧ (∀ o, o ≠ 16 → (w3.setCell ⟨sb, 16, none⟩ v').cell? ⟨sb, o, none⟩ = W5.cell? ⟨sb, o, none⟩) ∧ FK K sb (w3.setCell ⟨sb, 16, none⟩ v') := by
  obtain ⟨X, hb, hg⟩ := hX
  have hwX : W5.heap.size ≤ X.heap.size := Nat.le_trans hx.size hb.size
  have hsb3 : w3.heap[sb]? = wr.heap[sb]? := (hg.block sb (by omega) (fun e => by have := hob _ e.symm; omega)).trans (hb.block sb (Nat.lt_of_lt_of_le hsb hx.size))
  refine ⟨World.cell?_setCell_same _ _ _ hc3, ⟨hown.1, hown.2.imp id fun ⟨g, cap, cur, e, hbg, hh, r⟩ => ⟨g, cap, cur, e, hbg, (heap_setCell_other w3 (⟨sb, 16, none⟩ : Addr) g v' (by simp; omega)).trans hh, r⟩⟩, ⟨?_, ?_, ?_, ?_, fun k h1 h2 => ?_⟩, fun o ho => ?_, fun o ho => ?_, (kindOf_set hc3).trans ((kindOf_same hsb3).trans hzz.2)⟩
  · exact hg.os.trans (hb.os.trans hx.os)
  · exact hg.tape.trans (hb.tape.trans hx.tape)
  · exact hg.output.trans (hb.output.trans hx.output)
  · have := hg.size; simp [World.setCell]; omega
  · exact (heap_setCell_other w3 (⟨sb, 16, none⟩ : Addr) k v' h2).trans ((hg.block k (by omega) (fun e => by have := hob _ e.symm; omega)).trans ((hb.block k (Nat.lt_of_lt_of_le h1 hx.size)).trans (hx.block k h1 h2)))
  · rw [World.cell?_setCell_other w3 ⟨sb, 16, none⟩ ⟨sb, o, none⟩ _ (fun q => ho (by injection q with _ q; exact q.symm)), (cell_of_heap (a := ⟨sb, o, none⟩) hsb3).1]
    exact hoo o ho
  · rw [World.frozen?_setCell, (cell_of_heap (a := ⟨sb, o, none⟩) hsb3).2]
    exact hzz.1 o ho
theorem rooms1_ok {w : World} {bx sb db rb ob N : Nat} {fr fo pt : Nat → Nat} (H : RmV w bx sb db rb ob N fr fo pt) :
    Calls Tryz.prog 91 #[.pointer (some ⟨bx, 0, none⟩)] w fun e W => (∃ v, e = .returned v) ∧ ∃ u, W.cell? ⟨sb, 16, none⟩ = some u ∧ W.ownsRow w.heap.size 3 1 u (freeL (keys (lst fr fo pt) 3) N).length ((freeL (keys (lst fr fo pt) 3) N).map encI) ∧ Exc w.heap.size sb w W ∧ (∀ o, o ≠ 16 → W.cell? ⟨sb, o, none⟩ = w.cell? ⟨sb, o, none⟩) ∧ FK (kindOf w sb) sb W := by
  have HH := Lib.hid H
  have lbx := H.bx.lt
  have lsb := cell_lt' H.s0
  have ldb : db < w.heap.size := by obtain ⟨a, c, h⟩ := H.d0; exact cell_lt' h
  have nbs := H.ne.1
  have nds := H.ne.2.1
  clear H
  have hm0 := World.ownsMap_made w Tryz.prog 3 heldR
  have hmm := @run_makeMap Tryz.prog
  go_enter Tryz.func91, Tryz.ntmps91
  go_upto_region 1 with (first
    | (refine wpList_insert_held _ rfl _ _ _ 153 rfl 3 3 key3 Tryz.underlying153 w.heap.size _ _ rfl hm0 (by decide) (.int .i64 0) (.int .i64 1) _ rfl rfl (key_nat (n := 0) (by decide)) ?_; intro w1 hm1 hg1)
    | (refine wpList_insert_held _ rfl _ _ _ 153 rfl 3 3 key3 Tryz.underlying153 w.heap.size _ _ rfl hm1 (by decide) (.int .i64 1) (.int .i64 1) _ rfl rfl (key_nat (n := 1) (by decide)) ?_; intro w2 hm2 hg2))
  have hb2 : Below w.heap.size w w2 := (((Below.refl _ w).alloc (Nat.le_refl _) _).grown hg1 (by simp) (fun k e => by cases e; exact Nat.le_refl _)).grown hg2 (by have := hg1.size; simp at this; omega) (fun k e => by cases e; exact Nat.le_refl _)
  have H2 := HH.out.keep hb2
  have HS : Hid (∀ x, Below w2.heap.size w2 x → Hid (Below w2.heap.size w2 x) ∧ x.cell? ⟨bx, 0, none⟩ = some (.pointer (some ⟨sb, 0, none⟩)) ∧ x.cell? ⟨sb, 13, none⟩ = some (.pointer (some ⟨rb, 0, none⟩)) ∧ x.cell? ⟨sb, 14, none⟩ = some (.pointer (some ⟨ob, 0, none⟩)) ∧ x.cell? ⟨sb, 3, none⟩ = some (.int .i64 (pt 0 : Int))) :=
    Lib.hid fun x hx => ⟨Lib.hid hx, cells_below hx _ _ H2.bx.cell, cells_below hx _ _ H2.s13, cells_below hx _ _ H2.s14, cells_below hx _ _ (H2.sp 0 (by decide)).1⟩
  have HR := Lib.hid (fun x (hx : Below w2.heap.size w2 x) => (secs_rr (H2.keep hx).mr).mono (R' := fun e w' => ∃ a c, e = .returned (.slice a (secs fr).length c) ∧ RR w' (.slice a (secs fr).length c) (secs fr) ∧ Below x.heap.size x w' ∧ Below w2.heap.size w2 w') fun e w' ⟨a, c, h1, h2, h3⟩ => ⟨a, c, h1, h2, h3, Below.up hx h3⟩)
  have HO := Lib.hid (fun x (hx : Below w2.heap.size w2 x) => (secs_rr (H2.keep hx).mo).mono (R' := fun e w' => ∃ a c, e = .returned (.slice a (secs fo).length c) ∧ RR w' (.slice a (secs fo).length c) (secs fo) ∧ Below x.heap.size x w' ∧ Below w2.heap.size w2 w') fun e w' ⟨a, c, h1, h2, h3⟩ => ⟨a, c, h1, h2, h3, Below.up hx h3⟩)
  have HM2 := Lib.hid hm2
  have HB2 := Lib.hid hb2
  have HH2 := Lib.hid H2
  have hc := HS.out w2 (Below.refl _ _)
  clear hmm hm0 hm1 hm2 hg1 hg2 hb2 H2 HH
  obtain ⟨_, k1, k2, k3, k4⟩ := hc
  go_wp2_with fail
  go_region_held3 (fun x => Hid (Below w2.heap.size w2 x) ∧ x.cell? ⟨bx, 0, none⟩ = some (.pointer (some ⟨sb, 0, none⟩)) ∧ x.cell? ⟨sb, 13, none⟩ = some (.pointer (some ⟨rb, 0, none⟩)) ∧ x.cell? ⟨sb, 14, none⟩ = some (.pointer (some ⟨ob, 0, none⟩)) ∧ x.cell? ⟨sb, 3, none⟩ = some (.int .i64 (pt 0 : Int)))
    ((refine HS.out _ ?_; (repeat (first | exact Below.refl _ _ | assumption | refine Below.drew ?_ | refine Below.allocs ?_ _))))
    ((first
      | (go_at_call_of 83 (Value.pointer (some ⟨rb, 0, none⟩)); refine (HR.out _ ?_).mono ?_; (repeat (first | exact Below.refl _ _ | assumption | refine Below.drew ?_ | refine Below.allocs ?_ _)); rintro e w3 ⟨a3, c3, rfl, hr3, hb3, hbw3⟩; have HR3 := Lib.hid hr3; have HB3 := Lib.hid hb3; clear hr3 hb3)
      | (go_at_call_of 83 (Value.pointer (some ⟨ob, 0, none⟩)); refine (HO.out _ ?_).mono ?_; (repeat (first | exact Below.refl _ _ | assumption | refine Below.drew ?_ | refine Below.allocs ?_ _)); rintro e w4 ⟨a4, c4, rfl, hr4, hb4, hbw4⟩; have HR4 := Lib.hid hr4; have HB4 := Lib.hid hb4; clear hr4 hb4)))
  have hB4 : Below w2.heap.size w2 w4 := by assumption
  have hB34 := HB4.out
  obtain ⟨W3, hW3⟩ : ∃ W3, w4.alloc (.cells #[.slice a3 (secs fr).length c3, .slice a4 (secs fo).length c4, .slice (some ⟨sb, 3, none⟩) 9 9] 51) = W3 := ⟨_, rfl⟩
  have hb3 : Below w2.heap.size w2 W3 := by rw [← hW3]; exact Below.allocs hB4 _
  have hb43 : Below w4.heap.size w4 W3 := by rw [← hW3]; exact Below.allocs (Below.refl _ _) _
  have hsz3 : W3.heap.size = w4.heap.size + 1 := by rw [← hW3]; simp
  have H3 := HH2.out.keep hb3
  have hL : ∀ k, k < 3 → ∃ a c, W3.cell? ⟨w4.heap.size, k, none⟩ = some (.slice a (lst fr fo pt k).length c) ∧ RR W3 (.slice a (lst fr fo pt k).length c) (lst fr fo pt k) := by
    intro k hk
    have hk' : k = 0 ∨ k = 1 ∨ k = 2 := by omega
    rcases hk' with rfl | rfl | rfl
    · exact ⟨a3, c3, by rw [← hW3]; simp [cell_new, lst], (HR3.out.of (cells_below hB34)).of (cells_below hb43)⟩
    · exact ⟨a4, c4, by rw [← hW3]; simp [cell_new, lst], HR4.out.of (cells_below hb43)⟩
    · refine ⟨some ⟨sb, 3, none⟩, 9, by rw [← hW3]; simp [cell_new, lst], some ⟨sb, 3, none⟩, 9, rfl, fun j x hj => ⟨_, rfl, ?_⟩⟩
      have hj9 : j < 9 := by
        have := (List.getElem?_eq_some_iff.1 hj).1
        simpa [lst] using this
      have hx : pt j = x := by simpa [lst, hj9] using hj
      subst hx
      have h5 : (⟨sb, 3, none⟩ : Addr).add j = ⟨sb, 3 + j, none⟩ := by simp [Addr.add]
      rw [h5]; exact (H3.sp j hj9).1
  have hm3 : W3.ownsMap Tryz.prog 3 heldR w.heap.size 2 (((DataW.map []).put (.int .i64 ((0 : Nat) : Int)) (.held (.int .i64 1))).put (.int .i64 ((1 : Nat) : Int)) (.held (.int .i64 1))) := by
    obtain ⟨es, ck, hb, hr⟩ := HM2.out
    exact ⟨es, ck, (hb3.block _ (Array.getElem?_eq_some_iff.1 hb).1).trans hb, hr⟩
  have hT : TK (((DataW.map []).put (.int .i64 ((0 : Nat) : Int)) (.held (.int .i64 1))).put (.int .i64 ((1 : Nat) : Int)) (.held (.int .i64 1))) (keys (lst fr fo pt) 0) := (TK.empty.put 0).put 1
  have hbw : Below w.heap.size w W3 := Below.trans HB2.out ⟨hb3.os, hb3.tape, hb3.output, hb3.size, fun k hk => hb3.block k (Nat.lt_of_lt_of_le hk HB2.out.size)⟩
  rw [hW3]
  have hlt := lst_lt (fun i hi => (H3.mr.at hi).2.2) (fun i hi => (H3.mo.at hi).2.2) (fun i hi => (H3.sp i hi).2)
  have hln := lst_len fr fo pt
  generalize hLe : lst fr fo pt = L at hL hT hlt hln ⊢
  have HLE := Lib.hid hLe
  clear hLe
  have hmb : w.heap.size < W3.heap.size := hm3.lt
  have hm3' := hm3
  obtain ⟨es3, ck3, hmap, _⟩ := hm3'
  have hnb : w4.heap.size ≠ w.heap.size := by
    have := HB2.out.size; have := hB4.size
    have h2 : w.heap.size < w2.heap.size := by obtain ⟨es, ck, hb, _⟩ := HM2.out; exact (Array.getElem?_eq_some_iff.1 hb).1
    omega
  have hbb : w4.heap.size < W3.heap.size := by omega
  clear hW3 HR HO HS HR3 HR4 HB3 HB4 HM2 hB34 hB4 hb43 k1 k2 k3 k4 hb3 HB2 HH2 hbw3 hbw4
  generalize w4.heap.size = nb at hL hnb hbb ⊢
  have HL := Lib.hid hL
  have HM3 := Lib.hid hm3
  have HT := Lib.hid hT
  have HBW := Lib.hid hbw
  have H3' := Lib.hid H3
  have HLT := Lib.hid hlt
  have HLN := Lib.hid hln
  have HMAP := Lib.hid hmap
  clear hL hm3 hT hbw H3 hlt hln hmap hsz3
  go_wp2_with fail
  go_loopw [27] (fun v wr => ∃ (k n : Nat) (D : DataW Value), v = .int .i64 k ∧ k ≤ 3 ∧ wr.ownsMap Tryz.prog 3 heldR w.heap.size n D ∧ n ≤ 2 + 1024 * k ∧ TK D (keys L k) ∧ Exc W3.heap.size w.heap.size W3 wr) (fun v _ => 3 - (Go.RowKit.intOf v).toNat)
  case atStart => exact ⟨0, 2, _, rfl, by decide, HM3.out, by decide, HT.out, Exc.refl _ _ _⟩
  case round =>
    obtain ⟨k, n, D, rfl, hk, hm, hn, hT, hE⟩ := hrel
    by_cases e : k = 3
    · subst e
      have HM := Lib.hid hm
      have HTT := Lib.hid hT
      have HE := Lib.hid hE
      have lW := hmb
      have cb : wr.cell? ⟨bx, 0, none⟩ = some (.pointer (some ⟨sb, 0, none⟩)) := (hE.cell (by omega) (by omega)).trans H3'.out.bx.cell
      have cs0 : wr.cell? ⟨sb, 0, none⟩ = some (.pointer (some ⟨db, 0, none⟩)) := (hE.cell (by omega) (by omega)).trans H3'.out.s0
      obtain ⟨v16, c16⟩ : ∃ v, wr.cell? ⟨sb, 16, none⟩ = some v := by obtain ⟨v, h⟩ := H3'.out.s16; exact ⟨v, (hE.cell (by omega) (by omega)).trans h⟩
      have z16 : ∀ o, o < 17 → wr.frozen? ⟨sb, o, none⟩ = false := fun o ho => by rw [(cell_of_heap (a := ⟨sb, o, none⟩) (hE.block sb (by omega) (by omega))).2]; exact H3'.out.sz o ho
      obtain ⟨ad, cd, cd0⟩ : ∃ a c, wr.cell? ⟨db, 0, none⟩ = some (.slice a N c) := by obtain ⟨a, c, h⟩ := H3'.out.d0; exact ⟨a, c, (hE.cell (by omega) (by omega)).trans h⟩
      have blr := cell_lt' cb
      have slr := cell_lt' cs0
      have HZ := Lib.hid z16
      have z16' := z16 16 (by decide)
      have cb5 : (wr.setCell ⟨sb, 16, none⟩ (.slice none 0 0)).cell? ⟨bx, 0, none⟩ = some (.pointer (some ⟨sb, 0, none⟩)) := (World.cell?_setCell_other wr ⟨sb, 16, none⟩ ⟨bx, 0, none⟩ _ (fun q => nbs (congrArg Addr.block q).symm)).trans cb
      have cs5 : (wr.setCell ⟨sb, 16, none⟩ (.slice none 0 0)).cell? ⟨sb, 0, none⟩ = some (.pointer (some ⟨db, 0, none⟩)) := (World.cell?_setCell_other wr ⟨sb, 16, none⟩ ⟨sb, 0, none⟩ _ (by simp)).trans cs0
      have cd5 : (wr.setCell ⟨sb, 16, none⟩ (.slice none 0 0)).cell? ⟨db, 0, none⟩ = some (.slice ad N cd) := (World.cell?_setCell_other wr ⟨sb, 16, none⟩ ⟨db, 0, none⟩ _ (fun q => nds (congrArg Addr.block q).symm)).trans cd0
      have SN := sectorsN_ok cd5
      clear hm hT hE z16 cd5
      go_upto_region 11 with fail
      go_wp2_with (go_at_call 78; refine SN.mono ?_; rintro e w5 ⟨rfl, hw⟩; subst hw)
      have c165 := World.cell?_setCell_same wr ⟨sb, 16, none⟩ (.slice none 0 0) c16
      have hm5 : (wr.setCell ⟨sb, 16, none⟩ (.slice none 0 0)).ownsMap Tryz.prog 3 heldR w.heap.size n D := HM.out.setCell (show w.heap.size ≠ sb by omega) _
      have hsz5 : wr.heap.size = (wr.setCell ⟨sb, 16, none⟩ (.slice none 0 0)).heap.size := by simp [World.setCell]
      have hE5 : Exc w.heap.size sb w (wr.setCell ⟨sb, 16, none⟩ (.slice none 0 0)) := by
        have h1 := HBW.out
        have h2 := HE.out
        exact ⟨h2.os.trans h1.os, h2.tape.trans h1.tape, h2.output.trans h1.output, by rw [← hsz5]; exact Nat.le_trans h1.size h2.size, fun k hk hne => (heap_setCell_other wr (⟨sb, 16, none⟩ : Addr) k _ hne).trans ((h2.block k (by omega) (by omega)).trans (h1.block k hk))⟩
      have ho5 : ∀ o, o ≠ 16 → (wr.setCell ⟨sb, 16, none⟩ (.slice none 0 0)).cell? ⟨sb, o, none⟩ = w.cell? ⟨sb, o, none⟩ := fun o ho => by
        rw [World.cell?_setCell_other wr ⟨sb, 16, none⟩ ⟨sb, o, none⟩ _ (fun q => ho (by injection q with _ q; exact q.symm)), HE.out.cell (by omega) (by omega)]
        exact HBW.out.cell (p := ⟨sb, o, none⟩) lsb
      have hz5 : FK (kindOf w sb) sb (wr.setCell ⟨sb, 16, none⟩ (.slice none 0 0)) := ⟨fun o ho => by rw [World.frozen?_setCell]; exact HZ.out o ho, (kindOf_set c16).trans (kindOf_same ((HE.out.block sb (by omega) (by omega)).trans (HBW.out.block sb lsb)))⟩
      rw [hsz5] at slr
      have hmb5 : w.heap.size < wr.heap.size := Nat.lt_of_lt_of_le hmb HE.out.size
      rw [hsz5] at hmb5
      clear hsz5 z16' cs0 cs5 c16 cb cd0 blr HM HE HZ SN
      generalize wr.setCell ⟨sb, 16, none⟩ (.slice none 0 0) = W5 at cb5 c165 hm5 hE5 ho5 hz5 slr hmb5 ⊢
      have HM5 := Lib.hid hm5
      have HE5 := Lib.hid hE5
      have HO5 := Lib.hid ho5
      have HZ5 := Lib.hid hz5
      have HN := Lib.hid H3'.out.N
      clear hm5 hE5 ho5 hz5
      go_loopw [49] (fun v wr' => ∃ (k : Nat) (u : Value), v = .int .i64 k ∧ k ≤ N ∧ wr'.cell? ⟨sb, 16, none⟩ = some u ∧ wr'.ownsRow W5.heap.size 3 1 u (freeL (keys L 3) k).length ((freeL (keys L 3) k).map encI) ∧ Exc W5.heap.size sb W5 wr' ∧ (∀ o, o ≠ 16 → wr'.cell? ⟨sb, o, none⟩ = W5.cell? ⟨sb, o, none⟩) ∧ FK (kindOf w sb) sb wr') (fun v _ => N - (Go.RowKit.intOf v).toNat)
      case atStart => exact ⟨0, _, rfl, Nat.zero_le _, c165, ⟨rfl, .inl ⟨rfl, rfl⟩⟩, Exc.refl _ _ _, fun _ _ => rfl, HZ5.out⟩
      case round =>
        obtain ⟨k, u, rfl, hk, hu, hrow, hx, hoo, hzz⟩ := hrel
        have HROW := Lib.hid hrow
        have HX := Lib.hid hx
        have HOO := Lib.hid hoo
        have HZZ := Lib.hid hzz
        by_cases ek : k = N
        · subst ek
          clear hrow hx hoo hzz
          go_wp2_with fail
          go_end0
          have hx := HX.out
          have hE := HE5.out
          refine ⟨⟨_, rfl⟩, u, hu, ?_, hE.trans ⟨hx.os, hx.tape, hx.output, hx.size, fun i h1 h2 => hx.block i (Nat.lt_of_lt_of_le h1 hE.size) h2⟩, fun o ho => (HOO.out o ho).trans (HO5.out o ho), HZZ.out⟩
          have hr := HROW.out
          rw [HLE.out]
          exact ⟨hr.1, hr.2.imp id fun ⟨g, cap, cur, e, hg, r⟩ => ⟨g, cap, cur, e, Nat.le_trans hE.size hg, r⟩⟩
        · have hk2 : k < N := by omega
          have hki : (k : Int) < (N : Int) := by omega
          have hk3 : (k : Int) < 65536 := by have := HN.out; omega
          have hm6 : ∀ w' : World, w'.heap[w.heap.size]? = wr.heap[w.heap.size]? → w'.ownsMap Tryz.prog 3 heldR w.heap.size n D := fun w' h => by
            obtain ⟨es, ck, hb, hr⟩ := HM5.out
            exact ⟨es, ck, h.trans ((hx.block _ hmb5 (by omega)).trans hb), hr⟩
          have hL6 := HTT.out.look (hm6 wr rfl) (x := k) (by omega)
          have cb6 : wr.cell? ⟨bx, 0, none⟩ = some (.pointer (some ⟨sb, 0, none⟩)) := (hx.cell (by omega) nbs).trans cb5
          have zz := hzz.1 16 (by decide)
          have lsr := cell_lt' hu
          have lbr := cell_lt' cb6
          by_cases hin : k ∈ keys L 3
          · rw [if_pos hin] at hL6
            clear hrow hx hoo hzz hm6
            go_wp2_with fail
            go_roundw
            case rel => exact ⟨k + 1, u, by simp, by omega, hu, by rw [freeL_succ, if_pos hin, List.append_nil]; exact HROW.out, HX.out, HOO.out, HZZ.out⟩
            case measure => simp [Go.RowKit.intOf]; omega
          · rw [if_neg hin] at hL6
            obtain ⟨i, hi, i1, i2, i3⟩ := i3'
            have HI := Lib.hid hi
            have hsx : ∀ x, Below wr.heap.size wr x → x.cell? ⟨bx, 0, none⟩ = some (.pointer (some ⟨sb, 0, none⟩)) ∧ x.cell? ⟨sb, 16, none⟩ = some u := fun x h => ⟨cells_below h _ _ cb6, cells_below h _ _ hu⟩
            have HS := Lib.hid hsx
            have hro : ∀ x, Below wr.heap.size wr x → x.ownsRow W5.heap.size 3 1 u (freeL (keys L 3) k).length ((freeL (keys L 3) k).map encI) := fun x h => by
              have hl := hrow.lt
              exact ⟨hrow.1, hrow.2.imp id fun ⟨g, cap, cur, e, hg, hh, r⟩ => ⟨g, cap, cur, e, hg, (h.block g (by subst e; exact (hl g rfl).2)).trans hh, r⟩⟩
            have HRO := Lib.hid hro
            have hob : ∀ j, u.ownBlock = some j → W5.heap.size ≤ j := fun j h => (hrow.lt j h).1
            have HOB := Lib.hid hob
            have hfl := freeL_len (keys L 3) k
            have hfs : Hid (freeL (keys L 3) (k + 1) = freeL (keys L 3) k ++ [k]) := Lib.hid (by rw [freeL_succ, if_neg hin])
            have hbx5 : bx < W5.heap.size := by omega
            generalize hfe : freeL (keys L 3) k = fl at HRO hfs hfl
            clear hrow hx hoo hzz hm6 hsx hro hob hi hfe hin
            go_upto_region 15 with fail
            go_wp2_with fail
            go_region_law ((refine step_append_own rfl _ _ 51 rfl W5.heap.size 3 i (.int .i64 0) 1 8 Tryz.underlying51 HI.out i3 i1 i2 rfl (by decide) _ fl.length (fl.map encI) rfl (HRO.out _ (by (repeat (first | exact Below.refl _ _ | assumption | refine Below.drew ?_ | refine Below.allocs ?_ _)))) ⟨wr.heap.size, 0, none⟩ 1 1 [.int .i64 (k : Int)] rfl rfl (cell_one_new _ _ _) (by simp [Value.oneCell']) (Nat.le_trans (show fl.length + 1 ≤ 65536 by have := HN.out; omega) (by decide)) (by have := HN.out; omega) (by have := HX.out.size; simp; omega) ?_; intro v' w3 hown' hgrow hnil; have hcb3 : w3.cell? ⟨bx, 0, none⟩ = some (.pointer (some ⟨sb, 0, none⟩)) := ((cell_of_heap (a := ⟨bx, 0, none⟩) (hgrow.block bx (by have := HX.out.size; simp; omega) (fun e => by have := HOB.out _ e.symm; omega))).1).trans (HS.out _ (by (repeat (first | exact Below.refl _ _ | assumption | refine Below.drew ?_ | refine Below.allocs ?_ _)))).1; have hcs3 : w3.cell? ⟨sb, 16, none⟩ = some u := ((cell_of_heap (a := ⟨sb, 16, none⟩) (hgrow.block sb (by have := HX.out.size; simp; omega) (fun e => by have := HOB.out _ e.symm; omega))).1).trans (HS.out _ (by (repeat (first | exact Below.refl _ _ | assumption | refine Below.drew ?_ | refine Below.allocs ?_ _)))).2; have hz3 : w3.frozen? ⟨sb, 16, none⟩ = false := (by rw [(cell_of_heap (a := ⟨sb, 16, none⟩) (hgrow.block sb (by have := HX.out.size; simp; omega) (fun e => by have := HOB.out _ e.symm; omega))).2]; simp only [World.frozen?_drew]; rw [World.frozen?_alloc_past _ _ _ lsr]; simpa using zz); have HOW := Lib.hid hown'; have HGR : Hid (∃ X, Below wr.heap.size wr X ∧ X.grownBy w3 u.ownBlock) := Lib.hid ⟨_, (by (repeat (first | exact Below.refl _ _ | assumption | refine Below.drew ?_ | refine Below.allocs ?_ _))), hgrow⟩; have HC3 := Lib.hid hcs3; obtain ⟨a', c', rfl⟩ := own_slice hown'; clear hown' hgrow hnil))
            all_goals go_wp2_with fail
            all_goals
              have hfin := rooms_round HX.out HGR.out HOB.out slr HC3.out HOW.out HOO.out HZZ.out
              go_roundw
            all_goals first
              | (refine ⟨k + 1, _, by simp, by omega, hfin.1, ?_, hfin.2.2.1, hfin.2.2.2.1, hfin.2.2.2.2⟩; rw [hfs.out, List.length_append, List.map_append]; exact hfin.2.1)
              | (simp [Go.RowKit.intOf]; omega)
    · have hk3 : k < 3 := by omega
      have hki : (k : Int) < 3 := by omega
      obtain ⟨a, c, hc, hrr⟩ := HL.out k hk3
      have hcr := (hE.cell hbb hnb).trans hc
      have hln := HLN.out k
      have HRR := Lib.hid hrr
      have HM := Lib.hid hm
      have HTT := Lib.hid hT
      have HE := Lib.hid hE
      have hbl := cell_lt' hcr
      clear hm hT hE hrr hc
      go_wp2_with fail
      go_loopw [33] (fun v wr' => ∃ (j n' : Nat) (D' : DataW Value), v = .int .i64 j ∧ j ≤ (L k).length ∧ wr'.ownsMap Tryz.prog 3 heldR w.heap.size n' D' ∧ n' ≤ 2 + 1024 * k + j ∧ TK D' (keys L k ++ (L k).take j) ∧ Exc W3.heap.size w.heap.size W3 wr') (fun v _ => (L k).length - (Go.RowKit.intOf v).toNat)
      case atStart => exact ⟨0, n, D, rfl, Nat.zero_le _, HM.out, by omega, by simpa using HTT.out, HE.out⟩
      case round =>
        obtain ⟨j, n', D', rfl, hj, hm', hn', hT', hE'⟩ := hrel
        have HM' := Lib.hid hm'
        have HT' := Lib.hid hT'
        have HE' := Lib.hid hE'
        clear hm' hT' hE' HM HTT HE
        by_cases ej : j = (L k).length
        · clear hcr hbl
          have HLN' := Lib.hid hln
          have HN' := Lib.hid hn'
          clear hln hn'
          go_wp2_with fail
          refine ⟨⟨k + 1, n', D', by simp, by omega, HM'.out, by have := HN'.out; have := HLN'.out; omega, ?_, HE'.out⟩, by simp [Go.RowKit.intOf]; omega⟩
          have := HT'.out
          rw [ej, List.take_length] at this
          exact this
        · have hj2 : j < (L k).length := by omega
          have hji : (j : Int) < ((L k).length : Int) := by omega
          have hj3 : (j : Int) < 1024 := by omega
          obtain ⟨x, hx⟩ : ∃ x, (L k)[j]? = some x := ⟨_, List.getElem?_eq_getElem hj2⟩
          obtain ⟨a', c', e2, hcc⟩ := HRR.out
          obtain ⟨ad, rfl, hcx⟩ := hcc j x hx
          injection e2 with e2 _ e3
          subst e2
          have hcx' := cells_exc HE'.out HMAP.out _ _ hcx
          have hxl := HLT.out k x (List.mem_of_getElem? hx)
          have hst : (L k).take (j + 1) = (L k).take j ++ [x] := by rw [List.take_add_one, hx]; rfl
          have HBD : Hid (n' < maxLen) := Lib.hid (Nat.lt_of_le_of_lt (show n' ≤ 100000 by omega) (by decide))
          have HST := Lib.hid hst
          have HN' := Lib.hid hn'
          have HLN' := Lib.hid hln
          have HXL := Lib.hid hxl
          have HX := Lib.hid hx
          clear hcr hbl hcx hcc hst hn' hln hxl hx
          unfold encI at hcx'
          have hbl2 := cell_lt3 hcx'
          generalize (L k).length = len at hj hj2 hji ej ⊢
          go_wp2_with (at_mapUpdate; go_loud (refine wpList_mapUpdate_own _ rfl _ _ _ 153 rfl 3 3 key3 Tryz.underlying153 heldR w.heap.size _ _ rfl HM'.out HBD.out (.int .i64 (x : Int)) (.int .i64 1) _ rfl rfl (key_nat (by have := HXL.out; omega)) (.held (.int .i64 1)) [] rfl ?_; intro w8 hm8 hg8))
          go_roundw
          case rel =>
            refine ⟨j + 1, ?_, by omega, n' + 1, _, hm8, by have := HN'.out; omega, ?_, HE'.out.trans (Exc.of_grownBy HE'.out.size hg8)⟩
            · first | omega | rfl | simp
            · have := HT'.out.put x; rw [HST.out, ← List.append_assoc]; exact this
          case measure => simp [Go.RowKit.intOf]; omega
end Go.Tb
namespace Go.Tb
open Go Go.RowKit Go.Proofs Go.Maps Go.Sp
structure RmB (w : World) (sb db rb ob N : Nat) (fr fo pt : Nat → Nat) : Prop where
  s0 : w.cell? ⟨sb, 0, none⟩ = some (.pointer (some ⟨db, 0, none⟩))
  sp : ∀ i, i < 9 → w.cell? ⟨sb, 3 + i, none⟩ = some (.int .i64 (pt i : Int)) ∧ pt i < 65536
  s13 : w.cell? ⟨sb, 13, none⟩ = some (.pointer (some ⟨rb, 0, none⟩))
  s14 : w.cell? ⟨sb, 14, none⟩ = some (.pointer (some ⟨ob, 0, none⟩))
  s16 : ∃ v, w.cell? ⟨sb, 16, none⟩ = some v
  sz : ∀ o, o < 17 → w.frozen? ⟨sb, o, none⟩ = false
  d0 : ∃ a c, w.cell? ⟨db, 0, none⟩ = some (.slice a N c)
  N : N ≤ 65536
  mo : MapV w ob fo
  mr : MapV w rb fr
  ne : db ≠ sb ∧ rb ≠ sb ∧ ob ≠ sb
theorem RmB.lt {w : World} {sb db rb ob N : Nat} {fr fo pt : Nat → Nat} (H : RmB w sb db rb ob N fr fo pt) : sb < w.heap.size ∧ db < w.heap.size ∧ rb < w.heap.size ∧ ob < w.heap.size :=
  ⟨cell_lt' H.s0, (by obtain ⟨a, c, h⟩ := H.d0; exact cell_lt' h), cell_lt' (H.mr.at (i := 0) (by decide)).1, cell_lt' (H.mo.at (i := 0) (by decide)).1⟩
theorem RmB.same {w x : World} {sb db rb ob N : Nat} {fr fo pt : Nat → Nat} (H : RmB w sb db rb ob N fr fo pt) (hs : x.heap[sb]? = w.heap[sb]?) (hd : x.heap[db]? = w.heap[db]?) (hr : x.heap[rb]? = w.heap[rb]?) (ho : x.heap[ob]? = w.heap[ob]?) : RmB x sb db rb ob N fr fo pt := by
  have hc := fun o => (cell_of_heap (a := ⟨sb, o, none⟩) hs).1
  have hz := fun o => (cell_of_heap (a := ⟨sb, o, none⟩) hs).2
  have hdc := fun o => (cell_of_heap (a := ⟨db, o, none⟩) hd).1
  exact { s0 := (hc _).trans H.s0, sp := fun i hi => ⟨(hc _).trans (H.sp i hi).1, (H.sp i hi).2⟩, s13 := (hc _).trans H.s13, s14 := (hc _).trans H.s14, s16 := H.s16.imp fun v h => (hc _).trans h, sz := fun o ho => (hz o).trans (H.sz o ho), d0 := (by obtain ⟨a, c, h⟩ := H.d0; exact ⟨a, c, (hdc _).trans h⟩), N := H.N, mo := H.mo.keep ho, mr := H.mr.keep hr, ne := H.ne }
theorem RmB.box {w : World} {qb sb db rb ob N : Nat} {fr fo pt : Nat → Nat} (H : RmB w sb db rb ob N fr fo pt) (hq : Boxed w qb 26 (.pointer (some ⟨sb, 0, none⟩))) (hne : qb ≠ sb) : RmV w qb sb db rb ob N fr fo pt :=
  { bx := hq, s0 := H.s0, sp := H.sp, s13 := H.s13, s14 := H.s14, s16 := H.s16, sz := H.sz, d0 := H.d0, N := H.N, mo := H.mo, mr := H.mr, ne := ⟨hne, H.ne⟩ }
theorem OnceV.c0 {w : World} {kb : Nat} (h : OnceV w kb) : w.cell? ⟨kb, 0, none⟩ = some (.int .u32 0) ∧ w.cell? ⟨kb, 1, none⟩ = some (.int .i32 0) ∧ ∀ o, o < 2 → w.frozen? ⟨kb, o, none⟩ = false := h
structure Exc2 (B b c : Nat) (W W' : World) : Prop where
  os : W'.os = W.os
  tape : W'.tape = W.tape
  output : W'.output = W.output
  size : W.heap.size ≤ W'.heap.size
  block : ∀ k, k < B → k ≠ b → k ≠ c → W'.heap[k]? = W.heap[k]?
theorem rooms_ok {w : World} {sb db rb ob N kb : Nat} {fr fo pt : Nat → Nat} (H : RmB w sb db rb ob N fr fo pt) (h15 : w.cell? ⟨sb, 15, none⟩ = some (.pointer (some ⟨kb, 0, none⟩))) (hO : OnceV w kb) (hks : kb ≠ sb) (hkd : kb ≠ db) (hkr : kb ≠ rb) (hko : kb ≠ ob) :
    Calls Tryz.prog 53 #[.pointer (some ⟨sb, 0, none⟩)] w fun e W => ∃ u, e = .returned u ∧ W.cell? ⟨sb, 16, none⟩ = some u ∧ W.ownsRow w.heap.size 3 1 u (freeL (keys (lst fr fo pt) 3) N).length ((freeL (keys (lst fr fo pt) 3) N).map encI) ∧
      Exc2 w.heap.size sb kb w W ∧ (∀ o, o ≠ 16 → W.cell? ⟨sb, o, none⟩ = w.cell? ⟨sb, o, none⟩) ∧ FK (kindOf w sb) sb W ∧ W.cell? ⟨kb, 0, none⟩ = some (.int .u32 1) ∧ kindOf W kb = kindOf w kb := by
  obtain ⟨ls, ld, lr, lo⟩ := H.lt
  have lk : kb < w.heap.size := cell_lt' hO.1
  -- the world in which the once is asked
  have hb1 : ∀ k, k < w.heap.size → (w.alloc (.cells #[.pointer (some ⟨sb, 0, none⟩)] 26)).heap[k]? = w.heap[k]? := fun k hk => Below.heap_alloc _ _ k hk
  have hO1 : OnceV (w.alloc (.cells #[.pointer (some ⟨sb, 0, none⟩)] 26)) kb := hO.same (hb1 kb lk)
  have hbx1 : Boxed (w.alloc (.cells #[.pointer (some ⟨sb, 0, none⟩)] 26)) w.heap.size 26 (.pointer (some ⟨sb, 0, none⟩)) := Boxed.new w 26 _
  have h151 : (w.alloc (.cells #[.pointer (some ⟨sb, 0, none⟩)] 26)).cell? ⟨sb, 15, none⟩ = some (.pointer (some ⟨kb, 0, none⟩)) := (cell_of_heap (a := ⟨sb, 15, none⟩) (hb1 sb ls)).1.trans h15
  have hR1 : RmB (w.alloc (.cells #[.pointer (some ⟨sb, 0, none⟩)] 26)) sb db rb ob N fr fo pt := H.same (hb1 sb ls) (hb1 db ld) (hb1 rb lr) (hb1 ob lo)
  have hs1 : (w.alloc (.cells #[.pointer (some ⟨sb, 0, none⟩)] 26)).heap.size = w.heap.size + 1 := by simp
  have hE1 : Below w.heap.size w (w.alloc (.cells #[.pointer (some ⟨sb, 0, none⟩)] 26)) := (Below.refl _ _).alloc (Nat.le_refl _) _
  obtain ⟨w1, hw1⟩ : ∃ w1, w.alloc (.cells #[.pointer (some ⟨sb, 0, none⟩)] 26) = w1 := ⟨_, rfl⟩
  rw [hw1] at hO1 hbx1 h151 hR1 hs1 hE1
  obtain ⟨k0, k1, kz⟩ := hO1.c0
  have hset := fun k (hk : k ≠ kb) => heap_setCell_other w1 (⟨kb, 1, none⟩ : Addr) k (.int .i32 1) hk
  have hR2 : RmV (w1.setCell ⟨kb, 1, none⟩ (.int .i32 1)) w.heap.size sb db rb ob N fr fo pt := (hR1.same (hset sb (Ne.symm hks)) (hset db (Ne.symm hkd)) (hset rb (Ne.symm hkr)) (hset ob (Ne.symm hko))).box ((hset w.heap.size (by omega)).trans hbx1) (by omega)
  have RM := rooms1_ok hR2
  have hsz2 : (w1.setCell ⟨kb, 1, none⟩ (.int .i32 1)).heap.size = w.heap.size + 1 := by rw [← hs1]; simp [World.setCell]
  have OK := once_ok (kb := kb) (g := 91) (lb := #[.pointer (some ⟨w.heap.size, 0, none⟩)]) (w := w1) k0 k1 kz (enters_of' Tryz.func91 (by kernel_rfl) (by kernel_rfl)) (RM.mono fun e W ⟨h1, h2⟩ => ⟨h1, h2, h2.choose_spec.2.2.1.block kb (by omega) hks⟩)
  have OK2 : Calls Tryz.prog 90 #[.pointer (some ⟨kb, 0, none⟩), .func (.func 91) #[] #[.pointer (some ⟨w.heap.size, 0, none⟩)]] w1 fun e W => e = .returned (.tuple #[]) ∧ W.cell? ⟨w.heap.size, 0, none⟩ = some (.pointer (some ⟨sb, 0, none⟩)) ∧ ∃ a n c, W.cell? ⟨sb, 16, none⟩ = some (.slice a n c) ∧ Hid (W.ownsRow w.heap.size 3 1 (.slice a n c) (freeL (keys (lst fr fo pt) 3) N).length ((freeL (keys (lst fr fo pt) 3) N).map encI) ∧
      Exc2 w.heap.size sb kb w W ∧ (∀ o, o ≠ 16 → W.cell? ⟨sb, o, none⟩ = w.cell? ⟨sb, o, none⟩) ∧ FK (kindOf w sb) sb W ∧ W.cell? ⟨kb, 0, none⟩ = some (.int .u32 1) ∧ kindOf W kb = kindOf w kb) := by
    refine OK.mono ?_
    rintro e w' ⟨rfl, W, ⟨u, q1, q2, q3, q4, q5⟩, rfl⟩
    have hd : ∀ k : Nat, W.drew.heap[k]? = W.heap[k]? := fun _ => rfl
    have ho : ∀ k : Nat, k ≠ kb → (onceEnd W kb).heap[k]? = W.heap[k]? := fun k hk =>
      (heap_setCell_other _ (⟨kb, 1, none⟩ : Addr) k _ hk).trans ((heap_setCell_other _ (⟨kb, 0, none⟩ : Addr) k _ hk).trans (hd k))
    have hE : ∀ k : Nat, k < w.heap.size → k ≠ sb → k ≠ kb → (onceEnd W kb).heap[k]? = w.heap[k]? := fun k h1 h2 h3 =>
      (ho k h3).trans ((q3.block k (by omega) h2).trans ((hset k h3).trans (hE1.block k h1)))
    have hbx : (onceEnd W kb).heap[w.heap.size]? = some (.cells #[.pointer (some ⟨sb, 0, none⟩)] 26 (0, 0)) := (ho _ (by omega)).trans ((q3.block _ (by omega) (by omega)).trans ((hset _ (by omega)).trans hbx1))
    have hsbc := fun o => cell_of_heap (w := W) (w' := onceEnd W kb) (a := (⟨sb, o, none⟩ : Addr)) (ho sb (Ne.symm hks))
    have hszW : W.heap.size ≤ (onceEnd W kb).heap.size := by unfold onceEnd; simp only [World.setCell, Array.size_modify]; exact Nat.le_refl _
    have hkb := q3.block kb (by omega) hks
    have c0 : W.cell? ⟨kb, 0, none⟩ = some (.int .u32 0) := (cell_of_heap (a := ⟨kb, 0, none⟩) hkb).1.trans ((World.cell?_setCell_other w1 ⟨kb, 1, none⟩ ⟨kb, 0, none⟩ _ (by simp)).trans k0)
    have c1 : W.cell? ⟨kb, 1, none⟩ = some (.int .i32 1) := (cell_of_heap (a := ⟨kb, 1, none⟩) hkb).1.trans (World.cell?_setCell_same w1 ⟨kb, 1, none⟩ _ k1)
    have c0' : (W.drew.setCell ⟨kb, 0, none⟩ (.int .u32 1)).cell? ⟨kb, 0, none⟩ = some (.int .u32 1) := World.cell?_setCell_same _ _ _ (show W.drew.cell? ⟨kb, 0, none⟩ = _ from c0)
    have c1' : (W.drew.setCell ⟨kb, 0, none⟩ (.int .u32 1)).cell? ⟨kb, 1, none⟩ = some (.int .i32 1) := (World.cell?_setCell_other _ ⟨kb, 0, none⟩ ⟨kb, 1, none⟩ _ (by simp)).trans (show W.drew.cell? ⟨kb, 1, none⟩ = _ from c1)
    have hkd : (onceEnd W kb).cell? ⟨kb, 0, none⟩ = some (.int .u32 1) := (World.cell?_setCell_other _ ⟨kb, 1, none⟩ ⟨kb, 0, none⟩ _ (by simp)).trans c0'
    have hkk : kindOf (onceEnd W kb) kb = kindOf w kb := (kindOf_set c1').trans ((kindOf_set (w := W.drew) c0).trans ((kindOf_same (w := W) (w' := W.drew) rfl).trans ((kindOf_same hkb).trans ((kindOf_set k1).trans (kindOf_same (hE1.block kb lk))))))
    have hks' : kindOf (onceEnd W kb) sb = kindOf w sb := (kindOf_same (ho sb (Ne.symm hks))).trans (q5.2.trans ((kindOf_same (hset sb (Ne.symm hks))).trans (kindOf_same (hE1.block sb ls))))
    obtain ⟨a, c, rfl⟩ := own_slice q2
    refine ⟨rfl, Boxed.cell hbx, a, _, c, (hsbc 16).1.trans q1, Lib.hid ⟨⟨q2.1, q2.2.imp id fun ⟨g, cap, cur, e, hg, hh, r⟩ => ⟨g, cap, cur, e, by omega, (ho g (by omega)).trans hh, r⟩⟩, ⟨?_, ?_, ?_, ?_, hE⟩, fun o hne => ?_, ⟨fun o ho => ?_, hks'⟩, hkd, hkk⟩⟩
    · exact q3.os.trans hE1.os
    · exact q3.tape.trans hE1.tape
    · exact q3.output.trans hE1.output
    · have := q3.size; omega
    · rw [(hsbc o).1, q4 o hne, (cell_of_heap (a := ⟨sb, o, none⟩) (hset sb (Ne.symm hks))).1, hE1.cell (p := ⟨sb, o, none⟩) ls]
    · rw [(hsbc o).2]; exact q5.1 o ‹_›
  have bxl := hbx1.lt
  have bxc := hbx1.cell
  have sl1 := cell_lt' h151
  have hmf : ∀ (fn : Fn) (first cap : Array Value) (w : World), (Instr.makeFunc fn first cap).run Tryz.prog w = .ok (.func fn first cap) w := fun _ _ _ _ => rfl
  have HW1 := Lib.hid hw1
  clear RM OK hR2 hR1 hset H hsz2 hE1 hO1 hb1 k0 k1 kz hs1 hbx1 hw1
  go_enter Tryz.func53, Tryz.ntmps53
  go_upto_region 1 with fail
  rw [HW1.out]
  go_wp2_with (go_at_call 90; refine OK2.mono ?_; rintro e w2 ⟨rfl, cbx, a, n, c, c16, HQ⟩; have cl2 := cell_lt' cbx; have cl3 := cell_lt' c16)
  go_ret
  obtain ⟨q1, q2, q3, q4⟩ := HQ.out
  exact ⟨_, rfl, c16, q1, q2, q3, q4⟩
end Go.Tb
namespace Go.Tb
open Go Go.RowKit Go.Proofs Go.Maps Go.Sp
def spS : TypeId → Bool := fun T => caS T || T == 74 || T == 137 || T == 109
def spR : TypeId → Bool := fun T => caS T || T == 74 || T == 137
theorem spRS : ∀ T, spS T = false → spR T = false := fun T h => by simp [spS] at h; simp [spR, h.1.1.1, h.1.1.2, h.1.2]
theorem caspR : ∀ T, spR T = false → caS T = false := fun T h => by simp [spR] at h; exact h.1.1
theorem casp : ∀ T, spS T = false → caS T = false := fun T h => by simp [spS] at h; exact h.1.1.1
structure SpU (γ : Gh) (w : World) (sb db cb rb ob : Nat) (s : Sp) : Prop where
  ca : CaV γ w cb db s.c
  tg : Tag γ w sb 74
  Bs : γ.B ≤ sb
  s0 : w.cell? ⟨sb, 0, none⟩ = some (.pointer (some ⟨db, 0, none⟩))
  s1 : w.cell? ⟨sb, 1, none⟩ = some (.pointer (some ⟨cb, 0, none⟩))
  s2 : w.cell? ⟨sb, 2, none⟩ = some (.int .u32 (s.r.ep : Int)) ∧ s.r.ep < 4294967296
  sp : ∀ i, i < 9 → w.cell? ⟨sb, 3 + i, none⟩ = some (.int .i64 (s.r.at' i : Int)) ∧ s.r.at' i < 65536
  s12 : ∃ v, w.cell? ⟨sb, 12, none⟩ = some v ∧ RB γ w v s.r.mt
  ml : s.r.mt.length ≤ 1048576
  s13 : w.cell? ⟨sb, 13, none⟩ = some (.pointer (some ⟨rb, 0, none⟩))
  s14 : w.cell? ⟨sb, 14, none⟩ = some (.pointer (some ⟨ob, 0, none⟩))
  s15 : ∃ v, w.cell? ⟨sb, 15, none⟩ = some v
  s16 : ∃ v, w.cell? ⟨sb, 16, none⟩ = some v
  sz : ∀ o, o < 17 → w.frozen? ⟨sb, o, none⟩ = false
  mr : MapK γ w rb s.r.pg
  mo : MapK γ w ob s.own
  ro : rb ≠ ob
structure Kn (γ : Gh) (w : World) (sb kb : Nat) (l : List Nat) : Prop where
  s15 : w.cell? ⟨sb, 15, none⟩ = some (.pointer (some ⟨kb, 0, none⟩))
  tg : Tag γ w kb 137
  B : γ.B ≤ kb
  kn : OnceV w kb ∨ (w.cell? ⟨kb, 0, none⟩ = some (.int .u32 1) ∧ ∃ u, w.cell? ⟨sb, 16, none⟩ = some u ∧ NR γ w u l)
theorem Kn.lt {γ : Gh} {w : World} {sb kb : Nat} {l : List Nat} (h : Kn γ w sb kb l) : kb < w.heap.size := h.kn.elim (fun h => cell_lt' h.1) (fun h => cell_lt' h.1)
def SpV (γ : Gh) (w : World) (sb db : Nat) (s : Sp) : Prop := ∃ cb rb ob kb, SpU γ w sb db cb rb ob s ∧ Kn γ w sb kb s.rooms
theorem SpU.lt {γ : Gh} {w : World} {sb db cb rb ob : Nat} {s : Sp} (H : SpU γ w sb db cb rb ob s) : sb < w.heap.size := cell_lt' H.s0
theorem NR.more {γ γ' : Gh} {w : World} {v : Value} {l : List Nat} (h : NR γ w v l) (hl : Gh.Le w γ γ') : NR γ' w v l := by
  obtain ⟨a, c, e, hc, h⟩ := h
  exact ⟨a, c, e, hc, fun hp => by obtain ⟨g, o, e1, e2, e3, e4⟩ := h hp; exact ⟨g, o, e1, e2, e3.more hl e2, e4⟩⟩
theorem SpU.keep {γ : Gh} {T : TypeId → Bool} {w w' : World} {sb db cb rb ob : Nat} {s : Sp} (H : SpU γ w sb db cb rb ob s) (hs : Step γ T w w') (hc : CaV γ w' cb db s.c) (h5 : T 5 = false) (h95 : T 74 = false) (h153 : T 109 = false) : SpU γ w' sb db cb rb ob s :=
  { ca := hc, tg := hs.tg _ _ (by decide) H.lt H.tg, Bs := H.Bs, s0 := cell_keep hs H.tg h95 H.s0, s1 := cell_keep hs H.tg h95 H.s1, s2 := ⟨cell_keep hs H.tg h95 H.s2.1, H.s2.2⟩, sp := fun i hi => ⟨cell_keep hs H.tg h95 (H.sp i hi).1, (H.sp i hi).2⟩, s12 := (by obtain ⟨v, e1, e2⟩ := H.s12; exact ⟨v, cell_keep hs H.tg h95 e1, e2.keep hs h5⟩), ml := H.ml, s13 := cell_keep hs H.tg h95 H.s13, s14 := cell_keep hs H.tg h95 H.s14, s15 := H.s15.imp fun v e => cell_keep hs H.tg h95 e, s16 := H.s16.imp fun v e => cell_keep hs H.tg h95 e, sz := fun o ho => fz_keep hs H.tg h95 H.lt (H.sz o ho), mr := H.mr.keep hs h153, mo := H.mo.keep hs h153, ro := H.ro }
theorem Kn.keep {γ : Gh} {T : TypeId → Bool} {w w' : World} {sb kb : Nat} {l : List Nat} (h : Kn γ w sb kb l) (ht : Tag γ w sb 74) (hs : Step γ T w w') (h95 : T 74 = false) (h164 : T 137 = false) (h3 : T 3 = false) : Kn γ w' sb kb l :=
  ⟨cell_keep hs ht h95 h.s15, hs.tg _ _ (by decide) h.lt h.tg, h.B, h.kn.imp (fun k => k.same (hs.heap h.tg h164 h.lt)) fun ⟨k1, u, k2, k3⟩ => ⟨cell_keep hs h.tg h164 k1, u, cell_keep hs ht h95 k2, k3.keep hs h3⟩⟩
theorem rooms_same {s : Sp} {c' : Ca} (h : c'.d.N = s.c.d.N) : (s.withC c').rooms = s.rooms := by
  unfold Sp.rooms Sp.withC Sp.taken
  simp only [h]
theorem SpU.cache {γ : Gh} {w w' : World} {sb db cb rb ob : Nat} {s : Sp} (H : SpU γ w sb db cb rb ob s) {c' : Ca} (hs : Step γ caS w w') (hc : CaV γ w' cb db c') : SpU γ w' sb db cb rb ob (s.withC c') :=
  { ca := hc, tg := hs.tg _ _ (by decide) H.lt H.tg, Bs := H.Bs, s0 := cell_keep hs H.tg rfl H.s0, s1 := cell_keep hs H.tg rfl H.s1, s2 := ⟨cell_keep hs H.tg rfl H.s2.1, H.s2.2⟩, sp := fun i hi => ⟨cell_keep hs H.tg rfl (H.sp i hi).1, (H.sp i hi).2⟩, s12 := (by obtain ⟨v, e1, e2⟩ := H.s12; exact ⟨v, cell_keep hs H.tg rfl e1, e2.keep hs rfl⟩), ml := H.ml, s13 := cell_keep hs H.tg rfl H.s13, s14 := cell_keep hs H.tg rfl H.s14, s15 := H.s15.imp fun v e => cell_keep hs H.tg rfl e, s16 := H.s16.imp fun v e => cell_keep hs H.tg rfl e, sz := fun o ho => fz_keep hs H.tg rfl H.lt (H.sz o ho), mr := H.mr.keep hs rfl, mo := H.mo.keep hs rfl, ro := H.ro }
theorem SpV.cache {γ : Gh} {w w' : World} {sb db cb rb ob kb : Nat} {s : Sp} (H : SpU γ w sb db cb rb ob s) (K : Kn γ w sb kb s.rooms) {c' : Ca} (hs : Step γ caS w w') (hc : CaV γ w' cb db c') (hN : c'.d.N = s.c.d.N) : SpU γ w' sb db cb rb ob (s.withC c') ∧ Kn γ w' sb kb (s.withC c').rooms :=
  ⟨H.cache hs hc, by rw [rooms_same hN]; exact K.keep H.tg hs rfl rfl rfl⟩
theorem SpU.below {γ : Gh} {w w' : World} {sb db cb rb ob : Nat} {s : Sp} (H : SpU γ w sb db cb rb ob s) (hb : Below w.heap.size w w') (h0 : γ.lim ≤ w.heap.size) : SpU γ w' sb db cb rb ob s :=
  H.keep (Step.below (S := fun _ => false) hb h0) (H.ca.below hb h0) rfl rfl rfl
theorem Kn.below {γ : Gh} {w w' : World} {sb kb : Nat} {l : List Nat} (h : Kn γ w sb kb l) (ht : Tag γ w sb 74) (hb : Below w.heap.size w w') (h0 : γ.lim ≤ w.heap.size) : Kn γ w' sb kb l :=
  h.keep ht (Step.below (S := fun _ => false) hb h0) rfl rfl rfl
theorem SpV.below {γ : Gh} {w w' : World} {sb db : Nat} {s : Sp} (H : SpV γ w sb db s) (hb : Below w.heap.size w w') (h0 : γ.lim ≤ w.heap.size) : SpV γ w' sb db s := by
  obtain ⟨cb, rb, ob, kb, H, K⟩ := H
  exact ⟨cb, rb, ob, kb, H.below hb h0, K.below H.tg hb h0⟩
theorem SpV.more {γ γ' : Gh} {w : World} {sb db : Nat} {s : Sp} (H : SpV γ w sb db s) (hl : Gh.Le w γ γ') : SpV γ' w sb db s := by
  obtain ⟨cb, rb, ob, kb, H, K⟩ := H
  refine ⟨cb, rb, ob, kb, { ca := H.ca.more hl, tg := H.tg.more hl H.lt, Bs := hl.B ▸ H.Bs, s0 := H.s0, s1 := H.s1, s2 := H.s2, sp := H.sp, s12 := (by obtain ⟨v, e1, e2⟩ := H.s12; exact ⟨v, e1, e2.more hl⟩), ml := H.ml, s13 := H.s13, s14 := H.s14, s15 := H.s15, s16 := H.s16, sz := H.sz, mr := H.mr.more hl, mo := H.mo.more hl, ro := H.ro }, ⟨K.s15, K.tg.more hl K.lt, hl.B ▸ K.B, K.kn.imp id fun ⟨k1, u, k2, k3⟩ => ⟨k1, u, k2, k3.more hl⟩⟩⟩
theorem SpU.set {γ : Gh} {w : World} {sb db cb rb ob : Nat} {s : Sp} (H : SpU γ w sb db cb rb ob s) {o : Nat} (ho : o = 15 ∨ o = 16) (v : Value) : SpU γ (w.setCell ⟨sb, o, none⟩ v) sb db cb rb ob s ∧ Step γ spS w (w.setCell ⟨sb, o, none⟩ v) := by
  obtain ⟨v0, hv0⟩ : ∃ v0, w.cell? ⟨sb, o, none⟩ = some v0 := by rcases ho with rfl | rfl; exact H.s15; exact H.s16
  have hs : Step γ (fun T => T == 74) w (w.setCell ⟨sb, o, none⟩ v) := Step.set H.tg rfl H.Bs hv0
  have hc : ∀ k u, k ≠ o → w.cell? ⟨sb, k, none⟩ = some u → (w.setCell ⟨sb, o, none⟩ v).cell? ⟨sb, k, none⟩ = some u := fun k u hk h => (World.cell?_setCell_other w ⟨sb, o, none⟩ ⟨sb, k, none⟩ _ (fun q => hk (by injection q with _ q; exact q.symm))).trans h
  have hn := World.cell?_setCell_same w ⟨sb, o, none⟩ v hv0
  have hca := H.ca.keep hs ⟨rfl, rfl, rfl, rfl⟩ ⟨rfl, rfl, rfl⟩
  refine ⟨{ ca := hca, tg := hs.tg _ _ (by decide) H.lt H.tg, Bs := H.Bs, s0 := hc _ _ (by omega) H.s0, s1 := hc _ _ (by omega) H.s1, s2 := ⟨hc _ _ (by omega) H.s2.1, H.s2.2⟩, sp := fun i hi => ⟨hc _ _ (by omega) (H.sp i hi).1, (H.sp i hi).2⟩, s12 := (by obtain ⟨v, e1, e2⟩ := H.s12; exact ⟨v, hc _ _ (by omega) e1, e2.keep hs rfl⟩), ml := H.ml, s13 := hc _ _ (by omega) H.s13, s14 := hc _ _ (by omega) H.s14, s15 := ?_, s16 := ?_, sz := fun o ho => (World.frozen?_setCell _ _ _ _).trans (H.sz o ho), mr := H.mr.keep hs rfl, mo := H.mo.keep hs rfl, ro := H.ro }, hs.mono fun T hT => by simp [spS] at hT; simp [hT]⟩
  · rcases ho with rfl | rfl
    · exact ⟨_, hn⟩
    · exact H.s15.imp fun u h => hc _ _ (by omega) h
  · rcases ho with rfl | rfl
    · exact H.s16.imp fun u h => hc _ _ (by omega) h
    · exact ⟨_, hn⟩
end Go.Tb
namespace Go.Tb
open Go Go.RowKit Go.Proofs Go.Maps Go.Sp
theorem turn_ok {γ : Gh} {w : World} {sb db cb rb ob : Nat} {s : Sp} (H : SpU γ w sb db cb rb ob s) (h0 : γ.lim ≤ w.heap.size) :
    Calls Tryz.prog 37 #[.pointer (some ⟨sb, 0, none⟩)] w fun e w' => e = .returned (.tuple #[]) ∧ Hid (SpV γ w' sb db s ∧ Step γ spS w w') := by
  obtain ⟨W, hW⟩ : ∃ W, w.alloc (.cells #[.int .u32 0, .int .i32 0, .int .u32 0] 137) = W := ⟨_, rfl⟩
  have hb : Below w.heap.size w W := hW ▸ Below.alloc (Below.refl _ _) (Nat.le_refl _) _
  have hh : W.heap[w.heap.size]? = some (.cells #[.int .u32 0, .int .i32 0, .int .u32 0] 137 (0, 0)) := hW ▸ (Go.MapKept.heap_alloc w _).1
  have H1 := H.below hb h0
  have hlt := H.lt
  obtain ⟨H2, hs2⟩ := H1.set (o := 15) (.inl rfl) (.pointer (some ⟨w.heap.size, 0, none⟩))
  have hne : w.heap.size ≠ sb := by omega
  have hk : (W.setCell ⟨sb, 15, none⟩ (.pointer (some ⟨w.heap.size, 0, none⟩))).heap[w.heap.size]? = some (.cells #[.int .u32 0, .int .i32 0, .int .u32 0] 137 (0, 0)) := (heap_setCell_other W ⟨sb, 15, none⟩ w.heap.size _ hne).trans hh
  obtain ⟨v15, e15⟩ := H1.s15
  have K : Kn γ (W.setCell ⟨sb, 15, none⟩ (.pointer (some ⟨w.heap.size, 0, none⟩))) sb w.heap.size s.rooms :=
    ⟨World.cell?_setCell_same _ _ _ e15, Tag.new h0 hk, Nat.le_trans γ.hB h0, .inl (OnceV.of_block hk)⟩
  have HF : Hid (SpV γ (W.setCell ⟨sb, 15, none⟩ (.pointer (some ⟨w.heap.size, 0, none⟩))) sb db s ∧ Step γ spS w (W.setCell ⟨sb, 15, none⟩ (.pointer (some ⟨w.heap.size, 0, none⟩)))) :=
    Lib.hid ⟨⟨cb, rb, ob, w.heap.size, H2, K⟩, (Step.below hb h0).trans hs2⟩
  obtain ⟨u15, e15'⟩ := H.s15
  have z15 := H.sz 15 (by decide)
  have z15' := H1.sz 15 (by decide)
  have hlW := H1.lt
  have hcomm : (w.alloc (.cells #[.int .u32 0, .int .i32 0, .int .u32 0] 137)).setCell ⟨sb, 15, none⟩ (.pointer (some ⟨w.heap.size, 0, none⟩)) = (w.setCell ⟨sb, 15, none⟩ (.pointer (some ⟨w.heap.size, 0, none⟩))).alloc (.cells #[.int .u32 0, .int .i32 0, .int .u32 0] 137) := World.setCell_alloc_past _ _ _ _ hlt
  rw [← hW, hcomm] at HF
  clear H H1 H2 hs2 K hk hh hb hcomm hlW z15' e15 hne
  clear hW
  go_enter Tryz.func37, Tryz.ntmps37
  go_wp2_with fail
  go_end0
  exact ⟨rfl, HF⟩
theorem mem_keysN (s : Sp) (x : Nat) : x ∈ keys (lst s.r.pg s.own s.r.at') 3 ↔ s.taken x = true := by
  simp only [keys, lst, Sp.taken, List.mem_append, Bool.or_eq_true, decide_eq_true_eq, List.contains_iff_mem, List.any_eq_true, List.mem_map, List.mem_range, beq_iff_eq, List.mem_cons, List.not_mem_nil, or_false]
  have : (x = 0 ∨ x = 1) ↔ x < 2 := by omega
  rw [this]
theorem rooms_eq (s : Sp) : freeL (keys (lst s.r.pg s.own s.r.at') 3) s.c.d.N = s.rooms := by
  unfold freeL Sp.rooms
  refine List.filter_congr fun x _ => ?_
  have := mem_keysN s x
  by_cases h : s.taken x = true
  · simp [h, this.2 h]
  · simp [h, mt this.1 h]
theorem rooms_s {γ : Gh} {w : World} {sb db cb rb ob kb : Nat} {s : Sp} (H : SpU γ w sb db cb rb ob s) (K : Kn γ w sb kb s.rooms) (h0 : γ.lim ≤ w.heap.size) :
    Calls Tryz.prog 53 #[.pointer (some ⟨sb, 0, none⟩)] w fun e w' => ∃ a c, e = .returned (.slice a s.rooms.length c) ∧ Hid (NR γ w' (.slice a s.rooms.length c) s.rooms ∧ SpU γ w' sb db cb rb ob s ∧ Kn γ w' sb kb s.rooms ∧ Step γ spR w w') := by
  have hB := γ.hB
  rcases id K.kn with hO | ⟨k1, u, k2, k3⟩
  · obtain ⟨fb, D, β, CH⟩ := id H.ca
    obtain ⟨sa, so, c, d0, _⟩ := CH.dk.d0
    have nd : db ≠ sb := fun e => by have h := CH.dk.tg; rw [e] at h; cases h.uniq H.tg
    have nr : rb ≠ sb := fun e => by have h := H.mr.tg; rw [e] at h; cases h.uniq H.tg
    have no : ob ≠ sb := fun e => by have h := H.mo.tg; rw [e] at h; cases h.uniq H.tg
    have nks : kb ≠ sb := fun e => by have h := K.tg; rw [e] at h; cases h.uniq H.tg
    have nkd : kb ≠ db := fun e => by have h := K.tg; rw [e] at h; cases h.uniq CH.dk.tg
    have nkr : kb ≠ rb := fun e => by have h := K.tg; rw [e] at h; cases h.uniq H.mr.tg
    have nko : kb ≠ ob := fun e => by have h := K.tg; rw [e] at h; cases h.uniq H.mo.tg
    have RB' : RmB w sb db rb ob s.c.d.N s.r.pg s.own s.r.at' := { s0 := H.s0, sp := H.sp, s13 := H.s13, s14 := H.s14, s16 := H.s16, sz := H.sz, d0 := ⟨_, _, d0⟩, N := Nat.le_trans CH.dk.hN (by decide), mo := H.mo.v, mr := H.mr.v, ne := ⟨nd, nr, no⟩ }
    refine (rooms_ok RB' K.s15 hO nks nkd nkr nko).mono ?_
    rintro e W ⟨u, rfl, q1, q2, q3, q4, q5, q6, q7⟩
    rw [rooms_eq] at q2
    have hN : NR γ W u s.rooms := NR.row q2 h0
    have hs : Step γ (fun T => T == 74 || T == 137) w W := by
      refine ⟨⟨q3.os, q3.tape, q3.output, q3.size, fun k hk => ?_⟩, fun k hk hT => ?_, fun k T hn hk ht => ?_⟩
      · by_cases hkw : k < w.heap.size
        · exact q3.block k hkw (by have := H.Bs; omega) (by have := K.B; omega)
        · omega
      · exact q3.block k hk (fun e => by have := hT 74 (e ▸ H.tg); simp at this) (fun e => by have := hT 137 (e ▸ K.tg); simp at this)
      · by_cases e1 : k = sb
        · subst e1; exact (Gh.kind_of q5.2).trans ht
        · by_cases e2 : k = kb
          · subst e2; exact (Gh.kind_of q7).trans ht
          · exact ht.same (q3.block k hk e1 e2)
    obtain ⟨a, c, rfl⟩ := hN.shape
    have hc : ∀ o u, o ≠ 16 → w.cell? ⟨sb, o, none⟩ = some u → W.cell? ⟨sb, o, none⟩ = some u := fun o u ho h => (q4 o ho).trans h
    refine ⟨a, c, rfl, Lib.hid ⟨hN, { ca := H.ca.keep hs ⟨rfl, rfl, rfl, rfl⟩ ⟨rfl, rfl, rfl⟩, tg := hs.tg _ _ (by decide) H.lt H.tg, Bs := H.Bs, s0 := hc _ _ (by omega) H.s0, s1 := hc _ _ (by omega) H.s1, s2 := ⟨hc _ _ (by omega) H.s2.1, H.s2.2⟩, sp := fun i hi => ⟨hc _ _ (by omega) (H.sp i hi).1, (H.sp i hi).2⟩, s12 := (by obtain ⟨v, e1, e2⟩ := H.s12; exact ⟨v, hc _ _ (by omega) e1, e2.keep hs rfl⟩), ml := H.ml, s13 := hc _ _ (by omega) H.s13, s14 := hc _ _ (by omega) H.s14, s15 := H.s15.imp fun v h => hc _ _ (by omega) h, s16 := ⟨_, q1⟩, sz := q5.1, mr := H.mr.keep hs rfl, mo := H.mo.keep hs rfl, ro := H.ro }, ⟨hc _ _ (by omega) K.s15, hs.tg _ _ (by decide) K.lt K.tg, K.B, .inr ⟨q6, _, q1, hN⟩⟩, hs.mono fun T hT => ?_⟩⟩
    simp [spR] at hT
    simp [hT]
  · obtain ⟨W, hW⟩ : ∃ W, w.alloc (.cells #[.pointer (some ⟨sb, 0, none⟩)] 26) = W := ⟨_, rfl⟩
    have hb : Below w.heap.size w W := hW ▸ Below.alloc (Below.refl _ _) (Nat.le_refl _) _
    have HF : Hid (NR γ W u s.rooms ∧ SpU γ W sb db cb rb ob s ∧ Kn γ W sb kb s.rooms ∧ Step γ spR w W) := Lib.hid ⟨k3.keep (Step.below (S := fun _ => false) hb h0) rfl, H.below hb h0, K.below H.tg hb h0, Step.below hb h0⟩
    obtain ⟨a, c, rfl⟩ := k3.shape
    have OD := fun (fv : Value) => once_done (a := ⟨kb, 0, none⟩) (d := 1) (by decide) fv (w := W) ((cell_of_heap (a := ⟨kb, 0, none⟩) (hb.block kb K.lt)).1.trans k1)
    have c15 := K.s15
    have hl := H.lt
    have hmf : ∀ (fn : Fn) (first cap : Array Value) (w : World), (Instr.makeFunc fn first cap).run Tryz.prog w = .ok (.func fn first cap) w := fun _ _ _ _ => rfl
    subst hW
    clear H K k3 hb k1
    generalize s.rooms.length = n at *
    go_enter Tryz.func53, Tryz.ntmps53
    go_wp2_with (go_at_call 90; refine (OD _).mono ?_; rintro e w2 ⟨rfl, rfl⟩)
    go_ret
    exact ⟨_, _, rfl, HF⟩
end Go.Tb
namespace Go.Tb
open Go Go.RowKit Go.Proofs Go.Maps Go.Sp
theorem turned_ok {γ : Gh} {w : World} {sb db cb rb ob : Nat} {s : Sp} (H : SpU γ w sb db cb rb ob s) {p : Nat} (hp : p < 1024) :
    Calls Tryz.prog 50 #[.pointer (some ⟨sb, 0, none⟩), .int .i64 (p : Int)] w fun e w' => e = .returned (.tuple #[.int .i64 (s.own p : Int), .bool (s.turned p)]) ∧ w' = w := by
  have GO := get_ok H.mo.v hp
  have GR := get_ok H.mr.v hp
  have s13 := H.s13
  have s14 := H.s14
  have hl := H.lt
  obtain ⟨x, hx⟩ : ∃ x, s.own p = x := ⟨_, rfl⟩
  obtain ⟨y, hy⟩ : ∃ y, s.r.pg p = y := ⟨_, rfl⟩
  have ht : s.turned p = (decide (0 < x) && decide (x ≠ y)) := by
    unfold Sp.turned; rw [hx, hy]
    by_cases h1 : 0 < x <;> by_cases h2 : x = y <;> simp [h1, h2]
  rw [ht, hx]
  rw [hx] at GO
  rw [hy] at GR
  have hne : rb ≠ ob := H.ro
  have hbo : ((x : Int) != (y : Int)) = decide (x ≠ y) := by
    by_cases e : x = y
    · subst e; simp
    · have : (x : Int) ≠ (y : Int) := by omega
      simp [e, this]
  clear H hx hy ht
  cases h1 : decide (0 < x)
  all_goals
    rw [h1] at GO
    generalize decide (0 < y) = b2 at *
    generalize decide (x ≠ y) = b3 at *
    go_enter Tryz.func50, Tryz.ntmps50
    go_wp2_with (first
      | (go_at_call_of 43 (Value.pointer (some ⟨ob, 0, none⟩)); refine GO.mono ?_; rintro e w5 ⟨rfl, rfl⟩)
      | (go_at_call_of 43 (Value.pointer (some ⟨rb, 0, none⟩)); refine GR.mono ?_; rintro e w5 ⟨rfl, rfl⟩))
    go_ret2
    exact ⟨rfl, rfl⟩
end Go.Tb
namespace Go.Tb
open Go Go.RowKit Go.Proofs Go.Maps Go.Sp
def SpK (γ : Gh) (w : World) (sb db cb rb ob kb : Nat) (s : Sp) : Prop := SpU γ w sb db cb rb ob s ∧ Kn γ w sb kb s.rooms
theorem SpK.in {γ : Gh} {w : World} {sb db cb rb ob kb : Nat} {s : Sp} (h : SpK γ w sb db cb rb ob kb s) : SpV γ w sb db s := ⟨cb, rb, ob, kb, h⟩
theorem SpK.below {γ : Gh} {w w' : World} {sb db cb rb ob kb : Nat} {s : Sp} (h : SpK γ w sb db cb rb ob kb s) (hb : Below w.heap.size w w') (h0 : γ.lim ≤ w.heap.size) : SpK γ w' sb db cb rb ob kb s := ⟨h.1.below hb h0, h.2.below h.1.tg hb h0⟩
theorem sealed_len {k : Nat} {b : Bs} (h : b.length ≤ 248) : (sealed k b).length = 256 := by
  unfold sealed
  rw [List.length_append, le_len, pad_len (by simp [front]; omega)]
theorem put_s {γ : Gh} {w : World} {sb db cb rb ob kb : Nat} {s : Sp} (H : SpK γ w sb db cb rb ob kb s) (hok : s.Ok) (hbd : s.Bd 0) (h0 : γ.lim ≤ w.heap.size) (x : Nat) {k : Nat} (hk : 0 < k ∧ k < 256) {v : Value} {bs : Bs} (hv : RV w v bs) (hn : bs.length ≤ 248) :
    Calls Tryz.prog 52 #[.pointer (some ⟨sb, 0, none⟩), .int .i64 (x : Int), .int .u8 (k : Int), v] w fun e w' => e = .returned (.int .i64 ((s.put x k bs).1 : Nat)) ∧ Hid (SpK γ w' sb db cb rb ob kb (s.put x k bs).2 ∧ Step γ spR w w') := by
  have SE := seal_x hv hk hn
  have CW : Hid (∀ (w1 : World) (v' : Value), Below w.heap.size w w1 → RN w.heap.size w1 v' (sealed k bs) → Calls Tryz.prog 89 #[.pointer (some ⟨cb, 0, none⟩), .int .i64 (x : Int), v'] w1 fun e w' => e = .returned (.int .i64 ((s.put x k bs).1 : Nat)) ∧ Hid (SpK γ w' sb db cb rb ob kb (s.put x k bs).2 ∧ Step γ spR w w')) := Lib.hid fun w1 v' hb hr => by
    rw [Sp.put_eq hk.1 hn]
    refine (cwrite_ok (H.1.ca.below hb h0) hok.c hok.M (Nat.le_trans h0 hb.size) (by have := hbd.P; omega) (by have := hbd.clk; omega) x (hr.rb h0).ra (by rw [sealed_len hn]; decide)).mono ?_
    rintro e w' ⟨rfl, hq⟩
    have HB := H.below hb h0
    exact ⟨rfl, Lib.hid ⟨SpV.cache HB.1 HB.2 hq.out.2 hq.out.1 (Ca.write_in _ _ _).N, (Step.below hb h0).trans (hq.out.2.mono caspR)⟩⟩
  have s1 := H.1.s1
  have hl := H.1.lt
  generalize s.put x k bs = q at *
  clear H hok hbd hv hn
  generalize sealed k bs = S at *
  go_enter Tryz.func52, Tryz.ntmps52
  go_wp2_with (first
    | (go_at_call 33; refine SE.mono ?_; rintro e w1 ⟨⟨v', rfl, hrn⟩, hb⟩; have HR := Lib.hid hrn; have HB := Lib.hid hb; clear hrn; have c1 := (cell_of_heap (a := ⟨sb, 1, none⟩) (hb.block sb hl)).1.trans s1; have hl1 := cell_lt' c1; clear hb)
    | (go_at_call 89; refine (CW.out _ _ HB.out HR.out).mono ?_; rintro e w2 ⟨rfl, hq⟩))
  go_ret
  exact ⟨rfl, hq⟩
theorem SpU.may {γ : Gh} {w : World} {sb db cb rb ob : Nat} {s : Sp} (H : SpU γ w sb db cb rb ob s) (p : Int) :
    Calls Tryz.prog 42 #[.pointer (some ⟨sb, 0, none⟩), .int .i64 p] w fun e w' => e = .returned (.int .i64 ((s.may p : Nat) : Int)) ∧ w' = w := by
  obtain ⟨fb, D, β, CH⟩ := id H.ca
  exact may_ok H.s0 CH.dk.d2
theorem SpU.on {γ : Gh} {w : World} {sb db cb rb ob : Nat} {s : Sp} (H : SpU γ w sb db cb rb ob s) :
    Calls Tryz.prog 28 #[.pointer (some ⟨sb, 0, none⟩)] w fun e w' => e = .returned (.int .i64 ((s.on : Nat) : Int)) ∧ w' = w := by
  obtain ⟨fb, D, β, CH⟩ := id H.ca
  refine (on_ok H.s0 CH.dk.d2).mono ?_
  rintro e w' ⟨rfl, rfl⟩
  refine ⟨?_, rfl⟩
  unfold Sp.on
  cases s.c.d.dead <;> rfl
theorem may_lt {s : Sp} {p : Int} (h : s.may p = 0) : ∃ n : Nat, p = (n : Int) ∧ n < 1024 ∧ s.c.d.dead = false := by
  unfold Sp.may at h
  split at h
  · cases h
  · rename_i hd
    split at h
    · cases h
    · exact ⟨p.toNat, by omega, by omega, by simpa using hd⟩
theorem SpU.setOwn {γ : Gh} {w : World} {sb db cb rb ob : Nat} {s : Sp} (H : SpU γ w sb db cb rb ob s) {p x : Nat} (hp : p < 1024) (hx : x < 65536) :
    SpU γ (w.setCell ⟨ob, p, none⟩ (.int .u16 x)) sb db cb rb ob (s.setOwn p x) ∧ Step γ spS w (w.setCell ⟨ob, p, none⟩ (.int .u16 x)) := by
  obtain ⟨hmo, hs⟩ := H.mo.set hp hx
  refine ⟨{ ca := H.ca.keep hs ⟨rfl, rfl, rfl, rfl⟩ ⟨rfl, rfl, rfl⟩, tg := hs.tg _ _ (by decide) H.lt H.tg, Bs := H.Bs, s0 := cell_keep hs H.tg rfl H.s0, s1 := cell_keep hs H.tg rfl H.s1, s2 := ⟨cell_keep hs H.tg rfl H.s2.1, H.s2.2⟩, sp := fun i hi => ⟨cell_keep hs H.tg rfl (H.sp i hi).1, (H.sp i hi).2⟩, s12 := (by obtain ⟨v, e1, e2⟩ := H.s12; exact ⟨v, cell_keep hs H.tg rfl e1, e2.keep hs rfl⟩), ml := H.ml, s13 := cell_keep hs H.tg rfl H.s13, s14 := cell_keep hs H.tg rfl H.s14, s15 := H.s15.imp fun v e => cell_keep hs H.tg rfl e, s16 := H.s16.imp fun v e => cell_keep hs H.tg rfl e, sz := fun o ho => fz_keep hs H.tg rfl H.lt (H.sz o ho), mr := ⟨H.mr.v.keep (heap_setCell_other w ⟨ob, p, none⟩ rb _ H.ro), H.mr.tg.set (H.mo.v.at hp).1, H.mr.B⟩, mo := hmo, ro := H.ro }, hs.mono fun T hT => by simp [spS] at hT; simp [hT]⟩
theorem drop_s {γ : Gh} {w : World} {sb db : Nat} {s : Sp} (H : SpV γ w sb db s) (h0 : γ.lim ≤ w.heap.size) (p : Int) :
    Calls Tryz.prog 57 #[.pointer (some ⟨sb, 0, none⟩), .int .i64 p] w fun e w' => e = .returned (.int .i64 ((s.drop p).1 : Nat)) ∧ Hid (SpV γ w' sb db (s.drop p).2 ∧ Step γ spS w w') := by
  obtain ⟨cb, rb, ob, kb, HU, HK⟩ := id H
  have MY := HU.may p
  have hsame : Hid (SpV γ w sb db s ∧ Step γ spS w w) := Lib.hid ⟨H, Step.refl _ _ _⟩
  have s14 := HU.s14
  have hl := HU.lt
  by_cases hm : s.may p = 0
  · obtain ⟨n, rfl, hn, hd⟩ := may_lt hm
    by_cases hz : s.own n = 0
    · have e1 : s.drop (n : Int) = (7, s) := by unfold Sp.drop; rw [if_neg (by omega), if_pos (by simpa using hz)]
      have CL := clear_no HU.mo.v hn hz
      rw [e1]
      rw [hm] at MY
      clear H HU HK e1
      go_enter Tryz.func57, Tryz.ntmps57
      go_wp2_with (first
        | (go_at_call 42; refine MY.mono ?_; rintro e w5 ⟨rfl, rfl⟩)
        | (go_at_call 94; refine CL.mono ?_; rintro e w5 ⟨rfl, rfl⟩))
      go_ret
      exact ⟨rfl, hsame⟩
    · have e1 : s.drop (n : Int) = (0, s.setOwn n 0) := by unfold Sp.drop; rw [if_neg (by omega), if_neg (by simpa using hz)]; rfl
      have CL := clear_ok HU.mo.v hn (by omega)
      obtain ⟨hU1, hs1⟩ := HU.setOwn hn (x := 0) (by decide)
      rw [e1]
      rw [hm] at MY
      have hsz : ∀ a v, (w.setCell a v).heap.size = w.heap.size := fun a v => by simp [World.setCell]
      have TU := (turn_ok hU1 (by rw [hsz]; exact h0)).mono (R' := fun e w' => e = .returned (.tuple #[]) ∧ Hid (SpV γ w' sb db (s.setOwn n 0) ∧ Step γ spS w w')) fun e w' ⟨h1, h2⟩ => ⟨h1, Lib.hid ⟨h2.out.1, hs1.trans h2.out.2⟩⟩
      clear H HU HK e1 hs1 hU1 hsz hsame
      generalize s.setOwn n 0 = q at *
      go_enter Tryz.func57, Tryz.ntmps57
      go_wp2_with (first
        | (go_at_call 42; refine MY.mono ?_; rintro e w5 ⟨rfl, rfl⟩)
        | (go_at_call 94; refine CL.mono ?_; rintro e w5 ⟨rfl, rfl⟩)
        | (go_at_call 37; refine TU.mono ?_; rintro e w5 ⟨rfl, hq⟩))
      go_ret
      exact ⟨rfl, hq⟩
  · have e1 : s.drop p = (s.may p, s) := by unfold Sp.drop; rw [if_pos hm]
    rw [e1]
    have hb : (((s.may p : Nat) : Int) != 0) = true := by simp only [bne_iff_ne, ne_eq]; omega
    clear H HU HK e1
    generalize s.may p = m at *
    go_enter Tryz.func57, Tryz.ntmps57
    go_wp2_with (first
      | (go_at_call 42; refine MY.mono ?_; rintro e w5 ⟨rfl, rfl⟩))
    go_ret
    exact ⟨rfl, hsame⟩
end Go.Tb
