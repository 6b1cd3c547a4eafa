/- This seat's table of types, the contract of the closure that recovers, and the run of VmNil by the kernel. -/
import Derived.Test.YtllpjpgpanjbiaaGreatDoorEngC
import Derived.KernelRfl
import Derived.Test.YtllpjpgpanjbiaaGreatDoorProg
import Derived.TacticsInMore
import Derived.RegionIn
set_option linter.unusedVariables false
set_option maxRecDepth 100000
namespace Go.Eng
open Go.Proofs
noncomputable def tl2 : List (Nat × TI) := [(2, ⟨(.int .i64), 1, (.int .i64 (.ofNat 0))⟩),
  (3, ⟨(.int .i64), 1, (.int .i64 (.ofNat 0))⟩),
  (4, ⟨.bool, 1, (.bool false)⟩),
  (5, ⟨(.int .u8), 1, (.int .u8 (.ofNat 0))⟩),
  (9, ⟨.str, 1, (.str 0 0)⟩),
  (20, ⟨(.iface true), 1, .nilIface⟩),
  (22, ⟨(.slice 26), 1, .nilSlice⟩),
  (23, ⟨(.slice 66), 1, .nilSlice⟩),
  (25, ⟨(.struct [(0, 22), (1, 23)]), 2, (.agg [.nilSlice, .nilSlice])⟩),
  (26, ⟨(.slice 48), 1, .nilSlice⟩),
  (28, ⟨(.ptr 52), 1, .nilPtr⟩),
  (29, ⟨(.int .i64), 1, (.int .i64 (.ofNat 0))⟩),
  (32, ⟨(.ptr 62), 1, .nilPtr⟩),
  (36, ⟨(.slice 3), 1, .nilSlice⟩),
  (40, ⟨(.struct [(0, 5), (1, 2)]), 2, (.agg [(.int .u8 (.ofNat 0)), (.int .i64 (.ofNat 0))])⟩),
  (43, ⟨(.struct [(0, 5), (1, 3), (2, 40), (4, 9)]), 5, (.agg [(.int .u8 (.ofNat 0)), (.int .i64 (.ofNat 0)), (.int .u8 (.ofNat 0)), (.int .i64 (.ofNat 0)), (.str 0 0)])⟩),
  (48, ⟨(.struct [(0, 5), (1, 2), (2, 2), (3, 2), (4, 9)]), 5, (.agg [(.int .u8 (.ofNat 0)), (.int .i64 (.ofNat 0)), (.int .i64 (.ofNat 0)), (.int .i64 (.ofNat 0)), (.str 0 0)])⟩),
  (49, ⟨(.map 3 170), 1, .nilMap⟩),
  (50, ⟨(.map 3 3), 1, .nilMap⟩),
  (52, ⟨(.struct [(0, 3), (1, 3), (2, 3), (3, 49), (4, 50)]), 5, (.agg [(.int .i64 (.ofNat 0)), (.int .i64 (.ofNat 0)), (.int .i64 (.ofNat 0)), .nilMap, .nilMap])⟩),
  (53, ⟨(.ptr 56), 1, .nilPtr⟩),
  (54, ⟨(.slice 40), 1, .nilSlice⟩),
  (56, ⟨(.struct [(0, 3), (1, 3), (2, 54), (3, 54), (4, 3)]), 5, (.agg [(.int .i64 (.ofNat 0)), (.int .i64 (.ofNat 0)), .nilSlice, .nilSlice, (.int .i64 (.ofNat 0))])⟩),
  (57, ⟨(.slice 53), 1, .nilSlice⟩),
  (58, ⟨(.slice 145), 1, .nilSlice⟩),
  (59, ⟨(.ptr 40), 1, .nilPtr⟩),
  (60, ⟨(.ptr 43), 1, .nilPtr⟩),
  (62, ⟨(.struct [(0, 25), (2, 28), (3, 36), (4, 57), (5, 58), (6, 54), (7, 59), (8, 43), (13, 60)]), 14, (.agg [.nilSlice, .nilSlice, .nilPtr, .nilSlice, .nilSlice, .nilSlice, .nilSlice, .nilPtr, (.int .u8 (.ofNat 0)), (.int .i64 (.ofNat 0)), (.int .u8 (.ofNat 0)), (.int .i64 (.ofNat 0)), (.str 0 0), .nilPtr])⟩),
  (66, ⟨(.struct [(0, 9), (1, 9)]), 2, (.agg [(.str 0 0), (.str 0 0)])⟩),
  (69, ⟨(.slice 74), 1, .nilSlice⟩),
  (74, ⟨(.struct [(0, 2), (1, 2), (2, 2)]), 3, (.agg [(.int .i64 (.ofNat 0)), (.int .i64 (.ofNat 0)), (.int .i64 (.ofNat 0))])⟩),
  (80, ⟨(.ptr 82), 1, .nilPtr⟩),
  (82, ⟨(.struct [(0, 25), (2, 26)]), 3, (.agg [.nilSlice, .nilSlice, .nilSlice])⟩),
  (88, ⟨(.ptr 91), 1, .nilPtr⟩),
  (89, ⟨(.slice 93), 1, .nilSlice⟩),
  (91, ⟨(.struct [(0, 25), (2, 3), (3, 74), (6, 89), (7, 36), (8, 4)]), 9, (.agg [.nilSlice, .nilSlice, (.int .i64 (.ofNat 0)), (.int .i64 (.ofNat 0)), (.int .i64 (.ofNat 0)), (.int .i64 (.ofNat 0)), .nilSlice, .nilSlice, (.bool false)])⟩),
  (93, ⟨(.struct [(0, 4), (1, 2), (2, 36)]), 3, (.agg [(.bool false), (.int .i64 (.ofNat 0)), .nilSlice])⟩),
  (98, ⟨(.int .u64), 1, (.int .u64 (.ofNat 0))⟩),
  (105, ⟨.func, 1, .nilFunc⟩),
  (107, ⟨(.struct [(0, 2), (1, 2)]), 2, (.agg [(.int .i64 (.ofNat 0)), (.int .i64 (.ofNat 0))])⟩),
  (109, ⟨(.struct []), 0, (.agg [])⟩),
  (110, ⟨(.struct []), 0, (.agg [])⟩),
  (112, ⟨(.ptr 115), 1, .nilPtr⟩),
  (113, ⟨(.map 3 119), 1, .nilMap⟩),
  (115, ⟨(.struct [(0, 3), (1, 26), (2, 48), (7, 113), (8, 36)]), 9, (.agg [(.int .i64 (.ofNat 0)), .nilSlice, (.int .u8 (.ofNat 0)), (.int .i64 (.ofNat 0)), (.int .i64 (.ofNat 0)), (.int .i64 (.ofNat 0)), (.str 0 0), .nilMap, .nilSlice])⟩),
  (119, ⟨(.struct [(0, 2), (1, 36)]), 2, (.agg [(.int .i64 (.ofNat 0)), .nilSlice])⟩),
  (126, ⟨(.int .i64), 1, (.int .i64 (.ofNat 0))⟩),
  (134, ⟨(.int .u32), 1, (.int .u32 (.ofNat 0))⟩),
  (136, ⟨(.int .u64), 1, (.int .u64 (.ofNat 0))⟩),
  (138, ⟨(.struct [(0, 5), (1, 3), (2, 54), (3, 9)]), 4, (.agg [(.int .u8 (.ofNat 0)), (.int .i64 (.ofNat 0)), .nilSlice, (.str 0 0)])⟩),
  (145, ⟨(.struct [(0, 3), (1, 3), (2, 3)]), 3, (.agg [(.int .i64 (.ofNat 0)), (.int .i64 (.ofNat 0)), (.int .i64 (.ofNat 0))])⟩),
  (155, ⟨(.map 3 156), 1, .nilMap⟩),
  (156, ⟨(.slice 9), 1, .nilSlice⟩),
  (164, ⟨(.int .u64), 1, (.int .u64 (.ofNat 0))⟩),
  (168, ⟨(.ptr 3), 1, .nilPtr⟩),
  (170, ⟨(.ptr 176), 1, .nilPtr⟩),
  (174, ⟨(.struct [(0, 3), (1, 4)]), 2, (.agg [(.int .i64 (.ofNat 0)), (.bool false)])⟩),
  (176, ⟨(.struct [(0, 138), (4, 174)]), 6, (.agg [(.int .u8 (.ofNat 0)), (.int .i64 (.ofNat 0)), .nilSlice, (.str 0 0), (.int .i64 (.ofNat 0)), (.bool false)])⟩),
  (183, ⟨(.map 9 3), 1, .nilMap⟩),
  (190, ⟨(.map 3 109), 1, .nilMap⟩),
  (199, ⟨.func, 1, .nilFunc⟩),
  (200, ⟨(.slice 36), 1, .nilSlice⟩),
  (205, ⟨(.arr 24 5), 24, (.agg [(.int .u8 (.ofNat 0)), (.int .u8 (.ofNat 0)), (.int .u8 (.ofNat 0)), (.int .u8 (.ofNat 0)), (.int .u8 (.ofNat 0)), (.int .u8 (.ofNat 0)), (.int .u8 (.ofNat 0)), (.int .u8 (.ofNat 0)), (.int .u8 (.ofNat 0)), (.int .u8 (.ofNat 0)), (.int .u8 (.ofNat 0)), (.int .u8 (.ofNat 0)), (.int .u8 (.ofNat 0)), (.int .u8 (.ofNat 0)), (.int .u8 (.ofNat 0)), (.int .u8 (.ofNat 0)), (.int .u8 (.ofNat 0)), (.int .u8 (.ofNat 0)), (.int .u8 (.ofNat 0)), (.int .u8 (.ofNat 0)), (.int .u8 (.ofNat 0)), (.int .u8 (.ofNat 0)), (.int .u8 (.ofNat 0)), (.int .u8 (.ofNat 0))])⟩),
  (207, ⟨(.slice 5), 1, .nilSlice⟩),
  (212, ⟨(.arr 20 136), 20, (.agg [(.int .u64 (.ofNat 0)), (.int .u64 (.ofNat 0)), (.int .u64 (.ofNat 0)), (.int .u64 (.ofNat 0)), (.int .u64 (.ofNat 0)), (.int .u64 (.ofNat 0)), (.int .u64 (.ofNat 0)), (.int .u64 (.ofNat 0)), (.int .u64 (.ofNat 0)), (.int .u64 (.ofNat 0)), (.int .u64 (.ofNat 0)), (.int .u64 (.ofNat 0)), (.int .u64 (.ofNat 0)), (.int .u64 (.ofNat 0)), (.int .u64 (.ofNat 0)), (.int .u64 (.ofNat 0)), (.int .u64 (.ofNat 0)), (.int .u64 (.ofNat 0)), (.int .u64 (.ofNat 0)), (.int .u64 (.ofNat 0))])⟩),
  (213, ⟨(.arr 65 5), 65, (.agg [(.int .u8 (.ofNat 0)), (.int .u8 (.ofNat 0)), (.int .u8 (.ofNat 0)), (.int .u8 (.ofNat 0)), (.int .u8 (.ofNat 0)), (.int .u8 (.ofNat 0)), (.int .u8 (.ofNat 0)), (.int .u8 (.ofNat 0)), (.int .u8 (.ofNat 0)), (.int .u8 (.ofNat 0)), (.int .u8 (.ofNat 0)), (.int .u8 (.ofNat 0)), (.int .u8 (.ofNat 0)), (.int .u8 (.ofNat 0)), (.int .u8 (.ofNat 0)), (.int .u8 (.ofNat 0)), (.int .u8 (.ofNat 0)), (.int .u8 (.ofNat 0)), (.int .u8 (.ofNat 0)), (.int .u8 (.ofNat 0)), (.int .u8 (.ofNat 0)), (.int .u8 (.ofNat 0)), (.int .u8 (.ofNat 0)), (.int .u8 (.ofNat 0)), (.int .u8 (.ofNat 0)), (.int .u8 (.ofNat 0)), (.int .u8 (.ofNat 0)), (.int .u8 (.ofNat 0)), (.int .u8 (.ofNat 0)), (.int .u8 (.ofNat 0)), (.int .u8 (.ofNat 0)), (.int .u8 (.ofNat 0)), (.int .u8 (.ofNat 0)), (.int .u8 (.ofNat 0)), (.int .u8 (.ofNat 0)), (.int .u8 (.ofNat 0)), (.int .u8 (.ofNat 0)), (.int .u8 (.ofNat 0)), (.int .u8 (.ofNat 0)), (.int .u8 (.ofNat 0)), (.int .u8 (.ofNat 0)), (.int .u8 (.ofNat 0)), (.int .u8 (.ofNat 0)), (.int .u8 (.ofNat 0)), (.int .u8 (.ofNat 0)), (.int .u8 (.ofNat 0)), (.int .u8 (.ofNat 0)), (.int .u8 (.ofNat 0)), (.int .u8 (.ofNat 0)), (.int .u8 (.ofNat 0)), (.int .u8 (.ofNat 0)), (.int .u8 (.ofNat 0)), (.int .u8 (.ofNat 0)), (.int .u8 (.ofNat 0)), (.int .u8 (.ofNat 0)), (.int .u8 (.ofNat 0)), (.int .u8 (.ofNat 0)), (.int .u8 (.ofNat 0)), (.int .u8 (.ofNat 0)), (.int .u8 (.ofNat 0)), (.int .u8 (.ofNat 0)), (.int .u8 (.ofNat 0)), (.int .u8 (.ofNat 0)), (.int .u8 (.ofNat 0)), (.int .u8 (.ofNat 0))])⟩),
  (214, ⟨(.arr 32 5), 32, (.agg [(.int .u8 (.ofNat 0)), (.int .u8 (.ofNat 0)), (.int .u8 (.ofNat 0)), (.int .u8 (.ofNat 0)), (.int .u8 (.ofNat 0)), (.int .u8 (.ofNat 0)), (.int .u8 (.ofNat 0)), (.int .u8 (.ofNat 0)), (.int .u8 (.ofNat 0)), (.int .u8 (.ofNat 0)), (.int .u8 (.ofNat 0)), (.int .u8 (.ofNat 0)), (.int .u8 (.ofNat 0)), (.int .u8 (.ofNat 0)), (.int .u8 (.ofNat 0)), (.int .u8 (.ofNat 0)), (.int .u8 (.ofNat 0)), (.int .u8 (.ofNat 0)), (.int .u8 (.ofNat 0)), (.int .u8 (.ofNat 0)), (.int .u8 (.ofNat 0)), (.int .u8 (.ofNat 0)), (.int .u8 (.ofNat 0)), (.int .u8 (.ofNat 0)), (.int .u8 (.ofNat 0)), (.int .u8 (.ofNat 0)), (.int .u8 (.ofNat 0)), (.int .u8 (.ofNat 0)), (.int .u8 (.ofNat 0)), (.int .u8 (.ofNat 0)), (.int .u8 (.ofNat 0)), (.int .u8 (.ofNat 0))])⟩),
  (215, ⟨(.arr 64 5), 64, (.agg [(.int .u8 (.ofNat 0)), (.int .u8 (.ofNat 0)), (.int .u8 (.ofNat 0)), (.int .u8 (.ofNat 0)), (.int .u8 (.ofNat 0)), (.int .u8 (.ofNat 0)), (.int .u8 (.ofNat 0)), (.int .u8 (.ofNat 0)), (.int .u8 (.ofNat 0)), (.int .u8 (.ofNat 0)), (.int .u8 (.ofNat 0)), (.int .u8 (.ofNat 0)), (.int .u8 (.ofNat 0)), (.int .u8 (.ofNat 0)), (.int .u8 (.ofNat 0)), (.int .u8 (.ofNat 0)), (.int .u8 (.ofNat 0)), (.int .u8 (.ofNat 0)), (.int .u8 (.ofNat 0)), (.int .u8 (.ofNat 0)), (.int .u8 (.ofNat 0)), (.int .u8 (.ofNat 0)), (.int .u8 (.ofNat 0)), (.int .u8 (.ofNat 0)), (.int .u8 (.ofNat 0)), (.int .u8 (.ofNat 0)), (.int .u8 (.ofNat 0)), (.int .u8 (.ofNat 0)), (.int .u8 (.ofNat 0)), (.int .u8 (.ofNat 0)), (.int .u8 (.ofNat 0)), (.int .u8 (.ofNat 0)), (.int .u8 (.ofNat 0)), (.int .u8 (.ofNat 0)), (.int .u8 (.ofNat 0)), (.int .u8 (.ofNat 0)), (.int .u8 (.ofNat 0)), (.int .u8 (.ofNat 0)), (.int .u8 (.ofNat 0)), (.int .u8 (.ofNat 0)), (.int .u8 (.ofNat 0)), (.int .u8 (.ofNat 0)), (.int .u8 (.ofNat 0)), (.int .u8 (.ofNat 0)), (.int .u8 (.ofNat 0)), (.int .u8 (.ofNat 0)), (.int .u8 (.ofNat 0)), (.int .u8 (.ofNat 0)), (.int .u8 (.ofNat 0)), (.int .u8 (.ofNat 0)), (.int .u8 (.ofNat 0)), (.int .u8 (.ofNat 0)), (.int .u8 (.ofNat 0)), (.int .u8 (.ofNat 0)), (.int .u8 (.ofNat 0)), (.int .u8 (.ofNat 0)), (.int .u8 (.ofNat 0)), (.int .u8 (.ofNat 0)), (.int .u8 (.ofNat 0)), (.int .u8 (.ofNat 0)), (.int .u8 (.ofNat 0)), (.int .u8 (.ofNat 0)), (.int .u8 (.ofNat 0)), (.int .u8 (.ofNat 0))])⟩)]
noncomputable def T2 : Nat → Option TI := lookT tl2
theorem tl2_all : (tl2.all fun p => tiB Tryz.prog p.1 p.2) = true := by kernel_rfl
theorem T2_ok : TOK Tryz.prog T2 := lookT_ok fun p hp => List.all_eq_true.1 tl2_all p hp
end Go.Eng
set_option linter.unusedVariables false
set_option maxRecDepth 100000
namespace Go.Eng
open Go.RowKit Go.Proofs
noncomputable def fl2 : List (Nat × Func) := [(3, Tryz.f3), (4, Tryz.f4), (5, Tryz.f5), (6, Tryz.f6), (7, Tryz.f7), (8, Tryz.f8), (9, Tryz.f9), (10, Tryz.f10), (11, Tryz.f11), (12, Tryz.f12), (13, Tryz.f13), (14, Tryz.f14), (15, Tryz.f15), (16, Tryz.f16), (17, Tryz.f17), (18, Tryz.f18), (19, Tryz.f19), (20, Tryz.f20), (21, Tryz.f21), (22, Tryz.f22), (23, Tryz.f23), (24, Tryz.f24), (25, Tryz.f25), (26, Tryz.f26), (27, Tryz.f27), (28, Tryz.f28), (29, Tryz.f29), (30, Tryz.f30), (31, Tryz.f31), (32, Tryz.f32), (33, Tryz.f33), (34, Tryz.f34), (35, Tryz.f35), (36, Tryz.f36), (37, Tryz.f37), (38, Tryz.f38), (39, Tryz.f39), (40, Tryz.f40), (41, Tryz.f41), (42, Tryz.f42), (43, Tryz.f43), (44, Tryz.f44), (45, Tryz.f45), (46, Tryz.f46), (47, Tryz.f47), (48, Tryz.f48), (49, Tryz.f49), (50, Tryz.f50), (51, Tryz.f51), (52, Tryz.f52), (53, Tryz.f53), (54, Tryz.f54), (55, Tryz.f55), (56, Tryz.f56), (57, Tryz.f57), (58, Tryz.f58), (59, Tryz.f59), (60, Tryz.f60), (61, Tryz.f61), (62, Tryz.f62), (63, Tryz.f63), (64, Tryz.f64), (65, Tryz.f65), (66, Tryz.f66), (67, Tryz.f67), (68, Tryz.f68), (69, Tryz.f69), (70, Tryz.f70), (71, Tryz.f71), (72, Tryz.f72), (73, Tryz.f73), (74, Tryz.f74), (75, Tryz.f75), (76, Tryz.f76), (77, Tryz.f77), (78, Tryz.f78), (79, Tryz.f79), (80, Tryz.f80), (81, Tryz.f81), (82, Tryz.f82), (83, Tryz.f83), (84, Tryz.f84), (85, Tryz.f85), (86, Tryz.f86), (87, Tryz.f87), (88, Tryz.f88), (89, Tryz.f89), (90, Tryz.f90), (91, Tryz.f91), (92, Tryz.f92), (93, Tryz.f93), (94, Tryz.f94), (95, Tryz.f95), (96, Tryz.f96), (97, Tryz.f97), (98, Tryz.f98), (99, Tryz.f99), (100, Tryz.f100), (101, Tryz.f101), (102, Tryz.f102), (103, Tryz.f103), (104, Tryz.f104), (105, Tryz.f105), (106, Tryz.f106), (107, Tryz.f107), (108, Tryz.f108), (109, Tryz.f109), (110, Tryz.f110), (111, Tryz.f111), (112, Tryz.f112), (113, Tryz.f113), (114, Tryz.f114), (115, Tryz.f115), (116, Tryz.f116), (117, Tryz.f117), (118, Tryz.f118), (119, Tryz.f119), (120, Tryz.f120), (121, Tryz.f121), (122, Tryz.f122), (123, Tryz.f123), (124, Tryz.f124), (125, Tryz.f125), (126, Tryz.f126)]
theorem fl2_ok : ∀ p ∈ fl2, Tryz.prog.funcs[p.1]? = some p.2 := by
  simp only [fl2, List.forall_mem_cons]
  exact ⟨Tryz.func3, Tryz.func4, Tryz.func5, Tryz.func6, Tryz.func7, Tryz.func8, Tryz.func9, Tryz.func10, Tryz.func11, Tryz.func12, Tryz.func13, Tryz.func14, Tryz.func15, Tryz.func16, Tryz.func17, Tryz.func18, Tryz.func19, Tryz.func20, Tryz.func21, Tryz.func22, Tryz.func23, Tryz.func24, Tryz.func25, Tryz.func26, Tryz.func27, Tryz.func28, Tryz.func29, Tryz.func30, Tryz.func31, Tryz.func32, Tryz.func33, Tryz.func34, Tryz.func35, Tryz.func36, Tryz.func37, Tryz.func38, Tryz.func39, Tryz.func40, Tryz.func41, Tryz.func42, Tryz.func43, Tryz.func44, Tryz.func45, Tryz.func46, Tryz.func47, Tryz.func48, Tryz.func49, Tryz.func50, Tryz.func51, Tryz.func52, Tryz.func53, Tryz.func54, Tryz.func55, Tryz.func56, Tryz.func57, Tryz.func58, Tryz.func59, Tryz.func60, Tryz.func61, Tryz.func62, Tryz.func63, Tryz.func64, Tryz.func65, Tryz.func66, Tryz.func67, Tryz.func68, Tryz.func69, Tryz.func70, Tryz.func71, Tryz.func72, Tryz.func73, Tryz.func74, Tryz.func75, Tryz.func76, Tryz.func77, Tryz.func78, Tryz.func79, Tryz.func80, Tryz.func81, Tryz.func82, Tryz.func83, Tryz.func84, Tryz.func85, Tryz.func86, Tryz.func87, Tryz.func88, Tryz.func89, Tryz.func90, Tryz.func91, Tryz.func92, Tryz.func93, Tryz.func94, Tryz.func95, Tryz.func96, Tryz.func97, Tryz.func98, Tryz.func99, Tryz.func100, Tryz.func101, Tryz.func102, Tryz.func103, Tryz.func104, Tryz.func105, Tryz.func106, Tryz.func107, Tryz.func108, Tryz.func109, Tryz.func110, Tryz.func111, Tryz.func112, Tryz.func113, Tryz.func114, Tryz.func115, Tryz.func116, Tryz.func117, Tryz.func118, Tryz.func119, Tryz.func120, Tryz.func121, Tryz.func122, Tryz.func123, Tryz.func124, Tryz.func125, Tryz.func126, fun _ h => by cases h⟩
noncomputable def nd2 : Nat → Bool := fun f => Nat.beq f 46
noncomputable def po2 : PO := ⟨[], fun _ _ => none, fun _ => false⟩
noncomputable def F2 : Nat → Option AFun := funs 4 cstA T2 po2 nd2 fl2
theorem mix2 : Tryz.prog.follows .mixedOrders = true := by kernel_rfl
theorem pok2 {K : Ctx} : POK Tryz.prog K po2 := ⟨fun t ht => (by cases ht), fun op vs z h => (by cases h), fun f h => (by cases h)⟩
/-- checker.runs' closure, called where nothing is panicked -/
noncomputable def idle : Known := fun args h => match args with | [_] => .ok (.tup [], h) | _ => .fail
noncomputable def ID2 : Nat → Option Known := fun f => ifb (Nat.beq f 48) (some idle) none
theorem idle_ok {K : Ctx} : KnownDOK Tryz.prog K 4 48 idle := by
  intro σ own w h args cargs hg hH ha hf
  refine ⟨enters_of Tryz.func48 (by kernel_rfl) (by kernel_rfl), ?_⟩
  obtain ⟨cl⟩ := cargs
  simp only at ha
  match args, cl, ha, hf with
  | [], _, _, hf => exact absurd rfl hf
  | _ :: _ :: _, _, _, hf => exact absurd rfl hf
  | [x], _, ⟨v, ys, rfl, h1, h2⟩, hf =>
    have h2 : ys = [] := h2
    subst h2
    have key : CallsDIn (FR none) 0 Tryz.prog 48 #[v] .returning w fun e u' w' => e = .returned (.tuple #[]) ∧ u' = .returning ∧ w' = w := by
      refine callsDIn_of_wpSIn Tryz.func48 rfl (by trivial) fun c₀ cs hu => ?_
      apply wpSIn_seq
      apply wpSIn_region
      simp [wpOpsSIn, go_sem, recoverD, hu, Tryz.ntmps48, Exit.thenS]
      apply wpSIn_seq
      apply wpSIn_region
      simp [wpOpsSIn, go_sem, Exit.thenS, Tryz.underlying20]
      refine wpSIn_cond (t := false) (by simp [Act.eval, Array.replicate]) ?_
      simp only [Bool.false_eq_true, if_false]
      refine wpSIn_of_wpIn rfl (wpIn_skip ?_)
      cases c₀
      simp_all [bodyPostS, results, Tryz.results48]
    refine key.mono fun e u w' ⟨e1, e2, e3⟩ => ?_
    subst e1; subst e3
    exact ⟨e2, .tuple #[], rfl, σ, own, ⟨#[], rfl, VRs.nil⟩, Grow.refl _ _, hH⟩
end Go.Eng
set_option linter.unusedVariables false
set_option maxRecDepth 1000000
namespace Go.Eng
open Go.RowKit Go.Proofs
noncomputable def r5 : Row := .lst 10 [.str 5 500068610672, .str 4 1936684137, .str 4 1702521203, .str 3 7630702, .str 3 6710642, .str 3 7234924, .str 6 127996156276579, .str 5 500136108641, .str 1 126, .str 1 33]
noncomputable def r6 : Row := .lst 16 [.str 4 1701667187, .str 5 521325933153, .str 3 7628135, .str 1 43, .str 1 45, .str 1 42, .str 3 7760228, .str 3 6582125, .str 1 60, .str 2 15676, .str 1 62, .str 2 15678, .str 1 61, .str 2 15932, .str 1 94, .str 2 15674]
noncomputable def r7 : Row := .lst 1 [.str 3 7632240]
noncomputable def es2 : List AEnt := [⟨.int .i64 1, .slice (posOf 5) 0 10 1, 0⟩, ⟨.int .i64 2, .slice (posOf 6) 0 16 1, 1⟩, ⟨.int .i64 3, .slice (posOf 7) 0 1 1, 2⟩]
noncomputable def h2 : AHeap := heapOfO 10 [(0, .cells none true (.lst 1 [.map (posOf 4)])), (4, .rmap es2), (5, .cells none true r5), (6, .cells none true r6), (7, .cells none true r7)]
noncomputable def c2 : Caller := detC (callG (fun _ => none) ID2 F2 nd2 1000 100 noY)
theorem run4 : isTrueO (c2 4 [.opq 0] h2) = true := by kernel_rfl
end Go.Eng
