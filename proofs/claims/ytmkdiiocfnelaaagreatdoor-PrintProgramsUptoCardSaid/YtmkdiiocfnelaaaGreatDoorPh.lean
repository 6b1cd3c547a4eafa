/- This seat's table of types, the functions that are run, and what is done once (sync.Once), walked. No conditions of its own. -/
import Derived.Test.YtmkdiiocfnelaaaGreatDoorEngC
import Derived.KernelRfl
import Derived.Test.YtmkdiiocfnelaaaGreatDoorProg
import Derived.Laws.LoneSync
import Derived.WalkKit
import Derived.LaidEql
import Derived.Handy
set_option linter.unusedVariables false
set_option maxRecDepth 100000
namespace Go.Eng
open Go.Proofs
noncomputable def tlP : List (Nat × TI) := [(1, ⟨.func, 1, .nilFunc⟩),
  (2, ⟨(.int .i64), 1, (.int .i64 (.ofNat 0))⟩),
  (3, ⟨(.int .i64), 1, (.int .i64 (.ofNat 0))⟩),
  (4, ⟨.bool, 1, (.bool false)⟩),
  (5, ⟨(.int .u8), 1, (.int .u8 (.ofNat 0))⟩),
  (9, ⟨.str, 1, (.str 0 0)⟩),
  (21, ⟨(.int .i32), 1, (.int .i32 (.ofNat 0))⟩),
  (22, ⟨(.slice 36), 1, .nilSlice⟩),
  (25, ⟨(.slice 9), 1, .nilSlice⟩),
  (26, ⟨(.slice 49), 1, .nilSlice⟩),
  (27, ⟨(.slice 55), 1, .nilSlice⟩),
  (28, ⟨(.slice 30), 1, .nilSlice⟩),
  (30, ⟨(.struct [(0, 5), (1, 9), (2, 3), (3, 28)]), 4, (.agg [(.int .u8 (.ofNat 0)), (.str 0 0), (.int .i64 (.ofNat 0)), .nilSlice])⟩),
  (31, ⟨(.slice 34), 1, .nilSlice⟩),
  (32, ⟨(.slice 46), 1, .nilSlice⟩),
  (34, ⟨(.struct [(0, 5), (1, 9), (2, 2), (3, 9), (4, 31), (5, 32), (6, 22)]), 7, (.agg [(.int .u8 (.ofNat 0)), (.str 0 0), (.int .i64 (.ofNat 0)), (.str 0 0), .nilSlice, .nilSlice, .nilSlice])⟩),
  (36, ⟨(.struct [(0, 5), (1, 9), (2, 25), (3, 26), (4, 27), (5, 30), (9, 34)]), 16, (.agg [(.int .u8 (.ofNat 0)), (.str 0 0), .nilSlice, .nilSlice, .nilSlice, (.int .u8 (.ofNat 0)), (.str 0 0), (.int .i64 (.ofNat 0)), .nilSlice, (.int .u8 (.ofNat 0)), (.str 0 0), (.int .i64 (.ofNat 0)), (.str 0 0), .nilSlice, .nilSlice, .nilSlice])⟩),
  (37, ⟨.func, 1, .nilFunc⟩),
  (42, ⟨(.slice 44), 1, .nilSlice⟩),
  (44, ⟨(.struct [(0, 5), (1, 9), (2, 2), (3, 42)]), 4, (.agg [(.int .u8 (.ofNat 0)), (.str 0 0), (.int .i64 (.ofNat 0)), .nilSlice])⟩),
  (46, ⟨(.struct [(0, 44), (4, 34)]), 11, (.agg [(.int .u8 (.ofNat 0)), (.str 0 0), (.int .i64 (.ofNat 0)), .nilSlice, (.int .u8 (.ofNat 0)), (.str 0 0), (.int .i64 (.ofNat 0)), (.str 0 0), .nilSlice, .nilSlice, .nilSlice])⟩),
  (49, ⟨(.struct [(0, 9), (1, 4), (2, 30)]), 6, (.agg [(.str 0 0), (.bool false), (.int .u8 (.ofNat 0)), (.str 0 0), (.int .i64 (.ofNat 0)), .nilSlice])⟩),
  (50, ⟨.func, 1, .nilFunc⟩),
  (52, ⟨.func, 1, .nilFunc⟩),
  (55, ⟨(.struct [(0, 9), (1, 25), (2, 34)]), 9, (.agg [(.str 0 0), .nilSlice, (.int .u8 (.ofNat 0)), (.str 0 0), (.int .i64 (.ofNat 0)), (.str 0 0), .nilSlice, .nilSlice, .nilSlice])⟩),
  (56, ⟨.func, 1, .nilFunc⟩),
  (57, ⟨.func, 1, .nilFunc⟩),
  (61, ⟨(.slice 81), 1, .nilSlice⟩),
  (62, ⟨(.int .i64), 1, (.int .i64 (.ofNat 0))⟩),
  (65, ⟨(.slice 5), 1, .nilSlice⟩),
  (72, ⟨(.arr 3 9), 3, (.agg [(.str 0 0), (.str 0 0), (.str 0 0)])⟩),
  (81, ⟨(.struct [(0, 5), (1, 9), (2, 2), (3, 3)]), 4, (.agg [(.int .u8 (.ofNat 0)), (.str 0 0), (.int .i64 (.ofNat 0)), (.int .i64 (.ofNat 0))])⟩),
  (86, ⟨(.ptr 88), 1, .nilPtr⟩),
  (88, ⟨(.struct [(0, 61), (1, 3)]), 2, (.agg [.nilSlice, (.int .i64 (.ofNat 0))])⟩),
  (90, ⟨(.struct []), 0, (.agg [])⟩),
  (95, ⟨(.ptr 97), 1, .nilPtr⟩),
  (97, ⟨(.struct [(0, 95), (1, 65)]), 2, (.agg [.nilPtr, .nilSlice])⟩),
  (103, ⟨.func, 1, .nilFunc⟩),
  (106, ⟨(.ptr 145), 1, .nilPtr⟩),
  (115, ⟨.func, 1, .nilFunc⟩),
  (118, ⟨.func, 1, .nilFunc⟩),
  (120, ⟨.func, 1, .nilFunc⟩),
  (123, ⟨.func, 1, .nilFunc⟩),
  (124, ⟨.func, 1, .nilFunc⟩),
  (126, ⟨.func, 1, .nilFunc⟩),
  (131, ⟨(.struct []), 0, (.agg [])⟩),
  (132, ⟨(.struct []), 0, (.agg [])⟩),
  (133, ⟨(.int .u32), 1, (.int .u32 (.ofNat 0))⟩),
  (135, ⟨(.struct [(0, 132), (0, 133)]), 1, (.agg [(.int .u32 (.ofNat 0))])⟩),
  (137, ⟨(.struct [(0, 21), (1, 133)]), 2, (.agg [(.int .i32 (.ofNat 0)), (.int .u32 (.ofNat 0))])⟩),
  (139, ⟨(.struct [(0, 131), (0, 137)]), 2, (.agg [(.int .i32 (.ofNat 0)), (.int .u32 (.ofNat 0))])⟩),
  (141, ⟨(.struct [(0, 131), (0, 135), (1, 139)]), 3, (.agg [(.int .u32 (.ofNat 0)), (.int .i32 (.ofNat 0)), (.int .u32 (.ofNat 0))])⟩),
  (143, ⟨(.iface false), 1, .nilIface⟩),
  (145, ⟨(.struct [(0, 141), (3, 143), (4, 25)]), 5, (.agg [(.int .u32 (.ofNat 0)), (.int .i32 (.ofNat 0)), (.int .u32 (.ofNat 0)), .nilIface, .nilSlice])⟩),
  (154, ⟨.func, 1, .nilFunc⟩),
  (158, ⟨.func, 1, .nilFunc⟩),
  (159, ⟨.func, 1, .nilFunc⟩),
  (161, ⟨.func, 1, .nilFunc⟩),
  (162, ⟨.func, 1, .nilFunc⟩),
  (172, ⟨(.ptr 141), 1, .nilPtr⟩),
  (177, ⟨(.slice 179), 1, .nilSlice⟩),
  (179, ⟨(.struct [(0, 3), (1, 25)]), 2, (.agg [(.int .i64 (.ofNat 0)), .nilSlice])⟩),
  (184, ⟨.func, 1, .nilFunc⟩),
  (193, ⟨(.arr 256 5), 256, (.agg [(.int .u8 (.ofNat 0)), (.int .u8 (.ofNat 0)), (.int .u8 (.ofNat 0)), (.int .u8 (.ofNat 0)), (.int .u8 (.ofNat 0)), (.int .u8 (.ofNat 0)), (.int .u8 (.ofNat 0)), (.int .u8 (.ofNat 0)), (.int .u8 (.ofNat 0)), (.int .u8 (.ofNat 0)), (.int .u8 (.ofNat 0)), (.int .u8 (.ofNat 0)), (.int .u8 (.ofNat 0)), (.int .u8 (.ofNat 0)), (.int .u8 (.ofNat 0)), (.int .u8 (.ofNat 0)), (.int .u8 (.ofNat 0)), (.int .u8 (.ofNat 0)), (.int .u8 (.ofNat 0)), (.int .u8 (.ofNat 0)), (.int .u8 (.ofNat 0)), (.int .u8 (.ofNat 0)), (.int .u8 (.ofNat 0)), (.int .u8 (.ofNat 0)), (.int .u8 (.ofNat 0)), (.int .u8 (.ofNat 0)), (.int .u8 (.ofNat 0)), (.int .u8 (.ofNat 0)), (.int .u8 (.ofNat 0)), (.int .u8 (.ofNat 0)), (.int .u8 (.ofNat 0)), (.int .u8 (.ofNat 0)), (.int .u8 (.ofNat 0)), (.int .u8 (.ofNat 0)), (.int .u8 (.ofNat 0)), (.int .u8 (.ofNat 0)), (.int .u8 (.ofNat 0)), (.int .u8 (.ofNat 0)), (.int .u8 (.ofNat 0)), (.int .u8 (.ofNat 0)), (.int .u8 (.ofNat 0)), (.int .u8 (.ofNat 0)), (.int .u8 (.ofNat 0)), (.int .u8 (.ofNat 0)), (.int .u8 (.ofNat 0)), (.int .u8 (.ofNat 0)), (.int .u8 (.ofNat 0)), (.int .u8 (.ofNat 0)), (.int .u8 (.ofNat 0)), (.int .u8 (.ofNat 0)), (.int .u8 (.ofNat 0)), (.int .u8 (.ofNat 0)), (.int .u8 (.ofNat 0)), (.int .u8 (.ofNat 0)), (.int .u8 (.ofNat 0)), (.int .u8 (.ofNat 0)), (.int .u8 (.ofNat 0)), (.int .u8 (.ofNat 0)), (.int .u8 (.ofNat 0)), (.int .u8 (.ofNat 0)), (.int .u8 (.ofNat 0)), (.int .u8 (.ofNat 0)), (.int .u8 (.ofNat 0)), (.int .u8 (.ofNat 0)), (.int .u8 (.ofNat 0)), (.int .u8 (.ofNat 0)), (.int .u8 (.ofNat 0)), (.int .u8 (.ofNat 0)), (.int .u8 (.ofNat 0)), (.int .u8 (.ofNat 0)), (.int .u8 (.ofNat 0)), (.int .u8 (.ofNat 0)), (.int .u8 (.ofNat 0)), (.int .u8 (.ofNat 0)), (.int .u8 (.ofNat 0)), (.int .u8 (.ofNat 0)), (.int .u8 (.ofNat 0)), (.int .u8 (.ofNat 0)), (.int .u8 (.ofNat 0)), (.int .u8 (.ofNat 0)), (.int .u8 (.ofNat 0)), (.int .u8 (.ofNat 0)), (.int .u8 (.ofNat 0)), (.int .u8 (.ofNat 0)), (.int .u8 (.ofNat 0)), (.int .u8 (.ofNat 0)), (.int .u8 (.ofNat 0)), (.int .u8 (.ofNat 0)), (.int .u8 (.ofNat 0)), (.int .u8 (.ofNat 0)), (.int .u8 (.ofNat 0)), (.int .u8 (.ofNat 0)), (.int .u8 (.ofNat 0)), (.int .u8 (.ofNat 0)), (.int .u8 (.ofNat 0)), (.int .u8 (.ofNat 0)), (.int .u8 (.ofNat 0)), (.int .u8 (.ofNat 0)), (.int .u8 (.ofNat 0)), (.int .u8 (.ofNat 0)), (.int .u8 (.ofNat 0)), (.int .u8 (.ofNat 0)), (.int .u8 (.ofNat 0)), (.int .u8 (.ofNat 0)), (.int .u8 (.ofNat 0)), (.int .u8 (.ofNat 0)), (.int .u8 (.ofNat 0)), (.int .u8 (.ofNat 0)), (.int .u8 (.ofNat 0)), (.int .u8 (.ofNat 0)), (.int .u8 (.ofNat 0)), (.int .u8 (.ofNat 0)), (.int .u8 (.ofNat 0)), (.int .u8 (.ofNat 0)), (.int .u8 (.ofNat 0)), (.int .u8 (.ofNat 0)), (.int .u8 (.ofNat 0)), (.int .u8 (.ofNat 0)), (.int .u8 (.ofNat 0)), (.int .u8 (.ofNat 0)), (.int .u8 (.ofNat 0)), (.int .u8 (.ofNat 0)), (.int .u8 (.ofNat 0)), (.int .u8 (.ofNat 0)), (.int .u8 (.ofNat 0)), (.int .u8 (.ofNat 0)), (.int .u8 (.ofNat 0)), (.int .u8 (.ofNat 0)), (.int .u8 (.ofNat 0)), (.int .u8 (.ofNat 0)), (.int .u8 (.ofNat 0)), (.int .u8 (.ofNat 0)), (.int .u8 (.ofNat 0)), (.int .u8 (.ofNat 0)), (.int .u8 (.ofNat 0)), (.int .u8 (.ofNat 0)), (.int .u8 (.ofNat 0)), (.int .u8 (.ofNat 0)), (.int .u8 (.ofNat 0)), (.int .u8 (.ofNat 0)), (.int .u8 (.ofNat 0)), (.int .u8 (.ofNat 0)), (.int .u8 (.ofNat 0)), (.int .u8 (.ofNat 0)), (.int .u8 (.ofNat 0)), (.int .u8 (.ofNat 0)), (.int .u8 (.ofNat 0)), (.int .u8 (.ofNat 0)), (.int .u8 (.ofNat 0)), (.int .u8 (.ofNat 0)), (.int .u8 (.ofNat 0)), (.int .u8 (.ofNat 0)), (.int .u8 (.ofNat 0)), (.int .u8 (.ofNat 0)), (.int .u8 (.ofNat 0)), (.int .u8 (.ofNat 0)), (.int .u8 (.ofNat 0)), (.int .u8 (.ofNat 0)), (.int .u8 (.ofNat 0)), (.int .u8 (.ofNat 0)), (.int .u8 (.ofNat 0)), (.int .u8 (.ofNat 0)), (.int .u8 (.ofNat 0)), (.int .u8 (.ofNat 0)), (.int .u8 (.ofNat 0)), (.int .u8 (.ofNat 0)), (.int .u8 (.ofNat 0)), (.int .u8 (.ofNat 0)), (.int .u8 (.ofNat 0)), (.int .u8 (.ofNat 0)), (.int .u8 (.ofNat 0)), (.int .u8 (.ofNat 0)), (.int .u8 (.ofNat 0)), (.int .u8 (.ofNat 0)), (.int .u8 (.ofNat 0)), (.int .u8 (.ofNat 0)), (.int .u8 (.ofNat 0)), (.int .u8 (.ofNat 0)), (.int .u8 (.ofNat 0)), (.int .u8 (.ofNat 0)), (.int .u8 (.ofNat 0)), (.int .u8 (.ofNat 0)), (.int .u8 (.ofNat 0)), (.int .u8 (.ofNat 0)), (.int .u8 (.ofNat 0)), (.int .u8 (.ofNat 0)), (.int .u8 (.ofNat 0)), (.int .u8 (.ofNat 0)), (.int .u8 (.ofNat 0)), (.int .u8 (.ofNat 0)), (.int .u8 (.ofNat 0)), (.int .u8 (.ofNat 0)), (.int .u8 (.ofNat 0)), (.int .u8 (.ofNat 0)), (.int .u8 (.ofNat 0)), (.int .u8 (.ofNat 0)), (.int .u8 (.ofNat 0)), (.int .u8 (.ofNat 0)), (.int .u8 (.ofNat 0)), (.int .u8 (.ofNat 0)), (.int .u8 (.ofNat 0)), (.int .u8 (.ofNat 0)), (.int .u8 (.ofNat 0)), (.int .u8 (.ofNat 0)), (.int .u8 (.ofNat 0)), (.int .u8 (.ofNat 0)), (.int .u8 (.ofNat 0)), (.int .u8 (.ofNat 0)), (.int .u8 (.ofNat 0)), (.int .u8 (.ofNat 0)), (.int .u8 (.ofNat 0)), (.int .u8 (.ofNat 0)), (.int .u8 (.ofNat 0)), (.int .u8 (.ofNat 0)), (.int .u8 (.ofNat 0)), (.int .u8 (.ofNat 0)), (.int .u8 (.ofNat 0)), (.int .u8 (.ofNat 0)), (.int .u8 (.ofNat 0)), (.int .u8 (.ofNat 0)), (.int .u8 (.ofNat 0)), (.int .u8 (.ofNat 0)), (.int .u8 (.ofNat 0)), (.int .u8 (.ofNat 0)), (.int .u8 (.ofNat 0)), (.int .u8 (.ofNat 0)), (.int .u8 (.ofNat 0)), (.int .u8 (.ofNat 0)), (.int .u8 (.ofNat 0)), (.int .u8 (.ofNat 0)), (.int .u8 (.ofNat 0)), (.int .u8 (.ofNat 0)), (.int .u8 (.ofNat 0)), (.int .u8 (.ofNat 0)), (.int .u8 (.ofNat 0)), (.int .u8 (.ofNat 0)), (.int .u8 (.ofNat 0)), (.int .u8 (.ofNat 0)), (.int .u8 (.ofNat 0)), (.int .u8 (.ofNat 0)), (.int .u8 (.ofNat 0)), (.int .u8 (.ofNat 0)), (.int .u8 (.ofNat 0)), (.int .u8 (.ofNat 0)), (.int .u8 (.ofNat 0)), (.int .u8 (.ofNat 0)), (.int .u8 (.ofNat 0)), (.int .u8 (.ofNat 0)), (.int .u8 (.ofNat 0)), (.int .u8 (.ofNat 0)), (.int .u8 (.ofNat 0)), (.int .u8 (.ofNat 0)), (.int .u8 (.ofNat 0)), (.int .u8 (.ofNat 0)), (.int .u8 (.ofNat 0)), (.int .u8 (.ofNat 0))])⟩),
  (199, ⟨(.ptr 133), 1, .nilPtr⟩),
  (201, ⟨(.ptr 222), 1, .nilPtr⟩),
  (203, ⟨(.ptr 228), 1, .nilPtr⟩),
  (205, ⟨(.arr 256 5), 256, (.agg [(.int .u8 (.ofNat 0)), (.int .u8 (.ofNat 0)), (.int .u8 (.ofNat 0)), (.int .u8 (.ofNat 0)), (.int .u8 (.ofNat 0)), (.int .u8 (.ofNat 0)), (.int .u8 (.ofNat 0)), (.int .u8 (.ofNat 0)), (.int .u8 (.ofNat 0)), (.int .u8 (.ofNat 0)), (.int .u8 (.ofNat 0)), (.int .u8 (.ofNat 0)), (.int .u8 (.ofNat 0)), (.int .u8 (.ofNat 0)), (.int .u8 (.ofNat 0)), (.int .u8 (.ofNat 0)), (.int .u8 (.ofNat 0)), (.int .u8 (.ofNat 0)), (.int .u8 (.ofNat 0)), (.int .u8 (.ofNat 0)), (.int .u8 (.ofNat 0)), (.int .u8 (.ofNat 0)), (.int .u8 (.ofNat 0)), (.int .u8 (.ofNat 0)), (.int .u8 (.ofNat 0)), (.int .u8 (.ofNat 0)), (.int .u8 (.ofNat 0)), (.int .u8 (.ofNat 0)), (.int .u8 (.ofNat 0)), (.int .u8 (.ofNat 0)), (.int .u8 (.ofNat 0)), (.int .u8 (.ofNat 0)), (.int .u8 (.ofNat 0)), (.int .u8 (.ofNat 0)), (.int .u8 (.ofNat 0)), (.int .u8 (.ofNat 0)), (.int .u8 (.ofNat 0)), (.int .u8 (.ofNat 0)), (.int .u8 (.ofNat 0)), (.int .u8 (.ofNat 0)), (.int .u8 (.ofNat 0)), (.int .u8 (.ofNat 0)), (.int .u8 (.ofNat 0)), (.int .u8 (.ofNat 0)), (.int .u8 (.ofNat 0)), (.int .u8 (.ofNat 0)), (.int .u8 (.ofNat 0)), (.int .u8 (.ofNat 0)), (.int .u8 (.ofNat 0)), (.int .u8 (.ofNat 0)), (.int .u8 (.ofNat 0)), (.int .u8 (.ofNat 0)), (.int .u8 (.ofNat 0)), (.int .u8 (.ofNat 0)), (.int .u8 (.ofNat 0)), (.int .u8 (.ofNat 0)), (.int .u8 (.ofNat 0)), (.int .u8 (.ofNat 0)), (.int .u8 (.ofNat 0)), (.int .u8 (.ofNat 0)), (.int .u8 (.ofNat 0)), (.int .u8 (.ofNat 0)), (.int .u8 (.ofNat 0)), (.int .u8 (.ofNat 0)), (.int .u8 (.ofNat 0)), (.int .u8 (.ofNat 0)), (.int .u8 (.ofNat 0)), (.int .u8 (.ofNat 0)), (.int .u8 (.ofNat 0)), (.int .u8 (.ofNat 0)), (.int .u8 (.ofNat 0)), (.int .u8 (.ofNat 0)), (.int .u8 (.ofNat 0)), (.int .u8 (.ofNat 0)), (.int .u8 (.ofNat 0)), (.int .u8 (.ofNat 0)), (.int .u8 (.ofNat 0)), (.int .u8 (.ofNat 0)), (.int .u8 (.ofNat 0)), (.int .u8 (.ofNat 0)), (.int .u8 (.ofNat 0)), (.int .u8 (.ofNat 0)), (.int .u8 (.ofNat 0)), (.int .u8 (.ofNat 0)), (.int .u8 (.ofNat 0)), (.int .u8 (.ofNat 0)), (.int .u8 (.ofNat 0)), (.int .u8 (.ofNat 0)), (.int .u8 (.ofNat 0)), (.int .u8 (.ofNat 0)), (.int .u8 (.ofNat 0)), (.int .u8 (.ofNat 0)), (.int .u8 (.ofNat 0)), (.int .u8 (.ofNat 0)), (.int .u8 (.ofNat 0)), (.int .u8 (.ofNat 0)), (.int .u8 (.ofNat 0)), (.int .u8 (.ofNat 0)), (.int .u8 (.ofNat 0)), (.int .u8 (.ofNat 0)), (.int .u8 (.ofNat 0)), (.int .u8 (.ofNat 0)), (.int .u8 (.ofNat 0)), (.int .u8 (.ofNat 0)), (.int .u8 (.ofNat 0)), (.int .u8 (.ofNat 0)), (.int .u8 (.ofNat 0)), (.int .u8 (.ofNat 0)), (.int .u8 (.ofNat 0)), (.int .u8 (.ofNat 0)), (.int .u8 (.ofNat 0)), (.int .u8 (.ofNat 0)), (.int .u8 (.ofNat 0)), (.int .u8 (.ofNat 0)), (.int .u8 (.ofNat 0)), (.int .u8 (.ofNat 0)), (.int .u8 (.ofNat 0)), (.int .u8 (.ofNat 0)), (.int .u8 (.ofNat 0)), (.int .u8 (.ofNat 0)), (.int .u8 (.ofNat 0)), (.int .u8 (.ofNat 0)), (.int .u8 (.ofNat 0)), (.int .u8 (.ofNat 0)), (.int .u8 (.ofNat 0)), (.int .u8 (.ofNat 0)), (.int .u8 (.ofNat 0)), (.int .u8 (.ofNat 0)), (.int .u8 (.ofNat 0)), (.int .u8 (.ofNat 0)), (.int .u8 (.ofNat 0)), (.int .u8 (.ofNat 0)), (.int .u8 (.ofNat 0)), (.int .u8 (.ofNat 0)), (.int .u8 (.ofNat 0)), (.int .u8 (.ofNat 0)), (.int .u8 (.ofNat 0)), (.int .u8 (.ofNat 0)), (.int .u8 (.ofNat 0)), (.int .u8 (.ofNat 0)), (.int .u8 (.ofNat 0)), (.int .u8 (.ofNat 0)), (.int .u8 (.ofNat 0)), (.int .u8 (.ofNat 0)), (.int .u8 (.ofNat 0)), (.int .u8 (.ofNat 0)), (.int .u8 (.ofNat 0)), (.int .u8 (.ofNat 0)), (.int .u8 (.ofNat 0)), (.int .u8 (.ofNat 0)), (.int .u8 (.ofNat 0)), (.int .u8 (.ofNat 0)), (.int .u8 (.ofNat 0)), (.int .u8 (.ofNat 0)), (.int .u8 (.ofNat 0)), (.int .u8 (.ofNat 0)), (.int .u8 (.ofNat 0)), (.int .u8 (.ofNat 0)), (.int .u8 (.ofNat 0)), (.int .u8 (.ofNat 0)), (.int .u8 (.ofNat 0)), (.int .u8 (.ofNat 0)), (.int .u8 (.ofNat 0)), (.int .u8 (.ofNat 0)), (.int .u8 (.ofNat 0)), (.int .u8 (.ofNat 0)), (.int .u8 (.ofNat 0)), (.int .u8 (.ofNat 0)), (.int .u8 (.ofNat 0)), (.int .u8 (.ofNat 0)), (.int .u8 (.ofNat 0)), (.int .u8 (.ofNat 0)), (.int .u8 (.ofNat 0)), (.int .u8 (.ofNat 0)), (.int .u8 (.ofNat 0)), (.int .u8 (.ofNat 0)), (.int .u8 (.ofNat 0)), (.int .u8 (.ofNat 0)), (.int .u8 (.ofNat 0)), (.int .u8 (.ofNat 0)), (.int .u8 (.ofNat 0)), (.int .u8 (.ofNat 0)), (.int .u8 (.ofNat 0)), (.int .u8 (.ofNat 0)), (.int .u8 (.ofNat 0)), (.int .u8 (.ofNat 0)), (.int .u8 (.ofNat 0)), (.int .u8 (.ofNat 0)), (.int .u8 (.ofNat 0)), (.int .u8 (.ofNat 0)), (.int .u8 (.ofNat 0)), (.int .u8 (.ofNat 0)), (.int .u8 (.ofNat 0)), (.int .u8 (.ofNat 0)), (.int .u8 (.ofNat 0)), (.int .u8 (.ofNat 0)), (.int .u8 (.ofNat 0)), (.int .u8 (.ofNat 0)), (.int .u8 (.ofNat 0)), (.int .u8 (.ofNat 0)), (.int .u8 (.ofNat 0)), (.int .u8 (.ofNat 0)), (.int .u8 (.ofNat 0)), (.int .u8 (.ofNat 0)), (.int .u8 (.ofNat 0)), (.int .u8 (.ofNat 0)), (.int .u8 (.ofNat 0)), (.int .u8 (.ofNat 0)), (.int .u8 (.ofNat 0)), (.int .u8 (.ofNat 0)), (.int .u8 (.ofNat 0)), (.int .u8 (.ofNat 0)), (.int .u8 (.ofNat 0)), (.int .u8 (.ofNat 0)), (.int .u8 (.ofNat 0)), (.int .u8 (.ofNat 0)), (.int .u8 (.ofNat 0)), (.int .u8 (.ofNat 0)), (.int .u8 (.ofNat 0)), (.int .u8 (.ofNat 0)), (.int .u8 (.ofNat 0)), (.int .u8 (.ofNat 0)), (.int .u8 (.ofNat 0)), (.int .u8 (.ofNat 0)), (.int .u8 (.ofNat 0)), (.int .u8 (.ofNat 0)), (.int .u8 (.ofNat 0)), (.int .u8 (.ofNat 0)), (.int .u8 (.ofNat 0)), (.int .u8 (.ofNat 0)), (.int .u8 (.ofNat 0)), (.int .u8 (.ofNat 0)), (.int .u8 (.ofNat 0)), (.int .u8 (.ofNat 0)), (.int .u8 (.ofNat 0)), (.int .u8 (.ofNat 0)), (.int .u8 (.ofNat 0)), (.int .u8 (.ofNat 0)), (.int .u8 (.ofNat 0)), (.int .u8 (.ofNat 0)), (.int .u8 (.ofNat 0)), (.int .u8 (.ofNat 0)), (.int .u8 (.ofNat 0)), (.int .u8 (.ofNat 0)), (.int .u8 (.ofNat 0)), (.int .u8 (.ofNat 0)), (.int .u8 (.ofNat 0)), (.int .u8 (.ofNat 0)), (.int .u8 (.ofNat 0)), (.int .u8 (.ofNat 0)), (.int .u8 (.ofNat 0)), (.int .u8 (.ofNat 0)), (.int .u8 (.ofNat 0)), (.int .u8 (.ofNat 0)), (.int .u8 (.ofNat 0)), (.int .u8 (.ofNat 0))])⟩),
  (206, ⟨(.ptr 205), 1, .nilPtr⟩),
  (207, ⟨(.arr 256 65), 256, (.agg [.nilSlice, .nilSlice, .nilSlice, .nilSlice, .nilSlice, .nilSlice, .nilSlice, .nilSlice, .nilSlice, .nilSlice, .nilSlice, .nilSlice, .nilSlice, .nilSlice, .nilSlice, .nilSlice, .nilSlice, .nilSlice, .nilSlice, .nilSlice, .nilSlice, .nilSlice, .nilSlice, .nilSlice, .nilSlice, .nilSlice, .nilSlice, .nilSlice, .nilSlice, .nilSlice, .nilSlice, .nilSlice, .nilSlice, .nilSlice, .nilSlice, .nilSlice, .nilSlice, .nilSlice, .nilSlice, .nilSlice, .nilSlice, .nilSlice, .nilSlice, .nilSlice, .nilSlice, .nilSlice, .nilSlice, .nilSlice, .nilSlice, .nilSlice, .nilSlice, .nilSlice, .nilSlice, .nilSlice, .nilSlice, .nilSlice, .nilSlice, .nilSlice, .nilSlice, .nilSlice, .nilSlice, .nilSlice, .nilSlice, .nilSlice, .nilSlice, .nilSlice, .nilSlice, .nilSlice, .nilSlice, .nilSlice, .nilSlice, .nilSlice, .nilSlice, .nilSlice, .nilSlice, .nilSlice, .nilSlice, .nilSlice, .nilSlice, .nilSlice, .nilSlice, .nilSlice, .nilSlice, .nilSlice, .nilSlice, .nilSlice, .nilSlice, .nilSlice, .nilSlice, .nilSlice, .nilSlice, .nilSlice, .nilSlice, .nilSlice, .nilSlice, .nilSlice, .nilSlice, .nilSlice, .nilSlice, .nilSlice, .nilSlice, .nilSlice, .nilSlice, .nilSlice, .nilSlice, .nilSlice, .nilSlice, .nilSlice, .nilSlice, .nilSlice, .nilSlice, .nilSlice, .nilSlice, .nilSlice, .nilSlice, .nilSlice, .nilSlice, .nilSlice, .nilSlice, .nilSlice, .nilSlice, .nilSlice, .nilSlice, .nilSlice, .nilSlice, .nilSlice, .nilSlice, .nilSlice, .nilSlice, .nilSlice, .nilSlice, .nilSlice, .nilSlice, .nilSlice, .nilSlice, .nilSlice, .nilSlice, .nilSlice, .nilSlice, .nilSlice, .nilSlice, .nilSlice, .nilSlice, .nilSlice, .nilSlice, .nilSlice, .nilSlice, .nilSlice, .nilSlice, .nilSlice, .nilSlice, .nilSlice, .nilSlice, .nilSlice, .nilSlice, .nilSlice, .nilSlice, .nilSlice, .nilSlice, .nilSlice, .nilSlice, .nilSlice, .nilSlice, .nilSlice, .nilSlice, .nilSlice, .nilSlice, .nilSlice, .nilSlice, .nilSlice, .nilSlice, .nilSlice, .nilSlice, .nilSlice, .nilSlice, .nilSlice, .nilSlice, .nilSlice, .nilSlice, .nilSlice, .nilSlice, .nilSlice, .nilSlice, .nilSlice, .nilSlice, .nilSlice, .nilSlice, .nilSlice, .nilSlice, .nilSlice, .nilSlice, .nilSlice, .nilSlice, .nilSlice, .nilSlice, .nilSlice, .nilSlice, .nilSlice, .nilSlice, .nilSlice, .nilSlice, .nilSlice, .nilSlice, .nilSlice, .nilSlice, .nilSlice, .nilSlice, .nilSlice, .nilSlice, .nilSlice, .nilSlice, .nilSlice, .nilSlice, .nilSlice, .nilSlice, .nilSlice, .nilSlice, .nilSlice, .nilSlice, .nilSlice, .nilSlice, .nilSlice, .nilSlice, .nilSlice, .nilSlice, .nilSlice, .nilSlice, .nilSlice, .nilSlice, .nilSlice, .nilSlice, .nilSlice, .nilSlice, .nilSlice, .nilSlice, .nilSlice, .nilSlice, .nilSlice, .nilSlice, .nilSlice, .nilSlice, .nilSlice, .nilSlice, .nilSlice, .nilSlice, .nilSlice, .nilSlice, .nilSlice, .nilSlice, .nilSlice, .nilSlice, .nilSlice, .nilSlice, .nilSlice, .nilSlice, .nilSlice])⟩),
  (209, ⟨(.struct [(0, 207), (256, 25)]), 257, (.agg [.nilSlice, .nilSlice, .nilSlice, .nilSlice, .nilSlice, .nilSlice, .nilSlice, .nilSlice, .nilSlice, .nilSlice, .nilSlice, .nilSlice, .nilSlice, .nilSlice, .nilSlice, .nilSlice, .nilSlice, .nilSlice, .nilSlice, .nilSlice, .nilSlice, .nilSlice, .nilSlice, .nilSlice, .nilSlice, .nilSlice, .nilSlice, .nilSlice, .nilSlice, .nilSlice, .nilSlice, .nilSlice, .nilSlice, .nilSlice, .nilSlice, .nilSlice, .nilSlice, .nilSlice, .nilSlice, .nilSlice, .nilSlice, .nilSlice, .nilSlice, .nilSlice, .nilSlice, .nilSlice, .nilSlice, .nilSlice, .nilSlice, .nilSlice, .nilSlice, .nilSlice, .nilSlice, .nilSlice, .nilSlice, .nilSlice, .nilSlice, .nilSlice, .nilSlice, .nilSlice, .nilSlice, .nilSlice, .nilSlice, .nilSlice, .nilSlice, .nilSlice, .nilSlice, .nilSlice, .nilSlice, .nilSlice, .nilSlice, .nilSlice, .nilSlice, .nilSlice, .nilSlice, .nilSlice, .nilSlice, .nilSlice, .nilSlice, .nilSlice, .nilSlice, .nilSlice, .nilSlice, .nilSlice, .nilSlice, .nilSlice, .nilSlice, .nilSlice, .nilSlice, .nilSlice, .nilSlice, .nilSlice, .nilSlice, .nilSlice, .nilSlice, .nilSlice, .nilSlice, .nilSlice, .nilSlice, .nilSlice, .nilSlice, .nilSlice, .nilSlice, .nilSlice, .nilSlice, .nilSlice, .nilSlice, .nilSlice, .nilSlice, .nilSlice, .nilSlice, .nilSlice, .nilSlice, .nilSlice, .nilSlice, .nilSlice, .nilSlice, .nilSlice, .nilSlice, .nilSlice, .nilSlice, .nilSlice, .nilSlice, .nilSlice, .nilSlice, .nilSlice, .nilSlice, .nilSlice, .nilSlice, .nilSlice, .nilSlice, .nilSlice, .nilSlice, .nilSlice, .nilSlice, .nilSlice, .nilSlice, .nilSlice, .nilSlice, .nilSlice, .nilSlice, .nilSlice, .nilSlice, .nilSlice, .nilSlice, .nilSlice, .nilSlice, .nilSlice, .nilSlice, .nilSlice, .nilSlice, .nilSlice, .nilSlice, .nilSlice, .nilSlice, .nilSlice, .nilSlice, .nilSlice, .nilSlice, .nilSlice, .nilSlice, .nilSlice, .nilSlice, .nilSlice, .nilSlice, .nilSlice, .nilSlice, .nilSlice, .nilSlice, .nilSlice, .nilSlice, .nilSlice, .nilSlice, .nilSlice, .nilSlice, .nilSlice, .nilSlice, .nilSlice, .nilSlice, .nilSlice, .nilSlice, .nilSlice, .nilSlice, .nilSlice, .nilSlice, .nilSlice, .nilSlice, .nilSlice, .nilSlice, .nilSlice, .nilSlice, .nilSlice, .nilSlice, .nilSlice, .nilSlice, .nilSlice, .nilSlice, .nilSlice, .nilSlice, .nilSlice, .nilSlice, .nilSlice, .nilSlice, .nilSlice, .nilSlice, .nilSlice, .nilSlice, .nilSlice, .nilSlice, .nilSlice, .nilSlice, .nilSlice, .nilSlice, .nilSlice, .nilSlice, .nilSlice, .nilSlice, .nilSlice, .nilSlice, .nilSlice, .nilSlice, .nilSlice, .nilSlice, .nilSlice, .nilSlice, .nilSlice, .nilSlice, .nilSlice, .nilSlice, .nilSlice, .nilSlice, .nilSlice, .nilSlice, .nilSlice, .nilSlice, .nilSlice, .nilSlice, .nilSlice, .nilSlice, .nilSlice, .nilSlice, .nilSlice, .nilSlice, .nilSlice, .nilSlice, .nilSlice, .nilSlice, .nilSlice, .nilSlice, .nilSlice, .nilSlice, .nilSlice, .nilSlice, .nilSlice, .nilSlice, .nilSlice, .nilSlice])⟩),
  (210, ⟨(.ptr 209), 1, .nilPtr⟩),
  (219, ⟨(.ptr 241), 1, .nilPtr⟩),
  (222, ⟨(.struct [(0, 219), (1, 9)]), 2, (.agg [.nilPtr, (.str 0 0)])⟩),
  (223, ⟨(.ptr 226), 1, .nilPtr⟩),
  (224, ⟨(.slice 223), 1, .nilSlice⟩),
  (226, ⟨(.struct [(0, 9), (1, 3), (2, 9), (3, 223), (4, 224)]), 5, (.agg [(.str 0 0), (.int .i64 (.ofNat 0)), (.str 0 0), .nilPtr, .nilSlice])⟩),
  (228, ⟨(.struct [(0, 226), (5, 3), (6, 193)]), 262, (.agg [(.str 0 0), (.int .i64 (.ofNat 0)), (.str 0 0), .nilPtr, .nilSlice, (.int .i64 (.ofNat 0)), (.int .u8 (.ofNat 0)), (.int .u8 (.ofNat 0)), (.int .u8 (.ofNat 0)), (.int .u8 (.ofNat 0)), (.int .u8 (.ofNat 0)), (.int .u8 (.ofNat 0)), (.int .u8 (.ofNat 0)), (.int .u8 (.ofNat 0)), (.int .u8 (.ofNat 0)), (.int .u8 (.ofNat 0)), (.int .u8 (.ofNat 0)), (.int .u8 (.ofNat 0)), (.int .u8 (.ofNat 0)), (.int .u8 (.ofNat 0)), (.int .u8 (.ofNat 0)), (.int .u8 (.ofNat 0)), (.int .u8 (.ofNat 0)), (.int .u8 (.ofNat 0)), (.int .u8 (.ofNat 0)), (.int .u8 (.ofNat 0)), (.int .u8 (.ofNat 0)), (.int .u8 (.ofNat 0)), (.int .u8 (.ofNat 0)), (.int .u8 (.ofNat 0)), (.int .u8 (.ofNat 0)), (.int .u8 (.ofNat 0)), (.int .u8 (.ofNat 0)), (.int .u8 (.ofNat 0)), (.int .u8 (.ofNat 0)), (.int .u8 (.ofNat 0)), (.int .u8 (.ofNat 0)), (.int .u8 (.ofNat 0)), (.int .u8 (.ofNat 0)), (.int .u8 (.ofNat 0)), (.int .u8 (.ofNat 0)), (.int .u8 (.ofNat 0)), (.int .u8 (.ofNat 0)), (.int .u8 (.ofNat 0)), (.int .u8 (.ofNat 0)), (.int .u8 (.ofNat 0)), (.int .u8 (.ofNat 0)), (.int .u8 (.ofNat 0)), (.int .u8 (.ofNat 0)), (.int .u8 (.ofNat 0)), (.int .u8 (.ofNat 0)), (.int .u8 (.ofNat 0)), (.int .u8 (.ofNat 0)), (.int .u8 (.ofNat 0)), (.int .u8 (.ofNat 0)), (.int .u8 (.ofNat 0)), (.int .u8 (.ofNat 0)), (.int .u8 (.ofNat 0)), (.int .u8 (.ofNat 0)), (.int .u8 (.ofNat 0)), (.int .u8 (.ofNat 0)), (.int .u8 (.ofNat 0)), (.int .u8 (.ofNat 0)), (.int .u8 (.ofNat 0)), (.int .u8 (.ofNat 0)), (.int .u8 (.ofNat 0)), (.int .u8 (.ofNat 0)), (.int .u8 (.ofNat 0)), (.int .u8 (.ofNat 0)), (.int .u8 (.ofNat 0)), (.int .u8 (.ofNat 0)), (.int .u8 (.ofNat 0)), (.int .u8 (.ofNat 0)), (.int .u8 (.ofNat 0)), (.int .u8 (.ofNat 0)), (.int .u8 (.ofNat 0)), (.int .u8 (.ofNat 0)), (.int .u8 (.ofNat 0)), (.int .u8 (.ofNat 0)), (.int .u8 (.ofNat 0)), (.int .u8 (.ofNat 0)), (.int .u8 (.ofNat 0)), (.int .u8 (.ofNat 0)), (.int .u8 (.ofNat 0)), (.int .u8 (.ofNat 0)), (.int .u8 (.ofNat 0)), (.int .u8 (.ofNat 0)), (.int .u8 (.ofNat 0)), (.int .u8 (.ofNat 0)), (.int .u8 (.ofNat 0)), (.int .u8 (.ofNat 0)), (.int .u8 (.ofNat 0)), (.int .u8 (.ofNat 0)), (.int .u8 (.ofNat 0)), (.int .u8 (.ofNat 0)), (.int .u8 (.ofNat 0)), (.int .u8 (.ofNat 0)), (.int .u8 (.ofNat 0)), (.int .u8 (.ofNat 0)), (.int .u8 (.ofNat 0)), (.int .u8 (.ofNat 0)), (.int .u8 (.ofNat 0)), (.int .u8 (.ofNat 0)), (.int .u8 (.ofNat 0)), (.int .u8 (.ofNat 0)), (.int .u8 (.ofNat 0)), (.int .u8 (.ofNat 0)), (.int .u8 (.ofNat 0)), (.int .u8 (.ofNat 0)), (.int .u8 (.ofNat 0)), (.int .u8 (.ofNat 0)), (.int .u8 (.ofNat 0)), (.int .u8 (.ofNat 0)), (.int .u8 (.ofNat 0)), (.int .u8 (.ofNat 0)), (.int .u8 (.ofNat 0)), (.int .u8 (.ofNat 0)), (.int .u8 (.ofNat 0)), (.int .u8 (.ofNat 0)), (.int .u8 (.ofNat 0)), (.int .u8 (.ofNat 0)), (.int .u8 (.ofNat 0)), (.int .u8 (.ofNat 0)), (.int .u8 (.ofNat 0)), (.int .u8 (.ofNat 0)), (.int .u8 (.ofNat 0)), (.int .u8 (.ofNat 0)), (.int .u8 (.ofNat 0)), (.int .u8 (.ofNat 0)), (.int .u8 (.ofNat 0)), (.int .u8 (.ofNat 0)), (.int .u8 (.ofNat 0)), (.int .u8 (.ofNat 0)), (.int .u8 (.ofNat 0)), (.int .u8 (.ofNat 0)), (.int .u8 (.ofNat 0)), (.int .u8 (.ofNat 0)), (.int .u8 (.ofNat 0)), (.int .u8 (.ofNat 0)), (.int .u8 (.ofNat 0)), (.int .u8 (.ofNat 0)), (.int .u8 (.ofNat 0)), (.int .u8 (.ofNat 0)), (.int .u8 (.ofNat 0)), (.int .u8 (.ofNat 0)), (.int .u8 (.ofNat 0)), (.int .u8 (.ofNat 0)), (.int .u8 (.ofNat 0)), (.int .u8 (.ofNat 0)), (.int .u8 (.ofNat 0)), (.int .u8 (.ofNat 0)), (.int .u8 (.ofNat 0)), (.int .u8 (.ofNat 0)), (.int .u8 (.ofNat 0)), (.int .u8 (.ofNat 0)), (.int .u8 (.ofNat 0)), (.int .u8 (.ofNat 0)), (.int .u8 (.ofNat 0)), (.int .u8 (.ofNat 0)), (.int .u8 (.ofNat 0)), (.int .u8 (.ofNat 0)), (.int .u8 (.ofNat 0)), (.int .u8 (.ofNat 0)), (.int .u8 (.ofNat 0)), (.int .u8 (.ofNat 0)), (.int .u8 (.ofNat 0)), (.int .u8 (.ofNat 0)), (.int .u8 (.ofNat 0)), (.int .u8 (.ofNat 0)), (.int .u8 (.ofNat 0)), (.int .u8 (.ofNat 0)), (.int .u8 (.ofNat 0)), (.int .u8 (.ofNat 0)), (.int .u8 (.ofNat 0)), (.int .u8 (.ofNat 0)), (.int .u8 (.ofNat 0)), (.int .u8 (.ofNat 0)), (.int .u8 (.ofNat 0)), (.int .u8 (.ofNat 0)), (.int .u8 (.ofNat 0)), (.int .u8 (.ofNat 0)), (.int .u8 (.ofNat 0)), (.int .u8 (.ofNat 0)), (.int .u8 (.ofNat 0)), (.int .u8 (.ofNat 0)), (.int .u8 (.ofNat 0)), (.int .u8 (.ofNat 0)), (.int .u8 (.ofNat 0)), (.int .u8 (.ofNat 0)), (.int .u8 (.ofNat 0)), (.int .u8 (.ofNat 0)), (.int .u8 (.ofNat 0)), (.int .u8 (.ofNat 0)), (.int .u8 (.ofNat 0)), (.int .u8 (.ofNat 0)), (.int .u8 (.ofNat 0)), (.int .u8 (.ofNat 0)), (.int .u8 (.ofNat 0)), (.int .u8 (.ofNat 0)), (.int .u8 (.ofNat 0)), (.int .u8 (.ofNat 0)), (.int .u8 (.ofNat 0)), (.int .u8 (.ofNat 0)), (.int .u8 (.ofNat 0)), (.int .u8 (.ofNat 0)), (.int .u8 (.ofNat 0)), (.int .u8 (.ofNat 0)), (.int .u8 (.ofNat 0)), (.int .u8 (.ofNat 0)), (.int .u8 (.ofNat 0)), (.int .u8 (.ofNat 0)), (.int .u8 (.ofNat 0)), (.int .u8 (.ofNat 0)), (.int .u8 (.ofNat 0)), (.int .u8 (.ofNat 0)), (.int .u8 (.ofNat 0)), (.int .u8 (.ofNat 0)), (.int .u8 (.ofNat 0)), (.int .u8 (.ofNat 0)), (.int .u8 (.ofNat 0)), (.int .u8 (.ofNat 0)), (.int .u8 (.ofNat 0)), (.int .u8 (.ofNat 0)), (.int .u8 (.ofNat 0)), (.int .u8 (.ofNat 0)), (.int .u8 (.ofNat 0)), (.int .u8 (.ofNat 0)), (.int .u8 (.ofNat 0)), (.int .u8 (.ofNat 0)), (.int .u8 (.ofNat 0)), (.int .u8 (.ofNat 0)), (.int .u8 (.ofNat 0)), (.int .u8 (.ofNat 0)), (.int .u8 (.ofNat 0)), (.int .u8 (.ofNat 0)), (.int .u8 (.ofNat 0)), (.int .u8 (.ofNat 0)), (.int .u8 (.ofNat 0)), (.int .u8 (.ofNat 0)), (.int .u8 (.ofNat 0)), (.int .u8 (.ofNat 0)), (.int .u8 (.ofNat 0)), (.int .u8 (.ofNat 0)), (.int .u8 (.ofNat 0)), (.int .u8 (.ofNat 0)), (.int .u8 (.ofNat 0)), (.int .u8 (.ofNat 0)), (.int .u8 (.ofNat 0)), (.int .u8 (.ofNat 0)), (.int .u8 (.ofNat 0)), (.int .u8 (.ofNat 0)), (.int .u8 (.ofNat 0)), (.int .u8 (.ofNat 0)), (.int .u8 (.ofNat 0)), (.int .u8 (.ofNat 0)), (.int .u8 (.ofNat 0)), (.int .u8 (.ofNat 0)), (.int .u8 (.ofNat 0)), (.int .u8 (.ofNat 0)), (.int .u8 (.ofNat 0)), (.int .u8 (.ofNat 0)), (.int .u8 (.ofNat 0))])⟩),
  (238, ⟨(.slice 3), 1, .nilSlice⟩),
  (239, ⟨(.arr 256 3), 256, (.agg [(.int .i64 (.ofNat 0)), (.int .i64 (.ofNat 0)), (.int .i64 (.ofNat 0)), (.int .i64 (.ofNat 0)), (.int .i64 (.ofNat 0)), (.int .i64 (.ofNat 0)), (.int .i64 (.ofNat 0)), (.int .i64 (.ofNat 0)), (.int .i64 (.ofNat 0)), (.int .i64 (.ofNat 0)), (.int .i64 (.ofNat 0)), (.int .i64 (.ofNat 0)), (.int .i64 (.ofNat 0)), (.int .i64 (.ofNat 0)), (.int .i64 (.ofNat 0)), (.int .i64 (.ofNat 0)), (.int .i64 (.ofNat 0)), (.int .i64 (.ofNat 0)), (.int .i64 (.ofNat 0)), (.int .i64 (.ofNat 0)), (.int .i64 (.ofNat 0)), (.int .i64 (.ofNat 0)), (.int .i64 (.ofNat 0)), (.int .i64 (.ofNat 0)), (.int .i64 (.ofNat 0)), (.int .i64 (.ofNat 0)), (.int .i64 (.ofNat 0)), (.int .i64 (.ofNat 0)), (.int .i64 (.ofNat 0)), (.int .i64 (.ofNat 0)), (.int .i64 (.ofNat 0)), (.int .i64 (.ofNat 0)), (.int .i64 (.ofNat 0)), (.int .i64 (.ofNat 0)), (.int .i64 (.ofNat 0)), (.int .i64 (.ofNat 0)), (.int .i64 (.ofNat 0)), (.int .i64 (.ofNat 0)), (.int .i64 (.ofNat 0)), (.int .i64 (.ofNat 0)), (.int .i64 (.ofNat 0)), (.int .i64 (.ofNat 0)), (.int .i64 (.ofNat 0)), (.int .i64 (.ofNat 0)), (.int .i64 (.ofNat 0)), (.int .i64 (.ofNat 0)), (.int .i64 (.ofNat 0)), (.int .i64 (.ofNat 0)), (.int .i64 (.ofNat 0)), (.int .i64 (.ofNat 0)), (.int .i64 (.ofNat 0)), (.int .i64 (.ofNat 0)), (.int .i64 (.ofNat 0)), (.int .i64 (.ofNat 0)), (.int .i64 (.ofNat 0)), (.int .i64 (.ofNat 0)), (.int .i64 (.ofNat 0)), (.int .i64 (.ofNat 0)), (.int .i64 (.ofNat 0)), (.int .i64 (.ofNat 0)), (.int .i64 (.ofNat 0)), (.int .i64 (.ofNat 0)), (.int .i64 (.ofNat 0)), (.int .i64 (.ofNat 0)), (.int .i64 (.ofNat 0)), (.int .i64 (.ofNat 0)), (.int .i64 (.ofNat 0)), (.int .i64 (.ofNat 0)), (.int .i64 (.ofNat 0)), (.int .i64 (.ofNat 0)), (.int .i64 (.ofNat 0)), (.int .i64 (.ofNat 0)), (.int .i64 (.ofNat 0)), (.int .i64 (.ofNat 0)), (.int .i64 (.ofNat 0)), (.int .i64 (.ofNat 0)), (.int .i64 (.ofNat 0)), (.int .i64 (.ofNat 0)), (.int .i64 (.ofNat 0)), (.int .i64 (.ofNat 0)), (.int .i64 (.ofNat 0)), (.int .i64 (.ofNat 0)), (.int .i64 (.ofNat 0)), (.int .i64 (.ofNat 0)), (.int .i64 (.ofNat 0)), (.int .i64 (.ofNat 0)), (.int .i64 (.ofNat 0)), (.int .i64 (.ofNat 0)), (.int .i64 (.ofNat 0)), (.int .i64 (.ofNat 0)), (.int .i64 (.ofNat 0)), (.int .i64 (.ofNat 0)), (.int .i64 (.ofNat 0)), (.int .i64 (.ofNat 0)), (.int .i64 (.ofNat 0)), (.int .i64 (.ofNat 0)), (.int .i64 (.ofNat 0)), (.int .i64 (.ofNat 0)), (.int .i64 (.ofNat 0)), (.int .i64 (.ofNat 0)), (.int .i64 (.ofNat 0)), (.int .i64 (.ofNat 0)), (.int .i64 (.ofNat 0)), (.int .i64 (.ofNat 0)), (.int .i64 (.ofNat 0)), (.int .i64 (.ofNat 0)), (.int .i64 (.ofNat 0)), (.int .i64 (.ofNat 0)), (.int .i64 (.ofNat 0)), (.int .i64 (.ofNat 0)), (.int .i64 (.ofNat 0)), (.int .i64 (.ofNat 0)), (.int .i64 (.ofNat 0)), (.int .i64 (.ofNat 0)), (.int .i64 (.ofNat 0)), (.int .i64 (.ofNat 0)), (.int .i64 (.ofNat 0)), (.int .i64 (.ofNat 0)), (.int .i64 (.ofNat 0)), (.int .i64 (.ofNat 0)), (.int .i64 (.ofNat 0)), (.int .i64 (.ofNat 0)), (.int .i64 (.ofNat 0)), (.int .i64 (.ofNat 0)), (.int .i64 (.ofNat 0)), (.int .i64 (.ofNat 0)), (.int .i64 (.ofNat 0)), (.int .i64 (.ofNat 0)), (.int .i64 (.ofNat 0)), (.int .i64 (.ofNat 0)), (.int .i64 (.ofNat 0)), (.int .i64 (.ofNat 0)), (.int .i64 (.ofNat 0)), (.int .i64 (.ofNat 0)), (.int .i64 (.ofNat 0)), (.int .i64 (.ofNat 0)), (.int .i64 (.ofNat 0)), (.int .i64 (.ofNat 0)), (.int .i64 (.ofNat 0)), (.int .i64 (.ofNat 0)), (.int .i64 (.ofNat 0)), (.int .i64 (.ofNat 0)), (.int .i64 (.ofNat 0)), (.int .i64 (.ofNat 0)), (.int .i64 (.ofNat 0)), (.int .i64 (.ofNat 0)), (.int .i64 (.ofNat 0)), (.int .i64 (.ofNat 0)), (.int .i64 (.ofNat 0)), (.int .i64 (.ofNat 0)), (.int .i64 (.ofNat 0)), (.int .i64 (.ofNat 0)), (.int .i64 (.ofNat 0)), (.int .i64 (.ofNat 0)), (.int .i64 (.ofNat 0)), (.int .i64 (.ofNat 0)), (.int .i64 (.ofNat 0)), (.int .i64 (.ofNat 0)), (.int .i64 (.ofNat 0)), (.int .i64 (.ofNat 0)), (.int .i64 (.ofNat 0)), (.int .i64 (.ofNat 0)), (.int .i64 (.ofNat 0)), (.int .i64 (.ofNat 0)), (.int .i64 (.ofNat 0)), (.int .i64 (.ofNat 0)), (.int .i64 (.ofNat 0)), (.int .i64 (.ofNat 0)), (.int .i64 (.ofNat 0)), (.int .i64 (.ofNat 0)), (.int .i64 (.ofNat 0)), (.int .i64 (.ofNat 0)), (.int .i64 (.ofNat 0)), (.int .i64 (.ofNat 0)), (.int .i64 (.ofNat 0)), (.int .i64 (.ofNat 0)), (.int .i64 (.ofNat 0)), (.int .i64 (.ofNat 0)), (.int .i64 (.ofNat 0)), (.int .i64 (.ofNat 0)), (.int .i64 (.ofNat 0)), (.int .i64 (.ofNat 0)), (.int .i64 (.ofNat 0)), (.int .i64 (.ofNat 0)), (.int .i64 (.ofNat 0)), (.int .i64 (.ofNat 0)), (.int .i64 (.ofNat 0)), (.int .i64 (.ofNat 0)), (.int .i64 (.ofNat 0)), (.int .i64 (.ofNat 0)), (.int .i64 (.ofNat 0)), (.int .i64 (.ofNat 0)), (.int .i64 (.ofNat 0)), (.int .i64 (.ofNat 0)), (.int .i64 (.ofNat 0)), (.int .i64 (.ofNat 0)), (.int .i64 (.ofNat 0)), (.int .i64 (.ofNat 0)), (.int .i64 (.ofNat 0)), (.int .i64 (.ofNat 0)), (.int .i64 (.ofNat 0)), (.int .i64 (.ofNat 0)), (.int .i64 (.ofNat 0)), (.int .i64 (.ofNat 0)), (.int .i64 (.ofNat 0)), (.int .i64 (.ofNat 0)), (.int .i64 (.ofNat 0)), (.int .i64 (.ofNat 0)), (.int .i64 (.ofNat 0)), (.int .i64 (.ofNat 0)), (.int .i64 (.ofNat 0)), (.int .i64 (.ofNat 0)), (.int .i64 (.ofNat 0)), (.int .i64 (.ofNat 0)), (.int .i64 (.ofNat 0)), (.int .i64 (.ofNat 0)), (.int .i64 (.ofNat 0)), (.int .i64 (.ofNat 0)), (.int .i64 (.ofNat 0)), (.int .i64 (.ofNat 0)), (.int .i64 (.ofNat 0)), (.int .i64 (.ofNat 0)), (.int .i64 (.ofNat 0)), (.int .i64 (.ofNat 0)), (.int .i64 (.ofNat 0)), (.int .i64 (.ofNat 0)), (.int .i64 (.ofNat 0)), (.int .i64 (.ofNat 0)), (.int .i64 (.ofNat 0)), (.int .i64 (.ofNat 0)), (.int .i64 (.ofNat 0)), (.int .i64 (.ofNat 0)), (.int .i64 (.ofNat 0)), (.int .i64 (.ofNat 0)), (.int .i64 (.ofNat 0)), (.int .i64 (.ofNat 0)), (.int .i64 (.ofNat 0)), (.int .i64 (.ofNat 0)), (.int .i64 (.ofNat 0)), (.int .i64 (.ofNat 0)), (.int .i64 (.ofNat 0)), (.int .i64 (.ofNat 0)), (.int .i64 (.ofNat 0)), (.int .i64 (.ofNat 0)), (.int .i64 (.ofNat 0)), (.int .i64 (.ofNat 0)), (.int .i64 (.ofNat 0)), (.int .i64 (.ofNat 0)), (.int .i64 (.ofNat 0)), (.int .i64 (.ofNat 0)), (.int .i64 (.ofNat 0)), (.int .i64 (.ofNat 0)), (.int .i64 (.ofNat 0)), (.int .i64 (.ofNat 0)), (.int .i64 (.ofNat 0)), (.int .i64 (.ofNat 0))])⟩),
  (241, ⟨(.struct [(0, 9), (1, 239), (257, 238)]), 258, (.agg [(.str 0 0), (.int .i64 (.ofNat 0)), (.int .i64 (.ofNat 0)), (.int .i64 (.ofNat 0)), (.int .i64 (.ofNat 0)), (.int .i64 (.ofNat 0)), (.int .i64 (.ofNat 0)), (.int .i64 (.ofNat 0)), (.int .i64 (.ofNat 0)), (.int .i64 (.ofNat 0)), (.int .i64 (.ofNat 0)), (.int .i64 (.ofNat 0)), (.int .i64 (.ofNat 0)), (.int .i64 (.ofNat 0)), (.int .i64 (.ofNat 0)), (.int .i64 (.ofNat 0)), (.int .i64 (.ofNat 0)), (.int .i64 (.ofNat 0)), (.int .i64 (.ofNat 0)), (.int .i64 (.ofNat 0)), (.int .i64 (.ofNat 0)), (.int .i64 (.ofNat 0)), (.int .i64 (.ofNat 0)), (.int .i64 (.ofNat 0)), (.int .i64 (.ofNat 0)), (.int .i64 (.ofNat 0)), (.int .i64 (.ofNat 0)), (.int .i64 (.ofNat 0)), (.int .i64 (.ofNat 0)), (.int .i64 (.ofNat 0)), (.int .i64 (.ofNat 0)), (.int .i64 (.ofNat 0)), (.int .i64 (.ofNat 0)), (.int .i64 (.ofNat 0)), (.int .i64 (.ofNat 0)), (.int .i64 (.ofNat 0)), (.int .i64 (.ofNat 0)), (.int .i64 (.ofNat 0)), (.int .i64 (.ofNat 0)), (.int .i64 (.ofNat 0)), (.int .i64 (.ofNat 0)), (.int .i64 (.ofNat 0)), (.int .i64 (.ofNat 0)), (.int .i64 (.ofNat 0)), (.int .i64 (.ofNat 0)), (.int .i64 (.ofNat 0)), (.int .i64 (.ofNat 0)), (.int .i64 (.ofNat 0)), (.int .i64 (.ofNat 0)), (.int .i64 (.ofNat 0)), (.int .i64 (.ofNat 0)), (.int .i64 (.ofNat 0)), (.int .i64 (.ofNat 0)), (.int .i64 (.ofNat 0)), (.int .i64 (.ofNat 0)), (.int .i64 (.ofNat 0)), (.int .i64 (.ofNat 0)), (.int .i64 (.ofNat 0)), (.int .i64 (.ofNat 0)), (.int .i64 (.ofNat 0)), (.int .i64 (.ofNat 0)), (.int .i64 (.ofNat 0)), (.int .i64 (.ofNat 0)), (.int .i64 (.ofNat 0)), (.int .i64 (.ofNat 0)), (.int .i64 (.ofNat 0)), (.int .i64 (.ofNat 0)), (.int .i64 (.ofNat 0)), (.int .i64 (.ofNat 0)), (.int .i64 (.ofNat 0)), (.int .i64 (.ofNat 0)), (.int .i64 (.ofNat 0)), (.int .i64 (.ofNat 0)), (.int .i64 (.ofNat 0)), (.int .i64 (.ofNat 0)), (.int .i64 (.ofNat 0)), (.int .i64 (.ofNat 0)), (.int .i64 (.ofNat 0)), (.int .i64 (.ofNat 0)), (.int .i64 (.ofNat 0)), (.int .i64 (.ofNat 0)), (.int .i64 (.ofNat 0)), (.int .i64 (.ofNat 0)), (.int .i64 (.ofNat 0)), (.int .i64 (.ofNat 0)), (.int .i64 (.ofNat 0)), (.int .i64 (.ofNat 0)), (.int .i64 (.ofNat 0)), (.int .i64 (.ofNat 0)), (.int .i64 (.ofNat 0)), (.int .i64 (.ofNat 0)), (.int .i64 (.ofNat 0)), (.int .i64 (.ofNat 0)), (.int .i64 (.ofNat 0)), (.int .i64 (.ofNat 0)), (.int .i64 (.ofNat 0)), (.int .i64 (.ofNat 0)), (.int .i64 (.ofNat 0)), (.int .i64 (.ofNat 0)), (.int .i64 (.ofNat 0)), (.int .i64 (.ofNat 0)), (.int .i64 (.ofNat 0)), (.int .i64 (.ofNat 0)), (.int .i64 (.ofNat 0)), (.int .i64 (.ofNat 0)), (.int .i64 (.ofNat 0)), (.int .i64 (.ofNat 0)), (.int .i64 (.ofNat 0)), (.int .i64 (.ofNat 0)), (.int .i64 (.ofNat 0)), (.int .i64 (.ofNat 0)), (.int .i64 (.ofNat 0)), (.int .i64 (.ofNat 0)), (.int .i64 (.ofNat 0)), (.int .i64 (.ofNat 0)), (.int .i64 (.ofNat 0)), (.int .i64 (.ofNat 0)), (.int .i64 (.ofNat 0)), (.int .i64 (.ofNat 0)), (.int .i64 (.ofNat 0)), (.int .i64 (.ofNat 0)), (.int .i64 (.ofNat 0)), (.int .i64 (.ofNat 0)), (.int .i64 (.ofNat 0)), (.int .i64 (.ofNat 0)), (.int .i64 (.ofNat 0)), (.int .i64 (.ofNat 0)), (.int .i64 (.ofNat 0)), (.int .i64 (.ofNat 0)), (.int .i64 (.ofNat 0)), (.int .i64 (.ofNat 0)), (.int .i64 (.ofNat 0)), (.int .i64 (.ofNat 0)), (.int .i64 (.ofNat 0)), (.int .i64 (.ofNat 0)), (.int .i64 (.ofNat 0)), (.int .i64 (.ofNat 0)), (.int .i64 (.ofNat 0)), (.int .i64 (.ofNat 0)), (.int .i64 (.ofNat 0)), (.int .i64 (.ofNat 0)), (.int .i64 (.ofNat 0)), (.int .i64 (.ofNat 0)), (.int .i64 (.ofNat 0)), (.int .i64 (.ofNat 0)), (.int .i64 (.ofNat 0)), (.int .i64 (.ofNat 0)), (.int .i64 (.ofNat 0)), (.int .i64 (.ofNat 0)), (.int .i64 (.ofNat 0)), (.int .i64 (.ofNat 0)), (.int .i64 (.ofNat 0)), (.int .i64 (.ofNat 0)), (.int .i64 (.ofNat 0)), (.int .i64 (.ofNat 0)), (.int .i64 (.ofNat 0)), (.int .i64 (.ofNat 0)), (.int .i64 (.ofNat 0)), (.int .i64 (.ofNat 0)), (.int .i64 (.ofNat 0)), (.int .i64 (.ofNat 0)), (.int .i64 (.ofNat 0)), (.int .i64 (.ofNat 0)), (.int .i64 (.ofNat 0)), (.int .i64 (.ofNat 0)), (.int .i64 (.ofNat 0)), (.int .i64 (.ofNat 0)), (.int .i64 (.ofNat 0)), (.int .i64 (.ofNat 0)), (.int .i64 (.ofNat 0)), (.int .i64 (.ofNat 0)), (.int .i64 (.ofNat 0)), (.int .i64 (.ofNat 0)), (.int .i64 (.ofNat 0)), (.int .i64 (.ofNat 0)), (.int .i64 (.ofNat 0)), (.int .i64 (.ofNat 0)), (.int .i64 (.ofNat 0)), (.int .i64 (.ofNat 0)), (.int .i64 (.ofNat 0)), (.int .i64 (.ofNat 0)), (.int .i64 (.ofNat 0)), (.int .i64 (.ofNat 0)), (.int .i64 (.ofNat 0)), (.int .i64 (.ofNat 0)), (.int .i64 (.ofNat 0)), (.int .i64 (.ofNat 0)), (.int .i64 (.ofNat 0)), (.int .i64 (.ofNat 0)), (.int .i64 (.ofNat 0)), (.int .i64 (.ofNat 0)), (.int .i64 (.ofNat 0)), (.int .i64 (.ofNat 0)), (.int .i64 (.ofNat 0)), (.int .i64 (.ofNat 0)), (.int .i64 (.ofNat 0)), (.int .i64 (.ofNat 0)), (.int .i64 (.ofNat 0)), (.int .i64 (.ofNat 0)), (.int .i64 (.ofNat 0)), (.int .i64 (.ofNat 0)), (.int .i64 (.ofNat 0)), (.int .i64 (.ofNat 0)), (.int .i64 (.ofNat 0)), (.int .i64 (.ofNat 0)), (.int .i64 (.ofNat 0)), (.int .i64 (.ofNat 0)), (.int .i64 (.ofNat 0)), (.int .i64 (.ofNat 0)), (.int .i64 (.ofNat 0)), (.int .i64 (.ofNat 0)), (.int .i64 (.ofNat 0)), (.int .i64 (.ofNat 0)), (.int .i64 (.ofNat 0)), (.int .i64 (.ofNat 0)), (.int .i64 (.ofNat 0)), (.int .i64 (.ofNat 0)), (.int .i64 (.ofNat 0)), (.int .i64 (.ofNat 0)), (.int .i64 (.ofNat 0)), (.int .i64 (.ofNat 0)), (.int .i64 (.ofNat 0)), (.int .i64 (.ofNat 0)), (.int .i64 (.ofNat 0)), (.int .i64 (.ofNat 0)), (.int .i64 (.ofNat 0)), (.int .i64 (.ofNat 0)), (.int .i64 (.ofNat 0)), (.int .i64 (.ofNat 0)), (.int .i64 (.ofNat 0)), (.int .i64 (.ofNat 0)), (.int .i64 (.ofNat 0)), (.int .i64 (.ofNat 0)), (.int .i64 (.ofNat 0)), (.int .i64 (.ofNat 0)), (.int .i64 (.ofNat 0)), (.int .i64 (.ofNat 0)), (.int .i64 (.ofNat 0)), (.int .i64 (.ofNat 0)), (.int .i64 (.ofNat 0)), (.int .i64 (.ofNat 0)), (.int .i64 (.ofNat 0)), (.int .i64 (.ofNat 0)), (.int .i64 (.ofNat 0)), (.int .i64 (.ofNat 0)), (.int .i64 (.ofNat 0)), (.int .i64 (.ofNat 0)), (.int .i64 (.ofNat 0)), (.int .i64 (.ofNat 0)), (.int .i64 (.ofNat 0)), (.int .i64 (.ofNat 0)), (.int .i64 (.ofNat 0)), (.int .i64 (.ofNat 0)), (.int .i64 (.ofNat 0)), (.int .i64 (.ofNat 0)), (.int .i64 (.ofNat 0)), (.int .i64 (.ofNat 0)), .nilSlice])⟩)]
noncomputable def TP : Nat → Option TI := lookT tlP
theorem tlP_all : (tlP.all fun p => tiB Tryz.prog p.1 p.2) = true := by kernel_rfl
theorem TP_ok : TOK Tryz.prog TP := lookT_ok fun p hp => List.all_eq_true.1 tlP_all p hp
end Go.Eng
set_option maxRecDepth 1000000
namespace Go.Eng
open Go.RowKit Go.Proofs
noncomputable def flP : List (Nat × Func) := [(4, Tryz.f4), (6, Tryz.f6), (8, Tryz.f8), (10, Tryz.f10), (11, Tryz.f11), (12, Tryz.f12), (13, Tryz.f13), (14, Tryz.f14), (17, Tryz.f17), (22, Tryz.f22), (23, Tryz.f23), (24, Tryz.f24), (25, Tryz.f25), (27, Tryz.f27), (29, Tryz.f29), (34, Tryz.f34), (35, Tryz.f35), (36, Tryz.f36), (37, Tryz.f37), (38, Tryz.f38), (45, Tryz.f45), (46, Tryz.f46), (48, Tryz.f48), (49, Tryz.f49), (50, Tryz.f50), (61, Tryz.f61), (64, Tryz.f64), (65, Tryz.f65), (66, Tryz.f66), (67, Tryz.f67), (68, Tryz.f68), (69, Tryz.f69), (71, Tryz.f71), (72, Tryz.f72), (73, Tryz.f73), (74, Tryz.f74), (75, Tryz.f75), (76, Tryz.f76), (79, Tryz.f79), (80, Tryz.f80), (81, Tryz.f81), (82, Tryz.f82), (83, Tryz.f83), (84, Tryz.f84), (95, Tryz.f95), (96, Tryz.f96), (97, Tryz.f97), (98, Tryz.f98), (99, Tryz.f99), (100, Tryz.f100), (101, Tryz.f101), (102, Tryz.f102), (105, Tryz.f105), (106, Tryz.f106), (107, Tryz.f107), (108, Tryz.f108), (109, Tryz.f109), (110, Tryz.f110), (111, Tryz.f111), (112, Tryz.f112), (114, Tryz.f114), (128, Tryz.f128), (130, Tryz.f130), (131, Tryz.f131), (133, Tryz.f133), (134, Tryz.f134), (135, Tryz.f135), (136, Tryz.f136), (137, Tryz.f137), (140, Tryz.f140), (155, Tryz.f155), (157, Tryz.f157), (158, Tryz.f158), (159, Tryz.f159), (171, Tryz.f171), (183, Tryz.f183), (192, Tryz.f192), (193, Tryz.f193), (56, Tryz.f56), (91, Tryz.f91), (92, Tryz.f92), (125, Tryz.f125), (126, Tryz.f126), (127, Tryz.f127), (150, Tryz.f150), (151, Tryz.f151), (152, Tryz.f152), (167, Tryz.f167)]
theorem flP_ok : ∀ p ∈ flP, Tryz.prog.funcs[p.1]? = some p.2 := by
  simp only [flP, List.forall_mem_cons]
  exact ⟨Tryz.func4, Tryz.func6, Tryz.func8, Tryz.func10, Tryz.func11, Tryz.func12, Tryz.func13, Tryz.func14, Tryz.func17, Tryz.func22, Tryz.func23, Tryz.func24, Tryz.func25, Tryz.func27, Tryz.func29, Tryz.func34, Tryz.func35, Tryz.func36, Tryz.func37, Tryz.func38, Tryz.func45, Tryz.func46, Tryz.func48, Tryz.func49, Tryz.func50, Tryz.func61, Tryz.func64, Tryz.func65, Tryz.func66, Tryz.func67, Tryz.func68, Tryz.func69, Tryz.func71, Tryz.func72, Tryz.func73, Tryz.func74, Tryz.func75, Tryz.func76, Tryz.func79, Tryz.func80, Tryz.func81, Tryz.func82, Tryz.func83, Tryz.func84, Tryz.func95, Tryz.func96, Tryz.func97, Tryz.func98, Tryz.func99, Tryz.func100, Tryz.func101, Tryz.func102, Tryz.func105, Tryz.func106, Tryz.func107, Tryz.func108, Tryz.func109, Tryz.func110, Tryz.func111, Tryz.func112, Tryz.func114, Tryz.func128, Tryz.func130, Tryz.func131, Tryz.func133, Tryz.func134, Tryz.func135, Tryz.func136, Tryz.func137, Tryz.func140, Tryz.func155, Tryz.func157, Tryz.func158, Tryz.func159, Tryz.func171, Tryz.func183, Tryz.func192, Tryz.func193, Tryz.func56, Tryz.func91, Tryz.func92, Tryz.func125, Tryz.func126, Tryz.func127, Tryz.func150, Tryz.func151, Tryz.func152, Tryz.func167, fun p hp => by cases hp⟩
noncomputable def poP : PO := ⟨[], fun _ _ => none, fun f => memN f [192, 193]⟩
theorem mixP : Tryz.prog.follows .mixedOrders = true := by kernel_rfl
theorem enters192 : Enters Tryz.prog 192 := enters_of Tryz.func192 (by kernel_rfl) (by kernel_rfl)
theorem enters193 : Enters Tryz.prog 193 := enters_of Tryz.func193 (by kernel_rfl) (by kernel_rfl)
theorem entP : ∀ (l : List Nat) (f : Nat), memN f l = true → f ∈ l
  | [], f, h => by cases h
  | x :: l, f, h => by
    have h' : ifb (Nat.beq f x) true (memN f l) = true := h
    cases e : Nat.beq f x with
    | true => rw [Nat.eq_of_beq_eq_true e]; exact List.mem_cons_self
    | false => rw [e] at h'; exact List.mem_cons_of_mem _ (entP l f h')
theorem pokP {K : Ctx} : POK Tryz.prog K poP := ⟨fun t ht => (by cases ht), fun op vs z h => (by cases h), fun f h => by
  have := entP _ f (show memN f [192, 193] = true from h)
  simp only [List.mem_cons, List.mem_nil_iff, or_false] at this
  rcases this with rfl | rfl
  · exact ⟨enters192, by decide⟩
  · exact ⟨enters193, by decide⟩⟩
noncomputable def FnP (ng : Nat) : Nat → Option AFun := funs ng cstA TP poP (fun _ => false) flP
theorem funsP {K : Ctx} {ng : Nat} (hK : K.codes = codesOf Tryz.prog) : ∀ f fn, FnP ng f = some fn → FunOK Tryz.prog K ng f fn := funs_ok cst_ok TP_ok pokP mixP hK flP_ok
end Go.Eng
set_option maxHeartbeats 800000
namespace Go.Eng
open Go.RowKit Go.Proofs
theorem keq_eq {a b : IntKind} (h : keq a b = true) : a = b := by
  cases a <;> cases b <;> first | rfl | (exact absurd h (by decide))
noncomputable def byteV (l : List Value) (k : Nat) : Nat := match l[k]? with | some (.int _ n) => n.toNat | _ => 0
theorem ieq_beq (a b : Int) : ieq a b = (a == b) := by
  cases a with
  | ofNat m => cases b with
    | ofNat n =>
      show Nat.beq m n = _
      rw [Bool.eq_iff_iff, beq_iff_eq, Nat.beq_eq]
      exact ⟨fun h => by rw [h], fun h => Int.ofNat.inj h⟩
    | negSucc n => rfl
  | negSucc m => cases b with
    | ofNat n => rfl
    | negSucc n =>
      show Nat.beq m n = _
      rw [Bool.eq_iff_iff, beq_iff_eq, Nat.beq_eq]
      exact ⟨fun h => by rw [h], fun h => Int.negSucc.inj h⟩
section
variable {P : Program} {K : Ctx} {ng : Nat} {σ : Env} {own : Owns} {h : AHeap} {w : World}
theorem HR.store1 (H : HR K σ own h w) {b : Pos} {loc : Loc} (hb : σ b = some loc) {off : Nat} {x : AV} {v : Value} {h' : AHeap} (hv : VR K σ x v) (hs : h.storeN b off [x] = some h') :
    ∃ u, w.cell? ⟨loc.B, loc.o + off, none⟩ = some u ∧ w.frozen? ⟨loc.B, loc.o + off, none⟩ = false ∧ HR K σ own h' (w.setCell ⟨loc.B, loc.o + off, none⟩ v) ∧ h'.next = h.next := by
  obtain ⟨w', i1, i2, i3⟩ := H.storeN (P := default) hb (VRs.cons hv VRs.nil) hs
  obtain ⟨g, ro, r, h1, h2⟩ := onRow_some hs
  cases ro with
  | true => cases h2
  | false =>
    obtain ⟨r', h3, h4⟩ := onSome_eq (show onSome (Row.sets [x] off r) (fun r' => some (h.putRow b g r')) none = some h' from h2)
    obtain ⟨r1, h5, _⟩ := onSome_eq (show onSome (r.set off x) (fun r' => some r') none = some r' from h3)
    have hB := H.obj b loc hb
    rw [h1] at hB
    obtain ⟨R, hlt, hro, -⟩ := hB
    obtain ⟨hown, hfz⟩ := hro rfl
    obtain ⟨s1, s2, s3, s4, s5⟩ := Row.set_spec R.wf h5
    obtain ⟨u, hu⟩ := R.cell off (by have := R.cap; omega)
    obtain ⟨n1, n2⟩ := VR.isCell s4 hv
    have hf : w.frozen? ⟨loc.B, loc.o + off, none⟩ = false := hfz.frozen hu
    rw [run_storeCells_cons n1 n2 (by rw [add_none]; exact hu) (by rw [add_none]; exact hf), add_none] at i1
    have : w.setCell ⟨loc.B, loc.o + off, none⟩ v = w' := by
      simpa [storeCells] using i1
    subst this
    exact ⟨u, hu, hf, i2, i3⟩
noncomputable def loadI (k : IntKind) : Known := fun args h =>
  match args with
  | [x] => x.onPtr (fun b o => onSome (h.load1 b o) (fun v => v.onInt (fun k' n => ifb (keq k' k) (.ok (.int k' n, h)) .fail) .fail) .fail) .fail
  | _ => .fail
noncomputable def storeI : Known := fun args h =>
  match args with
  | [x, y] => x.onPtr (fun b o => y.onInt (fun k n => onSome (h.storeN b o [.int k n]) (fun h' => .ok (.tup [], h')) .fail) .fail) .fail
  | _ => .fail
noncomputable def casI (k : IntKind) : Known := fun args h =>
  match args with
  | [x, y, z] => x.onPtr (fun b o => y.onInt (fun k1 m => z.onInt (fun k2 n => ifb (keq k1 k) (ifb (keq k2 k) (onSome (h.load1 b o) (fun v => v.onInt (fun k' c => ifb (keq k' k)
      (ifb (ieq c m) (onSome (h.storeN b o [.int k n]) (fun h' => .ok (.bool true, h')) .fail) .fail) .fail) .fail) .fail) .fail) .fail) .fail) .fail) .fail
  | _ => .fail
noncomputable def addI (k : IntKind) : Known := fun args h =>
  match args with
  | [x, y] => x.onPtr (fun b o => y.onInt (fun k1 m => ifb (keq k1 k) (onSome (h.load1 b o) (fun v => v.onInt (fun k' c => ifb (keq k' k)
      (onSome (h.storeN b o [.int k (wrapN k (iadd c m))]) (fun h' => .ok (.int k (wrapN k (iadd c m)), h')) .fail) .fail) .fail) .fail) .fail) .fail) .fail
  | _ => .fail
noncomputable def markI0 : Known := fun args h => match args with | [] => .ok (.tup [], h) | _ => .fail
noncomputable def markI1 : Known := fun args h => match args with | [x] => x.onPtr (fun _ _ => .ok (.tup [], h)) .fail | _ => .fail
structure Ext (P : Program) (f : Nat) (fn : Func) (e : Array Value → Sem Value) : Prop where
  f : P.funcs[f]? = some fn
  n : (fn.name == "runtime.NumGoroutine") = false
  b : fn.body.isNone = true
  x : Extern.findNext fn = none
  e : Extern.find fn = some e
theorem onPtr_nf {α : Type} {x : AV} {f : Pos → Nat → Out α} (h : x.onPtr f .fail ≠ .fail) : ∃ b o, x = .ptr b o ∧ f b o ≠ .fail := by
  cases x <;> first | exact ⟨_, _, rfl, h⟩ | exact absurd rfl h
theorem onInt_nf {α : Type} {x : AV} {f : IntKind → Int → Out α} (h : x.onInt f .fail ≠ .fail) : ∃ k n, x = .int k n ∧ f k n ≠ .fail := by
  cases x <;> first | exact ⟨_, _, rfl, h⟩ | exact absurd rfl h
theorem ifb_nf {α : Type} {c : Bool} {x : Out α} (h : ifb c x .fail ≠ .fail) : c = true ∧ x ≠ .fail := by
  cases c
  · exact absurd rfl h
  · exact ⟨rfl, h⟩
theorem onSome_nf {α β : Type} {x : Option β} {f : β → Out α} (h : onSome x f .fail ≠ .fail) : ∃ y, x = some y ∧ f y ≠ .fail := by
  cases x
  · exact absurd rfl h
  · exact ⟨_, rfl, h⟩
theorem loadI_ok {f : Nat} {fn : Func} {k : IntKind} (E : Ext P f fn (Extern.Atomic.loadT (.int k))) : KnownOK P K ng f (loadI k) := by
  intro σ own w h args cargs hg hH ha hf
  obtain ⟨cl⟩ := cargs
  simp only at ha
  match args, cl, ha, hf with
  | [], _, _, hf => exact absurd rfl hf
  | _ :: _ :: _, _, _, hf => exact absurd rfl hf
  | [x], _, ⟨vx, _, rfl, h1, h2⟩, hf =>
    have h2 : _ = [] := h2
    subst h2
    obtain ⟨b, o, rfl, hf⟩ := onPtr_nf (show (x.onPtr (fun b o => onSome (h.load1 b o) (fun v => v.onInt (fun k' n => ifb (keq k' k) (.ok (AV.int k' n, h)) .fail) .fail) .fail) .fail : Out (AV × AHeap)) ≠ .fail from hf)
    obtain ⟨v, hl, hf⟩ := onSome_nf hf
    obtain ⟨k', n, rfl, hf⟩ := onInt_nf hf
    obtain ⟨hk, hf⟩ := ifb_nf hf
    cases keq_eq hk
    obtain ⟨l, hb, rfl⟩ := h1
    obtain ⟨c, hc, hv⟩ := hH.load1 hb hl
    have hv : c = .int k n := hv
    subst hv
    have e : loadI k [.ptr b o] h = .ok (.int k n, h) := by
      show onSome (h.load1 b o) _ _ = _
      rw [hl]
      show ifb (keq k k) _ _ = _
      rw [hk]; rfl
    rw [e]
    exact .inr ⟨_, _, run_call_load E.f E.n E.b E.x k E.e hc, _, rfl, σ, own, rfl, Grow.refl _ _, hH⟩
theorem storeI_ok {f : Nat} {fn : Func} (E : Ext P f fn Extern.Atomic.storeT) : KnownOK P K ng f storeI := by
  intro σ own w h args cargs hg hH ha hf
  obtain ⟨cl⟩ := cargs
  simp only at ha
  match args, cl, ha, hf with
  | [], _, _, hf => exact absurd rfl hf
  | [_], _, _, hf => exact absurd rfl hf
  | _ :: _ :: _ :: _, _, _, hf => exact absurd rfl hf
  | [x, y], _, ⟨vx, _, rfl, h1, vy, _, rfl, h2, h3⟩, hf =>
    have h3 : _ = [] := h3
    subst h3
    obtain ⟨b, o, rfl, hf⟩ := onPtr_nf (show (x.onPtr (fun b o => y.onInt (fun k n => onSome (h.storeN b o [.int k n]) (fun h' => .ok (AV.tup [], h')) .fail) .fail) .fail : Out (AV × AHeap)) ≠ .fail from hf)
    obtain ⟨k, n, rfl, hf⟩ := onInt_nf hf
    obtain ⟨h', hs, hf⟩ := onSome_nf hf
    obtain ⟨l, hb, rfl⟩ := h1
    have h2 : vy = .int k n := h2
    subst h2
    obtain ⟨u, s1, s2, s3, s4⟩ := hH.store1 hb (x := .int k n) rfl hs
    have e : storeI [.ptr b o, .int k n] h = .ok (.tup [], h') := by
      show onSome (h.storeN b o [.int k n]) _ _ = _
      rw [hs]; rfl
    rw [e]
    exact .inr ⟨_, _, run_call_store E.f E.n E.b E.x E.e s1 s2, _, rfl, σ, own, ⟨#[], rfl, VRs.nil⟩, ⟨Env.le.refl _, fun _ _ => rfl, by rw [s4]; exact Nat.le_refl _⟩, s3⟩
theorem casI_ok {f : Nat} {fn : Func} {k : IntKind} (E : Ext P f fn (Extern.Atomic.casT (.int k))) : KnownOK P K ng f (casI k) := by
  intro σ own w h args cargs hg hH ha hf
  obtain ⟨cl⟩ := cargs
  simp only at ha
  match args, cl, ha, hf with
  | [], _, _, hf => exact absurd rfl hf
  | [_], _, _, hf => exact absurd rfl hf
  | [_, _], _, _, hf => exact absurd rfl hf
  | _ :: _ :: _ :: _ :: _, _, _, hf => exact absurd rfl hf
  | [x, y, z], _, ⟨vx, _, rfl, h1, vy, _, rfl, h2, vz, _, rfl, h3, h4⟩, hf =>
    have h4 : _ = [] := h4
    subst h4
    obtain ⟨b, o, rfl, hf⟩ := onPtr_nf (show (x.onPtr (fun b o => y.onInt (fun k1 m => z.onInt (fun k2 n => ifb (keq k1 k) (ifb (keq k2 k) (onSome (h.load1 b o) (fun v => v.onInt (fun k' c => ifb (keq k' k)
      (ifb (ieq c m) (onSome (h.storeN b o [.int k n]) (fun h' => .ok (.bool true, h')) .fail) .fail) .fail) .fail) .fail) .fail) .fail) .fail) .fail) .fail : Out (AV × AHeap)) ≠ .fail from hf)
    obtain ⟨k1, m, rfl, hf⟩ := onInt_nf hf
    obtain ⟨k2, n, rfl, hf⟩ := onInt_nf hf
    obtain ⟨e1, hf⟩ := ifb_nf hf
    obtain ⟨e2, hf⟩ := ifb_nf hf
    obtain ⟨v, hl, hf⟩ := onSome_nf hf
    obtain ⟨k', c, rfl, hf⟩ := onInt_nf hf
    obtain ⟨e3, hf⟩ := ifb_nf hf
    obtain ⟨e4, hf⟩ := ifb_nf hf
    obtain ⟨h', hs, hf⟩ := onSome_nf hf
    cases keq_eq e1
    cases keq_eq e2
    cases keq_eq e3
    have e5 : c = m := by rw [ieq_beq] at e4; simpa using e4
    subst e5
    obtain ⟨l, hb, rfl⟩ := h1
    have h2 : vy = .int k c := h2
    subst h2
    have h3 : vz = .int k n := h3
    subst h3
    obtain ⟨cc, hc, hv⟩ := hH.load1 hb hl
    have hv : cc = .int k c := hv
    subst hv
    obtain ⟨u, s1, s2, s3, s4⟩ := hH.store1 hb (x := .int k n) rfl hs
    have e : casI k [.ptr b o, .int k c, .int k n] h = .ok (.bool true, h') := by
      show ifb (keq k k) (ifb (keq k k) (onSome (h.load1 b o) _ _) _) _ = _
      rw [hl, e1]
      show ifb (keq k k) (ifb (ieq c c) (onSome (h.storeN b o [.int k n]) _ _) _) _ = _
      rw [hs, e4, e1]; rfl
    rw [e]
    exact .inr ⟨_, _, run_call_cas_hit E.f E.n E.b E.x k E.e hc s2, _, rfl, σ, own, rfl, ⟨Env.le.refl _, fun _ _ => rfl, by rw [s4]; exact Nat.le_refl _⟩, s3⟩
theorem addI_ok {f : Nat} {fn : Func} {k : IntKind} (E : Ext P f fn (Extern.Atomic.update (Op.intArith .add) k true)) : KnownOK P K ng f (addI k) := by
  intro σ own w h args cargs hg hH ha hf
  obtain ⟨cl⟩ := cargs
  simp only at ha
  match args, cl, ha, hf with
  | [], _, _, hf => exact absurd rfl hf
  | [_], _, _, hf => exact absurd rfl hf
  | _ :: _ :: _ :: _, _, _, hf => exact absurd rfl hf
  | [x, y], _, ⟨vx, _, rfl, h1, vy, _, rfl, h2, h3⟩, hf =>
    have h3 : _ = [] := h3
    subst h3
    obtain ⟨b, o, rfl, hf⟩ := onPtr_nf (show (x.onPtr (fun b o => y.onInt (fun k1 m => ifb (keq k1 k) (onSome (h.load1 b o) (fun v => v.onInt (fun k' c => ifb (keq k' k)
      (onSome (h.storeN b o [.int k (wrapN k (iadd c m))]) (fun h' => .ok (.int k (wrapN k (iadd c m)), h')) .fail) .fail) .fail) .fail) .fail) .fail) .fail : Out (AV × AHeap)) ≠ .fail from hf)
    obtain ⟨k1, m, rfl, hf⟩ := onInt_nf hf
    obtain ⟨e1, hf⟩ := ifb_nf hf
    obtain ⟨v, hl, hf⟩ := onSome_nf hf
    obtain ⟨k', c, rfl, hf⟩ := onInt_nf hf
    obtain ⟨e3, hf⟩ := ifb_nf hf
    obtain ⟨h', hs, hf⟩ := onSome_nf hf
    cases keq_eq e1
    cases keq_eq e3
    obtain ⟨l, hb, rfl⟩ := h1
    have h2 : vy = .int k m := h2
    subst h2
    obtain ⟨cc, hc, hv⟩ := hH.load1 hb hl
    have hv : cc = .int k c := hv
    subst hv
    obtain ⟨u, s1, s2, s3, s4⟩ := hH.store1 hb (x := .int k (wrapN k (iadd c m))) rfl hs
    have e : addI k [.ptr b o, .int k m] h = .ok (.int k (wrapN k (iadd c m)), h') := by
      show ifb (keq k k) (onSome (h.load1 b o) _ _) _ = _
      rw [hl, e1]
      show ifb (keq k k) (onSome (h.storeN b o _) _ _) _ = _
      rw [hs, e1]; rfl
    rw [e]
    have hadd : (Op.intArith .add k c m).run P w = .ok (.int k (wrapN k (iadd c m))) w := by
      rw [wrapN_eq, iadd_eq]; rfl
    exact .inr ⟨_, _, run_call_add E.f E.n E.b E.x k E.e hc s2 hadd, _, rfl, σ, own, rfl, ⟨Env.le.refl _, fun _ _ => rfl, by rw [s4]; exact Nat.le_refl _⟩, s3⟩
theorem markI0_ok {f : Nat} {fn : Func} {m : Mark} (E : Ext P f fn (fun _ => do mark m; pure Extern.Race.none_)) : KnownOK P K ng f markI0 := by
  intro σ own w h args cargs hg hH ha hf
  obtain ⟨cl⟩ := cargs
  simp only at ha
  match args, cl, ha, hf with
  | _ :: _, _, _, hf => exact absurd rfl hf
  | [], _, ha, hf =>
    have ha : _ = [] := ha
    subst ha
    exact .inr ⟨_, _, run_call_mark0 E.f E.n E.b E.x m E.e w, _, rfl, σ, own, ⟨#[], rfl, VRs.nil⟩, Grow.refl _ _, hH⟩
theorem markI1_ok {f : Nat} {fn : Func} {m : Addr → Mark} (E : Ext P f fn (Extern.Race.marked m)) : KnownOK P K ng f markI1 := by
  intro σ own w h args cargs hg hH ha hf
  obtain ⟨cl⟩ := cargs
  simp only at ha
  match args, cl, ha, hf with
  | [], _, _, hf => exact absurd rfl hf
  | _ :: _ :: _, _, _, hf => exact absurd rfl hf
  | [x], _, ⟨vx, _, rfl, h1, h2⟩, hf =>
    have h2 : _ = [] := h2
    subst h2
    obtain ⟨b, o, rfl, hf⟩ := onPtr_nf (show (x.onPtr (fun _ _ => .ok (.tup [], h)) .fail : Out (AV × AHeap)) ≠ .fail from hf)
    obtain ⟨l, hb, rfl⟩ := h1
    exact .inr ⟨_, _, run_call_marked E.f E.n E.b E.x m E.e _ w, _, rfl, σ, own, ⟨#[], rfl, VRs.nil⟩, Grow.refl _ _, hH⟩
end
theorem ext149 : Ext Tryz.prog 149 Tryz.f149 (Extern.Atomic.loadT (.int .u32)) := ⟨Tryz.func149, by kernel_rfl, by kernel_rfl, by kernel_rfl, by kernel_rfl⟩
theorem ext166 : Ext Tryz.prog 166 Tryz.f166 Extern.Atomic.storeT := ⟨Tryz.func166, by kernel_rfl, by kernel_rfl, by kernel_rfl, by kernel_rfl⟩
theorem ext178 : Ext Tryz.prog 178 Tryz.f178 (Extern.Atomic.update (Op.intArith .add) .i32 true) := ⟨Tryz.func178, by kernel_rfl, by kernel_rfl, by kernel_rfl, by kernel_rfl⟩
theorem ext173 : Ext Tryz.prog 173 Tryz.f173 (Extern.Atomic.casT (.int .i32)) := ⟨Tryz.func173, by kernel_rfl, by kernel_rfl, by kernel_rfl, by kernel_rfl⟩
theorem ext172 : Ext Tryz.prog 172 Tryz.f172 (fun _ => do mark .disable; pure Extern.Race.none_) := ⟨Tryz.func172, by kernel_rfl, by kernel_rfl, by kernel_rfl, by kernel_rfl⟩
theorem ext174 : Ext Tryz.prog 174 Tryz.f174 (fun _ => do mark .enable; pure Extern.Race.none_) := ⟨Tryz.func174, by kernel_rfl, by kernel_rfl, by kernel_rfl, by kernel_rfl⟩
theorem ext175 : Ext Tryz.prog 175 Tryz.f175 (Extern.Race.marked .acquire) := ⟨Tryz.func175, by kernel_rfl, by kernel_rfl, by kernel_rfl, by kernel_rfl⟩
theorem ext177 : Ext Tryz.prog 177 Tryz.f177 (Extern.Race.marked .releaseMerge) := ⟨Tryz.func177, by kernel_rfl, by kernel_rfl, by kernel_rfl, by kernel_rfl⟩
theorem disable_run (w : World) : (callFunc 172 #[]).run Tryz.prog w = .ok (.value (.tuple #[])) w := run_call_mark0 ext172.f ext172.n ext172.b ext172.x .disable ext172.e w
theorem enable_run (w : World) : (callFunc 174 #[]).run Tryz.prog w = .ok (.value (.tuple #[])) w := run_call_mark0 ext174.f ext174.n ext174.b ext174.x .enable ext174.e w
theorem acquire_run (a : Addr) (w : World) : (callFunc 175 #[.pointer (some a)]).run Tryz.prog w = .ok (.value (.tuple #[])) w := run_call_marked ext175.f ext175.n ext175.b ext175.x .acquire ext175.e a w
theorem merge_run (a : Addr) (w : World) : (callFunc 177 #[.pointer (some a)]).run Tryz.prog w = .ok (.value (.tuple #[])) w := run_call_marked ext177.f ext177.n ext177.b ext177.x .releaseMerge ext177.e a w
theorem room137 : (Tryz.prog.info? 137).map (fun i => decide (i.size = 0)) = some false := by kernel_rfl
theorem iunlock_held (a : Addr) (w : World) (hc : w.cell? a = some (.int .i32 1)) (hz : w.frozen? a = false) :
    Calls Tryz.prog 165 #[.pointer (some a)] w fun e w' => e = .returned (.tuple #[]) ∧ w' = w.setCell a (.int .i32 0) := by
  have hd := disable_run
  have he := enable_run
  have hr := merge_run
  have hcv := run_convert_to_unsafe (P := Tryz.prog) (src := 232) (dst := 163) Tryz.underlying232 Tryz.underlying163 room137 hc
  have hadd := run_call_add (P := Tryz.prog) ext178.f ext178.n ext178.b ext178.x .i32 ext178.e (y := -1) (s := 0) hc hz (by simp [go_sem]; rfl)
  go_enter Tryz.func165, Tryz.ntmps165
  go_wp2
  go_end0
  exact ⟨rfl, rfl⟩
theorem ilock_free (a : Addr) (w : World) (hc : w.cell? a = some (.int .i32 0)) (hz : w.frozen? a = false) :
    Calls Tryz.prog 164 #[.pointer (some a)] w fun e w' => e = .returned (.tuple #[]) ∧ w' = w.setCell a (.int .i32 1) := by
  have hd := disable_run
  have he := enable_run
  have hr := acquire_run
  have hc2 : (w.setCell a (.int .i32 1)).cell? a = some (.int .i32 1) := by simp [go_sem, hc]
  have hcv := run_convert_to_unsafe (P := Tryz.prog) (src := 232) (dst := 163) Tryz.underlying232 Tryz.underlying163 room137 hc2
  have hcas := run_call_cas_hit (P := Tryz.prog) ext173.f ext173.n ext173.b ext173.x .i32 ext173.e (y := 1) hc hz
  go_enter Tryz.func164, Tryz.ntmps164
  go_wp2
  refine bodyPost_ret (results_none rfl _ _ _) rfl ?_
  exact ⟨rfl, rfl⟩
noncomputable def turnI (x y : Nat) : Known := fun args h =>
  match args with
  | [p] => p.onPtr (fun b o => onSome (h.load1 b o) (fun v => v.onInt (fun k n => ifb (keq k .i32) (ifb (ieq n (.ofNat x)) (onSome (h.storeN b o [.int .i32 (.ofNat y)]) (fun h' => .ok (.tup [], h')) .fail) .fail) .fail) .fail) .fail) .fail
  | _ => .fail
theorem turnI_ok {K : Ctx} {ng f x y : Nat} (hE : Enters Tryz.prog f) (hc : ∀ (a : Addr) (w : World), w.cell? a = some (.int .i32 (.ofNat x)) → w.frozen? a = false → Calls Tryz.prog f #[.pointer (some a)] w fun e w' => e = .returned (.tuple #[]) ∧ w' = w.setCell a (.int .i32 (.ofNat y))) :
    KnownOK Tryz.prog K ng f (turnI x y) := by
  intro σ own w h args cargs hg hH ha hf
  obtain ⟨cl⟩ := cargs
  simp only at ha
  match args, cl, ha, hf with
  | [], _, _, hf => exact absurd rfl hf
  | _ :: _ :: _, _, _, hf => exact absurd rfl hf
  | [p], _, ⟨vx, _, rfl, h1, h2⟩, hf =>
    have h2 : _ = [] := h2
    subst h2
    obtain ⟨b, o, rfl, hf⟩ := onPtr_nf (show (p.onPtr (fun b o => onSome (h.load1 b o) (fun v => v.onInt (fun k n => ifb (keq k .i32) (ifb (ieq n (.ofNat x)) (onSome (h.storeN b o [.int .i32 (.ofNat y)]) (fun h' => .ok (.tup [], h')) .fail) .fail) .fail) .fail) .fail) .fail : Out (AV × AHeap)) ≠ .fail from hf)
    obtain ⟨v, hl, hf⟩ := onSome_nf hf
    obtain ⟨k, n, rfl, hf⟩ := onInt_nf hf
    obtain ⟨e1, hf⟩ := ifb_nf hf
    obtain ⟨e2, hf⟩ := ifb_nf hf
    obtain ⟨h', hs, hf⟩ := onSome_nf hf
    cases keq_eq e1
    have e5 : n = .ofNat x := by rw [ieq_beq] at e2; simpa using e2
    subst e5
    obtain ⟨l, hb, rfl⟩ := h1
    obtain ⟨cc, hcc, hv⟩ := hH.load1 hb hl
    have hv : cc = .int .i32 (.ofNat x) := hv
    subst hv
    obtain ⟨u, s1, s2, s3, s4⟩ := hH.store1 hb (x := .int .i32 (.ofNat y)) rfl hs
    have e : turnI x y [.ptr b o] h = .ok (.tup [], h') := by
      have e6 : turnI x y [.ptr b o] h = onSome (h.load1 b o) (fun v => v.onInt (fun k n => ifb (keq k .i32) (ifb (ieq n (.ofNat x)) (onSome (h.storeN b o [.int .i32 (.ofNat y)]) (fun h' => .ok (.tup [], h')) .fail) .fail) .fail) .fail) .fail := rfl
      rw [e6, hl]
      show ifb (keq .i32 .i32) (ifb (ieq (.ofNat x) (.ofNat x)) (onSome (h.storeN b o [.int .i32 (.ofNat y)]) (fun h' => .ok (.tup [], h')) .fail) .fail) .fail = Out.ok (AV.tup [], h')
      rw [hs, e1, e2]; rfl
    rw [e]
    refine .inl ⟨hE, (hc _ w hcc s2).mono ?_⟩
    rintro e w' ⟨rfl, rfl⟩
    exact ⟨_, rfl, σ, own, ⟨#[], rfl, VRs.nil⟩, ⟨Env.le.refl _, fun _ _ => rfl, by rw [s4]; exact Nat.le_refl _⟩, s3⟩
theorem enters164 : Enters Tryz.prog 164 := enters_of Tryz.func164 (by kernel_rfl) (by kernel_rfl)
theorem enters165 : Enters Tryz.prog 165 := enters_of Tryz.func165 (by kernel_rfl) (by kernel_rfl)
theorem lockI_ok {K : Ctx} {ng : Nat} : KnownOK Tryz.prog K ng 164 (turnI 0 1) := turnI_ok enters164 ilock_free
theorem unlockI_ok {K : Ctx} {ng : Nat} : KnownOK Tryz.prog K ng 165 (turnI 1 0) := turnI_ok enters165 iunlock_held
end Go.Eng
