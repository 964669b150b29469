/- What the functions of the program compute, each as a contract: the conditions stand in each statement. -/
import Derived.Test.YtajnbdjipmckpaaProg
import Derived.Test.YtajnbdjipmckpaaPmG2
import Derived.KernelRfl
import Derived.Test.YtajnbdjipmckpaaPmG3
import Derived.Laws.Externs
set_option linter.all false
section
/- The table of types (printed by gen_tab.py). -/
namespace Go.Proofs
open Go.Pm
set_option maxRecDepth 100000
def Try.tyL : List (TypeId × Ty) := [
  (1, ⟨.func, 1, 8, .nilfn, false, false⟩),
  (2, ⟨.int .i64, 1, 8, .int .i64 0, true, false⟩),
  (3, ⟨.int .i64, 1, 8, .int .i64 0, true, false⟩),
  (4, ⟨.bool, 1, 1, .bool false, true, false⟩),
  (5, ⟨.int .u8, 1, 1, .int .u8 0, true, false⟩),
  (6, ⟨.int .u8, 1, 1, .int .u8 0, true, false⟩),
  (7, ⟨.struct [(2, 0), (3, 1), (4, 2), (6, 3)], 4, 24, .agg [.int .i64 0, .int .i64 0, .bool false, .int .u8 0], true, false⟩),
  (8, ⟨.struct [(2, 0), (3, 1), (4, 2), (6, 3)], 4, 24, .agg [.int .i64 0, .int .i64 0, .bool false, .int .u8 0], true, false⟩),
  (9, ⟨.str, 1, 16, .str [], true, false⟩),
  (10, ⟨.str, 1, 16, .str [], true, false⟩),
  (11, ⟨.str, 1, 16, .str [], true, false⟩),
  (12, ⟨.int .u64, 1, 8, .int .u64 0, true, false⟩),
  (13, ⟨.struct [(9, 0), (12, 1)], 2, 24, .agg [.str [], .int .u64 0], true, false⟩),
  (14, ⟨.struct [(9, 0), (12, 1)], 2, 24, .agg [.str [], .int .u64 0], true, false⟩),
  (15, ⟨.ptr 158, 1, 8, .nilp, true, false⟩),
  (16, ⟨.ptr 161, 1, 8, .nilp, true, false⟩),
  (17, ⟨.ptr 169, 1, 8, .nilp, true, false⟩),
  (18, ⟨.struct [(17, 0)], 1, 8, .agg [.nilp], true, false⟩),
  (19, ⟨.struct [(17, 0)], 1, 8, .agg [.nilp], true, false⟩),
  (20, ⟨.iface true, 1, 16, .nili, true, false⟩),
  (21, ⟨.int .i32, 1, 4, .int .i32 0, true, false⟩),
  (22, ⟨.slice 42, 1, 24, .nils, false, false⟩),
  (23, ⟨.struct [(22, 0)], 1, 24, .agg [.nils], false, false⟩),
  (24, ⟨.struct [(22, 0)], 1, 24, .agg [.nils], false, false⟩),
  (25, ⟨.func, 1, 8, .nilfn, false, false⟩),
  (26, ⟨.func, 1, 8, .nilfn, false, false⟩),
  (27, ⟨.func, 1, 8, .nilfn, false, false⟩),
  (28, ⟨.slice 70, 1, 24, .nils, false, false⟩),
  (29, ⟨.func, 1, 8, .nilfn, false, false⟩),
  (30, ⟨.func, 1, 8, .nilfn, false, false⟩),
  (31, ⟨.slice 49, 1, 24, .nils, false, false⟩),
  (32, ⟨.func, 1, 8, .nilfn, false, false⟩),
  (33, ⟨.func, 1, 8, .nilfn, false, false⟩),
  (34, ⟨.slice 39, 1, 24, .nils, false, false⟩),
  (35, ⟨.func, 1, 8, .nilfn, false, false⟩),
  (36, ⟨.func, 1, 8, .nilfn, false, false⟩),
  (37, ⟨.struct [(3, 0), (3, 1)], 2, 16, .agg [.int .i64 0, .int .i64 0], true, true⟩),
  (38, ⟨.struct [(3, 0), (3, 1)], 2, 16, .agg [.int .i64 0, .int .i64 0], true, true⟩),
  (39, ⟨.slice 9, 1, 24, .nils, false, false⟩),
  (40, ⟨.slice 96, 1, 24, .nils, false, false⟩),
  (41, ⟨.struct [(9, 0), (3, 1), (38, 2), (39, 4), (40, 5)], 6, 88, .agg [.str [], .int .i64 0, .int .i64 0, .int .i64 0, .nils, .nils], false, false⟩),
  (42, ⟨.struct [(9, 0), (3, 1), (38, 2), (39, 4), (40, 5)], 6, 88, .agg [.str [], .int .i64 0, .int .i64 0, .int .i64 0, .nils, .nils], false, false⟩),
  (43, ⟨.func, 1, 8, .nilfn, false, false⟩),
  (44, ⟨.func, 1, 8, .nilfn, false, false⟩),
  (45, ⟨.func, 1, 8, .nilfn, false, false⟩),
  (46, ⟨.func, 1, 8, .nilfn, false, false⟩),
  (47, ⟨.func, 1, 8, .nilfn, false, false⟩),
  (48, ⟨.struct [(9, 0), (9, 1), (9, 2), (3, 3)], 4, 56, .agg [.str [], .str [], .str [], .int .i64 0], true, true⟩),
  (49, ⟨.struct [(9, 0), (9, 1), (9, 2), (3, 3)], 4, 56, .agg [.str [], .str [], .str [], .int .i64 0], true, true⟩),
  (50, ⟨.map 9 3, 1, 8, .nilmap, false, false⟩),
  (51, ⟨.map 9 4, 1, 8, .nilmap, false, false⟩),
  (52, ⟨.int .u32, 1, 4, .int .u32 0, true, false⟩),
  (53, ⟨.int .u64, 1, 8, .int .u64 0, true, false⟩),
  (54, ⟨.func, 1, 8, .nilfn, false, false⟩),
  (55, ⟨.func, 1, 8, .nilfn, false, false⟩),
  (56, ⟨.func, 1, 8, .nilfn, false, false⟩),
  (57, ⟨.func, 1, 8, .nilfn, false, false⟩),
  (58, ⟨.func, 1, 8, .nilfn, false, false⟩),
  (59, ⟨.func, 1, 8, .nilfn, false, false⟩),
  (60, ⟨.func, 1, 8, .nilfn, false, false⟩),
  (62, ⟨.func, 1, 8, .nilfn, false, false⟩),
  (64, ⟨.func, 1, 8, .nilfn, false, false⟩),
  (65, ⟨.func, 1, 8, .nilfn, false, false⟩),
  (66, ⟨.func, 1, 8, .nilfn, false, false⟩),
  (67, ⟨.func, 1, 8, .nilfn, false, false⟩),
  (68, ⟨.func, 1, 8, .nilfn, false, false⟩),
  (69, ⟨.struct [(9, 0), (3, 1), (39, 2)], 3, 48, .agg [.str [], .int .i64 0, .nils], false, false⟩),
  (70, ⟨.struct [(9, 0), (3, 1), (39, 2)], 3, 48, .agg [.str [], .int .i64 0, .nils], false, false⟩),
  (71, ⟨.func, 1, 8, .nilfn, false, false⟩),
  (72, ⟨.func, 1, 8, .nilfn, false, false⟩),
  (73, ⟨.ptr 79, 1, 8, .nilp, true, false⟩),
  (75, ⟨.func, 1, 8, .nilfn, false, false⟩),
  (76, ⟨.map 9 38, 1, 8, .nilmap, false, false⟩),
  (77, ⟨.map 9 39, 1, 8, .nilmap, false, false⟩),
  (78, ⟨.struct [(22, 0), (76, 1), (77, 2)], 3, 40, .agg [.nils, .nilmap, .nilmap], false, false⟩),
  (79, ⟨.struct [(22, 0), (76, 1), (77, 2)], 3, 40, .agg [.nils, .nilmap, .nilmap], false, false⟩),
  (80, ⟨.func, 1, 8, .nilfn, false, false⟩),
  (81, ⟨.func, 1, 8, .nilfn, false, false⟩),
  (82, ⟨.map 49 4, 1, 8, .nilmap, false, false⟩),
  (83, ⟨.func, 1, 8, .nilfn, false, false⟩),
  (84, ⟨.func, 1, 8, .nilfn, false, false⟩),
  (85, ⟨.func, 1, 8, .nilfn, false, false⟩),
  (86, ⟨.func, 1, 8, .nilfn, false, false⟩),
  (87, ⟨.map 9 9, 1, 8, .nilmap, false, false⟩),
  (88, ⟨.struct [(87, 0)], 1, 8, .agg [.nilmap], false, false⟩),
  (89, ⟨.struct [(87, 0)], 1, 8, .agg [.nilmap], false, false⟩),
  (90, ⟨.func, 1, 8, .nilfn, false, false⟩),
  (92, ⟨.func, 1, 8, .nilfn, false, false⟩),
  (93, ⟨.func, 1, 8, .nilfn, false, false⟩),
  (94, ⟨.func, 1, 8, .nilfn, false, false⟩),
  (95, ⟨.struct [(9, 0), (9, 1)], 2, 32, .agg [.str [], .str []], true, true⟩),
  (96, ⟨.struct [(9, 0), (9, 1)], 2, 32, .agg [.str [], .str []], true, true⟩),
  (97, ⟨.func, 1, 8, .nilfn, false, false⟩),
  (98, ⟨.func, 1, 8, .nilfn, false, false⟩),
  (99, ⟨.func, 1, 8, .nilfn, false, false⟩),
  (100, ⟨.func, 1, 8, .nilfn, false, false⟩),
  (101, ⟨.slice 5, 1, 24, .nils, false, false⟩),
  (102, ⟨.func, 1, 8, .nilfn, false, false⟩),
  (103, ⟨.func, 1, 8, .nilfn, false, false⟩),
  (104, ⟨.func, 1, 8, .nilfn, false, false⟩),
  (105, ⟨.func, 1, 8, .nilfn, false, false⟩),
  (106, ⟨.func, 1, 8, .nilfn, false, false⟩),
  (107, ⟨.func, 1, 8, .nilfn, false, false⟩),
  (108, ⟨.func, 1, 8, .nilfn, false, false⟩),
  (109, ⟨.func, 1, 8, .nilfn, false, false⟩),
  (110, ⟨.func, 1, 8, .nilfn, false, false⟩),
  (111, ⟨.func, 1, 8, .nilfn, false, false⟩),
  (112, ⟨.func, 1, 8, .nilfn, false, false⟩),
  (114, ⟨.array 2 9, 2, 32, .agg [.str [], .str []], true, false⟩),
  (115, ⟨.array 2 4, 2, 2, .agg [.bool false, .bool false], true, false⟩),
  (116, ⟨.func, 1, 8, .nilfn, false, false⟩),
  (117, ⟨.func, 1, 8, .nilfn, false, false⟩),
  (118, ⟨.func, 1, 8, .nilfn, false, false⟩),
  (119, ⟨.func, 1, 8, .nilfn, false, false⟩),
  (120, ⟨.func, 1, 8, .nilfn, false, false⟩),
  (121, ⟨.func, 1, 8, .nilfn, false, false⟩),
  (122, ⟨.func, 1, 8, .nilfn, false, false⟩),
  (123, ⟨.slice 125, 1, 24, .nils, false, false⟩),
  (124, ⟨.struct [(3, 0), (3, 1)], 2, 16, .agg [.int .i64 0, .int .i64 0], true, true⟩),
  (125, ⟨.struct [(3, 0), (3, 1)], 2, 16, .agg [.int .i64 0, .int .i64 0], true, true⟩),
  (126, ⟨.ptr 128, 1, 8, .nilp, true, false⟩),
  (127, ⟨.struct [(126, 0), (101, 1)], 2, 32, .agg [.nilp, .nils], false, false⟩),
  (128, ⟨.struct [(126, 0), (101, 1)], 2, 32, .agg [.nilp, .nils], false, false⟩),
  (129, ⟨.func, 1, 8, .nilfn, false, false⟩),
  (130, ⟨.iface false, 1, 16, .nili, true, false⟩),
  (131, ⟨.iface false, 1, 16, .nili, true, false⟩),
  (133, ⟨.func, 1, 8, .nilfn, false, false⟩),
  (134, ⟨.func, 1, 8, .nilfn, false, false⟩),
  (135, ⟨.func, 1, 8, .nilfn, false, false⟩),
  (136, ⟨.array 256 5, 256, 256, .agg (List.replicate 256 (.int .u8 0)), true, false⟩),
  (137, ⟨.func, 1, 8, .nilfn, false, false⟩),
  (138, ⟨.func, 1, 8, .nilfn, false, false⟩),
  (139, ⟨.func, 1, 8, .nilfn, false, false⟩),
  (140, ⟨.int .u64, 1, 8, .int .u64 0, true, false⟩),
  (141, ⟨.func, 1, 8, .nilfn, false, false⟩),
  (142, ⟨.struct [(3, 0), (3, 1)], 2, 16, .agg [.int .i64 0, .int .i64 0], true, true⟩),
  (143, ⟨.struct [(3, 0), (3, 1)], 2, 16, .agg [.int .i64 0, .int .i64 0], true, true⟩),
  (144, ⟨.func, 1, 8, .nilfn, false, false⟩),
  (145, ⟨.func, 1, 8, .nilfn, false, false⟩),
  (146, ⟨.array 6 9, 6, 96, .agg [.str [], .str [], .str [], .str [], .str [], .str []], true, false⟩),
  (147, ⟨.array 6 3, 6, 48, .agg [.int .i64 0, .int .i64 0, .int .i64 0, .int .i64 0, .int .i64 0, .int .i64 0], true, false⟩),
  (148, ⟨.ptr 5, 1, 8, .nilp, true, false⟩),
  (149, ⟨.func, 1, 8, .nilfn, false, false⟩),
  (150, ⟨.func, 1, 8, .nilfn, false, false⟩),
  (151, ⟨.slice 38, 1, 24, .nils, false, false⟩),
  (153, ⟨.func, 1, 8, .nilfn, false, false⟩),
  (154, ⟨.func, 1, 8, .nilfn, false, false⟩),
  (155, ⟨.func, 1, 8, .nilfn, false, false⟩),
  (156, ⟨.func, 1, 8, .nilfn, false, false⟩),
  (157, ⟨.struct [(17, 0), (17, 1), (17, 2), (9, 3)], 4, 40, .agg [.nilp, .nilp, .nilp, .str []], true, false⟩),
  (158, ⟨.struct [(17, 0), (17, 1), (17, 2), (9, 3)], 4, 40, .agg [.nilp, .nilp, .nilp, .str []], true, false⟩),
  (159, ⟨.array 0 16, 0, 0, .agg [], true, false⟩),
  (160, ⟨.struct [(159, 0)], 0, 0, .agg [], true, false⟩),
  (161, ⟨.struct [(159, 0)], 0, 0, .agg [], true, false⟩),
  (162, ⟨.func, 1, 8, .nilfn, false, false⟩),
  (163, ⟨.int .u8, 1, 1, .int .u8 0, true, false⟩),
  (164, ⟨.int .u8, 1, 1, .int .u8 0, true, false⟩),
  (165, ⟨.func, 1, 8, .nilfn, false, false⟩),
  (166, ⟨.int .i32, 1, 4, .int .i32 0, true, false⟩),
  (167, ⟨.int .i32, 1, 4, .int .i32 0, true, false⟩),
  (168, ⟨.struct [(12, 0), (12, 1), (52, 2), (163, 3), (5, 4), (5, 5), (164, 6), (165, 7), (148, 8), (166, 9), (167, 10)], 11, 48, .agg [.int .u64 0, .int .u64 0, .int .u32 0, .int .u8 0, .int .u8 0, .int .u8 0, .int .u8 0, .nilfn, .nilp, .int .i32 0, .int .i32 0], false, false⟩),
  (169, ⟨.struct [(12, 0), (12, 1), (52, 2), (163, 3), (5, 4), (5, 5), (164, 6), (165, 7), (148, 8), (166, 9), (167, 10)], 11, 48, .agg [.int .u64 0, .int .u64 0, .int .u32 0, .int .u8 0, .int .u8 0, .int .u8 0, .int .u8 0, .nilfn, .nilp, .int .i32 0, .int .i32 0], false, false⟩)
  ]
theorem Try.ty1 : TyOk Try.prog 1 ⟨.func, 1, 8, .nilfn, false, false⟩ := ⟨⟨_, Try.underlying1, rfl, fun h => (Bool.noConfusion h)⟩, ⟨_, _, Try.type1, rfl, rfl, rfl, rfl, rfl, rfl⟩⟩
theorem Try.ty2 : TyOk Try.prog 2 ⟨.int .i64, 1, 8, .int .i64 0, true, false⟩ := ⟨⟨_, Try.underlying2, rfl, fun h => (Bool.noConfusion h)⟩, ⟨_, _, Try.type2, rfl, rfl, rfl, rfl, rfl, rfl⟩⟩
theorem Try.ty3 : TyOk Try.prog 3 ⟨.int .i64, 1, 8, .int .i64 0, true, false⟩ := ⟨⟨_, Try.underlying3, rfl, fun h => (Bool.noConfusion h)⟩, ⟨_, _, Try.type3, rfl, rfl, rfl, rfl, rfl, rfl⟩⟩
theorem Try.ty4 : TyOk Try.prog 4 ⟨.bool, 1, 1, .bool false, true, false⟩ := ⟨⟨_, Try.underlying4, rfl, fun h => (Bool.noConfusion h)⟩, ⟨_, _, Try.type4, rfl, rfl, rfl, rfl, rfl, rfl⟩⟩
theorem Try.ty5 : TyOk Try.prog 5 ⟨.int .u8, 1, 1, .int .u8 0, true, false⟩ := ⟨⟨_, Try.underlying5, rfl, fun h => (Bool.noConfusion h)⟩, ⟨_, _, Try.type5, rfl, rfl, rfl, rfl, rfl, rfl⟩⟩
theorem Try.ty6 : TyOk Try.prog 6 ⟨.int .u8, 1, 1, .int .u8 0, true, false⟩ := ⟨⟨_, Try.underlying6, rfl, fun h => (Bool.noConfusion h)⟩, ⟨_, _, Try.type6, rfl, rfl, rfl, rfl, rfl, rfl⟩⟩
theorem Try.ty7 : TyOk Try.prog 7 ⟨.struct [(2, 0), (3, 1), (4, 2), (6, 3)], 4, 24, .agg [.int .i64 0, .int .i64 0, .bool false, .int .u8 0], true, false⟩ := ⟨⟨_, Try.underlying7, rfl, fun h => (Bool.noConfusion h)⟩, ⟨_, _, Try.type7, rfl, rfl, rfl, rfl, rfl, rfl⟩⟩
theorem Try.ty8 : TyOk Try.prog 8 ⟨.struct [(2, 0), (3, 1), (4, 2), (6, 3)], 4, 24, .agg [.int .i64 0, .int .i64 0, .bool false, .int .u8 0], true, false⟩ := ⟨⟨_, Try.underlying8, rfl, fun h => (Bool.noConfusion h)⟩, ⟨_, _, Try.type8, rfl, rfl, rfl, rfl, rfl, rfl⟩⟩
theorem Try.ty9 : TyOk Try.prog 9 ⟨.str, 1, 16, .str [], true, false⟩ := ⟨⟨_, Try.underlying9, rfl, fun h => (Bool.noConfusion h)⟩, ⟨_, _, Try.type9, rfl, rfl, rfl, rfl, rfl, rfl⟩⟩
theorem Try.ty10 : TyOk Try.prog 10 ⟨.str, 1, 16, .str [], true, false⟩ := ⟨⟨_, Try.underlying10, rfl, fun h => (Bool.noConfusion h)⟩, ⟨_, _, Try.type10, rfl, rfl, rfl, rfl, rfl, rfl⟩⟩
theorem Try.ty11 : TyOk Try.prog 11 ⟨.str, 1, 16, .str [], true, false⟩ := ⟨⟨_, Try.underlying11, rfl, fun h => (Bool.noConfusion h)⟩, ⟨_, _, Try.type11, rfl, rfl, rfl, rfl, rfl, rfl⟩⟩
theorem Try.ty12 : TyOk Try.prog 12 ⟨.int .u64, 1, 8, .int .u64 0, true, false⟩ := ⟨⟨_, Try.underlying12, rfl, fun h => (Bool.noConfusion h)⟩, ⟨_, _, Try.type12, rfl, rfl, rfl, rfl, rfl, rfl⟩⟩
theorem Try.ty13 : TyOk Try.prog 13 ⟨.struct [(9, 0), (12, 1)], 2, 24, .agg [.str [], .int .u64 0], true, false⟩ := ⟨⟨_, Try.underlying13, rfl, fun h => (Bool.noConfusion h)⟩, ⟨_, _, Try.type13, rfl, rfl, rfl, rfl, rfl, rfl⟩⟩
theorem Try.ty14 : TyOk Try.prog 14 ⟨.struct [(9, 0), (12, 1)], 2, 24, .agg [.str [], .int .u64 0], true, false⟩ := ⟨⟨_, Try.underlying14, rfl, fun h => (Bool.noConfusion h)⟩, ⟨_, _, Try.type14, rfl, rfl, rfl, rfl, rfl, rfl⟩⟩
theorem Try.ty15 : TyOk Try.prog 15 ⟨.ptr 158, 1, 8, .nilp, true, false⟩ := ⟨⟨_, Try.underlying15, rfl, fun h => (Bool.noConfusion h)⟩, ⟨_, _, Try.type15, rfl, rfl, rfl, rfl, rfl, rfl⟩⟩
theorem Try.ty16 : TyOk Try.prog 16 ⟨.ptr 161, 1, 8, .nilp, true, false⟩ := ⟨⟨_, Try.underlying16, rfl, fun h => (Bool.noConfusion h)⟩, ⟨_, _, Try.type16, rfl, rfl, rfl, rfl, rfl, rfl⟩⟩
theorem Try.ty17 : TyOk Try.prog 17 ⟨.ptr 169, 1, 8, .nilp, true, false⟩ := ⟨⟨_, Try.underlying17, rfl, fun h => (Bool.noConfusion h)⟩, ⟨_, _, Try.type17, rfl, rfl, rfl, rfl, rfl, rfl⟩⟩
theorem Try.ty18 : TyOk Try.prog 18 ⟨.struct [(17, 0)], 1, 8, .agg [.nilp], true, false⟩ := ⟨⟨_, Try.underlying18, rfl, fun h => (Bool.noConfusion h)⟩, ⟨_, _, Try.type18, rfl, rfl, rfl, rfl, rfl, rfl⟩⟩
theorem Try.ty19 : TyOk Try.prog 19 ⟨.struct [(17, 0)], 1, 8, .agg [.nilp], true, false⟩ := ⟨⟨_, Try.underlying19, rfl, fun h => (Bool.noConfusion h)⟩, ⟨_, _, Try.type19, rfl, rfl, rfl, rfl, rfl, rfl⟩⟩
theorem Try.ty20 : TyOk Try.prog 20 ⟨.iface true, 1, 16, .nili, true, false⟩ := ⟨⟨_, Try.underlying20, rfl, fun h => (Bool.noConfusion h)⟩, ⟨_, _, Try.type20, rfl, rfl, rfl, rfl, rfl, rfl⟩⟩
theorem Try.ty21 : TyOk Try.prog 21 ⟨.int .i32, 1, 4, .int .i32 0, true, false⟩ := ⟨⟨_, Try.underlying21, rfl, fun h => (Bool.noConfusion h)⟩, ⟨_, _, Try.type21, rfl, rfl, rfl, rfl, rfl, rfl⟩⟩
theorem Try.ty22 : TyOk Try.prog 22 ⟨.slice 42, 1, 24, .nils, false, false⟩ := ⟨⟨_, Try.underlying22, rfl, fun h => (Bool.noConfusion h)⟩, ⟨_, _, Try.type22, rfl, rfl, rfl, rfl, rfl, rfl⟩⟩
theorem Try.ty23 : TyOk Try.prog 23 ⟨.struct [(22, 0)], 1, 24, .agg [.nils], false, false⟩ := ⟨⟨_, Try.underlying23, rfl, fun h => (Bool.noConfusion h)⟩, ⟨_, _, Try.type23, rfl, rfl, rfl, rfl, rfl, rfl⟩⟩
theorem Try.ty24 : TyOk Try.prog 24 ⟨.struct [(22, 0)], 1, 24, .agg [.nils], false, false⟩ := ⟨⟨_, Try.underlying24, rfl, fun h => (Bool.noConfusion h)⟩, ⟨_, _, Try.type24, rfl, rfl, rfl, rfl, rfl, rfl⟩⟩
theorem Try.ty25 : TyOk Try.prog 25 ⟨.func, 1, 8, .nilfn, false, false⟩ := ⟨⟨_, Try.underlying25, rfl, fun h => (Bool.noConfusion h)⟩, ⟨_, _, Try.type25, rfl, rfl, rfl, rfl, rfl, rfl⟩⟩
theorem Try.ty26 : TyOk Try.prog 26 ⟨.func, 1, 8, .nilfn, false, false⟩ := ⟨⟨_, Try.underlying26, rfl, fun h => (Bool.noConfusion h)⟩, ⟨_, _, Try.type26, rfl, rfl, rfl, rfl, rfl, rfl⟩⟩
theorem Try.ty27 : TyOk Try.prog 27 ⟨.func, 1, 8, .nilfn, false, false⟩ := ⟨⟨_, Try.underlying27, rfl, fun h => (Bool.noConfusion h)⟩, ⟨_, _, Try.type27, rfl, rfl, rfl, rfl, rfl, rfl⟩⟩
theorem Try.ty28 : TyOk Try.prog 28 ⟨.slice 70, 1, 24, .nils, false, false⟩ := ⟨⟨_, Try.underlying28, rfl, fun h => (Bool.noConfusion h)⟩, ⟨_, _, Try.type28, rfl, rfl, rfl, rfl, rfl, rfl⟩⟩
theorem Try.ty29 : TyOk Try.prog 29 ⟨.func, 1, 8, .nilfn, false, false⟩ := ⟨⟨_, Try.underlying29, rfl, fun h => (Bool.noConfusion h)⟩, ⟨_, _, Try.type29, rfl, rfl, rfl, rfl, rfl, rfl⟩⟩
theorem Try.ty30 : TyOk Try.prog 30 ⟨.func, 1, 8, .nilfn, false, false⟩ := ⟨⟨_, Try.underlying30, rfl, fun h => (Bool.noConfusion h)⟩, ⟨_, _, Try.type30, rfl, rfl, rfl, rfl, rfl, rfl⟩⟩
theorem Try.ty31 : TyOk Try.prog 31 ⟨.slice 49, 1, 24, .nils, false, false⟩ := ⟨⟨_, Try.underlying31, rfl, fun h => (Bool.noConfusion h)⟩, ⟨_, _, Try.type31, rfl, rfl, rfl, rfl, rfl, rfl⟩⟩
theorem Try.ty32 : TyOk Try.prog 32 ⟨.func, 1, 8, .nilfn, false, false⟩ := ⟨⟨_, Try.underlying32, rfl, fun h => (Bool.noConfusion h)⟩, ⟨_, _, Try.type32, rfl, rfl, rfl, rfl, rfl, rfl⟩⟩
theorem Try.ty33 : TyOk Try.prog 33 ⟨.func, 1, 8, .nilfn, false, false⟩ := ⟨⟨_, Try.underlying33, rfl, fun h => (Bool.noConfusion h)⟩, ⟨_, _, Try.type33, rfl, rfl, rfl, rfl, rfl, rfl⟩⟩
theorem Try.ty34 : TyOk Try.prog 34 ⟨.slice 39, 1, 24, .nils, false, false⟩ := ⟨⟨_, Try.underlying34, rfl, fun h => (Bool.noConfusion h)⟩, ⟨_, _, Try.type34, rfl, rfl, rfl, rfl, rfl, rfl⟩⟩
theorem Try.ty35 : TyOk Try.prog 35 ⟨.func, 1, 8, .nilfn, false, false⟩ := ⟨⟨_, Try.underlying35, rfl, fun h => (Bool.noConfusion h)⟩, ⟨_, _, Try.type35, rfl, rfl, rfl, rfl, rfl, rfl⟩⟩
theorem Try.ty36 : TyOk Try.prog 36 ⟨.func, 1, 8, .nilfn, false, false⟩ := ⟨⟨_, Try.underlying36, rfl, fun h => (Bool.noConfusion h)⟩, ⟨_, _, Try.type36, rfl, rfl, rfl, rfl, rfl, rfl⟩⟩
theorem Try.ty37 : TyOk Try.prog 37 ⟨.struct [(3, 0), (3, 1)], 2, 16, .agg [.int .i64 0, .int .i64 0], true, true⟩ := ⟨⟨_, Try.underlying37, rfl, fun _ => ⟨rfl, by kernel_rfl, by kernel_rfl⟩⟩, ⟨_, _, Try.type37, rfl, rfl, rfl, rfl, rfl, rfl⟩⟩
theorem Try.ty38 : TyOk Try.prog 38 ⟨.struct [(3, 0), (3, 1)], 2, 16, .agg [.int .i64 0, .int .i64 0], true, true⟩ := ⟨⟨_, Try.underlying38, rfl, fun _ => ⟨rfl, by kernel_rfl, by kernel_rfl⟩⟩, ⟨_, _, Try.type38, rfl, rfl, rfl, rfl, rfl, rfl⟩⟩
theorem Try.ty39 : TyOk Try.prog 39 ⟨.slice 9, 1, 24, .nils, false, false⟩ := ⟨⟨_, Try.underlying39, rfl, fun h => (Bool.noConfusion h)⟩, ⟨_, _, Try.type39, rfl, rfl, rfl, rfl, rfl, rfl⟩⟩
theorem Try.ty40 : TyOk Try.prog 40 ⟨.slice 96, 1, 24, .nils, false, false⟩ := ⟨⟨_, Try.underlying40, rfl, fun h => (Bool.noConfusion h)⟩, ⟨_, _, Try.type40, rfl, rfl, rfl, rfl, rfl, rfl⟩⟩
theorem Try.ty41 : TyOk Try.prog 41 ⟨.struct [(9, 0), (3, 1), (38, 2), (39, 4), (40, 5)], 6, 88, .agg [.str [], .int .i64 0, .int .i64 0, .int .i64 0, .nils, .nils], false, false⟩ := ⟨⟨_, Try.underlying41, rfl, fun h => (Bool.noConfusion h)⟩, ⟨_, _, Try.type41, rfl, rfl, rfl, rfl, rfl, rfl⟩⟩
theorem Try.ty42 : TyOk Try.prog 42 ⟨.struct [(9, 0), (3, 1), (38, 2), (39, 4), (40, 5)], 6, 88, .agg [.str [], .int .i64 0, .int .i64 0, .int .i64 0, .nils, .nils], false, false⟩ := ⟨⟨_, Try.underlying42, rfl, fun h => (Bool.noConfusion h)⟩, ⟨_, _, Try.type42, rfl, rfl, rfl, rfl, rfl, rfl⟩⟩
theorem Try.ty43 : TyOk Try.prog 43 ⟨.func, 1, 8, .nilfn, false, false⟩ := ⟨⟨_, Try.underlying43, rfl, fun h => (Bool.noConfusion h)⟩, ⟨_, _, Try.type43, rfl, rfl, rfl, rfl, rfl, rfl⟩⟩
theorem Try.ty44 : TyOk Try.prog 44 ⟨.func, 1, 8, .nilfn, false, false⟩ := ⟨⟨_, Try.underlying44, rfl, fun h => (Bool.noConfusion h)⟩, ⟨_, _, Try.type44, rfl, rfl, rfl, rfl, rfl, rfl⟩⟩
theorem Try.ty45 : TyOk Try.prog 45 ⟨.func, 1, 8, .nilfn, false, false⟩ := ⟨⟨_, Try.underlying45, rfl, fun h => (Bool.noConfusion h)⟩, ⟨_, _, Try.type45, rfl, rfl, rfl, rfl, rfl, rfl⟩⟩
theorem Try.ty46 : TyOk Try.prog 46 ⟨.func, 1, 8, .nilfn, false, false⟩ := ⟨⟨_, Try.underlying46, rfl, fun h => (Bool.noConfusion h)⟩, ⟨_, _, Try.type46, rfl, rfl, rfl, rfl, rfl, rfl⟩⟩
theorem Try.ty47 : TyOk Try.prog 47 ⟨.func, 1, 8, .nilfn, false, false⟩ := ⟨⟨_, Try.underlying47, rfl, fun h => (Bool.noConfusion h)⟩, ⟨_, _, Try.type47, rfl, rfl, rfl, rfl, rfl, rfl⟩⟩
theorem Try.ty48 : TyOk Try.prog 48 ⟨.struct [(9, 0), (9, 1), (9, 2), (3, 3)], 4, 56, .agg [.str [], .str [], .str [], .int .i64 0], true, true⟩ := ⟨⟨_, Try.underlying48, rfl, fun _ => ⟨rfl, by kernel_rfl, by kernel_rfl⟩⟩, ⟨_, _, Try.type48, rfl, rfl, rfl, rfl, rfl, rfl⟩⟩
theorem Try.ty49 : TyOk Try.prog 49 ⟨.struct [(9, 0), (9, 1), (9, 2), (3, 3)], 4, 56, .agg [.str [], .str [], .str [], .int .i64 0], true, true⟩ := ⟨⟨_, Try.underlying49, rfl, fun _ => ⟨rfl, by kernel_rfl, by kernel_rfl⟩⟩, ⟨_, _, Try.type49, rfl, rfl, rfl, rfl, rfl, rfl⟩⟩
theorem Try.ty50 : TyOk Try.prog 50 ⟨.map 9 3, 1, 8, .nilmap, false, false⟩ := ⟨⟨_, Try.underlying50, rfl, fun h => (Bool.noConfusion h)⟩, ⟨_, _, Try.type50, rfl, rfl, rfl, rfl, rfl, rfl⟩⟩
theorem Try.ty51 : TyOk Try.prog 51 ⟨.map 9 4, 1, 8, .nilmap, false, false⟩ := ⟨⟨_, Try.underlying51, rfl, fun h => (Bool.noConfusion h)⟩, ⟨_, _, Try.type51, rfl, rfl, rfl, rfl, rfl, rfl⟩⟩
theorem Try.ty52 : TyOk Try.prog 52 ⟨.int .u32, 1, 4, .int .u32 0, true, false⟩ := ⟨⟨_, Try.underlying52, rfl, fun h => (Bool.noConfusion h)⟩, ⟨_, _, Try.type52, rfl, rfl, rfl, rfl, rfl, rfl⟩⟩
theorem Try.ty53 : TyOk Try.prog 53 ⟨.int .u64, 1, 8, .int .u64 0, true, false⟩ := ⟨⟨_, Try.underlying53, rfl, fun h => (Bool.noConfusion h)⟩, ⟨_, _, Try.type53, rfl, rfl, rfl, rfl, rfl, rfl⟩⟩
theorem Try.ty54 : TyOk Try.prog 54 ⟨.func, 1, 8, .nilfn, false, false⟩ := ⟨⟨_, Try.underlying54, rfl, fun h => (Bool.noConfusion h)⟩, ⟨_, _, Try.type54, rfl, rfl, rfl, rfl, rfl, rfl⟩⟩
theorem Try.ty55 : TyOk Try.prog 55 ⟨.func, 1, 8, .nilfn, false, false⟩ := ⟨⟨_, Try.underlying55, rfl, fun h => (Bool.noConfusion h)⟩, ⟨_, _, Try.type55, rfl, rfl, rfl, rfl, rfl, rfl⟩⟩
theorem Try.ty56 : TyOk Try.prog 56 ⟨.func, 1, 8, .nilfn, false, false⟩ := ⟨⟨_, Try.underlying56, rfl, fun h => (Bool.noConfusion h)⟩, ⟨_, _, Try.type56, rfl, rfl, rfl, rfl, rfl, rfl⟩⟩
theorem Try.ty57 : TyOk Try.prog 57 ⟨.func, 1, 8, .nilfn, false, false⟩ := ⟨⟨_, Try.underlying57, rfl, fun h => (Bool.noConfusion h)⟩, ⟨_, _, Try.type57, rfl, rfl, rfl, rfl, rfl, rfl⟩⟩
theorem Try.ty58 : TyOk Try.prog 58 ⟨.func, 1, 8, .nilfn, false, false⟩ := ⟨⟨_, Try.underlying58, rfl, fun h => (Bool.noConfusion h)⟩, ⟨_, _, Try.type58, rfl, rfl, rfl, rfl, rfl, rfl⟩⟩
theorem Try.ty59 : TyOk Try.prog 59 ⟨.func, 1, 8, .nilfn, false, false⟩ := ⟨⟨_, Try.underlying59, rfl, fun h => (Bool.noConfusion h)⟩, ⟨_, _, Try.type59, rfl, rfl, rfl, rfl, rfl, rfl⟩⟩
theorem Try.ty60 : TyOk Try.prog 60 ⟨.func, 1, 8, .nilfn, false, false⟩ := ⟨⟨_, Try.underlying60, rfl, fun h => (Bool.noConfusion h)⟩, ⟨_, _, Try.type60, rfl, rfl, rfl, rfl, rfl, rfl⟩⟩
theorem Try.ty62 : TyOk Try.prog 62 ⟨.func, 1, 8, .nilfn, false, false⟩ := ⟨⟨_, Try.underlying62, rfl, fun h => (Bool.noConfusion h)⟩, ⟨_, _, Try.type62, rfl, rfl, rfl, rfl, rfl, rfl⟩⟩
theorem Try.ty64 : TyOk Try.prog 64 ⟨.func, 1, 8, .nilfn, false, false⟩ := ⟨⟨_, Try.underlying64, rfl, fun h => (Bool.noConfusion h)⟩, ⟨_, _, Try.type64, rfl, rfl, rfl, rfl, rfl, rfl⟩⟩
theorem Try.ty65 : TyOk Try.prog 65 ⟨.func, 1, 8, .nilfn, false, false⟩ := ⟨⟨_, Try.underlying65, rfl, fun h => (Bool.noConfusion h)⟩, ⟨_, _, Try.type65, rfl, rfl, rfl, rfl, rfl, rfl⟩⟩
theorem Try.ty66 : TyOk Try.prog 66 ⟨.func, 1, 8, .nilfn, false, false⟩ := ⟨⟨_, Try.underlying66, rfl, fun h => (Bool.noConfusion h)⟩, ⟨_, _, Try.type66, rfl, rfl, rfl, rfl, rfl, rfl⟩⟩
theorem Try.ty67 : TyOk Try.prog 67 ⟨.func, 1, 8, .nilfn, false, false⟩ := ⟨⟨_, Try.underlying67, rfl, fun h => (Bool.noConfusion h)⟩, ⟨_, _, Try.type67, rfl, rfl, rfl, rfl, rfl, rfl⟩⟩
theorem Try.ty68 : TyOk Try.prog 68 ⟨.func, 1, 8, .nilfn, false, false⟩ := ⟨⟨_, Try.underlying68, rfl, fun h => (Bool.noConfusion h)⟩, ⟨_, _, Try.type68, rfl, rfl, rfl, rfl, rfl, rfl⟩⟩
theorem Try.ty69 : TyOk Try.prog 69 ⟨.struct [(9, 0), (3, 1), (39, 2)], 3, 48, .agg [.str [], .int .i64 0, .nils], false, false⟩ := ⟨⟨_, Try.underlying69, rfl, fun h => (Bool.noConfusion h)⟩, ⟨_, _, Try.type69, rfl, rfl, rfl, rfl, rfl, rfl⟩⟩
theorem Try.ty70 : TyOk Try.prog 70 ⟨.struct [(9, 0), (3, 1), (39, 2)], 3, 48, .agg [.str [], .int .i64 0, .nils], false, false⟩ := ⟨⟨_, Try.underlying70, rfl, fun h => (Bool.noConfusion h)⟩, ⟨_, _, Try.type70, rfl, rfl, rfl, rfl, rfl, rfl⟩⟩
theorem Try.ty71 : TyOk Try.prog 71 ⟨.func, 1, 8, .nilfn, false, false⟩ := ⟨⟨_, Try.underlying71, rfl, fun h => (Bool.noConfusion h)⟩, ⟨_, _, Try.type71, rfl, rfl, rfl, rfl, rfl, rfl⟩⟩
theorem Try.ty72 : TyOk Try.prog 72 ⟨.func, 1, 8, .nilfn, false, false⟩ := ⟨⟨_, Try.underlying72, rfl, fun h => (Bool.noConfusion h)⟩, ⟨_, _, Try.type72, rfl, rfl, rfl, rfl, rfl, rfl⟩⟩
theorem Try.ty73 : TyOk Try.prog 73 ⟨.ptr 79, 1, 8, .nilp, true, false⟩ := ⟨⟨_, Try.underlying73, rfl, fun h => (Bool.noConfusion h)⟩, ⟨_, _, Try.type73, rfl, rfl, rfl, rfl, rfl, rfl⟩⟩
theorem Try.ty75 : TyOk Try.prog 75 ⟨.func, 1, 8, .nilfn, false, false⟩ := ⟨⟨_, Try.underlying75, rfl, fun h => (Bool.noConfusion h)⟩, ⟨_, _, Try.type75, rfl, rfl, rfl, rfl, rfl, rfl⟩⟩
theorem Try.ty76 : TyOk Try.prog 76 ⟨.map 9 38, 1, 8, .nilmap, false, false⟩ := ⟨⟨_, Try.underlying76, rfl, fun h => (Bool.noConfusion h)⟩, ⟨_, _, Try.type76, rfl, rfl, rfl, rfl, rfl, rfl⟩⟩
theorem Try.ty77 : TyOk Try.prog 77 ⟨.map 9 39, 1, 8, .nilmap, false, false⟩ := ⟨⟨_, Try.underlying77, rfl, fun h => (Bool.noConfusion h)⟩, ⟨_, _, Try.type77, rfl, rfl, rfl, rfl, rfl, rfl⟩⟩
theorem Try.ty78 : TyOk Try.prog 78 ⟨.struct [(22, 0), (76, 1), (77, 2)], 3, 40, .agg [.nils, .nilmap, .nilmap], false, false⟩ := ⟨⟨_, Try.underlying78, rfl, fun h => (Bool.noConfusion h)⟩, ⟨_, _, Try.type78, rfl, rfl, rfl, rfl, rfl, rfl⟩⟩
theorem Try.ty79 : TyOk Try.prog 79 ⟨.struct [(22, 0), (76, 1), (77, 2)], 3, 40, .agg [.nils, .nilmap, .nilmap], false, false⟩ := ⟨⟨_, Try.underlying79, rfl, fun h => (Bool.noConfusion h)⟩, ⟨_, _, Try.type79, rfl, rfl, rfl, rfl, rfl, rfl⟩⟩
theorem Try.ty80 : TyOk Try.prog 80 ⟨.func, 1, 8, .nilfn, false, false⟩ := ⟨⟨_, Try.underlying80, rfl, fun h => (Bool.noConfusion h)⟩, ⟨_, _, Try.type80, rfl, rfl, rfl, rfl, rfl, rfl⟩⟩
theorem Try.ty81 : TyOk Try.prog 81 ⟨.func, 1, 8, .nilfn, false, false⟩ := ⟨⟨_, Try.underlying81, rfl, fun h => (Bool.noConfusion h)⟩, ⟨_, _, Try.type81, rfl, rfl, rfl, rfl, rfl, rfl⟩⟩
theorem Try.ty82 : TyOk Try.prog 82 ⟨.map 49 4, 1, 8, .nilmap, false, false⟩ := ⟨⟨_, Try.underlying82, rfl, fun h => (Bool.noConfusion h)⟩, ⟨_, _, Try.type82, rfl, rfl, rfl, rfl, rfl, rfl⟩⟩
theorem Try.ty83 : TyOk Try.prog 83 ⟨.func, 1, 8, .nilfn, false, false⟩ := ⟨⟨_, Try.underlying83, rfl, fun h => (Bool.noConfusion h)⟩, ⟨_, _, Try.type83, rfl, rfl, rfl, rfl, rfl, rfl⟩⟩
theorem Try.ty84 : TyOk Try.prog 84 ⟨.func, 1, 8, .nilfn, false, false⟩ := ⟨⟨_, Try.underlying84, rfl, fun h => (Bool.noConfusion h)⟩, ⟨_, _, Try.type84, rfl, rfl, rfl, rfl, rfl, rfl⟩⟩
theorem Try.ty85 : TyOk Try.prog 85 ⟨.func, 1, 8, .nilfn, false, false⟩ := ⟨⟨_, Try.underlying85, rfl, fun h => (Bool.noConfusion h)⟩, ⟨_, _, Try.type85, rfl, rfl, rfl, rfl, rfl, rfl⟩⟩
theorem Try.ty86 : TyOk Try.prog 86 ⟨.func, 1, 8, .nilfn, false, false⟩ := ⟨⟨_, Try.underlying86, rfl, fun h => (Bool.noConfusion h)⟩, ⟨_, _, Try.type86, rfl, rfl, rfl, rfl, rfl, rfl⟩⟩
theorem Try.ty87 : TyOk Try.prog 87 ⟨.map 9 9, 1, 8, .nilmap, false, false⟩ := ⟨⟨_, Try.underlying87, rfl, fun h => (Bool.noConfusion h)⟩, ⟨_, _, Try.type87, rfl, rfl, rfl, rfl, rfl, rfl⟩⟩
theorem Try.ty88 : TyOk Try.prog 88 ⟨.struct [(87, 0)], 1, 8, .agg [.nilmap], false, false⟩ := ⟨⟨_, Try.underlying88, rfl, fun h => (Bool.noConfusion h)⟩, ⟨_, _, Try.type88, rfl, rfl, rfl, rfl, rfl, rfl⟩⟩
theorem Try.ty89 : TyOk Try.prog 89 ⟨.struct [(87, 0)], 1, 8, .agg [.nilmap], false, false⟩ := ⟨⟨_, Try.underlying89, rfl, fun h => (Bool.noConfusion h)⟩, ⟨_, _, Try.type89, rfl, rfl, rfl, rfl, rfl, rfl⟩⟩
theorem Try.ty90 : TyOk Try.prog 90 ⟨.func, 1, 8, .nilfn, false, false⟩ := ⟨⟨_, Try.underlying90, rfl, fun h => (Bool.noConfusion h)⟩, ⟨_, _, Try.type90, rfl, rfl, rfl, rfl, rfl, rfl⟩⟩
theorem Try.ty92 : TyOk Try.prog 92 ⟨.func, 1, 8, .nilfn, false, false⟩ := ⟨⟨_, Try.underlying92, rfl, fun h => (Bool.noConfusion h)⟩, ⟨_, _, Try.type92, rfl, rfl, rfl, rfl, rfl, rfl⟩⟩
theorem Try.ty93 : TyOk Try.prog 93 ⟨.func, 1, 8, .nilfn, false, false⟩ := ⟨⟨_, Try.underlying93, rfl, fun h => (Bool.noConfusion h)⟩, ⟨_, _, Try.type93, rfl, rfl, rfl, rfl, rfl, rfl⟩⟩
theorem Try.ty94 : TyOk Try.prog 94 ⟨.func, 1, 8, .nilfn, false, false⟩ := ⟨⟨_, Try.underlying94, rfl, fun h => (Bool.noConfusion h)⟩, ⟨_, _, Try.type94, rfl, rfl, rfl, rfl, rfl, rfl⟩⟩
theorem Try.ty95 : TyOk Try.prog 95 ⟨.struct [(9, 0), (9, 1)], 2, 32, .agg [.str [], .str []], true, true⟩ := ⟨⟨_, Try.underlying95, rfl, fun _ => ⟨rfl, by kernel_rfl, by kernel_rfl⟩⟩, ⟨_, _, Try.type95, rfl, rfl, rfl, rfl, rfl, rfl⟩⟩
theorem Try.ty96 : TyOk Try.prog 96 ⟨.struct [(9, 0), (9, 1)], 2, 32, .agg [.str [], .str []], true, true⟩ := ⟨⟨_, Try.underlying96, rfl, fun _ => ⟨rfl, by kernel_rfl, by kernel_rfl⟩⟩, ⟨_, _, Try.type96, rfl, rfl, rfl, rfl, rfl, rfl⟩⟩
theorem Try.ty97 : TyOk Try.prog 97 ⟨.func, 1, 8, .nilfn, false, false⟩ := ⟨⟨_, Try.underlying97, rfl, fun h => (Bool.noConfusion h)⟩, ⟨_, _, Try.type97, rfl, rfl, rfl, rfl, rfl, rfl⟩⟩
theorem Try.ty98 : TyOk Try.prog 98 ⟨.func, 1, 8, .nilfn, false, false⟩ := ⟨⟨_, Try.underlying98, rfl, fun h => (Bool.noConfusion h)⟩, ⟨_, _, Try.type98, rfl, rfl, rfl, rfl, rfl, rfl⟩⟩
theorem Try.ty99 : TyOk Try.prog 99 ⟨.func, 1, 8, .nilfn, false, false⟩ := ⟨⟨_, Try.underlying99, rfl, fun h => (Bool.noConfusion h)⟩, ⟨_, _, Try.type99, rfl, rfl, rfl, rfl, rfl, rfl⟩⟩
theorem Try.ty100 : TyOk Try.prog 100 ⟨.func, 1, 8, .nilfn, false, false⟩ := ⟨⟨_, Try.underlying100, rfl, fun h => (Bool.noConfusion h)⟩, ⟨_, _, Try.type100, rfl, rfl, rfl, rfl, rfl, rfl⟩⟩
theorem Try.ty101 : TyOk Try.prog 101 ⟨.slice 5, 1, 24, .nils, false, false⟩ := ⟨⟨_, Try.underlying101, rfl, fun h => (Bool.noConfusion h)⟩, ⟨_, _, Try.type101, rfl, rfl, rfl, rfl, rfl, rfl⟩⟩
theorem Try.ty102 : TyOk Try.prog 102 ⟨.func, 1, 8, .nilfn, false, false⟩ := ⟨⟨_, Try.underlying102, rfl, fun h => (Bool.noConfusion h)⟩, ⟨_, _, Try.type102, rfl, rfl, rfl, rfl, rfl, rfl⟩⟩
theorem Try.ty103 : TyOk Try.prog 103 ⟨.func, 1, 8, .nilfn, false, false⟩ := ⟨⟨_, Try.underlying103, rfl, fun h => (Bool.noConfusion h)⟩, ⟨_, _, Try.type103, rfl, rfl, rfl, rfl, rfl, rfl⟩⟩
theorem Try.ty104 : TyOk Try.prog 104 ⟨.func, 1, 8, .nilfn, false, false⟩ := ⟨⟨_, Try.underlying104, rfl, fun h => (Bool.noConfusion h)⟩, ⟨_, _, Try.type104, rfl, rfl, rfl, rfl, rfl, rfl⟩⟩
theorem Try.ty105 : TyOk Try.prog 105 ⟨.func, 1, 8, .nilfn, false, false⟩ := ⟨⟨_, Try.underlying105, rfl, fun h => (Bool.noConfusion h)⟩, ⟨_, _, Try.type105, rfl, rfl, rfl, rfl, rfl, rfl⟩⟩
theorem Try.ty106 : TyOk Try.prog 106 ⟨.func, 1, 8, .nilfn, false, false⟩ := ⟨⟨_, Try.underlying106, rfl, fun h => (Bool.noConfusion h)⟩, ⟨_, _, Try.type106, rfl, rfl, rfl, rfl, rfl, rfl⟩⟩
theorem Try.ty107 : TyOk Try.prog 107 ⟨.func, 1, 8, .nilfn, false, false⟩ := ⟨⟨_, Try.underlying107, rfl, fun h => (Bool.noConfusion h)⟩, ⟨_, _, Try.type107, rfl, rfl, rfl, rfl, rfl, rfl⟩⟩
theorem Try.ty108 : TyOk Try.prog 108 ⟨.func, 1, 8, .nilfn, false, false⟩ := ⟨⟨_, Try.underlying108, rfl, fun h => (Bool.noConfusion h)⟩, ⟨_, _, Try.type108, rfl, rfl, rfl, rfl, rfl, rfl⟩⟩
theorem Try.ty109 : TyOk Try.prog 109 ⟨.func, 1, 8, .nilfn, false, false⟩ := ⟨⟨_, Try.underlying109, rfl, fun h => (Bool.noConfusion h)⟩, ⟨_, _, Try.type109, rfl, rfl, rfl, rfl, rfl, rfl⟩⟩
theorem Try.ty110 : TyOk Try.prog 110 ⟨.func, 1, 8, .nilfn, false, false⟩ := ⟨⟨_, Try.underlying110, rfl, fun h => (Bool.noConfusion h)⟩, ⟨_, _, Try.type110, rfl, rfl, rfl, rfl, rfl, rfl⟩⟩
theorem Try.ty111 : TyOk Try.prog 111 ⟨.func, 1, 8, .nilfn, false, false⟩ := ⟨⟨_, Try.underlying111, rfl, fun h => (Bool.noConfusion h)⟩, ⟨_, _, Try.type111, rfl, rfl, rfl, rfl, rfl, rfl⟩⟩
theorem Try.ty112 : TyOk Try.prog 112 ⟨.func, 1, 8, .nilfn, false, false⟩ := ⟨⟨_, Try.underlying112, rfl, fun h => (Bool.noConfusion h)⟩, ⟨_, _, Try.type112, rfl, rfl, rfl, rfl, rfl, rfl⟩⟩
theorem Try.ty114 : TyOk Try.prog 114 ⟨.array 2 9, 2, 32, .agg [.str [], .str []], true, false⟩ := ⟨⟨_, Try.underlying114, rfl, fun h => (Bool.noConfusion h)⟩, ⟨_, _, Try.type114, rfl, rfl, rfl, rfl, rfl, rfl⟩⟩
theorem Try.ty115 : TyOk Try.prog 115 ⟨.array 2 4, 2, 2, .agg [.bool false, .bool false], true, false⟩ := ⟨⟨_, Try.underlying115, rfl, fun h => (Bool.noConfusion h)⟩, ⟨_, _, Try.type115, rfl, rfl, rfl, rfl, rfl, rfl⟩⟩
theorem Try.ty116 : TyOk Try.prog 116 ⟨.func, 1, 8, .nilfn, false, false⟩ := ⟨⟨_, Try.underlying116, rfl, fun h => (Bool.noConfusion h)⟩, ⟨_, _, Try.type116, rfl, rfl, rfl, rfl, rfl, rfl⟩⟩
theorem Try.ty117 : TyOk Try.prog 117 ⟨.func, 1, 8, .nilfn, false, false⟩ := ⟨⟨_, Try.underlying117, rfl, fun h => (Bool.noConfusion h)⟩, ⟨_, _, Try.type117, rfl, rfl, rfl, rfl, rfl, rfl⟩⟩
theorem Try.ty118 : TyOk Try.prog 118 ⟨.func, 1, 8, .nilfn, false, false⟩ := ⟨⟨_, Try.underlying118, rfl, fun h => (Bool.noConfusion h)⟩, ⟨_, _, Try.type118, rfl, rfl, rfl, rfl, rfl, rfl⟩⟩
theorem Try.ty119 : TyOk Try.prog 119 ⟨.func, 1, 8, .nilfn, false, false⟩ := ⟨⟨_, Try.underlying119, rfl, fun h => (Bool.noConfusion h)⟩, ⟨_, _, Try.type119, rfl, rfl, rfl, rfl, rfl, rfl⟩⟩
theorem Try.ty120 : TyOk Try.prog 120 ⟨.func, 1, 8, .nilfn, false, false⟩ := ⟨⟨_, Try.underlying120, rfl, fun h => (Bool.noConfusion h)⟩, ⟨_, _, Try.type120, rfl, rfl, rfl, rfl, rfl, rfl⟩⟩
theorem Try.ty121 : TyOk Try.prog 121 ⟨.func, 1, 8, .nilfn, false, false⟩ := ⟨⟨_, Try.underlying121, rfl, fun h => (Bool.noConfusion h)⟩, ⟨_, _, Try.type121, rfl, rfl, rfl, rfl, rfl, rfl⟩⟩
theorem Try.ty122 : TyOk Try.prog 122 ⟨.func, 1, 8, .nilfn, false, false⟩ := ⟨⟨_, Try.underlying122, rfl, fun h => (Bool.noConfusion h)⟩, ⟨_, _, Try.type122, rfl, rfl, rfl, rfl, rfl, rfl⟩⟩
theorem Try.ty123 : TyOk Try.prog 123 ⟨.slice 125, 1, 24, .nils, false, false⟩ := ⟨⟨_, Try.underlying123, rfl, fun h => (Bool.noConfusion h)⟩, ⟨_, _, Try.type123, rfl, rfl, rfl, rfl, rfl, rfl⟩⟩
theorem Try.ty124 : TyOk Try.prog 124 ⟨.struct [(3, 0), (3, 1)], 2, 16, .agg [.int .i64 0, .int .i64 0], true, true⟩ := ⟨⟨_, Try.underlying124, rfl, fun _ => ⟨rfl, by kernel_rfl, by kernel_rfl⟩⟩, ⟨_, _, Try.type124, rfl, rfl, rfl, rfl, rfl, rfl⟩⟩
theorem Try.ty125 : TyOk Try.prog 125 ⟨.struct [(3, 0), (3, 1)], 2, 16, .agg [.int .i64 0, .int .i64 0], true, true⟩ := ⟨⟨_, Try.underlying125, rfl, fun _ => ⟨rfl, by kernel_rfl, by kernel_rfl⟩⟩, ⟨_, _, Try.type125, rfl, rfl, rfl, rfl, rfl, rfl⟩⟩
theorem Try.ty126 : TyOk Try.prog 126 ⟨.ptr 128, 1, 8, .nilp, true, false⟩ := ⟨⟨_, Try.underlying126, rfl, fun h => (Bool.noConfusion h)⟩, ⟨_, _, Try.type126, rfl, rfl, rfl, rfl, rfl, rfl⟩⟩
theorem Try.ty127 : TyOk Try.prog 127 ⟨.struct [(126, 0), (101, 1)], 2, 32, .agg [.nilp, .nils], false, false⟩ := ⟨⟨_, Try.underlying127, rfl, fun h => (Bool.noConfusion h)⟩, ⟨_, _, Try.type127, rfl, rfl, rfl, rfl, rfl, rfl⟩⟩
theorem Try.ty128 : TyOk Try.prog 128 ⟨.struct [(126, 0), (101, 1)], 2, 32, .agg [.nilp, .nils], false, false⟩ := ⟨⟨_, Try.underlying128, rfl, fun h => (Bool.noConfusion h)⟩, ⟨_, _, Try.type128, rfl, rfl, rfl, rfl, rfl, rfl⟩⟩
theorem Try.ty129 : TyOk Try.prog 129 ⟨.func, 1, 8, .nilfn, false, false⟩ := ⟨⟨_, Try.underlying129, rfl, fun h => (Bool.noConfusion h)⟩, ⟨_, _, Try.type129, rfl, rfl, rfl, rfl, rfl, rfl⟩⟩
theorem Try.ty130 : TyOk Try.prog 130 ⟨.iface false, 1, 16, .nili, true, false⟩ := ⟨⟨_, Try.underlying130, rfl, fun h => (Bool.noConfusion h)⟩, ⟨_, _, Try.type130, rfl, rfl, rfl, rfl, rfl, rfl⟩⟩
theorem Try.ty131 : TyOk Try.prog 131 ⟨.iface false, 1, 16, .nili, true, false⟩ := ⟨⟨_, Try.underlying131, rfl, fun h => (Bool.noConfusion h)⟩, ⟨_, _, Try.type131, rfl, rfl, rfl, rfl, rfl, rfl⟩⟩
theorem Try.ty133 : TyOk Try.prog 133 ⟨.func, 1, 8, .nilfn, false, false⟩ := ⟨⟨_, Try.underlying133, rfl, fun h => (Bool.noConfusion h)⟩, ⟨_, _, Try.type133, rfl, rfl, rfl, rfl, rfl, rfl⟩⟩
theorem Try.ty134 : TyOk Try.prog 134 ⟨.func, 1, 8, .nilfn, false, false⟩ := ⟨⟨_, Try.underlying134, rfl, fun h => (Bool.noConfusion h)⟩, ⟨_, _, Try.type134, rfl, rfl, rfl, rfl, rfl, rfl⟩⟩
theorem Try.ty135 : TyOk Try.prog 135 ⟨.func, 1, 8, .nilfn, false, false⟩ := ⟨⟨_, Try.underlying135, rfl, fun h => (Bool.noConfusion h)⟩, ⟨_, _, Try.type135, rfl, rfl, rfl, rfl, rfl, rfl⟩⟩
theorem Try.ty136 : TyOk Try.prog 136 ⟨.array 256 5, 256, 256, .agg (List.replicate 256 (.int .u8 0)), true, false⟩ := ⟨⟨_, Try.underlying136, rfl, fun h => (Bool.noConfusion h)⟩, ⟨_, _, Try.type136, rfl, rfl, rfl, rfl, by kernel_rfl, by kernel_rfl⟩⟩
theorem Try.ty137 : TyOk Try.prog 137 ⟨.func, 1, 8, .nilfn, false, false⟩ := ⟨⟨_, Try.underlying137, rfl, fun h => (Bool.noConfusion h)⟩, ⟨_, _, Try.type137, rfl, rfl, rfl, rfl, rfl, rfl⟩⟩
theorem Try.ty138 : TyOk Try.prog 138 ⟨.func, 1, 8, .nilfn, false, false⟩ := ⟨⟨_, Try.underlying138, rfl, fun h => (Bool.noConfusion h)⟩, ⟨_, _, Try.type138, rfl, rfl, rfl, rfl, rfl, rfl⟩⟩
theorem Try.ty139 : TyOk Try.prog 139 ⟨.func, 1, 8, .nilfn, false, false⟩ := ⟨⟨_, Try.underlying139, rfl, fun h => (Bool.noConfusion h)⟩, ⟨_, _, Try.type139, rfl, rfl, rfl, rfl, rfl, rfl⟩⟩
theorem Try.ty140 : TyOk Try.prog 140 ⟨.int .u64, 1, 8, .int .u64 0, true, false⟩ := ⟨⟨_, Try.underlying140, rfl, fun h => (Bool.noConfusion h)⟩, ⟨_, _, Try.type140, rfl, rfl, rfl, rfl, rfl, rfl⟩⟩
theorem Try.ty141 : TyOk Try.prog 141 ⟨.func, 1, 8, .nilfn, false, false⟩ := ⟨⟨_, Try.underlying141, rfl, fun h => (Bool.noConfusion h)⟩, ⟨_, _, Try.type141, rfl, rfl, rfl, rfl, rfl, rfl⟩⟩
theorem Try.ty142 : TyOk Try.prog 142 ⟨.struct [(3, 0), (3, 1)], 2, 16, .agg [.int .i64 0, .int .i64 0], true, true⟩ := ⟨⟨_, Try.underlying142, rfl, fun _ => ⟨rfl, by kernel_rfl, by kernel_rfl⟩⟩, ⟨_, _, Try.type142, rfl, rfl, rfl, rfl, rfl, rfl⟩⟩
theorem Try.ty143 : TyOk Try.prog 143 ⟨.struct [(3, 0), (3, 1)], 2, 16, .agg [.int .i64 0, .int .i64 0], true, true⟩ := ⟨⟨_, Try.underlying143, rfl, fun _ => ⟨rfl, by kernel_rfl, by kernel_rfl⟩⟩, ⟨_, _, Try.type143, rfl, rfl, rfl, rfl, rfl, rfl⟩⟩
theorem Try.ty144 : TyOk Try.prog 144 ⟨.func, 1, 8, .nilfn, false, false⟩ := ⟨⟨_, Try.underlying144, rfl, fun h => (Bool.noConfusion h)⟩, ⟨_, _, Try.type144, rfl, rfl, rfl, rfl, rfl, rfl⟩⟩
theorem Try.ty145 : TyOk Try.prog 145 ⟨.func, 1, 8, .nilfn, false, false⟩ := ⟨⟨_, Try.underlying145, rfl, fun h => (Bool.noConfusion h)⟩, ⟨_, _, Try.type145, rfl, rfl, rfl, rfl, rfl, rfl⟩⟩
theorem Try.ty146 : TyOk Try.prog 146 ⟨.array 6 9, 6, 96, .agg [.str [], .str [], .str [], .str [], .str [], .str []], true, false⟩ := ⟨⟨_, Try.underlying146, rfl, fun h => (Bool.noConfusion h)⟩, ⟨_, _, Try.type146, rfl, rfl, rfl, rfl, rfl, rfl⟩⟩
theorem Try.ty147 : TyOk Try.prog 147 ⟨.array 6 3, 6, 48, .agg [.int .i64 0, .int .i64 0, .int .i64 0, .int .i64 0, .int .i64 0, .int .i64 0], true, false⟩ := ⟨⟨_, Try.underlying147, rfl, fun h => (Bool.noConfusion h)⟩, ⟨_, _, Try.type147, rfl, rfl, rfl, rfl, rfl, rfl⟩⟩
theorem Try.ty148 : TyOk Try.prog 148 ⟨.ptr 5, 1, 8, .nilp, true, false⟩ := ⟨⟨_, Try.underlying148, rfl, fun h => (Bool.noConfusion h)⟩, ⟨_, _, Try.type148, rfl, rfl, rfl, rfl, rfl, rfl⟩⟩
theorem Try.ty149 : TyOk Try.prog 149 ⟨.func, 1, 8, .nilfn, false, false⟩ := ⟨⟨_, Try.underlying149, rfl, fun h => (Bool.noConfusion h)⟩, ⟨_, _, Try.type149, rfl, rfl, rfl, rfl, rfl, rfl⟩⟩
theorem Try.ty150 : TyOk Try.prog 150 ⟨.func, 1, 8, .nilfn, false, false⟩ := ⟨⟨_, Try.underlying150, rfl, fun h => (Bool.noConfusion h)⟩, ⟨_, _, Try.type150, rfl, rfl, rfl, rfl, rfl, rfl⟩⟩
theorem Try.ty151 : TyOk Try.prog 151 ⟨.slice 38, 1, 24, .nils, false, false⟩ := ⟨⟨_, Try.underlying151, rfl, fun h => (Bool.noConfusion h)⟩, ⟨_, _, Try.type151, rfl, rfl, rfl, rfl, rfl, rfl⟩⟩
theorem Try.ty153 : TyOk Try.prog 153 ⟨.func, 1, 8, .nilfn, false, false⟩ := ⟨⟨_, Try.underlying153, rfl, fun h => (Bool.noConfusion h)⟩, ⟨_, _, Try.type153, rfl, rfl, rfl, rfl, rfl, rfl⟩⟩
theorem Try.ty154 : TyOk Try.prog 154 ⟨.func, 1, 8, .nilfn, false, false⟩ := ⟨⟨_, Try.underlying154, rfl, fun h => (Bool.noConfusion h)⟩, ⟨_, _, Try.type154, rfl, rfl, rfl, rfl, rfl, rfl⟩⟩
theorem Try.ty155 : TyOk Try.prog 155 ⟨.func, 1, 8, .nilfn, false, false⟩ := ⟨⟨_, Try.underlying155, rfl, fun h => (Bool.noConfusion h)⟩, ⟨_, _, Try.type155, rfl, rfl, rfl, rfl, rfl, rfl⟩⟩
theorem Try.ty156 : TyOk Try.prog 156 ⟨.func, 1, 8, .nilfn, false, false⟩ := ⟨⟨_, Try.underlying156, rfl, fun h => (Bool.noConfusion h)⟩, ⟨_, _, Try.type156, rfl, rfl, rfl, rfl, rfl, rfl⟩⟩
theorem Try.ty157 : TyOk Try.prog 157 ⟨.struct [(17, 0), (17, 1), (17, 2), (9, 3)], 4, 40, .agg [.nilp, .nilp, .nilp, .str []], true, false⟩ := ⟨⟨_, Try.underlying157, rfl, fun h => (Bool.noConfusion h)⟩, ⟨_, _, Try.type157, rfl, rfl, rfl, rfl, rfl, rfl⟩⟩
theorem Try.ty158 : TyOk Try.prog 158 ⟨.struct [(17, 0), (17, 1), (17, 2), (9, 3)], 4, 40, .agg [.nilp, .nilp, .nilp, .str []], true, false⟩ := ⟨⟨_, Try.underlying158, rfl, fun h => (Bool.noConfusion h)⟩, ⟨_, _, Try.type158, rfl, rfl, rfl, rfl, rfl, rfl⟩⟩
theorem Try.ty159 : TyOk Try.prog 159 ⟨.array 0 16, 0, 0, .agg [], true, false⟩ := ⟨⟨_, Try.underlying159, rfl, fun h => (Bool.noConfusion h)⟩, ⟨_, _, Try.type159, rfl, rfl, rfl, rfl, rfl, rfl⟩⟩
theorem Try.ty160 : TyOk Try.prog 160 ⟨.struct [(159, 0)], 0, 0, .agg [], true, false⟩ := ⟨⟨_, Try.underlying160, rfl, fun h => (Bool.noConfusion h)⟩, ⟨_, _, Try.type160, rfl, rfl, rfl, rfl, rfl, rfl⟩⟩
theorem Try.ty161 : TyOk Try.prog 161 ⟨.struct [(159, 0)], 0, 0, .agg [], true, false⟩ := ⟨⟨_, Try.underlying161, rfl, fun h => (Bool.noConfusion h)⟩, ⟨_, _, Try.type161, rfl, rfl, rfl, rfl, rfl, rfl⟩⟩
theorem Try.ty162 : TyOk Try.prog 162 ⟨.func, 1, 8, .nilfn, false, false⟩ := ⟨⟨_, Try.underlying162, rfl, fun h => (Bool.noConfusion h)⟩, ⟨_, _, Try.type162, rfl, rfl, rfl, rfl, rfl, rfl⟩⟩
theorem Try.ty163 : TyOk Try.prog 163 ⟨.int .u8, 1, 1, .int .u8 0, true, false⟩ := ⟨⟨_, Try.underlying163, rfl, fun h => (Bool.noConfusion h)⟩, ⟨_, _, Try.type163, rfl, rfl, rfl, rfl, rfl, rfl⟩⟩
theorem Try.ty164 : TyOk Try.prog 164 ⟨.int .u8, 1, 1, .int .u8 0, true, false⟩ := ⟨⟨_, Try.underlying164, rfl, fun h => (Bool.noConfusion h)⟩, ⟨_, _, Try.type164, rfl, rfl, rfl, rfl, rfl, rfl⟩⟩
theorem Try.ty165 : TyOk Try.prog 165 ⟨.func, 1, 8, .nilfn, false, false⟩ := ⟨⟨_, Try.underlying165, rfl, fun h => (Bool.noConfusion h)⟩, ⟨_, _, Try.type165, rfl, rfl, rfl, rfl, rfl, rfl⟩⟩
theorem Try.ty166 : TyOk Try.prog 166 ⟨.int .i32, 1, 4, .int .i32 0, true, false⟩ := ⟨⟨_, Try.underlying166, rfl, fun h => (Bool.noConfusion h)⟩, ⟨_, _, Try.type166, rfl, rfl, rfl, rfl, rfl, rfl⟩⟩
theorem Try.ty167 : TyOk Try.prog 167 ⟨.int .i32, 1, 4, .int .i32 0, true, false⟩ := ⟨⟨_, Try.underlying167, rfl, fun h => (Bool.noConfusion h)⟩, ⟨_, _, Try.type167, rfl, rfl, rfl, rfl, rfl, rfl⟩⟩
theorem Try.ty168 : TyOk Try.prog 168 ⟨.struct [(12, 0), (12, 1), (52, 2), (163, 3), (5, 4), (5, 5), (164, 6), (165, 7), (148, 8), (166, 9), (167, 10)], 11, 48, .agg [.int .u64 0, .int .u64 0, .int .u32 0, .int .u8 0, .int .u8 0, .int .u8 0, .int .u8 0, .nilfn, .nilp, .int .i32 0, .int .i32 0], false, false⟩ := ⟨⟨_, Try.underlying168, rfl, fun h => (Bool.noConfusion h)⟩, ⟨_, _, Try.type168, rfl, rfl, rfl, rfl, rfl, rfl⟩⟩
theorem Try.ty169 : TyOk Try.prog 169 ⟨.struct [(12, 0), (12, 1), (52, 2), (163, 3), (5, 4), (5, 5), (164, 6), (165, 7), (148, 8), (166, 9), (167, 10)], 11, 48, .agg [.int .u64 0, .int .u64 0, .int .u32 0, .int .u8 0, .int .u8 0, .int .u8 0, .int .u8 0, .nilfn, .nilp, .int .i32 0, .int .i32 0], false, false⟩ := ⟨⟨_, Try.underlying169, rfl, fun h => (Bool.noConfusion h)⟩, ⟨_, _, Try.type169, rfl, rfl, rfl, rfl, rfl, rfl⟩⟩
def Try.T : Tab := tabOf Try.tyL
theorem Try.tabOk : TabOk Try.prog Try.T := TabOk.of ⟨Try.ty1, Try.ty2, Try.ty3, Try.ty4, Try.ty5, Try.ty6, Try.ty7, Try.ty8, Try.ty9, Try.ty10, Try.ty11, Try.ty12, Try.ty13, Try.ty14, Try.ty15, Try.ty16, Try.ty17, Try.ty18, Try.ty19, Try.ty20, Try.ty21, Try.ty22, Try.ty23, Try.ty24, Try.ty25, Try.ty26, Try.ty27, Try.ty28, Try.ty29, Try.ty30, Try.ty31, Try.ty32, Try.ty33, Try.ty34, Try.ty35, Try.ty36, Try.ty37, Try.ty38, Try.ty39, Try.ty40, Try.ty41, Try.ty42, Try.ty43, Try.ty44, Try.ty45, Try.ty46, Try.ty47, Try.ty48, Try.ty49, Try.ty50, Try.ty51, Try.ty52, Try.ty53, Try.ty54, Try.ty55, Try.ty56, Try.ty57, Try.ty58, Try.ty59, Try.ty60, Try.ty62, Try.ty64, Try.ty65, Try.ty66, Try.ty67, Try.ty68, Try.ty69, Try.ty70, Try.ty71, Try.ty72, Try.ty73, Try.ty75, Try.ty76, Try.ty77, Try.ty78, Try.ty79, Try.ty80, Try.ty81, Try.ty82, Try.ty83, Try.ty84, Try.ty85, Try.ty86, Try.ty87, Try.ty88, Try.ty89, Try.ty90, Try.ty92, Try.ty93, Try.ty94, Try.ty95, Try.ty96, Try.ty97, Try.ty98, Try.ty99, Try.ty100, Try.ty101, Try.ty102, Try.ty103, Try.ty104, Try.ty105, Try.ty106, Try.ty107, Try.ty108, Try.ty109, Try.ty110, Try.ty111, Try.ty112, Try.ty114, Try.ty115, Try.ty116, Try.ty117, Try.ty118, Try.ty119, Try.ty120, Try.ty121, Try.ty122, Try.ty123, Try.ty124, Try.ty125, Try.ty126, Try.ty127, Try.ty128, Try.ty129, Try.ty130, Try.ty131, Try.ty133, Try.ty134, Try.ty135, Try.ty136, Try.ty137, Try.ty138, Try.ty139, Try.ty140, Try.ty141, Try.ty142, Try.ty143, Try.ty144, Try.ty145, Try.ty146, Try.ty147, Try.ty148, Try.ty149, Try.ty150, Try.ty151, Try.ty153, Try.ty154, Try.ty155, Try.ty156, Try.ty157, Try.ty158, Try.ty159, Try.ty160, Try.ty161, Try.ty162, Try.ty163, Try.ty164, Try.ty165, Try.ty166, Try.ty167, Try.ty168, Try.ty169, trivial⟩
end Go.Proofs
end
section
/- The program's data, and that what comes in reads as such. -/
namespace Go.Proofs
open Go.Pm

abbrev Str := List UInt8
structure Obj where
  id : Str
  kind : Int
  x : Int
  y : Int
  refs : List Str
  tags : List (Str × Str)

instance : Inhabited Obj := ⟨⟨[], 0, 0, 0, [], []⟩⟩

def encStrs (L : List Str) : D := .tab 1 L.length fun i => .str (L.getD i [])
def encTag (p : Str × Str) : D := .agg [.str p.1, .str p.2]
def encTags (L : List (Str × Str)) : D := .tab 2 L.length fun i => encTag (L.getD i ([], []))
def encObj (o : Obj) : D := .agg [.str o.id, .int .i64 o.kind, .int .i64 o.x, .int .i64 o.y, encStrs o.refs, encTags o.tags]
def encObjs (L : List Obj) : D := .tab 6 L.length fun i => encObj (L.getD i default)
def encMap (L : List Obj) : D := .agg [encObjs L]

def goodStrs (L : List Str) : Prop := L.length ≤ maxLen ∧ ∀ s ∈ L, s.length ≤ maxLen
def goodTags (L : List (Str × Str)) : Prop := L.length ≤ maxLen ∧ ∀ p ∈ L, p.1.length ≤ maxLen ∧ p.2.length ≤ maxLen
def goodObj (o : Obj) : Prop := o.id.length ≤ maxLen ∧ rng .i64 o.kind ∧ rng .i64 o.x ∧ rng .i64 o.y ∧ goodStrs o.refs ∧ goodTags o.tags
def goodObjs (L : List Obj) : Prop := L.length ≤ maxLen ∧ ∀ o ∈ L, goodObj o

section
variable (W : World)
theorem Try.readStr : Reads Try.prog W 9 D.str fun s => s.length ≤ maxLen := reads_str Try.underlying9
theorem Try.readInt : Reads Try.prog W 3 (D.int .i64) fun n => rng .i64 n := reads_int Try.underlying3
theorem Try.readStrs : Reads Try.prog W 39 encStrs goodStrs :=
  reads_slice Try.underlying39 [] (Try.readStr W) (fun _ => rfl) (by kernel_rfl)
theorem Try.readTag : Reads Try.prog W 96 encTag (fun p => p.1.length ≤ maxLen ∧ p.2.length ≤ maxLen) :=
  Reads.map (reads_struct (n := 2) Try.underlying96 (readsF_cons (sz := 1) (Try.readStr W) (fun _ => rfl) (readsF_cons (sz := 1) (Try.readStr W) (fun _ => rfl) readsF_nil rfl) rfl) (by kernel_rfl)) _ _
    fun ⟨a, b, _⟩ ⟨h1, h2, _⟩ => ⟨(a, b), ⟨h1, h2⟩, rfl⟩
theorem Try.readTags : Reads Try.prog W 40 encTags goodTags :=
  reads_slice Try.underlying40 ([], []) (Try.readTag W) (fun _ => rfl) (by kernel_rfl)
theorem Try.readPoint : Reads Try.prog W 38 (fun p : Int × Int => .agg [.int .i64 p.1, .int .i64 p.2]) (fun p => rng .i64 p.1 ∧ rng .i64 p.2) :=
  Reads.map (reads_struct (n := 2) Try.underlying38 (readsF_cons (sz := 1) (Try.readInt W) (fun _ => rfl) (readsF_cons (sz := 1) (Try.readInt W) (fun _ => rfl) readsF_nil rfl) rfl) (by kernel_rfl)) _ _
    fun ⟨a, b, _⟩ ⟨h1, h2, _⟩ => ⟨(a, b), ⟨h1, h2⟩, rfl⟩
theorem Try.readObj : Reads Try.prog W 42 encObj goodObj :=
  Reads.map (reads_struct (n := 6) Try.underlying42 (readsF_cons (sz := 1) (Try.readStr W) (fun _ => rfl) (readsF_cons (sz := 1) (Try.readInt W) (fun _ => rfl)
    (readsF_cons (sz := 2) (Try.readPoint W) (fun _ => rfl) (readsF_cons (sz := 1) (Try.readStrs W) (fun _ => rfl) (readsF_cons (sz := 1) (Try.readTags W) (fun _ => rfl) readsF_nil rfl) rfl) rfl) rfl) rfl) (by kernel_rfl)) _ _
    fun ⟨a, b, c, d, e, _⟩ ⟨h1, h2, h3, h4, h5, _⟩ => ⟨⟨a, b, c.1, c.2, d, e⟩, ⟨h1, h2, h3.1, h3.2, h4, h5⟩, rfl⟩
theorem Try.readObjs : Reads Try.prog W 22 encObjs goodObjs :=
  reads_slice Try.underlying22 default (Try.readObj W) (fun _ => rfl) (by kernel_rfl)
theorem Try.readMap : Reads Try.prog W 24 encMap goodObjs :=
  Reads.map (reads_struct (n := 1) Try.underlying24 (readsF_cons (sz := 1) (Try.readObjs W) (fun _ => rfl) readsF_nil rfl) (by kernel_rfl)) _ _
    fun ⟨a, _⟩ ⟨h1, _⟩ => ⟨a, h1, rfl⟩
end
end Go.Proofs
end
section
/- Contracts: the small searches. -/
namespace Go.Proofs
open Go.Pm
set_option maxRecDepth 100000
theorem Try.mixed : Try.prog.follows .mixedOrders = true := by kernel_rfl

def idx (L : List Str) (v : Str) : Int := match L.findIdx? (fun s => v == s) with
  | some i => i
  | none => -1

theorem idx_found {L : List Str} {v : Str} {i : Nat} (hi : i < L.length) (hv : v = L.getD i []) (h : ∀ j, j < i → v ≠ L.getD j []) : idx L v = i := by
  have : L.findIdx? (fun s => v == s) = some i := by
    rw [List.findIdx?_eq_some_iff_getElem]
    refine ⟨hi, by simp [hv, List.getD_eq_getElem?_getD, hi], fun j hj => ?_⟩
    have := h j hj
    have hj' : j < L.length := by omega
    simpa [List.getD_eq_getElem?_getD, hj'] using this
  simp [idx, this]
theorem idx_none {L : List Str} {v : Str} (h : ∀ j, j < L.length → v ≠ L.getD j []) : idx L v = -1 := by
  have : L.findIdx? (fun s => v == s) = none := by
    rw [List.findIdx?_eq_none_iff]
    intro x hx
    obtain ⟨j, hj, rfl⟩ := List.mem_iff_getElem.1 hx
    have := h j hj
    simpa [List.getD_eq_getElem?_getD, hj] using this
  simp [idx, this]

theorem c77 (L : List Str) (v : Str) : PCall Try.prog 77 [.d (encStrs L), .d (.str v)] fun x => x = .d (.int .i64 (idx L v)) := by
  refine PCall.intro Try.tabOk Try.f77 _ Try.func77 rfl (by decide) rfl fun z => ?_
  repeat' first
    | (with_reducible refine AW.seq ?_)
    | ((with_reducible refine AW.region Try.tabOk ?_); (conv => whnf))
    | ((with_reducible refine AW.block ?_))
    | (intro hlen; (conv => whnf))
  refine AW.loopX (X := Nat) (fun i => ⟨[(0, .d (encStrs L)), (1, .d (.str v)), (7, .d (.int .i64 (L.length : Int))), (8, .d (.int .i64 (i : Int)))], Heap.none, none, z⟩)
    (fun i => i ≤ L.length ∧ ∀ j, j < i → v ≠ L.getD j []) (fun i => L.length - i) 0 ⟨by omega, fun j h => by omega⟩ ⟨rfl, rfl, rfl, trivial, ⟨AV.le_refl _, AV.le_refl _, AV.le_refl _, AV.le_refl _, trivial⟩⟩ ?_
  intro i ⟨hi, hw⟩
  repeat' first
    | (with_reducible refine AW.seq ?_)
    | ((with_reducible refine AW.region Try.tabOk ?_); (conv => whnf))
    | ((with_reducible refine AW.ret ?_); (conv => whnf))
    | ((with_reducible refine AW.block ?_))
    | ((with_reducible refine AW.exit ?_); (conv => whnf))
    | ((with_reducible refine AW.skip ?_); (conv => whnf))
    | ((with_reducible refine AW.cond ?_); (conv => whnf))
    | ((with_reducible apply Or.inl); (with_reducible apply And.intro); (focus (simp only [rng]; omega)); (conv => whnf))
    | ((with_reducible apply And.intro); (focus (first | omega | (exact True.intro) | (simp; omega) | (exact Nat.le_of_ble_eq_true rfl) | (exact ⟨rfl, Nat.le_of_ble_eq_true rfl⟩) | (exact ⟨Nat.le_of_ble_eq_true rfl, Nat.le_of_ble_eq_true rfl⟩) | (intro hg; first | (simp; first | done | fail) | (simp at hg ⊢; exact hg) | (simp at hg; exact hg) | exact hg))); (conv => whnf))
    | ((with_reducible apply And.intro) <;> (intro hb; (try simp at hb); (try (exfalso; first | omega | (simp_all; first | done | fail))); (try (conv => whnf))))
  · rename_i hit
    rw [idx_found hit (by simpa using hb) hw]
  · rename_i hit
    exact .mk (i + 1) ⟨by omega, fun j hj => by
      by_cases e : j = i
      · subst e; simpa using hb
      · exact hw j (by omega)⟩ (by show L.length - (i + 1) < L.length - i; omega) ⟨rfl, rfl, rfl, trivial, ⟨AV.le_refl _, AV.le_refl _, AV.le_refl _, AV.le_refl _, trivial⟩⟩
  · rw [idx_none fun j hj => hw j (by omega)]

theorem idx_nonneg {L : List Str} {v : Str} {i : Nat} (hi : i < L.length) (hv : v = L.getD i []) : 0 ≤ idx L v := by
  unfold idx
  cases h : L.findIdx? (fun s => v == s) with
  | some j => simp
  | none =>
    rw [List.findIdx?_eq_none_iff] at h
    have := h L[i] (by simp)
    simp [hv, List.getD_eq_getElem?_getD, hi] at this

theorem c57 (L : List Str) (v : Str) : PCall Try.prog 57 [.d (encStrs L), .d (.str v)] fun x => x = .d (.bool (decide (0 ≤ idx L v))) := by
  refine PCall.intro Try.tabOk Try.f57 _ Try.func57 rfl (by decide) rfl fun z => ?_
  repeat' first
    | (with_reducible refine AW.seq ?_)
    | ((with_reducible refine AW.region Try.tabOk ?_); (conv => whnf))
    | ((with_reducible refine AW.ret ?_); (conv => whnf))
    | ((with_reducible refine ACall.id ?_); (refine PCall.call (by first | exact c77 _ _) rfl ?_); (intro x hx; first | subst hx | (obtain ⟨l_, rfl, hl_⟩ := hx.out)); (conv => whnf))

theorem c31 (L : List Str) (v : Str) : PCall Try.prog 31 [.d (encStrs L), .d (.str v)] fun x => x = .d (.bool (decide (0 ≤ idx L v))) := by
  refine PCall.intro Try.tabOk Try.f31 _ Try.func31 rfl (by decide) rfl fun z => ?_
  repeat' first
    | (with_reducible refine AW.seq ?_)
    | ((with_reducible refine AW.region Try.tabOk ?_); (conv => whnf))
    | ((with_reducible refine AW.block ?_))
  refine AW.loopX (X := Nat) (fun i => ⟨[(0, .d (encStrs L)), (1, .d (.str v)), (5, .d (.int .i64 (i : Int)))], Heap.none, none, z⟩)
    (fun i => i ≤ L.length ∧ ∀ j, j < i → v ≠ L.getD j []) (fun i => L.length - i) 0 ⟨by omega, fun j h => by omega⟩ ⟨rfl, rfl, rfl, trivial, ⟨AV.le_refl _, AV.le_refl _, AV.le_refl _, trivial⟩⟩ ?_
  intro i ⟨hi, hw⟩
  repeat' first
    | (with_reducible refine AW.seq ?_)
    | ((with_reducible refine AW.region Try.tabOk ?_); (conv => whnf))
    | ((with_reducible refine AW.ret ?_); (conv => whnf))
    | ((with_reducible refine AW.block ?_))
    | ((with_reducible refine AW.exit ?_); (conv => whnf))
    | ((with_reducible refine AW.skip ?_); (conv => whnf))
    | ((with_reducible refine AW.cond ?_); (conv => whnf))
    | ((with_reducible apply Or.inl); (with_reducible apply And.intro); (focus (simp only [rng]; omega)); (conv => whnf))
    | ((with_reducible apply And.intro); (focus (first | omega | (exact True.intro) | (simp; omega) | (exact Nat.le_of_ble_eq_true rfl) | (exact ⟨rfl, Nat.le_of_ble_eq_true rfl⟩) | (exact ⟨Nat.le_of_ble_eq_true rfl, Nat.le_of_ble_eq_true rfl⟩) | (intro hg; first | (simp; first | done | fail) | (simp at hg ⊢; exact hg) | (simp at hg; exact hg) | exact hg))); (conv => whnf))
    | ((with_reducible apply And.intro) <;> (intro hb; (try simp at hb); (try (exfalso; first | omega | (simp_all; first | done | fail))); (try (conv => whnf))))
    | (intro hlen; (conv => whnf))
  · rename_i hit
    have := idx_nonneg hit (v := v) (by simpa using hb.symm)
    simp [this]
  · rename_i hit
    exact .mk (i + 1) ⟨by omega, fun j hj => by
      by_cases e : j = i
      · subst e; simpa using fun h => hb h.symm
      · exact hw j (by omega)⟩ (by show L.length - (i + 1) < L.length - i; omega) ⟨rfl, rfl, rfl, trivial, ⟨AV.le_refl _, AV.le_refl _, AV.le_refl _, trivial⟩⟩
  · rw [idx_none fun j hj => hw j (by omega)]; rfl

instance : Inhabited (List Obj) := ⟨[]⟩
def ids (m : List Obj) : List Str := m.map (·.id)

theorem c30 (m : List Obj) (v : Str) : PCall Try.prog 30 [.d (encMap m), .d (.str v)] fun x => x = .d (.int .i64 (idx (ids m) v)) := by
  refine PCall.intro Try.tabOk Try.f30 _ Try.func30 rfl (by decide) rfl fun z => ?_
  repeat' first
    | (with_reducible refine AW.seq ?_)
    | ((with_reducible refine AW.region Try.tabOk ?_); (conv => whnf))
    | ((with_reducible refine AW.block ?_))
  refine AW.loopX (X := Nat) (fun i => ⟨[(2, .ptr 0 0), (1, .d (.str v)), (5, .d (.int .i64 (i : Int)))], ⟨[(0, .var [.d (encObjs m)] 24)], 1⟩, none, z⟩)
    (fun i => i ≤ m.length ∧ ∀ j, j < i → v ≠ (ids m).getD j []) (fun i => m.length - i) 0 ⟨by omega, fun j h => by omega⟩ ⟨rfl, rfl, rfl, ⟨OLe.refl _, trivial⟩, ⟨AV.le_refl _, AV.le_refl _, AV.le_refl _, trivial⟩⟩ ?_
  intro i ⟨hi, hw⟩
  repeat' first
    | (with_reducible refine AW.seq ?_)
    | ((with_reducible refine AW.region Try.tabOk ?_); (conv => whnf))
    | ((with_reducible refine AW.ret ?_); (conv => whnf))
    | ((with_reducible refine AW.block ?_))
    | ((with_reducible refine AW.exit ?_); (conv => whnf))
    | ((with_reducible refine AW.skip ?_); (conv => whnf))
    | ((with_reducible refine AW.cond ?_); (conv => whnf))
    | ((with_reducible apply Or.inl); (with_reducible apply And.intro); (focus (simp only [rng]; omega)); (conv => whnf))
    | ((with_reducible apply And.intro); (focus (first | omega | (exact True.intro) | (simp; omega) | (exact Nat.le_of_ble_eq_true rfl) | (exact ⟨rfl, Nat.le_of_ble_eq_true rfl⟩) | (exact ⟨Nat.le_of_ble_eq_true rfl, Nat.le_of_ble_eq_true rfl⟩) | (intro hg; first | (simp; first | done | fail) | (simp at hg ⊢; exact hg) | (simp at hg; exact hg) | exact hg))); (conv => whnf))
    | ((with_reducible apply And.intro) <;> (intro hb; (try simp at hb); (try (exfalso; first | omega | (simp_all; first | done | fail))); (try (conv => whnf))))
    | (intro hlen; (conv => whnf))
  · rename_i hit
    rw [idx_found (i := i) (by simpa [ids] using hit) (by simpa [ids, hit] using hb.symm) hw]
  · rename_i hit
    exact .mk (i + 1) ⟨by omega, fun j hj => by
      by_cases e : j = i
      · subst e; simpa [ids, hit] using fun h => hb (by simpa [hit] using h.symm)
      · exact hw j (by omega)⟩ (by show m.length - (i + 1) < m.length - i; omega) ⟨rfl, rfl, rfl, ⟨OLe.refl _, trivial⟩, ⟨AV.le_refl _, AV.le_refl _, AV.le_refl _, trivial⟩⟩
  · rw [idx_none fun j hj => hw j (by simp [ids] at hj; omega)]
end Go.Proofs
end
section
/- Contracts: the reference's names. -/
namespace Go.Proofs
open Go.Pm
set_option maxRecDepth 100000

def digit (c : UInt8) : Bool := decide (48 ≤ c.toNat) && decide (c.toNat ≤ 57)
def letter (c : UInt8) : Bool := decide (97 ≤ c.toNat) && decide (c.toNat ≤ 122) || decide (65 ≤ c.toNat) && decide (c.toNat ≤ 90)
def word (c : UInt8) : Bool := letter c || digit c || decide (c.toNat = 95)

theorem c128 (c : UInt8) : PCall Try.prog 128 [.d (.int .u8 c.toNat)] (fun x => x = .d (.bool (digit c))) := by
  refine PCall.intro Try.tabOk Try.f128 _ Try.func128 rfl (by decide) rfl fun z => ?_
  repeat' first
    | (with_reducible refine AW.seq ?_)
    | ((with_reducible refine AW.region Try.tabOk ?_); (conv => whnf))
    | ((with_reducible refine AW.ret ?_); (conv => whnf))
    | ((with_reducible apply Or.inl); apply Exists.intro; apply And.intro; (focus (intro hg; (conv => whnf); (repeat' first | (with_reducible exact ⟨rfl, rfl⟩) | ((with_reducible refine Own2.data ?_); (conv => whnf)) | (refine ⟨true, _, rfl, ?_⟩; (conv => whnf)) | (refine ⟨false, .nilp, rfl, ?_⟩; (conv => whnf)) | (refine ⟨_, _, by first | fail, ?_⟩; (conv => whnf)) | ((with_reducible apply Or.inl); (refine ⟨rfl, rfl, ?_⟩); (conv => whnf)) | ((with_reducible apply Or.inl); (with_reducible apply And.intro); (focus (simp only [rng]; omega)); (conv => whnf)) | (refine ⟨by first | omega | (simp at hg ⊢; omega) | (simp_all; first | done | fail), ?_⟩; (conv => whnf)) | ((with_reducible refine ACall.id ?_); (refine PCall.call (by first | fail) rfl ?_); (intro x hx; first | subst hx | (obtain ⟨l_, rfl, hl_⟩ := hx.out)); (conv => whnf)) | ((with_reducible apply Or.inr); (with_reducible apply And.intro) <;> (intro hb_; first | (cases hb_; done) | (conv => whnf))) | (intro hlen; (conv => whnf))); done)); (conv => whnf))
    | ((with_reducible apply And.intro); (focus (first | omega | (exact True.intro) | (simp; omega) | (exact Nat.le_of_ble_eq_true rfl) | (exact ⟨rfl, Nat.le_of_ble_eq_true rfl⟩) | (exact ⟨Nat.le_of_ble_eq_true rfl, Nat.le_of_ble_eq_true rfl⟩) | (intro hg; first | (simp; first | done | fail) | (simp at hg ⊢; exact hg) | (simp at hg; exact hg) | exact hg))); (conv => whnf))
  · congr 2; rw [Bool.eq_iff_iff]; simp [digit]; omega

theorem c125 (c : UInt8) : PCall Try.prog 125 [.d (.int .u8 c.toNat)] (fun x => x = .d (.bool (letter c))) := by
  refine PCall.intro Try.tabOk Try.f125 _ Try.func125 rfl (by decide) rfl fun z => ?_
  repeat' first
    | (with_reducible refine AW.seq ?_)
    | ((with_reducible refine AW.region Try.tabOk ?_); (conv => whnf))
    | ((with_reducible refine AW.ret ?_); (conv => whnf))
    | ((with_reducible apply Or.inl); apply Exists.intro; apply And.intro; (focus (intro hg; (conv => whnf); (repeat' first | (with_reducible exact ⟨rfl, rfl⟩) | ((with_reducible refine Own2.data ?_); (conv => whnf)) | (refine ⟨true, _, rfl, ?_⟩; (conv => whnf)) | (refine ⟨false, .nilp, rfl, ?_⟩; (conv => whnf)) | (refine ⟨_, _, by first | exact c128 _, ?_⟩; (conv => whnf)) | ((with_reducible apply Or.inl); (refine ⟨rfl, rfl, ?_⟩); (conv => whnf)) | ((with_reducible apply Or.inl); (with_reducible apply And.intro); (focus (simp only [rng]; omega)); (conv => whnf)) | (refine ⟨by first | omega | (simp at hg ⊢; omega) | (simp_all; first | done | fail), ?_⟩; (conv => whnf)) | ((with_reducible refine ACall.id ?_); (refine PCall.call (by first | exact c128 _) rfl ?_); (intro x hx; first | subst hx | (obtain ⟨l_, rfl, hl_⟩ := hx.out)); (conv => whnf)) | ((with_reducible apply Or.inr); (with_reducible apply And.intro) <;> (intro hb_; first | (cases hb_; done) | (conv => whnf))) | (intro hlen; (conv => whnf))); done)); (conv => whnf))
    | ((with_reducible apply And.intro); (focus (first | omega | (exact True.intro) | (simp; omega) | (exact Nat.le_of_ble_eq_true rfl) | (exact ⟨rfl, Nat.le_of_ble_eq_true rfl⟩) | (exact ⟨Nat.le_of_ble_eq_true rfl, Nat.le_of_ble_eq_true rfl⟩) | (intro hg; first | (simp; first | done | fail) | (simp at hg ⊢; exact hg) | (simp at hg; exact hg) | exact hg))); (conv => whnf))
  · congr 2; rw [Bool.eq_iff_iff]; simp [letter]; omega

theorem c124 (c : UInt8) : PCall Try.prog 124 [.d (.int .u8 c.toNat)] (fun x => x = .d (.bool (word c))) := by
  refine PCall.intro Try.tabOk Try.f124 _ Try.func124 rfl (by decide) rfl fun z => ?_
  repeat' first
    | (with_reducible refine AW.seq ?_)
    | ((with_reducible refine AW.region Try.tabOk ?_); (conv => whnf))
    | ((with_reducible refine AW.ret ?_); (conv => whnf))
    | ((with_reducible refine ACall.id ?_); (refine PCall.call (by first | exact c128 _ | exact c125 _) rfl ?_); (intro x hx; first | subst hx | (obtain ⟨l_, rfl, hl_⟩ := hx.out)); (conv => whnf))
    | ((with_reducible apply Or.inl); apply Exists.intro; apply And.intro; (focus (intro hg; (conv => whnf); (repeat' first | (with_reducible exact ⟨rfl, rfl⟩) | ((with_reducible refine Own2.data ?_); (conv => whnf)) | (refine ⟨true, _, rfl, ?_⟩; (conv => whnf)) | (refine ⟨false, .nilp, rfl, ?_⟩; (conv => whnf)) | (refine ⟨_, _, by first | exact c128 _ | exact c125 _, ?_⟩; (conv => whnf)) | ((with_reducible apply Or.inl); (refine ⟨rfl, rfl, ?_⟩); (conv => whnf)) | ((with_reducible apply Or.inl); (with_reducible apply And.intro); (focus (simp only [rng]; omega)); (conv => whnf)) | (refine ⟨by first | omega | (simp at hg ⊢; omega) | (simp_all; first | done | fail), ?_⟩; (conv => whnf)) | ((with_reducible refine ACall.id ?_); (refine PCall.call (by first | exact c128 _ | exact c125 _) rfl ?_); (intro x hx; first | subst hx | (obtain ⟨l_, rfl, hl_⟩ := hx.out)); (conv => whnf)) | ((with_reducible apply Or.inr); (with_reducible apply And.intro) <;> (intro hb_; first | (cases hb_; done) | (conv => whnf))) | (intro hlen; (conv => whnf))); done)); (conv => whnf))
    | ((with_reducible apply And.intro); (focus (first | omega | (exact True.intro) | (simp; omega) | (exact Nat.le_of_ble_eq_true rfl) | (exact ⟨rfl, Nat.le_of_ble_eq_true rfl⟩) | (exact ⟨Nat.le_of_ble_eq_true rfl, Nat.le_of_ble_eq_true rfl⟩) | (intro hg; first | (simp; first | done | fail) | (simp at hg ⊢; exact hg) | (simp at hg; exact hg) | exact hg))); (conv => whnf))
  · have h : ((c.toNat : Int) == 95) = decide (c.toNat = 95) := by
      rw [Bool.eq_iff_iff]; simp; omega
    congr 2
    rw [h]
    cases hl : letter c <;> cases hd : digit c <;> simp [word, hl, hd]

def nameB (t : Str) : Bool := t.all word && decide (0 < t.length) && decide (t.length ≤ 24) && letter (t.getD 0 0)

theorem c116 (t : Str) : PCall Try.prog 116 [.d (.str t)] (fun x => x = .d (.bool (nameB t))) := by
  refine PCall.intro Try.tabOk Try.f116 _ Try.func116 rfl (by decide) rfl fun z => ?_
  repeat' first
    | (with_reducible refine AW.seq ?_)
    | ((with_reducible refine AW.region Try.tabOk ?_); (conv => whnf))
    | ((with_reducible refine AW.block ?_))
  refine AW.loopX (X := Nat) (fun i => ⟨[(0, .d (.str t)), (3, .d (.int .i64 (i : Int)))], Heap.none, none, z⟩) (fun i => i ≤ t.length ∧ ∀ j, j < i → word (t.getD j 0) = true) (fun i => t.length - i) 0
    ⟨by omega, fun j h => by omega⟩ ⟨rfl, rfl, rfl, trivial, ⟨AV.le_refl _, AV.le_refl _, trivial⟩⟩ ?_
  intro i ⟨hi, hw⟩
  repeat' first
    | (with_reducible refine AW.seq ?_)
    | ((with_reducible refine AW.region Try.tabOk ?_); (conv => whnf))
    | ((with_reducible refine AW.ret ?_); (conv => whnf))
    | ((with_reducible refine AW.block ?_))
    | ((with_reducible refine AW.exit ?_); (conv => whnf))
    | ((with_reducible refine AW.skip ?_); (conv => whnf))
    | ((with_reducible refine AW.cond ?_); (conv => whnf))
    | ((with_reducible refine ACall.id ?_); (refine PCall.call (by first | exact c124 _ | exact c125 _) rfl ?_); (intro x hx; first | subst hx | (obtain ⟨l_, rfl, hl_⟩ := hx.out)); (conv => whnf))
    | ((with_reducible apply Or.inl); apply Exists.intro; apply And.intro; (focus (intro hg; (conv => whnf); (repeat' first | (with_reducible exact ⟨rfl, rfl⟩) | ((with_reducible refine Own2.data ?_); (conv => whnf)) | (refine ⟨true, _, rfl, ?_⟩; (conv => whnf)) | (refine ⟨false, .nilp, rfl, ?_⟩; (conv => whnf)) | (refine ⟨_, _, by first | exact c124 _ | exact c125 _, ?_⟩; (conv => whnf)) | ((with_reducible apply Or.inl); (refine ⟨rfl, rfl, ?_⟩); (conv => whnf)) | ((with_reducible apply Or.inl); (with_reducible apply And.intro); (focus (simp only [rng]; omega)); (conv => whnf)) | (refine ⟨by first | omega | (simp at hg ⊢; omega) | (simp_all; first | done | fail), ?_⟩; (conv => whnf)) | ((with_reducible refine ACall.id ?_); (refine PCall.call (by first | exact c124 _ | exact c125 _) rfl ?_); (intro x hx; first | subst hx | (obtain ⟨l_, rfl, hl_⟩ := hx.out)); (conv => whnf)) | ((with_reducible apply Or.inr); (with_reducible apply And.intro) <;> (intro hb_; first | (cases hb_; done) | (conv => whnf))) | (intro hlen; (conv => whnf))); done)); (conv => whnf))
    | ((with_reducible apply Or.inl); (with_reducible apply And.intro); (focus (simp only [rng]; omega)); (conv => whnf))
    | ((with_reducible apply And.intro); (focus (first | omega | (exact True.intro) | (simp; omega) | (exact Nat.le_of_ble_eq_true rfl) | (exact ⟨rfl, Nat.le_of_ble_eq_true rfl⟩) | (exact ⟨Nat.le_of_ble_eq_true rfl, Nat.le_of_ble_eq_true rfl⟩) | (intro hg; first | (simp; first | done | fail) | (simp at hg ⊢; exact hg) | (simp at hg; exact hg) | exact hg))); (conv => whnf))
    | ((with_reducible apply And.intro) <;> (intro hb; (try simp at hb); (try (exfalso; first | omega | (simp_all; first | done | fail))); (try (conv => whnf))))
    | (intro hlen; (conv => whnf))
  · rename_i hit
    have hf : t.all word = false := by
      rw [List.all_eq_false]
      refine ⟨t[i], by simp, ?_⟩
      simp [hit] at hb
      simp [hb]
    simp [nameB, hf]
  · rename_i hit
    refine .mk (i + 1) ⟨by omega, fun j hj => ?_⟩ (by show t.length - (i + 1) < t.length - i; omega) ⟨rfl, rfl, rfl, trivial, ⟨AV.le_refl _, AV.le_refl _, trivial⟩⟩
    by_cases hji : j = i
    · subst hji; simpa using hb
    · exact hw j (by omega)
  · have he : i = t.length := by omega
    subst he
    have hf : t.all word = true := by
      rw [List.all_eq_true]
      intro x hx
      obtain ⟨j, hj, rfl⟩ := List.mem_iff_getElem.1 hx
      have := hw j hj
      simpa [hj] using this
    congr 2
    simp only [nameB, hf]
    rw [Bool.eq_iff_iff]
    simp
    intros
    omega
end Go.Proofs
end
section
/- Contracts: equality of lists. -/
namespace Go.Proofs
open Go.Pm
set_option maxRecDepth 100000

theorem eq_of_getD {α : Type} {a b : List α} (d : α) (hl : a.length = b.length) (h : ∀ j, j < a.length → a.getD j d = b.getD j d) : a = b := by
  apply List.ext_getElem hl
  intro i h1 h2
  have := h i h1
  simpa [List.getD_eq_getElem?_getD, h1, h2] using this

theorem c65 (a b : List Str) : PCall Try.prog 65 [.d (encStrs a), .d (encStrs b)] (fun x => x = .d (.bool (a == b))) := by
  refine PCall.intro Try.tabOk Try.f65 _ Try.func65 rfl (by decide) rfl fun z => ?_
  repeat' first
    | (with_reducible refine AW.seq ?_)
    | ((with_reducible refine AW.region Try.tabOk ?_); (conv => whnf))
    | ((with_reducible refine AW.ret ?_); (conv => whnf))
    | ((with_reducible refine AW.block ?_))
    | ((with_reducible refine AW.skip ?_); (conv => whnf))
    | ((with_reducible refine AW.cond ?_); (conv => whnf))
    | ((with_reducible apply And.intro) <;> (intro hb; (try simp at hb); (try (exfalso; first | omega | (simp_all; first | done | fail))); (try (conv => whnf))))
    | (intro hlen; (conv => whnf))
  · have : (a == b) = false := Bool.eq_false_iff.2 fun h => hb (by rw [eq_of_beq h])
    rw [this]
  have hab : a.length = b.length := by omega
  refine AW.loopX (X := Nat) (fun i => ⟨[(0, .d (encStrs a)), (1, .d (encStrs b)), (5, .d (.int .i64 (i : Int)))], Heap.none, none, z⟩)
    (fun i => i ≤ a.length ∧ ∀ j, j < i → a.getD j [] = b.getD j []) (fun i => a.length - i) 0 ⟨by omega, fun j h => by omega⟩ ⟨rfl, rfl, rfl, trivial, ⟨AV.le_refl _, AV.le_refl _, AV.le_refl _, trivial⟩⟩ ?_
  intro i ⟨hi, hw⟩
  repeat' first
    | (with_reducible refine AW.seq ?_)
    | ((with_reducible refine AW.region Try.tabOk ?_); (conv => whnf))
    | ((with_reducible refine AW.draw Try.tabOk Try.mixed ?_ ?_); (focus rfl); (conv => whnf))
    | ((with_reducible refine AW.ret ?_); (conv => whnf))
    | ((with_reducible refine AW.block ?_))
    | ((with_reducible refine AW.exit ?_); (conv => whnf))
    | ((with_reducible refine AW.skip ?_); (conv => whnf))
    | ((with_reducible refine AW.cond ?_); (conv => whnf))
    | (refine ⟨_, ⟨rfl, rfl⟩, ?_⟩; (conv => whnf))
    | (apply Exists.intro; apply And.intro; (focus (first | (intro hg; (conv => whnf)) | (conv => whnf)); (repeat' first | (with_reducible exact ⟨rfl, rfl⟩) | ((with_reducible refine Own2.data ?_); (conv => whnf)) | (refine ⟨true, _, rfl, ?_⟩; (conv => whnf)) | (refine ⟨false, .nilp, rfl, ?_⟩; (conv => whnf)) | (refine ⟨_, _, by first | fail, ?_⟩; (conv => whnf)) | ((with_reducible apply Or.inl); (refine ⟨rfl, rfl, ?_⟩); (conv => whnf)) | ((with_reducible apply Or.inl); (with_reducible apply And.intro); (focus (simp only [rng]; omega)); (conv => whnf)) | (refine ⟨by first | omega | (simp at hg ⊢; omega) | (simp_all; first | done | fail), ?_⟩; (conv => whnf)) | ((with_reducible refine ACall.id ?_); (refine PCall.call (by first | fail) rfl ?_); (intro x hx; first | subst hx | (obtain ⟨l_, rfl, hl_⟩ := hx.out)); (conv => whnf)) | ((with_reducible apply Or.inr); (with_reducible apply And.intro) <;> (intro hb_; first | (cases hb_; done) | (conv => whnf))) | (intro hlen; (conv => whnf))); done); (conv => whnf))
    | ((with_reducible apply Or.inl); (with_reducible apply And.intro); (focus (simp only [rng]; omega)); (conv => whnf))
    | ((with_reducible apply And.intro) <;> (intro hb; (try simp at hb); (try (exfalso; first | omega | (simp_all; first | done | fail))); (try (conv => whnf))))
    | (intro hlen; (conv => whnf))
  · have : (a == b) = false := Bool.eq_false_iff.2 fun h => hb (by rw [eq_of_beq h])
    rw [this]
  · rename_i hit
    exact .mk (i + 1) ⟨by omega, fun j hj => by
      by_cases e : j = i
      · subst e; simpa [List.getD_eq_getElem?_getD] using hb
      · exact hw j (by omega)⟩ (by show a.length - (i + 1) < a.length - i; omega) ⟨rfl, rfl, rfl, trivial, ⟨AV.le_refl _, AV.le_refl _, AV.le_refl _, trivial⟩⟩
  · have : a = b := eq_of_getD [] hab fun j hj => hw j (by omega)
    rw [this]; simp
end Go.Proofs
end
section
/- Contracts: sizes and small searches. -/
namespace Go.Proofs
open Go.Pm
set_option maxRecDepth 100000

theorem all_of_getD {α : Type} {L : List α} {p : α → Bool} (d : α) (h : ∀ j, j < L.length → p (L.getD j d) = true) : L.all p = true := by
  rw [List.all_eq_true]
  intro x hx
  obtain ⟨j, hj, rfl⟩ := List.mem_iff_getElem.1 hx
  have := h j hj
  simpa [List.getD_eq_getElem?_getD, hj] using this
theorem not_all_of_getD {α : Type} {L : List α} {p : α → Bool} (d : α) {j : Nat} (hj : j < L.length) (h : p (L.getD j d) = false) : L.all p = false := by
  rw [List.all_eq_false]
  exact ⟨L[j], by simp, by simpa [List.getD_eq_getElem?_getD, hj] using h⟩

theorem c41 (L : List Str) (v : Str) : PCall Try.prog 41 [.d (encStrs L), .d (.str v)] fun x => x = .d (.bool (decide (0 ≤ idx L v))) := by
  refine PCall.intro Try.tabOk Try.f41 _ Try.func41 rfl (by decide) rfl fun z => ?_
  repeat' first
    | (with_reducible refine AW.seq ?_)
    | ((with_reducible refine AW.region Try.tabOk ?_); (conv => whnf))
    | ((with_reducible refine AW.block ?_))
  refine AW.loopX (X := Nat) (fun i => ⟨[(0, .d (encStrs L)), (1, .d (.str v)), (5, .d (.int .i64 (i : Int)))], Heap.none, none, z⟩)
    (fun i => i ≤ L.length ∧ ∀ j, j < i → v ≠ L.getD j []) (fun i => L.length - i) 0 ⟨by omega, fun j h => by omega⟩ ⟨rfl, rfl, rfl, trivial, ⟨AV.le_refl _, AV.le_refl _, AV.le_refl _, trivial⟩⟩ ?_
  intro i ⟨hi, hw⟩
  repeat' first
    | (with_reducible refine AW.seq ?_)
    | ((with_reducible refine AW.region Try.tabOk ?_); (conv => whnf))
    | ((with_reducible refine AW.ret ?_); (conv => whnf))
    | ((with_reducible refine AW.block ?_))
    | ((with_reducible refine AW.exit ?_); (conv => whnf))
    | ((with_reducible refine AW.skip ?_); (conv => whnf))
    | ((with_reducible refine AW.cond ?_); (conv => whnf))
    | ((with_reducible apply Or.inl); (with_reducible apply And.intro); (focus (simp only [rng]; omega)); (conv => whnf))
    | ((with_reducible apply And.intro); (focus (first | omega | (exact True.intro) | (simp; omega) | (exact Nat.le_of_ble_eq_true rfl) | (exact ⟨rfl, Nat.le_of_ble_eq_true rfl⟩) | (exact ⟨Nat.le_of_ble_eq_true rfl, Nat.le_of_ble_eq_true rfl⟩) | (intro hg; first | (simp; first | done | fail) | (simp at hg ⊢; exact hg) | (simp at hg; exact hg) | exact hg))); (conv => whnf))
    | ((with_reducible apply And.intro) <;> (intro hb; (try simp at hb); (try (exfalso; first | omega | (simp_all; first | done | fail))); (try (conv => whnf))))
    | (intro hlen; (conv => whnf))
  · rename_i hit
    have := idx_nonneg hit (v := v) (by simpa using hb.symm)
    simp [this]
  · rename_i hit
    exact .mk (i + 1) ⟨by omega, fun j hj => by
      by_cases e : j = i
      · subst e; simpa using fun h => hb h.symm
      · exact hw j (by omega)⟩ (by show L.length - (i + 1) < L.length - i; omega) ⟨rfl, rfl, rfl, trivial, ⟨AV.le_refl _, AV.le_refl _, AV.le_refl _, trivial⟩⟩
  · rw [idx_none fun j hj => hw j (by omega)]; rfl

theorem c72 (L : List Str) (n : Int) : PCall Try.prog 72 [.d (encStrs L), .d (.int .i64 n)] fun x => x = .d (.bool (decide ((L.length : Int) ≤ n) && L.all fun s => decide (s.length ≤ 30))) := by
  refine PCall.intro Try.tabOk Try.f72 _ Try.func72 rfl (by decide) rfl fun z => ?_
  repeat' first
    | (with_reducible refine AW.seq ?_)
    | ((with_reducible refine AW.region Try.tabOk ?_); (conv => whnf))
    | ((with_reducible refine AW.block ?_))
  refine AW.loopX (X := Nat) (fun i => ⟨[(0, .d (encStrs L)), (1, .d (.int .i64 n)), (5, .d (.int .i64 (i : Int)))], Heap.none, none, z⟩)
    (fun i => i ≤ L.length ∧ ∀ j, j < i → (L.getD j []).length ≤ 30) (fun i => L.length - i) 0 ⟨by omega, fun j h => by omega⟩ ⟨rfl, rfl, rfl, trivial, ⟨AV.le_refl _, AV.le_refl _, AV.le_refl _, trivial⟩⟩ ?_
  intro i ⟨hi, hw⟩
  repeat' first
    | (with_reducible refine AW.seq ?_)
    | ((with_reducible refine AW.region Try.tabOk ?_); (conv => whnf))
    | ((with_reducible refine AW.ret ?_); (conv => whnf))
    | ((with_reducible refine AW.block ?_))
    | ((with_reducible refine AW.exit ?_); (conv => whnf))
    | ((with_reducible refine AW.skip ?_); (conv => whnf))
    | ((with_reducible refine AW.cond ?_); (conv => whnf))
    | ((with_reducible apply Or.inl); apply Exists.intro; apply And.intro; (focus (intro hg; (conv => whnf); (repeat' first | (with_reducible exact ⟨rfl, rfl⟩) | ((with_reducible refine Own2.data ?_); (conv => whnf)) | (refine ⟨true, _, rfl, ?_⟩; (conv => whnf)) | (refine ⟨false, .nilp, rfl, ?_⟩; (conv => whnf)) | (refine ⟨_, _, by first | fail, ?_⟩; (conv => whnf)) | ((with_reducible apply Or.inl); (refine ⟨rfl, rfl, ?_⟩); (conv => whnf)) | ((with_reducible apply Or.inl); (with_reducible apply And.intro); (focus (simp only [rng]; omega)); (conv => whnf)) | (refine ⟨by first | omega | (simp at hg ⊢; omega) | (simp_all; first | done | fail), ?_⟩; (conv => whnf)) | ((with_reducible refine ACall.id ?_); (refine PCall.call (by first | fail) rfl ?_); (intro x hx; first | subst hx | (obtain ⟨l_, rfl, hl_⟩ := hx.out)); (conv => whnf)) | ((with_reducible apply Or.inr); (with_reducible apply And.intro) <;> (intro hb_; first | (cases hb_; done) | (conv => whnf))) | (intro hlen; (conv => whnf))); done)); (conv => whnf))
    | ((with_reducible apply Or.inl); (with_reducible apply And.intro); (focus (simp only [rng]; omega)); (conv => whnf))
    | ((with_reducible apply And.intro); (focus (first | omega | (exact True.intro) | (simp; omega) | (exact Nat.le_of_ble_eq_true rfl) | (exact ⟨rfl, Nat.le_of_ble_eq_true rfl⟩) | (exact ⟨Nat.le_of_ble_eq_true rfl, Nat.le_of_ble_eq_true rfl⟩) | (intro hg; first | (simp; first | done | fail) | (simp at hg ⊢; exact hg) | (simp at hg; exact hg) | exact hg))); (conv => whnf))
    | ((with_reducible apply And.intro) <;> (intro hb; (try simp at hb); (try (exfalso; first | omega | (simp_all; first | done | fail))); (try (conv => whnf))))
    | (intro hlen; (conv => whnf))
  · rename_i hit
    rw [not_all_of_getD (p := fun s => decide (s.length ≤ 30)) [] hit.1 (by simp only [List.getD_eq_getElem?_getD, decide_eq_false_iff_not]; omega)]
    simp
  · rename_i hit
    exact .mk (i + 1) ⟨by omega, fun j hj => by
      by_cases e : j = i
      · subst e; rw [List.getD_eq_getElem?_getD]; omega
      · exact hw j (by omega)⟩ (by show L.length - (i + 1) < L.length - i; omega) ⟨rfl, rfl, rfl, trivial, ⟨AV.le_refl _, AV.le_refl _, AV.le_refl _, trivial⟩⟩
  · by_cases hn : (L.length : Int) ≤ n
    · rw [all_of_getD (p := fun s => decide (s.length ≤ 30)) [] (fun j hj => by
        have : ¬ i < L.length := fun h => by have := hb h; omega
        simpa using hw j (by omega))]
      simp
    · simp [hn]
end Go.Proofs
end
section
/- Contracts: sizes. -/
namespace Go.Proofs
open Go.Pm
set_option maxRecDepth 100000

abbrev dT : Str × Str := ([], [])
def few9 (L : List (Str × Str)) (n : Int) : Bool := decide ((L.length : Int) ≤ n) && L.all fun p => decide (p.1.length ≤ 300) && decide (p.2.length ≤ 300)

theorem c71 (L : List (Str × Str)) (n : Int) : PCall Try.prog 71 [.d (encTags L), .d (.int .i64 n)] fun x => x = .d (.bool (few9 L n)) := by
  refine PCall.intro Try.tabOk Try.f71 _ Try.func71 rfl (by decide) rfl fun z => ?_
  repeat' first
    | (with_reducible refine AW.seq ?_)
    | ((with_reducible refine AW.region Try.tabOk ?_); (conv => whnf))
    | ((with_reducible refine AW.block ?_))
  refine AW.loopX (X := Nat) (fun i => ⟨[(0, .d (encTags L)), (1, .d (.int .i64 n)), (5, .d (.int .i64 (i : Int)))], Heap.none, none, z⟩)
    (fun i => i ≤ L.length ∧ ∀ j, j < i → (L.getD j dT).1.length ≤ 300 ∧ (L.getD j dT).2.length ≤ 300) (fun i => L.length - i) 0 ⟨by omega, fun j h => by omega⟩ ⟨rfl, rfl, rfl, trivial, ⟨AV.le_refl _, AV.le_refl _, AV.le_refl _, trivial⟩⟩ ?_
  intro i ⟨hi, hw⟩
  repeat' first
    | (with_reducible refine AW.seq ?_)
    | ((with_reducible refine AW.region Try.tabOk ?_); (conv => whnf))
    | ((with_reducible refine AW.ret ?_); (conv => whnf))
    | ((with_reducible refine AW.block ?_))
    | ((with_reducible refine AW.exit ?_); (conv => whnf))
    | ((with_reducible refine AW.skip ?_); (conv => whnf))
    | ((with_reducible refine AW.cond ?_); (conv => whnf))
    | ((with_reducible apply Or.inl); apply Exists.intro; apply And.intro; (focus (intro hg; (conv => whnf); (repeat' first | (with_reducible exact ⟨rfl, rfl⟩) | ((with_reducible refine Own2.data ?_); (conv => whnf)) | (refine ⟨true, _, rfl, ?_⟩; (conv => whnf)) | (refine ⟨false, .nilp, rfl, ?_⟩; (conv => whnf)) | (refine ⟨_, _, by first | fail, ?_⟩; (conv => whnf)) | ((with_reducible apply Or.inl); (refine ⟨rfl, rfl, ?_⟩); (conv => whnf)) | ((with_reducible apply Or.inl); (with_reducible apply And.intro); (focus (simp only [rng]; omega)); (conv => whnf)) | (refine ⟨by first | omega | (simp at hg ⊢; omega) | (simp_all; first | done | fail), ?_⟩; (conv => whnf)) | ((with_reducible refine ACall.id ?_); (refine PCall.call (by first | fail) rfl ?_); (intro x hx; first | subst hx | (obtain ⟨l_, rfl, hl_⟩ := hx.out)); (conv => whnf)) | ((with_reducible apply Or.inr); (with_reducible apply And.intro) <;> (intro hb_; first | (cases hb_; done) | (conv => whnf))) | (intro hlen; (conv => whnf))); done)); (conv => whnf))
    | ((with_reducible apply Or.inl); (with_reducible apply And.intro); (focus (simp only [rng]; omega)); (conv => whnf))
    | ((with_reducible apply And.intro); (focus (first | omega | (exact True.intro) | (simp; omega) | (exact Nat.le_of_ble_eq_true rfl) | (exact ⟨rfl, Nat.le_of_ble_eq_true rfl⟩) | (exact ⟨Nat.le_of_ble_eq_true rfl, Nat.le_of_ble_eq_true rfl⟩) | (intro hg; first | (simp; first | done | fail) | (simp at hg ⊢; exact hg) | (simp at hg; exact hg) | exact hg))); (conv => whnf))
    | ((with_reducible apply And.intro) <;> (intro hb; (try simp at hb); (try (exfalso; first | omega | (simp_all; first | done | fail))); (try (conv => whnf))))
    | (intro hlen; (conv => whnf))
  · rename_i hit
    have : few9 L n = false := by
      unfold few9
      rw [not_all_of_getD (p := fun p : Str × Str => decide (p.1.length ≤ 300) && decide (p.2.length ≤ 300)) dT hit.1 (by
        simp only [dT, List.getD_eq_getElem?_getD, Bool.and_eq_false_iff, decide_eq_false_iff_not]; omega)]
      simp
    rw [this]
  · rename_i hit
    exact .mk (i + 1) ⟨by omega, fun j hj => by
      by_cases e : j = i
      · subst e; simp only [dT, List.getD_eq_getElem?_getD]; omega
      · exact hw j (by omega)⟩ (by show L.length - (i + 1) < L.length - i; omega) ⟨rfl, rfl, rfl, trivial, ⟨AV.le_refl _, AV.le_refl _, AV.le_refl _, trivial⟩⟩
  · unfold few9
    by_cases hn : (L.length : Int) ≤ n
    · rw [all_of_getD (p := fun p : Str × Str => decide (p.1.length ≤ 300) && decide (p.2.length ≤ 300)) dT (fun j hj => by
        have : ¬ i < L.length := fun h => by have := hb h; omega
        have := hw j (by omega)
        simp only [Bool.and_eq_true, decide_eq_true_eq]; exact this)]
      simp
    · simp [hn]
end Go.Proofs
end
section
/- Contracts: an object's size. -/
namespace Go.Proofs
open Go.Pm
set_option maxRecDepth 100000

def few11 (o : Obj) (n : Int) : Bool := decide (o.id.length ≤ 300) && decide ((o.refs.length : Int) ≤ n) && decide (o.tags.length ≤ 65) && (o.refs.all fun s => decide (s.length ≤ 300)) &&
  o.tags.all fun p => decide (p.1.length + p.2.length ≤ 600)
abbrev oCells (o : Obj) : List AV := [.d (.str o.id), .d (.int .i64 o.kind), .d (.int .i64 o.x), .d (.int .i64 o.y), .d (encStrs o.refs), .d (encTags o.tags)]

theorem c101 (o : Obj) (n : Int) (hB : ∀ p ∈ o.tags, p.1.length ≤ 1000000000000000 ∧ p.2.length ≤ 1000000000000000) : PCall Try.prog 101 [.d (encObj o), .d (.int .i64 n)] fun x => x = .d (.bool (few11 o n)) := by
  refine PCall.intro Try.tabOk Try.f101 _ Try.func101 rfl (by decide) rfl fun z => ?_
  repeat' first
    | (with_reducible refine AW.seq ?_)
    | ((with_reducible refine AW.region Try.tabOk ?_); (conv => whnf))
    | ((with_reducible refine AW.ret ?_); (conv => whnf))
    | ((with_reducible refine AW.block ?_))
    | ((with_reducible refine AW.skip ?_); (conv => whnf))
    | ((with_reducible refine AW.cond ?_); (conv => whnf))
    | ((with_reducible apply Or.inl); apply Exists.intro; apply And.intro; (focus (intro hg; (conv => whnf); (repeat' first | (with_reducible exact ⟨rfl, rfl⟩) | ((with_reducible refine Own2.data ?_); (conv => whnf)) | (refine ⟨true, _, rfl, ?_⟩; (conv => whnf)) | (refine ⟨false, .nilp, rfl, ?_⟩; (conv => whnf)) | (refine ⟨_, _, by first | fail, ?_⟩; (conv => whnf)) | ((with_reducible apply Or.inl); (refine ⟨rfl, rfl, ?_⟩); (conv => whnf)) | ((with_reducible apply Or.inl); (with_reducible apply And.intro); (focus (simp only [rng]; omega)); (conv => whnf)) | (refine ⟨by first | omega | (simp at hg ⊢; omega) | (simp_all; first | done | fail), ?_⟩; (conv => whnf)) | ((with_reducible refine ACall.id ?_); (refine PCall.call (by first | fail) rfl ?_); (intro x hx; first | subst hx | (obtain ⟨l_, rfl, hl_⟩ := hx.out)); (conv => whnf)) | ((with_reducible apply Or.inr); (with_reducible apply And.intro) <;> (intro hb_; first | (cases hb_; done) | (conv => whnf))) | (intro hlen; (conv => whnf))); done)); (conv => whnf))
    | ((with_reducible apply And.intro); (focus (first | omega | (exact True.intro) | (simp; omega) | (exact Nat.le_of_ble_eq_true rfl) | (exact ⟨rfl, Nat.le_of_ble_eq_true rfl⟩) | (exact ⟨Nat.le_of_ble_eq_true rfl, Nat.le_of_ble_eq_true rfl⟩) | (intro hg; first | (simp; first | done | fail) | (simp at hg ⊢; exact hg) | (simp at hg; exact hg) | exact hg))); (conv => whnf))
    | ((with_reducible apply And.intro) <;> (intro hb; (try simp at hb); (try (exfalso; first | omega | (simp_all; first | done | fail))); (try (conv => whnf))))
    | (intro hlen; (conv => whnf))
  · have : few11 o n = false := by
      unfold few11
      by_cases h1 : o.id.length ≤ 300
      · by_cases h2 : (o.refs.length : Int) ≤ n
        · have : ¬ o.tags.length ≤ 65 := by omega
          simp [this]
        · simp [h2]
      · simp [h1]
    rw [this]
  refine AW.loopX (X := Nat) (fun i => ⟨[(2, .ptr 0 0), (5, .d (.int .i64 (i : Int)))], ⟨[(0, .var (oCells o) 42)], 1⟩, none, z⟩)
    (fun i => i ≤ o.refs.length ∧ ∀ j, j < i → (o.refs.getD j []).length ≤ 300) (fun i => o.refs.length - i) 0 ⟨by omega, fun j h => by omega⟩ ⟨rfl, rfl, rfl, ⟨OLe.refl _, trivial⟩, ⟨AV.le_refl _, AV.le_refl _, trivial⟩⟩ ?_
  intro i ⟨hi, hw⟩
  repeat' first
    | (with_reducible refine AW.seq ?_)
    | ((with_reducible refine AW.region Try.tabOk ?_); (conv => whnf))
    | ((with_reducible refine AW.ret ?_); (conv => whnf))
    | ((with_reducible refine AW.block ?_))
    | ((with_reducible refine AW.exit ?_); (conv => whnf))
    | ((with_reducible refine AW.skip ?_); (conv => whnf))
    | ((with_reducible refine AW.cond ?_); (conv => whnf))
    | ((with_reducible apply Or.inl); (with_reducible apply And.intro); (focus (simp only [rng]; omega)); (conv => whnf))
    | ((with_reducible apply And.intro); (focus (first | omega | (exact True.intro) | (simp; omega) | (exact Nat.le_of_ble_eq_true rfl) | (exact ⟨rfl, Nat.le_of_ble_eq_true rfl⟩) | (exact ⟨Nat.le_of_ble_eq_true rfl, Nat.le_of_ble_eq_true rfl⟩) | (intro hg; first | (simp; first | done | fail) | (simp at hg ⊢; exact hg) | (simp at hg; exact hg) | exact hg))); (conv => whnf))
    | ((with_reducible apply And.intro) <;> (intro hb; (try simp at hb); (try (exfalso; first | omega | (simp_all; first | done | fail))); (try (conv => whnf))))
    | (intro hlen; (conv => whnf))
  · rename_i hit
    have : few11 o n = false := by
      unfold few11
      rw [not_all_of_getD (L := o.refs) (p := fun s => decide (s.length ≤ 300)) [] hit (by simp only [List.getD_eq_getElem?_getD, decide_eq_false_iff_not]; omega)]
      simp
    rw [this]
  · rename_i hit
    exact .mk (i + 1) ⟨by omega, fun j hj => by
      by_cases e : j = i
      · subst e; rw [List.getD_eq_getElem?_getD]; omega
      · exact hw j (by omega)⟩ (by show o.refs.length - (i + 1) < o.refs.length - i; omega) ⟨rfl, rfl, rfl, ⟨OLe.refl _, trivial⟩, ⟨AV.le_refl _, AV.le_refl _, trivial⟩⟩
  · have hrefs : (o.refs.all fun s => decide (s.length ≤ 300)) = true := all_of_getD [] fun j hj => by simpa using hw j (by omega)
    refine AW.loopX (X := Nat) (fun i => ⟨[(2, .ptr 0 0), (6, .d (.int .i64 (i : Int)))], ⟨[(0, .var (oCells o) 42)], 1⟩, none, z⟩)
      (fun i => i ≤ o.tags.length ∧ ∀ j, j < i → (o.tags.getD j dT).1.length + (o.tags.getD j dT).2.length ≤ 600) (fun i => o.tags.length - i) 0 ⟨by omega, fun j h => by omega⟩ ⟨rfl, rfl, rfl, ⟨OLe.refl _, trivial⟩, ⟨AV.le_refl _, AV.le_refl _, trivial⟩⟩ ?_
    intro k ⟨hk, hv⟩
    have hb1 : ∀ k, (o.tags.getD k dT).1.length ≤ 1000000000000000 ∧ (o.tags.getD k dT).2.length ≤ 1000000000000000 := fun k => by
      by_cases h : k < o.tags.length
      · have := hB o.tags[k] (by simp); simpa [List.getD_eq_getElem?_getD, h] using this
      · simp [List.getD_eq_getElem?_getD, List.getElem?_eq_none (Nat.le_of_not_lt h)]
    have hb2 := hb1 k
    have hb3 : (o.tags.getD (k : Int).toNat ([], [])).1.length ≤ 1000000000000000 ∧ (o.tags.getD (k : Int).toNat ([], [])).2.length ≤ 1000000000000000 := hb2
    repeat' first
      | (with_reducible refine AW.seq ?_)
      | ((with_reducible refine AW.region Try.tabOk ?_); (conv => whnf))
      | ((with_reducible refine AW.draw Try.tabOk Try.mixed ?_ ?_); (focus rfl); (conv => whnf))
      | ((with_reducible refine AW.ret ?_); (conv => whnf))
      | ((with_reducible refine AW.block ?_))
      | ((with_reducible refine AW.exit ?_); (conv => whnf))
      | ((with_reducible refine AW.skip ?_); (conv => whnf))
      | ((with_reducible refine AW.cond ?_); (conv => whnf))
      | (refine ⟨_, ⟨rfl, rfl⟩, ?_⟩; (conv => whnf))
      | (apply Exists.intro; apply And.intro; (focus (first | (intro hg; (conv => whnf)) | (conv => whnf)); (repeat' first | (with_reducible exact ⟨rfl, rfl⟩) | ((with_reducible refine Own2.data ?_); (conv => whnf)) | (refine ⟨true, _, rfl, ?_⟩; (conv => whnf)) | (refine ⟨false, .nilp, rfl, ?_⟩; (conv => whnf)) | (refine ⟨_, _, by first | fail, ?_⟩; (conv => whnf)) | ((with_reducible apply Or.inl); (refine ⟨rfl, rfl, ?_⟩); (conv => whnf)) | ((with_reducible apply Or.inl); (with_reducible apply And.intro); (focus (simp only [rng]; omega)); (conv => whnf)) | (refine ⟨by first | omega | (simp at hg ⊢; omega) | (simp_all; first | done | fail), ?_⟩; (conv => whnf)) | ((with_reducible refine ACall.id ?_); (refine PCall.call (by first | fail) rfl ?_); (intro x hx; first | subst hx | (obtain ⟨l_, rfl, hl_⟩ := hx.out)); (conv => whnf)) | ((with_reducible apply Or.inr); (with_reducible apply And.intro) <;> (intro hb_; first | (cases hb_; done) | (conv => whnf))) | (intro hlen; (conv => whnf))); done); (conv => whnf))
      | ((with_reducible apply Or.inl); (with_reducible apply And.intro); (focus (simp only [rng]; omega)); (conv => whnf))
      | ((with_reducible apply And.intro) <;> (intro hb; (try simp at hb); (try (exfalso; first | omega | (simp_all; first | done | fail))); (try (conv => whnf))))
      | (intro hlen; (conv => whnf))
    · rename_i hit
      have : few11 o n = false := by
        unfold few11
        rw [not_all_of_getD (L := o.tags) (p := fun p : Str × Str => decide (p.1.length + p.2.length ≤ 600)) dT hit (by simp only [dT, List.getD_eq_getElem?_getD, decide_eq_false_iff_not]; omega)]
        simp
      rw [this]
    · rename_i hit
      exact .mk (k + 1) ⟨by omega, fun j hj => by
        by_cases e : j = k
        · subst e; simp only [dT, List.getD_eq_getElem?_getD]; omega
        · exact hv j (by omega)⟩ (by show o.tags.length - (k + 1) < o.tags.length - k; omega) ⟨rfl, rfl, rfl, ⟨OLe.refl _, trivial⟩, ⟨AV.le_refl _, AV.le_refl _, trivial⟩⟩
    · have htags : (o.tags.all fun p => decide (p.1.length + p.2.length ≤ 600)) = true := all_of_getD dT fun j hj => by simpa using hv j (by omega)
      have : few11 o n = true := by
        unfold few11
        rw [hrefs, htags]
        simp
        omega
      rw [this]
end Go.Proofs
end
section
/- Contracts: a map's size. -/
namespace Go.Proofs
open Go.Pm
set_option maxRecDepth 100000

def bndTags (L : List (Str × Str)) : Prop := ∀ p ∈ L, p.1.length ≤ 1000000000000000 ∧ p.2.length ≤ 1000000000000000
def few12 (m : List Obj) (n : Int) : Bool := decide ((m.length : Int) ≤ n) && m.all fun o => few11 o 40

theorem c73 (m : List Obj) (n : Int) (hB : ∀ o ∈ m, bndTags o.tags) : PCall Try.prog 73 [.d (encMap m), .d (.int .i64 n)] fun x => x = .d (.bool (few12 m n)) := by
  have hB1 : ∀ k, bndTags (m.getD k default).tags := fun k => by
    by_cases h : k < m.length
    · have := hB m[k] (by simp); simpa [List.getD_eq_getElem?_getD, h] using this
    · rw [List.getD_eq_getElem?_getD, List.getElem?_eq_none (Nat.le_of_not_lt h)]
      intro p hp; cases hp
  refine PCall.intro Try.tabOk Try.f73 _ Try.func73 rfl (by decide) rfl fun z => ?_
  repeat' first
    | (with_reducible refine AW.seq ?_)
    | ((with_reducible refine AW.region Try.tabOk ?_); (conv => whnf))
    | ((with_reducible refine AW.block ?_))
  refine AW.loopX (X := Nat) (fun i => ⟨[(2, .ptr 0 0), (1, .d (.int .i64 n)), (5, .d (.int .i64 (i : Int)))], ⟨[(0, .var [.d (encObjs m)] 24)], 1⟩, none, z⟩)
    (fun i => i ≤ m.length ∧ ∀ j, j < i → few11 (m.getD j default) 40 = true) (fun i => m.length - i) 0 ⟨by omega, fun j h => by omega⟩ ⟨rfl, rfl, rfl, ⟨OLe.refl _, trivial⟩, ⟨AV.le_refl _, AV.le_refl _, AV.le_refl _, trivial⟩⟩ ?_
  intro i ⟨hi, hw⟩
  repeat' first
    | (with_reducible refine AW.seq ?_)
    | ((with_reducible refine AW.region Try.tabOk ?_); (conv => whnf))
    | ((with_reducible refine AW.ret ?_); (conv => whnf))
    | ((with_reducible refine AW.block ?_))
    | ((with_reducible refine AW.exit ?_); (conv => whnf))
    | ((with_reducible refine AW.skip ?_); (conv => whnf))
    | ((with_reducible refine AW.cond ?_); (conv => whnf))
    | ((with_reducible refine ACall.id ?_); (refine PCall.call (by first | exact c101 _ _ (hB1 _)) rfl ?_); (intro x hx; first | subst hx | (obtain ⟨l_, rfl, hl_⟩ := hx.out)); (conv => whnf))
    | ((with_reducible apply Or.inl); apply Exists.intro; apply And.intro; (focus (intro hg; (conv => whnf); (repeat' first | (with_reducible exact ⟨rfl, rfl⟩) | ((with_reducible refine Own2.data ?_); (conv => whnf)) | (refine ⟨true, _, rfl, ?_⟩; (conv => whnf)) | (refine ⟨false, .nilp, rfl, ?_⟩; (conv => whnf)) | (refine ⟨_, _, by first | exact c101 _ _ (hB1 _), ?_⟩; (conv => whnf)) | ((with_reducible apply Or.inl); (refine ⟨rfl, rfl, ?_⟩); (conv => whnf)) | ((with_reducible apply Or.inl); (with_reducible apply And.intro); (focus (simp only [rng]; omega)); (conv => whnf)) | (refine ⟨by first | omega | (simp at hg ⊢; omega) | (simp_all; first | done | fail), ?_⟩; (conv => whnf)) | ((with_reducible refine ACall.id ?_); (refine PCall.call (by first | exact c101 _ _ (hB1 _)) rfl ?_); (intro x hx; first | subst hx | (obtain ⟨l_, rfl, hl_⟩ := hx.out)); (conv => whnf)) | ((with_reducible apply Or.inr); (with_reducible apply And.intro) <;> (intro hb_; first | (cases hb_; done) | (conv => whnf))) | (intro hlen; (conv => whnf))); done)); (conv => whnf))
    | ((with_reducible apply Or.inl); (with_reducible apply And.intro); (focus (simp only [rng]; omega)); (conv => whnf))
    | ((with_reducible apply And.intro); (focus (first | omega | (exact True.intro) | (simp; omega) | (exact Nat.le_of_ble_eq_true rfl) | (exact ⟨rfl, Nat.le_of_ble_eq_true rfl⟩) | (exact ⟨Nat.le_of_ble_eq_true rfl, Nat.le_of_ble_eq_true rfl⟩) | (intro hg; first | (simp; first | done | fail) | (simp at hg ⊢; exact hg) | (simp at hg; exact hg) | exact hg))); (conv => whnf))
    | ((with_reducible apply And.intro) <;> (intro hb; (try simp at hb); (try (exfalso; first | omega | (simp_all; first | done | fail))); (try (conv => whnf))))
    | (intro hlen; (conv => whnf))
  · rename_i hit
    have : few12 m n = false := by
      unfold few12
      rw [not_all_of_getD (p := fun o => few11 o 40) default hit.1 (by simpa [List.getD_eq_getElem?_getD] using hb)]
      simp
    rw [this]
  · rename_i hit
    exact .mk (i + 1) ⟨by omega, fun j hj => by
      by_cases e : j = i
      · subst e; simpa [List.getD_eq_getElem?_getD] using hb
      · exact hw j (by omega)⟩ (by show m.length - (i + 1) < m.length - i; omega) ⟨rfl, rfl, rfl, ⟨OLe.refl _, trivial⟩, ⟨AV.le_refl _, AV.le_refl _, AV.le_refl _, trivial⟩⟩
  · unfold few12
    by_cases hn : (m.length : Int) ≤ n
    · rw [all_of_getD (p := fun o => few11 o 40) default (fun j hj => by
        have : ¬ i < m.length := fun h => by have := hb h; omega
        exact hw j (by omega))]
      simp
    · simp [hn]
end Go.Proofs
end
section
/- Contracts: sizes, of layers 18 and 13. -/
namespace Go.Proofs
open Go.Pm
set_option maxRecDepth 100000

def few18 (L : List Str) (n : Int) : Bool := decide ((L.length : Int) ≤ n) && L.all fun s => decide (s.length ≤ 30)
theorem c36 (l : List (Str × Str)) (L : List Str) (m : List Obj) (hB : ∀ o ∈ m, bndTags o.tags) :
    PCall Try.prog 36 [.d (encTags l), .d (encStrs L), .d (encMap m)] fun x => x = .d (.bool (few9 l 70 && few18 L 20 && few12 m 30)) := by
  refine PCall.intro Try.tabOk Try.f36 _ Try.func36 rfl (by decide) rfl fun z => ?_
  repeat' first
    | (with_reducible refine AW.seq ?_)
    | ((with_reducible refine AW.region Try.tabOk ?_); (conv => whnf))
    | ((with_reducible refine AW.ret ?_); (conv => whnf))
    | ((with_reducible refine ACall.id ?_); (refine PCall.call (by first | exact c71 _ _ | exact c72 _ _ | exact c73 _ _ hB) rfl ?_); (intro x hx; first | subst hx | (obtain ⟨l_, rfl, hl_⟩ := hx.out)); (conv => whnf))
    | ((with_reducible apply Or.inl); apply Exists.intro; apply And.intro; (focus (intro hg; (conv => whnf); (repeat' first | (with_reducible exact ⟨rfl, rfl⟩) | ((with_reducible refine Own2.data ?_); (conv => whnf)) | (refine ⟨true, _, rfl, ?_⟩; (conv => whnf)) | (refine ⟨false, .nilp, rfl, ?_⟩; (conv => whnf)) | (refine ⟨_, _, by first | exact c71 _ _ | exact c72 _ _ | exact c73 _ _ hB, ?_⟩; (conv => whnf)) | ((with_reducible apply Or.inl); (refine ⟨rfl, rfl, ?_⟩); (conv => whnf)) | ((with_reducible apply Or.inl); (with_reducible apply And.intro); (focus (simp only [rng]; omega)); (conv => whnf)) | (refine ⟨by first | omega | (simp at hg ⊢; omega) | (simp_all; first | done | fail), ?_⟩; (conv => whnf)) | ((with_reducible refine ACall.id ?_); (refine PCall.call (by first | exact c71 _ _ | exact c72 _ _ | exact c73 _ _ hB) rfl ?_); (intro x hx; first | subst hx | (obtain ⟨l_, rfl, hl_⟩ := hx.out)); (conv => whnf)) | ((with_reducible apply Or.inr); (with_reducible apply And.intro) <;> (intro hb_; first | (cases hb_; done) | (conv => whnf))) | (intro hlen; (conv => whnf))); done)); (conv => whnf))
    | ((with_reducible apply And.intro); (focus (first | omega | (exact True.intro) | (simp; omega) | (exact Nat.le_of_ble_eq_true rfl) | (exact ⟨rfl, Nat.le_of_ble_eq_true rfl⟩) | (exact ⟨Nat.le_of_ble_eq_true rfl, Nat.le_of_ble_eq_true rfl⟩) | (intro hg; first | (simp; first | done | fail) | (simp at hg ⊢; exact hg) | (simp at hg; exact hg) | exact hg))); (conv => whnf))
  · congr 2
    have h1 : ∀ c b : Bool, (bif c then b else false) = (c && b) := fun c b => by cases c <;> rfl
    simp only [h1, few18]
end Go.Proofs
end
section
/- Contracts: prefixes, bytes in strings, kinds. -/
namespace Go.Proofs
open Go.Pm
set_option maxRecDepth 100000

theorem PCall.extern {P : Program} {f : FuncId} {fn : Func} {e : Array Value → Sem Value} {args : List AV} {R : AV → Prop} (hf : P.funcs[f]? = some fn) (hname : (fn.name == "runtime.NumGoroutine") = false)
    (hb : fn.body.isNone = true) (hn : Extern.findNext fn = none) (he : Extern.find fn = some e)
    (h : ∀ (μ : Mu) (w : World) (vs : List Value), vs.length = args.length → (∀ (i : Nat) (c : AV) (v : Value), args[i]? = some c → vs[i]? = some v → ARel 0 μ w c v) → ∃ x v, AV.dry x = true ∧ R x ∧ (e vs.toArray).run P w = .ok v w ∧ ARel 0 μ w x v) : PCall P f args R := by
  refine ⟨fun μ w vs h1 h2 h3 => .inr ?_⟩
  obtain ⟨x, v, g1, g2, g3, g4⟩ := h μ w vs h2 h3
  exact ⟨v, w, by rw [run_callFunc_extern hf hname hb hn he, g3]; rfl, x, Heap.none, μ, v, rfl, ⟨g1, g2⟩, h1, .refl _ _ _ h1.hi, Nat.le_refl _, g4⟩

def byteIdx (s : Str) (c : UInt8) : Int := match s.findIdx? (· == c) with
  | some i => i
  | none => -1

theorem firstIdx_eq (s : Str) (c : UInt8) : firstIdx ⟨s.toArray⟩ c = byteIdx s c := by
  unfold firstIdx byteIdx
  have hsz : (⟨s.toArray⟩ : ByteArray).size = s.length := by simp [ByteArray.size]
  have hget : ∀ i, i < s.length → (⟨s.toArray⟩ : ByteArray)[i]! = s.getD i 0 := by
    intro i hi
    have : i < (⟨s.toArray⟩ : ByteArray).size := by rw [hsz]; exact hi
    rw [getElem!_pos _ i this]
    simp [List.getD_eq_getElem?_getD, hi]; rfl
  rw [hsz]
  cases h : s.findIdx? (· == c) with
  | some i =>
    obtain ⟨hi, h1, h2⟩ := List.findIdx?_eq_some_iff_getElem.1 h
    have : (List.range s.length).find? (fun i => (⟨s.toArray⟩ : ByteArray)[i]! == c) = some i := by
      rw [List.find?_range_eq_some]
      refine ⟨?_, by simpa using hi, fun j hj => ?_⟩
      · rw [hget i hi]; simpa [List.getD_eq_getElem?_getD, hi] using h1
      · rw [hget j (by omega)]
        have := h2 j hj
        have hj' : j < s.length := by omega
        simpa [List.getD_eq_getElem?_getD, hj'] using this
    rw [this]
  | none =>
    rw [List.findIdx?_eq_none_iff] at h
    have : (List.range s.length).find? (fun i => (⟨s.toArray⟩ : ByteArray)[i]! == c) = none := by
      rw [List.find?_range_eq_none]
      intro i hi
      rw [hget i hi]
      have := h s[i] (by simp)
      simpa [List.getD_eq_getElem?_getD, hi] using this
    rw [this]

theorem c126 (s : Str) (c : UInt8) : PCall Try.prog 126 [.d (.str s), .d (.int .u8 c.toNat)] fun x => x = .d (.int .i64 (byteIdx s c)) := by
  refine PCall.extern Try.func126 (by decide) rfl (by kernel_rfl) rfl fun μ w vs hl hr => ?_
  match vs, hl with
  | [a, b], _ =>
    have h0 := hr 0 _ a rfl rfl
    have h1 := hr 1 _ b rfl rfl
    cases h0; rename_i h0; cases h0
    cases h1; rename_i h1; cases h1
    refine ⟨_, _, rfl, rfl, run_indexByte_string _ _ _, ?_⟩
    have : (c.toNat : Int).toNat.toUInt8 = c := by simp
    rw [this, firstIdx_eq]
    exact .d _ _ (.int _ _)

theorem c122 (s : Str) (c : UInt8) : PCall Try.prog 122 [.d (.str s), .d (.int .u8 c.toNat)] fun x => x = .d (.int .i64 (byteIdx s c)) := by
  refine PCall.intro Try.tabOk Try.f122 _ Try.func122 rfl (by decide) rfl fun z => ?_
  repeat' first
    | (with_reducible refine AW.seq ?_)
    | ((with_reducible refine AW.region Try.tabOk ?_); (conv => whnf))
    | ((with_reducible refine AW.ret ?_); (conv => whnf))
    | ((with_reducible refine ACall.id ?_); (refine PCall.call (by first | exact c126 _ _) rfl ?_); (intro x hx; first | subst hx | (obtain ⟨l_, rfl, hl_⟩ := hx.out)); (conv => whnf))
theorem c113 (s : Str) (c : UInt8) : PCall Try.prog 113 [.d (.str s), .d (.int .u8 c.toNat)] fun x => x = .d (.int .i64 (byteIdx s c)) := by
  refine PCall.intro Try.tabOk Try.f113 _ Try.func113 rfl (by decide) rfl fun z => ?_
  repeat' first
    | (with_reducible refine AW.seq ?_)
    | ((with_reducible refine AW.region Try.tabOk ?_); (conv => whnf))
    | ((with_reducible refine AW.ret ?_); (conv => whnf))
    | ((with_reducible refine ACall.id ?_); (refine PCall.call (by first | exact c122 _ _) rfl ?_); (intro x hx; first | subst hx | (obtain ⟨l_, rfl, hl_⟩ := hx.out)); (conv => whnf))

theorem c127 (s p : Str) : PCall Try.prog 127 [.d (.str s), .d (.str p)] fun x => x = .d (.bool (p.isPrefixOf s)) := by
  refine PCall.intro Try.tabOk Try.f127 _ Try.func127 rfl (by decide) rfl fun z => ?_
  repeat' first
    | (with_reducible refine AW.seq ?_)
    | ((with_reducible refine AW.region Try.tabOk ?_); (conv => whnf))
    | ((with_reducible refine AW.ret ?_); (conv => whnf))
    | ((with_reducible apply Or.inl); apply Exists.intro; apply And.intro; (focus (intro hg; (conv => whnf); (repeat' first | (with_reducible exact ⟨rfl, rfl⟩) | ((with_reducible refine Own2.data ?_); (conv => whnf)) | (refine ⟨true, _, rfl, ?_⟩; (conv => whnf)) | (refine ⟨false, .nilp, rfl, ?_⟩; (conv => whnf)) | (refine ⟨_, _, by first | fail, ?_⟩; (conv => whnf)) | ((with_reducible apply Or.inl); (refine ⟨rfl, rfl, ?_⟩); (conv => whnf)) | ((with_reducible apply Or.inl); (with_reducible apply And.intro); (focus (simp only [rng]; omega)); (conv => whnf)) | (refine ⟨by first | omega | (simp at hg ⊢; omega) | (simp_all; first | done | fail), ?_⟩; (conv => whnf)) | ((with_reducible refine ACall.id ?_); (refine PCall.call (by first | fail) rfl ?_); (intro x hx; first | subst hx | (obtain ⟨l_, rfl, hl_⟩ := hx.out)); (conv => whnf)) | ((with_reducible apply Or.inr); (with_reducible apply And.intro) <;> (intro hb_; first | (cases hb_; done) | (conv => whnf))) | (intro hlen; (conv => whnf))); done)); (conv => whnf))
    | ((with_reducible apply And.intro); (focus (first | omega | (exact True.intro) | (simp; omega) | (exact Nat.le_of_ble_eq_true rfl) | (exact ⟨rfl, Nat.le_of_ble_eq_true rfl⟩) | (exact ⟨Nat.le_of_ble_eq_true rfl, Nat.le_of_ble_eq_true rfl⟩) | (intro hg; first | (simp; first | done | fail) | (simp at hg ⊢; exact hg) | (simp at hg; exact hg) | exact hg))); (conv => whnf))
    | (intro hlen; (conv => whnf))
  congr 2
  rw [bif_and, Bool.eq_iff_iff]
  simp only [Int.toNat_natCast, Bool.and_eq_true, decide_eq_true_eq, beq_iff_eq, List.isPrefixOf_iff_prefix]
  constructor
  · rintro ⟨h1, h2⟩
    rw [List.prefix_iff_eq_take]; exact h2.symm
  · intro h
    exact ⟨by have := h.length_le; omega, (List.prefix_iff_eq_take.1 h).symm⟩
theorem c123 (s p : Str) : PCall Try.prog 123 [.d (.str s), .d (.str p)] fun x => x = .tup [.d (.str (if p.isPrefixOf s then s.drop p.length else s)), .d (.bool (p.isPrefixOf s))] := by
  refine PCall.intro Try.tabOk Try.f123 _ Try.func123 rfl (by decide) rfl fun z => ?_
  repeat' first
    | (with_reducible refine AW.seq ?_)
    | ((with_reducible refine AW.region Try.tabOk ?_); (conv => whnf))
    | ((with_reducible refine AW.ret ?_); (conv => whnf))
    | ((with_reducible refine AW.skip ?_); (conv => whnf))
    | ((with_reducible refine AW.cond ?_); (conv => whnf))
    | ((with_reducible refine ACall.id ?_); (refine PCall.call (by first | exact c127 _ _) rfl ?_); (intro x hx; first | subst hx | (obtain ⟨l_, rfl, hl_⟩ := hx.out)); (conv => whnf))
    | ((with_reducible apply And.intro) <;> (intro hb; (try simp at hb); (try (exfalso; first | omega | (simp_all; first | done | fail))); (try (conv => whnf))))
    | (intro hlen; (conv => whnf))
    | ((with_reducible refine And.intro (Side.out ?_) ?_); rotate_left; (conv => whnf); rotate_right)
  · rw [hb]; rfl
  · have := hb.length_le; exact ⟨by omega⟩
  · rw [List.isPrefixOf_iff_prefix.2 hb]; rfl
theorem c114 (s p : Str) : PCall Try.prog 114 [.d (.str s), .d (.str p)] fun x => x = .tup [.d (.str (if p.isPrefixOf s then s.drop p.length else s)), .d (.bool (p.isPrefixOf s))] := by
  refine PCall.intro Try.tabOk Try.f114 _ Try.func114 rfl (by decide) rfl fun z => ?_
  repeat' first
    | (with_reducible refine AW.seq ?_)
    | ((with_reducible refine AW.region Try.tabOk ?_); (conv => whnf))
    | ((with_reducible refine AW.ret ?_); (conv => whnf))
    | ((with_reducible refine ACall.id ?_); (refine PCall.call (by first | exact c123 _ _) rfl ?_); (intro x hx; first | subst hx | (obtain ⟨l_, rfl, hl_⟩ := hx.out)); (conv => whnf))

def kindWord (n : Int) : Str := if n = 1 then [110, 111, 100, 101] else if n = 2 then [119, 97, 121] else if n = 3 then [97, 114, 101, 97] else if n = 4 then [114, 111, 117, 116, 101] else if n = 5 then [116, 117, 114, 110] else []
def kindLeast (n : Int) : Int := if n = 2 then 2 else if n = 3 then 3 else if n = 4 then 1 else if n = 5 then 3 else 0
def onGrid (x y : Int) : Bool := decide (0 ≤ x) && decide (x < 1048576) && decide (0 ≤ y) && decide (y < 1048576)
theorem c93 (n : Int) : PCall Try.prog 93 [.d (.int .i64 n)] fun x => x = .d (.str (kindWord n)) := by
  refine PCall.intro Try.tabOk Try.f93 _ Try.func93 rfl (by decide) rfl fun z => ?_
  repeat' first
    | (with_reducible refine AW.seq ?_)
    | ((with_reducible refine AW.region Try.tabOk ?_); (conv => whnf))
    | ((with_reducible refine AW.ret ?_); (conv => whnf))
    | ((with_reducible refine AW.skip ?_); (conv => whnf))
    | ((with_reducible refine AW.cond ?_); (conv => whnf))
    | ((with_reducible apply Or.inl); apply Exists.intro; apply And.intro; (focus (intro hg; (conv => whnf); (repeat' first | (with_reducible exact ⟨rfl, rfl⟩) | ((with_reducible refine Own2.data ?_); (conv => whnf)) | (refine ⟨true, _, rfl, ?_⟩; (conv => whnf)) | (refine ⟨false, .nilp, rfl, ?_⟩; (conv => whnf)) | (refine ⟨_, _, by first | fail, ?_⟩; (conv => whnf)) | ((with_reducible apply Or.inl); (refine ⟨rfl, rfl, ?_⟩); (conv => whnf)) | ((with_reducible apply Or.inl); (with_reducible apply And.intro); (focus (simp only [rng]; omega)); (conv => whnf)) | (refine ⟨by first | omega | (simp at hg ⊢; omega) | (simp_all; first | done | fail), ?_⟩; (conv => whnf)) | ((with_reducible refine ACall.id ?_); (refine PCall.call (by first | fail) rfl ?_); (intro x hx; first | subst hx | (obtain ⟨l_, rfl, hl_⟩ := hx.out)); (conv => whnf)) | ((with_reducible apply Or.inr); (with_reducible apply And.intro) <;> (intro hb_; first | (cases hb_; done) | (conv => whnf))) | (intro hlen; (conv => whnf))); done)); (conv => whnf))
    | ((with_reducible apply And.intro); (focus (first | omega | (exact True.intro) | (simp; omega) | (exact Nat.le_of_ble_eq_true rfl) | (exact ⟨rfl, Nat.le_of_ble_eq_true rfl⟩) | (exact ⟨Nat.le_of_ble_eq_true rfl, Nat.le_of_ble_eq_true rfl⟩) | (intro hg; first | (simp; first | done | fail) | (simp at hg ⊢; exact hg) | (simp at hg; exact hg) | exact hg))); (conv => whnf))
    | ((with_reducible apply And.intro) <;> (intro hb; (try simp at hb); (try (exfalso; first | omega | (simp_all; first | done | fail))); (try (conv => whnf))))
    | ((with_reducible refine And.intro (Side.out ?_) ?_); rotate_left; (conv => whnf); rotate_right)
  · have : kindWord n = [] := by unfold kindWord; simp only [show n ≠ 1 by omega, show n ≠ 2 by omega, show n ≠ 3 by omega, show n ≠ 4 by omega, show n ≠ 5 by omega, if_false]
    rw [this]
  · exact ⟨by show 0 + n.toNat * 1 < 6; omega⟩
  · have : n = 0 ∨ n = 1 ∨ n = 2 ∨ n = 3 ∨ n = 4 ∨ n = 5 := by omega
    rcases this with rfl | rfl | rfl | rfl | rfl | rfl <;> rfl
theorem c94 (n : Int) (h : 0 ≤ n ∧ n ≤ 5) : PCall Try.prog 94 [.d (.int .i64 n)] fun x => x = .d (.int .i64 (kindLeast n)) := by
  refine PCall.intro Try.tabOk Try.f94 _ Try.func94 rfl (by decide) rfl fun z => ?_
  repeat' first
    | (with_reducible refine AW.seq ?_)
    | ((with_reducible refine AW.region Try.tabOk ?_); (conv => whnf))
    | ((with_reducible refine AW.ret ?_); (conv => whnf))
    | ((with_reducible apply And.intro); (focus (first | omega | (exact True.intro) | (simp; omega) | (exact Nat.le_of_ble_eq_true rfl) | (exact ⟨rfl, Nat.le_of_ble_eq_true rfl⟩) | (exact ⟨Nat.le_of_ble_eq_true rfl, Nat.le_of_ble_eq_true rfl⟩) | (intro hg; first | (simp; first | done | fail) | (simp at hg ⊢; exact hg) | (simp at hg; exact hg) | exact hg))); (conv => whnf))
  have : n = 0 ∨ n = 1 ∨ n = 2 ∨ n = 3 ∨ n = 4 ∨ n = 5 := by omega
  rcases this with rfl | rfl | rfl | rfl | rfl | rfl <;> rfl
theorem c96 (x y : Int) : PCall Try.prog 96 [.d (.agg [.int .i64 x, .int .i64 y])] fun r => r = .d (.bool (onGrid x y)) := by
  refine PCall.intro Try.tabOk Try.f96 _ Try.func96 rfl (by decide) rfl fun z => ?_
  repeat' first
    | (with_reducible refine AW.seq ?_)
    | ((with_reducible refine AW.region Try.tabOk ?_); (conv => whnf))
    | ((with_reducible refine AW.ret ?_); (conv => whnf))
    | ((with_reducible apply Or.inl); apply Exists.intro; apply And.intro; (focus (intro hg; (conv => whnf); (repeat' first | (with_reducible exact ⟨rfl, rfl⟩) | ((with_reducible refine Own2.data ?_); (conv => whnf)) | (refine ⟨true, _, rfl, ?_⟩; (conv => whnf)) | (refine ⟨false, .nilp, rfl, ?_⟩; (conv => whnf)) | (refine ⟨_, _, by first | fail, ?_⟩; (conv => whnf)) | ((with_reducible apply Or.inl); (refine ⟨rfl, rfl, ?_⟩); (conv => whnf)) | ((with_reducible apply Or.inl); (with_reducible apply And.intro); (focus (simp only [rng]; omega)); (conv => whnf)) | (refine ⟨by first | omega | (simp at hg ⊢; omega) | (simp_all; first | done | fail), ?_⟩; (conv => whnf)) | ((with_reducible refine ACall.id ?_); (refine PCall.call (by first | fail) rfl ?_); (intro x hx; first | subst hx | (obtain ⟨l_, rfl, hl_⟩ := hx.out)); (conv => whnf)) | ((with_reducible apply Or.inr); (with_reducible apply And.intro) <;> (intro hb_; first | (cases hb_; done) | (conv => whnf))) | (intro hlen; (conv => whnf))); done)); (conv => whnf))
    | ((with_reducible apply And.intro); (focus (first | omega | (exact True.intro) | (simp; omega) | (exact Nat.le_of_ble_eq_true rfl) | (exact ⟨rfl, Nat.le_of_ble_eq_true rfl⟩) | (exact ⟨Nat.le_of_ble_eq_true rfl, Nat.le_of_ble_eq_true rfl⟩) | (intro hg; first | (simp; first | done | fail) | (simp at hg ⊢; exact hg) | (simp at hg; exact hg) | exact hg))); (conv => whnf))
  simp only [bif_and, onGrid, ge_iff_le]

/-! ### The classes of bytes -/
def cls (n : Nat) : Nat := if 97 ≤ n ∧ n ≤ 122 ∨ 65 ≤ n ∧ n ≤ 90 then 3 else if 48 ≤ n ∧ n ≤ 57 then 4 else if n = 32 ∨ n = 9 ∨ n = 10 then 1
  else if n = 35 then 2 else if n = 95 then 5 else if n = 34 then 7
  else if [59, 44, 46, 58, 40, 41, 123, 125, 91, 93, 61, 60, 62, 47, 45].contains n then 6 else 0
def clsD (n : Nat) : D := .int .u8 (cls n : Int)
theorem c113n (s : Str) (n : Nat) (h : n < 256) : PCall Try.prog 113 [.d (.str s), .d (.int .u8 (n : Int))] fun x => x = .d (.int .i64 (byteIdx s (UInt8.ofNat n))) := by
  have := c113 s (UInt8.ofNat n)
  rwa [show (UInt8.ofNat n).toNat = n by simp; omega] at this
theorem byteIdx_nonneg (s : Str) (c : UInt8) : (0 ≤ byteIdx s c) ↔ s.contains c = true := by
  unfold byteIdx
  cases h : s.findIdx? (· == c) with
  | some i =>
    obtain ⟨hi, h1, h2⟩ := List.findIdx?_eq_some_iff_getElem.1 h
    have : s.contains c = true := by
      rw [List.contains_iff_mem]
      have := eq_of_beq h1
      rw [← this]; exact List.getElem_mem hi
    have hm : c ∈ s := by simpa using this
    simp [hm]
  | none =>
    rw [List.findIdx?_eq_none_iff] at h
    have : s.contains c = false := by
      rw [Bool.eq_false_iff]
      intro hc
      rw [List.contains_iff_mem] at hc
      have := h c hc
      simp at this
    have hm : ¬ c ∈ s := by simpa using this
    simp [hm]
def cls0 (n : Nat) : Nat := if 97 ≤ n ∧ n ≤ 122 ∨ 65 ≤ n ∧ n ≤ 90 then 3 else if 48 ≤ n ∧ n ≤ 57 then 4 else if ([32, 9, 10] : Str).contains (UInt8.ofNat n) then 1
  else if ([59, 44, 46, 58, 40, 41, 123, 125, 91, 93, 61, 60, 62, 47, 45] : Str).contains (UInt8.ofNat n) then 6 else 0
def cls0D (n : Nat) : D := .int .u8 (cls0 n : Int)
def clsF (i : Nat) (j : Nat) : D := cond (Nat.blt j i) (cls0D j) (.int .u8 0)
theorem clsF_step {i : Nat} {x : D} (hx : cls0D i = x) (j : Nat) (k : Nat) (hk : k = i) : cond (Nat.beq j k) x (clsF i j) = clsF (i + 1) j := by
  subst hk hx
  unfold clsF
  by_cases h : j = k
  · subst h
    have : Nat.blt j (j + 1) = true := Nat.ble_eq_true_of_le (Nat.le_refl _)
    simp [this]
  · have h0 : Nat.beq j k = false := by rw [Bool.eq_false_iff]; intro hc; exact h (Nat.eq_of_beq_eq_true hc)
    rw [h0]
    by_cases hl : j < k
    · rw [show Nat.blt j k = true from Nat.ble_eq_true_of_le hl, show Nat.blt j (k + 1) = true from Nat.ble_eq_true_of_le (by omega)]; rfl
    · have e1 : Nat.blt j k = false := by rw [Bool.eq_false_iff]; intro hc; exact hl (Nat.le_of_ble_eq_true hc)
      have e2 : Nat.blt j (k + 1) = false := by rw [Bool.eq_false_iff]; intro hc; have : j + 1 ≤ k + 1 := Nat.le_of_ble_eq_true hc; omega
      rw [e1, e2]; rfl
theorem clsF_stay {i : Nat} (hx : cls0D i = .int .u8 0) (j : Nat) : clsF i j = clsF (i + 1) j := by
  rw [← clsF_step hx j i rfl]
  by_cases h : j = i
  · subst h
    have : Nat.blt j j = false := by rw [Bool.eq_false_iff]; intro hc; have : j + 1 ≤ j := Nat.le_of_ble_eq_true hc; omega
    simp [clsF, this]
  · have h0 : Nat.beq j i = false := by rw [Bool.eq_false_iff]; intro hc; exact h (Nat.eq_of_beq_eq_true hc)
    rw [h0]; rfl
theorem c102 : PCall Try.prog 102 [] fun x => x = .d (.agg (tabl 256 clsD)) := by
  refine PCall.intro Try.tabOk Try.f102 _ Try.func102 rfl (by decide) rfl fun z => ?_
  repeat' first
    | (with_reducible refine AW.seq ?_)
    | ((with_reducible refine AW.region Try.tabOk ?_); (conv => whnf))
    | ((with_reducible refine AW.block ?_))
  refine AW.loopX (X := Nat) (fun i => ⟨[(0, .ptr 0 0), (1, .ptr 1 0), (4, .d (.int .i64 (i : Int)))], ⟨[(1, .dvar 256 (clsF i) 136), (0, .dvar 256 (fun _ => .int .u8 0) 136)], 2⟩, none, z⟩)
    (fun i => i ≤ 256) (fun i => 256 - i) 0 (Nat.zero_le _) ⟨rfl, rfl, rfl, ⟨OLe.dvar fun j hj => ?_, OLe.dvar fun j hj => ?_, trivial⟩, ⟨AV.le_refl _, AV.le_refl _, AV.le_refl _, trivial⟩⟩ ?_
  · have hj : j < 256 := hj
    show (List.replicate 256 (D.int .u8 0)).getD j .nilp = clsF 0 j
    rw [List.getD_eq_getElem?_getD, List.getElem?_replicate, if_pos hj]; rfl
  · have hj : j < 256 := hj
    show (List.replicate 256 (D.int .u8 0)).getD j .nilp = _
    rw [List.getD_eq_getElem?_getD, List.getElem?_replicate, if_pos hj]; rfl
  intro i hi
  repeat' first
    | (with_reducible refine AW.seq ?_)
    | ((with_reducible refine AW.region Try.tabOk ?_); (conv => whnf))
    | ((with_reducible refine AW.ret ?_); (conv => whnf))
    | ((with_reducible refine AW.block ?_))
    | ((with_reducible refine AW.exit ?_); (conv => whnf))
    | ((with_reducible refine AW.skip ?_); (conv => whnf))
    | ((with_reducible refine AW.cond ?_); (conv => whnf))
    | ((with_reducible refine ACall.id ?_); (refine PCall.call (by first | exact c113n _ _ (by omega)) rfl ?_); (intro x hx; first | subst hx | (obtain ⟨l_, rfl, hl_⟩ := hx.out)); (conv => whnf))
    | ((with_reducible apply Or.inl); apply Exists.intro; apply And.intro; (focus (intro hg; (conv => whnf); (repeat' first | (with_reducible exact ⟨rfl, rfl⟩) | ((with_reducible refine Own2.data ?_); (conv => whnf)) | (refine ⟨true, _, rfl, ?_⟩; (conv => whnf)) | (refine ⟨false, .nilp, rfl, ?_⟩; (conv => whnf)) | (refine ⟨_, _, by first | exact c113n _ _ (by omega), ?_⟩; (conv => whnf)) | ((with_reducible apply Or.inl); (refine ⟨rfl, rfl, ?_⟩); (conv => whnf)) | ((with_reducible apply Or.inl); (with_reducible apply And.intro); (focus (simp only [rng]; omega)); (conv => whnf)) | (refine ⟨by first | omega | (simp at hg ⊢; omega) | (simp_all; first | done | fail), ?_⟩; (conv => whnf)) | ((with_reducible refine ACall.id ?_); (refine PCall.call (by first | exact c113n _ _ (by omega)) rfl ?_); (intro x hx; first | subst hx | (obtain ⟨l_, rfl, hl_⟩ := hx.out)); (conv => whnf)) | ((with_reducible apply Or.inr); (with_reducible apply And.intro) <;> (intro hb_; first | (cases hb_; done) | (conv => whnf))) | (intro hlen; (conv => whnf))); done)); (conv => whnf))
    | ((with_reducible apply Or.inl); (with_reducible apply And.intro); (focus (simp only [rng]; omega)); (conv => whnf))
    | ((with_reducible apply And.intro); (focus (first | omega | (exact True.intro) | (simp; omega) | (exact Nat.le_of_ble_eq_true rfl) | (exact ⟨rfl, Nat.le_of_ble_eq_true rfl⟩) | (exact ⟨Nat.le_of_ble_eq_true rfl, Nat.le_of_ble_eq_true rfl⟩) | (intro hg; first | (simp; first | done | fail) | (simp at hg ⊢; exact hg) | (simp at hg; exact hg) | exact hg))); (conv => whnf))
    | ((with_reducible apply And.intro) <;> (intro hb; (try simp at hb); (try (exfalso; first | omega | (simp_all; first | done | fail))); (try (conv => whnf))))
  · exact .mk (i + 1) (by omega) (by show 256 - (i + 1) < 256 - i; omega) ⟨rfl, rfl, rfl, ⟨OLe.dvar fun j hj => clsF_step (by unfold cls0D cls0; rw [if_pos (by omega)]; rfl) j _ (by simp), OLe.refl _, trivial⟩, ⟨AV.le_refl _, AV.le_refl _, AV.le_refl _, trivial⟩⟩
  · exact .mk (i + 1) (by omega) (by show 256 - (i + 1) < 256 - i; omega) ⟨rfl, rfl, rfl, ⟨OLe.dvar fun j hj => clsF_step (by unfold cls0D cls0; rw [if_pos (by omega)]; rfl) j _ (by simp), OLe.refl _, trivial⟩, ⟨AV.le_refl _, AV.le_refl _, AV.le_refl _, trivial⟩⟩
  · exact .mk (i + 1) (by omega) (by show 256 - (i + 1) < 256 - i; omega) ⟨rfl, rfl, rfl, ⟨OLe.dvar fun j hj => clsF_step (by unfold cls0D cls0; rw [if_neg (by omega), if_pos (by omega)]; rfl) j _ (by simp), OLe.refl _, trivial⟩, ⟨AV.le_refl _, AV.le_refl _, AV.le_refl _, trivial⟩⟩
  · exact .mk (i + 1) (by omega) (by show 256 - (i + 1) < 256 - i; omega) ⟨rfl, rfl, rfl, ⟨OLe.dvar fun j hj => clsF_step (by unfold cls0D cls0; rw [if_neg (by omega), if_neg (by omega), if_pos ((byteIdx_nonneg _ _).1 hb)]; rfl) j _ (by simp), OLe.refl _, trivial⟩, ⟨AV.le_refl _, AV.le_refl _, AV.le_refl _, trivial⟩⟩
  · rename_i hb1
    exact .mk (i + 1) (by omega) (by show 256 - (i + 1) < 256 - i; omega) ⟨rfl, rfl, rfl, ⟨OLe.dvar fun j hj => clsF_step (by unfold cls0D cls0; rw [if_neg (by omega), if_neg (by omega), if_neg (fun h => by have := (byteIdx_nonneg _ _).2 h; omega), if_pos ((byteIdx_nonneg _ _).1 hb)]; rfl) j _ (by simp), OLe.refl _, trivial⟩, ⟨AV.le_refl _, AV.le_refl _, AV.le_refl _, trivial⟩⟩
  · rename_i hb1
    exact .mk (i + 1) (by omega) (by show 256 - (i + 1) < 256 - i; omega) ⟨rfl, rfl, rfl, ⟨OLe.dvar fun j hj => clsF_stay (by unfold cls0D cls0; rw [if_neg (by omega), if_neg (by omega), if_neg (fun h => by have := (byteIdx_nonneg _ _).2 h; omega), if_neg (fun h => by have := (byteIdx_nonneg _ _).2 h; omega)]; rfl) j, OLe.refl _, trivial⟩, ⟨AV.le_refl _, AV.le_refl _, AV.le_refl _, trivial⟩⟩
  all_goals (have he : i = 256 := by omega)
  all_goals subst he
  all_goals rfl

theorem cls_letter (n : Nat) : cls n = 3 ↔ (97 ≤ n ∧ n ≤ 122 ∨ 65 ≤ n ∧ n ≤ 90) := by
  unfold cls
  constructor
  · intro h
    split at h
    · assumption
    · repeat' split at h
      all_goals cases h
  · intro h; rw [if_pos h]
theorem cls_digit (n : Nat) : cls n = 4 ↔ (48 ≤ n ∧ n ≤ 57) := by
  unfold cls
  constructor
  · intro h
    split at h
    · cases h
    · split at h
      · assumption
      · repeat' split at h
        all_goals cases h
  · intro h; rw [if_neg (by omega), if_pos h]
theorem cls_under (n : Nat) : cls n = 5 ↔ n = 95 := by
  unfold cls
  constructor
  · intro h
    repeat' split at h
    all_goals first | assumption | cases h
  · intro h; subst h; rfl
theorem letter_iff (c : UInt8) : letter c = true ↔ cls c.toNat = 3 := by rw [cls_letter]; simp [letter]
theorem word_iff (c : UInt8) : word c = true ↔ (cls c.toNat = 3 ∨ cls c.toNat = 4 ∨ cls c.toNat = 5) := by
  rw [cls_letter, cls_digit, cls_under]; simp [word, letter, digit]; omega
theorem c74 (s : Str) : PCall Try.prog 74 [.d (.str s)] fun x => x = .d (.bool (nameB s)) := by
  refine PCall.intro Try.tabOk Try.f74 _ Try.func74 rfl (by decide) rfl fun z => ?_
  repeat' first
    | (with_reducible refine AW.seq ?_)
    | ((with_reducible refine AW.region Try.tabOk ?_); (conv => whnf))
    | ((with_reducible refine AW.block ?_))
    | ((with_reducible refine ACall.id ?_); (refine PCall.call (by first | exact c102) rfl ?_); (intro x hx; first | subst hx | (obtain ⟨l_, rfl, hl_⟩ := hx.out)); (conv => whnf))
    | ((with_reducible apply And.intro); (focus (first | omega | (exact True.intro) | (simp; omega) | (exact Nat.le_of_ble_eq_true rfl) | (exact ⟨rfl, Nat.le_of_ble_eq_true rfl⟩) | (exact ⟨Nat.le_of_ble_eq_true rfl, Nat.le_of_ble_eq_true rfl⟩) | (intro hg; first | (simp; first | done | fail) | (simp at hg ⊢; exact hg) | (simp at hg; exact hg) | exact hg))); (conv => whnf))
    | (intro hlen; (conv => whnf))
  refine AW.loopX (X := Nat) (fun i => ⟨[(3, .ptr 0 0), (0, .d (.str s)), (8, .d (.int .i64 (s.length : Int))), (9, .d (.int .i64 (i : Int)))], ⟨[(0, .dvar 256 clsD 136)], 1⟩, none, z⟩)
    (fun i => i ≤ s.length ∧ ∀ j, j < i → word (s.getD j 0) = true ∧ (j = 0 → letter (s.getD 0 0) = true)) (fun i => s.length - i) 0 ⟨by omega, fun j h => by omega⟩
    ⟨rfl, rfl, rfl, ⟨OLe.dvar fun j hj => ?_, trivial⟩, ⟨AV.le_refl _, AV.le_refl _, AV.le_refl _, AV.le_refl _, trivial⟩⟩ ?_
  · have hj : j < 256 := hj
    have h1 : Nat.ble 0 j = true := Nat.ble_eq_true_of_le (Nat.zero_le _)
    have h2 : Nat.blt j (0 + 256) = true := Nat.ble_eq_true_of_le (by omega)
    show cond (Nat.ble 0 j && Nat.blt j (0 + 256)) ((tabl 256 clsD).getD (j - 0) .nilp) _ = _
    rw [h1, h2]
    exact tabl_getD _ _ _ _ hj
  intro i ⟨hi, hw⟩
  have hc := (s.getD i 0).toNat_lt
  have hc2 : (s.getD (i : Int).toNat 0).toNat < 256 := hc
  repeat' first
    | (with_reducible refine AW.seq ?_)
    | ((with_reducible refine AW.region Try.tabOk ?_); (conv => whnf))
    | ((with_reducible refine AW.ret ?_); (conv => whnf))
    | ((with_reducible refine AW.block ?_))
    | ((with_reducible refine AW.exit ?_); (conv => whnf))
    | ((with_reducible refine AW.skip ?_); (conv => whnf))
    | ((with_reducible refine AW.cond ?_); (conv => whnf))
    | ((with_reducible apply Or.inl); apply Exists.intro; apply And.intro; (focus (intro hg; (conv => whnf); (repeat' first | (with_reducible exact ⟨rfl, rfl⟩) | ((with_reducible refine Own2.data ?_); (conv => whnf)) | (refine ⟨true, _, rfl, ?_⟩; (conv => whnf)) | (refine ⟨false, .nilp, rfl, ?_⟩; (conv => whnf)) | (refine ⟨_, _, by first | exact c102, ?_⟩; (conv => whnf)) | ((with_reducible apply Or.inl); (refine ⟨rfl, rfl, ?_⟩); (conv => whnf)) | ((with_reducible apply Or.inl); (with_reducible apply And.intro); (focus (simp only [rng]; omega)); (conv => whnf)) | (refine ⟨by first | omega | (simp at hg ⊢; omega) | (simp_all; first | done | fail), ?_⟩; (conv => whnf)) | ((with_reducible refine ACall.id ?_); (refine PCall.call (by first | exact c102) rfl ?_); (intro x hx; first | subst hx | (obtain ⟨l_, rfl, hl_⟩ := hx.out)); (conv => whnf)) | ((with_reducible apply Or.inr); (with_reducible apply And.intro) <;> (intro hb_; first | (cases hb_; done) | (conv => whnf))) | (intro hlen; (conv => whnf))); done)); (conv => whnf))
    | ((with_reducible apply Or.inl); (with_reducible apply And.intro); (focus (simp only [rng]; omega)); (conv => whnf))
    | ((with_reducible apply And.intro); (focus (first | omega | (exact True.intro) | (simp; omega) | (exact Nat.le_of_ble_eq_true rfl) | (exact ⟨rfl, Nat.le_of_ble_eq_true rfl⟩) | (exact ⟨Nat.le_of_ble_eq_true rfl, Nat.le_of_ble_eq_true rfl⟩) | (intro hg; first | (simp; first | done | fail) | (simp at hg ⊢; exact hg) | (simp at hg; exact hg) | exact hg))); (conv => whnf))
    | ((with_reducible apply And.intro) <;> (intro hb; (try simp at hb); (try (exfalso; first | omega | (simp_all; first | done | fail))); (try (conv => whnf))))
    | ((with_reducible refine And.intro (Side.out ?_) ?_); rotate_left; (conv => whnf); rotate_right)
  · exact ⟨by show 0 + ((s.getD (i : Int).toNat 0).toNat : Int).toNat * 1 < 256; omega⟩
  · rename_i hit
    have hg : s[i]?.getD 0 = s.getD i 0 := by rw [List.getD_eq_getElem?_getD]
    rw [hg] at hb
    have : nameB s = false := by
      unfold nameB
      rcases hb.2 with h0 | h0
      · subst h0
        have : letter (s.getD 0 0) = false := by
          rw [Bool.eq_false_iff]; intro h; have := (letter_iff _).1 h; omega
        rw [this]; simp
      · rw [not_all_of_getD (p := word) 0 hit (by rw [Bool.eq_false_iff]; intro h; have := (word_iff _).1 h; omega)]; simp
    rw [this]
  · rename_i hit
    have hg : s[i]?.getD 0 = s.getD i 0 := by rw [List.getD_eq_getElem?_getD]
    rw [hg] at hb
    refine .mk (i + 1) ⟨by omega, fun j hj => ?_⟩ (by show s.length - (i + 1) < s.length - i; omega) ⟨rfl, rfl, rfl, ⟨OLe.refl _, trivial⟩, ⟨AV.le_refl _, AV.le_refl _, AV.le_refl _, AV.le_refl _, trivial⟩⟩
    by_cases e : j = i
    · subst e
      refine ⟨(word_iff _).2 (by omega), fun h => ?_⟩
      subst h
      exact (letter_iff _).2 (by omega)
    · exact hw j (by omega)
  · congr 2
    have hi2 : i = s.length := by omega
    subst hi2
    rw [bif_and]
    have hall : s.all word = true := all_of_getD 0 fun j hj => (hw j hj).1
    unfold nameB
    rw [hall]
    cases s with
    | nil => rfl
    | cons c r =>
      have hl : letter ((c :: r).getD 0 0) = true := (hw 0 (by simp)).2 rfl
      rw [hl]
      have : (decide (((c :: r).length : Int) ≤ 24)) = decide ((c :: r).length ≤ 24) := by rw [Bool.eq_iff_iff]; simp; omega
      rw [this]
      simp
end Go.Proofs
end
section
/- Contracts: tags. -/
namespace Go.Proofs
open Go.Pm
set_option maxRecDepth 100000

def ltS (a b : Str) : Bool := Op.bytesLess a b
theorem ltS_nil (a : Str) : ltS a [] = false := by cases a <;> rfl
theorem ltS_irrefl (a : Str) : ltS a a = false := by
  induction a with
  | nil => rfl
  | cons x a ih =>
    show (decide (x < x) || (x == x && ltS a a)) = false
    rw [ih]; simp
theorem ltS_cons (x y : UInt8) (a b : Str) : ltS (x :: a) (y :: b) = (decide (x < y) || (x == y && ltS a b)) := rfl
theorem ltS_trans : ∀ {a b c : Str}, ltS a b = true → ltS b c = true → ltS a c = true
  | _, b, [], h1, h2 => by rw [ltS_nil] at h2; cases h2
  | [], _, c :: cs, h1, h2 => rfl
  | a :: p, [], c :: r, h1, h2 => by rw [ltS_nil] at h1; cases h1
  | a :: p, b :: q, c :: r, h1, h2 => by
    rw [ltS_cons] at h1 h2 ⊢
    simp only [Bool.or_eq_true, Bool.and_eq_true, decide_eq_true_eq, beq_iff_eq] at h1 h2 ⊢
    rcases h1 with h1 | ⟨rfl, h1⟩
    · rcases h2 with h2 | ⟨rfl, h2⟩
      · left; exact UInt8.lt_trans h1 h2
      · left; exact h1
    · rcases h2 with h2 | ⟨rfl, h2⟩
      · left; exact h2
      · right; exact ⟨rfl, ltS_trans h1 h2⟩
theorem ltS_tri : ∀ (a b : Str), ltS a b = true ∨ a = b ∨ ltS b a = true
  | [], [] => .inr (.inl rfl)
  | [], _ :: _ => .inl rfl
  | _ :: _, [] => .inr (.inr rfl)
  | a :: p, b :: q => by
    rw [ltS_cons, ltS_cons]
    simp only [Bool.or_eq_true, Bool.and_eq_true, decide_eq_true_eq, beq_iff_eq]
    have htri : a < b ∨ a = b ∨ b < a := by
      rcases Nat.lt_trichotomy a.toNat b.toNat with h | h | h
      · exact .inl h
      · exact .inr (.inl (UInt8.toNat_inj.1 h))
      · exact .inr (.inr h)
    rcases htri with h | rfl | h
    · exact .inl (.inl h)
    · rcases ltS_tri p q with h | rfl | h
      · exact .inl (.inr ⟨rfl, h⟩)
      · exact .inr (.inl rfl)
      · exact .inr (.inr (.inr ⟨rfl, h⟩))
    · exact .inr (.inr (.inl h))
theorem ltS_asymm {a b : Str} (h : ltS a b = true) : ltS b a = false := by
  rw [Bool.eq_false_iff]; intro h2
  have := ltS_trans h h2
  rw [ltS_irrefl] at this; cases this
theorem ltS_ne {a b : Str} (h : ltS a b = true) : a ≠ b := by
  rintro rfl; rw [ltS_irrefl] at h; cases h
/-- Go's <=, by what it is made of. -/
theorem leS_not (a b : Str) : (Op.bytesLess a b || a == b) = !ltS b a := by
  show (ltS a b || a == b) = _
  rcases ltS_tri a b with h | rfl | h
  · rw [h, ltS_asymm h]; rfl
  · rw [ltS_irrefl]; simp
  · rw [ltS_asymm h, h]
    have := ltS_ne h
    simp [Ne.symm this]

/-- In order, strictly. -/
def ascP (l : List Str) : Prop := ∀ i, i + 1 < l.length → ltS (l.getD i []) (l.getD (i + 1) []) = true
instance (l : List Str) : Decidable (ascP l) := by
  unfold ascP
  exact decidable_of_iff (∀ i, i < l.length - 1 → ltS (l.getD i []) (l.getD (i + 1) []) = true) ⟨fun h i hi => h i (by omega), fun h i hi => h i (by omega)⟩
def tagB (p : Str × Str) : Bool := nameB p.1 && decide (0 < p.2.length) && decide (p.2.length ≤ 200)
def tagsB (L : List (Str × Str)) : Bool := L.all tagB && decide (ascP (L.map (·.1))) && decide (L.length ≤ 60)

def lastK (L : List Str) (i : Nat) : Str := if i = 0 then [] else L.getD (i - 1) []
theorem map_getD {α β : Type} (f : α → β) (L : List α) (i : Nat) (d : α) : (L.map f).getD i (f d) = f (L.getD i d) := by
  simp only [List.getD_eq_getElem?_getD, List.getElem?_map]
  cases L[i]? <;> rfl
theorem nameB_ne {k : Str} (h : nameB k = true) : k ≠ [] := by rintro rfl; revert h; decide
theorem nil_lt {k : Str} (h : k ≠ []) : ltS [] k = true := by cases k with | nil => exact absurd rfl h | cons => rfl

theorem c37 (L : List (Str × Str)) : PCall Try.prog 37 [.d (encTags L)] fun x => x = .d (.bool (tagsB L)) := by
  refine PCall.intro Try.tabOk Try.f37 _ Try.func37 rfl (by decide) rfl fun z => ?_
  repeat' first
    | (with_reducible refine AW.seq ?_)
    | ((with_reducible refine AW.region Try.tabOk ?_); (conv => whnf))
    | ((with_reducible refine AW.block ?_))
    | (intro hlen; (conv => whnf))
  refine AW.loopN (X := Nat) (fun i => ⟨[(3, .d (.str (lastK (L.map (·.1)) i))), (6, .d (encTags L)), (7, .d (.int .i64 (L.length : Int))), (8, .d (.int .i64 (i : Int))), (0, .d (encTags L))], ⟨[], 0⟩, none, z⟩)
    (fun i => i ≤ L.length ∧ (∀ j, j < i → tagB (L.getD j dT) = true) ∧ ∀ j, j + 1 < i → ltS ((L.getD j dT).1) ((L.getD (j + 1) dT).1) = true) (fun i => L.length - i) (fun _ _ => ⟨rfl, rfl⟩) 0 ⟨by omega, fun j h => by omega, fun j h => by omega⟩ ⟨rfl, rfl, rfl, trivial, ⟨AV.le_refl _, AV.le_refl _, AV.le_refl _, AV.le_refl _, AV.le_refl _, trivial⟩⟩ ?_
  intro i ⟨hi, hw, ha⟩
  repeat' first
    | (with_reducible refine AW.seq ?_)
    | ((with_reducible refine AW.region Try.tabOk ?_); (conv => whnf))
    | ((with_reducible refine AW.ret ?_); (conv => whnf))
    | ((with_reducible refine AW.block ?_))
    | ((with_reducible refine AW.exit ?_); (conv => whnf))
    | ((with_reducible refine AW.skip ?_); (conv => whnf))
    | ((with_reducible refine AW.cond ?_); (conv => whnf))
    | ((with_reducible refine ACall.id ?_); (refine PCall.call (by first | exact c74 _) rfl ?_); (intro x hx; first | subst hx | (obtain ⟨l_, rfl, hl_⟩ := hx.out)); (conv => whnf))
    | ((with_reducible apply Or.inl); apply Exists.intro; apply And.intro; (focus (intro hg; (conv => whnf); (repeat' first | (with_reducible exact ⟨rfl, rfl⟩) | ((with_reducible refine Own2.data ?_); (conv => whnf)) | (refine ⟨true, _, rfl, ?_⟩; (conv => whnf)) | (refine ⟨false, .nilp, rfl, ?_⟩; (conv => whnf)) | (refine ⟨_, _, by first | exact c74 _, ?_⟩; (conv => whnf)) | ((with_reducible apply Or.inl); (refine ⟨rfl, rfl, ?_⟩); (conv => whnf)) | ((with_reducible apply Or.inl); (with_reducible apply And.intro); (focus (simp only [rng]; omega)); (conv => whnf)) | (refine ⟨by first | omega | (simp at hg ⊢; omega) | (simp_all; first | done | fail), ?_⟩; (conv => whnf)) | ((with_reducible refine ACall.id ?_); (refine PCall.call (by first | exact c74 _) rfl ?_); (intro x hx; first | subst hx | (obtain ⟨l_, rfl, hl_⟩ := hx.out)); (conv => whnf)) | ((with_reducible apply Or.inr); (with_reducible apply And.intro) <;> (intro hb_; first | (cases hb_; done) | (conv => whnf))) | (intro hlen; (conv => whnf))); done)); (conv => whnf))
    | ((with_reducible apply Or.inl); (with_reducible apply And.intro); (focus (simp only [rng]; omega)); (conv => whnf))
    | ((with_reducible apply And.intro); (focus (first | omega | (exact True.intro) | (simp; omega) | (exact Nat.le_of_ble_eq_true rfl) | (exact ⟨rfl, Nat.le_of_ble_eq_true rfl⟩) | (exact ⟨Nat.le_of_ble_eq_true rfl, Nat.le_of_ble_eq_true rfl⟩) | (intro hg; first | (simp; first | done | fail) | (simp at hg ⊢; exact hg) | (simp at hg; exact hg) | exact hg))); (conv => whnf))
    | ((with_reducible apply And.intro) <;> (intro hb; (try simp at hb); (try (exfalso; first | omega | (simp_all; first | done | fail))); (try (conv => whnf))))
    | (intro hlen; (conv => whnf))
  · rename_i hit
    simp only [← List.getD_eq_getElem?_getD] at hb
    have : tagsB L = false := by
      rw [Bool.eq_false_iff]
      intro ht
      simp only [tagsB, Bool.and_eq_true, decide_eq_true_eq] at ht
      obtain ⟨⟨h1, h2⟩, h3⟩ := ht
      have h1 := (List.all_eq_true.1 h1) (L.getD i dT) (by rw [List.getD_eq_getElem?_getD, List.getElem?_eq_getElem hit]; simp)
      simp only [tagB, Bool.and_eq_true, decide_eq_true_eq] at h1
      rcases hb with (hb | hb) | hb
      · rcases hb with hb | hb
        · rw [hb] at h1; exact absurd h1.1.1 (by simp)
        · have hlt : ltS (lastK (L.map (·.1)) i) (L.getD i dT).1 = true := by
            unfold lastK
            split
            · exact nil_lt (nameB_ne h1.1.1)
            · have := h2 (i - 1) (by simp; omega)
              rw [show i - 1 + 1 = i by omega] at this
              have e : (L.map (·.1)).getD i [] = (L.getD i dT).1 := map_getD (fun p : Str × Str => p.1) L i dT
              rw [e] at this; exact this
          rcases hb with hb | hb
          · have := ltS_asymm hlt
            rw [show ltS (L.getD i dT).1 (lastK (L.map (·.1)) i) = true from hb] at this; cases this
          · exact ltS_ne hlt hb.symm
      · rw [hb] at h1; simp at h1
      · have : List.length (L.getD i ([], [])).2 ≤ 200 := h1.2
        omega
    rw [this]
  · rename_i hit
    simp only [← List.getD_eq_getElem?_getD] at hb
    have hlk : ∀ k, k < L.length → lastK (L.map (·.1)) (k + 1) = (L.getD k dT).1 := fun k hk => by
      unfold lastK
      rw [if_neg (by omega), show k + 1 - 1 = k by omega]
      exact map_getD (fun p : Str × Str => p.1) L k dT
    refine .mk (i + 1) ⟨by omega, fun j hj => ?_, fun j hj => ?_⟩ (by show L.length - (i + 1) < L.length - i; omega) ⟨rfl, rfl, rfl, trivial, ⟨AV.le_of_eq (by rw [hlk i hit]; rfl), AV.le_refl _, AV.le_refl _, AV.le_refl _, AV.le_refl _, trivial⟩, rfl⟩
    · by_cases e : j = i
      · subst e
        have h2 : 0 < (L.getD j dT).2.length := List.length_pos_iff.2 hb.1.2
        have h3 : (L.getD j dT).2.length ≤ 200 := by have := hb.2; show List.length (L.getD j ([], [])).2 ≤ 200; omega
        simp only [tagB, Bool.and_eq_true, decide_eq_true_eq]
        exact ⟨⟨hb.1.1.1, h2⟩, h3⟩
      · exact hw j (by omega)
    · by_cases e : j + 1 = i
      · have h1 := hb.1.1.2
        have hl : lastK (L.map (·.1)) i = (L.getD j dT).1 := by rw [← e]; exact hlk j (by omega)
        rw [hl] at h1
        rcases ltS_tri (L.getD j dT).1 (L.getD i dT).1 with h | h | h
        · rw [e]; exact h
        · exact absurd h.symm h1.2
        · have := h1.1
          rw [show Op.bytesLess (L.getD i ([], [])).1 (L.getD j dT).1 = ltS (L.getD i dT).1 (L.getD j dT).1 from rfl, h] at this; cases this
      · exact ha j (by omega)
  · have he : i = L.length := by omega
    subst he
    have h1 : L.all tagB = true := all_of_getD dT hw
    have h2 : ascP (L.map (·.1)) := fun j hj => by
      rw [List.length_map] at hj
      have := ha j hj
      rw [show (L.map (·.1)).getD j [] = (L.getD j dT).1 from map_getD (fun p : Str × Str => p.1) L j dT, show (L.map (·.1)).getD (j + 1) [] = (L.getD (j + 1) dT).1 from map_getD (fun p : Str × Str => p.1) L (j + 1) dT]
      exact this
    have : tagsB L = decide ((L.length : Int) ≤ 60) := by
      rw [Bool.eq_iff_iff]
      simp only [tagsB, h1, h2, decide_true, Bool.and_true, Bool.true_and, decide_eq_true_eq]
      omega
    rw [this]

def getT (L : List (Str × Str)) (k : Str) : Option Str := (L.find? fun p => p.1 == k).map (·.2)
theorem getT_some {L : List (Str × Str)} {k : Str} {i : Nat} (hi : i < L.length) (hk : (L.getD i dT).1 = k) (h : ∀ j, j < i → (L.getD j dT).1 ≠ k) : getT L k = some (L.getD i dT).2 := by
  have : L.find? (fun p => p.1 == k) = some (L.getD i dT) := by
    rw [List.find?_eq_some_iff_getElem]
    refine ⟨by simpa using hk, i, hi, by rw [List.getD_eq_getElem?_getD, List.getElem?_eq_getElem hi]; rfl, fun j hj => ?_⟩
    have := h j hj
    rw [List.getD_eq_getElem?_getD, List.getElem?_eq_getElem (by omega)] at this
    simpa using this
  simp [getT, this]
theorem getT_none {L : List (Str × Str)} {k : Str} (h : ∀ j, j < L.length → (L.getD j dT).1 ≠ k) : getT L k = none := by
  have : L.find? (fun p => p.1 == k) = none := by
    rw [List.find?_eq_none]
    intro x hx
    obtain ⟨j, hj, rfl⟩ := List.mem_iff_getElem.1 hx
    have := h j hj
    rw [List.getD_eq_getElem?_getD, List.getElem?_eq_getElem hj] at this
    simpa using this
  simp [getT, this]
theorem c42 (L : List (Str × Str)) (k : Str) : PCall Try.prog 42 [.d (encTags L), .d (.str k)] fun x => x = .tup [.d (.str ((getT L k).getD [])), .d (.bool (getT L k).isSome)] := by
  refine PCall.intro Try.tabOk Try.f42 _ Try.func42 rfl (by decide) rfl fun z => ?_
  repeat' first
    | (with_reducible refine AW.seq ?_)
    | ((with_reducible refine AW.region Try.tabOk ?_); (conv => whnf))
    | ((with_reducible refine AW.block ?_))
    | (intro hlen; (conv => whnf))
  refine AW.loopN (X := Nat) (fun i => ⟨[(8, .d (encTags L)), (9, .d (.int .i64 (L.length : Int))), (10, .d (.int .i64 (i : Int))), (1, .d (.str k))], ⟨[], 0⟩, none, z⟩)
    (fun i => i ≤ L.length ∧ (∀ j, j < i → (L.getD j dT).1 ≠ k)) (fun i => L.length - i) (fun _ _ => ⟨rfl, rfl⟩) 0 ⟨by omega, fun j h => by omega⟩ ⟨rfl, rfl, rfl, trivial, ⟨AV.le_refl _, AV.le_refl _, AV.le_refl _, AV.le_refl _, trivial⟩⟩ ?_
  intro i ⟨hi, hw⟩
  repeat' first
    | (with_reducible refine AW.seq ?_)
    | ((with_reducible refine AW.region Try.tabOk ?_); (conv => whnf))
    | ((with_reducible refine AW.ret ?_); (conv => whnf))
    | ((with_reducible refine AW.block ?_))
    | ((with_reducible refine AW.exit ?_); (conv => whnf))
    | ((with_reducible refine AW.skip ?_); (conv => whnf))
    | ((with_reducible refine AW.cond ?_); (conv => whnf))
    | ((with_reducible apply Or.inl); (with_reducible apply And.intro); (focus (simp only [rng]; omega)); (conv => whnf))
    | ((with_reducible apply And.intro); (focus (first | omega | (exact True.intro) | (simp; omega) | (exact Nat.le_of_ble_eq_true rfl) | (exact ⟨rfl, Nat.le_of_ble_eq_true rfl⟩) | (exact ⟨Nat.le_of_ble_eq_true rfl, Nat.le_of_ble_eq_true rfl⟩) | (intro hg; first | (simp; first | done | fail) | (simp at hg ⊢; exact hg) | (simp at hg; exact hg) | exact hg))); (conv => whnf))
    | ((with_reducible apply And.intro) <;> (intro hb; (try simp at hb); (try (exfalso; first | omega | (simp_all; first | done | fail))); (try (conv => whnf))))
  · rename_i hit
    simp only [← List.getD_eq_getElem?_getD] at hb
    rw [getT_some hit hb hw]; rfl
  · rename_i hit
    simp only [← List.getD_eq_getElem?_getD] at hb
    exact .mk (i + 1) ⟨by omega, fun j hj => by
      by_cases e : j = i
      · subst e; exact hb
      · exact hw j (by omega)⟩ (by show L.length - (i + 1) < L.length - i; omega) ⟨rfl, rfl, rfl, trivial, ⟨AV.le_refl _, AV.le_refl _, AV.le_refl _, AV.le_refl _, trivial⟩, rfl⟩
  · rw [getT_none fun j hj => hw j (by omega)]; rfl

/-! ### Languages of keys -/
def lower (c : UInt8) : Bool := decide (97 ≤ c.toNat) && decide (c.toNat ≤ 122)
def nameS : Str := [110, 97, 109, 101]
def name_S : Str := [110, 97, 109, 101, 95]
def langTail (l : Str) : Bool := l.all lower && decide (0 < l.length) && decide (l.length ≤ 8)
def lang (k : Str) : Option Str := if k = nameS then some [] else if name_S.isPrefixOf k && langTail (k.drop 5) then some (k.drop 5) else none
theorem lang_name : lang nameS = some [] := rfl
theorem lang_none {k : Str} (h : k ≠ nameS) (h2 : (name_S.isPrefixOf k && langTail (k.drop 5)) = false) : lang k = none := by unfold lang; rw [if_neg h, h2]; rfl
theorem lang_some {k : Str} (h : k ≠ nameS) (h2 : (name_S.isPrefixOf k && langTail (k.drop 5)) = true) : lang k = some (k.drop 5) := by unfold lang; rw [if_neg h, h2]; rfl
theorem pre5 (k : Str) : name_S.isPrefixOf k = true ↔ k.take 5 = name_S := by
  rw [List.isPrefixOf_iff_prefix, List.prefix_iff_eq_take]; exact eq_comm
theorem c40 (k : Str) : PCall Try.prog 40 [.d (.str k)] fun x => x = .tup [.d (.str ((lang k).getD [])), .d (.bool (lang k).isSome)] := by
  refine PCall.intro Try.tabOk Try.f40 _ Try.func40 rfl (by decide) rfl fun z => ?_
  repeat' first
    | (with_reducible refine AW.seq ?_)
    | ((with_reducible refine AW.region Try.tabOk ?_); (conv => whnf))
    | ((with_reducible refine AW.ret ?_); (conv => whnf))
    | ((with_reducible refine AW.block ?_))
    | ((with_reducible refine AW.skip ?_); (conv => whnf))
    | ((with_reducible refine AW.cond ?_); (conv => whnf))
    | ((with_reducible apply Or.inl); apply Exists.intro; apply And.intro; (focus (intro hg; (conv => whnf); (repeat' first | (with_reducible exact ⟨rfl, rfl⟩) | ((with_reducible refine Own2.data ?_); (conv => whnf)) | (refine ⟨true, _, rfl, ?_⟩; (conv => whnf)) | (refine ⟨false, .nilp, rfl, ?_⟩; (conv => whnf)) | (refine ⟨_, _, by first | exact c74 _, ?_⟩; (conv => whnf)) | ((with_reducible apply Or.inl); (refine ⟨rfl, rfl, ?_⟩); (conv => whnf)) | ((with_reducible apply Or.inl); (with_reducible apply And.intro); (focus (simp only [rng]; omega)); (conv => whnf)) | (refine ⟨by first | omega | (simp at hg ⊢; omega) | (simp_all; first | done | fail), ?_⟩; (conv => whnf)) | ((with_reducible refine ACall.id ?_); (refine PCall.call (by first | exact c74 _) rfl ?_); (intro x hx; first | subst hx | (obtain ⟨l_, rfl, hl_⟩ := hx.out)); (conv => whnf)) | ((with_reducible apply Or.inr); (with_reducible apply And.intro) <;> (intro hb_; first | (cases hb_; done) | (conv => whnf))) | (intro hlen; (conv => whnf))); done)); (conv => whnf))
    | ((with_reducible apply And.intro); (focus (first | omega | (exact True.intro) | (simp; omega) | (exact Nat.le_of_ble_eq_true rfl) | (exact ⟨rfl, Nat.le_of_ble_eq_true rfl⟩) | (exact ⟨Nat.le_of_ble_eq_true rfl, Nat.le_of_ble_eq_true rfl⟩) | (intro hg; first | (simp; first | done | fail) | (simp at hg ⊢; exact hg) | (simp at hg; exact hg) | exact hg))); (conv => whnf))
    | ((with_reducible apply And.intro) <;> (intro hb; (try simp at hb); (try (exfalso; first | omega | (simp_all; first | done | fail))); (try (conv => whnf))))
    | (intro hlen; (conv => whnf))
  · rw [show k = nameS from hb]; rfl
  · rename_i hne
    rw [lang_none hne]
    · rfl
    · rw [Bool.eq_false_iff]; intro hc
      simp only [Bool.and_eq_true, langTail, decide_eq_true_eq, List.length_drop] at hc
      obtain ⟨h1, h2⟩ := hc
      rcases hb with hb | hb
      · omega
      · exact hb ((pre5 k).1 h1)
  rename_i hne
  obtain ⟨hl, hp⟩ := hb
  refine AW.loopX (X := Nat) (fun i => ⟨[(0, .d (.str k)), (4, .d (.int .i64 (i : Int)))], ⟨[], 0⟩, none, z⟩)
    (fun i => 5 ≤ i ∧ i ≤ k.length ∧ ∀ j, 5 ≤ j → j < i → lower (k.getD j 0) = true) (fun i => k.length - i) 5 ⟨by omega, by omega, fun j h => by omega⟩ ⟨rfl, rfl, rfl, trivial, ⟨AV.le_refl _, AV.le_refl _, trivial⟩⟩ ?_
  intro i ⟨hi0, hi, hw⟩
  repeat' first
    | (with_reducible refine AW.seq ?_)
    | ((with_reducible refine AW.region Try.tabOk ?_); (conv => whnf))
    | ((with_reducible refine AW.ret ?_); (conv => whnf))
    | ((with_reducible refine AW.block ?_))
    | ((with_reducible refine AW.exit ?_); (conv => whnf))
    | ((with_reducible refine AW.skip ?_); (conv => whnf))
    | ((with_reducible refine AW.cond ?_); (conv => whnf))
    | ((with_reducible apply Or.inl); apply Exists.intro; apply And.intro; (focus (intro hg; (conv => whnf); (repeat' first | (with_reducible exact ⟨rfl, rfl⟩) | ((with_reducible refine Own2.data ?_); (conv => whnf)) | (refine ⟨true, _, rfl, ?_⟩; (conv => whnf)) | (refine ⟨false, .nilp, rfl, ?_⟩; (conv => whnf)) | (refine ⟨_, _, by first | exact c74 _, ?_⟩; (conv => whnf)) | ((with_reducible apply Or.inl); (refine ⟨rfl, rfl, ?_⟩); (conv => whnf)) | ((with_reducible apply Or.inl); (with_reducible apply And.intro); (focus (simp only [rng]; omega)); (conv => whnf)) | (refine ⟨by first | omega | (simp at hg ⊢; omega) | (simp_all; first | done | fail), ?_⟩; (conv => whnf)) | ((with_reducible refine ACall.id ?_); (refine PCall.call (by first | exact c74 _) rfl ?_); (intro x hx; first | subst hx | (obtain ⟨l_, rfl, hl_⟩ := hx.out)); (conv => whnf)) | ((with_reducible apply Or.inr); (with_reducible apply And.intro) <;> (intro hb_; first | (cases hb_; done) | (conv => whnf))) | (intro hlen; (conv => whnf))); done)); (conv => whnf))
    | ((with_reducible apply Or.inl); (with_reducible apply And.intro); (focus (simp only [rng]; omega)); (conv => whnf))
    | ((with_reducible apply And.intro); (focus (first | omega | (exact True.intro) | (simp; omega) | (exact Nat.le_of_ble_eq_true rfl) | (exact ⟨rfl, Nat.le_of_ble_eq_true rfl⟩) | (exact ⟨Nat.le_of_ble_eq_true rfl, Nat.le_of_ble_eq_true rfl⟩) | (intro hg; first | (simp; first | done | fail) | (simp at hg ⊢; exact hg) | (simp at hg; exact hg) | exact hg))); (conv => whnf))
    | ((with_reducible apply And.intro) <;> (intro hb; (try simp at hb); (try (exfalso; first | omega | (simp_all; first | done | fail))); (try (conv => whnf))))
    | (intro hlen; (conv => whnf))
  · rename_i hit
    rw [lang_none hne]
    · rfl
    · rw [Bool.eq_false_iff]; intro hc
      simp only [Bool.and_eq_true, langTail, decide_eq_true_eq, List.length_drop] at hc
      have := List.all_eq_true.1 hc.2.1.1 (k.getD i 0) (by
        rw [List.getD_eq_getElem?_getD, List.getElem?_eq_getElem hit]
        rw [List.mem_drop_iff_getElem]
        exact ⟨i - 5, by omega, by simp [show 5 + (i - 5) = i by omega]⟩)
      simp only [← List.getD_eq_getElem?_getD] at hb
      simp only [lower, Bool.and_eq_true, decide_eq_true_eq] at this
      omega
  · rename_i hit
    simp only [← List.getD_eq_getElem?_getD] at hb
    refine .mk (i + 1) ⟨by omega, by omega, fun j hj1 hj => ?_⟩ (by show k.length - (i + 1) < k.length - i; omega) ⟨rfl, rfl, rfl, trivial, ⟨AV.le_refl _, AV.le_refl _, trivial⟩⟩
    by_cases e : j = i
    · subst e; simp only [lower, Bool.and_eq_true, decide_eq_true_eq]; omega
    · exact hw j hj1 (by omega)
  · rw [lang_some hne]
    · rfl
    · have : (k.drop 5).all lower = true := all_of_getD 0 fun j hj => by
        rw [List.length_drop] at hj
        have := hw (5 + j) (by omega) (by omega)
        rwa [List.getD_eq_getElem?_getD, List.getElem?_drop, ← List.getD_eq_getElem?_getD]
      simp only [langTail, this, (pre5 k).2 hp, Bool.true_and, Bool.and_eq_true, decide_eq_true_eq, List.length_drop]
      omega
end Go.Proofs
end
section
/- Contracts: languages by runes; name tags. -/
namespace Go.Proofs
open Go.Pm
set_option maxRecDepth 100000

/-! ### Runes -/
theorem rune_size (s : Str) : (⟨s.toArray⟩ : ByteArray).size = s.length := by simp [ByteArray.size]
theorem rune_get {s : Str} {i : Nat} (h : i < s.length) : (⟨s.toArray⟩ : ByteArray).get! i = s.getD i 0 := by
  show s.toArray[i]! = _
  rw [getElem!_pos _ i (by simpa using h)]
  simp [List.getD_eq_getElem?_getD, h]
theorem bandL {a b : Bool} (h : (a && b) = true) : a = true := (Bool.and_eq_true a b ▸ h : _ ∧ _).1
theorem bandR {a b : Bool} (h : (a && b) = true) : b = true := (Bool.and_eq_true a b ▸ h : _ ∧ _).2
theorem rune_low {s : Str} {i : Nat} (h : i < s.length) (hc : (s.getD i 0).toNat < 128) : runeAt s i = ((s.getD i 0).toNat, 1) := by
  unfold runeAt Utf8.decode
  simp only [Nat.add_zero, rune_get h]
  rw [if_pos hc]
structure RuneHigh (s : Str) (i : Nat) : Prop where
  rune : 128 ≤ (runeAt s i).1
  pos : 0 < (runeAt s i).2
  end_ : i + (runeAt s i).2 ≤ s.length
  bytes : ∀ j, i ≤ j → j < i + (runeAt s i).2 → 128 ≤ (s.getD j 0).toNat
theorem rune_high {s : Str} {i : Nat} (h : i < s.length) (hc : 128 ≤ (s.getD i 0).toNat) : RuneHigh s i := by
  have cont : ∀ k, (i + k < (⟨s.toArray⟩ : ByteArray).size && ((⟨s.toArray⟩ : ByteArray).get! (i + k)).toNat / 64 == 2) = true → i + k < s.length ∧ 128 ≤ (s.getD (i + k) 0).toNat := by
    intro k hk
    simp only [Bool.and_eq_true, decide_eq_true_eq, beq_iff_eq, rune_size] at hk
    rw [rune_get hk.1] at hk
    exact ⟨hk.1, by omega⟩
  have one : ∀ r : Nat, 128 ≤ r → ∀ p : Nat × Nat, p = (r, 1) → runeAt s i = p → RuneHigh s i := by
    intro r hr p hp he
    subst hp
    refine ⟨by rw [he]; exact hr, by rw [he]; exact Nat.one_pos, by rw [he]; exact h, fun j h1 h2 => ?_⟩
    rw [he] at h2
    have : j = i := by simp at h2; omega
    rw [this]; exact hc
  obtain ⟨p, hp⟩ : ∃ p, runeAt s i = p := ⟨_, rfl⟩
  have hp0 := hp
  unfold runeAt Utf8.decode at hp
  simp only [Nat.add_zero, rune_get h] at hp
  rw [if_neg (by omega)] at hp
  have err : 128 ≤ Utf8.runeError := by decide
  split at hp
  · rename_i hc2
    have c1 := cont 1 (bandR hc2)
    split at hp
    · rename_i hge
      refine ⟨by rw [hp0, ← hp]; exact hge, by rw [hp0, ← hp]; exact Nat.two_pos, by rw [hp0, ← hp]; show i + 2 ≤ _; omega, fun j h1 h2 => ?_⟩
      rw [hp0, ← hp] at h2
      have : j = i ∨ j = i + 1 := by simp at h2; omega
      rcases this with rfl | rfl
      · exact hc
      · exact c1.2
    · exact one _ err _ hp.symm hp0
  · split at hp
    · rename_i hc2
      have c1 := cont 1 (bandR (bandL hc2))
      have c2 := cont 2 (bandR hc2)
      split at hp
      · rename_i hge
        have hge := bandL hge
        refine ⟨by rw [hp0, ← hp]; have := of_decide_eq_true hge; show 128 ≤ _; omega, by rw [hp0, ← hp]; exact Nat.succ_pos _, by rw [hp0, ← hp]; show i + 3 ≤ _; omega, fun j h1 h2 => ?_⟩
        rw [hp0, ← hp] at h2
        have : j = i ∨ j = i + 1 ∨ j = i + 2 := by simp at h2; omega
        rcases this with rfl | rfl | rfl
        · exact hc
        · exact c1.2
        · exact c2.2
      · exact one _ err _ hp.symm hp0
    · split at hp
      · rename_i hc2
        have c3 := cont 3 (bandR hc2)
        have hc2 := bandL hc2
        have c2 := cont 2 (bandR hc2)
        have hc2 := bandL hc2
        have c1 := cont 1 (bandR hc2)
        split at hp
        · rename_i hge
          have hge := bandL hge
          refine ⟨by rw [hp0, ← hp]; have := of_decide_eq_true hge; show 128 ≤ _; omega, by rw [hp0, ← hp]; exact Nat.succ_pos _, by rw [hp0, ← hp]; show i + 4 ≤ _; omega, fun j h1 h2 => ?_⟩
          rw [hp0, ← hp] at h2
          have : j = i ∨ j = i + 1 ∨ j = i + 2 ∨ j = i + 3 := by simp at h2; omega
          rcases this with rfl | rfl | rfl | rfl
          · exact hc
          · exact c1.2
          · exact c2.2
          · exact c3.2
        · exact one _ err _ hp.symm hp0
      · exact one _ err _ hp.symm hp0

theorem all_take_step {p : UInt8 → Bool} {s : Str} {i w : Nat} (hw : 0 < w) (hi : i + w ≤ s.length) (r : Bool) (h1 : r = true → ∀ j, i ≤ j → j < i + w → p (s.getD j 0) = true) (h2 : r = false → p (s.getD i 0) = false) :
    (s.take (i + w)).all p = ((s.take i).all p && r) := by
  rw [List.take_add, List.all_append]
  congr 1
  cases r with
  | true =>
    refine all_of_getD 0 fun j hj => ?_
    have hj' : j < w := by have := List.length_take_le w (s.drop i); omega
    have := h1 rfl (i + j) (by omega) (by omega)
    rw [List.getD_eq_getElem?_getD, List.getElem?_take, if_pos hj', List.getElem?_drop, ← List.getD_eq_getElem?_getD]
    exact this
  | false =>
    refine not_all_of_getD 0 (j := 0) (by rw [List.length_take, List.length_drop]; omega) ?_
    rw [List.getD_eq_getElem?_getD, List.getElem?_take, if_pos hw, List.getElem?_drop, ← List.getD_eq_getElem?_getD]
    exact h2 rfl
theorem rune_lower {s : Str} {i : Nat} (hi : i < s.length) : (s.take (i + (runeAt s i).2)).all lower = ((s.take i).all lower && (decide (97 ≤ (runeAt s i).1) && decide ((runeAt s i).1 ≤ 122))) := by
  by_cases hc : (s.getD i 0).toNat < 128
  · rw [rune_low hi hc]
    refine all_take_step Nat.one_pos (by show i + 1 ≤ _; omega) _ (fun h j h1 h2 => ?_) (fun h => h)
    have h2 : j < i + 1 := h2
    have : j = i := by omega
    subst this; exact h
  · have hh := rune_high hi (by omega)
    have h128 := hh.rune
    refine all_take_step hh.pos hh.end_ _ (fun h => ?_) (fun _ => ?_)
    · simp only [Bool.and_eq_true, decide_eq_true_eq] at h; omega
    · simp only [lower, Bool.and_eq_false_iff, decide_eq_false_iff_not]; omega
theorem rune_step {s : Str} {i : Nat} (hi : i < s.length) : 0 < (runeAt s i).2 ∧ i + (runeAt s i).2 ≤ s.length := by
  by_cases hc : (s.getD i 0).toNat < 128
  · rw [rune_low hi hc]; exact ⟨Nat.one_pos, hi⟩
  · exact ⟨(rune_high hi (by omega)).pos, (rune_high hi (by omega)).end_⟩

structure LangRes (k : Str) (x : AV) : Prop where
  out : ∃ l, x = .tup [.d (.str l), .d (.bool (lang k).isSome)] ∧ ∀ v, lang k = some v → l = v
theorem c104 (k : Str) : PCall Try.prog 104 [.d (.str k)] (LangRes k) := by
  refine PCall.intro Try.tabOk Try.f104 _ Try.func104 rfl (by decide) rfl fun z => ?_
  repeat' first
    | (with_reducible refine AW.seq ?_)
    | ((with_reducible refine AW.region Try.tabOk ?_); (conv => whnf))
    | ((with_reducible refine AW.ret ?_); (conv => whnf))
    | ((with_reducible refine AW.block ?_))
    | ((with_reducible refine AW.skip ?_); (conv => whnf))
    | ((with_reducible refine AW.cond ?_); (conv => whnf))
    | ((with_reducible refine ACall.id ?_); (refine PCall.call (by first | exact c114 _ _) rfl ?_); (intro x hx; first | subst hx | (obtain ⟨l_, rfl, hl_⟩ := hx.out)); (conv => whnf))
    | ((with_reducible apply And.intro) <;> (intro hb; (try simp at hb); (try (exfalso; first | omega | (simp_all; first | done | fail))); (try (conv => whnf))))
  · exact ⟨[], by rw [show k = nameS from hb]; rfl, fun v hv => by rw [show k = nameS from hb, lang_name] at hv; injection hv⟩
  have hne : ¬ k = nameS := by assumption
  obtain ⟨l, hl⟩ : ∃ l, (if name_S.isPrefixOf k = true then k.drop 5 else k) = l := ⟨_, rfl⟩
  refine AW.loopX (X := Nat) (fun i => ⟨[(4, .d (.str l)), (5, .d (.bool (name_S.isPrefixOf k && (l.take i).all lower))), (16, .ptr 0 0)], ⟨[(0, .siter l i)], 1⟩, none, z⟩)
    (fun i => i ≤ l.length) (fun i => l.length - i) 0 (Nat.zero_le _) ⟨rfl, rfl, rfl, ⟨OLe.of (congrArg (AObj.siter · 0) hl), trivial⟩, ⟨AV.le_of_eq (congrArg (fun x => AV.d (.str x)) hl), AV.le_of_eq (by simp; rfl), AV.le_refl _, trivial⟩⟩ ?_
  intro i hi
  repeat' first
    | (with_reducible refine AW.seq ?_)
    | ((with_reducible refine AW.region Try.tabOk ?_); (conv => whnf))
    | ((with_reducible refine AW.ret ?_); (conv => whnf))
    | ((with_reducible refine AW.block ?_))
    | ((with_reducible refine AW.exit ?_); (conv => whnf))
    | ((with_reducible refine AW.skip ?_); (conv => whnf))
    | ((with_reducible refine AW.cond ?_); (conv => whnf))
    | ((with_reducible apply Or.inl); apply Exists.intro; apply And.intro; (focus (intro hg; (conv => whnf); (repeat' first | (with_reducible exact ⟨rfl, rfl⟩) | ((with_reducible refine Own2.data ?_); (conv => whnf)) | (refine ⟨true, _, rfl, ?_⟩; (conv => whnf)) | (refine ⟨false, .nilp, rfl, ?_⟩; (conv => whnf)) | (refine ⟨_, _, by first | exact c114 _ _, ?_⟩; (conv => whnf)) | ((with_reducible apply Or.inl); (refine ⟨rfl, rfl, ?_⟩); (conv => whnf)) | ((with_reducible apply Or.inl); (with_reducible apply And.intro); (focus (simp only [rng]; omega)); (conv => whnf)) | (refine ⟨by first | omega | (simp at hg ⊢; omega) | (simp_all; first | done | fail), ?_⟩; (conv => whnf)) | ((with_reducible refine ACall.id ?_); (refine PCall.call (by first | exact c114 _ _) rfl ?_); (intro x hx; first | subst hx | (obtain ⟨l_, rfl, hl_⟩ := hx.out)); (conv => whnf)) | ((with_reducible apply Or.inr); (with_reducible apply And.intro) <;> (intro hb_; first | (cases hb_; done) | (conv => whnf))) | (intro hlen; (conv => whnf))); done)); (conv => whnf))
    | ((with_reducible apply And.intro); (focus (first | omega | (exact True.intro) | (simp; omega) | (exact Nat.le_of_ble_eq_true rfl) | (exact ⟨rfl, Nat.le_of_ble_eq_true rfl⟩) | (exact ⟨Nat.le_of_ble_eq_true rfl, Nat.le_of_ble_eq_true rfl⟩) | (intro hg; first | (simp; first | done | fail) | (simp at hg ⊢; exact hg) | (simp at hg; exact hg) | exact hg))); (conv => whnf))
    | ((with_reducible apply And.intro) <;> (intro hb; (try simp at hb); (try (exfalso; first | omega | (simp_all; first | done | fail))); (try (conv => whnf))))
  · have hs := rune_step hb
    refine .mk (i + (runeAt l i).2) hs.2 (by show l.length - (i + (runeAt l i).2) < l.length - i; omega) ⟨rfl, rfl, rfl, ⟨OLe.refl _, trivial⟩, ⟨AV.le_refl _, AV.le_of_eq ?_, AV.le_refl _, trivial⟩⟩
    rw [rune_lower hb]
    show AV.d (.bool _) = _
    congr 2
    rw [bif_and, bif_and, Bool.and_assoc, Bool.and_assoc]
    congr 2
    rw [Bool.eq_iff_iff]; simp only [Bool.and_eq_true, decide_eq_true_eq]; omega
  · have hi2 : i = l.length := by omega
    subst hi2
    rw [List.take_length, bif_and, bif_and]
    cases hp : name_S.isPrefixOf k with
    | false => exact ⟨_, by rw [lang_none hne (by rw [hp]; rfl)]; rfl, fun v hv => by rw [lang_none hne (by rw [hp]; rfl)] at hv; cases hv⟩
    | true =>
      rw [if_pos hp] at hl
      subst hl
      have e : (true && (k.drop 5).all lower && decide (((k.drop 5).length : Int) > 0) && decide (((k.drop 5).length : Int) ≤ 8)) = langTail (k.drop 5) := by
        unfold langTail
        rw [Bool.eq_iff_iff]; simp only [Bool.and_eq_true, decide_eq_true_eq]
        constructor
        · rintro ⟨⟨⟨_, h1⟩, h2⟩, h3⟩; exact ⟨⟨h1, by omega⟩, by omega⟩
        · rintro ⟨⟨h1, h2⟩, h3⟩; exact ⟨⟨⟨trivial, h1⟩, by omega⟩, by omega⟩
      rw [e]
      cases ht : langTail (k.drop 5) with
      | false => exact ⟨_, by rw [lang_none hne (by rw [hp, ht]; rfl)]; rfl, fun v hv => by rw [lang_none hne (by rw [hp, ht]; rfl)] at hv; cases hv⟩
      | true => exact ⟨_, by rw [lang_some hne (by rw [hp, ht]; rfl)]; rfl, fun v hv => by rw [lang_some hne (by rw [hp, ht]; rfl)] at hv; injection hv⟩
end Go.Proofs
end
section
/- Contracts: languages and the best name. -/
namespace Go.Proofs
open Go.Pm
set_option maxRecDepth 100000

/-- A slice that is returned: nil, or a row given away. -/
structure SlRes (sz : Nat) (l : List D) (x : AV) : Prop where
  or : x = .d (.list sz l) ∨ (l = [] ∧ x = .d .nils)
theorem SlRes.row {sz : Nat} {l : List D} : SlRes sz l (.d (.list sz l)) := ⟨.inl rfl⟩
theorem SlRes.nil {sz : Nat} {l : List D} (h : l = []) : SlRes sz l (.d .nils) := ⟨.inr ⟨h, rfl⟩⟩
theorem PCall.tab {P : Program} {f : FuncId} {args : List AV} {sz : Nat} {l : List D} {n : Nat} {g : Nat → D} (hn : l.length = n) (hg : ∀ (i : Nat) (x : D), l[i]? = some x → x = g i) (h : PCall P f args (SlRes sz l)) : PCall P f args fun x => x = .d (.tab sz n g) := by
  refine h.conv fun x hx => ⟨_, rfl, rfl, ?_⟩
  rcases hx.or with rfl | ⟨rfl, rfl⟩
  · exact AV.le_tab hn hg
  · subst hn; exact AV.le_nils_tab
theorem PCall.strs {P : Program} {f : FuncId} {args : List AV} {L : List Str} (h : PCall P f args (SlRes 1 (L.map D.str))) : PCall P f args fun x => x = .d (encStrs L) :=
  PCall.tab (by simp) (fun i x hx => by
    rw [List.getElem?_map, Option.map_eq_some_iff] at hx
    obtain ⟨s, hs, rfl⟩ := hx
    rw [List.getD_eq_getElem?_getD, hs]
    rfl) h

def langs (L : List (Str × Str)) : List Str := L.filterMap fun p => lang p.1
def langsV (L : List (Str × Str)) : List Str := if tagsB L then langs L else []
theorem take_succ_getD {α : Type} (L : List α) (i : Nat) (d : α) (h : i < L.length) : L.take (i + 1) = L.take i ++ [L.getD i d] := by
  rw [List.take_add_one, List.getElem?_eq_getElem h, List.getD_eq_getElem?_getD, List.getElem?_eq_getElem h]; rfl
theorem langs_step {L : List (Str × Str)} {i : Nat} (h : i < L.length) : langs (L.take (i + 1)) = langs (L.take i) ++ (lang (L.getD i dT).1).toList := by
  rw [take_succ_getD L i dT h, langs, List.filterMap_append]
  congr 1
theorem langs_len (L : List (Str × Str)) : (langs L).length ≤ L.length := List.length_filterMap_le _ _
theorem some_of_isSome {k l : Str} (h : (lang k).isSome = true) (hl : ∀ v, lang k = some v → l = v) : lang k = some l := by
  cases hk : lang k with
  | none => rw [hk] at h; cases h
  | some v => rw [hl v hk]
theorem c38 (L : List (Str × Str)) : PCall Try.prog 38 [.d (encTags L)] fun x => x = .d (encStrs (langsV L)) := by
  refine PCall.strs ?_
  refine PCall.intro Try.tabOk Try.f38 _ Try.func38 rfl (by decide) rfl fun z => ?_
  repeat' first
    | (with_reducible refine AW.seq ?_)
    | ((with_reducible refine AW.region Try.tabOk ?_); (conv => whnf))
    | ((with_reducible refine AW.ret ?_); (conv => whnf))
    | ((with_reducible refine AW.block ?_))
    | ((with_reducible refine AW.skip ?_); (conv => whnf))
    | ((with_reducible refine AW.cond ?_); (conv => whnf))
    | ((with_reducible refine AW.rangeFunc rfl ?_); intro fn_; (conv => whnf); (refine And.intro ⟨Try.f103, Try.func103, by decide, rfl⟩ ?_); (refine ACall.intro Try.tabOk Try.f103 _ Try.func103 rfl (by decide) rfl ?_); intro z_)
    | ((with_reducible refine ACall.id ?_); (refine PCall.call (by first | exact c37 _) rfl ?_); (intro x hx; first | subst hx | (obtain ⟨l_, rfl, hl_⟩ := hx.out)); (conv => whnf))
    | ((with_reducible refine ACall.id ?_); (refine ACall.intro Try.tabOk Try.f75 _ Try.func75 rfl (by decide) rfl ?_); intro z_)
    | ((with_reducible apply And.intro) <;> (intro hb; (try simp at hb); (try (exfalso; first | omega | (simp_all; first | done | fail))); (try (conv => whnf))))
    | (intro hlen; (conv => whnf))
  · exact .nil (by simp [langsV, hb])
  have hL : L.length ≤ 60 := by
    have : tagsB L = true := by assumption
    simp only [tagsB, Bool.and_eq_true, decide_eq_true_eq] at this; exact this.2
  have hV : langsV L = langs L := by have : tagsB L = true := by assumption
                                     simp [langsV, this]
  refine AW.loopS (X := Nat × Nat) [8, 7, 0, 1] [1, 2] (fun x => [(9, .d (.int .i64 (x.1 : Int)))]) (fun x => match x.2 with
      | 0 => [(0, .var [.d .nils] 39)]
      | v + 1 => [(0, .var [.own 5 (v + 1) 1] 39), (5, .row 9 1 ((langs (L.take x.1)).map .str) (v + 1))]) (fun x => match x.2 with | 0 => 3 | _ + 1 => 6)
    (fun x => x.1 ≤ L.length ∧ (x.2 = 0 ↔ langs (L.take x.1) = [])) (fun x => L.length - x.1) (0, 0) ⟨Nat.zero_le _, by simp [langs]⟩ (fun x _ => by rcases x with ⟨_, _ | _⟩ <;> rfl) (by refine ⟨rfl, rfl, rfl, ?_, ?_⟩ <;> repeat' (first | exact trivial | exact OLe.refl _ | exact AV.le_refl _ | apply And.intro)) ?_
  intro ⟨i, v⟩ ⟨hi, hv⟩
  dsimp only at hi hv
  have hll := langs_len (L.take i)
  rw [List.length_take] at hll
  cases v with
  | zero =>
    have hnil : langs (L.take i) = [] := hv.1 rfl
    repeat' first
      | (with_reducible refine AW.seq ?_)
      | ((with_reducible refine AW.region Try.tabOk ?_); (conv => whnf))
      | ((with_reducible refine AW.ret ?_); (conv => whnf))
      | ((with_reducible refine AW.block ?_))
      | ((with_reducible refine AW.exit ?_); (conv => whnf))
      | ((with_reducible refine AW.skip ?_); (conv => whnf))
      | ((with_reducible refine AW.cond ?_); (conv => whnf))
      | ((with_reducible refine AYield.id ?_); (refine AYield.intro rfl rfl rfl ?_); intro z_)
      | ((with_reducible refine Own2.data ?_); (conv => whnf))
      | ((with_reducible refine ACall.id ?_); (refine PCall.call (by first | exact c104 _) rfl ?_); (intro x hx; first | subst hx | (obtain ⟨l_, rfl, hl_⟩ := hx.out)); (conv => whnf))
      | ((with_reducible apply Or.inl); apply Exists.intro; apply And.intro; (focus (intro hg; (conv => whnf); (repeat' first | (with_reducible exact ⟨rfl, rfl⟩) | ((with_reducible refine Own2.data ?_); (conv => whnf)) | (refine ⟨true, _, rfl, ?_⟩; (conv => whnf)) | (refine ⟨false, .nilp, rfl, ?_⟩; (conv => whnf)) | (refine ⟨_, _, by first | exact c104 _, ?_⟩; (conv => whnf)) | ((with_reducible apply Or.inl); (refine ⟨rfl, rfl, ?_⟩); (conv => whnf)) | ((with_reducible apply Or.inl); (with_reducible apply And.intro); (focus (simp only [rng]; omega)); (conv => whnf)) | (refine ⟨by first | omega | (simp at hg ⊢; omega) | (simp_all; first | done | fail), ?_⟩; (conv => whnf)) | ((with_reducible refine ACall.id ?_); (refine PCall.call (by first | exact c104 _) rfl ?_); (intro x hx; first | subst hx | (obtain ⟨l_, rfl, hl_⟩ := hx.out)); (conv => whnf)) | ((with_reducible apply Or.inr); (with_reducible apply And.intro) <;> (intro hb_; first | (cases hb_; done) | (conv => whnf))) | (intro hlen; (conv => whnf))); done)); (conv => whnf))
      | ((with_reducible apply Or.inl); (with_reducible apply And.intro); (focus (simp only [rng]; omega)); (conv => whnf))
      | ((with_reducible apply Or.inr); (with_reducible apply And.intro) <;> (intro hb; (try simp at hb); (try (exfalso; first | omega | (simp_all; first | done | fail))); (try (conv => whnf))))
      | ((with_reducible apply And.intro); (focus (first | omega | (exact True.intro) | (simp; omega) | (exact Nat.le_of_ble_eq_true rfl) | (exact ⟨rfl, Nat.le_of_ble_eq_true rfl⟩) | (exact ⟨Nat.le_of_ble_eq_true rfl, Nat.le_of_ble_eq_true rfl⟩) | (intro hg; first | (simp; first | done | fail) | (simp at hg ⊢; exact hg) | (simp at hg; exact hg) | exact hg))); (conv => whnf))
      | ((with_reducible apply And.intro) <;> (intro hb; (try simp at hb); (try (exfalso; first | omega | (simp_all; first | done | fail))); (try (conv => whnf))))
    · have hit : i < L.length := by assumption
      have hs : (lang (L[i]?.getD ([], [])).1).isSome = true := by assumption
      simp only [← List.getD_eq_getElem?_getD] at hs
      have hsome : lang (L.getD i dT).1 = some l_ := some_of_isSome hs hl_
      have hst := langs_step hit
      rw [hsome, hnil] at hst
      refine .mk (i + 1, 1) ⟨hit, by rw [hst]; simp⟩ (by show L.length - (i + 1) < L.length - i; omega) ?_
      have e : (langs (L.take (i + 1))).map D.str = [D.str l_] := by rw [hst]; rfl
      exact ⟨rfl, rfl, rfl, ⟨OLe.refl _, OLe.of (by show AObj.row 9 1 [D.str l_] 1 = AObj.row 9 1 ((langs (L.take (i + 1))).map D.str) 1; rw [e]), OLe.refl _, OLe.refl _, trivial⟩, ⟨AV.le_refl _, AV.le_refl _, AV.le_refl _, AV.le_refl _, AV.le_refl _, trivial⟩, rfl⟩
    · have hit : i < L.length := by assumption
      have hs : lang (L[i]?.getD ([], [])).1 = none := by assumption
      simp only [← List.getD_eq_getElem?_getD] at hs
      have hst := langs_step hit
      rw [show lang (L.getD i dT).1 = none from hs, hnil] at hst
      exact .mk (i + 1, 0) ⟨hit, by rw [hst]; simp⟩ (by show L.length - (i + 1) < L.length - i; omega) (by refine ⟨rfl, rfl, rfl, ?_, ?_, rfl⟩ <;> repeat' (first | exact trivial | exact OLe.refl _ | exact AV.le_refl _ | apply And.intro))
    · have he : i = L.length := by omega
      subst he
      rw [List.take_length] at hnil
      exact .nil (by rw [hV, hnil]; rfl)
  | succ v =>
    repeat' first
      | (with_reducible refine AW.seq ?_)
      | ((with_reducible refine AW.region Try.tabOk ?_); (conv => whnf))
      | ((with_reducible refine AW.ret ?_); (conv => whnf))
      | ((with_reducible refine AW.block ?_))
      | ((with_reducible refine AW.exit ?_); (conv => whnf))
      | ((with_reducible refine AW.skip ?_); (conv => whnf))
      | ((with_reducible refine AW.cond ?_); (conv => whnf))
      | ((with_reducible refine AYield.id ?_); (refine AYield.intro rfl rfl rfl ?_); intro z_)
      | ((with_reducible refine Own2.data ?_); (conv => whnf))
      | ((with_reducible refine ACall.id ?_); (refine PCall.call (by first | exact c104 _) rfl ?_); (intro x hx; first | subst hx | (obtain ⟨l_, rfl, hl_⟩ := hx.out)); (conv => whnf))
      | ((with_reducible apply Or.inl); apply Exists.intro; apply And.intro; (focus (intro hg; (conv => whnf); (repeat' first | (with_reducible exact ⟨rfl, rfl⟩) | ((with_reducible refine Own2.data ?_); (conv => whnf)) | (refine ⟨true, _, rfl, ?_⟩; (conv => whnf)) | (refine ⟨false, .nilp, rfl, ?_⟩; (conv => whnf)) | (refine ⟨_, _, by first | exact c104 _, ?_⟩; (conv => whnf)) | ((with_reducible apply Or.inl); (refine ⟨rfl, rfl, ?_⟩); (conv => whnf)) | ((with_reducible apply Or.inl); (with_reducible apply And.intro); (focus (simp only [rng]; omega)); (conv => whnf)) | (refine ⟨by first | omega | (simp at hg ⊢; omega) | (simp_all; first | done | fail), ?_⟩; (conv => whnf)) | ((with_reducible refine ACall.id ?_); (refine PCall.call (by first | exact c104 _) rfl ?_); (intro x hx; first | subst hx | (obtain ⟨l_, rfl, hl_⟩ := hx.out)); (conv => whnf)) | ((with_reducible apply Or.inr); (with_reducible apply And.intro) <;> (intro hb_; first | (cases hb_; done) | (conv => whnf))) | (intro hlen; (conv => whnf))); done)); (conv => whnf))
      | ((with_reducible apply Or.inl); (with_reducible apply And.intro); (focus (simp only [rng]; omega)); (conv => whnf))
      | ((with_reducible apply Or.inr); (with_reducible apply And.intro) <;> (intro hb; (try simp at hb); (try (exfalso; first | omega | (simp_all; first | done | fail))); (try (conv => whnf))))
      | ((with_reducible apply And.intro); (focus (first | omega | (exact True.intro) | (simp; omega) | (exact Nat.le_of_ble_eq_true rfl) | (exact ⟨rfl, Nat.le_of_ble_eq_true rfl⟩) | (exact ⟨Nat.le_of_ble_eq_true rfl, Nat.le_of_ble_eq_true rfl⟩) | (intro hg; first | (simp; first | done | fail) | (simp at hg ⊢; exact hg) | (simp at hg; exact hg) | exact hg))); (conv => whnf))
      | ((with_reducible apply And.intro) <;> (intro hb; (try simp at hb); (try (exfalso; first | omega | (simp_all; first | done | fail))); (try (conv => whnf))))
      | ((with_reducible refine And.intro (Side.out ?_) ?_); rotate_left; (conv => whnf); rotate_right)
    · refine ⟨rfl, ?_, ?_⟩
      · show (((langs (L.take i)).map D.str).length + 1) * 16 ≤ _
        rw [List.length_map]; omega
      · show (((langs (L.take i)).map D.str).length + 1) ≤ _
        rw [List.length_map]; simp only [maxLen]; omega
    · have hit : i < L.length := by assumption
      have hs : (lang (L[i]?.getD ([], [])).1).isSome = true := by assumption
      simp only [← List.getD_eq_getElem?_getD] at hs
      have hsome : lang (L.getD i dT).1 = some l_ := some_of_isSome hs hl_
      have hst := langs_step hit
      rw [hsome] at hst
      refine .mk (i + 1, v + 2) ⟨hit, by rw [hst]; simp⟩ (by show L.length - (i + 1) < L.length - i; omega) ?_
      have e : (langs (L.take (i + 1))).map D.str = (langs (L.take i)).map D.str ++ [D.str l_] := by rw [hst]; simp
      exact ⟨rfl, rfl, rfl, ⟨OLe.refl _, OLe.of (by show AObj.row 9 1 ((langs (L.take i)).map D.str ++ [D.str l_]) (v + 2) = AObj.row 9 1 ((langs (L.take (i + 1))).map D.str) (v + 2); rw [e]), OLe.refl _, OLe.refl _, trivial⟩, ⟨AV.le_refl _, AV.le_refl _, AV.le_refl _, AV.le_refl _, AV.le_refl _, trivial⟩, rfl⟩
    · have hit : i < L.length := by assumption
      have hs : lang (L[i]?.getD ([], [])).1 = none := by assumption
      simp only [← List.getD_eq_getElem?_getD] at hs
      have hst := langs_step hit
      rw [show lang (L.getD i dT).1 = none from hs, Option.toList_none, List.append_nil] at hst
      refine .mk (i + 1, v + 1) ⟨hit, by rw [hst]; exact hv⟩ (by show L.length - (i + 1) < L.length - i; omega) ?_
      exact ⟨rfl, rfl, rfl, ⟨OLe.refl _, OLe.of (by show AObj.row 9 1 ((langs (L.take i)).map D.str) (v + 1) = AObj.row 9 1 ((langs (L.take (i + 1))).map D.str) (v + 1); rw [hst]), OLe.refl _, OLe.refl _, trivial⟩, ⟨AV.le_refl _, AV.le_refl _, AV.le_refl _, AV.le_refl _, AV.le_refl _, trivial⟩, rfl⟩
    · have he : i = L.length := by omega
      subst he
      rw [hV]
      show SlRes 1 ((langs L).map D.str) (.d (.list 1 ((langs (L.take L.length)).map D.str)))
      rw [List.take_length]
      exact .row
end Go.Proofs
end
section
/- Contracts: the best name. -/
namespace Go.Proofs
open Go.Pm
set_option maxRecDepth 100000
set_option maxHeartbeats 4000000

def atL (G : List Str) (own : Str) : Int := if 0 ≤ idx G own then idx G own else if own = [] then (G.length : Int) else (G.length : Int) + 1
def bestStep (G : List Str) (b : (Str × Str) × Int) (t : Str × Str) : (Str × Str) × Int :=
  match lang t.1 with
  | some l => if atL G l < b.2 then (t, atL G l) else b
  | none => b
def bestF (G : List Str) (L : List (Str × Str)) : (Str × Str) × Int := L.foldl (bestStep G) (([], []), (G.length : Int) + 2)
def best (L : List (Str × Str)) (G : List Str) : Str × Str := if tagsB L then ((bestF G L).1.2, (bestF G L).1.1) else ([], [])
theorem bestF_step {G : List Str} {L : List (Str × Str)} {i : Nat} (h : i < L.length) : bestF G (L.take (i + 1)) = bestStep G (bestF G (L.take i)) (L.getD i dT) := by
  rw [take_succ_getD L i dT h, bestF, List.foldl_append]; rfl

theorem c39 (L : List (Str × Str)) (G : List Str) (hG : G.length ≤ 1000000000000000) : PCall Try.prog 39 [.d (encTags L), .d (encStrs G)] fun x => x = .tup [.d (.str (best L G).1), .d (.str (best L G).2)] := by
  refine PCall.intro Try.tabOk Try.f39 _ Try.func39 rfl (by decide) rfl fun z => ?_
  repeat' first
    | (with_reducible refine AW.seq ?_)
    | ((with_reducible refine AW.region Try.tabOk ?_); (conv => whnf))
    | ((with_reducible refine AW.ret ?_); (conv => whnf))
    | ((with_reducible refine AW.block ?_))
    | ((with_reducible refine AW.skip ?_); (conv => whnf))
    | ((with_reducible refine AW.cond ?_); (conv => whnf))
    | ((with_reducible refine AW.rangeFunc rfl ?_); intro fn_; (conv => whnf); (refine And.intro ⟨Try.f103, Try.func103, by decide, rfl⟩ ?_); (refine ACall.intro Try.tabOk Try.f103 _ Try.func103 rfl (by decide) rfl ?_); intro z_)
    | ((with_reducible refine ACall.id ?_); (refine PCall.call (by first | exact c37 _ | exact c77 _ _) rfl ?_); (intro x hx; first | subst hx | (obtain ⟨l_, rfl, hl_⟩ := hx.out)); (conv => whnf))
    | ((with_reducible refine ACall.id ?_); (refine ACall.intro Try.tabOk Try.f75 _ Try.func75 rfl (by decide) rfl ?_); intro z_)
    | ((with_reducible apply Or.inl); (with_reducible apply And.intro); (focus (simp only [rng]; omega)); (conv => whnf))
    | ((with_reducible apply And.intro) <;> (intro hb; (try simp at hb); (try (exfalso; first | omega | (simp_all; first | done | fail))); (try (conv => whnf))))
    | (intro hlen; (conv => whnf))
  · have hb : tagsB L = false := by assumption
    simp [best, hb]
  have hB : best L G = ((bestF G L).1.2, (bestF G L).1.1) := by have : tagsB L = true := by assumption
                                                                simp [best, this]
  refine AW.loopS (X := Nat) [8, 7, 0, 1] [0, 3, 4, 5] (fun i => [(9, .d (.int .i64 (i : Int)))]) (fun i => [(1, .var [.d (.str (bestF G (L.take i)).1.1), .d (.str (bestF G (L.take i)).1.2)] 96), (2, .var [.d (.int .i64 (bestF G (L.take i)).2)] 3)]) (fun _ => 6)
    (fun i => i ≤ L.length) (fun i => L.length - i) 0 (Nat.zero_le _) (fun _ _ => rfl) (by refine ⟨rfl, rfl, rfl, ?_, ?_⟩ <;> repeat' (first | exact trivial | exact OLe.refl _ | exact AV.le_refl _ | apply And.intro)) ?_
  intro i hi
  repeat' first
    | (with_reducible refine AW.seq ?_)
    | ((with_reducible refine AW.region Try.tabOk ?_); (conv => whnf))
    | ((with_reducible refine AW.draw Try.tabOk Try.mixed ?_ ?_); (focus rfl); (conv => whnf))
    | ((with_reducible refine AW.ret ?_); (conv => whnf))
    | ((with_reducible refine AW.block ?_))
    | ((with_reducible refine AW.exit ?_); (conv => whnf))
    | ((with_reducible refine AW.skip ?_); (conv => whnf))
    | ((with_reducible refine AW.cond ?_); (conv => whnf))
    | ((with_reducible refine AYield.id ?_); (refine AYield.intro rfl rfl rfl ?_); intro z_)
    | ((with_reducible refine ACall.id ?_); (refine PCall.call (by first | exact c104 _ | exact c77 _ _) rfl ?_); (intro x hx; first | subst hx | (obtain ⟨l_, rfl, hl_⟩ := hx.out)); (conv => whnf))
    | ((with_reducible refine ACall.id ?_); (refine ACall.intro Try.tabOk Try.f76 _ Try.func76 rfl (by decide) rfl ?_); intro z_)
    | (refine ⟨_, ⟨rfl, rfl⟩, ?_⟩; (conv => whnf))
    | ((with_reducible apply Or.inl); apply Exists.intro; apply And.intro; (focus (intro hg; (conv => whnf); (repeat' first | (with_reducible exact ⟨rfl, rfl⟩) | ((with_reducible refine Own2.data ?_); (conv => whnf)) | (refine ⟨true, _, rfl, ?_⟩; (conv => whnf)) | (refine ⟨false, .nilp, rfl, ?_⟩; (conv => whnf)) | (refine ⟨_, _, by first | exact c104 _ | exact c77 _ _, ?_⟩; (conv => whnf)) | ((with_reducible apply Or.inl); (refine ⟨rfl, rfl, ?_⟩); (conv => whnf)) | ((with_reducible apply Or.inl); (with_reducible apply And.intro); (focus (simp only [rng]; omega)); (conv => whnf)) | (refine ⟨by first | omega | (simp at hg ⊢; omega) | (simp_all; first | done | fail), ?_⟩; (conv => whnf)) | ((with_reducible refine ACall.id ?_); (refine PCall.call (by first | exact c104 _ | exact c77 _ _) rfl ?_); (intro x hx; first | subst hx | (obtain ⟨l_, rfl, hl_⟩ := hx.out)); (conv => whnf)) | ((with_reducible apply Or.inr); (with_reducible apply And.intro) <;> (intro hb_; first | (cases hb_; done) | (conv => whnf))) | (intro hlen; (conv => whnf))); done)); (conv => whnf))
    | ((with_reducible apply Or.inl); (with_reducible apply And.intro); (focus (simp only [rng]; omega)); (conv => whnf))
    | ((with_reducible apply Or.inr); (with_reducible apply And.intro) <;> (intro hb; (try simp at hb); (try (exfalso; first | omega | (simp_all; first | done | fail))); (try (conv => whnf))))
    | ((with_reducible apply And.intro); (focus (first | omega | (exact True.intro) | (simp; omega) | (exact Nat.le_of_ble_eq_true rfl) | (exact ⟨rfl, Nat.le_of_ble_eq_true rfl⟩) | (exact ⟨Nat.le_of_ble_eq_true rfl, Nat.le_of_ble_eq_true rfl⟩) | (intro hg; first | (simp; first | done | fail) | (simp at hg ⊢; exact hg) | (simp at hg; exact hg) | exact hg))); (conv => whnf))
    | ((with_reducible apply And.intro) <;> (intro hb; (try simp at hb); (try (exfalso; first | omega | (simp_all; first | done | fail))); (try (conv => whnf))))
    | (intro hlen; (conv => whnf))
  all_goals try (have hit : i < L.length := by assumption)
  all_goals try (have hs : (lang (L[i]?.getD ([], [])).1).isSome = true := by assumption)
  all_goals try (rw [← List.getD_eq_getElem?_getD] at hs; have hsome : lang (L.getD i dT).1 = some l_ := some_of_isSome hs hl_)
  all_goals try (have hst := bestF_step (G := G) hit; simp only [bestStep, hsome] at hst)
  · rename_i h1 h2
    have ha : atL G l_ = idx G l_ := if_pos (by assumption)
    rw [ha, if_pos (by assumption)] at hst
    exact .mk (i + 1) hit (by show L.length - (i + 1) < L.length - i; omega) ⟨rfl, rfl, rfl, ⟨OLe.of (by show _ = AObj.var [.d (.str (bestF G (L.take (i + 1))).1.1), .d (.str (bestF G (L.take (i + 1))).1.2)] 96; rw [hst]; rfl), OLe.of (by show _ = AObj.var [.d (.int .i64 (bestF G (L.take (i + 1))).2)] 3; rw [hst]; rfl), OLe.refl _, OLe.refl _, OLe.refl _, OLe.refl _, trivial⟩, ⟨AV.le_refl _, AV.le_refl _, AV.le_refl _, AV.le_refl _, AV.le_refl _, trivial⟩, rfl⟩
  · have ha : atL G l_ = idx G l_ := if_pos (by assumption)
    rw [ha, if_neg (by omega)] at hst
    exact .mk (i + 1) hit (by show L.length - (i + 1) < L.length - i; omega) ⟨rfl, rfl, rfl, ⟨OLe.of (by show _ = AObj.var [.d (.str (bestF G (L.take (i + 1))).1.1), .d (.str (bestF G (L.take (i + 1))).1.2)] 96; rw [hst]; rfl), OLe.of (by show _ = AObj.var [.d (.int .i64 (bestF G (L.take (i + 1))).2)] 3; rw [hst]; rfl), OLe.refl _, OLe.refl _, OLe.refl _, OLe.refl _, trivial⟩, ⟨AV.le_refl _, AV.le_refl _, AV.le_refl _, AV.le_refl _, AV.le_refl _, trivial⟩, rfl⟩
  · have ha : atL G l_ = (G.length : Int) := by unfold atL; rw [if_neg (by omega), if_pos (by assumption)]
    rw [ha, if_pos (by assumption)] at hst
    exact .mk (i + 1) hit (by show L.length - (i + 1) < L.length - i; omega) ⟨rfl, rfl, rfl, ⟨OLe.of (by show _ = AObj.var [.d (.str (bestF G (L.take (i + 1))).1.1), .d (.str (bestF G (L.take (i + 1))).1.2)] 96; rw [hst]; rfl), OLe.of (by show _ = AObj.var [.d (.int .i64 (bestF G (L.take (i + 1))).2)] 3; rw [hst]; rfl), OLe.refl _, OLe.refl _, OLe.refl _, OLe.refl _, trivial⟩, ⟨AV.le_refl _, AV.le_refl _, AV.le_refl _, AV.le_refl _, AV.le_refl _, trivial⟩, rfl⟩
  · have ha : atL G l_ = (G.length : Int) := by unfold atL; rw [if_neg (by omega), if_pos (by assumption)]
    rw [ha, if_neg (by omega)] at hst
    exact .mk (i + 1) hit (by show L.length - (i + 1) < L.length - i; omega) ⟨rfl, rfl, rfl, ⟨OLe.of (by show _ = AObj.var [.d (.str (bestF G (L.take (i + 1))).1.1), .d (.str (bestF G (L.take (i + 1))).1.2)] 96; rw [hst]; rfl), OLe.of (by show _ = AObj.var [.d (.int .i64 (bestF G (L.take (i + 1))).2)] 3; rw [hst]; rfl), OLe.refl _, OLe.refl _, OLe.refl _, OLe.refl _, trivial⟩, ⟨AV.le_refl _, AV.le_refl _, AV.le_refl _, AV.le_refl _, AV.le_refl _, trivial⟩, rfl⟩
  · have ha : atL G l_ = (G.length : Int) + 1 := by unfold atL; rw [if_neg (by omega), if_neg (by assumption)]
    rw [ha, if_pos (by assumption)] at hst
    exact .mk (i + 1) hit (by show L.length - (i + 1) < L.length - i; omega) ⟨rfl, rfl, rfl, ⟨OLe.of (by show _ = AObj.var [.d (.str (bestF G (L.take (i + 1))).1.1), .d (.str (bestF G (L.take (i + 1))).1.2)] 96; rw [hst]; rfl), OLe.of (by show _ = AObj.var [.d (.int .i64 (bestF G (L.take (i + 1))).2)] 3; rw [hst]; rfl), OLe.refl _, OLe.refl _, OLe.refl _, OLe.refl _, trivial⟩, ⟨AV.le_refl _, AV.le_refl _, AV.le_refl _, AV.le_refl _, AV.le_refl _, trivial⟩, rfl⟩
  · have ha : atL G l_ = (G.length : Int) + 1 := by unfold atL; rw [if_neg (by omega), if_neg (by assumption)]
    rw [ha, if_neg (by omega)] at hst
    exact .mk (i + 1) hit (by show L.length - (i + 1) < L.length - i; omega) ⟨rfl, rfl, rfl, ⟨OLe.of (by show _ = AObj.var [.d (.str (bestF G (L.take (i + 1))).1.1), .d (.str (bestF G (L.take (i + 1))).1.2)] 96; rw [hst]; rfl), OLe.of (by show _ = AObj.var [.d (.int .i64 (bestF G (L.take (i + 1))).2)] 3; rw [hst]; rfl), OLe.refl _, OLe.refl _, OLe.refl _, OLe.refl _, trivial⟩, ⟨AV.le_refl _, AV.le_refl _, AV.le_refl _, AV.le_refl _, AV.le_refl _, trivial⟩, rfl⟩
  · have hs : lang (L[i]?.getD ([], [])).1 = none := by assumption
    rw [← List.getD_eq_getElem?_getD] at hs
    have hst := bestF_step (G := G) (by assumption : i < L.length)
    have hs : lang (L.getD i dT).1 = none := hs
    simp only [bestStep, hs] at hst
    exact .mk (i + 1) (by assumption : i < L.length) (by show L.length - (i + 1) < L.length - i; omega) ⟨rfl, rfl, rfl, ⟨OLe.of (by show _ = AObj.var [.d (.str (bestF G (L.take (i + 1))).1.1), .d (.str (bestF G (L.take (i + 1))).1.2)] 96; rw [hst]; rfl), OLe.of (by show _ = AObj.var [.d (.int .i64 (bestF G (L.take (i + 1))).2)] 3; rw [hst]; rfl), OLe.refl _, OLe.refl _, OLe.refl _, OLe.refl _, trivial⟩, ⟨AV.le_refl _, AV.le_refl _, AV.le_refl _, AV.le_refl _, AV.le_refl _, trivial⟩, rfl⟩
  · have he : i = L.length := by omega
    subst he
    rw [List.take_length, hB]
end Go.Proofs
end
section
/- Contracts: objects. -/
namespace Go.Proofs
open Go.Pm
set_option maxRecDepth 100000
set_option maxHeartbeats 4000000

def wrongAt (kind : Int) (R : List Str) (j : Nat) : Bool :=
  !nameB (R.getD j []) || decide (kind = 2 ∧ 0 < j ∧ R.getD (j - 1) [] = R.getD j []) || decide (kind = 3 ∧ R.getD j [] ∈ R.take j)
def refsB (kind : Int) (R : List Str) : Bool := (List.range R.length).all fun j => !wrongAt kind R j
def countB (kind : Int) (n : Nat) : Bool :=
  (if kind = 1 then decide (n = 0) else if kind = 2 then decide (2 ≤ n) else if kind = 3 then decide (3 ≤ n) else if kind = 4 then decide (1 ≤ n) else decide (n = 3)) && decide (n ≤ 2000)
def atB (kind x y : Int) : Bool := if kind = 1 then onGrid x y else decide (x = 0) && decide (y = 0)
def objB (o : Obj) : Bool := decide (1 ≤ o.kind ∧ o.kind ≤ 5) && nameB o.id && tagsB o.tags && countB o.kind o.refs.length && refsB o.kind o.refs && atB o.kind o.x o.y
theorem kindWord_nil (n : Int) : (kindWord n = []) ↔ ¬ (1 ≤ n ∧ n ≤ 5) := by
  unfold kindWord
  constructor
  · intro h; repeat' split at h
    all_goals first | (cases h; done) | omega
  · intro h; rw [if_neg (by omega), if_neg (by omega), if_neg (by omega), if_neg (by omega), if_neg (by omega)]

theorem kindLeast_count {k : Int} (n : Nat) : countB k n = true → kindLeast k ≤ n ∧ n ≤ 2000 := by
  unfold countB kindLeast
  intro h
  rw [Bool.and_eq_true, decide_eq_true_eq] at h
  refine ⟨?_, h.2⟩
  have h := h.1
  repeat' split at h
  all_goals (simp only [decide_eq_true_eq] at h)
  all_goals (repeat' split)
  all_goals omega
theorem refsB_iff {k : Int} {R : List Str} : refsB k R = true ↔ ∀ j, j < R.length → wrongAt k R j = false := by
  unfold refsB
  rw [List.all_eq_true]
  constructor
  · intro h j hj
    have := h j (List.mem_range.2 hj)
    simpa using this
  · intro h j hj
    rw [h j (List.mem_range.1 hj)]; rfl
theorem c62 (o : Obj) : PCall Try.prog 62 [.d (encObj o)] fun x => x = .d (.bool (objB o)) := by
  have c94' : ∀ n : Int, kindWord n ≠ [] → PCall Try.prog 94 [.d (.int .i64 n)] fun x => x = .d (.int .i64 (kindLeast n)) := fun n h => c94 n (by
    rw [Ne, kindWord_nil] at h; omega)
  refine PCall.intro Try.tabOk Try.f62 _ Try.func62 rfl (by decide) rfl fun z => ?_
  repeat' first
    | (with_reducible refine AW.seq ?_)
    | ((with_reducible refine AW.region Try.tabOk ?_); (conv => whnf))
    | ((with_reducible refine AW.draw Try.tabOk Try.mixed ?_ ?_); (focus rfl); (conv => whnf))
    | ((with_reducible refine AW.ret ?_); (conv => whnf))
    | ((with_reducible refine AW.block ?_))
    | ((with_reducible refine AW.skip ?_); (conv => whnf))
    | ((with_reducible refine AW.cond ?_); (conv => whnf))
    | ((with_reducible refine ACall.id ?_); (refine ACall.intro Try.tabOk Try.f81 _ Try.func81 rfl (by decide) rfl ?_); intro z_)
    | ((with_reducible refine ACall.id ?_); (refine ACall.intro Try.tabOk Try.f105 _ Try.func105 rfl (by decide) rfl ?_); intro z_)
    | (refine ⟨_, ⟨rfl, rfl⟩, ?_⟩; (conv => whnf))
    | (apply Exists.intro; apply And.intro; (focus (first | (intro hg; (conv => whnf)) | (conv => whnf)); (repeat' first | (with_reducible exact ⟨rfl, rfl⟩) | ((with_reducible refine Own2.data ?_); (conv => whnf)) | (refine ⟨true, _, rfl, ?_⟩; (conv => whnf)) | (refine ⟨false, .nilp, rfl, ?_⟩; (conv => whnf)) | (refine ⟨_, _, by first | exact c93 _ | exact c74 _ | exact c37 _ | exact c96 _ _ | exact c94' _ (by simp_all), ?_⟩; (conv => whnf)) | ((with_reducible apply Or.inl); (refine ⟨rfl, rfl, ?_⟩); (conv => whnf)) | ((with_reducible apply Or.inl); (with_reducible apply And.intro); (focus (simp only [rng]; omega)); (conv => whnf)) | (refine ⟨by first | omega | (simp at hg ⊢; omega) | (simp_all; first | done | fail), ?_⟩; (conv => whnf)) | ((with_reducible refine ACall.id ?_); (refine PCall.call (by first | exact c93 _ | exact c74 _ | exact c37 _ | exact c96 _ _ | exact c94' _ (by simp_all)) rfl ?_); (intro x hx; first | subst hx | (obtain ⟨l_, rfl, hl_⟩ := hx.out)); (conv => whnf)) | ((with_reducible apply Or.inr); (with_reducible apply And.intro) <;> (intro hb_; first | (cases hb_; done) | (conv => whnf))) | (intro hlen; (conv => whnf))); done); (conv => whnf))
    | ((with_reducible apply And.intro); (focus (first | omega | (exact True.intro) | (simp; omega) | (exact Nat.le_of_ble_eq_true rfl) | (exact ⟨rfl, Nat.le_of_ble_eq_true rfl⟩) | (exact ⟨Nat.le_of_ble_eq_true rfl, Nat.le_of_ble_eq_true rfl⟩) | (intro hg; first | (simp; first | done | fail) | (simp at hg ⊢; exact hg) | (simp at hg; exact hg) | exact hg))); (conv => whnf))
    | ((with_reducible apply And.intro) <;> (intro hb; (try simp at hb); (try (exfalso; first | omega | (simp_all; first | done | fail))); (try (conv => whnf))))
    | (intro hlen; (conv => whnf))
  · have hb : (((kindWord o.kind = [] ∨ nameB o.id = false) ∨ tagsB o.tags = false) ∨ o.refs.length < kindLeast o.kind) ∨ 2000 < (o.refs.length : Int) := by assumption
    have : objB o = false := by
      rw [Bool.eq_false_iff]
      intro h
      simp only [objB, Bool.and_eq_true, decide_eq_true_eq] at h
      obtain ⟨⟨⟨⟨⟨h1, h2⟩, h3⟩, h4⟩, h5⟩, h6⟩ := h
      have hc := kindLeast_count _ h4
      rcases hb with (((hb | hb) | hb) | hb) | hb
      · rw [kindWord_nil] at hb; exact hb h1
      · rw [hb] at h2; cases h2
      · rw [hb] at h3; cases h3
      · omega
      · omega
    rw [this]
  have hN : kindWord o.kind ≠ [] ∧ nameB o.id = true ∧ tagsB o.tags = true ∧ kindLeast o.kind ≤ o.refs.length ∧ o.refs.length ≤ 2000 := by
    have hb : (((¬kindWord o.kind = [] ∧ nameB o.id = true) ∧ tagsB o.tags = true) ∧ kindLeast o.kind ≤ o.refs.length) ∧ (o.refs.length : Int) ≤ 2000 := by assumption
    exact ⟨hb.1.1.1.1, hb.1.1.1.2, hb.1.1.2, hb.1.2, by omega⟩
  have hk : 1 ≤ o.kind ∧ o.kind ≤ 5 := by
    have := hN.1
    rw [Ne, kindWord_nil] at this; omega
  refine AW.loopS (X := Nat × List (Nat × D × D) × Nat) [7, 6, 0, 1] [0, 2] (fun x => [(8, .d (.int .i64 (x.1 : Int)))]) (fun x => [(3, .var [.d (.str (lastK o.refs x.1))] 9), (1, .map (.one .str) x.2.1 x.2.2)]) (fun _ => 4)
    (fun x => x.1 ≤ o.refs.length ∧ (∀ j, j < x.1 → wrongAt o.kind o.refs j = false) ∧ ∀ s, findE (.str s) x.2.1 = cond (decide (s ∈ o.refs.take x.1)) (some (.bool true)) none) (fun x => o.refs.length - x.1) (0, [], 0)
    ⟨Nat.zero_le _, fun j h => absurd h (Nat.not_lt_zero j), fun s => by simp [findE]⟩ (fun _ _ => rfl) (by refine ⟨rfl, rfl, rfl, ?_, ?_⟩ <;> repeat' (first | exact trivial | exact OLe.refl _ | exact AV.le_refl _ | apply And.intro)) ?_
  intro ⟨i, es, cl⟩ ⟨hi, hw, hE⟩
  dsimp only at hi hw hE
  repeat' first
    | (with_reducible refine AW.seq ?_)
    | ((with_reducible refine AW.region Try.tabOk ?_); (conv => whnf))
    | ((with_reducible refine AW.ret ?_); (conv => whnf))
    | ((with_reducible refine AW.block ?_))
    | ((with_reducible refine AW.exit ?_); (conv => whnf))
    | ((with_reducible refine AW.skip ?_); (conv => whnf))
    | ((with_reducible refine AW.cond ?_); (conv => whnf))
    | ((with_reducible refine ACall.id ?_); (refine ACall.intro Try.tabOk Try.f95 _ Try.func95 rfl (by decide) rfl ?_); intro z_)
    | ((with_reducible apply Or.inl); apply Exists.intro; apply And.intro; (focus (intro hg; (conv => whnf); (repeat' first | (with_reducible exact ⟨rfl, rfl⟩) | ((with_reducible refine Own2.data ?_); (conv => whnf)) | (refine ⟨true, _, rfl, ?_⟩; (conv => whnf)) | (refine ⟨false, .nilp, rfl, ?_⟩; (conv => whnf)) | (refine ⟨_, _, by first | exact c93 _ | exact c74 _ | exact c37 _ | exact c96 _ _ | exact hE _, ?_⟩; (conv => whnf)) | ((with_reducible apply Or.inl); (refine ⟨rfl, rfl, ?_⟩); (conv => whnf)) | ((with_reducible apply Or.inl); (with_reducible apply And.intro); (focus (simp only [rng]; omega)); (conv => whnf)) | (refine ⟨by first | omega | (simp at hg ⊢; omega) | (simp_all; first | done | fail), ?_⟩; (conv => whnf)) | ((with_reducible refine ACall.id ?_); (refine PCall.call (by first | exact c93 _ | exact c74 _ | exact c37 _ | exact c96 _ _ | exact hE _) rfl ?_); (intro x hx; first | subst hx | (obtain ⟨l_, rfl, hl_⟩ := hx.out)); (conv => whnf)) | ((with_reducible apply Or.inr); (with_reducible apply And.intro) <;> (intro hb_; first | (cases hb_; done) | (conv => whnf))) | (intro hlen; (conv => whnf))); done)); (conv => whnf))
    | ((with_reducible apply Or.inl); (with_reducible apply And.intro); (focus (simp only [rng]; omega)); (conv => whnf))
    | ((with_reducible apply And.intro); (focus (first | omega | (exact True.intro) | (simp; omega) | (exact Nat.le_of_ble_eq_true rfl) | (exact ⟨rfl, Nat.le_of_ble_eq_true rfl⟩) | (exact ⟨Nat.le_of_ble_eq_true rfl, Nat.le_of_ble_eq_true rfl⟩) | (intro hg; first | (simp; first | done | fail) | (simp at hg ⊢; exact hg) | (simp at hg; exact hg) | exact hg))); (conv => whnf))
    | ((with_reducible apply And.intro) <;> (intro hb; (try simp at hb); (try (exfalso; first | omega | (simp_all; first | done | fail))); (try (conv => whnf))))
    | (intro hlen; (conv => whnf))
  · have hit : i < o.refs.length := by assumption
    have hb : (o.kind = 2 ∧ o.refs[i]?.getD [] = lastK o.refs i ∨ o.kind = 3 ∧ o.refs[i]?.getD [] ∈ List.take i o.refs) ∨ nameB (o.refs[i]?.getD []) = false := by assumption
    rw [← List.getD_eq_getElem?_getD] at hb
    have hwr : wrongAt o.kind o.refs i = true := by
      unfold wrongAt
      simp only [Bool.or_eq_true, Bool.not_eq_true', decide_eq_true_eq]
      rcases hb with (⟨h1, h2⟩ | h) | h
      · by_cases h0 : i = 0
        · subst h0
          rw [show lastK o.refs 0 = [] from rfl] at h2
          left; left
          rw [h2]; rfl
        · left; right
          unfold lastK at h2
          rw [if_neg h0] at h2
          exact ⟨h1, by omega, h2.symm⟩
      · right; exact h
      · left; left; exact h
    have : objB o = false := by
      rw [Bool.eq_false_iff]
      intro h
      simp only [objB, Bool.and_eq_true] at h
      have := refsB_iff.1 h.1.2 i hit
      rw [hwr] at this; cases this
    rw [this]
  · have hit : i < o.refs.length := by assumption
    have hb : ((o.kind = 2 → ¬o.refs[i]?.getD [] = lastK o.refs i) ∧ (o.kind = 3 → ¬o.refs[i]?.getD [] ∈ List.take i o.refs)) ∧ nameB (o.refs[i]?.getD []) = true := by assumption
    rw [← List.getD_eq_getElem?_getD] at hb
    refine .mk (i + 1, updE (.str (o.refs.getD i [])) (.bool true) cl es, cond (hasE (.str (o.refs.getD i [])) es) cl (cl + 1)) ⟨hit, fun j hj => ?_, fun t => ?_⟩ (by show o.refs.length - (i + 1) < o.refs.length - i; omega) (by refine ⟨rfl, rfl, rfl, ?_, ?_, rfl⟩ <;> repeat' (first | exact trivial | exact OLe.refl _ | exact AV.le_refl _ | apply And.intro))
    · by_cases e : j = i
      · subst e
        unfold wrongAt
        simp only [Bool.or_eq_false_iff, decide_eq_false_iff_not, hb.2, Bool.not_true, true_and]
        refine ⟨fun h => hb.1.1 h.1 ?_, fun h => hb.1.2 h.1 h.2⟩
        unfold lastK
        rw [if_neg (by omega)]; exact h.2.2.symm
      · exact hw j (by dsimp only at hj; omega)
    · dsimp only
      rw [findE_upd, hE, take_succ_getD o.refs i [] hit]
      by_cases h1 : t = o.refs.getD i []
      · subst h1; simp
      · have : (t == o.refs.getD i []) = false := by simpa using h1
        rw [this, cond_false]
        congr 1
        rw [Bool.eq_iff_iff]
        simp only [decide_eq_true_eq, List.mem_append, List.mem_singleton, h1, or_false]
  all_goals (have hR : refsB o.kind o.refs = true := refsB_iff.2 fun j hj => hw j (by omega))
  · have h1 : o.kind = 1 := by assumption
    have : objB o = (bif ((o.refs.length : Int) == 0) then onGrid o.x o.y else false) := by
      unfold objB
      have hc : countB 1 o.refs.length = ((o.refs.length : Int) == 0) := by
        rw [Bool.eq_iff_iff]; simp only [countB, if_true, Bool.and_eq_true, decide_eq_true_eq, beq_iff_eq]; omega
      rw [hN.2.1, hN.2.2.1, hR, h1, hc, bif_and]
      simp [atB]
    rw [this]
  · have h5 : o.kind = 5 := by assumption
    have : objB o = (bif ((o.refs.length : Int) == 3) then o.x == 0 && (o.y == 0 && true) else false) := by
      unfold objB
      rw [hN.2.1, hN.2.2.1, hR, h5]
      rw [bif_and, Bool.eq_iff_iff]
      simp [countB, atB]
      omega
    rw [this]
  · have h5 : ¬ o.kind = 5 := by assumption
    have h1 : ¬ o.kind = 1 := by assumption
    have hl := hN.2.2.2.1
    have hl2 := hN.2.2.2.2
    have : objB o = (o.x == 0 && (o.y == 0 && true)) := by
      unfold objB
      rw [hN.2.1, hN.2.2.1, hR]
      have hc : countB o.kind o.refs.length = true := by
        have : o.kind = 2 ∨ o.kind = 3 ∨ o.kind = 4 := by omega
        unfold countB
        unfold kindLeast at hl
        rcases this with h | h | h <;> rw [h] at hl ⊢ <;> simp at hl ⊢ <;> omega
      rw [hc, Bool.eq_iff_iff]
      simp [atB, h1, hk]
    rw [this]

/-! ### Maps -/
def mapB (m : List Obj) : Bool := m.all objB && decide (ascP (ids m)) && decide (m.length ≤ 1000000)
theorem objB_id {o : Obj} (h : objB o = true) : o.id ≠ [] := by
  simp only [objB, Bool.and_eq_true] at h
  exact nameB_ne h.1.1.1.1.2
theorem ids_getD (m : List Obj) (i : Nat) : (ids m).getD i [] = (m.getD i default).id := map_getD (fun o : Obj => o.id) m i default
theorem c26 (m : List Obj) : PCall Try.prog 26 [.d (encMap m)] fun x => x = .d (.bool (mapB m)) := by
  refine PCall.intro Try.tabOk Try.f26 _ Try.func26 rfl (by decide) rfl fun z => ?_
  repeat' first
    | (with_reducible refine AW.seq ?_)
    | ((with_reducible refine AW.region Try.tabOk ?_); (conv => whnf))
    | ((with_reducible refine AW.block ?_))
    | (intro hlen; (conv => whnf))
  refine AW.loopS (X := Nat) [8, 7, 2, 1] [0] (fun i => [(9, .d (.int .i64 (i : Int))), (3, .d (.str (lastK (ids m) i)))]) (fun _ => []) (fun _ => 1)
    (fun i => i ≤ m.length ∧ (∀ j, j < i → objB (m.getD j default) = true) ∧ ∀ j, j + 1 < i → ltS (m.getD j default).id (m.getD (j + 1) default).id = true) (fun i => m.length - i) 0
    ⟨Nat.zero_le _, fun j h => absurd h (Nat.not_lt_zero j), fun j h => absurd h (Nat.not_lt_zero _)⟩ (fun _ _ => rfl) (by refine ⟨rfl, rfl, rfl, ?_, ?_⟩ <;> repeat' (first | exact trivial | exact OLe.refl _ | exact AV.le_refl _ | apply And.intro)) ?_
  intro i ⟨hi, hw, ha⟩
  repeat' first
    | (with_reducible refine AW.seq ?_)
    | ((with_reducible refine AW.region Try.tabOk ?_); (conv => whnf))
    | ((with_reducible refine AW.ret ?_); (conv => whnf))
    | ((with_reducible refine AW.block ?_))
    | ((with_reducible refine AW.exit ?_); (conv => whnf))
    | ((with_reducible refine AW.skip ?_); (conv => whnf))
    | ((with_reducible refine AW.cond ?_); (conv => whnf))
    | ((with_reducible refine ACall.id ?_); (refine PCall.call (by first | exact c62 _) rfl ?_); (intro x hx; first | subst hx | (obtain ⟨l_, rfl, hl_⟩ := hx.out)); (conv => whnf))
    | ((with_reducible apply Or.inl); apply Exists.intro; apply And.intro; (focus (intro hg; (conv => whnf); (repeat' first | (with_reducible exact ⟨rfl, rfl⟩) | ((with_reducible refine Own2.data ?_); (conv => whnf)) | (refine ⟨true, _, rfl, ?_⟩; (conv => whnf)) | (refine ⟨false, .nilp, rfl, ?_⟩; (conv => whnf)) | (refine ⟨_, _, by first | exact c62 _, ?_⟩; (conv => whnf)) | ((with_reducible apply Or.inl); (refine ⟨rfl, rfl, ?_⟩); (conv => whnf)) | ((with_reducible apply Or.inl); (with_reducible apply And.intro); (focus (simp only [rng]; omega)); (conv => whnf)) | (refine ⟨by first | omega | (simp at hg ⊢; omega) | (simp_all; first | done | fail), ?_⟩; (conv => whnf)) | ((with_reducible refine ACall.id ?_); (refine PCall.call (by first | exact c62 _) rfl ?_); (intro x hx; first | subst hx | (obtain ⟨l_, rfl, hl_⟩ := hx.out)); (conv => whnf)) | ((with_reducible apply Or.inr); (with_reducible apply And.intro) <;> (intro hb_; first | (cases hb_; done) | (conv => whnf))) | (intro hlen; (conv => whnf))); done)); (conv => whnf))
    | ((with_reducible apply Or.inl); (with_reducible apply And.intro); (focus (simp only [rng]; omega)); (conv => whnf))
    | ((with_reducible apply And.intro); (focus (first | omega | (exact True.intro) | (simp; omega) | (exact Nat.le_of_ble_eq_true rfl) | (exact ⟨rfl, Nat.le_of_ble_eq_true rfl⟩) | (exact ⟨Nat.le_of_ble_eq_true rfl, Nat.le_of_ble_eq_true rfl⟩) | (intro hg; first | (simp; first | done | fail) | (simp at hg ⊢; exact hg) | (simp at hg; exact hg) | exact hg))); (conv => whnf))
    | ((with_reducible apply And.intro) <;> (intro hb; (try simp at hb); (try (exfalso; first | omega | (simp_all; first | done | fail))); (try (conv => whnf))))
    | (intro hlen; (conv => whnf))
  · have hit : i < m.length := by assumption
    have hb : objB (m[i]?.getD default) = false ∨ Op.bytesLess (m[i]?.getD default).id (lastK (ids m) i) = true ∨ (m[i]?.getD default).id = lastK (ids m) i := by assumption
    rw [← List.getD_eq_getElem?_getD] at hb
    have : mapB m = false := by
      rw [Bool.eq_false_iff]
      intro h
      simp only [mapB, Bool.and_eq_true, decide_eq_true_eq] at h
      obtain ⟨⟨h1, h2⟩, h3⟩ := h
      have h1 := (List.all_eq_true.1 h1) (m.getD i default) (by rw [List.getD_eq_getElem?_getD, List.getElem?_eq_getElem hit]; simp)
      rcases hb with hb | hb
      · rw [hb] at h1; cases h1
      · have hlt : ltS (lastK (ids m) i) (m.getD i default).id = true := by
          unfold lastK
          split
          · exact nil_lt (objB_id h1)
          · have := h2 (i - 1) (by simp [ids]; omega)
            rw [show i - 1 + 1 = i by omega, ids_getD m i] at this
            exact this
        rcases hb with hb | hb
        · have := ltS_asymm hlt
          rw [show ltS (m.getD i default).id (lastK (ids m) i) = true from hb] at this; cases this
        · exact ltS_ne hlt hb.symm
    rw [this]
  · have hit : i < m.length := by assumption
    have hb : objB (m[i]?.getD default) = true ∧ Op.bytesLess (m[i]?.getD default).id (lastK (ids m) i) = false ∧ ¬(m[i]?.getD default).id = lastK (ids m) i := by assumption
    rw [← List.getD_eq_getElem?_getD] at hb
    have hlk : ∀ k, lastK (ids m) (k + 1) = (m.getD k default).id := fun k => ids_getD m k
    refine .mk (i + 1) ⟨hit, fun j hj => ?_, fun j hj => ?_⟩ (by show m.length - (i + 1) < m.length - i; omega) ⟨rfl, rfl, rfl, ⟨OLe.refl _, trivial⟩, ⟨AV.le_refl _, AV.le_of_eq (by rw [hlk i]; rfl), AV.le_refl _, AV.le_refl _, AV.le_refl _, AV.le_refl _, trivial⟩, rfl⟩
    · by_cases e : j = i
      · subst e; exact hb.1
      · exact hw j (by omega)
    · by_cases e : j + 1 = i
      · have hl : lastK (ids m) i = (m.getD j default).id := by rw [← e]; exact hlk j
        rw [hl] at hb
        rcases ltS_tri (m.getD j default).id (m.getD i default).id with h | h | h
        · rw [e]; exact h
        · exact absurd h.symm hb.2.2
        · have := hb.2.1
          rw [show Op.bytesLess (m.getD i default).id (m.getD j default).id = ltS (m.getD i default).id (m.getD j default).id from rfl, h] at this; cases this
      · exact ha j (by omega)
  · have he : i = m.length := by omega
    subst he
    have h1 : m.all objB = true := all_of_getD default hw
    have h2 : ascP (ids m) := fun j hj => by
      rw [ids, List.length_map] at hj
      rw [ids_getD, ids_getD]; exact ha j hj
    have : mapB m = decide ((m.length : Int) ≤ 1000000) := by
      rw [Bool.eq_iff_iff]
      simp only [mapB, h1, h2, decide_true, Bool.and_true, Bool.true_and, decide_eq_true_eq]
      omega
    rw [this]
end Go.Proofs
end
