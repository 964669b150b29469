/- What the functions of the program compute, each as a contract: the conditions stand in each statement. -/
import Derived.Test.YtajnbdjipmckpaaProg
import Derived.Test.YtajnbdjipmckpaaPmG2
import Derived.KernelRfl
import Derived.Test.YtajnbdjipmckpaaPmG3
section
/- The table of types (printed by gen_tab.py). -/
namespace Go.Proofs
open Go.Pm
set_option maxRecDepth 100000
def Try.tyL : List (TypeId × Ty) := [
  (1, ⟨.func, 1, 8, .nilfn, false, false⟩),
  (2, ⟨.int .i64, 1, 8, .int .i64 0, true, false⟩),
  (3, ⟨.int .i64, 1, 8, .int .i64 0, true, false⟩),
  (4, ⟨.bool, 1, 1, .bool false, true, false⟩),
  (5, ⟨.int .u8, 1, 1, .int .u8 0, true, false⟩),
  (6, ⟨.int .u8, 1, 1, .int .u8 0, true, false⟩),
  (7, ⟨.struct [(2, 0), (3, 1), (4, 2), (6, 3)], 4, 24, .agg [.int .i64 0, .int .i64 0, .bool false, .int .u8 0], true, false⟩),
  (8, ⟨.struct [(2, 0), (3, 1), (4, 2), (6, 3)], 4, 24, .agg [.int .i64 0, .int .i64 0, .bool false, .int .u8 0], true, false⟩),
  (9, ⟨.str, 1, 16, .str [], true, false⟩),
  (10, ⟨.str, 1, 16, .str [], true, false⟩),
  (11, ⟨.str, 1, 16, .str [], true, false⟩),
  (12, ⟨.int .u64, 1, 8, .int .u64 0, true, false⟩),
  (13, ⟨.struct [(9, 0), (12, 1)], 2, 24, .agg [.str [], .int .u64 0], true, false⟩),
  (14, ⟨.struct [(9, 0), (12, 1)], 2, 24, .agg [.str [], .int .u64 0], true, false⟩),
  (15, ⟨.ptr 158, 1, 8, .nilp, true, false⟩),
  (16, ⟨.ptr 161, 1, 8, .nilp, true, false⟩),
  (17, ⟨.ptr 169, 1, 8, .nilp, true, false⟩),
  (18, ⟨.struct [(17, 0)], 1, 8, .agg [.nilp], true, false⟩),
  (19, ⟨.struct [(17, 0)], 1, 8, .agg [.nilp], true, false⟩),
  (20, ⟨.iface true, 1, 16, .nili, true, false⟩),
  (21, ⟨.int .i32, 1, 4, .int .i32 0, true, false⟩),
  (22, ⟨.slice 42, 1, 24, .nils, false, false⟩),
  (23, ⟨.struct [(22, 0)], 1, 24, .agg [.nils], false, false⟩),
  (24, ⟨.struct [(22, 0)], 1, 24, .agg [.nils], false, false⟩),
  (25, ⟨.func, 1, 8, .nilfn, false, false⟩),
  (26, ⟨.func, 1, 8, .nilfn, false, false⟩),
  (27, ⟨.func, 1, 8, .nilfn, false, false⟩),
  (28, ⟨.slice 70, 1, 24, .nils, false, false⟩),
  (29, ⟨.func, 1, 8, .nilfn, false, false⟩),
  (30, ⟨.func, 1, 8, .nilfn, false, false⟩),
  (31, ⟨.slice 49, 1, 24, .nils, false, false⟩),
  (32, ⟨.func, 1, 8, .nilfn, false, false⟩),
  (33, ⟨.func, 1, 8, .nilfn, false, false⟩),
  (34, ⟨.slice 39, 1, 24, .nils, false, false⟩),
  (35, ⟨.func, 1, 8, .nilfn, false, false⟩),
  (36, ⟨.func, 1, 8, .nilfn, false, false⟩),
  (37, ⟨.struct [(3, 0), (3, 1)], 2, 16, .agg [.int .i64 0, .int .i64 0], true, true⟩),
  (38, ⟨.struct [(3, 0), (3, 1)], 2, 16, .agg [.int .i64 0, .int .i64 0], true, true⟩),
  (39, ⟨.slice 9, 1, 24, .nils, false, false⟩),
  (40, ⟨.slice 96, 1, 24, .nils, false, false⟩),
  (41, ⟨.struct [(9, 0), (3, 1), (38, 2), (39, 4), (40, 5)], 6, 88, .agg [.str [], .int .i64 0, .int .i64 0, .int .i64 0, .nils, .nils], false, false⟩),
  (42, ⟨.struct [(9, 0), (3, 1), (38, 2), (39, 4), (40, 5)], 6, 88, .agg [.str [], .int .i64 0, .int .i64 0, .int .i64 0, .nils, .nils], false, false⟩),
  (43, ⟨.func, 1, 8, .nilfn, false, false⟩),
  (44, ⟨.func, 1, 8, .nilfn, false, false⟩),
  (45, ⟨.func, 1, 8, .nilfn, false, false⟩),
  (46, ⟨.func, 1, 8, .nilfn, false, false⟩),
  (47, ⟨.func, 1, 8, .nilfn, false, false⟩),
  (48, ⟨.struct [(9, 0), (9, 1), (9, 2), (3, 3)], 4, 56, .agg [.str [], .str [], .str [], .int .i64 0], true, true⟩),
  (49, ⟨.struct [(9, 0), (9, 1), (9, 2), (3, 3)], 4, 56, .agg [.str [], .str [], .str [], .int .i64 0], true, true⟩),
  (50, ⟨.map 9 3, 1, 8, .nilmap, false, false⟩),
  (51, ⟨.map 9 4, 1, 8, .nilmap, false, false⟩),
  (52, ⟨.int .u32, 1, 4, .int .u32 0, true, false⟩),
  (53, ⟨.int .u64, 1, 8, .int .u64 0, true, false⟩),
  (54, ⟨.func, 1, 8, .nilfn, false, false⟩),
  (55, ⟨.func, 1, 8, .nilfn, false, false⟩),
  (56, ⟨.func, 1, 8, .nilfn, false, false⟩),
  (57, ⟨.func, 1, 8, .nilfn, false, false⟩),
  (58, ⟨.func, 1, 8, .nilfn, false, false⟩),
  (59, ⟨.func, 1, 8, .nilfn, false, false⟩),
  (60, ⟨.func, 1, 8, .nilfn, false, false⟩),
  (62, ⟨.func, 1, 8, .nilfn, false, false⟩),
  (64, ⟨.func, 1, 8, .nilfn, false, false⟩),
  (65, ⟨.func, 1, 8, .nilfn, false, false⟩),
  (66, ⟨.func, 1, 8, .nilfn, false, false⟩),
  (67, ⟨.func, 1, 8, .nilfn, false, false⟩),
  (68, ⟨.func, 1, 8, .nilfn, false, false⟩),
  (69, ⟨.struct [(9, 0), (3, 1), (39, 2)], 3, 48, .agg [.str [], .int .i64 0, .nils], false, false⟩),
  (70, ⟨.struct [(9, 0), (3, 1), (39, 2)], 3, 48, .agg [.str [], .int .i64 0, .nils], false, false⟩),
  (71, ⟨.func, 1, 8, .nilfn, false, false⟩),
  (72, ⟨.func, 1, 8, .nilfn, false, false⟩),
  (73, ⟨.ptr 79, 1, 8, .nilp, true, false⟩),
  (75, ⟨.func, 1, 8, .nilfn, false, false⟩),
  (76, ⟨.map 9 38, 1, 8, .nilmap, false, false⟩),
  (77, ⟨.map 9 39, 1, 8, .nilmap, false, false⟩),
  (78, ⟨.struct [(22, 0), (76, 1), (77, 2)], 3, 40, .agg [.nils, .nilmap, .nilmap], false, false⟩),
  (79, ⟨.struct [(22, 0), (76, 1), (77, 2)], 3, 40, .agg [.nils, .nilmap, .nilmap], false, false⟩),
  (80, ⟨.func, 1, 8, .nilfn, false, false⟩),
  (81, ⟨.func, 1, 8, .nilfn, false, false⟩),
  (82, ⟨.map 49 4, 1, 8, .nilmap, false, false⟩),
  (83, ⟨.func, 1, 8, .nilfn, false, false⟩),
  (84, ⟨.func, 1, 8, .nilfn, false, false⟩),
  (85, ⟨.func, 1, 8, .nilfn, false, false⟩),
  (86, ⟨.func, 1, 8, .nilfn, false, false⟩),
  (87, ⟨.map 9 9, 1, 8, .nilmap, false, false⟩),
  (88, ⟨.struct [(87, 0)], 1, 8, .agg [.nilmap], false, false⟩),
  (89, ⟨.struct [(87, 0)], 1, 8, .agg [.nilmap], false, false⟩),
  (90, ⟨.func, 1, 8, .nilfn, false, false⟩),
  (92, ⟨.func, 1, 8, .nilfn, false, false⟩),
  (93, ⟨.func, 1, 8, .nilfn, false, false⟩),
  (94, ⟨.func, 1, 8, .nilfn, false, false⟩),
  (95, ⟨.struct [(9, 0), (9, 1)], 2, 32, .agg [.str [], .str []], true, true⟩),
  (96, ⟨.struct [(9, 0), (9, 1)], 2, 32, .agg [.str [], .str []], true, true⟩),
  (97, ⟨.func, 1, 8, .nilfn, false, false⟩),
  (98, ⟨.func, 1, 8, .nilfn, false, false⟩),
  (99, ⟨.func, 1, 8, .nilfn, false, false⟩),
  (100, ⟨.func, 1, 8, .nilfn, false, false⟩),
  (101, ⟨.slice 5, 1, 24, .nils, false, false⟩),
  (102, ⟨.func, 1, 8, .nilfn, false, false⟩),
  (103, ⟨.func, 1, 8, .nilfn, false, false⟩),
  (104, ⟨.func, 1, 8, .nilfn, false, false⟩),
  (105, ⟨.func, 1, 8, .nilfn, false, false⟩),
  (106, ⟨.func, 1, 8, .nilfn, false, false⟩),
  (107, ⟨.func, 1, 8, .nilfn, false, false⟩),
  (108, ⟨.func, 1, 8, .nilfn, false, false⟩),
  (109, ⟨.func, 1, 8, .nilfn, false, false⟩),
  (110, ⟨.func, 1, 8, .nilfn, false, false⟩),
  (111, ⟨.func, 1, 8, .nilfn, false, false⟩),
  (112, ⟨.func, 1, 8, .nilfn, false, false⟩),
  (114, ⟨.array 2 9, 2, 32, .agg [.str [], .str []], true, false⟩),
  (115, ⟨.array 2 4, 2, 2, .agg [.bool false, .bool false], true, false⟩),
  (116, ⟨.func, 1, 8, .nilfn, false, false⟩),
  (117, ⟨.func, 1, 8, .nilfn, false, false⟩),
  (118, ⟨.func, 1, 8, .nilfn, false, false⟩),
  (119, ⟨.func, 1, 8, .nilfn, false, false⟩),
  (120, ⟨.func, 1, 8, .nilfn, false, false⟩),
  (121, ⟨.func, 1, 8, .nilfn, false, false⟩),
  (122, ⟨.func, 1, 8, .nilfn, false, false⟩),
  (123, ⟨.slice 125, 1, 24, .nils, false, false⟩),
  (124, ⟨.struct [(3, 0), (3, 1)], 2, 16, .agg [.int .i64 0, .int .i64 0], true, true⟩),
  (125, ⟨.struct [(3, 0), (3, 1)], 2, 16, .agg [.int .i64 0, .int .i64 0], true, true⟩),
  (126, ⟨.ptr 128, 1, 8, .nilp, true, false⟩),
  (127, ⟨.struct [(126, 0), (101, 1)], 2, 32, .agg [.nilp, .nils], false, false⟩),
  (128, ⟨.struct [(126, 0), (101, 1)], 2, 32, .agg [.nilp, .nils], false, false⟩),
  (129, ⟨.func, 1, 8, .nilfn, false, false⟩),
  (130, ⟨.iface false, 1, 16, .nili, true, false⟩),
  (131, ⟨.iface false, 1, 16, .nili, true, false⟩),
  (133, ⟨.func, 1, 8, .nilfn, false, false⟩),
  (134, ⟨.func, 1, 8, .nilfn, false, false⟩),
  (135, ⟨.func, 1, 8, .nilfn, false, false⟩),
  (136, ⟨.array 256 5, 256, 256, .agg (List.replicate 256 (.int .u8 0)), true, false⟩),
  (137, ⟨.func, 1, 8, .nilfn, false, false⟩),
  (138, ⟨.func, 1, 8, .nilfn, false, false⟩),
  (139, ⟨.func, 1, 8, .nilfn, false, false⟩),
  (140, ⟨.int .u64, 1, 8, .int .u64 0, true, false⟩),
  (141, ⟨.func, 1, 8, .nilfn, false, false⟩),
  (142, ⟨.struct [(3, 0), (3, 1)], 2, 16, .agg [.int .i64 0, .int .i64 0], true, true⟩),
  (143, ⟨.struct [(3, 0), (3, 1)], 2, 16, .agg [.int .i64 0, .int .i64 0], true, true⟩),
  (144, ⟨.func, 1, 8, .nilfn, false, false⟩),
  (145, ⟨.func, 1, 8, .nilfn, false, false⟩),
  (146, ⟨.array 6 9, 6, 96, .agg [.str [], .str [], .str [], .str [], .str [], .str []], true, false⟩),
  (147, ⟨.array 6 3, 6, 48, .agg [.int .i64 0, .int .i64 0, .int .i64 0, .int .i64 0, .int .i64 0, .int .i64 0], true, false⟩),
  (148, ⟨.ptr 5, 1, 8, .nilp, true, false⟩),
  (149, ⟨.func, 1, 8, .nilfn, false, false⟩),
  (150, ⟨.func, 1, 8, .nilfn, false, false⟩),
  (151, ⟨.slice 38, 1, 24, .nils, false, false⟩),
  (153, ⟨.func, 1, 8, .nilfn, false, false⟩),
  (154, ⟨.func, 1, 8, .nilfn, false, false⟩),
  (155, ⟨.func, 1, 8, .nilfn, false, false⟩),
  (156, ⟨.func, 1, 8, .nilfn, false, false⟩),
  (157, ⟨.struct [(17, 0), (17, 1), (17, 2), (9, 3)], 4, 40, .agg [.nilp, .nilp, .nilp, .str []], true, false⟩),
  (158, ⟨.struct [(17, 0), (17, 1), (17, 2), (9, 3)], 4, 40, .agg [.nilp, .nilp, .nilp, .str []], true, false⟩),
  (159, ⟨.array 0 16, 0, 0, .agg [], true, false⟩),
  (160, ⟨.struct [(159, 0)], 0, 0, .agg [], true, false⟩),
  (161, ⟨.struct [(159, 0)], 0, 0, .agg [], true, false⟩),
  (162, ⟨.func, 1, 8, .nilfn, false, false⟩),
  (163, ⟨.int .u8, 1, 1, .int .u8 0, true, false⟩),
  (164, ⟨.int .u8, 1, 1, .int .u8 0, true, false⟩),
  (165, ⟨.func, 1, 8, .nilfn, false, false⟩),
  (166, ⟨.int .i32, 1, 4, .int .i32 0, true, false⟩),
  (167, ⟨.int .i32, 1, 4, .int .i32 0, true, false⟩),
  (168, ⟨.struct [(12, 0), (12, 1), (52, 2), (163, 3), (5, 4), (5, 5), (164, 6), (165, 7), (148, 8), (166, 9), (167, 10)], 11, 48, .agg [.int .u64 0, .int .u64 0, .int .u32 0, .int .u8 0, .int .u8 0, .int .u8 0, .int .u8 0, .nilfn, .nilp, .int .i32 0, .int .i32 0], false, false⟩),
  (169, ⟨.struct [(12, 0), (12, 1), (52, 2), (163, 3), (5, 4), (5, 5), (164, 6), (165, 7), (148, 8), (166, 9), (167, 10)], 11, 48, .agg [.int .u64 0, .int .u64 0, .int .u32 0, .int .u8 0, .int .u8 0, .int .u8 0, .int .u8 0, .nilfn, .nilp, .int .i32 0, .int .i32 0], false, false⟩)
  ]
theorem Try.ty1 : TyOk Try.prog 1 ⟨.func, 1, 8, .nilfn, false, false⟩ := ⟨⟨_, Try.underlying1, rfl, fun h => (Bool.noConfusion h)⟩, ⟨_, _, Try.type1, rfl, rfl, rfl, rfl, rfl, rfl⟩⟩
theorem Try.ty2 : TyOk Try.prog 2 ⟨.int .i64, 1, 8, .int .i64 0, true, false⟩ := ⟨⟨_, Try.underlying2, rfl, fun h => (Bool.noConfusion h)⟩, ⟨_, _, Try.type2, rfl, rfl, rfl, rfl, rfl, rfl⟩⟩
theorem Try.ty3 : TyOk Try.prog 3 ⟨.int .i64, 1, 8, .int .i64 0, true, false⟩ := ⟨⟨_, Try.underlying3, rfl, fun h => (Bool.noConfusion h)⟩, ⟨_, _, Try.type3, rfl, rfl, rfl, rfl, rfl, rfl⟩⟩
theorem Try.ty4 : TyOk Try.prog 4 ⟨.bool, 1, 1, .bool false, true, false⟩ := ⟨⟨_, Try.underlying4, rfl, fun h => (Bool.noConfusion h)⟩, ⟨_, _, Try.type4, rfl, rfl, rfl, rfl, rfl, rfl⟩⟩
theorem Try.ty5 : TyOk Try.prog 5 ⟨.int .u8, 1, 1, .int .u8 0, true, false⟩ := ⟨⟨_, Try.underlying5, rfl, fun h => (Bool.noConfusion h)⟩, ⟨_, _, Try.type5, rfl, rfl, rfl, rfl, rfl, rfl⟩⟩
theorem Try.ty6 : TyOk Try.prog 6 ⟨.int .u8, 1, 1, .int .u8 0, true, false⟩ := ⟨⟨_, Try.underlying6, rfl, fun h => (Bool.noConfusion h)⟩, ⟨_, _, Try.type6, rfl, rfl, rfl, rfl, rfl, rfl⟩⟩
theorem Try.ty7 : TyOk Try.prog 7 ⟨.struct [(2, 0), (3, 1), (4, 2), (6, 3)], 4, 24, .agg [.int .i64 0, .int .i64 0, .bool false, .int .u8 0], true, false⟩ := ⟨⟨_, Try.underlying7, rfl, fun h => (Bool.noConfusion h)⟩, ⟨_, _, Try.type7, rfl, rfl, rfl, rfl, rfl, rfl⟩⟩
theorem Try.ty8 : TyOk Try.prog 8 ⟨.struct [(2, 0), (3, 1), (4, 2), (6, 3)], 4, 24, .agg [.int .i64 0, .int .i64 0, .bool false, .int .u8 0], true, false⟩ := ⟨⟨_, Try.underlying8, rfl, fun h => (Bool.noConfusion h)⟩, ⟨_, _, Try.type8, rfl, rfl, rfl, rfl, rfl, rfl⟩⟩
theorem Try.ty9 : TyOk Try.prog 9 ⟨.str, 1, 16, .str [], true, false⟩ := ⟨⟨_, Try.underlying9, rfl, fun h => (Bool.noConfusion h)⟩, ⟨_, _, Try.type9, rfl, rfl, rfl, rfl, rfl, rfl⟩⟩
theorem Try.ty10 : TyOk Try.prog 10 ⟨.str, 1, 16, .str [], true, false⟩ := ⟨⟨_, Try.underlying10, rfl, fun h => (Bool.noConfusion h)⟩, ⟨_, _, Try.type10, rfl, rfl, rfl, rfl, rfl, rfl⟩⟩
theorem Try.ty11 : TyOk Try.prog 11 ⟨.str, 1, 16, .str [], true, false⟩ := ⟨⟨_, Try.underlying11, rfl, fun h => (Bool.noConfusion h)⟩, ⟨_, _, Try.type11, rfl, rfl, rfl, rfl, rfl, rfl⟩⟩
theorem Try.ty12 : TyOk Try.prog 12 ⟨.int .u64, 1, 8, .int .u64 0, true, false⟩ := ⟨⟨_, Try.underlying12, rfl, fun h => (Bool.noConfusion h)⟩, ⟨_, _, Try.type12, rfl, rfl, rfl, rfl, rfl, rfl⟩⟩
theorem Try.ty13 : TyOk Try.prog 13 ⟨.struct [(9, 0), (12, 1)], 2, 24, .agg [.str [], .int .u64 0], true, false⟩ := ⟨⟨_, Try.underlying13, rfl, fun h => (Bool.noConfusion h)⟩, ⟨_, _, Try.type13, rfl, rfl, rfl, rfl, rfl, rfl⟩⟩
theorem Try.ty14 : TyOk Try.prog 14 ⟨.struct [(9, 0), (12, 1)], 2, 24, .agg [.str [], .int .u64 0], true, false⟩ := ⟨⟨_, Try.underlying14, rfl, fun h => (Bool.noConfusion h)⟩, ⟨_, _, Try.type14, rfl, rfl, rfl, rfl, rfl, rfl⟩⟩
theorem Try.ty15 : TyOk Try.prog 15 ⟨.ptr 158, 1, 8, .nilp, true, false⟩ := ⟨⟨_, Try.underlying15, rfl, fun h => (Bool.noConfusion h)⟩, ⟨_, _, Try.type15, rfl, rfl, rfl, rfl, rfl, rfl⟩⟩
theorem Try.ty16 : TyOk Try.prog 16 ⟨.ptr 161, 1, 8, .nilp, true, false⟩ := ⟨⟨_, Try.underlying16, rfl, fun h => (Bool.noConfusion h)⟩, ⟨_, _, Try.type16, rfl, rfl, rfl, rfl, rfl, rfl⟩⟩
theorem Try.ty17 : TyOk Try.prog 17 ⟨.ptr 169, 1, 8, .nilp, true, false⟩ := ⟨⟨_, Try.underlying17, rfl, fun h => (Bool.noConfusion h)⟩, ⟨_, _, Try.type17, rfl, rfl, rfl, rfl, rfl, rfl⟩⟩
theorem Try.ty18 : TyOk Try.prog 18 ⟨.struct [(17, 0)], 1, 8, .agg [.nilp], true, false⟩ := ⟨⟨_, Try.underlying18, rfl, fun h => (Bool.noConfusion h)⟩, ⟨_, _, Try.type18, rfl, rfl, rfl, rfl, rfl, rfl⟩⟩
theorem Try.ty19 : TyOk Try.prog 19 ⟨.struct [(17, 0)], 1, 8, .agg [.nilp], true, false⟩ := ⟨⟨_, Try.underlying19, rfl, fun h => (Bool.noConfusion h)⟩, ⟨_, _, Try.type19, rfl, rfl, rfl, rfl, rfl, rfl⟩⟩
theorem Try.ty20 : TyOk Try.prog 20 ⟨.iface true, 1, 16, .nili, true, false⟩ := ⟨⟨_, Try.underlying20, rfl, fun h => (Bool.noConfusion h)⟩, ⟨_, _, Try.type20, rfl, rfl, rfl, rfl, rfl, rfl⟩⟩
theorem Try.ty21 : TyOk Try.prog 21 ⟨.int .i32, 1, 4, .int .i32 0, true, false⟩ := ⟨⟨_, Try.underlying21, rfl, fun h => (Bool.noConfusion h)⟩, ⟨_, _, Try.type21, rfl, rfl, rfl, rfl, rfl, rfl⟩⟩
theorem Try.ty22 : TyOk Try.prog 22 ⟨.slice 42, 1, 24, .nils, false, false⟩ := ⟨⟨_, Try.underlying22, rfl, fun h => (Bool.noConfusion h)⟩, ⟨_, _, Try.type22, rfl, rfl, rfl, rfl, rfl, rfl⟩⟩
theorem Try.ty23 : TyOk Try.prog 23 ⟨.struct [(22, 0)], 1, 24, .agg [.nils], false, false⟩ := ⟨⟨_, Try.underlying23, rfl, fun h => (Bool.noConfusion h)⟩, ⟨_, _, Try.type23, rfl, rfl, rfl, rfl, rfl, rfl⟩⟩
theorem Try.ty24 : TyOk Try.prog 24 ⟨.struct [(22, 0)], 1, 24, .agg [.nils], false, false⟩ := ⟨⟨_, Try.underlying24, rfl, fun h => (Bool.noConfusion h)⟩, ⟨_, _, Try.type24, rfl, rfl, rfl, rfl, rfl, rfl⟩⟩
theorem Try.ty25 : TyOk Try.prog 25 ⟨.func, 1, 8, .nilfn, false, false⟩ := ⟨⟨_, Try.underlying25, rfl, fun h => (Bool.noConfusion h)⟩, ⟨_, _, Try.type25, rfl, rfl, rfl, rfl, rfl, rfl⟩⟩
theorem Try.ty26 : TyOk Try.prog 26 ⟨.func, 1, 8, .nilfn, false, false⟩ := ⟨⟨_, Try.underlying26, rfl, fun h => (Bool.noConfusion h)⟩, ⟨_, _, Try.type26, rfl, rfl, rfl, rfl, rfl, rfl⟩⟩
theorem Try.ty27 : TyOk Try.prog 27 ⟨.func, 1, 8, .nilfn, false, false⟩ := ⟨⟨_, Try.underlying27, rfl, fun h => (Bool.noConfusion h)⟩, ⟨_, _, Try.type27, rfl, rfl, rfl, rfl, rfl, rfl⟩⟩
theorem Try.ty28 : TyOk Try.prog 28 ⟨.slice 70, 1, 24, .nils, false, false⟩ := ⟨⟨_, Try.underlying28, rfl, fun h => (Bool.noConfusion h)⟩, ⟨_, _, Try.type28, rfl, rfl, rfl, rfl, rfl, rfl⟩⟩
theorem Try.ty29 : TyOk Try.prog 29 ⟨.func, 1, 8, .nilfn, false, false⟩ := ⟨⟨_, Try.underlying29, rfl, fun h => (Bool.noConfusion h)⟩, ⟨_, _, Try.type29, rfl, rfl, rfl, rfl, rfl, rfl⟩⟩
theorem Try.ty30 : TyOk Try.prog 30 ⟨.func, 1, 8, .nilfn, false, false⟩ := ⟨⟨_, Try.underlying30, rfl, fun h => (Bool.noConfusion h)⟩, ⟨_, _, Try.type30, rfl, rfl, rfl, rfl, rfl, rfl⟩⟩
theorem Try.ty31 : TyOk Try.prog 31 ⟨.slice 49, 1, 24, .nils, false, false⟩ := ⟨⟨_, Try.underlying31, rfl, fun h => (Bool.noConfusion h)⟩, ⟨_, _, Try.type31, rfl, rfl, rfl, rfl, rfl, rfl⟩⟩
theorem Try.ty32 : TyOk Try.prog 32 ⟨.func, 1, 8, .nilfn, false, false⟩ := ⟨⟨_, Try.underlying32, rfl, fun h => (Bool.noConfusion h)⟩, ⟨_, _, Try.type32, rfl, rfl, rfl, rfl, rfl, rfl⟩⟩
theorem Try.ty33 : TyOk Try.prog 33 ⟨.func, 1, 8, .nilfn, false, false⟩ := ⟨⟨_, Try.underlying33, rfl, fun h => (Bool.noConfusion h)⟩, ⟨_, _, Try.type33, rfl, rfl, rfl, rfl, rfl, rfl⟩⟩
theorem Try.ty34 : TyOk Try.prog 34 ⟨.slice 39, 1, 24, .nils, false, false⟩ := ⟨⟨_, Try.underlying34, rfl, fun h => (Bool.noConfusion h)⟩, ⟨_, _, Try.type34, rfl, rfl, rfl, rfl, rfl, rfl⟩⟩
theorem Try.ty35 : TyOk Try.prog 35 ⟨.func, 1, 8, .nilfn, false, false⟩ := ⟨⟨_, Try.underlying35, rfl, fun h => (Bool.noConfusion h)⟩, ⟨_, _, Try.type35, rfl, rfl, rfl, rfl, rfl, rfl⟩⟩
theorem Try.ty36 : TyOk Try.prog 36 ⟨.func, 1, 8, .nilfn, false, false⟩ := ⟨⟨_, Try.underlying36, rfl, fun h => (Bool.noConfusion h)⟩, ⟨_, _, Try.type36, rfl, rfl, rfl, rfl, rfl, rfl⟩⟩
theorem Try.ty37 : TyOk Try.prog 37 ⟨.struct [(3, 0), (3, 1)], 2, 16, .agg [.int .i64 0, .int .i64 0], true, true⟩ := ⟨⟨_, Try.underlying37, rfl, fun _ => ⟨rfl, by kernel_rfl, by kernel_rfl⟩⟩, ⟨_, _, Try.type37, rfl, rfl, rfl, rfl, rfl, rfl⟩⟩
theorem Try.ty38 : TyOk Try.prog 38 ⟨.struct [(3, 0), (3, 1)], 2, 16, .agg [.int .i64 0, .int .i64 0], true, true⟩ := ⟨⟨_, Try.underlying38, rfl, fun _ => ⟨rfl, by kernel_rfl, by kernel_rfl⟩⟩, ⟨_, _, Try.type38, rfl, rfl, rfl, rfl, rfl, rfl⟩⟩
theorem Try.ty39 : TyOk Try.prog 39 ⟨.slice 9, 1, 24, .nils, false, false⟩ := ⟨⟨_, Try.underlying39, rfl, fun h => (Bool.noConfusion h)⟩, ⟨_, _, Try.type39, rfl, rfl, rfl, rfl, rfl, rfl⟩⟩
theorem Try.ty40 : TyOk Try.prog 40 ⟨.slice 96, 1, 24, .nils, false, false⟩ := ⟨⟨_, Try.underlying40, rfl, fun h => (Bool.noConfusion h)⟩, ⟨_, _, Try.type40, rfl, rfl, rfl, rfl, rfl, rfl⟩⟩
theorem Try.ty41 : TyOk Try.prog 41 ⟨.struct [(9, 0), (3, 1), (38, 2), (39, 4), (40, 5)], 6, 88, .agg [.str [], .int .i64 0, .int .i64 0, .int .i64 0, .nils, .nils], false, false⟩ := ⟨⟨_, Try.underlying41, rfl, fun h => (Bool.noConfusion h)⟩, ⟨_, _, Try.type41, rfl, rfl, rfl, rfl, rfl, rfl⟩⟩
theorem Try.ty42 : TyOk Try.prog 42 ⟨.struct [(9, 0), (3, 1), (38, 2), (39, 4), (40, 5)], 6, 88, .agg [.str [], .int .i64 0, .int .i64 0, .int .i64 0, .nils, .nils], false, false⟩ := ⟨⟨_, Try.underlying42, rfl, fun h => (Bool.noConfusion h)⟩, ⟨_, _, Try.type42, rfl, rfl, rfl, rfl, rfl, rfl⟩⟩
theorem Try.ty43 : TyOk Try.prog 43 ⟨.func, 1, 8, .nilfn, false, false⟩ := ⟨⟨_, Try.underlying43, rfl, fun h => (Bool.noConfusion h)⟩, ⟨_, _, Try.type43, rfl, rfl, rfl, rfl, rfl, rfl⟩⟩
theorem Try.ty44 : TyOk Try.prog 44 ⟨.func, 1, 8, .nilfn, false, false⟩ := ⟨⟨_, Try.underlying44, rfl, fun h => (Bool.noConfusion h)⟩, ⟨_, _, Try.type44, rfl, rfl, rfl, rfl, rfl, rfl⟩⟩
theorem Try.ty45 : TyOk Try.prog 45 ⟨.func, 1, 8, .nilfn, false, false⟩ := ⟨⟨_, Try.underlying45, rfl, fun h => (Bool.noConfusion h)⟩, ⟨_, _, Try.type45, rfl, rfl, rfl, rfl, rfl, rfl⟩⟩
theorem Try.ty46 : TyOk Try.prog 46 ⟨.func, 1, 8, .nilfn, false, false⟩ := ⟨⟨_, Try.underlying46, rfl, fun h => (Bool.noConfusion h)⟩, ⟨_, _, Try.type46, rfl, rfl, rfl, rfl, rfl, rfl⟩⟩
theorem Try.ty47 : TyOk Try.prog 47 ⟨.func, 1, 8, .nilfn, false, false⟩ := ⟨⟨_, Try.underlying47, rfl, fun h => (Bool.noConfusion h)⟩, ⟨_, _, Try.type47, rfl, rfl, rfl, rfl, rfl, rfl⟩⟩
theorem Try.ty48 : TyOk Try.prog 48 ⟨.struct [(9, 0), (9, 1), (9, 2), (3, 3)], 4, 56, .agg [.str [], .str [], .str [], .int .i64 0], true, true⟩ := ⟨⟨_, Try.underlying48, rfl, fun _ => ⟨rfl, by kernel_rfl, by kernel_rfl⟩⟩, ⟨_, _, Try.type48, rfl, rfl, rfl, rfl, rfl, rfl⟩⟩
theorem Try.ty49 : TyOk Try.prog 49 ⟨.struct [(9, 0), (9, 1), (9, 2), (3, 3)], 4, 56, .agg [.str [], .str [], .str [], .int .i64 0], true, true⟩ := ⟨⟨_, Try.underlying49, rfl, fun _ => ⟨rfl, by kernel_rfl, by kernel_rfl⟩⟩, ⟨_, _, Try.type49, rfl, rfl, rfl, rfl, rfl, rfl⟩⟩
theorem Try.ty50 : TyOk Try.prog 50 ⟨.map 9 3, 1, 8, .nilmap, false, false⟩ := ⟨⟨_, Try.underlying50, rfl, fun h => (Bool.noConfusion h)⟩, ⟨_, _, Try.type50, rfl, rfl, rfl, rfl, rfl, rfl⟩⟩
theorem Try.ty51 : TyOk Try.prog 51 ⟨.map 9 4, 1, 8, .nilmap, false, false⟩ := ⟨⟨_, Try.underlying51, rfl, fun h => (Bool.noConfusion h)⟩, ⟨_, _, Try.type51, rfl, rfl, rfl, rfl, rfl, rfl⟩⟩
theorem Try.ty52 : TyOk Try.prog 52 ⟨.int .u32, 1, 4, .int .u32 0, true, false⟩ := ⟨⟨_, Try.underlying52, rfl, fun h => (Bool.noConfusion h)⟩, ⟨_, _, Try.type52, rfl, rfl, rfl, rfl, rfl, rfl⟩⟩
theorem Try.ty53 : TyOk Try.prog 53 ⟨.int .u64, 1, 8, .int .u64 0, true, false⟩ := ⟨⟨_, Try.underlying53, rfl, fun h => (Bool.noConfusion h)⟩, ⟨_, _, Try.type53, rfl, rfl, rfl, rfl, rfl, rfl⟩⟩
theorem Try.ty54 : TyOk Try.prog 54 ⟨.func, 1, 8, .nilfn, false, false⟩ := ⟨⟨_, Try.underlying54, rfl, fun h => (Bool.noConfusion h)⟩, ⟨_, _, Try.type54, rfl, rfl, rfl, rfl, rfl, rfl⟩⟩
theorem Try.ty55 : TyOk Try.prog 55 ⟨.func, 1, 8, .nilfn, false, false⟩ := ⟨⟨_, Try.underlying55, rfl, fun h => (Bool.noConfusion h)⟩, ⟨_, _, Try.type55, rfl, rfl, rfl, rfl, rfl, rfl⟩⟩
theorem Try.ty56 : TyOk Try.prog 56 ⟨.func, 1, 8, .nilfn, false, false⟩ := ⟨⟨_, Try.underlying56, rfl, fun h => (Bool.noConfusion h)⟩, ⟨_, _, Try.type56, rfl, rfl, rfl, rfl, rfl, rfl⟩⟩
theorem Try.ty57 : TyOk Try.prog 57 ⟨.func, 1, 8, .nilfn, false, false⟩ := ⟨⟨_, Try.underlying57, rfl, fun h => (Bool.noConfusion h)⟩, ⟨_, _, Try.type57, rfl, rfl, rfl, rfl, rfl, rfl⟩⟩
theorem Try.ty58 : TyOk Try.prog 58 ⟨.func, 1, 8, .nilfn, false, false⟩ := ⟨⟨_, Try.underlying58, rfl, fun h => (Bool.noConfusion h)⟩, ⟨_, _, Try.type58, rfl, rfl, rfl, rfl, rfl, rfl⟩⟩
theorem Try.ty59 : TyOk Try.prog 59 ⟨.func, 1, 8, .nilfn, false, false⟩ := ⟨⟨_, Try.underlying59, rfl, fun h => (Bool.noConfusion h)⟩, ⟨_, _, Try.type59, rfl, rfl, rfl, rfl, rfl, rfl⟩⟩
theorem Try.ty60 : TyOk Try.prog 60 ⟨.func, 1, 8, .nilfn, false, false⟩ := ⟨⟨_, Try.underlying60, rfl, fun h => (Bool.noConfusion h)⟩, ⟨_, _, Try.type60, rfl, rfl, rfl, rfl, rfl, rfl⟩⟩
theorem Try.ty62 : TyOk Try.prog 62 ⟨.func, 1, 8, .nilfn, false, false⟩ := ⟨⟨_, Try.underlying62, rfl, fun h => (Bool.noConfusion h)⟩, ⟨_, _, Try.type62, rfl, rfl, rfl, rfl, rfl, rfl⟩⟩
theorem Try.ty64 : TyOk Try.prog 64 ⟨.func, 1, 8, .nilfn, false, false⟩ := ⟨⟨_, Try.underlying64, rfl, fun h => (Bool.noConfusion h)⟩, ⟨_, _, Try.type64, rfl, rfl, rfl, rfl, rfl, rfl⟩⟩
theorem Try.ty65 : TyOk Try.prog 65 ⟨.func, 1, 8, .nilfn, false, false⟩ := ⟨⟨_, Try.underlying65, rfl, fun h => (Bool.noConfusion h)⟩, ⟨_, _, Try.type65, rfl, rfl, rfl, rfl, rfl, rfl⟩⟩
theorem Try.ty66 : TyOk Try.prog 66 ⟨.func, 1, 8, .nilfn, false, false⟩ := ⟨⟨_, Try.underlying66, rfl, fun h => (Bool.noConfusion h)⟩, ⟨_, _, Try.type66, rfl, rfl, rfl, rfl, rfl, rfl⟩⟩
theorem Try.ty67 : TyOk Try.prog 67 ⟨.func, 1, 8, .nilfn, false, false⟩ := ⟨⟨_, Try.underlying67, rfl, fun h => (Bool.noConfusion h)⟩, ⟨_, _, Try.type67, rfl, rfl, rfl, rfl, rfl, rfl⟩⟩
theorem Try.ty68 : TyOk Try.prog 68 ⟨.func, 1, 8, .nilfn, false, false⟩ := ⟨⟨_, Try.underlying68, rfl, fun h => (Bool.noConfusion h)⟩, ⟨_, _, Try.type68, rfl, rfl, rfl, rfl, rfl, rfl⟩⟩
theorem Try.ty69 : TyOk Try.prog 69 ⟨.struct [(9, 0), (3, 1), (39, 2)], 3, 48, .agg [.str [], .int .i64 0, .nils], false, false⟩ := ⟨⟨_, Try.underlying69, rfl, fun h => (Bool.noConfusion h)⟩, ⟨_, _, Try.type69, rfl, rfl, rfl, rfl, rfl, rfl⟩⟩
theorem Try.ty70 : TyOk Try.prog 70 ⟨.struct [(9, 0), (3, 1), (39, 2)], 3, 48, .agg [.str [], .int .i64 0, .nils], false, false⟩ := ⟨⟨_, Try.underlying70, rfl, fun h => (Bool.noConfusion h)⟩, ⟨_, _, Try.type70, rfl, rfl, rfl, rfl, rfl, rfl⟩⟩
theorem Try.ty71 : TyOk Try.prog 71 ⟨.func, 1, 8, .nilfn, false, false⟩ := ⟨⟨_, Try.underlying71, rfl, fun h => (Bool.noConfusion h)⟩, ⟨_, _, Try.type71, rfl, rfl, rfl, rfl, rfl, rfl⟩⟩
theorem Try.ty72 : TyOk Try.prog 72 ⟨.func, 1, 8, .nilfn, false, false⟩ := ⟨⟨_, Try.underlying72, rfl, fun h => (Bool.noConfusion h)⟩, ⟨_, _, Try.type72, rfl, rfl, rfl, rfl, rfl, rfl⟩⟩
theorem Try.ty73 : TyOk Try.prog 73 ⟨.ptr 79, 1, 8, .nilp, true, false⟩ := ⟨⟨_, Try.underlying73, rfl, fun h => (Bool.noConfusion h)⟩, ⟨_, _, Try.type73, rfl, rfl, rfl, rfl, rfl, rfl⟩⟩
theorem Try.ty75 : TyOk Try.prog 75 ⟨.func, 1, 8, .nilfn, false, false⟩ := ⟨⟨_, Try.underlying75, rfl, fun h => (Bool.noConfusion h)⟩, ⟨_, _, Try.type75, rfl, rfl, rfl, rfl, rfl, rfl⟩⟩
theorem Try.ty76 : TyOk Try.prog 76 ⟨.map 9 38, 1, 8, .nilmap, false, false⟩ := ⟨⟨_, Try.underlying76, rfl, fun h => (Bool.noConfusion h)⟩, ⟨_, _, Try.type76, rfl, rfl, rfl, rfl, rfl, rfl⟩⟩
theorem Try.ty77 : TyOk Try.prog 77 ⟨.map 9 39, 1, 8, .nilmap, false, false⟩ := ⟨⟨_, Try.underlying77, rfl, fun h => (Bool.noConfusion h)⟩, ⟨_, _, Try.type77, rfl, rfl, rfl, rfl, rfl, rfl⟩⟩
theorem Try.ty78 : TyOk Try.prog 78 ⟨.struct [(22, 0), (76, 1), (77, 2)], 3, 40, .agg [.nils, .nilmap, .nilmap], false, false⟩ := ⟨⟨_, Try.underlying78, rfl, fun h => (Bool.noConfusion h)⟩, ⟨_, _, Try.type78, rfl, rfl, rfl, rfl, rfl, rfl⟩⟩
theorem Try.ty79 : TyOk Try.prog 79 ⟨.struct [(22, 0), (76, 1), (77, 2)], 3, 40, .agg [.nils, .nilmap, .nilmap], false, false⟩ := ⟨⟨_, Try.underlying79, rfl, fun h => (Bool.noConfusion h)⟩, ⟨_, _, Try.type79, rfl, rfl, rfl, rfl, rfl, rfl⟩⟩
theorem Try.ty80 : TyOk Try.prog 80 ⟨.func, 1, 8, .nilfn, false, false⟩ := ⟨⟨_, Try.underlying80, rfl, fun h => (Bool.noConfusion h)⟩, ⟨_, _, Try.type80, rfl, rfl, rfl, rfl, rfl, rfl⟩⟩
theorem Try.ty81 : TyOk Try.prog 81 ⟨.func, 1, 8, .nilfn, false, false⟩ := ⟨⟨_, Try.underlying81, rfl, fun h => (Bool.noConfusion h)⟩, ⟨_, _, Try.type81, rfl, rfl, rfl, rfl, rfl, rfl⟩⟩
theorem Try.ty82 : TyOk Try.prog 82 ⟨.map 49 4, 1, 8, .nilmap, false, false⟩ := ⟨⟨_, Try.underlying82, rfl, fun h => (Bool.noConfusion h)⟩, ⟨_, _, Try.type82, rfl, rfl, rfl, rfl, rfl, rfl⟩⟩
theorem Try.ty83 : TyOk Try.prog 83 ⟨.func, 1, 8, .nilfn, false, false⟩ := ⟨⟨_, Try.underlying83, rfl, fun h => (Bool.noConfusion h)⟩, ⟨_, _, Try.type83, rfl, rfl, rfl, rfl, rfl, rfl⟩⟩
theorem Try.ty84 : TyOk Try.prog 84 ⟨.func, 1, 8, .nilfn, false, false⟩ := ⟨⟨_, Try.underlying84, rfl, fun h => (Bool.noConfusion h)⟩, ⟨_, _, Try.type84, rfl, rfl, rfl, rfl, rfl, rfl⟩⟩
theorem Try.ty85 : TyOk Try.prog 85 ⟨.func, 1, 8, .nilfn, false, false⟩ := ⟨⟨_, Try.underlying85, rfl, fun h => (Bool.noConfusion h)⟩, ⟨_, _, Try.type85, rfl, rfl, rfl, rfl, rfl, rfl⟩⟩
theorem Try.ty86 : TyOk Try.prog 86 ⟨.func, 1, 8, .nilfn, false, false⟩ := ⟨⟨_, Try.underlying86, rfl, fun h => (Bool.noConfusion h)⟩, ⟨_, _, Try.type86, rfl, rfl, rfl, rfl, rfl, rfl⟩⟩
theorem Try.ty87 : TyOk Try.prog 87 ⟨.map 9 9, 1, 8, .nilmap, false, false⟩ := ⟨⟨_, Try.underlying87, rfl, fun h => (Bool.noConfusion h)⟩, ⟨_, _, Try.type87, rfl, rfl, rfl, rfl, rfl, rfl⟩⟩
theorem Try.ty88 : TyOk Try.prog 88 ⟨.struct [(87, 0)], 1, 8, .agg [.nilmap], false, false⟩ := ⟨⟨_, Try.underlying88, rfl, fun h => (Bool.noConfusion h)⟩, ⟨_, _, Try.type88, rfl, rfl, rfl, rfl, rfl, rfl⟩⟩
theorem Try.ty89 : TyOk Try.prog 89 ⟨.struct [(87, 0)], 1, 8, .agg [.nilmap], false, false⟩ := ⟨⟨_, Try.underlying89, rfl, fun h => (Bool.noConfusion h)⟩, ⟨_, _, Try.type89, rfl, rfl, rfl, rfl, rfl, rfl⟩⟩
theorem Try.ty90 : TyOk Try.prog 90 ⟨.func, 1, 8, .nilfn, false, false⟩ := ⟨⟨_, Try.underlying90, rfl, fun h => (Bool.noConfusion h)⟩, ⟨_, _, Try.type90, rfl, rfl, rfl, rfl, rfl, rfl⟩⟩
theorem Try.ty92 : TyOk Try.prog 92 ⟨.func, 1, 8, .nilfn, false, false⟩ := ⟨⟨_, Try.underlying92, rfl, fun h => (Bool.noConfusion h)⟩, ⟨_, _, Try.type92, rfl, rfl, rfl, rfl, rfl, rfl⟩⟩
theorem Try.ty93 : TyOk Try.prog 93 ⟨.func, 1, 8, .nilfn, false, false⟩ := ⟨⟨_, Try.underlying93, rfl, fun h => (Bool.noConfusion h)⟩, ⟨_, _, Try.type93, rfl, rfl, rfl, rfl, rfl, rfl⟩⟩
theorem Try.ty94 : TyOk Try.prog 94 ⟨.func, 1, 8, .nilfn, false, false⟩ := ⟨⟨_, Try.underlying94, rfl, fun h => (Bool.noConfusion h)⟩, ⟨_, _, Try.type94, rfl, rfl, rfl, rfl, rfl, rfl⟩⟩
theorem Try.ty95 : TyOk Try.prog 95 ⟨.struct [(9, 0), (9, 1)], 2, 32, .agg [.str [], .str []], true, true⟩ := ⟨⟨_, Try.underlying95, rfl, fun _ => ⟨rfl, by kernel_rfl, by kernel_rfl⟩⟩, ⟨_, _, Try.type95, rfl, rfl, rfl, rfl, rfl, rfl⟩⟩
theorem Try.ty96 : TyOk Try.prog 96 ⟨.struct [(9, 0), (9, 1)], 2, 32, .agg [.str [], .str []], true, true⟩ := ⟨⟨_, Try.underlying96, rfl, fun _ => ⟨rfl, by kernel_rfl, by kernel_rfl⟩⟩, ⟨_, _, Try.type96, rfl, rfl, rfl, rfl, rfl, rfl⟩⟩
theorem Try.ty97 : TyOk Try.prog 97 ⟨.func, 1, 8, .nilfn, false, false⟩ := ⟨⟨_, Try.underlying97, rfl, fun h => (Bool.noConfusion h)⟩, ⟨_, _, Try.type97, rfl, rfl, rfl, rfl, rfl, rfl⟩⟩
theorem Try.ty98 : TyOk Try.prog 98 ⟨.func, 1, 8, .nilfn, false, false⟩ := ⟨⟨_, Try.underlying98, rfl, fun h => (Bool.noConfusion h)⟩, ⟨_, _, Try.type98, rfl, rfl, rfl, rfl, rfl, rfl⟩⟩
theorem Try.ty99 : TyOk Try.prog 99 ⟨.func, 1, 8, .nilfn, false, false⟩ := ⟨⟨_, Try.underlying99, rfl, fun h => (Bool.noConfusion h)⟩, ⟨_, _, Try.type99, rfl, rfl, rfl, rfl, rfl, rfl⟩⟩
theorem Try.ty100 : TyOk Try.prog 100 ⟨.func, 1, 8, .nilfn, false, false⟩ := ⟨⟨_, Try.underlying100, rfl, fun h => (Bool.noConfusion h)⟩, ⟨_, _, Try.type100, rfl, rfl, rfl, rfl, rfl, rfl⟩⟩
theorem Try.ty101 : TyOk Try.prog 101 ⟨.slice 5, 1, 24, .nils, false, false⟩ := ⟨⟨_, Try.underlying101, rfl, fun h => (Bool.noConfusion h)⟩, ⟨_, _, Try.type101, rfl, rfl, rfl, rfl, rfl, rfl⟩⟩
theorem Try.ty102 : TyOk Try.prog 102 ⟨.func, 1, 8, .nilfn, false, false⟩ := ⟨⟨_, Try.underlying102, rfl, fun h => (Bool.noConfusion h)⟩, ⟨_, _, Try.type102, rfl, rfl, rfl, rfl, rfl, rfl⟩⟩
theorem Try.ty103 : TyOk Try.prog 103 ⟨.func, 1, 8, .nilfn, false, false⟩ := ⟨⟨_, Try.underlying103, rfl, fun h => (Bool.noConfusion h)⟩, ⟨_, _, Try.type103, rfl, rfl, rfl, rfl, rfl, rfl⟩⟩
theorem Try.ty104 : TyOk Try.prog 104 ⟨.func, 1, 8, .nilfn, false, false⟩ := ⟨⟨_, Try.underlying104, rfl, fun h => (Bool.noConfusion h)⟩, ⟨_, _, Try.type104, rfl, rfl, rfl, rfl, rfl, rfl⟩⟩
theorem Try.ty105 : TyOk Try.prog 105 ⟨.func, 1, 8, .nilfn, false, false⟩ := ⟨⟨_, Try.underlying105, rfl, fun h => (Bool.noConfusion h)⟩, ⟨_, _, Try.type105, rfl, rfl, rfl, rfl, rfl, rfl⟩⟩
theorem Try.ty106 : TyOk Try.prog 106 ⟨.func, 1, 8, .nilfn, false, false⟩ := ⟨⟨_, Try.underlying106, rfl, fun h => (Bool.noConfusion h)⟩, ⟨_, _, Try.type106, rfl, rfl, rfl, rfl, rfl, rfl⟩⟩
theorem Try.ty107 : TyOk Try.prog 107 ⟨.func, 1, 8, .nilfn, false, false⟩ := ⟨⟨_, Try.underlying107, rfl, fun h => (Bool.noConfusion h)⟩, ⟨_, _, Try.type107, rfl, rfl, rfl, rfl, rfl, rfl⟩⟩
theorem Try.ty108 : TyOk Try.prog 108 ⟨.func, 1, 8, .nilfn, false, false⟩ := ⟨⟨_, Try.underlying108, rfl, fun h => (Bool.noConfusion h)⟩, ⟨_, _, Try.type108, rfl, rfl, rfl, rfl, rfl, rfl⟩⟩
theorem Try.ty109 : TyOk Try.prog 109 ⟨.func, 1, 8, .nilfn, false, false⟩ := ⟨⟨_, Try.underlying109, rfl, fun h => (Bool.noConfusion h)⟩, ⟨_, _, Try.type109, rfl, rfl, rfl, rfl, rfl, rfl⟩⟩
theorem Try.ty110 : TyOk Try.prog 110 ⟨.func, 1, 8, .nilfn, false, false⟩ := ⟨⟨_, Try.underlying110, rfl, fun h => (Bool.noConfusion h)⟩, ⟨_, _, Try.type110, rfl, rfl, rfl, rfl, rfl, rfl⟩⟩
theorem Try.ty111 : TyOk Try.prog 111 ⟨.func, 1, 8, .nilfn, false, false⟩ := ⟨⟨_, Try.underlying111, rfl, fun h => (Bool.noConfusion h)⟩, ⟨_, _, Try.type111, rfl, rfl, rfl, rfl, rfl, rfl⟩⟩
theorem Try.ty112 : TyOk Try.prog 112 ⟨.func, 1, 8, .nilfn, false, false⟩ := ⟨⟨_, Try.underlying112, rfl, fun h => (Bool.noConfusion h)⟩, ⟨_, _, Try.type112, rfl, rfl, rfl, rfl, rfl, rfl⟩⟩
theorem Try.ty114 : TyOk Try.prog 114 ⟨.array 2 9, 2, 32, .agg [.str [], .str []], true, false⟩ := ⟨⟨_, Try.underlying114, rfl, fun h => (Bool.noConfusion h)⟩, ⟨_, _, Try.type114, rfl, rfl, rfl, rfl, rfl, rfl⟩⟩
theorem Try.ty115 : TyOk Try.prog 115 ⟨.array 2 4, 2, 2, .agg [.bool false, .bool false], true, false⟩ := ⟨⟨_, Try.underlying115, rfl, fun h => (Bool.noConfusion h)⟩, ⟨_, _, Try.type115, rfl, rfl, rfl, rfl, rfl, rfl⟩⟩
theorem Try.ty116 : TyOk Try.prog 116 ⟨.func, 1, 8, .nilfn, false, false⟩ := ⟨⟨_, Try.underlying116, rfl, fun h => (Bool.noConfusion h)⟩, ⟨_, _, Try.type116, rfl, rfl, rfl, rfl, rfl, rfl⟩⟩
theorem Try.ty117 : TyOk Try.prog 117 ⟨.func, 1, 8, .nilfn, false, false⟩ := ⟨⟨_, Try.underlying117, rfl, fun h => (Bool.noConfusion h)⟩, ⟨_, _, Try.type117, rfl, rfl, rfl, rfl, rfl, rfl⟩⟩
theorem Try.ty118 : TyOk Try.prog 118 ⟨.func, 1, 8, .nilfn, false, false⟩ := ⟨⟨_, Try.underlying118, rfl, fun h => (Bool.noConfusion h)⟩, ⟨_, _, Try.type118, rfl, rfl, rfl, rfl, rfl, rfl⟩⟩
theorem Try.ty119 : TyOk Try.prog 119 ⟨.func, 1, 8, .nilfn, false, false⟩ := ⟨⟨_, Try.underlying119, rfl, fun h => (Bool.noConfusion h)⟩, ⟨_, _, Try.type119, rfl, rfl, rfl, rfl, rfl, rfl⟩⟩
theorem Try.ty120 : TyOk Try.prog 120 ⟨.func, 1, 8, .nilfn, false, false⟩ := ⟨⟨_, Try.underlying120, rfl, fun h => (Bool.noConfusion h)⟩, ⟨_, _, Try.type120, rfl, rfl, rfl, rfl, rfl, rfl⟩⟩
theorem Try.ty121 : TyOk Try.prog 121 ⟨.func, 1, 8, .nilfn, false, false⟩ := ⟨⟨_, Try.underlying121, rfl, fun h => (Bool.noConfusion h)⟩, ⟨_, _, Try.type121, rfl, rfl, rfl, rfl, rfl, rfl⟩⟩
theorem Try.ty122 : TyOk Try.prog 122 ⟨.func, 1, 8, .nilfn, false, false⟩ := ⟨⟨_, Try.underlying122, rfl, fun h => (Bool.noConfusion h)⟩, ⟨_, _, Try.type122, rfl, rfl, rfl, rfl, rfl, rfl⟩⟩
theorem Try.ty123 : TyOk Try.prog 123 ⟨.slice 125, 1, 24, .nils, false, false⟩ := ⟨⟨_, Try.underlying123, rfl, fun h => (Bool.noConfusion h)⟩, ⟨_, _, Try.type123, rfl, rfl, rfl, rfl, rfl, rfl⟩⟩
theorem Try.ty124 : TyOk Try.prog 124 ⟨.struct [(3, 0), (3, 1)], 2, 16, .agg [.int .i64 0, .int .i64 0], true, true⟩ := ⟨⟨_, Try.underlying124, rfl, fun _ => ⟨rfl, by kernel_rfl, by kernel_rfl⟩⟩, ⟨_, _, Try.type124, rfl, rfl, rfl, rfl, rfl, rfl⟩⟩
theorem Try.ty125 : TyOk Try.prog 125 ⟨.struct [(3, 0), (3, 1)], 2, 16, .agg [.int .i64 0, .int .i64 0], true, true⟩ := ⟨⟨_, Try.underlying125, rfl, fun _ => ⟨rfl, by kernel_rfl, by kernel_rfl⟩⟩, ⟨_, _, Try.type125, rfl, rfl, rfl, rfl, rfl, rfl⟩⟩
theorem Try.ty126 : TyOk Try.prog 126 ⟨.ptr 128, 1, 8, .nilp, true, false⟩ := ⟨⟨_, Try.underlying126, rfl, fun h => (Bool.noConfusion h)⟩, ⟨_, _, Try.type126, rfl, rfl, rfl, rfl, rfl, rfl⟩⟩
theorem Try.ty127 : TyOk Try.prog 127 ⟨.struct [(126, 0), (101, 1)], 2, 32, .agg [.nilp, .nils], false, false⟩ := ⟨⟨_, Try.underlying127, rfl, fun h => (Bool.noConfusion h)⟩, ⟨_, _, Try.type127, rfl, rfl, rfl, rfl, rfl, rfl⟩⟩
theorem Try.ty128 : TyOk Try.prog 128 ⟨.struct [(126, 0), (101, 1)], 2, 32, .agg [.nilp, .nils], false, false⟩ := ⟨⟨_, Try.underlying128, rfl, fun h => (Bool.noConfusion h)⟩, ⟨_, _, Try.type128, rfl, rfl, rfl, rfl, rfl, rfl⟩⟩
theorem Try.ty129 : TyOk Try.prog 129 ⟨.func, 1, 8, .nilfn, false, false⟩ := ⟨⟨_, Try.underlying129, rfl, fun h => (Bool.noConfusion h)⟩, ⟨_, _, Try.type129, rfl, rfl, rfl, rfl, rfl, rfl⟩⟩
theorem Try.ty130 : TyOk Try.prog 130 ⟨.iface false, 1, 16, .nili, true, false⟩ := ⟨⟨_, Try.underlying130, rfl, fun h => (Bool.noConfusion h)⟩, ⟨_, _, Try.type130, rfl, rfl, rfl, rfl, rfl, rfl⟩⟩
theorem Try.ty131 : TyOk Try.prog 131 ⟨.iface false, 1, 16, .nili, true, false⟩ := ⟨⟨_, Try.underlying131, rfl, fun h => (Bool.noConfusion h)⟩, ⟨_, _, Try.type131, rfl, rfl, rfl, rfl, rfl, rfl⟩⟩
theorem Try.ty133 : TyOk Try.prog 133 ⟨.func, 1, 8, .nilfn, false, false⟩ := ⟨⟨_, Try.underlying133, rfl, fun h => (Bool.noConfusion h)⟩, ⟨_, _, Try.type133, rfl, rfl, rfl, rfl, rfl, rfl⟩⟩
theorem Try.ty134 : TyOk Try.prog 134 ⟨.func, 1, 8, .nilfn, false, false⟩ := ⟨⟨_, Try.underlying134, rfl, fun h => (Bool.noConfusion h)⟩, ⟨_, _, Try.type134, rfl, rfl, rfl, rfl, rfl, rfl⟩⟩
theorem Try.ty135 : TyOk Try.prog 135 ⟨.func, 1, 8, .nilfn, false, false⟩ := ⟨⟨_, Try.underlying135, rfl, fun h => (Bool.noConfusion h)⟩, ⟨_, _, Try.type135, rfl, rfl, rfl, rfl, rfl, rfl⟩⟩
theorem Try.ty136 : TyOk Try.prog 136 ⟨.array 256 5, 256, 256, .agg (List.replicate 256 (.int .u8 0)), true, false⟩ := ⟨⟨_, Try.underlying136, rfl, fun h => (Bool.noConfusion h)⟩, ⟨_, _, Try.type136, rfl, rfl, rfl, rfl, by kernel_rfl, by kernel_rfl⟩⟩
theorem Try.ty137 : TyOk Try.prog 137 ⟨.func, 1, 8, .nilfn, false, false⟩ := ⟨⟨_, Try.underlying137, rfl, fun h => (Bool.noConfusion h)⟩, ⟨_, _, Try.type137, rfl, rfl, rfl, rfl, rfl, rfl⟩⟩
theorem Try.ty138 : TyOk Try.prog 138 ⟨.func, 1, 8, .nilfn, false, false⟩ := ⟨⟨_, Try.underlying138, rfl, fun h => (Bool.noConfusion h)⟩, ⟨_, _, Try.type138, rfl, rfl, rfl, rfl, rfl, rfl⟩⟩
theorem Try.ty139 : TyOk Try.prog 139 ⟨.func, 1, 8, .nilfn, false, false⟩ := ⟨⟨_, Try.underlying139, rfl, fun h => (Bool.noConfusion h)⟩, ⟨_, _, Try.type139, rfl, rfl, rfl, rfl, rfl, rfl⟩⟩
theorem Try.ty140 : TyOk Try.prog 140 ⟨.int .u64, 1, 8, .int .u64 0, true, false⟩ := ⟨⟨_, Try.underlying140, rfl, fun h => (Bool.noConfusion h)⟩, ⟨_, _, Try.type140, rfl, rfl, rfl, rfl, rfl, rfl⟩⟩
theorem Try.ty141 : TyOk Try.prog 141 ⟨.func, 1, 8, .nilfn, false, false⟩ := ⟨⟨_, Try.underlying141, rfl, fun h => (Bool.noConfusion h)⟩, ⟨_, _, Try.type141, rfl, rfl, rfl, rfl, rfl, rfl⟩⟩
theorem Try.ty142 : TyOk Try.prog 142 ⟨.struct [(3, 0), (3, 1)], 2, 16, .agg [.int .i64 0, .int .i64 0], true, true⟩ := ⟨⟨_, Try.underlying142, rfl, fun _ => ⟨rfl, by kernel_rfl, by kernel_rfl⟩⟩, ⟨_, _, Try.type142, rfl, rfl, rfl, rfl, rfl, rfl⟩⟩
theorem Try.ty143 : TyOk Try.prog 143 ⟨.struct [(3, 0), (3, 1)], 2, 16, .agg [.int .i64 0, .int .i64 0], true, true⟩ := ⟨⟨_, Try.underlying143, rfl, fun _ => ⟨rfl, by kernel_rfl, by kernel_rfl⟩⟩, ⟨_, _, Try.type143, rfl, rfl, rfl, rfl, rfl, rfl⟩⟩
theorem Try.ty144 : TyOk Try.prog 144 ⟨.func, 1, 8, .nilfn, false, false⟩ := ⟨⟨_, Try.underlying144, rfl, fun h => (Bool.noConfusion h)⟩, ⟨_, _, Try.type144, rfl, rfl, rfl, rfl, rfl, rfl⟩⟩
theorem Try.ty145 : TyOk Try.prog 145 ⟨.func, 1, 8, .nilfn, false, false⟩ := ⟨⟨_, Try.underlying145, rfl, fun h => (Bool.noConfusion h)⟩, ⟨_, _, Try.type145, rfl, rfl, rfl, rfl, rfl, rfl⟩⟩
theorem Try.ty146 : TyOk Try.prog 146 ⟨.array 6 9, 6, 96, .agg [.str [], .str [], .str [], .str [], .str [], .str []], true, false⟩ := ⟨⟨_, Try.underlying146, rfl, fun h => (Bool.noConfusion h)⟩, ⟨_, _, Try.type146, rfl, rfl, rfl, rfl, rfl, rfl⟩⟩
theorem Try.ty147 : TyOk Try.prog 147 ⟨.array 6 3, 6, 48, .agg [.int .i64 0, .int .i64 0, .int .i64 0, .int .i64 0, .int .i64 0, .int .i64 0], true, false⟩ := ⟨⟨_, Try.underlying147, rfl, fun h => (Bool.noConfusion h)⟩, ⟨_, _, Try.type147, rfl, rfl, rfl, rfl, rfl, rfl⟩⟩
theorem Try.ty148 : TyOk Try.prog 148 ⟨.ptr 5, 1, 8, .nilp, true, false⟩ := ⟨⟨_, Try.underlying148, rfl, fun h => (Bool.noConfusion h)⟩, ⟨_, _, Try.type148, rfl, rfl, rfl, rfl, rfl, rfl⟩⟩
theorem Try.ty149 : TyOk Try.prog 149 ⟨.func, 1, 8, .nilfn, false, false⟩ := ⟨⟨_, Try.underlying149, rfl, fun h => (Bool.noConfusion h)⟩, ⟨_, _, Try.type149, rfl, rfl, rfl, rfl, rfl, rfl⟩⟩
theorem Try.ty150 : TyOk Try.prog 150 ⟨.func, 1, 8, .nilfn, false, false⟩ := ⟨⟨_, Try.underlying150, rfl, fun h => (Bool.noConfusion h)⟩, ⟨_, _, Try.type150, rfl, rfl, rfl, rfl, rfl, rfl⟩⟩
theorem Try.ty151 : TyOk Try.prog 151 ⟨.slice 38, 1, 24, .nils, false, false⟩ := ⟨⟨_, Try.underlying151, rfl, fun h => (Bool.noConfusion h)⟩, ⟨_, _, Try.type151, rfl, rfl, rfl, rfl, rfl, rfl⟩⟩
theorem Try.ty153 : TyOk Try.prog 153 ⟨.func, 1, 8, .nilfn, false, false⟩ := ⟨⟨_, Try.underlying153, rfl, fun h => (Bool.noConfusion h)⟩, ⟨_, _, Try.type153, rfl, rfl, rfl, rfl, rfl, rfl⟩⟩
theorem Try.ty154 : TyOk Try.prog 154 ⟨.func, 1, 8, .nilfn, false, false⟩ := ⟨⟨_, Try.underlying154, rfl, fun h => (Bool.noConfusion h)⟩, ⟨_, _, Try.type154, rfl, rfl, rfl, rfl, rfl, rfl⟩⟩
theorem Try.ty155 : TyOk Try.prog 155 ⟨.func, 1, 8, .nilfn, false, false⟩ := ⟨⟨_, Try.underlying155, rfl, fun h => (Bool.noConfusion h)⟩, ⟨_, _, Try.type155, rfl, rfl, rfl, rfl, rfl, rfl⟩⟩
theorem Try.ty156 : TyOk Try.prog 156 ⟨.func, 1, 8, .nilfn, false, false⟩ := ⟨⟨_, Try.underlying156, rfl, fun h => (Bool.noConfusion h)⟩, ⟨_, _, Try.type156, rfl, rfl, rfl, rfl, rfl, rfl⟩⟩
theorem Try.ty157 : TyOk Try.prog 157 ⟨.struct [(17, 0), (17, 1), (17, 2), (9, 3)], 4, 40, .agg [.nilp, .nilp, .nilp, .str []], true, false⟩ := ⟨⟨_, Try.underlying157, rfl, fun h => (Bool.noConfusion h)⟩, ⟨_, _, Try.type157, rfl, rfl, rfl, rfl, rfl, rfl⟩⟩
theorem Try.ty158 : TyOk Try.prog 158 ⟨.struct [(17, 0), (17, 1), (17, 2), (9, 3)], 4, 40, .agg [.nilp, .nilp, .nilp, .str []], true, false⟩ := ⟨⟨_, Try.underlying158, rfl, fun h => (Bool.noConfusion h)⟩, ⟨_, _, Try.type158, rfl, rfl, rfl, rfl, rfl, rfl⟩⟩
theorem Try.ty159 : TyOk Try.prog 159 ⟨.array 0 16, 0, 0, .agg [], true, false⟩ := ⟨⟨_, Try.underlying159, rfl, fun h => (Bool.noConfusion h)⟩, ⟨_, _, Try.type159, rfl, rfl, rfl, rfl, rfl, rfl⟩⟩
theorem Try.ty160 : TyOk Try.prog 160 ⟨.struct [(159, 0)], 0, 0, .agg [], true, false⟩ := ⟨⟨_, Try.underlying160, rfl, fun h => (Bool.noConfusion h)⟩, ⟨_, _, Try.type160, rfl, rfl, rfl, rfl, rfl, rfl⟩⟩
theorem Try.ty161 : TyOk Try.prog 161 ⟨.struct [(159, 0)], 0, 0, .agg [], true, false⟩ := ⟨⟨_, Try.underlying161, rfl, fun h => (Bool.noConfusion h)⟩, ⟨_, _, Try.type161, rfl, rfl, rfl, rfl, rfl, rfl⟩⟩
theorem Try.ty162 : TyOk Try.prog 162 ⟨.func, 1, 8, .nilfn, false, false⟩ := ⟨⟨_, Try.underlying162, rfl, fun h => (Bool.noConfusion h)⟩, ⟨_, _, Try.type162, rfl, rfl, rfl, rfl, rfl, rfl⟩⟩
theorem Try.ty163 : TyOk Try.prog 163 ⟨.int .u8, 1, 1, .int .u8 0, true, false⟩ := ⟨⟨_, Try.underlying163, rfl, fun h => (Bool.noConfusion h)⟩, ⟨_, _, Try.type163, rfl, rfl, rfl, rfl, rfl, rfl⟩⟩
theorem Try.ty164 : TyOk Try.prog 164 ⟨.int .u8, 1, 1, .int .u8 0, true, false⟩ := ⟨⟨_, Try.underlying164, rfl, fun h => (Bool.noConfusion h)⟩, ⟨_, _, Try.type164, rfl, rfl, rfl, rfl, rfl, rfl⟩⟩
theorem Try.ty165 : TyOk Try.prog 165 ⟨.func, 1, 8, .nilfn, false, false⟩ := ⟨⟨_, Try.underlying165, rfl, fun h => (Bool.noConfusion h)⟩, ⟨_, _, Try.type165, rfl, rfl, rfl, rfl, rfl, rfl⟩⟩
theorem Try.ty166 : TyOk Try.prog 166 ⟨.int .i32, 1, 4, .int .i32 0, true, false⟩ := ⟨⟨_, Try.underlying166, rfl, fun h => (Bool.noConfusion h)⟩, ⟨_, _, Try.type166, rfl, rfl, rfl, rfl, rfl, rfl⟩⟩
theorem Try.ty167 : TyOk Try.prog 167 ⟨.int .i32, 1, 4, .int .i32 0, true, false⟩ := ⟨⟨_, Try.underlying167, rfl, fun h => (Bool.noConfusion h)⟩, ⟨_, _, Try.type167, rfl, rfl, rfl, rfl, rfl, rfl⟩⟩
theorem Try.ty168 : TyOk Try.prog 168 ⟨.struct [(12, 0), (12, 1), (52, 2), (163, 3), (5, 4), (5, 5), (164, 6), (165, 7), (148, 8), (166, 9), (167, 10)], 11, 48, .agg [.int .u64 0, .int .u64 0, .int .u32 0, .int .u8 0, .int .u8 0, .int .u8 0, .int .u8 0, .nilfn, .nilp, .int .i32 0, .int .i32 0], false, false⟩ := ⟨⟨_, Try.underlying168, rfl, fun h => (Bool.noConfusion h)⟩, ⟨_, _, Try.type168, rfl, rfl, rfl, rfl, rfl, rfl⟩⟩
theorem Try.ty169 : TyOk Try.prog 169 ⟨.struct [(12, 0), (12, 1), (52, 2), (163, 3), (5, 4), (5, 5), (164, 6), (165, 7), (148, 8), (166, 9), (167, 10)], 11, 48, .agg [.int .u64 0, .int .u64 0, .int .u32 0, .int .u8 0, .int .u8 0, .int .u8 0, .int .u8 0, .nilfn, .nilp, .int .i32 0, .int .i32 0], false, false⟩ := ⟨⟨_, Try.underlying169, rfl, fun h => (Bool.noConfusion h)⟩, ⟨_, _, Try.type169, rfl, rfl, rfl, rfl, rfl, rfl⟩⟩
def Try.T : Tab := tabOf Try.tyL
theorem Try.tabOk : TabOk Try.prog Try.T := TabOk.of ⟨Try.ty1, Try.ty2, Try.ty3, Try.ty4, Try.ty5, Try.ty6, Try.ty7, Try.ty8, Try.ty9, Try.ty10, Try.ty11, Try.ty12, Try.ty13, Try.ty14, Try.ty15, Try.ty16, Try.ty17, Try.ty18, Try.ty19, Try.ty20, Try.ty21, Try.ty22, Try.ty23, Try.ty24, Try.ty25, Try.ty26, Try.ty27, Try.ty28, Try.ty29, Try.ty30, Try.ty31, Try.ty32, Try.ty33, Try.ty34, Try.ty35, Try.ty36, Try.ty37, Try.ty38, Try.ty39, Try.ty40, Try.ty41, Try.ty42, Try.ty43, Try.ty44, Try.ty45, Try.ty46, Try.ty47, Try.ty48, Try.ty49, Try.ty50, Try.ty51, Try.ty52, Try.ty53, Try.ty54, Try.ty55, Try.ty56, Try.ty57, Try.ty58, Try.ty59, Try.ty60, Try.ty62, Try.ty64, Try.ty65, Try.ty66, Try.ty67, Try.ty68, Try.ty69, Try.ty70, Try.ty71, Try.ty72, Try.ty73, Try.ty75, Try.ty76, Try.ty77, Try.ty78, Try.ty79, Try.ty80, Try.ty81, Try.ty82, Try.ty83, Try.ty84, Try.ty85, Try.ty86, Try.ty87, Try.ty88, Try.ty89, Try.ty90, Try.ty92, Try.ty93, Try.ty94, Try.ty95, Try.ty96, Try.ty97, Try.ty98, Try.ty99, Try.ty100, Try.ty101, Try.ty102, Try.ty103, Try.ty104, Try.ty105, Try.ty106, Try.ty107, Try.ty108, Try.ty109, Try.ty110, Try.ty111, Try.ty112, Try.ty114, Try.ty115, Try.ty116, Try.ty117, Try.ty118, Try.ty119, Try.ty120, Try.ty121, Try.ty122, Try.ty123, Try.ty124, Try.ty125, Try.ty126, Try.ty127, Try.ty128, Try.ty129, Try.ty130, Try.ty131, Try.ty133, Try.ty134, Try.ty135, Try.ty136, Try.ty137, Try.ty138, Try.ty139, Try.ty140, Try.ty141, Try.ty142, Try.ty143, Try.ty144, Try.ty145, Try.ty146, Try.ty147, Try.ty148, Try.ty149, Try.ty150, Try.ty151, Try.ty153, Try.ty154, Try.ty155, Try.ty156, Try.ty157, Try.ty158, Try.ty159, Try.ty160, Try.ty161, Try.ty162, Try.ty163, Try.ty164, Try.ty165, Try.ty166, Try.ty167, Try.ty168, Try.ty169, trivial⟩
end Go.Proofs
end
section
/- The program's data, and that what comes in reads as such. -/
namespace Go.Proofs
open Go.Pm

abbrev Str := List UInt8
structure Obj where
  id : Str
  kind : Int
  x : Int
  y : Int
  refs : List Str
  tags : List (Str × Str)

instance : Inhabited Obj := ⟨⟨[], 0, 0, 0, [], []⟩⟩

def encStrs (L : List Str) : D := .tab 1 L.length fun i => .str (L.getD i [])
def encTag (p : Str × Str) : D := .agg [.str p.1, .str p.2]
def encTags (L : List (Str × Str)) : D := .tab 2 L.length fun i => encTag (L.getD i ([], []))
def encObj (o : Obj) : D := .agg [.str o.id, .int .i64 o.kind, .int .i64 o.x, .int .i64 o.y, encStrs o.refs, encTags o.tags]
def encObjs (L : List Obj) : D := .tab 6 L.length fun i => encObj (L.getD i default)
def encMap (L : List Obj) : D := .agg [encObjs L]

def goodStrs (L : List Str) : Prop := L.length ≤ maxLen ∧ ∀ s ∈ L, s.length ≤ maxLen
def goodTags (L : List (Str × Str)) : Prop := L.length ≤ maxLen ∧ ∀ p ∈ L, p.1.length ≤ maxLen ∧ p.2.length ≤ maxLen
def goodObj (o : Obj) : Prop := o.id.length ≤ maxLen ∧ rng .i64 o.kind ∧ rng .i64 o.x ∧ rng .i64 o.y ∧ goodStrs o.refs ∧ goodTags o.tags
def goodObjs (L : List Obj) : Prop := L.length ≤ maxLen ∧ ∀ o ∈ L, goodObj o

section
variable (W : World)
theorem Try.readStr : Reads Try.prog W 9 D.str fun s => s.length ≤ maxLen := reads_str Try.underlying9
theorem Try.readInt : Reads Try.prog W 3 (D.int .i64) fun n => rng .i64 n := reads_int Try.underlying3
theorem Try.readStrs : Reads Try.prog W 39 encStrs goodStrs :=
  reads_slice Try.underlying39 [] (Try.readStr W) (fun _ => rfl) (by kernel_rfl)
theorem Try.readTag : Reads Try.prog W 96 encTag (fun p => p.1.length ≤ maxLen ∧ p.2.length ≤ maxLen) :=
  Reads.map (reads_struct (n := 2) Try.underlying96 (readsF_cons (sz := 1) (Try.readStr W) (fun _ => rfl) (readsF_cons (sz := 1) (Try.readStr W) (fun _ => rfl) readsF_nil rfl) rfl) (by kernel_rfl)) _ _
    fun ⟨a, b, _⟩ ⟨h1, h2, _⟩ => ⟨(a, b), ⟨h1, h2⟩, rfl⟩
theorem Try.readTags : Reads Try.prog W 40 encTags goodTags :=
  reads_slice Try.underlying40 ([], []) (Try.readTag W) (fun _ => rfl) (by kernel_rfl)
theorem Try.readPoint : Reads Try.prog W 38 (fun p : Int × Int => .agg [.int .i64 p.1, .int .i64 p.2]) (fun p => rng .i64 p.1 ∧ rng .i64 p.2) :=
  Reads.map (reads_struct (n := 2) Try.underlying38 (readsF_cons (sz := 1) (Try.readInt W) (fun _ => rfl) (readsF_cons (sz := 1) (Try.readInt W) (fun _ => rfl) readsF_nil rfl) rfl) (by kernel_rfl)) _ _
    fun ⟨a, b, _⟩ ⟨h1, h2, _⟩ => ⟨(a, b), ⟨h1, h2⟩, rfl⟩
theorem Try.readObj : Reads Try.prog W 42 encObj goodObj :=
  Reads.map (reads_struct (n := 6) Try.underlying42 (readsF_cons (sz := 1) (Try.readStr W) (fun _ => rfl) (readsF_cons (sz := 1) (Try.readInt W) (fun _ => rfl)
    (readsF_cons (sz := 2) (Try.readPoint W) (fun _ => rfl) (readsF_cons (sz := 1) (Try.readStrs W) (fun _ => rfl) (readsF_cons (sz := 1) (Try.readTags W) (fun _ => rfl) readsF_nil rfl) rfl) rfl) rfl) rfl) (by kernel_rfl)) _ _
    fun ⟨a, b, c, d, e, _⟩ ⟨h1, h2, h3, h4, h5, _⟩ => ⟨⟨a, b, c.1, c.2, d, e⟩, ⟨h1, h2, h3.1, h3.2, h4, h5⟩, rfl⟩
theorem Try.readObjs : Reads Try.prog W 22 encObjs goodObjs :=
  reads_slice Try.underlying22 default (Try.readObj W) (fun _ => rfl) (by kernel_rfl)
theorem Try.readMap : Reads Try.prog W 24 encMap goodObjs :=
  Reads.map (reads_struct (n := 1) Try.underlying24 (readsF_cons (sz := 1) (Try.readObjs W) (fun _ => rfl) readsF_nil rfl) (by kernel_rfl)) _ _
    fun ⟨a, _⟩ ⟨h1, _⟩ => ⟨a, h1, rfl⟩
end
end Go.Proofs
end
section
/- Contracts: the small searches. -/
namespace Go.Proofs
open Go.Pm
set_option maxRecDepth 100000
theorem Try.mixed : Try.prog.follows .mixedOrders = true := by kernel_rfl

def idx (L : List Str) (v : Str) : Int := match L.findIdx? (fun s => v == s) with
  | some i => i
  | none => -1

theorem idx_found {L : List Str} {v : Str} {i : Nat} (hi : i < L.length) (hv : v = L.getD i []) (h : ∀ j, j < i → v ≠ L.getD j []) : idx L v = i := by
  have : L.findIdx? (fun s => v == s) = some i := by
    rw [List.findIdx?_eq_some_iff_getElem]
    refine ⟨hi, by simp [hv, List.getD_eq_getElem?_getD, hi], fun j hj => ?_⟩
    have := h j hj
    have hj' : j < L.length := by omega
    simpa [List.getD_eq_getElem?_getD, hj'] using this
  simp [idx, this]
theorem idx_none {L : List Str} {v : Str} (h : ∀ j, j < L.length → v ≠ L.getD j []) : idx L v = -1 := by
  have : L.findIdx? (fun s => v == s) = none := by
    rw [List.findIdx?_eq_none_iff]
    intro x hx
    obtain ⟨j, hj, rfl⟩ := List.mem_iff_getElem.1 hx
    have := h j hj
    simpa [List.getD_eq_getElem?_getD, hj] using this
  simp [idx, this]

theorem c77 (L : List Str) (v : Str) : PCall Try.prog 77 [.d (encStrs L), .d (.str v)] fun x => x = .d (.int .i64 (idx L v)) := by
  refine PCall.intro Try.tabOk Try.f77 _ Try.func77 rfl (by decide) rfl fun z => ?_
  repeat' first
    | (with_reducible refine AW.seq ?_)
    | ((with_reducible refine AW.region Try.tabOk ?_); (conv => whnf))
    | ((with_reducible refine AW.draw Try.tabOk Try.mixed ?_ ?_); (focus rfl); (conv => whnf))
    | ((with_reducible refine AW.ret ?_); (conv => whnf))
    | ((with_reducible refine AW.block ?_))
    | (with_reducible refine AW.scope ?_)
    | ((with_reducible refine AW.label ?_); (conv => whnf))
    | ((with_reducible refine AW.exit ?_); (conv => whnf))
    | ((with_reducible refine AW.skip ?_); (conv => whnf))
    | ((with_reducible refine AW.cond ?_); (conv => whnf))
    | ((with_reducible refine Own2.data ?_); (conv => whnf))
    | ((with_reducible refine ACall.id ?_); (refine PCall.call (by first | fail) rfl ?_); (intro x hx; first | subst hx | (obtain ⟨l_, rfl, hl_⟩ := hx.out)); (conv => whnf))
    | ((with_reducible refine ACall.freeze rfl ?_); (conv => whnf))
    | (refine ⟨true, _, rfl, ?_⟩; (conv => whnf))
    | (refine ⟨false, .nilp, rfl, ?_⟩; (conv => whnf))
    | (refine ⟨_, _, by first | fail, ?_⟩; (conv => whnf))
    | ((with_reducible apply Or.inl); (refine ⟨rfl, rfl, ?_⟩); (conv => whnf))
    | (refine ⟨_, ⟨rfl, rfl⟩, ?_⟩; (conv => whnf))
    | (refine ⟨_, ⟨rfl, getM (by first | omega | (simp; omega))⟩, ?_⟩; (conv => whnf))
    | ((with_reducible apply Or.inl); apply Exists.intro; apply And.intro; (focus (intro hg; (conv => whnf); (repeat' first | (with_reducible exact ⟨rfl, rfl⟩) | ((with_reducible refine Own2.data ?_); (conv => whnf)) | (refine ⟨true, _, rfl, ?_⟩; (conv => whnf)) | (refine ⟨false, .nilp, rfl, ?_⟩; (conv => whnf)) | (refine ⟨_, _, by first | fail, ?_⟩; (conv => whnf)) | ((with_reducible apply Or.inl); (refine ⟨rfl, rfl, ?_⟩); (conv => whnf)) | ((with_reducible apply Or.inl); (with_reducible apply And.intro); (focus (simp only [rng]; omega)); (conv => whnf)) | (refine ⟨by first | omega | (simp at hg ⊢; omega) | (simp_all; first | done | fail), ?_⟩; (conv => whnf)) | ((with_reducible refine ACall.id ?_); (refine PCall.call (by first | fail) rfl ?_); (intro x hx; first | subst hx | (obtain ⟨l_, rfl, hl_⟩ := hx.out)); (conv => whnf)) | (intro hlen; (conv => whnf))); done)); (conv => whnf))
    | (apply Exists.intro; apply And.intro; (focus (first | (intro hg; (conv => whnf)) | (conv => whnf)); (repeat' first | (with_reducible exact ⟨rfl, rfl⟩) | ((with_reducible refine Own2.data ?_); (conv => whnf)) | (refine ⟨true, _, rfl, ?_⟩; (conv => whnf)) | (refine ⟨false, .nilp, rfl, ?_⟩; (conv => whnf)) | (refine ⟨_, _, by first | fail, ?_⟩; (conv => whnf)) | ((with_reducible apply Or.inl); (refine ⟨rfl, rfl, ?_⟩); (conv => whnf)) | ((with_reducible apply Or.inl); (with_reducible apply And.intro); (focus (simp only [rng]; omega)); (conv => whnf)) | (refine ⟨by first | omega | (simp at hg ⊢; omega) | (simp_all; first | done | fail), ?_⟩; (conv => whnf)) | ((with_reducible refine ACall.id ?_); (refine PCall.call (by first | fail) rfl ?_); (intro x hx; first | subst hx | (obtain ⟨l_, rfl, hl_⟩ := hx.out)); (conv => whnf)) | (intro hlen; (conv => whnf))); done); (conv => whnf))
    | ((with_reducible apply Or.inl); (with_reducible apply And.intro); (focus (simp only [rng]; omega)); (conv => whnf))
    | ((with_reducible apply Or.inr); (with_reducible apply And.intro) <;> (intro hb; (try simp at hb); (try (exfalso; first | omega | (simp_all; first | done | fail))); (try (conv => whnf))))
    | ((with_reducible apply And.intro); (focus (first | omega | (exact True.intro) | (simp; omega) | (exact Nat.le_of_ble_eq_true rfl) | (exact ⟨rfl, Nat.le_of_ble_eq_true rfl⟩) | (exact ⟨Nat.le_of_ble_eq_true rfl, Nat.le_of_ble_eq_true rfl⟩) | (intro hg; first | (simp; first | done | fail) | (simp at hg ⊢; exact hg) | (simp at hg; exact hg) | exact hg))); (conv => whnf))
    | ((with_reducible apply And.intro) <;> (intro hb; (try simp at hb); (try (exfalso; first | omega | (simp_all; first | done | fail))); (try (conv => whnf))))
    | (intro hlen; (conv => whnf))
    | ((with_reducible refine And.intro (Side.out ?_) ?_); rotate_left; (conv => whnf); rotate_right)
  refine AW.loopX (X := Nat) (fun i => ⟨[(0, .d (encStrs L)), (1, .d (.str v)), (7, .d (.int .i64 (L.length : Int))), (8, .d (.int .i64 (i : Int)))], Heap.none, none, z⟩)
    (fun i => i ≤ L.length ∧ ∀ j, j < i → v ≠ L.getD j []) (fun i => L.length - i) 0 ⟨by omega, fun j h => by omega⟩ ⟨rfl, rfl, rfl, trivial, ⟨AV.le_refl _, AV.le_refl _, AV.le_refl _, AV.le_refl _, trivial⟩⟩ ?_
  intro i ⟨hi, hw⟩
  repeat' first
    | (with_reducible refine AW.seq ?_)
    | ((with_reducible refine AW.region Try.tabOk ?_); (conv => whnf))
    | ((with_reducible refine AW.draw Try.tabOk Try.mixed ?_ ?_); (focus rfl); (conv => whnf))
    | ((with_reducible refine AW.ret ?_); (conv => whnf))
    | ((with_reducible refine AW.block ?_))
    | (with_reducible refine AW.scope ?_)
    | ((with_reducible refine AW.label ?_); (conv => whnf))
    | ((with_reducible refine AW.exit ?_); (conv => whnf))
    | ((with_reducible refine AW.skip ?_); (conv => whnf))
    | ((with_reducible refine AW.cond ?_); (conv => whnf))
    | ((with_reducible refine Own2.data ?_); (conv => whnf))
    | ((with_reducible refine ACall.id ?_); (refine PCall.call (by first | fail) rfl ?_); (intro x hx; first | subst hx | (obtain ⟨l_, rfl, hl_⟩ := hx.out)); (conv => whnf))
    | ((with_reducible refine ACall.freeze rfl ?_); (conv => whnf))
    | (refine ⟨true, _, rfl, ?_⟩; (conv => whnf))
    | (refine ⟨false, .nilp, rfl, ?_⟩; (conv => whnf))
    | (refine ⟨_, _, by first | fail, ?_⟩; (conv => whnf))
    | ((with_reducible apply Or.inl); (refine ⟨rfl, rfl, ?_⟩); (conv => whnf))
    | (refine ⟨_, ⟨rfl, rfl⟩, ?_⟩; (conv => whnf))
    | (refine ⟨_, ⟨rfl, getM (by first | omega | (simp; omega))⟩, ?_⟩; (conv => whnf))
    | ((with_reducible apply Or.inl); apply Exists.intro; apply And.intro; (focus (intro hg; (conv => whnf); (repeat' first | (with_reducible exact ⟨rfl, rfl⟩) | ((with_reducible refine Own2.data ?_); (conv => whnf)) | (refine ⟨true, _, rfl, ?_⟩; (conv => whnf)) | (refine ⟨false, .nilp, rfl, ?_⟩; (conv => whnf)) | (refine ⟨_, _, by first | fail, ?_⟩; (conv => whnf)) | ((with_reducible apply Or.inl); (refine ⟨rfl, rfl, ?_⟩); (conv => whnf)) | ((with_reducible apply Or.inl); (with_reducible apply And.intro); (focus (simp only [rng]; omega)); (conv => whnf)) | (refine ⟨by first | omega | (simp at hg ⊢; omega) | (simp_all; first | done | fail), ?_⟩; (conv => whnf)) | ((with_reducible refine ACall.id ?_); (refine PCall.call (by first | fail) rfl ?_); (intro x hx; first | subst hx | (obtain ⟨l_, rfl, hl_⟩ := hx.out)); (conv => whnf)) | (intro hlen; (conv => whnf))); done)); (conv => whnf))
    | (apply Exists.intro; apply And.intro; (focus (first | (intro hg; (conv => whnf)) | (conv => whnf)); (repeat' first | (with_reducible exact ⟨rfl, rfl⟩) | ((with_reducible refine Own2.data ?_); (conv => whnf)) | (refine ⟨true, _, rfl, ?_⟩; (conv => whnf)) | (refine ⟨false, .nilp, rfl, ?_⟩; (conv => whnf)) | (refine ⟨_, _, by first | fail, ?_⟩; (conv => whnf)) | ((with_reducible apply Or.inl); (refine ⟨rfl, rfl, ?_⟩); (conv => whnf)) | ((with_reducible apply Or.inl); (with_reducible apply And.intro); (focus (simp only [rng]; omega)); (conv => whnf)) | (refine ⟨by first | omega | (simp at hg ⊢; omega) | (simp_all; first | done | fail), ?_⟩; (conv => whnf)) | ((with_reducible refine ACall.id ?_); (refine PCall.call (by first | fail) rfl ?_); (intro x hx; first | subst hx | (obtain ⟨l_, rfl, hl_⟩ := hx.out)); (conv => whnf)) | (intro hlen; (conv => whnf))); done); (conv => whnf))
    | ((with_reducible apply Or.inl); (with_reducible apply And.intro); (focus (simp only [rng]; omega)); (conv => whnf))
    | ((with_reducible apply Or.inr); (with_reducible apply And.intro) <;> (intro hb; (try simp at hb); (try (exfalso; first | omega | (simp_all; first | done | fail))); (try (conv => whnf))))
    | ((with_reducible apply And.intro); (focus (first | omega | (exact True.intro) | (simp; omega) | (exact Nat.le_of_ble_eq_true rfl) | (exact ⟨rfl, Nat.le_of_ble_eq_true rfl⟩) | (exact ⟨Nat.le_of_ble_eq_true rfl, Nat.le_of_ble_eq_true rfl⟩) | (intro hg; first | (simp; first | done | fail) | (simp at hg ⊢; exact hg) | (simp at hg; exact hg) | exact hg))); (conv => whnf))
    | ((with_reducible apply And.intro) <;> (intro hb; (try simp at hb); (try (exfalso; first | omega | (simp_all; first | done | fail))); (try (conv => whnf))))
    | (intro hlen; (conv => whnf))
    | ((with_reducible refine And.intro (Side.out ?_) ?_); rotate_left; (conv => whnf); rotate_right)
  · rename_i hit
    rw [idx_found hit (by simpa using hb) hw]
  · rename_i hit
    exact .mk (i + 1) ⟨by omega, fun j hj => by
      by_cases e : j = i
      · subst e; simpa using hb
      · exact hw j (by omega)⟩ (by show L.length - (i + 1) < L.length - i; omega) ⟨rfl, rfl, rfl, trivial, ⟨AV.le_refl _, AV.le_refl _, AV.le_refl _, AV.le_refl _, trivial⟩⟩
  · rw [idx_none fun j hj => hw j (by omega)]

theorem idx_nonneg {L : List Str} {v : Str} {i : Nat} (hi : i < L.length) (hv : v = L.getD i []) : 0 ≤ idx L v := by
  unfold idx
  cases h : L.findIdx? (fun s => v == s) with
  | some j => simp
  | none =>
    rw [List.findIdx?_eq_none_iff] at h
    have := h L[i] (by simp)
    simp [hv, List.getD_eq_getElem?_getD, hi] at this

theorem c57 (L : List Str) (v : Str) : PCall Try.prog 57 [.d (encStrs L), .d (.str v)] fun x => x = .d (.bool (decide (0 ≤ idx L v))) := by
  refine PCall.intro Try.tabOk Try.f57 _ Try.func57 rfl (by decide) rfl fun z => ?_
  repeat' first
    | (with_reducible refine AW.seq ?_)
    | ((with_reducible refine AW.region Try.tabOk ?_); (conv => whnf))
    | ((with_reducible refine AW.draw Try.tabOk Try.mixed ?_ ?_); (focus rfl); (conv => whnf))
    | ((with_reducible refine AW.ret ?_); (conv => whnf))
    | ((with_reducible refine AW.block ?_))
    | (with_reducible refine AW.scope ?_)
    | ((with_reducible refine AW.label ?_); (conv => whnf))
    | ((with_reducible refine AW.exit ?_); (conv => whnf))
    | ((with_reducible refine AW.skip ?_); (conv => whnf))
    | ((with_reducible refine AW.cond ?_); (conv => whnf))
    | ((with_reducible refine Own2.data ?_); (conv => whnf))
    | ((with_reducible refine ACall.id ?_); (refine PCall.call (by first | exact c77 _ _) rfl ?_); (intro x hx; first | subst hx | (obtain ⟨l_, rfl, hl_⟩ := hx.out)); (conv => whnf))
    | ((with_reducible refine ACall.freeze rfl ?_); (conv => whnf))
    | (refine ⟨true, _, rfl, ?_⟩; (conv => whnf))
    | (refine ⟨false, .nilp, rfl, ?_⟩; (conv => whnf))
    | (refine ⟨_, _, by first | exact c77 _ _, ?_⟩; (conv => whnf))
    | ((with_reducible apply Or.inl); (refine ⟨rfl, rfl, ?_⟩); (conv => whnf))
    | (refine ⟨_, ⟨rfl, rfl⟩, ?_⟩; (conv => whnf))
    | (refine ⟨_, ⟨rfl, getM (by first | omega | (simp; omega))⟩, ?_⟩; (conv => whnf))
    | ((with_reducible apply Or.inl); apply Exists.intro; apply And.intro; (focus (intro hg; (conv => whnf); (repeat' first | (with_reducible exact ⟨rfl, rfl⟩) | ((with_reducible refine Own2.data ?_); (conv => whnf)) | (refine ⟨true, _, rfl, ?_⟩; (conv => whnf)) | (refine ⟨false, .nilp, rfl, ?_⟩; (conv => whnf)) | (refine ⟨_, _, by first | exact c77 _ _, ?_⟩; (conv => whnf)) | ((with_reducible apply Or.inl); (refine ⟨rfl, rfl, ?_⟩); (conv => whnf)) | ((with_reducible apply Or.inl); (with_reducible apply And.intro); (focus (simp only [rng]; omega)); (conv => whnf)) | (refine ⟨by first | omega | (simp at hg ⊢; omega) | (simp_all; first | done | fail), ?_⟩; (conv => whnf)) | ((with_reducible refine ACall.id ?_); (refine PCall.call (by first | exact c77 _ _) rfl ?_); (intro x hx; first | subst hx | (obtain ⟨l_, rfl, hl_⟩ := hx.out)); (conv => whnf)) | (intro hlen; (conv => whnf))); done)); (conv => whnf))
    | (apply Exists.intro; apply And.intro; (focus (first | (intro hg; (conv => whnf)) | (conv => whnf)); (repeat' first | (with_reducible exact ⟨rfl, rfl⟩) | ((with_reducible refine Own2.data ?_); (conv => whnf)) | (refine ⟨true, _, rfl, ?_⟩; (conv => whnf)) | (refine ⟨false, .nilp, rfl, ?_⟩; (conv => whnf)) | (refine ⟨_, _, by first | exact c77 _ _, ?_⟩; (conv => whnf)) | ((with_reducible apply Or.inl); (refine ⟨rfl, rfl, ?_⟩); (conv => whnf)) | ((with_reducible apply Or.inl); (with_reducible apply And.intro); (focus (simp only [rng]; omega)); (conv => whnf)) | (refine ⟨by first | omega | (simp at hg ⊢; omega) | (simp_all; first | done | fail), ?_⟩; (conv => whnf)) | ((with_reducible refine ACall.id ?_); (refine PCall.call (by first | exact c77 _ _) rfl ?_); (intro x hx; first | subst hx | (obtain ⟨l_, rfl, hl_⟩ := hx.out)); (conv => whnf)) | (intro hlen; (conv => whnf))); done); (conv => whnf))
    | ((with_reducible apply Or.inl); (with_reducible apply And.intro); (focus (simp only [rng]; omega)); (conv => whnf))
    | ((with_reducible apply Or.inr); (with_reducible apply And.intro) <;> (intro hb; (try simp at hb); (try (exfalso; first | omega | (simp_all; first | done | fail))); (try (conv => whnf))))
    | ((with_reducible apply And.intro); (focus (first | omega | (exact True.intro) | (simp; omega) | (exact Nat.le_of_ble_eq_true rfl) | (exact ⟨rfl, Nat.le_of_ble_eq_true rfl⟩) | (exact ⟨Nat.le_of_ble_eq_true rfl, Nat.le_of_ble_eq_true rfl⟩) | (intro hg; first | (simp; first | done | fail) | (simp at hg ⊢; exact hg) | (simp at hg; exact hg) | exact hg))); (conv => whnf))
    | ((with_reducible apply And.intro) <;> (intro hb; (try simp at hb); (try (exfalso; first | omega | (simp_all; first | done | fail))); (try (conv => whnf))))
    | (intro hlen; (conv => whnf))
    | ((with_reducible refine And.intro (Side.out ?_) ?_); rotate_left; (conv => whnf); rotate_right)

theorem c31 (L : List Str) (v : Str) : PCall Try.prog 31 [.d (encStrs L), .d (.str v)] fun x => x = .d (.bool (decide (0 ≤ idx L v))) := by
  refine PCall.intro Try.tabOk Try.f31 _ Try.func31 rfl (by decide) rfl fun z => ?_
  repeat' first
    | (with_reducible refine AW.seq ?_)
    | ((with_reducible refine AW.region Try.tabOk ?_); (conv => whnf))
    | ((with_reducible refine AW.draw Try.tabOk Try.mixed ?_ ?_); (focus rfl); (conv => whnf))
    | ((with_reducible refine AW.ret ?_); (conv => whnf))
    | ((with_reducible refine AW.block ?_))
    | (with_reducible refine AW.scope ?_)
    | ((with_reducible refine AW.label ?_); (conv => whnf))
    | ((with_reducible refine AW.exit ?_); (conv => whnf))
    | ((with_reducible refine AW.skip ?_); (conv => whnf))
    | ((with_reducible refine AW.cond ?_); (conv => whnf))
    | ((with_reducible refine Own2.data ?_); (conv => whnf))
    | ((with_reducible refine ACall.id ?_); (refine PCall.call (by first | fail) rfl ?_); (intro x hx; first | subst hx | (obtain ⟨l_, rfl, hl_⟩ := hx.out)); (conv => whnf))
    | ((with_reducible refine ACall.freeze rfl ?_); (conv => whnf))
    | (refine ⟨true, _, rfl, ?_⟩; (conv => whnf))
    | (refine ⟨false, .nilp, rfl, ?_⟩; (conv => whnf))
    | (refine ⟨_, _, by first | fail, ?_⟩; (conv => whnf))
    | ((with_reducible apply Or.inl); (refine ⟨rfl, rfl, ?_⟩); (conv => whnf))
    | (refine ⟨_, ⟨rfl, rfl⟩, ?_⟩; (conv => whnf))
    | (refine ⟨_, ⟨rfl, getM (by first | omega | (simp; omega))⟩, ?_⟩; (conv => whnf))
    | ((with_reducible apply Or.inl); apply Exists.intro; apply And.intro; (focus (intro hg; (conv => whnf); (repeat' first | (with_reducible exact ⟨rfl, rfl⟩) | ((with_reducible refine Own2.data ?_); (conv => whnf)) | (refine ⟨true, _, rfl, ?_⟩; (conv => whnf)) | (refine ⟨false, .nilp, rfl, ?_⟩; (conv => whnf)) | (refine ⟨_, _, by first | fail, ?_⟩; (conv => whnf)) | ((with_reducible apply Or.inl); (refine ⟨rfl, rfl, ?_⟩); (conv => whnf)) | ((with_reducible apply Or.inl); (with_reducible apply And.intro); (focus (simp only [rng]; omega)); (conv => whnf)) | (refine ⟨by first | omega | (simp at hg ⊢; omega) | (simp_all; first | done | fail), ?_⟩; (conv => whnf)) | ((with_reducible refine ACall.id ?_); (refine PCall.call (by first | fail) rfl ?_); (intro x hx; first | subst hx | (obtain ⟨l_, rfl, hl_⟩ := hx.out)); (conv => whnf)) | (intro hlen; (conv => whnf))); done)); (conv => whnf))
    | (apply Exists.intro; apply And.intro; (focus (first | (intro hg; (conv => whnf)) | (conv => whnf)); (repeat' first | (with_reducible exact ⟨rfl, rfl⟩) | ((with_reducible refine Own2.data ?_); (conv => whnf)) | (refine ⟨true, _, rfl, ?_⟩; (conv => whnf)) | (refine ⟨false, .nilp, rfl, ?_⟩; (conv => whnf)) | (refine ⟨_, _, by first | fail, ?_⟩; (conv => whnf)) | ((with_reducible apply Or.inl); (refine ⟨rfl, rfl, ?_⟩); (conv => whnf)) | ((with_reducible apply Or.inl); (with_reducible apply And.intro); (focus (simp only [rng]; omega)); (conv => whnf)) | (refine ⟨by first | omega | (simp at hg ⊢; omega) | (simp_all; first | done | fail), ?_⟩; (conv => whnf)) | ((with_reducible refine ACall.id ?_); (refine PCall.call (by first | fail) rfl ?_); (intro x hx; first | subst hx | (obtain ⟨l_, rfl, hl_⟩ := hx.out)); (conv => whnf)) | (intro hlen; (conv => whnf))); done); (conv => whnf))
    | ((with_reducible apply Or.inl); (with_reducible apply And.intro); (focus (simp only [rng]; omega)); (conv => whnf))
    | ((with_reducible apply Or.inr); (with_reducible apply And.intro) <;> (intro hb; (try simp at hb); (try (exfalso; first | omega | (simp_all; first | done | fail))); (try (conv => whnf))))
    | ((with_reducible apply And.intro); (focus (first | omega | (exact True.intro) | (simp; omega) | (exact Nat.le_of_ble_eq_true rfl) | (exact ⟨rfl, Nat.le_of_ble_eq_true rfl⟩) | (exact ⟨Nat.le_of_ble_eq_true rfl, Nat.le_of_ble_eq_true rfl⟩) | (intro hg; first | (simp; first | done | fail) | (simp at hg ⊢; exact hg) | (simp at hg; exact hg) | exact hg))); (conv => whnf))
    | ((with_reducible apply And.intro) <;> (intro hb; (try simp at hb); (try (exfalso; first | omega | (simp_all; first | done | fail))); (try (conv => whnf))))
    | (intro hlen; (conv => whnf))
    | ((with_reducible refine And.intro (Side.out ?_) ?_); rotate_left; (conv => whnf); rotate_right)
  refine AW.loopX (X := Nat) (fun i => ⟨[(0, .d (encStrs L)), (1, .d (.str v)), (5, .d (.int .i64 (i : Int)))], Heap.none, none, z⟩)
    (fun i => i ≤ L.length ∧ ∀ j, j < i → v ≠ L.getD j []) (fun i => L.length - i) 0 ⟨by omega, fun j h => by omega⟩ ⟨rfl, rfl, rfl, trivial, ⟨AV.le_refl _, AV.le_refl _, AV.le_refl _, trivial⟩⟩ ?_
  intro i ⟨hi, hw⟩
  repeat' first
    | (with_reducible refine AW.seq ?_)
    | ((with_reducible refine AW.region Try.tabOk ?_); (conv => whnf))
    | ((with_reducible refine AW.draw Try.tabOk Try.mixed ?_ ?_); (focus rfl); (conv => whnf))
    | ((with_reducible refine AW.ret ?_); (conv => whnf))
    | ((with_reducible refine AW.block ?_))
    | (with_reducible refine AW.scope ?_)
    | ((with_reducible refine AW.label ?_); (conv => whnf))
    | ((with_reducible refine AW.exit ?_); (conv => whnf))
    | ((with_reducible refine AW.skip ?_); (conv => whnf))
    | ((with_reducible refine AW.cond ?_); (conv => whnf))
    | ((with_reducible refine Own2.data ?_); (conv => whnf))
    | ((with_reducible refine ACall.id ?_); (refine PCall.call (by first | fail) rfl ?_); (intro x hx; first | subst hx | (obtain ⟨l_, rfl, hl_⟩ := hx.out)); (conv => whnf))
    | ((with_reducible refine ACall.freeze rfl ?_); (conv => whnf))
    | (refine ⟨true, _, rfl, ?_⟩; (conv => whnf))
    | (refine ⟨false, .nilp, rfl, ?_⟩; (conv => whnf))
    | (refine ⟨_, _, by first | fail, ?_⟩; (conv => whnf))
    | ((with_reducible apply Or.inl); (refine ⟨rfl, rfl, ?_⟩); (conv => whnf))
    | (refine ⟨_, ⟨rfl, rfl⟩, ?_⟩; (conv => whnf))
    | (refine ⟨_, ⟨rfl, getM (by first | omega | (simp; omega))⟩, ?_⟩; (conv => whnf))
    | ((with_reducible apply Or.inl); apply Exists.intro; apply And.intro; (focus (intro hg; (conv => whnf); (repeat' first | (with_reducible exact ⟨rfl, rfl⟩) | ((with_reducible refine Own2.data ?_); (conv => whnf)) | (refine ⟨true, _, rfl, ?_⟩; (conv => whnf)) | (refine ⟨false, .nilp, rfl, ?_⟩; (conv => whnf)) | (refine ⟨_, _, by first | fail, ?_⟩; (conv => whnf)) | ((with_reducible apply Or.inl); (refine ⟨rfl, rfl, ?_⟩); (conv => whnf)) | ((with_reducible apply Or.inl); (with_reducible apply And.intro); (focus (simp only [rng]; omega)); (conv => whnf)) | (refine ⟨by first | omega | (simp at hg ⊢; omega) | (simp_all; first | done | fail), ?_⟩; (conv => whnf)) | ((with_reducible refine ACall.id ?_); (refine PCall.call (by first | fail) rfl ?_); (intro x hx; first | subst hx | (obtain ⟨l_, rfl, hl_⟩ := hx.out)); (conv => whnf)) | (intro hlen; (conv => whnf))); done)); (conv => whnf))
    | (apply Exists.intro; apply And.intro; (focus (first | (intro hg; (conv => whnf)) | (conv => whnf)); (repeat' first | (with_reducible exact ⟨rfl, rfl⟩) | ((with_reducible refine Own2.data ?_); (conv => whnf)) | (refine ⟨true, _, rfl, ?_⟩; (conv => whnf)) | (refine ⟨false, .nilp, rfl, ?_⟩; (conv => whnf)) | (refine ⟨_, _, by first | fail, ?_⟩; (conv => whnf)) | ((with_reducible apply Or.inl); (refine ⟨rfl, rfl, ?_⟩); (conv => whnf)) | ((with_reducible apply Or.inl); (with_reducible apply And.intro); (focus (simp only [rng]; omega)); (conv => whnf)) | (refine ⟨by first | omega | (simp at hg ⊢; omega) | (simp_all; first | done | fail), ?_⟩; (conv => whnf)) | ((with_reducible refine ACall.id ?_); (refine PCall.call (by first | fail) rfl ?_); (intro x hx; first | subst hx | (obtain ⟨l_, rfl, hl_⟩ := hx.out)); (conv => whnf)) | (intro hlen; (conv => whnf))); done); (conv => whnf))
    | ((with_reducible apply Or.inl); (with_reducible apply And.intro); (focus (simp only [rng]; omega)); (conv => whnf))
    | ((with_reducible apply Or.inr); (with_reducible apply And.intro) <;> (intro hb; (try simp at hb); (try (exfalso; first | omega | (simp_all; first | done | fail))); (try (conv => whnf))))
    | ((with_reducible apply And.intro); (focus (first | omega | (exact True.intro) | (simp; omega) | (exact Nat.le_of_ble_eq_true rfl) | (exact ⟨rfl, Nat.le_of_ble_eq_true rfl⟩) | (exact ⟨Nat.le_of_ble_eq_true rfl, Nat.le_of_ble_eq_true rfl⟩) | (intro hg; first | (simp; first | done | fail) | (simp at hg ⊢; exact hg) | (simp at hg; exact hg) | exact hg))); (conv => whnf))
    | ((with_reducible apply And.intro) <;> (intro hb; (try simp at hb); (try (exfalso; first | omega | (simp_all; first | done | fail))); (try (conv => whnf))))
    | (intro hlen; (conv => whnf))
    | ((with_reducible refine And.intro (Side.out ?_) ?_); rotate_left; (conv => whnf); rotate_right)
  · rename_i hit
    have := idx_nonneg hit (v := v) (by simpa using hb.symm)
    simp [this]
  · rename_i hit
    exact .mk (i + 1) ⟨by omega, fun j hj => by
      by_cases e : j = i
      · subst e; simpa using fun h => hb h.symm
      · exact hw j (by omega)⟩ (by show L.length - (i + 1) < L.length - i; omega) ⟨rfl, rfl, rfl, trivial, ⟨AV.le_refl _, AV.le_refl _, AV.le_refl _, trivial⟩⟩
  · rw [idx_none fun j hj => hw j (by omega)]; rfl

instance : Inhabited (List Obj) := ⟨[]⟩
def ids (m : List Obj) : List Str := m.map (·.id)

theorem c30 (m : List Obj) (v : Str) : PCall Try.prog 30 [.d (encMap m), .d (.str v)] fun x => x = .d (.int .i64 (idx (ids m) v)) := by
  refine PCall.intro Try.tabOk Try.f30 _ Try.func30 rfl (by decide) rfl fun z => ?_
  repeat' first
    | (with_reducible refine AW.seq ?_)
    | ((with_reducible refine AW.region Try.tabOk ?_); (conv => whnf))
    | ((with_reducible refine AW.draw Try.tabOk Try.mixed ?_ ?_); (focus rfl); (conv => whnf))
    | ((with_reducible refine AW.ret ?_); (conv => whnf))
    | ((with_reducible refine AW.block ?_))
    | (with_reducible refine AW.scope ?_)
    | ((with_reducible refine AW.label ?_); (conv => whnf))
    | ((with_reducible refine AW.exit ?_); (conv => whnf))
    | ((with_reducible refine AW.skip ?_); (conv => whnf))
    | ((with_reducible refine AW.cond ?_); (conv => whnf))
    | ((with_reducible refine Own2.data ?_); (conv => whnf))
    | ((with_reducible refine ACall.id ?_); (refine PCall.call (by first | fail) rfl ?_); (intro x hx; first | subst hx | (obtain ⟨l_, rfl, hl_⟩ := hx.out)); (conv => whnf))
    | ((with_reducible refine ACall.freeze rfl ?_); (conv => whnf))
    | (refine ⟨true, _, rfl, ?_⟩; (conv => whnf))
    | (refine ⟨false, .nilp, rfl, ?_⟩; (conv => whnf))
    | (refine ⟨_, _, by first | fail, ?_⟩; (conv => whnf))
    | ((with_reducible apply Or.inl); (refine ⟨rfl, rfl, ?_⟩); (conv => whnf))
    | (refine ⟨_, ⟨rfl, rfl⟩, ?_⟩; (conv => whnf))
    | (refine ⟨_, ⟨rfl, getM (by first | omega | (simp; omega))⟩, ?_⟩; (conv => whnf))
    | ((with_reducible apply Or.inl); apply Exists.intro; apply And.intro; (focus (intro hg; (conv => whnf); (repeat' first | (with_reducible exact ⟨rfl, rfl⟩) | ((with_reducible refine Own2.data ?_); (conv => whnf)) | (refine ⟨true, _, rfl, ?_⟩; (conv => whnf)) | (refine ⟨false, .nilp, rfl, ?_⟩; (conv => whnf)) | (refine ⟨_, _, by first | fail, ?_⟩; (conv => whnf)) | ((with_reducible apply Or.inl); (refine ⟨rfl, rfl, ?_⟩); (conv => whnf)) | ((with_reducible apply Or.inl); (with_reducible apply And.intro); (focus (simp only [rng]; omega)); (conv => whnf)) | (refine ⟨by first | omega | (simp at hg ⊢; omega) | (simp_all; first | done | fail), ?_⟩; (conv => whnf)) | ((with_reducible refine ACall.id ?_); (refine PCall.call (by first | fail) rfl ?_); (intro x hx; first | subst hx | (obtain ⟨l_, rfl, hl_⟩ := hx.out)); (conv => whnf)) | (intro hlen; (conv => whnf))); done)); (conv => whnf))
    | (apply Exists.intro; apply And.intro; (focus (first | (intro hg; (conv => whnf)) | (conv => whnf)); (repeat' first | (with_reducible exact ⟨rfl, rfl⟩) | ((with_reducible refine Own2.data ?_); (conv => whnf)) | (refine ⟨true, _, rfl, ?_⟩; (conv => whnf)) | (refine ⟨false, .nilp, rfl, ?_⟩; (conv => whnf)) | (refine ⟨_, _, by first | fail, ?_⟩; (conv => whnf)) | ((with_reducible apply Or.inl); (refine ⟨rfl, rfl, ?_⟩); (conv => whnf)) | ((with_reducible apply Or.inl); (with_reducible apply And.intro); (focus (simp only [rng]; omega)); (conv => whnf)) | (refine ⟨by first | omega | (simp at hg ⊢; omega) | (simp_all; first | done | fail), ?_⟩; (conv => whnf)) | ((with_reducible refine ACall.id ?_); (refine PCall.call (by first | fail) rfl ?_); (intro x hx; first | subst hx | (obtain ⟨l_, rfl, hl_⟩ := hx.out)); (conv => whnf)) | (intro hlen; (conv => whnf))); done); (conv => whnf))
    | ((with_reducible apply Or.inl); (with_reducible apply And.intro); (focus (simp only [rng]; omega)); (conv => whnf))
    | ((with_reducible apply Or.inr); (with_reducible apply And.intro) <;> (intro hb; (try simp at hb); (try (exfalso; first | omega | (simp_all; first | done | fail))); (try (conv => whnf))))
    | ((with_reducible apply And.intro); (focus (first | omega | (exact True.intro) | (simp; omega) | (exact Nat.le_of_ble_eq_true rfl) | (exact ⟨rfl, Nat.le_of_ble_eq_true rfl⟩) | (exact ⟨Nat.le_of_ble_eq_true rfl, Nat.le_of_ble_eq_true rfl⟩) | (intro hg; first | (simp; first | done | fail) | (simp at hg ⊢; exact hg) | (simp at hg; exact hg) | exact hg))); (conv => whnf))
    | ((with_reducible apply And.intro) <;> (intro hb; (try simp at hb); (try (exfalso; first | omega | (simp_all; first | done | fail))); (try (conv => whnf))))
    | (intro hlen; (conv => whnf))
    | ((with_reducible refine And.intro (Side.out ?_) ?_); rotate_left; (conv => whnf); rotate_right)
  refine AW.loopX (X := Nat) (fun i => ⟨[(2, .ptr 0 0), (1, .d (.str v)), (5, .d (.int .i64 (i : Int)))], ⟨[(0, .var [.d (encObjs m)] 24)], 1⟩, none, z⟩)
    (fun i => i ≤ m.length ∧ ∀ j, j < i → v ≠ (ids m).getD j []) (fun i => m.length - i) 0 ⟨by omega, fun j h => by omega⟩ ⟨rfl, rfl, rfl, ⟨OLe.refl _, trivial⟩, ⟨AV.le_refl _, AV.le_refl _, AV.le_refl _, trivial⟩⟩ ?_
  intro i ⟨hi, hw⟩
  repeat' first
    | (with_reducible refine AW.seq ?_)
    | ((with_reducible refine AW.region Try.tabOk ?_); (conv => whnf))
    | ((with_reducible refine AW.draw Try.tabOk Try.mixed ?_ ?_); (focus rfl); (conv => whnf))
    | ((with_reducible refine AW.ret ?_); (conv => whnf))
    | ((with_reducible refine AW.block ?_))
    | (with_reducible refine AW.scope ?_)
    | ((with_reducible refine AW.label ?_); (conv => whnf))
    | ((with_reducible refine AW.exit ?_); (conv => whnf))
    | ((with_reducible refine AW.skip ?_); (conv => whnf))
    | ((with_reducible refine AW.cond ?_); (conv => whnf))
    | ((with_reducible refine Own2.data ?_); (conv => whnf))
    | ((with_reducible refine ACall.id ?_); (refine PCall.call (by first | fail) rfl ?_); (intro x hx; first | subst hx | (obtain ⟨l_, rfl, hl_⟩ := hx.out)); (conv => whnf))
    | ((with_reducible refine ACall.freeze rfl ?_); (conv => whnf))
    | (refine ⟨true, _, rfl, ?_⟩; (conv => whnf))
    | (refine ⟨false, .nilp, rfl, ?_⟩; (conv => whnf))
    | (refine ⟨_, _, by first | fail, ?_⟩; (conv => whnf))
    | ((with_reducible apply Or.inl); (refine ⟨rfl, rfl, ?_⟩); (conv => whnf))
    | (refine ⟨_, ⟨rfl, rfl⟩, ?_⟩; (conv => whnf))
    | (refine ⟨_, ⟨rfl, getM (by first | omega | (simp; omega))⟩, ?_⟩; (conv => whnf))
    | ((with_reducible apply Or.inl); apply Exists.intro; apply And.intro; (focus (intro hg; (conv => whnf); (repeat' first | (with_reducible exact ⟨rfl, rfl⟩) | ((with_reducible refine Own2.data ?_); (conv => whnf)) | (refine ⟨true, _, rfl, ?_⟩; (conv => whnf)) | (refine ⟨false, .nilp, rfl, ?_⟩; (conv => whnf)) | (refine ⟨_, _, by first | fail, ?_⟩; (conv => whnf)) | ((with_reducible apply Or.inl); (refine ⟨rfl, rfl, ?_⟩); (conv => whnf)) | ((with_reducible apply Or.inl); (with_reducible apply And.intro); (focus (simp only [rng]; omega)); (conv => whnf)) | (refine ⟨by first | omega | (simp at hg ⊢; omega) | (simp_all; first | done | fail), ?_⟩; (conv => whnf)) | ((with_reducible refine ACall.id ?_); (refine PCall.call (by first | fail) rfl ?_); (intro x hx; first | subst hx | (obtain ⟨l_, rfl, hl_⟩ := hx.out)); (conv => whnf)) | (intro hlen; (conv => whnf))); done)); (conv => whnf))
    | (apply Exists.intro; apply And.intro; (focus (first | (intro hg; (conv => whnf)) | (conv => whnf)); (repeat' first | (with_reducible exact ⟨rfl, rfl⟩) | ((with_reducible refine Own2.data ?_); (conv => whnf)) | (refine ⟨true, _, rfl, ?_⟩; (conv => whnf)) | (refine ⟨false, .nilp, rfl, ?_⟩; (conv => whnf)) | (refine ⟨_, _, by first | fail, ?_⟩; (conv => whnf)) | ((with_reducible apply Or.inl); (refine ⟨rfl, rfl, ?_⟩); (conv => whnf)) | ((with_reducible apply Or.inl); (with_reducible apply And.intro); (focus (simp only [rng]; omega)); (conv => whnf)) | (refine ⟨by first | omega | (simp at hg ⊢; omega) | (simp_all; first | done | fail), ?_⟩; (conv => whnf)) | ((with_reducible refine ACall.id ?_); (refine PCall.call (by first | fail) rfl ?_); (intro x hx; first | subst hx | (obtain ⟨l_, rfl, hl_⟩ := hx.out)); (conv => whnf)) | (intro hlen; (conv => whnf))); done); (conv => whnf))
    | ((with_reducible apply Or.inl); (with_reducible apply And.intro); (focus (simp only [rng]; omega)); (conv => whnf))
    | ((with_reducible apply Or.inr); (with_reducible apply And.intro) <;> (intro hb; (try simp at hb); (try (exfalso; first | omega | (simp_all; first | done | fail))); (try (conv => whnf))))
    | ((with_reducible apply And.intro); (focus (first | omega | (exact True.intro) | (simp; omega) | (exact Nat.le_of_ble_eq_true rfl) | (exact ⟨rfl, Nat.le_of_ble_eq_true rfl⟩) | (exact ⟨Nat.le_of_ble_eq_true rfl, Nat.le_of_ble_eq_true rfl⟩) | (intro hg; first | (simp; first | done | fail) | (simp at hg ⊢; exact hg) | (simp at hg; exact hg) | exact hg))); (conv => whnf))
    | ((with_reducible apply And.intro) <;> (intro hb; (try simp at hb); (try (exfalso; first | omega | (simp_all; first | done | fail))); (try (conv => whnf))))
    | (intro hlen; (conv => whnf))
    | ((with_reducible refine And.intro (Side.out ?_) ?_); rotate_left; (conv => whnf); rotate_right)
  · rename_i hit
    rw [idx_found (i := i) (by simpa [ids] using hit) (by simpa [ids, hit] using hb.symm) hw]
  · rename_i hit
    exact .mk (i + 1) ⟨by omega, fun j hj => by
      by_cases e : j = i
      · subst e; simpa [ids, hit] using fun h => hb (by simpa [hit] using h.symm)
      · exact hw j (by omega)⟩ (by show m.length - (i + 1) < m.length - i; omega) ⟨rfl, rfl, rfl, ⟨OLe.refl _, trivial⟩, ⟨AV.le_refl _, AV.le_refl _, AV.le_refl _, trivial⟩⟩
  · rw [idx_none fun j hj => hw j (by simp [ids] at hj; omega)]
end Go.Proofs
end
section
/- Contracts: the reference's names. -/
namespace Go.Proofs
open Go.Pm
set_option maxRecDepth 100000

def digit (c : UInt8) : Bool := decide (48 ≤ c.toNat) && decide (c.toNat ≤ 57)
def letter (c : UInt8) : Bool := decide (97 ≤ c.toNat) && decide (c.toNat ≤ 122) || decide (65 ≤ c.toNat) && decide (c.toNat ≤ 90)
def word (c : UInt8) : Bool := letter c || digit c || decide (c.toNat = 95)

theorem c128 (c : UInt8) : PCall Try.prog 128 [.d (.int .u8 c.toNat)] (fun x => x = .d (.bool (digit c))) := by
  refine PCall.intro Try.tabOk Try.f128 _ Try.func128 rfl (by decide) rfl fun z => ?_
  repeat' first
    | (with_reducible refine AW.seq ?_)
    | ((with_reducible refine AW.region Try.tabOk ?_); (conv => whnf))
    | ((with_reducible refine AW.draw Try.tabOk Try.mixed ?_ ?_); (focus rfl); (conv => whnf))
    | ((with_reducible refine AW.ret ?_); (conv => whnf))
    | ((with_reducible refine AW.block ?_))
    | (with_reducible refine AW.scope ?_)
    | ((with_reducible refine AW.label ?_); (conv => whnf))
    | ((with_reducible refine AW.exit ?_); (conv => whnf))
    | ((with_reducible refine AW.skip ?_); (conv => whnf))
    | ((with_reducible refine AW.cond ?_); (conv => whnf))
    | ((with_reducible refine Own2.data ?_); (conv => whnf))
    | ((with_reducible refine ACall.id ?_); (refine PCall.call (by first | fail) rfl ?_); (intro x hx; first | subst hx | (obtain ⟨l_, rfl, hl_⟩ := hx.out)); (conv => whnf))
    | ((with_reducible refine ACall.freeze rfl ?_); (conv => whnf))
    | (refine ⟨true, _, rfl, ?_⟩; (conv => whnf))
    | (refine ⟨false, .nilp, rfl, ?_⟩; (conv => whnf))
    | (refine ⟨_, _, by first | fail, ?_⟩; (conv => whnf))
    | ((with_reducible apply Or.inl); (refine ⟨rfl, rfl, ?_⟩); (conv => whnf))
    | (refine ⟨_, ⟨rfl, rfl⟩, ?_⟩; (conv => whnf))
    | (refine ⟨_, ⟨rfl, getM (by first | omega | (simp; omega))⟩, ?_⟩; (conv => whnf))
    | ((with_reducible apply Or.inl); apply Exists.intro; apply And.intro; (focus (intro hg; (conv => whnf); (repeat' first | (with_reducible exact ⟨rfl, rfl⟩) | ((with_reducible refine Own2.data ?_); (conv => whnf)) | (refine ⟨true, _, rfl, ?_⟩; (conv => whnf)) | (refine ⟨false, .nilp, rfl, ?_⟩; (conv => whnf)) | (refine ⟨_, _, by first | fail, ?_⟩; (conv => whnf)) | ((with_reducible apply Or.inl); (refine ⟨rfl, rfl, ?_⟩); (conv => whnf)) | ((with_reducible apply Or.inl); (with_reducible apply And.intro); (focus (simp only [rng]; omega)); (conv => whnf)) | (refine ⟨by first | omega | (simp at hg ⊢; omega) | (simp_all; first | done | fail), ?_⟩; (conv => whnf)) | ((with_reducible refine ACall.id ?_); (refine PCall.call (by first | fail) rfl ?_); (intro x hx; first | subst hx | (obtain ⟨l_, rfl, hl_⟩ := hx.out)); (conv => whnf)) | (intro hlen; (conv => whnf))); done)); (conv => whnf))
    | (apply Exists.intro; apply And.intro; (focus (first | (intro hg; (conv => whnf)) | (conv => whnf)); (repeat' first | (with_reducible exact ⟨rfl, rfl⟩) | ((with_reducible refine Own2.data ?_); (conv => whnf)) | (refine ⟨true, _, rfl, ?_⟩; (conv => whnf)) | (refine ⟨false, .nilp, rfl, ?_⟩; (conv => whnf)) | (refine ⟨_, _, by first | fail, ?_⟩; (conv => whnf)) | ((with_reducible apply Or.inl); (refine ⟨rfl, rfl, ?_⟩); (conv => whnf)) | ((with_reducible apply Or.inl); (with_reducible apply And.intro); (focus (simp only [rng]; omega)); (conv => whnf)) | (refine ⟨by first | omega | (simp at hg ⊢; omega) | (simp_all; first | done | fail), ?_⟩; (conv => whnf)) | ((with_reducible refine ACall.id ?_); (refine PCall.call (by first | fail) rfl ?_); (intro x hx; first | subst hx | (obtain ⟨l_, rfl, hl_⟩ := hx.out)); (conv => whnf)) | (intro hlen; (conv => whnf))); done); (conv => whnf))
    | ((with_reducible apply Or.inl); (with_reducible apply And.intro); (focus (simp only [rng]; omega)); (conv => whnf))
    | ((with_reducible apply Or.inr); (with_reducible apply And.intro) <;> (intro hb; (try simp at hb); (try (exfalso; first | omega | (simp_all; first | done | fail))); (try (conv => whnf))))
    | ((with_reducible apply And.intro); (focus (first | omega | (exact True.intro) | (simp; omega) | (exact Nat.le_of_ble_eq_true rfl) | (exact ⟨rfl, Nat.le_of_ble_eq_true rfl⟩) | (exact ⟨Nat.le_of_ble_eq_true rfl, Nat.le_of_ble_eq_true rfl⟩) | (intro hg; first | (simp; first | done | fail) | (simp at hg ⊢; exact hg) | (simp at hg; exact hg) | exact hg))); (conv => whnf))
    | ((with_reducible apply And.intro) <;> (intro hb; (try simp at hb); (try (exfalso; first | omega | (simp_all; first | done | fail))); (try (conv => whnf))))
    | (intro hlen; (conv => whnf))
    | ((with_reducible refine And.intro (Side.out ?_) ?_); rotate_left; (conv => whnf); rotate_right)
  · congr 2; rw [Bool.eq_iff_iff]; simp [digit]; omega

theorem c125 (c : UInt8) : PCall Try.prog 125 [.d (.int .u8 c.toNat)] (fun x => x = .d (.bool (letter c))) := by
  refine PCall.intro Try.tabOk Try.f125 _ Try.func125 rfl (by decide) rfl fun z => ?_
  repeat' first
    | (with_reducible refine AW.seq ?_)
    | ((with_reducible refine AW.region Try.tabOk ?_); (conv => whnf))
    | ((with_reducible refine AW.draw Try.tabOk Try.mixed ?_ ?_); (focus rfl); (conv => whnf))
    | ((with_reducible refine AW.ret ?_); (conv => whnf))
    | ((with_reducible refine AW.block ?_))
    | (with_reducible refine AW.scope ?_)
    | ((with_reducible refine AW.label ?_); (conv => whnf))
    | ((with_reducible refine AW.exit ?_); (conv => whnf))
    | ((with_reducible refine AW.skip ?_); (conv => whnf))
    | ((with_reducible refine AW.cond ?_); (conv => whnf))
    | ((with_reducible refine Own2.data ?_); (conv => whnf))
    | ((with_reducible refine ACall.id ?_); (refine PCall.call (by first | exact c128 _) rfl ?_); (intro x hx; first | subst hx | (obtain ⟨l_, rfl, hl_⟩ := hx.out)); (conv => whnf))
    | ((with_reducible refine ACall.freeze rfl ?_); (conv => whnf))
    | (refine ⟨true, _, rfl, ?_⟩; (conv => whnf))
    | (refine ⟨false, .nilp, rfl, ?_⟩; (conv => whnf))
    | (refine ⟨_, _, by first | exact c128 _, ?_⟩; (conv => whnf))
    | ((with_reducible apply Or.inl); (refine ⟨rfl, rfl, ?_⟩); (conv => whnf))
    | (refine ⟨_, ⟨rfl, rfl⟩, ?_⟩; (conv => whnf))
    | (refine ⟨_, ⟨rfl, getM (by first | omega | (simp; omega))⟩, ?_⟩; (conv => whnf))
    | ((with_reducible apply Or.inl); apply Exists.intro; apply And.intro; (focus (intro hg; (conv => whnf); (repeat' first | (with_reducible exact ⟨rfl, rfl⟩) | ((with_reducible refine Own2.data ?_); (conv => whnf)) | (refine ⟨true, _, rfl, ?_⟩; (conv => whnf)) | (refine ⟨false, .nilp, rfl, ?_⟩; (conv => whnf)) | (refine ⟨_, _, by first | exact c128 _, ?_⟩; (conv => whnf)) | ((with_reducible apply Or.inl); (refine ⟨rfl, rfl, ?_⟩); (conv => whnf)) | ((with_reducible apply Or.inl); (with_reducible apply And.intro); (focus (simp only [rng]; omega)); (conv => whnf)) | (refine ⟨by first | omega | (simp at hg ⊢; omega) | (simp_all; first | done | fail), ?_⟩; (conv => whnf)) | ((with_reducible refine ACall.id ?_); (refine PCall.call (by first | exact c128 _) rfl ?_); (intro x hx; first | subst hx | (obtain ⟨l_, rfl, hl_⟩ := hx.out)); (conv => whnf)) | (intro hlen; (conv => whnf))); done)); (conv => whnf))
    | (apply Exists.intro; apply And.intro; (focus (first | (intro hg; (conv => whnf)) | (conv => whnf)); (repeat' first | (with_reducible exact ⟨rfl, rfl⟩) | ((with_reducible refine Own2.data ?_); (conv => whnf)) | (refine ⟨true, _, rfl, ?_⟩; (conv => whnf)) | (refine ⟨false, .nilp, rfl, ?_⟩; (conv => whnf)) | (refine ⟨_, _, by first | exact c128 _, ?_⟩; (conv => whnf)) | ((with_reducible apply Or.inl); (refine ⟨rfl, rfl, ?_⟩); (conv => whnf)) | ((with_reducible apply Or.inl); (with_reducible apply And.intro); (focus (simp only [rng]; omega)); (conv => whnf)) | (refine ⟨by first | omega | (simp at hg ⊢; omega) | (simp_all; first | done | fail), ?_⟩; (conv => whnf)) | ((with_reducible refine ACall.id ?_); (refine PCall.call (by first | exact c128 _) rfl ?_); (intro x hx; first | subst hx | (obtain ⟨l_, rfl, hl_⟩ := hx.out)); (conv => whnf)) | (intro hlen; (conv => whnf))); done); (conv => whnf))
    | ((with_reducible apply Or.inl); (with_reducible apply And.intro); (focus (simp only [rng]; omega)); (conv => whnf))
    | ((with_reducible apply Or.inr); (with_reducible apply And.intro) <;> (intro hb; (try simp at hb); (try (exfalso; first | omega | (simp_all; first | done | fail))); (try (conv => whnf))))
    | ((with_reducible apply And.intro); (focus (first | omega | (exact True.intro) | (simp; omega) | (exact Nat.le_of_ble_eq_true rfl) | (exact ⟨rfl, Nat.le_of_ble_eq_true rfl⟩) | (exact ⟨Nat.le_of_ble_eq_true rfl, Nat.le_of_ble_eq_true rfl⟩) | (intro hg; first | (simp; first | done | fail) | (simp at hg ⊢; exact hg) | (simp at hg; exact hg) | exact hg))); (conv => whnf))
    | ((with_reducible apply And.intro) <;> (intro hb; (try simp at hb); (try (exfalso; first | omega | (simp_all; first | done | fail))); (try (conv => whnf))))
    | (intro hlen; (conv => whnf))
    | ((with_reducible refine And.intro (Side.out ?_) ?_); rotate_left; (conv => whnf); rotate_right)
  · congr 2; rw [Bool.eq_iff_iff]; simp [letter]; omega

theorem c124 (c : UInt8) : PCall Try.prog 124 [.d (.int .u8 c.toNat)] (fun x => x = .d (.bool (word c))) := by
  refine PCall.intro Try.tabOk Try.f124 _ Try.func124 rfl (by decide) rfl fun z => ?_
  repeat' first
    | (with_reducible refine AW.seq ?_)
    | ((with_reducible refine AW.region Try.tabOk ?_); (conv => whnf))
    | ((with_reducible refine AW.draw Try.tabOk Try.mixed ?_ ?_); (focus rfl); (conv => whnf))
    | ((with_reducible refine AW.ret ?_); (conv => whnf))
    | ((with_reducible refine AW.block ?_))
    | (with_reducible refine AW.scope ?_)
    | ((with_reducible refine AW.label ?_); (conv => whnf))
    | ((with_reducible refine AW.exit ?_); (conv => whnf))
    | ((with_reducible refine AW.skip ?_); (conv => whnf))
    | ((with_reducible refine AW.cond ?_); (conv => whnf))
    | ((with_reducible refine Own2.data ?_); (conv => whnf))
    | ((with_reducible refine ACall.id ?_); (refine PCall.call (by first | exact c128 _ | exact c125 _) rfl ?_); (intro x hx; first | subst hx | (obtain ⟨l_, rfl, hl_⟩ := hx.out)); (conv => whnf))
    | ((with_reducible refine ACall.freeze rfl ?_); (conv => whnf))
    | (refine ⟨true, _, rfl, ?_⟩; (conv => whnf))
    | (refine ⟨false, .nilp, rfl, ?_⟩; (conv => whnf))
    | (refine ⟨_, _, by first | exact c128 _ | exact c125 _, ?_⟩; (conv => whnf))
    | ((with_reducible apply Or.inl); (refine ⟨rfl, rfl, ?_⟩); (conv => whnf))
    | (refine ⟨_, ⟨rfl, rfl⟩, ?_⟩; (conv => whnf))
    | (refine ⟨_, ⟨rfl, getM (by first | omega | (simp; omega))⟩, ?_⟩; (conv => whnf))
    | ((with_reducible apply Or.inl); apply Exists.intro; apply And.intro; (focus (intro hg; (conv => whnf); (repeat' first | (with_reducible exact ⟨rfl, rfl⟩) | ((with_reducible refine Own2.data ?_); (conv => whnf)) | (refine ⟨true, _, rfl, ?_⟩; (conv => whnf)) | (refine ⟨false, .nilp, rfl, ?_⟩; (conv => whnf)) | (refine ⟨_, _, by first | exact c128 _ | exact c125 _, ?_⟩; (conv => whnf)) | ((with_reducible apply Or.inl); (refine ⟨rfl, rfl, ?_⟩); (conv => whnf)) | ((with_reducible apply Or.inl); (with_reducible apply And.intro); (focus (simp only [rng]; omega)); (conv => whnf)) | (refine ⟨by first | omega | (simp at hg ⊢; omega) | (simp_all; first | done | fail), ?_⟩; (conv => whnf)) | ((with_reducible refine ACall.id ?_); (refine PCall.call (by first | exact c128 _ | exact c125 _) rfl ?_); (intro x hx; first | subst hx | (obtain ⟨l_, rfl, hl_⟩ := hx.out)); (conv => whnf)) | (intro hlen; (conv => whnf))); done)); (conv => whnf))
    | (apply Exists.intro; apply And.intro; (focus (first | (intro hg; (conv => whnf)) | (conv => whnf)); (repeat' first | (with_reducible exact ⟨rfl, rfl⟩) | ((with_reducible refine Own2.data ?_); (conv => whnf)) | (refine ⟨true, _, rfl, ?_⟩; (conv => whnf)) | (refine ⟨false, .nilp, rfl, ?_⟩; (conv => whnf)) | (refine ⟨_, _, by first | exact c128 _ | exact c125 _, ?_⟩; (conv => whnf)) | ((with_reducible apply Or.inl); (refine ⟨rfl, rfl, ?_⟩); (conv => whnf)) | ((with_reducible apply Or.inl); (with_reducible apply And.intro); (focus (simp only [rng]; omega)); (conv => whnf)) | (refine ⟨by first | omega | (simp at hg ⊢; omega) | (simp_all; first | done | fail), ?_⟩; (conv => whnf)) | ((with_reducible refine ACall.id ?_); (refine PCall.call (by first | exact c128 _ | exact c125 _) rfl ?_); (intro x hx; first | subst hx | (obtain ⟨l_, rfl, hl_⟩ := hx.out)); (conv => whnf)) | (intro hlen; (conv => whnf))); done); (conv => whnf))
    | ((with_reducible apply Or.inl); (with_reducible apply And.intro); (focus (simp only [rng]; omega)); (conv => whnf))
    | ((with_reducible apply Or.inr); (with_reducible apply And.intro) <;> (intro hb; (try simp at hb); (try (exfalso; first | omega | (simp_all; first | done | fail))); (try (conv => whnf))))
    | ((with_reducible apply And.intro); (focus (first | omega | (exact True.intro) | (simp; omega) | (exact Nat.le_of_ble_eq_true rfl) | (exact ⟨rfl, Nat.le_of_ble_eq_true rfl⟩) | (exact ⟨Nat.le_of_ble_eq_true rfl, Nat.le_of_ble_eq_true rfl⟩) | (intro hg; first | (simp; first | done | fail) | (simp at hg ⊢; exact hg) | (simp at hg; exact hg) | exact hg))); (conv => whnf))
    | ((with_reducible apply And.intro) <;> (intro hb; (try simp at hb); (try (exfalso; first | omega | (simp_all; first | done | fail))); (try (conv => whnf))))
    | (intro hlen; (conv => whnf))
    | ((with_reducible refine And.intro (Side.out ?_) ?_); rotate_left; (conv => whnf); rotate_right)
  · have h : ((c.toNat : Int) == 95) = decide (c.toNat = 95) := by
      rw [Bool.eq_iff_iff]; simp; omega
    congr 2
    rw [h]
    cases hl : letter c <;> cases hd : digit c <;> simp [word, hl, hd]

def nameB (t : Str) : Bool := t.all word && decide (0 < t.length) && decide (t.length ≤ 24) && letter (t.getD 0 0)

theorem c116 (t : Str) : PCall Try.prog 116 [.d (.str t)] (fun x => x = .d (.bool (nameB t))) := by
  refine PCall.intro Try.tabOk Try.f116 _ Try.func116 rfl (by decide) rfl fun z => ?_
  repeat' first
    | (with_reducible refine AW.seq ?_)
    | ((with_reducible refine AW.region Try.tabOk ?_); (conv => whnf))
    | ((with_reducible refine AW.draw Try.tabOk Try.mixed ?_ ?_); (focus rfl); (conv => whnf))
    | ((with_reducible refine AW.ret ?_); (conv => whnf))
    | ((with_reducible refine AW.block ?_))
    | (with_reducible refine AW.scope ?_)
    | ((with_reducible refine AW.label ?_); (conv => whnf))
    | ((with_reducible refine AW.exit ?_); (conv => whnf))
    | ((with_reducible refine AW.skip ?_); (conv => whnf))
    | ((with_reducible refine AW.cond ?_); (conv => whnf))
    | ((with_reducible refine Own2.data ?_); (conv => whnf))
    | ((with_reducible refine ACall.id ?_); (refine PCall.call (by first | exact c124 _ | exact c125 _) rfl ?_); (intro x hx; first | subst hx | (obtain ⟨l_, rfl, hl_⟩ := hx.out)); (conv => whnf))
    | ((with_reducible refine ACall.freeze rfl ?_); (conv => whnf))
    | (refine ⟨true, _, rfl, ?_⟩; (conv => whnf))
    | (refine ⟨false, .nilp, rfl, ?_⟩; (conv => whnf))
    | (refine ⟨_, _, by first | exact c124 _ | exact c125 _, ?_⟩; (conv => whnf))
    | ((with_reducible apply Or.inl); (refine ⟨rfl, rfl, ?_⟩); (conv => whnf))
    | (refine ⟨_, ⟨rfl, rfl⟩, ?_⟩; (conv => whnf))
    | (refine ⟨_, ⟨rfl, getM (by first | omega | (simp; omega))⟩, ?_⟩; (conv => whnf))
    | ((with_reducible apply Or.inl); apply Exists.intro; apply And.intro; (focus (intro hg; (conv => whnf); (repeat' first | (with_reducible exact ⟨rfl, rfl⟩) | ((with_reducible refine Own2.data ?_); (conv => whnf)) | (refine ⟨true, _, rfl, ?_⟩; (conv => whnf)) | (refine ⟨false, .nilp, rfl, ?_⟩; (conv => whnf)) | (refine ⟨_, _, by first | exact c124 _ | exact c125 _, ?_⟩; (conv => whnf)) | ((with_reducible apply Or.inl); (refine ⟨rfl, rfl, ?_⟩); (conv => whnf)) | ((with_reducible apply Or.inl); (with_reducible apply And.intro); (focus (simp only [rng]; omega)); (conv => whnf)) | (refine ⟨by first | omega | (simp at hg ⊢; omega) | (simp_all; first | done | fail), ?_⟩; (conv => whnf)) | ((with_reducible refine ACall.id ?_); (refine PCall.call (by first | exact c124 _ | exact c125 _) rfl ?_); (intro x hx; first | subst hx | (obtain ⟨l_, rfl, hl_⟩ := hx.out)); (conv => whnf)) | (intro hlen; (conv => whnf))); done)); (conv => whnf))
    | (apply Exists.intro; apply And.intro; (focus (first | (intro hg; (conv => whnf)) | (conv => whnf)); (repeat' first | (with_reducible exact ⟨rfl, rfl⟩) | ((with_reducible refine Own2.data ?_); (conv => whnf)) | (refine ⟨true, _, rfl, ?_⟩; (conv => whnf)) | (refine ⟨false, .nilp, rfl, ?_⟩; (conv => whnf)) | (refine ⟨_, _, by first | exact c124 _ | exact c125 _, ?_⟩; (conv => whnf)) | ((with_reducible apply Or.inl); (refine ⟨rfl, rfl, ?_⟩); (conv => whnf)) | ((with_reducible apply Or.inl); (with_reducible apply And.intro); (focus (simp only [rng]; omega)); (conv => whnf)) | (refine ⟨by first | omega | (simp at hg ⊢; omega) | (simp_all; first | done | fail), ?_⟩; (conv => whnf)) | ((with_reducible refine ACall.id ?_); (refine PCall.call (by first | exact c124 _ | exact c125 _) rfl ?_); (intro x hx; first | subst hx | (obtain ⟨l_, rfl, hl_⟩ := hx.out)); (conv => whnf)) | (intro hlen; (conv => whnf))); done); (conv => whnf))
    | ((with_reducible apply Or.inl); (with_reducible apply And.intro); (focus (simp only [rng]; omega)); (conv => whnf))
    | ((with_reducible apply Or.inr); (with_reducible apply And.intro) <;> (intro hb; (try simp at hb); (try (exfalso; first | omega | (simp_all; first | done | fail))); (try (conv => whnf))))
    | ((with_reducible apply And.intro); (focus (first | omega | (exact True.intro) | (simp; omega) | (exact Nat.le_of_ble_eq_true rfl) | (exact ⟨rfl, Nat.le_of_ble_eq_true rfl⟩) | (exact ⟨Nat.le_of_ble_eq_true rfl, Nat.le_of_ble_eq_true rfl⟩) | (intro hg; first | (simp; first | done | fail) | (simp at hg ⊢; exact hg) | (simp at hg; exact hg) | exact hg))); (conv => whnf))
    | ((with_reducible apply And.intro) <;> (intro hb; (try simp at hb); (try (exfalso; first | omega | (simp_all; first | done | fail))); (try (conv => whnf))))
    | (intro hlen; (conv => whnf))
    | ((with_reducible refine And.intro (Side.out ?_) ?_); rotate_left; (conv => whnf); rotate_right)
  refine AW.loopX (X := Nat) (fun i => ⟨[(0, .d (.str t)), (3, .d (.int .i64 (i : Int)))], Heap.none, none, z⟩) (fun i => i ≤ t.length ∧ ∀ j, j < i → word (t.getD j 0) = true) (fun i => t.length - i) 0
    ⟨by omega, fun j h => by omega⟩ ⟨rfl, rfl, rfl, trivial, ⟨AV.le_refl _, AV.le_refl _, trivial⟩⟩ ?_
  intro i ⟨hi, hw⟩
  repeat' first
    | (with_reducible refine AW.seq ?_)
    | ((with_reducible refine AW.region Try.tabOk ?_); (conv => whnf))
    | ((with_reducible refine AW.draw Try.tabOk Try.mixed ?_ ?_); (focus rfl); (conv => whnf))
    | ((with_reducible refine AW.ret ?_); (conv => whnf))
    | ((with_reducible refine AW.block ?_))
    | (with_reducible refine AW.scope ?_)
    | ((with_reducible refine AW.label ?_); (conv => whnf))
    | ((with_reducible refine AW.exit ?_); (conv => whnf))
    | ((with_reducible refine AW.skip ?_); (conv => whnf))
    | ((with_reducible refine AW.cond ?_); (conv => whnf))
    | ((with_reducible refine Own2.data ?_); (conv => whnf))
    | ((with_reducible refine ACall.id ?_); (refine PCall.call (by first | exact c124 _ | exact c125 _) rfl ?_); (intro x hx; first | subst hx | (obtain ⟨l_, rfl, hl_⟩ := hx.out)); (conv => whnf))
    | ((with_reducible refine ACall.freeze rfl ?_); (conv => whnf))
    | (refine ⟨true, _, rfl, ?_⟩; (conv => whnf))
    | (refine ⟨false, .nilp, rfl, ?_⟩; (conv => whnf))
    | (refine ⟨_, _, by first | exact c124 _ | exact c125 _, ?_⟩; (conv => whnf))
    | ((with_reducible apply Or.inl); (refine ⟨rfl, rfl, ?_⟩); (conv => whnf))
    | (refine ⟨_, ⟨rfl, rfl⟩, ?_⟩; (conv => whnf))
    | (refine ⟨_, ⟨rfl, getM (by first | omega | (simp; omega))⟩, ?_⟩; (conv => whnf))
    | ((with_reducible apply Or.inl); apply Exists.intro; apply And.intro; (focus (intro hg; (conv => whnf); (repeat' first | (with_reducible exact ⟨rfl, rfl⟩) | ((with_reducible refine Own2.data ?_); (conv => whnf)) | (refine ⟨true, _, rfl, ?_⟩; (conv => whnf)) | (refine ⟨false, .nilp, rfl, ?_⟩; (conv => whnf)) | (refine ⟨_, _, by first | exact c124 _ | exact c125 _, ?_⟩; (conv => whnf)) | ((with_reducible apply Or.inl); (refine ⟨rfl, rfl, ?_⟩); (conv => whnf)) | ((with_reducible apply Or.inl); (with_reducible apply And.intro); (focus (simp only [rng]; omega)); (conv => whnf)) | (refine ⟨by first | omega | (simp at hg ⊢; omega) | (simp_all; first | done | fail), ?_⟩; (conv => whnf)) | ((with_reducible refine ACall.id ?_); (refine PCall.call (by first | exact c124 _ | exact c125 _) rfl ?_); (intro x hx; first | subst hx | (obtain ⟨l_, rfl, hl_⟩ := hx.out)); (conv => whnf)) | (intro hlen; (conv => whnf))); done)); (conv => whnf))
    | (apply Exists.intro; apply And.intro; (focus (first | (intro hg; (conv => whnf)) | (conv => whnf)); (repeat' first | (with_reducible exact ⟨rfl, rfl⟩) | ((with_reducible refine Own2.data ?_); (conv => whnf)) | (refine ⟨true, _, rfl, ?_⟩; (conv => whnf)) | (refine ⟨false, .nilp, rfl, ?_⟩; (conv => whnf)) | (refine ⟨_, _, by first | exact c124 _ | exact c125 _, ?_⟩; (conv => whnf)) | ((with_reducible apply Or.inl); (refine ⟨rfl, rfl, ?_⟩); (conv => whnf)) | ((with_reducible apply Or.inl); (with_reducible apply And.intro); (focus (simp only [rng]; omega)); (conv => whnf)) | (refine ⟨by first | omega | (simp at hg ⊢; omega) | (simp_all; first | done | fail), ?_⟩; (conv => whnf)) | ((with_reducible refine ACall.id ?_); (refine PCall.call (by first | exact c124 _ | exact c125 _) rfl ?_); (intro x hx; first | subst hx | (obtain ⟨l_, rfl, hl_⟩ := hx.out)); (conv => whnf)) | (intro hlen; (conv => whnf))); done); (conv => whnf))
    | ((with_reducible apply Or.inl); (with_reducible apply And.intro); (focus (simp only [rng]; omega)); (conv => whnf))
    | ((with_reducible apply Or.inr); (with_reducible apply And.intro) <;> (intro hb; (try simp at hb); (try (exfalso; first | omega | (simp_all; first | done | fail))); (try (conv => whnf))))
    | ((with_reducible apply And.intro); (focus (first | omega | (exact True.intro) | (simp; omega) | (exact Nat.le_of_ble_eq_true rfl) | (exact ⟨rfl, Nat.le_of_ble_eq_true rfl⟩) | (exact ⟨Nat.le_of_ble_eq_true rfl, Nat.le_of_ble_eq_true rfl⟩) | (intro hg; first | (simp; first | done | fail) | (simp at hg ⊢; exact hg) | (simp at hg; exact hg) | exact hg))); (conv => whnf))
    | ((with_reducible apply And.intro) <;> (intro hb; (try simp at hb); (try (exfalso; first | omega | (simp_all; first | done | fail))); (try (conv => whnf))))
    | (intro hlen; (conv => whnf))
    | ((with_reducible refine And.intro (Side.out ?_) ?_); rotate_left; (conv => whnf); rotate_right)
  · rename_i hit
    have hf : t.all word = false := by
      rw [List.all_eq_false]
      refine ⟨t[i], by simp, ?_⟩
      simp [hit] at hb
      simp [hb]
    simp [nameB, hf]
  · rename_i hit
    refine .mk (i + 1) ⟨by omega, fun j hj => ?_⟩ (by show t.length - (i + 1) < t.length - i; omega) ⟨rfl, rfl, rfl, trivial, ⟨AV.le_refl _, AV.le_refl _, trivial⟩⟩
    by_cases hji : j = i
    · subst hji; simpa using hb
    · exact hw j (by omega)
  · have he : i = t.length := by omega
    subst he
    have hf : t.all word = true := by
      rw [List.all_eq_true]
      intro x hx
      obtain ⟨j, hj, rfl⟩ := List.mem_iff_getElem.1 hx
      have := hw j hj
      simpa [hj] using this
    congr 2
    simp only [nameB, hf]
    rw [Bool.eq_iff_iff]
    simp
    intros
    omega
end Go.Proofs
end
section
/- Contracts: equality of lists. -/
namespace Go.Proofs
open Go.Pm
set_option maxRecDepth 100000

theorem eq_of_getD {α : Type} {a b : List α} (d : α) (hl : a.length = b.length) (h : ∀ j, j < a.length → a.getD j d = b.getD j d) : a = b := by
  apply List.ext_getElem hl
  intro i h1 h2
  have := h i h1
  simpa [List.getD_eq_getElem?_getD, h1, h2] using this

theorem c65 (a b : List Str) : PCall Try.prog 65 [.d (encStrs a), .d (encStrs b)] (fun x => x = .d (.bool (a == b))) := by
  refine PCall.intro Try.tabOk Try.f65 _ Try.func65 rfl (by decide) rfl fun z => ?_
  repeat' first
    | (with_reducible refine AW.seq ?_)
    | ((with_reducible refine AW.region Try.tabOk ?_); (conv => whnf))
    | ((with_reducible refine AW.draw Try.tabOk Try.mixed ?_ ?_); (focus rfl); (conv => whnf))
    | ((with_reducible refine AW.ret ?_); (conv => whnf))
    | ((with_reducible refine AW.block ?_))
    | (with_reducible refine AW.scope ?_)
    | ((with_reducible refine AW.label ?_); (conv => whnf))
    | ((with_reducible refine AW.exit ?_); (conv => whnf))
    | ((with_reducible refine AW.skip ?_); (conv => whnf))
    | ((with_reducible refine AW.cond ?_); (conv => whnf))
    | ((with_reducible refine Own2.data ?_); (conv => whnf))
    | ((with_reducible refine ACall.id ?_); (refine PCall.call (by first | fail) rfl ?_); (intro x hx; first | subst hx | (obtain ⟨l_, rfl, hl_⟩ := hx.out)); (conv => whnf))
    | ((with_reducible refine ACall.freeze rfl ?_); (conv => whnf))
    | (refine ⟨true, _, rfl, ?_⟩; (conv => whnf))
    | (refine ⟨false, .nilp, rfl, ?_⟩; (conv => whnf))
    | (refine ⟨_, _, by first | fail, ?_⟩; (conv => whnf))
    | ((with_reducible apply Or.inl); (refine ⟨rfl, rfl, ?_⟩); (conv => whnf))
    | (refine ⟨_, ⟨rfl, rfl⟩, ?_⟩; (conv => whnf))
    | (refine ⟨_, ⟨rfl, getM (by first | omega | (simp; omega))⟩, ?_⟩; (conv => whnf))
    | ((with_reducible apply Or.inl); apply Exists.intro; apply And.intro; (focus (intro hg; (conv => whnf); (repeat' first | (with_reducible exact ⟨rfl, rfl⟩) | ((with_reducible refine Own2.data ?_); (conv => whnf)) | (refine ⟨true, _, rfl, ?_⟩; (conv => whnf)) | (refine ⟨false, .nilp, rfl, ?_⟩; (conv => whnf)) | (refine ⟨_, _, by first | fail, ?_⟩; (conv => whnf)) | ((with_reducible apply Or.inl); (refine ⟨rfl, rfl, ?_⟩); (conv => whnf)) | ((with_reducible apply Or.inl); (with_reducible apply And.intro); (focus (simp only [rng]; omega)); (conv => whnf)) | (refine ⟨by first | omega | (simp at hg ⊢; omega) | (simp_all; first | done | fail), ?_⟩; (conv => whnf)) | ((with_reducible refine ACall.id ?_); (refine PCall.call (by first | fail) rfl ?_); (intro x hx; first | subst hx | (obtain ⟨l_, rfl, hl_⟩ := hx.out)); (conv => whnf)) | (intro hlen; (conv => whnf))); done)); (conv => whnf))
    | (apply Exists.intro; apply And.intro; (focus (first | (intro hg; (conv => whnf)) | (conv => whnf)); (repeat' first | (with_reducible exact ⟨rfl, rfl⟩) | ((with_reducible refine Own2.data ?_); (conv => whnf)) | (refine ⟨true, _, rfl, ?_⟩; (conv => whnf)) | (refine ⟨false, .nilp, rfl, ?_⟩; (conv => whnf)) | (refine ⟨_, _, by first | fail, ?_⟩; (conv => whnf)) | ((with_reducible apply Or.inl); (refine ⟨rfl, rfl, ?_⟩); (conv => whnf)) | ((with_reducible apply Or.inl); (with_reducible apply And.intro); (focus (simp only [rng]; omega)); (conv => whnf)) | (refine ⟨by first | omega | (simp at hg ⊢; omega) | (simp_all; first | done | fail), ?_⟩; (conv => whnf)) | ((with_reducible refine ACall.id ?_); (refine PCall.call (by first | fail) rfl ?_); (intro x hx; first | subst hx | (obtain ⟨l_, rfl, hl_⟩ := hx.out)); (conv => whnf)) | (intro hlen; (conv => whnf))); done); (conv => whnf))
    | ((with_reducible apply Or.inl); (with_reducible apply And.intro); (focus (simp only [rng]; omega)); (conv => whnf))
    | ((with_reducible apply Or.inr); (with_reducible apply And.intro) <;> (intro hb; (try simp at hb); (try (exfalso; first | omega | (simp_all; first | done | fail))); (try (conv => whnf))))
    | ((with_reducible apply And.intro); (focus (first | omega | (exact True.intro) | (simp; omega) | (exact Nat.le_of_ble_eq_true rfl) | (exact ⟨rfl, Nat.le_of_ble_eq_true rfl⟩) | (exact ⟨Nat.le_of_ble_eq_true rfl, Nat.le_of_ble_eq_true rfl⟩) | (intro hg; first | (simp; first | done | fail) | (simp at hg ⊢; exact hg) | (simp at hg; exact hg) | exact hg))); (conv => whnf))
    | ((with_reducible apply And.intro) <;> (intro hb; (try simp at hb); (try (exfalso; first | omega | (simp_all; first | done | fail))); (try (conv => whnf))))
    | (intro hlen; (conv => whnf))
    | ((with_reducible refine And.intro (Side.out ?_) ?_); rotate_left; (conv => whnf); rotate_right)
  · have : (a == b) = false := Bool.eq_false_iff.2 fun h => hb (by rw [eq_of_beq h])
    rw [this]
  have hab : a.length = b.length := by omega
  refine AW.loopX (X := Nat) (fun i => ⟨[(0, .d (encStrs a)), (1, .d (encStrs b)), (5, .d (.int .i64 (i : Int)))], Heap.none, none, z⟩)
    (fun i => i ≤ a.length ∧ ∀ j, j < i → a.getD j [] = b.getD j []) (fun i => a.length - i) 0 ⟨by omega, fun j h => by omega⟩ ⟨rfl, rfl, rfl, trivial, ⟨AV.le_refl _, AV.le_refl _, AV.le_refl _, trivial⟩⟩ ?_
  intro i ⟨hi, hw⟩
  repeat' first
    | (with_reducible refine AW.seq ?_)
    | ((with_reducible refine AW.region Try.tabOk ?_); (conv => whnf))
    | ((with_reducible refine AW.draw Try.tabOk Try.mixed ?_ ?_); (focus rfl); (conv => whnf))
    | ((with_reducible refine AW.ret ?_); (conv => whnf))
    | ((with_reducible refine AW.block ?_))
    | (with_reducible refine AW.scope ?_)
    | ((with_reducible refine AW.label ?_); (conv => whnf))
    | ((with_reducible refine AW.exit ?_); (conv => whnf))
    | ((with_reducible refine AW.skip ?_); (conv => whnf))
    | ((with_reducible refine AW.cond ?_); (conv => whnf))
    | ((with_reducible refine Own2.data ?_); (conv => whnf))
    | ((with_reducible refine ACall.id ?_); (refine PCall.call (by first | fail) rfl ?_); (intro x hx; first | subst hx | (obtain ⟨l_, rfl, hl_⟩ := hx.out)); (conv => whnf))
    | ((with_reducible refine ACall.freeze rfl ?_); (conv => whnf))
    | (refine ⟨true, _, rfl, ?_⟩; (conv => whnf))
    | (refine ⟨false, .nilp, rfl, ?_⟩; (conv => whnf))
    | (refine ⟨_, _, by first | fail, ?_⟩; (conv => whnf))
    | ((with_reducible apply Or.inl); (refine ⟨rfl, rfl, ?_⟩); (conv => whnf))
    | (refine ⟨_, ⟨rfl, rfl⟩, ?_⟩; (conv => whnf))
    | (refine ⟨_, ⟨rfl, getM (by first | omega | (simp; omega))⟩, ?_⟩; (conv => whnf))
    | ((with_reducible apply Or.inl); apply Exists.intro; apply And.intro; (focus (intro hg; (conv => whnf); (repeat' first | (with_reducible exact ⟨rfl, rfl⟩) | ((with_reducible refine Own2.data ?_); (conv => whnf)) | (refine ⟨true, _, rfl, ?_⟩; (conv => whnf)) | (refine ⟨false, .nilp, rfl, ?_⟩; (conv => whnf)) | (refine ⟨_, _, by first | fail, ?_⟩; (conv => whnf)) | ((with_reducible apply Or.inl); (refine ⟨rfl, rfl, ?_⟩); (conv => whnf)) | ((with_reducible apply Or.inl); (with_reducible apply And.intro); (focus (simp only [rng]; omega)); (conv => whnf)) | (refine ⟨by first | omega | (simp at hg ⊢; omega) | (simp_all; first | done | fail), ?_⟩; (conv => whnf)) | ((with_reducible refine ACall.id ?_); (refine PCall.call (by first | fail) rfl ?_); (intro x hx; first | subst hx | (obtain ⟨l_, rfl, hl_⟩ := hx.out)); (conv => whnf)) | (intro hlen; (conv => whnf))); done)); (conv => whnf))
    | (apply Exists.intro; apply And.intro; (focus (first | (intro hg; (conv => whnf)) | (conv => whnf)); (repeat' first | (with_reducible exact ⟨rfl, rfl⟩) | ((with_reducible refine Own2.data ?_); (conv => whnf)) | (refine ⟨true, _, rfl, ?_⟩; (conv => whnf)) | (refine ⟨false, .nilp, rfl, ?_⟩; (conv => whnf)) | (refine ⟨_, _, by first | fail, ?_⟩; (conv => whnf)) | ((with_reducible apply Or.inl); (refine ⟨rfl, rfl, ?_⟩); (conv => whnf)) | ((with_reducible apply Or.inl); (with_reducible apply And.intro); (focus (simp only [rng]; omega)); (conv => whnf)) | (refine ⟨by first | omega | (simp at hg ⊢; omega) | (simp_all; first | done | fail), ?_⟩; (conv => whnf)) | ((with_reducible refine ACall.id ?_); (refine PCall.call (by first | fail) rfl ?_); (intro x hx; first | subst hx | (obtain ⟨l_, rfl, hl_⟩ := hx.out)); (conv => whnf)) | (intro hlen; (conv => whnf))); done); (conv => whnf))
    | ((with_reducible apply Or.inl); (with_reducible apply And.intro); (focus (simp only [rng]; omega)); (conv => whnf))
    | ((with_reducible apply Or.inr); (with_reducible apply And.intro) <;> (intro hb; (try simp at hb); (try (exfalso; first | omega | (simp_all; first | done | fail))); (try (conv => whnf))))
    | ((with_reducible apply And.intro); (focus (first | omega | (exact True.intro) | (simp; omega) | (exact Nat.le_of_ble_eq_true rfl) | (exact ⟨rfl, Nat.le_of_ble_eq_true rfl⟩) | (exact ⟨Nat.le_of_ble_eq_true rfl, Nat.le_of_ble_eq_true rfl⟩) | (intro hg; first | (simp; first | done | fail) | (simp at hg ⊢; exact hg) | (simp at hg; exact hg) | exact hg))); (conv => whnf))
    | ((with_reducible apply And.intro) <;> (intro hb; (try simp at hb); (try (exfalso; first | omega | (simp_all; first | done | fail))); (try (conv => whnf))))
    | (intro hlen; (conv => whnf))
    | ((with_reducible refine And.intro (Side.out ?_) ?_); rotate_left; (conv => whnf); rotate_right)
  · have : (a == b) = false := Bool.eq_false_iff.2 fun h => hb (by rw [eq_of_beq h])
    rw [this]
  · rename_i hit
    exact .mk (i + 1) ⟨by omega, fun j hj => by
      by_cases e : j = i
      · subst e; simpa [List.getD_eq_getElem?_getD] using hb
      · exact hw j (by omega)⟩ (by show a.length - (i + 1) < a.length - i; omega) ⟨rfl, rfl, rfl, trivial, ⟨AV.le_refl _, AV.le_refl _, AV.le_refl _, trivial⟩⟩
  · have : a = b := eq_of_getD [] hab fun j hj => hw j (by omega)
    rw [this]; simp
end Go.Proofs
end
section
/- Contracts: sizes and small searches. -/
namespace Go.Proofs
open Go.Pm
set_option maxRecDepth 100000

theorem all_of_getD {α : Type} {L : List α} {p : α → Bool} (d : α) (h : ∀ j, j < L.length → p (L.getD j d) = true) : L.all p = true := by
  rw [List.all_eq_true]
  intro x hx
  obtain ⟨j, hj, rfl⟩ := List.mem_iff_getElem.1 hx
  have := h j hj
  simpa [List.getD_eq_getElem?_getD, hj] using this
theorem not_all_of_getD {α : Type} {L : List α} {p : α → Bool} (d : α) {j : Nat} (hj : j < L.length) (h : p (L.getD j d) = false) : L.all p = false := by
  rw [List.all_eq_false]
  exact ⟨L[j], by simp, by simpa [List.getD_eq_getElem?_getD, hj] using h⟩

theorem c41 (L : List Str) (v : Str) : PCall Try.prog 41 [.d (encStrs L), .d (.str v)] fun x => x = .d (.bool (decide (0 ≤ idx L v))) := by
  refine PCall.intro Try.tabOk Try.f41 _ Try.func41 rfl (by decide) rfl fun z => ?_
  repeat' first
    | (with_reducible refine AW.seq ?_)
    | ((with_reducible refine AW.region Try.tabOk ?_); (conv => whnf))
    | ((with_reducible refine AW.draw Try.tabOk Try.mixed ?_ ?_); (focus rfl); (conv => whnf))
    | ((with_reducible refine AW.ret ?_); (conv => whnf))
    | ((with_reducible refine AW.block ?_))
    | (with_reducible refine AW.scope ?_)
    | ((with_reducible refine AW.label ?_); (conv => whnf))
    | ((with_reducible refine AW.exit ?_); (conv => whnf))
    | ((with_reducible refine AW.skip ?_); (conv => whnf))
    | ((with_reducible refine AW.cond ?_); (conv => whnf))
    | ((with_reducible refine Own2.data ?_); (conv => whnf))
    | ((with_reducible refine ACall.id ?_); (refine PCall.call (by first | fail) rfl ?_); (intro x hx; first | subst hx | (obtain ⟨l_, rfl, hl_⟩ := hx.out)); (conv => whnf))
    | ((with_reducible refine ACall.freeze rfl ?_); (conv => whnf))
    | (refine ⟨true, _, rfl, ?_⟩; (conv => whnf))
    | (refine ⟨false, .nilp, rfl, ?_⟩; (conv => whnf))
    | (refine ⟨_, _, by first | fail, ?_⟩; (conv => whnf))
    | ((with_reducible apply Or.inl); (refine ⟨rfl, rfl, ?_⟩); (conv => whnf))
    | (refine ⟨_, ⟨rfl, rfl⟩, ?_⟩; (conv => whnf))
    | (refine ⟨_, ⟨rfl, getM (by first | omega | (simp; omega))⟩, ?_⟩; (conv => whnf))
    | ((with_reducible apply Or.inl); apply Exists.intro; apply And.intro; (focus (intro hg; (conv => whnf); (repeat' first | (with_reducible exact ⟨rfl, rfl⟩) | ((with_reducible refine Own2.data ?_); (conv => whnf)) | (refine ⟨true, _, rfl, ?_⟩; (conv => whnf)) | (refine ⟨false, .nilp, rfl, ?_⟩; (conv => whnf)) | (refine ⟨_, _, by first | fail, ?_⟩; (conv => whnf)) | ((with_reducible apply Or.inl); (refine ⟨rfl, rfl, ?_⟩); (conv => whnf)) | ((with_reducible apply Or.inl); (with_reducible apply And.intro); (focus (simp only [rng]; omega)); (conv => whnf)) | (refine ⟨by first | omega | (simp at hg ⊢; omega) | (simp_all; first | done | fail), ?_⟩; (conv => whnf)) | ((with_reducible refine ACall.id ?_); (refine PCall.call (by first | fail) rfl ?_); (intro x hx; first | subst hx | (obtain ⟨l_, rfl, hl_⟩ := hx.out)); (conv => whnf)) | (intro hlen; (conv => whnf))); done)); (conv => whnf))
    | (apply Exists.intro; apply And.intro; (focus (first | (intro hg; (conv => whnf)) | (conv => whnf)); (repeat' first | (with_reducible exact ⟨rfl, rfl⟩) | ((with_reducible refine Own2.data ?_); (conv => whnf)) | (refine ⟨true, _, rfl, ?_⟩; (conv => whnf)) | (refine ⟨false, .nilp, rfl, ?_⟩; (conv => whnf)) | (refine ⟨_, _, by first | fail, ?_⟩; (conv => whnf)) | ((with_reducible apply Or.inl); (refine ⟨rfl, rfl, ?_⟩); (conv => whnf)) | ((with_reducible apply Or.inl); (with_reducible apply And.intro); (focus (simp only [rng]; omega)); (conv => whnf)) | (refine ⟨by first | omega | (simp at hg ⊢; omega) | (simp_all; first | done | fail), ?_⟩; (conv => whnf)) | ((with_reducible refine ACall.id ?_); (refine PCall.call (by first | fail) rfl ?_); (intro x hx; first | subst hx | (obtain ⟨l_, rfl, hl_⟩ := hx.out)); (conv => whnf)) | (intro hlen; (conv => whnf))); done); (conv => whnf))
    | ((with_reducible apply Or.inl); (with_reducible apply And.intro); (focus (simp only [rng]; omega)); (conv => whnf))
    | ((with_reducible apply Or.inr); (with_reducible apply And.intro) <;> (intro hb; (try simp at hb); (try (exfalso; first | omega | (simp_all; first | done | fail))); (try (conv => whnf))))
    | ((with_reducible apply And.intro); (focus (first | omega | (exact True.intro) | (simp; omega) | (exact Nat.le_of_ble_eq_true rfl) | (exact ⟨rfl, Nat.le_of_ble_eq_true rfl⟩) | (exact ⟨Nat.le_of_ble_eq_true rfl, Nat.le_of_ble_eq_true rfl⟩) | (intro hg; first | (simp; first | done | fail) | (simp at hg ⊢; exact hg) | (simp at hg; exact hg) | exact hg))); (conv => whnf))
    | ((with_reducible apply And.intro) <;> (intro hb; (try simp at hb); (try (exfalso; first | omega | (simp_all; first | done | fail))); (try (conv => whnf))))
    | (intro hlen; (conv => whnf))
    | ((with_reducible refine And.intro (Side.out ?_) ?_); rotate_left; (conv => whnf); rotate_right)
  refine AW.loopX (X := Nat) (fun i => ⟨[(0, .d (encStrs L)), (1, .d (.str v)), (5, .d (.int .i64 (i : Int)))], Heap.none, none, z⟩)
    (fun i => i ≤ L.length ∧ ∀ j, j < i → v ≠ L.getD j []) (fun i => L.length - i) 0 ⟨by omega, fun j h => by omega⟩ ⟨rfl, rfl, rfl, trivial, ⟨AV.le_refl _, AV.le_refl _, AV.le_refl _, trivial⟩⟩ ?_
  intro i ⟨hi, hw⟩
  repeat' first
    | (with_reducible refine AW.seq ?_)
    | ((with_reducible refine AW.region Try.tabOk ?_); (conv => whnf))
    | ((with_reducible refine AW.draw Try.tabOk Try.mixed ?_ ?_); (focus rfl); (conv => whnf))
    | ((with_reducible refine AW.ret ?_); (conv => whnf))
    | ((with_reducible refine AW.block ?_))
    | (with_reducible refine AW.scope ?_)
    | ((with_reducible refine AW.label ?_); (conv => whnf))
    | ((with_reducible refine AW.exit ?_); (conv => whnf))
    | ((with_reducible refine AW.skip ?_); (conv => whnf))
    | ((with_reducible refine AW.cond ?_); (conv => whnf))
    | ((with_reducible refine Own2.data ?_); (conv => whnf))
    | ((with_reducible refine ACall.id ?_); (refine PCall.call (by first | fail) rfl ?_); (intro x hx; first | subst hx | (obtain ⟨l_, rfl, hl_⟩ := hx.out)); (conv => whnf))
    | ((with_reducible refine ACall.freeze rfl ?_); (conv => whnf))
    | (refine ⟨true, _, rfl, ?_⟩; (conv => whnf))
    | (refine ⟨false, .nilp, rfl, ?_⟩; (conv => whnf))
    | (refine ⟨_, _, by first | fail, ?_⟩; (conv => whnf))
    | ((with_reducible apply Or.inl); (refine ⟨rfl, rfl, ?_⟩); (conv => whnf))
    | (refine ⟨_, ⟨rfl, rfl⟩, ?_⟩; (conv => whnf))
    | (refine ⟨_, ⟨rfl, getM (by first | omega | (simp; omega))⟩, ?_⟩; (conv => whnf))
    | ((with_reducible apply Or.inl); apply Exists.intro; apply And.intro; (focus (intro hg; (conv => whnf); (repeat' first | (with_reducible exact ⟨rfl, rfl⟩) | ((with_reducible refine Own2.data ?_); (conv => whnf)) | (refine ⟨true, _, rfl, ?_⟩; (conv => whnf)) | (refine ⟨false, .nilp, rfl, ?_⟩; (conv => whnf)) | (refine ⟨_, _, by first | fail, ?_⟩; (conv => whnf)) | ((with_reducible apply Or.inl); (refine ⟨rfl, rfl, ?_⟩); (conv => whnf)) | ((with_reducible apply Or.inl); (with_reducible apply And.intro); (focus (simp only [rng]; omega)); (conv => whnf)) | (refine ⟨by first | omega | (simp at hg ⊢; omega) | (simp_all; first | done | fail), ?_⟩; (conv => whnf)) | ((with_reducible refine ACall.id ?_); (refine PCall.call (by first | fail) rfl ?_); (intro x hx; first | subst hx | (obtain ⟨l_, rfl, hl_⟩ := hx.out)); (conv => whnf)) | (intro hlen; (conv => whnf))); done)); (conv => whnf))
    | (apply Exists.intro; apply And.intro; (focus (first | (intro hg; (conv => whnf)) | (conv => whnf)); (repeat' first | (with_reducible exact ⟨rfl, rfl⟩) | ((with_reducible refine Own2.data ?_); (conv => whnf)) | (refine ⟨true, _, rfl, ?_⟩; (conv => whnf)) | (refine ⟨false, .nilp, rfl, ?_⟩; (conv => whnf)) | (refine ⟨_, _, by first | fail, ?_⟩; (conv => whnf)) | ((with_reducible apply Or.inl); (refine ⟨rfl, rfl, ?_⟩); (conv => whnf)) | ((with_reducible apply Or.inl); (with_reducible apply And.intro); (focus (simp only [rng]; omega)); (conv => whnf)) | (refine ⟨by first | omega | (simp at hg ⊢; omega) | (simp_all; first | done | fail), ?_⟩; (conv => whnf)) | ((with_reducible refine ACall.id ?_); (refine PCall.call (by first | fail) rfl ?_); (intro x hx; first | subst hx | (obtain ⟨l_, rfl, hl_⟩ := hx.out)); (conv => whnf)) | (intro hlen; (conv => whnf))); done); (conv => whnf))
    | ((with_reducible apply Or.inl); (with_reducible apply And.intro); (focus (simp only [rng]; omega)); (conv => whnf))
    | ((with_reducible apply Or.inr); (with_reducible apply And.intro) <;> (intro hb; (try simp at hb); (try (exfalso; first | omega | (simp_all; first | done | fail))); (try (conv => whnf))))
    | ((with_reducible apply And.intro); (focus (first | omega | (exact True.intro) | (simp; omega) | (exact Nat.le_of_ble_eq_true rfl) | (exact ⟨rfl, Nat.le_of_ble_eq_true rfl⟩) | (exact ⟨Nat.le_of_ble_eq_true rfl, Nat.le_of_ble_eq_true rfl⟩) | (intro hg; first | (simp; first | done | fail) | (simp at hg ⊢; exact hg) | (simp at hg; exact hg) | exact hg))); (conv => whnf))
    | ((with_reducible apply And.intro) <;> (intro hb; (try simp at hb); (try (exfalso; first | omega | (simp_all; first | done | fail))); (try (conv => whnf))))
    | (intro hlen; (conv => whnf))
    | ((with_reducible refine And.intro (Side.out ?_) ?_); rotate_left; (conv => whnf); rotate_right)
  · rename_i hit
    have := idx_nonneg hit (v := v) (by simpa using hb.symm)
    simp [this]
  · rename_i hit
    exact .mk (i + 1) ⟨by omega, fun j hj => by
      by_cases e : j = i
      · subst e; simpa using fun h => hb h.symm
      · exact hw j (by omega)⟩ (by show L.length - (i + 1) < L.length - i; omega) ⟨rfl, rfl, rfl, trivial, ⟨AV.le_refl _, AV.le_refl _, AV.le_refl _, trivial⟩⟩
  · rw [idx_none fun j hj => hw j (by omega)]; rfl

theorem c72 (L : List Str) (n : Int) : PCall Try.prog 72 [.d (encStrs L), .d (.int .i64 n)] fun x => x = .d (.bool (decide ((L.length : Int) ≤ n) && L.all fun s => decide (s.length ≤ 30))) := by
  refine PCall.intro Try.tabOk Try.f72 _ Try.func72 rfl (by decide) rfl fun z => ?_
  repeat' first
    | (with_reducible refine AW.seq ?_)
    | ((with_reducible refine AW.region Try.tabOk ?_); (conv => whnf))
    | ((with_reducible refine AW.draw Try.tabOk Try.mixed ?_ ?_); (focus rfl); (conv => whnf))
    | ((with_reducible refine AW.ret ?_); (conv => whnf))
    | ((with_reducible refine AW.block ?_))
    | (with_reducible refine AW.scope ?_)
    | ((with_reducible refine AW.label ?_); (conv => whnf))
    | ((with_reducible refine AW.exit ?_); (conv => whnf))
    | ((with_reducible refine AW.skip ?_); (conv => whnf))
    | ((with_reducible refine AW.cond ?_); (conv => whnf))
    | ((with_reducible refine Own2.data ?_); (conv => whnf))
    | ((with_reducible refine ACall.id ?_); (refine PCall.call (by first | fail) rfl ?_); (intro x hx; first | subst hx | (obtain ⟨l_, rfl, hl_⟩ := hx.out)); (conv => whnf))
    | ((with_reducible refine ACall.freeze rfl ?_); (conv => whnf))
    | (refine ⟨true, _, rfl, ?_⟩; (conv => whnf))
    | (refine ⟨false, .nilp, rfl, ?_⟩; (conv => whnf))
    | (refine ⟨_, _, by first | fail, ?_⟩; (conv => whnf))
    | ((with_reducible apply Or.inl); (refine ⟨rfl, rfl, ?_⟩); (conv => whnf))
    | (refine ⟨_, ⟨rfl, rfl⟩, ?_⟩; (conv => whnf))
    | (refine ⟨_, ⟨rfl, getM (by first | omega | (simp; omega))⟩, ?_⟩; (conv => whnf))
    | ((with_reducible apply Or.inl); apply Exists.intro; apply And.intro; (focus (intro hg; (conv => whnf); (repeat' first | (with_reducible exact ⟨rfl, rfl⟩) | ((with_reducible refine Own2.data ?_); (conv => whnf)) | (refine ⟨true, _, rfl, ?_⟩; (conv => whnf)) | (refine ⟨false, .nilp, rfl, ?_⟩; (conv => whnf)) | (refine ⟨_, _, by first | fail, ?_⟩; (conv => whnf)) | ((with_reducible apply Or.inl); (refine ⟨rfl, rfl, ?_⟩); (conv => whnf)) | ((with_reducible apply Or.inl); (with_reducible apply And.intro); (focus (simp only [rng]; omega)); (conv => whnf)) | (refine ⟨by first | omega | (simp at hg ⊢; omega) | (simp_all; first | done | fail), ?_⟩; (conv => whnf)) | ((with_reducible refine ACall.id ?_); (refine PCall.call (by first | fail) rfl ?_); (intro x hx; first | subst hx | (obtain ⟨l_, rfl, hl_⟩ := hx.out)); (conv => whnf)) | (intro hlen; (conv => whnf))); done)); (conv => whnf))
    | (apply Exists.intro; apply And.intro; (focus (first | (intro hg; (conv => whnf)) | (conv => whnf)); (repeat' first | (with_reducible exact ⟨rfl, rfl⟩) | ((with_reducible refine Own2.data ?_); (conv => whnf)) | (refine ⟨true, _, rfl, ?_⟩; (conv => whnf)) | (refine ⟨false, .nilp, rfl, ?_⟩; (conv => whnf)) | (refine ⟨_, _, by first | fail, ?_⟩; (conv => whnf)) | ((with_reducible apply Or.inl); (refine ⟨rfl, rfl, ?_⟩); (conv => whnf)) | ((with_reducible apply Or.inl); (with_reducible apply And.intro); (focus (simp only [rng]; omega)); (conv => whnf)) | (refine ⟨by first | omega | (simp at hg ⊢; omega) | (simp_all; first | done | fail), ?_⟩; (conv => whnf)) | ((with_reducible refine ACall.id ?_); (refine PCall.call (by first | fail) rfl ?_); (intro x hx; first | subst hx | (obtain ⟨l_, rfl, hl_⟩ := hx.out)); (conv => whnf)) | (intro hlen; (conv => whnf))); done); (conv => whnf))
    | ((with_reducible apply Or.inl); (with_reducible apply And.intro); (focus (simp only [rng]; omega)); (conv => whnf))
    | ((with_reducible apply Or.inr); (with_reducible apply And.intro) <;> (intro hb; (try simp at hb); (try (exfalso; first | omega | (simp_all; first | done | fail))); (try (conv => whnf))))
    | ((with_reducible apply And.intro); (focus (first | omega | (exact True.intro) | (simp; omega) | (exact Nat.le_of_ble_eq_true rfl) | (exact ⟨rfl, Nat.le_of_ble_eq_true rfl⟩) | (exact ⟨Nat.le_of_ble_eq_true rfl, Nat.le_of_ble_eq_true rfl⟩) | (intro hg; first | (simp; first | done | fail) | (simp at hg ⊢; exact hg) | (simp at hg; exact hg) | exact hg))); (conv => whnf))
    | ((with_reducible apply And.intro) <;> (intro hb; (try simp at hb); (try (exfalso; first | omega | (simp_all; first | done | fail))); (try (conv => whnf))))
    | (intro hlen; (conv => whnf))
    | ((with_reducible refine And.intro (Side.out ?_) ?_); rotate_left; (conv => whnf); rotate_right)
  refine AW.loopX (X := Nat) (fun i => ⟨[(0, .d (encStrs L)), (1, .d (.int .i64 n)), (5, .d (.int .i64 (i : Int)))], Heap.none, none, z⟩)
    (fun i => i ≤ L.length ∧ ∀ j, j < i → (L.getD j []).length ≤ 30) (fun i => L.length - i) 0 ⟨by omega, fun j h => by omega⟩ ⟨rfl, rfl, rfl, trivial, ⟨AV.le_refl _, AV.le_refl _, AV.le_refl _, trivial⟩⟩ ?_
  intro i ⟨hi, hw⟩
  repeat' first
    | (with_reducible refine AW.seq ?_)
    | ((with_reducible refine AW.region Try.tabOk ?_); (conv => whnf))
    | ((with_reducible refine AW.draw Try.tabOk Try.mixed ?_ ?_); (focus rfl); (conv => whnf))
    | ((with_reducible refine AW.ret ?_); (conv => whnf))
    | ((with_reducible refine AW.block ?_))
    | (with_reducible refine AW.scope ?_)
    | ((with_reducible refine AW.label ?_); (conv => whnf))
    | ((with_reducible refine AW.exit ?_); (conv => whnf))
    | ((with_reducible refine AW.skip ?_); (conv => whnf))
    | ((with_reducible refine AW.cond ?_); (conv => whnf))
    | ((with_reducible refine Own2.data ?_); (conv => whnf))
    | ((with_reducible refine ACall.id ?_); (refine PCall.call (by first | fail) rfl ?_); (intro x hx; first | subst hx | (obtain ⟨l_, rfl, hl_⟩ := hx.out)); (conv => whnf))
    | ((with_reducible refine ACall.freeze rfl ?_); (conv => whnf))
    | (refine ⟨true, _, rfl, ?_⟩; (conv => whnf))
    | (refine ⟨false, .nilp, rfl, ?_⟩; (conv => whnf))
    | (refine ⟨_, _, by first | fail, ?_⟩; (conv => whnf))
    | ((with_reducible apply Or.inl); (refine ⟨rfl, rfl, ?_⟩); (conv => whnf))
    | (refine ⟨_, ⟨rfl, rfl⟩, ?_⟩; (conv => whnf))
    | (refine ⟨_, ⟨rfl, getM (by first | omega | (simp; omega))⟩, ?_⟩; (conv => whnf))
    | ((with_reducible apply Or.inl); apply Exists.intro; apply And.intro; (focus (intro hg; (conv => whnf); (repeat' first | (with_reducible exact ⟨rfl, rfl⟩) | ((with_reducible refine Own2.data ?_); (conv => whnf)) | (refine ⟨true, _, rfl, ?_⟩; (conv => whnf)) | (refine ⟨false, .nilp, rfl, ?_⟩; (conv => whnf)) | (refine ⟨_, _, by first | fail, ?_⟩; (conv => whnf)) | ((with_reducible apply Or.inl); (refine ⟨rfl, rfl, ?_⟩); (conv => whnf)) | ((with_reducible apply Or.inl); (with_reducible apply And.intro); (focus (simp only [rng]; omega)); (conv => whnf)) | (refine ⟨by first | omega | (simp at hg ⊢; omega) | (simp_all; first | done | fail), ?_⟩; (conv => whnf)) | ((with_reducible refine ACall.id ?_); (refine PCall.call (by first | fail) rfl ?_); (intro x hx; first | subst hx | (obtain ⟨l_, rfl, hl_⟩ := hx.out)); (conv => whnf)) | (intro hlen; (conv => whnf))); done)); (conv => whnf))
    | (apply Exists.intro; apply And.intro; (focus (first | (intro hg; (conv => whnf)) | (conv => whnf)); (repeat' first | (with_reducible exact ⟨rfl, rfl⟩) | ((with_reducible refine Own2.data ?_); (conv => whnf)) | (refine ⟨true, _, rfl, ?_⟩; (conv => whnf)) | (refine ⟨false, .nilp, rfl, ?_⟩; (conv => whnf)) | (refine ⟨_, _, by first | fail, ?_⟩; (conv => whnf)) | ((with_reducible apply Or.inl); (refine ⟨rfl, rfl, ?_⟩); (conv => whnf)) | ((with_reducible apply Or.inl); (with_reducible apply And.intro); (focus (simp only [rng]; omega)); (conv => whnf)) | (refine ⟨by first | omega | (simp at hg ⊢; omega) | (simp_all; first | done | fail), ?_⟩; (conv => whnf)) | ((with_reducible refine ACall.id ?_); (refine PCall.call (by first | fail) rfl ?_); (intro x hx; first | subst hx | (obtain ⟨l_, rfl, hl_⟩ := hx.out)); (conv => whnf)) | (intro hlen; (conv => whnf))); done); (conv => whnf))
    | ((with_reducible apply Or.inl); (with_reducible apply And.intro); (focus (simp only [rng]; omega)); (conv => whnf))
    | ((with_reducible apply Or.inr); (with_reducible apply And.intro) <;> (intro hb; (try simp at hb); (try (exfalso; first | omega | (simp_all; first | done | fail))); (try (conv => whnf))))
    | ((with_reducible apply And.intro); (focus (first | omega | (exact True.intro) | (simp; omega) | (exact Nat.le_of_ble_eq_true rfl) | (exact ⟨rfl, Nat.le_of_ble_eq_true rfl⟩) | (exact ⟨Nat.le_of_ble_eq_true rfl, Nat.le_of_ble_eq_true rfl⟩) | (intro hg; first | (simp; first | done | fail) | (simp at hg ⊢; exact hg) | (simp at hg; exact hg) | exact hg))); (conv => whnf))
    | ((with_reducible apply And.intro) <;> (intro hb; (try simp at hb); (try (exfalso; first | omega | (simp_all; first | done | fail))); (try (conv => whnf))))
    | (intro hlen; (conv => whnf))
    | ((with_reducible refine And.intro (Side.out ?_) ?_); rotate_left; (conv => whnf); rotate_right)
  · rename_i hit
    rw [not_all_of_getD (p := fun s => decide (s.length ≤ 30)) [] hit.1 (by simp only [List.getD_eq_getElem?_getD, decide_eq_false_iff_not]; omega)]
    simp
  · rename_i hit
    exact .mk (i + 1) ⟨by omega, fun j hj => by
      by_cases e : j = i
      · subst e; rw [List.getD_eq_getElem?_getD]; omega
      · exact hw j (by omega)⟩ (by show L.length - (i + 1) < L.length - i; omega) ⟨rfl, rfl, rfl, trivial, ⟨AV.le_refl _, AV.le_refl _, AV.le_refl _, trivial⟩⟩
  · by_cases hn : (L.length : Int) ≤ n
    · rw [all_of_getD (p := fun s => decide (s.length ≤ 30)) [] (fun j hj => by
        have : ¬ i < L.length := fun h => by have := hb h; omega
        simpa using hw j (by omega))]
      simp
    · simp [hn]
end Go.Proofs
end
section
/- Contracts: sizes. -/
namespace Go.Proofs
open Go.Pm
set_option maxRecDepth 100000

abbrev dT : Str × Str := ([], [])
def few9 (L : List (Str × Str)) (n : Int) : Bool := decide ((L.length : Int) ≤ n) && L.all fun p => decide (p.1.length ≤ 300) && decide (p.2.length ≤ 300)

theorem c71 (L : List (Str × Str)) (n : Int) : PCall Try.prog 71 [.d (encTags L), .d (.int .i64 n)] fun x => x = .d (.bool (few9 L n)) := by
  refine PCall.intro Try.tabOk Try.f71 _ Try.func71 rfl (by decide) rfl fun z => ?_
  repeat' first
    | (with_reducible refine AW.seq ?_)
    | ((with_reducible refine AW.region Try.tabOk ?_); (conv => whnf))
    | ((with_reducible refine AW.draw Try.tabOk Try.mixed ?_ ?_); (focus rfl); (conv => whnf))
    | ((with_reducible refine AW.ret ?_); (conv => whnf))
    | ((with_reducible refine AW.block ?_))
    | (with_reducible refine AW.scope ?_)
    | ((with_reducible refine AW.label ?_); (conv => whnf))
    | ((with_reducible refine AW.exit ?_); (conv => whnf))
    | ((with_reducible refine AW.skip ?_); (conv => whnf))
    | ((with_reducible refine AW.cond ?_); (conv => whnf))
    | ((with_reducible refine Own2.data ?_); (conv => whnf))
    | ((with_reducible refine ACall.id ?_); (refine PCall.call (by first | fail) rfl ?_); (intro x hx; first | subst hx | (obtain ⟨l_, rfl, hl_⟩ := hx.out)); (conv => whnf))
    | ((with_reducible refine ACall.freeze rfl ?_); (conv => whnf))
    | (refine ⟨true, _, rfl, ?_⟩; (conv => whnf))
    | (refine ⟨false, .nilp, rfl, ?_⟩; (conv => whnf))
    | (refine ⟨_, _, by first | fail, ?_⟩; (conv => whnf))
    | ((with_reducible apply Or.inl); (refine ⟨rfl, rfl, ?_⟩); (conv => whnf))
    | (refine ⟨_, ⟨rfl, rfl⟩, ?_⟩; (conv => whnf))
    | (refine ⟨_, ⟨rfl, getM (by first | omega | (simp; omega))⟩, ?_⟩; (conv => whnf))
    | ((with_reducible apply Or.inl); apply Exists.intro; apply And.intro; (focus (intro hg; (conv => whnf); (repeat' first | (with_reducible exact ⟨rfl, rfl⟩) | ((with_reducible refine Own2.data ?_); (conv => whnf)) | (refine ⟨true, _, rfl, ?_⟩; (conv => whnf)) | (refine ⟨false, .nilp, rfl, ?_⟩; (conv => whnf)) | (refine ⟨_, _, by first | fail, ?_⟩; (conv => whnf)) | ((with_reducible apply Or.inl); (refine ⟨rfl, rfl, ?_⟩); (conv => whnf)) | ((with_reducible apply Or.inl); (with_reducible apply And.intro); (focus (simp only [rng]; omega)); (conv => whnf)) | (refine ⟨by first | omega | (simp at hg ⊢; omega) | (simp_all; first | done | fail), ?_⟩; (conv => whnf)) | ((with_reducible refine ACall.id ?_); (refine PCall.call (by first | fail) rfl ?_); (intro x hx; first | subst hx | (obtain ⟨l_, rfl, hl_⟩ := hx.out)); (conv => whnf)) | (intro hlen; (conv => whnf))); done)); (conv => whnf))
    | (apply Exists.intro; apply And.intro; (focus (first | (intro hg; (conv => whnf)) | (conv => whnf)); (repeat' first | (with_reducible exact ⟨rfl, rfl⟩) | ((with_reducible refine Own2.data ?_); (conv => whnf)) | (refine ⟨true, _, rfl, ?_⟩; (conv => whnf)) | (refine ⟨false, .nilp, rfl, ?_⟩; (conv => whnf)) | (refine ⟨_, _, by first | fail, ?_⟩; (conv => whnf)) | ((with_reducible apply Or.inl); (refine ⟨rfl, rfl, ?_⟩); (conv => whnf)) | ((with_reducible apply Or.inl); (with_reducible apply And.intro); (focus (simp only [rng]; omega)); (conv => whnf)) | (refine ⟨by first | omega | (simp at hg ⊢; omega) | (simp_all; first | done | fail), ?_⟩; (conv => whnf)) | ((with_reducible refine ACall.id ?_); (refine PCall.call (by first | fail) rfl ?_); (intro x hx; first | subst hx | (obtain ⟨l_, rfl, hl_⟩ := hx.out)); (conv => whnf)) | (intro hlen; (conv => whnf))); done); (conv => whnf))
    | ((with_reducible apply Or.inl); (with_reducible apply And.intro); (focus (simp only [rng]; omega)); (conv => whnf))
    | ((with_reducible apply Or.inr); (with_reducible apply And.intro) <;> (intro hb; (try simp at hb); (try (exfalso; first | omega | (simp_all; first | done | fail))); (try (conv => whnf))))
    | ((with_reducible apply And.intro); (focus (first | omega | (exact True.intro) | (simp; omega) | (exact Nat.le_of_ble_eq_true rfl) | (exact ⟨rfl, Nat.le_of_ble_eq_true rfl⟩) | (exact ⟨Nat.le_of_ble_eq_true rfl, Nat.le_of_ble_eq_true rfl⟩) | (intro hg; first | (simp; first | done | fail) | (simp at hg ⊢; exact hg) | (simp at hg; exact hg) | exact hg))); (conv => whnf))
    | ((with_reducible apply And.intro) <;> (intro hb; (try simp at hb); (try (exfalso; first | omega | (simp_all; first | done | fail))); (try (conv => whnf))))
    | (intro hlen; (conv => whnf))
    | ((with_reducible refine And.intro (Side.out ?_) ?_); rotate_left; (conv => whnf); rotate_right)
  refine AW.loopX (X := Nat) (fun i => ⟨[(0, .d (encTags L)), (1, .d (.int .i64 n)), (5, .d (.int .i64 (i : Int)))], Heap.none, none, z⟩)
    (fun i => i ≤ L.length ∧ ∀ j, j < i → (L.getD j dT).1.length ≤ 300 ∧ (L.getD j dT).2.length ≤ 300) (fun i => L.length - i) 0 ⟨by omega, fun j h => by omega⟩ ⟨rfl, rfl, rfl, trivial, ⟨AV.le_refl _, AV.le_refl _, AV.le_refl _, trivial⟩⟩ ?_
  intro i ⟨hi, hw⟩
  repeat' first
    | (with_reducible refine AW.seq ?_)
    | ((with_reducible refine AW.region Try.tabOk ?_); (conv => whnf))
    | ((with_reducible refine AW.draw Try.tabOk Try.mixed ?_ ?_); (focus rfl); (conv => whnf))
    | ((with_reducible refine AW.ret ?_); (conv => whnf))
    | ((with_reducible refine AW.block ?_))
    | (with_reducible refine AW.scope ?_)
    | ((with_reducible refine AW.label ?_); (conv => whnf))
    | ((with_reducible refine AW.exit ?_); (conv => whnf))
    | ((with_reducible refine AW.skip ?_); (conv => whnf))
    | ((with_reducible refine AW.cond ?_); (conv => whnf))
    | ((with_reducible refine Own2.data ?_); (conv => whnf))
    | ((with_reducible refine ACall.id ?_); (refine PCall.call (by first | fail) rfl ?_); (intro x hx; first | subst hx | (obtain ⟨l_, rfl, hl_⟩ := hx.out)); (conv => whnf))
    | ((with_reducible refine ACall.freeze rfl ?_); (conv => whnf))
    | (refine ⟨true, _, rfl, ?_⟩; (conv => whnf))
    | (refine ⟨false, .nilp, rfl, ?_⟩; (conv => whnf))
    | (refine ⟨_, _, by first | fail, ?_⟩; (conv => whnf))
    | ((with_reducible apply Or.inl); (refine ⟨rfl, rfl, ?_⟩); (conv => whnf))
    | (refine ⟨_, ⟨rfl, rfl⟩, ?_⟩; (conv => whnf))
    | (refine ⟨_, ⟨rfl, getM (by first | omega | (simp; omega))⟩, ?_⟩; (conv => whnf))
    | ((with_reducible apply Or.inl); apply Exists.intro; apply And.intro; (focus (intro hg; (conv => whnf); (repeat' first | (with_reducible exact ⟨rfl, rfl⟩) | ((with_reducible refine Own2.data ?_); (conv => whnf)) | (refine ⟨true, _, rfl, ?_⟩; (conv => whnf)) | (refine ⟨false, .nilp, rfl, ?_⟩; (conv => whnf)) | (refine ⟨_, _, by first | fail, ?_⟩; (conv => whnf)) | ((with_reducible apply Or.inl); (refine ⟨rfl, rfl, ?_⟩); (conv => whnf)) | ((with_reducible apply Or.inl); (with_reducible apply And.intro); (focus (simp only [rng]; omega)); (conv => whnf)) | (refine ⟨by first | omega | (simp at hg ⊢; omega) | (simp_all; first | done | fail), ?_⟩; (conv => whnf)) | ((with_reducible refine ACall.id ?_); (refine PCall.call (by first | fail) rfl ?_); (intro x hx; first | subst hx | (obtain ⟨l_, rfl, hl_⟩ := hx.out)); (conv => whnf)) | (intro hlen; (conv => whnf))); done)); (conv => whnf))
    | (apply Exists.intro; apply And.intro; (focus (first | (intro hg; (conv => whnf)) | (conv => whnf)); (repeat' first | (with_reducible exact ⟨rfl, rfl⟩) | ((with_reducible refine Own2.data ?_); (conv => whnf)) | (refine ⟨true, _, rfl, ?_⟩; (conv => whnf)) | (refine ⟨false, .nilp, rfl, ?_⟩; (conv => whnf)) | (refine ⟨_, _, by first | fail, ?_⟩; (conv => whnf)) | ((with_reducible apply Or.inl); (refine ⟨rfl, rfl, ?_⟩); (conv => whnf)) | ((with_reducible apply Or.inl); (with_reducible apply And.intro); (focus (simp only [rng]; omega)); (conv => whnf)) | (refine ⟨by first | omega | (simp at hg ⊢; omega) | (simp_all; first | done | fail), ?_⟩; (conv => whnf)) | ((with_reducible refine ACall.id ?_); (refine PCall.call (by first | fail) rfl ?_); (intro x hx; first | subst hx | (obtain ⟨l_, rfl, hl_⟩ := hx.out)); (conv => whnf)) | (intro hlen; (conv => whnf))); done); (conv => whnf))
    | ((with_reducible apply Or.inl); (with_reducible apply And.intro); (focus (simp only [rng]; omega)); (conv => whnf))
    | ((with_reducible apply Or.inr); (with_reducible apply And.intro) <;> (intro hb; (try simp at hb); (try (exfalso; first | omega | (simp_all; first | done | fail))); (try (conv => whnf))))
    | ((with_reducible apply And.intro); (focus (first | omega | (exact True.intro) | (simp; omega) | (exact Nat.le_of_ble_eq_true rfl) | (exact ⟨rfl, Nat.le_of_ble_eq_true rfl⟩) | (exact ⟨Nat.le_of_ble_eq_true rfl, Nat.le_of_ble_eq_true rfl⟩) | (intro hg; first | (simp; first | done | fail) | (simp at hg ⊢; exact hg) | (simp at hg; exact hg) | exact hg))); (conv => whnf))
    | ((with_reducible apply And.intro) <;> (intro hb; (try simp at hb); (try (exfalso; first | omega | (simp_all; first | done | fail))); (try (conv => whnf))))
    | (intro hlen; (conv => whnf))
    | ((with_reducible refine And.intro (Side.out ?_) ?_); rotate_left; (conv => whnf); rotate_right)
  · rename_i hit
    have : few9 L n = false := by
      unfold few9
      rw [not_all_of_getD (p := fun p : Str × Str => decide (p.1.length ≤ 300) && decide (p.2.length ≤ 300)) dT hit.1 (by
        simp only [dT, List.getD_eq_getElem?_getD, Bool.and_eq_false_iff, decide_eq_false_iff_not]; omega)]
      simp
    rw [this]
  · rename_i hit
    exact .mk (i + 1) ⟨by omega, fun j hj => by
      by_cases e : j = i
      · subst e; simp only [dT, List.getD_eq_getElem?_getD]; omega
      · exact hw j (by omega)⟩ (by show L.length - (i + 1) < L.length - i; omega) ⟨rfl, rfl, rfl, trivial, ⟨AV.le_refl _, AV.le_refl _, AV.le_refl _, trivial⟩⟩
  · unfold few9
    by_cases hn : (L.length : Int) ≤ n
    · rw [all_of_getD (p := fun p : Str × Str => decide (p.1.length ≤ 300) && decide (p.2.length ≤ 300)) dT (fun j hj => by
        have : ¬ i < L.length := fun h => by have := hb h; omega
        have := hw j (by omega)
        simp only [Bool.and_eq_true, decide_eq_true_eq]; exact this)]
      simp
    · simp [hn]
end Go.Proofs
end
section
/- Contracts: an object's size. -/
namespace Go.Proofs
open Go.Pm
set_option maxRecDepth 100000

def few11 (o : Obj) (n : Int) : Bool := decide (o.id.length ≤ 300) && decide ((o.refs.length : Int) ≤ n) && decide (o.tags.length ≤ 65) && (o.refs.all fun s => decide (s.length ≤ 300)) &&
  o.tags.all fun p => decide (p.1.length + p.2.length ≤ 600)
abbrev oCells (o : Obj) : List AV := [.d (.str o.id), .d (.int .i64 o.kind), .d (.int .i64 o.x), .d (.int .i64 o.y), .d (encStrs o.refs), .d (encTags o.tags)]

theorem c101 (o : Obj) (n : Int) (hB : ∀ p ∈ o.tags, p.1.length ≤ 1000000000000000 ∧ p.2.length ≤ 1000000000000000) : PCall Try.prog 101 [.d (encObj o), .d (.int .i64 n)] fun x => x = .d (.bool (few11 o n)) := by
  refine PCall.intro Try.tabOk Try.f101 _ Try.func101 rfl (by decide) rfl fun z => ?_
  repeat' first
    | (with_reducible refine AW.seq ?_)
    | ((with_reducible refine AW.region Try.tabOk ?_); (conv => whnf))
    | ((with_reducible refine AW.draw Try.tabOk Try.mixed ?_ ?_); (focus rfl); (conv => whnf))
    | ((with_reducible refine AW.ret ?_); (conv => whnf))
    | ((with_reducible refine AW.block ?_))
    | (with_reducible refine AW.scope ?_)
    | ((with_reducible refine AW.label ?_); (conv => whnf))
    | ((with_reducible refine AW.exit ?_); (conv => whnf))
    | ((with_reducible refine AW.skip ?_); (conv => whnf))
    | ((with_reducible refine AW.cond ?_); (conv => whnf))
    | ((with_reducible refine Own2.data ?_); (conv => whnf))
    | ((with_reducible refine ACall.id ?_); (refine PCall.call (by first | fail) rfl ?_); (intro x hx; first | subst hx | (obtain ⟨l_, rfl, hl_⟩ := hx.out)); (conv => whnf))
    | ((with_reducible refine ACall.freeze rfl ?_); (conv => whnf))
    | (refine ⟨true, _, rfl, ?_⟩; (conv => whnf))
    | (refine ⟨false, .nilp, rfl, ?_⟩; (conv => whnf))
    | (refine ⟨_, _, by first | fail, ?_⟩; (conv => whnf))
    | ((with_reducible apply Or.inl); (refine ⟨rfl, rfl, ?_⟩); (conv => whnf))
    | (refine ⟨_, ⟨rfl, rfl⟩, ?_⟩; (conv => whnf))
    | (refine ⟨_, ⟨rfl, getM (by first | omega | (simp; omega))⟩, ?_⟩; (conv => whnf))
    | ((with_reducible apply Or.inl); apply Exists.intro; apply And.intro; (focus (intro hg; (conv => whnf); (repeat' first | (with_reducible exact ⟨rfl, rfl⟩) | ((with_reducible refine Own2.data ?_); (conv => whnf)) | (refine ⟨true, _, rfl, ?_⟩; (conv => whnf)) | (refine ⟨false, .nilp, rfl, ?_⟩; (conv => whnf)) | (refine ⟨_, _, by first | fail, ?_⟩; (conv => whnf)) | ((with_reducible apply Or.inl); (refine ⟨rfl, rfl, ?_⟩); (conv => whnf)) | ((with_reducible apply Or.inl); (with_reducible apply And.intro); (focus (simp only [rng]; omega)); (conv => whnf)) | (refine ⟨by first | omega | (simp at hg ⊢; omega) | (simp_all; first | done | fail), ?_⟩; (conv => whnf)) | ((with_reducible refine ACall.id ?_); (refine PCall.call (by first | fail) rfl ?_); (intro x hx; first | subst hx | (obtain ⟨l_, rfl, hl_⟩ := hx.out)); (conv => whnf)) | (intro hlen; (conv => whnf))); done)); (conv => whnf))
    | (apply Exists.intro; apply And.intro; (focus (first | (intro hg; (conv => whnf)) | (conv => whnf)); (repeat' first | (with_reducible exact ⟨rfl, rfl⟩) | ((with_reducible refine Own2.data ?_); (conv => whnf)) | (refine ⟨true, _, rfl, ?_⟩; (conv => whnf)) | (refine ⟨false, .nilp, rfl, ?_⟩; (conv => whnf)) | (refine ⟨_, _, by first | fail, ?_⟩; (conv => whnf)) | ((with_reducible apply Or.inl); (refine ⟨rfl, rfl, ?_⟩); (conv => whnf)) | ((with_reducible apply Or.inl); (with_reducible apply And.intro); (focus (simp only [rng]; omega)); (conv => whnf)) | (refine ⟨by first | omega | (simp at hg ⊢; omega) | (simp_all; first | done | fail), ?_⟩; (conv => whnf)) | ((with_reducible refine ACall.id ?_); (refine PCall.call (by first | fail) rfl ?_); (intro x hx; first | subst hx | (obtain ⟨l_, rfl, hl_⟩ := hx.out)); (conv => whnf)) | (intro hlen; (conv => whnf))); done); (conv => whnf))
    | ((with_reducible apply Or.inl); (with_reducible apply And.intro); (focus (simp only [rng]; omega)); (conv => whnf))
    | ((with_reducible apply Or.inr); (with_reducible apply And.intro) <;> (intro hb; (try simp at hb); (try (exfalso; first | omega | (simp_all; first | done | fail))); (try (conv => whnf))))
    | ((with_reducible apply And.intro); (focus (first | omega | (exact True.intro) | (simp; omega) | (exact Nat.le_of_ble_eq_true rfl) | (exact ⟨rfl, Nat.le_of_ble_eq_true rfl⟩) | (exact ⟨Nat.le_of_ble_eq_true rfl, Nat.le_of_ble_eq_true rfl⟩) | (intro hg; first | (simp; first | done | fail) | (simp at hg ⊢; exact hg) | (simp at hg; exact hg) | exact hg))); (conv => whnf))
    | ((with_reducible apply And.intro) <;> (intro hb; (try simp at hb); (try (exfalso; first | omega | (simp_all; first | done | fail))); (try (conv => whnf))))
    | (intro hlen; (conv => whnf))
    | ((with_reducible refine And.intro (Side.out ?_) ?_); rotate_left; (conv => whnf); rotate_right)
  · have : few11 o n = false := by
      unfold few11
      by_cases h1 : o.id.length ≤ 300
      · by_cases h2 : (o.refs.length : Int) ≤ n
        · have : ¬ o.tags.length ≤ 65 := by omega
          simp [this]
        · simp [h2]
      · simp [h1]
    rw [this]
  refine AW.loopX (X := Nat) (fun i => ⟨[(2, .ptr 0 0), (5, .d (.int .i64 (i : Int)))], ⟨[(0, .var (oCells o) 42)], 1⟩, none, z⟩)
    (fun i => i ≤ o.refs.length ∧ ∀ j, j < i → (o.refs.getD j []).length ≤ 300) (fun i => o.refs.length - i) 0 ⟨by omega, fun j h => by omega⟩ ⟨rfl, rfl, rfl, ⟨OLe.refl _, trivial⟩, ⟨AV.le_refl _, AV.le_refl _, trivial⟩⟩ ?_
  intro i ⟨hi, hw⟩
  repeat' first
    | (with_reducible refine AW.seq ?_)
    | ((with_reducible refine AW.region Try.tabOk ?_); (conv => whnf))
    | ((with_reducible refine AW.draw Try.tabOk Try.mixed ?_ ?_); (focus rfl); (conv => whnf))
    | ((with_reducible refine AW.ret ?_); (conv => whnf))
    | ((with_reducible refine AW.block ?_))
    | (with_reducible refine AW.scope ?_)
    | ((with_reducible refine AW.label ?_); (conv => whnf))
    | ((with_reducible refine AW.exit ?_); (conv => whnf))
    | ((with_reducible refine AW.skip ?_); (conv => whnf))
    | ((with_reducible refine AW.cond ?_); (conv => whnf))
    | ((with_reducible refine Own2.data ?_); (conv => whnf))
    | ((with_reducible refine ACall.id ?_); (refine PCall.call (by first | fail) rfl ?_); (intro x hx; first | subst hx | (obtain ⟨l_, rfl, hl_⟩ := hx.out)); (conv => whnf))
    | ((with_reducible refine ACall.freeze rfl ?_); (conv => whnf))
    | (refine ⟨true, _, rfl, ?_⟩; (conv => whnf))
    | (refine ⟨false, .nilp, rfl, ?_⟩; (conv => whnf))
    | (refine ⟨_, _, by first | fail, ?_⟩; (conv => whnf))
    | ((with_reducible apply Or.inl); (refine ⟨rfl, rfl, ?_⟩); (conv => whnf))
    | (refine ⟨_, ⟨rfl, rfl⟩, ?_⟩; (conv => whnf))
    | (refine ⟨_, ⟨rfl, getM (by first | omega | (simp; omega))⟩, ?_⟩; (conv => whnf))
    | ((with_reducible apply Or.inl); apply Exists.intro; apply And.intro; (focus (intro hg; (conv => whnf); (repeat' first | (with_reducible exact ⟨rfl, rfl⟩) | ((with_reducible refine Own2.data ?_); (conv => whnf)) | (refine ⟨true, _, rfl, ?_⟩; (conv => whnf)) | (refine ⟨false, .nilp, rfl, ?_⟩; (conv => whnf)) | (refine ⟨_, _, by first | fail, ?_⟩; (conv => whnf)) | ((with_reducible apply Or.inl); (refine ⟨rfl, rfl, ?_⟩); (conv => whnf)) | ((with_reducible apply Or.inl); (with_reducible apply And.intro); (focus (simp only [rng]; omega)); (conv => whnf)) | (refine ⟨by first | omega | (simp at hg ⊢; omega) | (simp_all; first | done | fail), ?_⟩; (conv => whnf)) | ((with_reducible refine ACall.id ?_); (refine PCall.call (by first | fail) rfl ?_); (intro x hx; first | subst hx | (obtain ⟨l_, rfl, hl_⟩ := hx.out)); (conv => whnf)) | (intro hlen; (conv => whnf))); done)); (conv => whnf))
    | (apply Exists.intro; apply And.intro; (focus (first | (intro hg; (conv => whnf)) | (conv => whnf)); (repeat' first | (with_reducible exact ⟨rfl, rfl⟩) | ((with_reducible refine Own2.data ?_); (conv => whnf)) | (refine ⟨true, _, rfl, ?_⟩; (conv => whnf)) | (refine ⟨false, .nilp, rfl, ?_⟩; (conv => whnf)) | (refine ⟨_, _, by first | fail, ?_⟩; (conv => whnf)) | ((with_reducible apply Or.inl); (refine ⟨rfl, rfl, ?_⟩); (conv => whnf)) | ((with_reducible apply Or.inl); (with_reducible apply And.intro); (focus (simp only [rng]; omega)); (conv => whnf)) | (refine ⟨by first | omega | (simp at hg ⊢; omega) | (simp_all; first | done | fail), ?_⟩; (conv => whnf)) | ((with_reducible refine ACall.id ?_); (refine PCall.call (by first | fail) rfl ?_); (intro x hx; first | subst hx | (obtain ⟨l_, rfl, hl_⟩ := hx.out)); (conv => whnf)) | (intro hlen; (conv => whnf))); done); (conv => whnf))
    | ((with_reducible apply Or.inl); (with_reducible apply And.intro); (focus (simp only [rng]; omega)); (conv => whnf))
    | ((with_reducible apply Or.inr); (with_reducible apply And.intro) <;> (intro hb; (try simp at hb); (try (exfalso; first | omega | (simp_all; first | done | fail))); (try (conv => whnf))))
    | ((with_reducible apply And.intro); (focus (first | omega | (exact True.intro) | (simp; omega) | (exact Nat.le_of_ble_eq_true rfl) | (exact ⟨rfl, Nat.le_of_ble_eq_true rfl⟩) | (exact ⟨Nat.le_of_ble_eq_true rfl, Nat.le_of_ble_eq_true rfl⟩) | (intro hg; first | (simp; first | done | fail) | (simp at hg ⊢; exact hg) | (simp at hg; exact hg) | exact hg))); (conv => whnf))
    | ((with_reducible apply And.intro) <;> (intro hb; (try simp at hb); (try (exfalso; first | omega | (simp_all; first | done | fail))); (try (conv => whnf))))
    | (intro hlen; (conv => whnf))
    | ((with_reducible refine And.intro (Side.out ?_) ?_); rotate_left; (conv => whnf); rotate_right)
  · rename_i hit
    have : few11 o n = false := by
      unfold few11
      rw [not_all_of_getD (L := o.refs) (p := fun s => decide (s.length ≤ 300)) [] hit (by simp only [List.getD_eq_getElem?_getD, decide_eq_false_iff_not]; omega)]
      simp
    rw [this]
  · rename_i hit
    exact .mk (i + 1) ⟨by omega, fun j hj => by
      by_cases e : j = i
      · subst e; rw [List.getD_eq_getElem?_getD]; omega
      · exact hw j (by omega)⟩ (by show o.refs.length - (i + 1) < o.refs.length - i; omega) ⟨rfl, rfl, rfl, ⟨OLe.refl _, trivial⟩, ⟨AV.le_refl _, AV.le_refl _, trivial⟩⟩
  · have hrefs : (o.refs.all fun s => decide (s.length ≤ 300)) = true := all_of_getD [] fun j hj => by simpa using hw j (by omega)
    refine AW.loopX (X := Nat) (fun i => ⟨[(2, .ptr 0 0), (6, .d (.int .i64 (i : Int)))], ⟨[(0, .var (oCells o) 42)], 1⟩, none, z⟩)
      (fun i => i ≤ o.tags.length ∧ ∀ j, j < i → (o.tags.getD j dT).1.length + (o.tags.getD j dT).2.length ≤ 600) (fun i => o.tags.length - i) 0 ⟨by omega, fun j h => by omega⟩ ⟨rfl, rfl, rfl, ⟨OLe.refl _, trivial⟩, ⟨AV.le_refl _, AV.le_refl _, trivial⟩⟩ ?_
    intro k ⟨hk, hv⟩
    have hb1 : ∀ k, (o.tags.getD k dT).1.length ≤ 1000000000000000 ∧ (o.tags.getD k dT).2.length ≤ 1000000000000000 := fun k => by
      by_cases h : k < o.tags.length
      · have := hB o.tags[k] (by simp); simpa [List.getD_eq_getElem?_getD, h] using this
      · simp [List.getD_eq_getElem?_getD, List.getElem?_eq_none (Nat.le_of_not_lt h)]
    have hb2 := hb1 k
    have hb3 : (o.tags.getD (k : Int).toNat ([], [])).1.length ≤ 1000000000000000 ∧ (o.tags.getD (k : Int).toNat ([], [])).2.length ≤ 1000000000000000 := hb2
    repeat' first
      | (with_reducible refine AW.seq ?_)
      | ((with_reducible refine AW.region Try.tabOk ?_); (conv => whnf))
      | ((with_reducible refine AW.draw Try.tabOk Try.mixed ?_ ?_); (focus rfl); (conv => whnf))
      | ((with_reducible refine AW.ret ?_); (conv => whnf))
      | ((with_reducible refine AW.block ?_))
      | (with_reducible refine AW.scope ?_)
      | ((with_reducible refine AW.label ?_); (conv => whnf))
      | ((with_reducible refine AW.exit ?_); (conv => whnf))
      | ((with_reducible refine AW.skip ?_); (conv => whnf))
      | ((with_reducible refine AW.cond ?_); (conv => whnf))
      | ((with_reducible refine Own2.data ?_); (conv => whnf))
      | ((with_reducible refine ACall.id ?_); (refine PCall.call (by first | fail) rfl ?_); (intro x hx; first | subst hx | (obtain ⟨l_, rfl, hl_⟩ := hx.out)); (conv => whnf))
      | ((with_reducible refine ACall.freeze rfl ?_); (conv => whnf))
      | (refine ⟨true, _, rfl, ?_⟩; (conv => whnf))
      | (refine ⟨false, .nilp, rfl, ?_⟩; (conv => whnf))
      | (refine ⟨_, _, by first | fail, ?_⟩; (conv => whnf))
      | ((with_reducible apply Or.inl); (refine ⟨rfl, rfl, ?_⟩); (conv => whnf))
      | (refine ⟨_, ⟨rfl, rfl⟩, ?_⟩; (conv => whnf))
      | (refine ⟨_, ⟨rfl, getM (by first | omega | (simp; omega))⟩, ?_⟩; (conv => whnf))
      | ((with_reducible apply Or.inl); apply Exists.intro; apply And.intro; (focus (intro hg; (conv => whnf); (repeat' first | (with_reducible exact ⟨rfl, rfl⟩) | ((with_reducible refine Own2.data ?_); (conv => whnf)) | (refine ⟨true, _, rfl, ?_⟩; (conv => whnf)) | (refine ⟨false, .nilp, rfl, ?_⟩; (conv => whnf)) | (refine ⟨_, _, by first | fail, ?_⟩; (conv => whnf)) | ((with_reducible apply Or.inl); (refine ⟨rfl, rfl, ?_⟩); (conv => whnf)) | ((with_reducible apply Or.inl); (with_reducible apply And.intro); (focus (simp only [rng]; omega)); (conv => whnf)) | (refine ⟨by first | omega | (simp at hg ⊢; omega) | (simp_all; first | done | fail), ?_⟩; (conv => whnf)) | ((with_reducible refine ACall.id ?_); (refine PCall.call (by first | fail) rfl ?_); (intro x hx; first | subst hx | (obtain ⟨l_, rfl, hl_⟩ := hx.out)); (conv => whnf)) | (intro hlen; (conv => whnf))); done)); (conv => whnf))
      | (apply Exists.intro; apply And.intro; (focus (first | (intro hg; (conv => whnf)) | (conv => whnf)); (repeat' first | (with_reducible exact ⟨rfl, rfl⟩) | ((with_reducible refine Own2.data ?_); (conv => whnf)) | (refine ⟨true, _, rfl, ?_⟩; (conv => whnf)) | (refine ⟨false, .nilp, rfl, ?_⟩; (conv => whnf)) | (refine ⟨_, _, by first | fail, ?_⟩; (conv => whnf)) | ((with_reducible apply Or.inl); (refine ⟨rfl, rfl, ?_⟩); (conv => whnf)) | ((with_reducible apply Or.inl); (with_reducible apply And.intro); (focus (simp only [rng]; omega)); (conv => whnf)) | (refine ⟨by first | omega | (simp at hg ⊢; omega) | (simp_all; first | done | fail), ?_⟩; (conv => whnf)) | ((with_reducible refine ACall.id ?_); (refine PCall.call (by first | fail) rfl ?_); (intro x hx; first | subst hx | (obtain ⟨l_, rfl, hl_⟩ := hx.out)); (conv => whnf)) | (intro hlen; (conv => whnf))); done); (conv => whnf))
      | ((with_reducible apply Or.inl); (with_reducible apply And.intro); (focus (simp only [rng]; omega)); (conv => whnf))
      | ((with_reducible apply Or.inr); (with_reducible apply And.intro) <;> (intro hb; (try simp at hb); (try (exfalso; first | omega | (simp_all; first | done | fail))); (try (conv => whnf))))
      | ((with_reducible apply And.intro); (focus (first | omega | (exact True.intro) | (simp; omega) | (exact Nat.le_of_ble_eq_true rfl) | (exact ⟨rfl, Nat.le_of_ble_eq_true rfl⟩) | (exact ⟨Nat.le_of_ble_eq_true rfl, Nat.le_of_ble_eq_true rfl⟩) | (intro hg; first | (simp; first | done | fail) | (simp at hg ⊢; exact hg) | (simp at hg; exact hg) | exact hg))); (conv => whnf))
      | ((with_reducible apply And.intro) <;> (intro hb; (try simp at hb); (try (exfalso; first | omega | (simp_all; first | done | fail))); (try (conv => whnf))))
      | (intro hlen; (conv => whnf))
      | ((with_reducible refine And.intro (Side.out ?_) ?_); rotate_left; (conv => whnf); rotate_right)
    · rename_i hit
      have : few11 o n = false := by
        unfold few11
        rw [not_all_of_getD (L := o.tags) (p := fun p : Str × Str => decide (p.1.length + p.2.length ≤ 600)) dT hit (by simp only [dT, List.getD_eq_getElem?_getD, decide_eq_false_iff_not]; omega)]
        simp
      rw [this]
    · rename_i hit
      exact .mk (k + 1) ⟨by omega, fun j hj => by
        by_cases e : j = k
        · subst e; simp only [dT, List.getD_eq_getElem?_getD]; omega
        · exact hv j (by omega)⟩ (by show o.tags.length - (k + 1) < o.tags.length - k; omega) ⟨rfl, rfl, rfl, ⟨OLe.refl _, trivial⟩, ⟨AV.le_refl _, AV.le_refl _, trivial⟩⟩
    · have htags : (o.tags.all fun p => decide (p.1.length + p.2.length ≤ 600)) = true := all_of_getD dT fun j hj => by simpa using hv j (by omega)
      have : few11 o n = true := by
        unfold few11
        rw [hrefs, htags]
        simp
        omega
      rw [this]
end Go.Proofs
end
section
/- Contracts: a map's size. -/
namespace Go.Proofs
open Go.Pm
set_option maxRecDepth 100000

def bndTags (L : List (Str × Str)) : Prop := ∀ p ∈ L, p.1.length ≤ 1000000000000000 ∧ p.2.length ≤ 1000000000000000
def few12 (m : List Obj) (n : Int) : Bool := decide ((m.length : Int) ≤ n) && m.all fun o => few11 o 40

theorem c73 (m : List Obj) (n : Int) (hB : ∀ o ∈ m, bndTags o.tags) : PCall Try.prog 73 [.d (encMap m), .d (.int .i64 n)] fun x => x = .d (.bool (few12 m n)) := by
  have hB1 : ∀ k, bndTags (m.getD k default).tags := fun k => by
    by_cases h : k < m.length
    · have := hB m[k] (by simp); simpa [List.getD_eq_getElem?_getD, h] using this
    · rw [List.getD_eq_getElem?_getD, List.getElem?_eq_none (Nat.le_of_not_lt h)]
      intro p hp; cases hp
  refine PCall.intro Try.tabOk Try.f73 _ Try.func73 rfl (by decide) rfl fun z => ?_
  repeat' first
    | (with_reducible refine AW.seq ?_)
    | ((with_reducible refine AW.region Try.tabOk ?_); (conv => whnf))
    | ((with_reducible refine AW.draw Try.tabOk Try.mixed ?_ ?_); (focus rfl); (conv => whnf))
    | ((with_reducible refine AW.ret ?_); (conv => whnf))
    | ((with_reducible refine AW.block ?_))
    | (with_reducible refine AW.scope ?_)
    | ((with_reducible refine AW.label ?_); (conv => whnf))
    | ((with_reducible refine AW.exit ?_); (conv => whnf))
    | ((with_reducible refine AW.skip ?_); (conv => whnf))
    | ((with_reducible refine AW.cond ?_); (conv => whnf))
    | ((with_reducible refine Own2.data ?_); (conv => whnf))
    | ((with_reducible refine ACall.id ?_); (refine PCall.call (by first | fail) rfl ?_); (intro x hx; first | subst hx | (obtain ⟨l_, rfl, hl_⟩ := hx.out)); (conv => whnf))
    | ((with_reducible refine ACall.freeze rfl ?_); (conv => whnf))
    | (refine ⟨true, _, rfl, ?_⟩; (conv => whnf))
    | (refine ⟨false, .nilp, rfl, ?_⟩; (conv => whnf))
    | (refine ⟨_, _, by first | fail, ?_⟩; (conv => whnf))
    | ((with_reducible apply Or.inl); (refine ⟨rfl, rfl, ?_⟩); (conv => whnf))
    | (refine ⟨_, ⟨rfl, rfl⟩, ?_⟩; (conv => whnf))
    | (refine ⟨_, ⟨rfl, getM (by first | omega | (simp; omega))⟩, ?_⟩; (conv => whnf))
    | ((with_reducible apply Or.inl); apply Exists.intro; apply And.intro; (focus (intro hg; (conv => whnf); (repeat' first | (with_reducible exact ⟨rfl, rfl⟩) | ((with_reducible refine Own2.data ?_); (conv => whnf)) | (refine ⟨true, _, rfl, ?_⟩; (conv => whnf)) | (refine ⟨false, .nilp, rfl, ?_⟩; (conv => whnf)) | (refine ⟨_, _, by first | fail, ?_⟩; (conv => whnf)) | ((with_reducible apply Or.inl); (refine ⟨rfl, rfl, ?_⟩); (conv => whnf)) | ((with_reducible apply Or.inl); (with_reducible apply And.intro); (focus (simp only [rng]; omega)); (conv => whnf)) | (refine ⟨by first | omega | (simp at hg ⊢; omega) | (simp_all; first | done | fail), ?_⟩; (conv => whnf)) | ((with_reducible refine ACall.id ?_); (refine PCall.call (by first | fail) rfl ?_); (intro x hx; first | subst hx | (obtain ⟨l_, rfl, hl_⟩ := hx.out)); (conv => whnf)) | (intro hlen; (conv => whnf))); done)); (conv => whnf))
    | (apply Exists.intro; apply And.intro; (focus (first | (intro hg; (conv => whnf)) | (conv => whnf)); (repeat' first | (with_reducible exact ⟨rfl, rfl⟩) | ((with_reducible refine Own2.data ?_); (conv => whnf)) | (refine ⟨true, _, rfl, ?_⟩; (conv => whnf)) | (refine ⟨false, .nilp, rfl, ?_⟩; (conv => whnf)) | (refine ⟨_, _, by first | fail, ?_⟩; (conv => whnf)) | ((with_reducible apply Or.inl); (refine ⟨rfl, rfl, ?_⟩); (conv => whnf)) | ((with_reducible apply Or.inl); (with_reducible apply And.intro); (focus (simp only [rng]; omega)); (conv => whnf)) | (refine ⟨by first | omega | (simp at hg ⊢; omega) | (simp_all; first | done | fail), ?_⟩; (conv => whnf)) | ((with_reducible refine ACall.id ?_); (refine PCall.call (by first | fail) rfl ?_); (intro x hx; first | subst hx | (obtain ⟨l_, rfl, hl_⟩ := hx.out)); (conv => whnf)) | (intro hlen; (conv => whnf))); done); (conv => whnf))
    | ((with_reducible apply Or.inl); (with_reducible apply And.intro); (focus (simp only [rng]; omega)); (conv => whnf))
    | ((with_reducible apply Or.inr); (with_reducible apply And.intro) <;> (intro hb; (try simp at hb); (try (exfalso; first | omega | (simp_all; first | done | fail))); (try (conv => whnf))))
    | ((with_reducible apply And.intro); (focus (first | omega | (exact True.intro) | (simp; omega) | (exact Nat.le_of_ble_eq_true rfl) | (exact ⟨rfl, Nat.le_of_ble_eq_true rfl⟩) | (exact ⟨Nat.le_of_ble_eq_true rfl, Nat.le_of_ble_eq_true rfl⟩) | (intro hg; first | (simp; first | done | fail) | (simp at hg ⊢; exact hg) | (simp at hg; exact hg) | exact hg))); (conv => whnf))
    | ((with_reducible apply And.intro) <;> (intro hb; (try simp at hb); (try (exfalso; first | omega | (simp_all; first | done | fail))); (try (conv => whnf))))
    | (intro hlen; (conv => whnf))
    | ((with_reducible refine And.intro (Side.out ?_) ?_); rotate_left; (conv => whnf); rotate_right)
  refine AW.loopX (X := Nat) (fun i => ⟨[(2, .ptr 0 0), (1, .d (.int .i64 n)), (5, .d (.int .i64 (i : Int)))], ⟨[(0, .var [.d (encObjs m)] 24)], 1⟩, none, z⟩)
    (fun i => i ≤ m.length ∧ ∀ j, j < i → few11 (m.getD j default) 40 = true) (fun i => m.length - i) 0 ⟨by omega, fun j h => by omega⟩ ⟨rfl, rfl, rfl, ⟨OLe.refl _, trivial⟩, ⟨AV.le_refl _, AV.le_refl _, AV.le_refl _, trivial⟩⟩ ?_
  intro i ⟨hi, hw⟩
  repeat' first
    | (with_reducible refine AW.seq ?_)
    | ((with_reducible refine AW.region Try.tabOk ?_); (conv => whnf))
    | ((with_reducible refine AW.draw Try.tabOk Try.mixed ?_ ?_); (focus rfl); (conv => whnf))
    | ((with_reducible refine AW.ret ?_); (conv => whnf))
    | ((with_reducible refine AW.block ?_))
    | (with_reducible refine AW.scope ?_)
    | ((with_reducible refine AW.label ?_); (conv => whnf))
    | ((with_reducible refine AW.exit ?_); (conv => whnf))
    | ((with_reducible refine AW.skip ?_); (conv => whnf))
    | ((with_reducible refine AW.cond ?_); (conv => whnf))
    | ((with_reducible refine Own2.data ?_); (conv => whnf))
    | ((with_reducible refine ACall.id ?_); (refine PCall.call (by first | exact c101 _ _ (hB1 _)) rfl ?_); (intro x hx; first | subst hx | (obtain ⟨l_, rfl, hl_⟩ := hx.out)); (conv => whnf))
    | ((with_reducible refine ACall.freeze rfl ?_); (conv => whnf))
    | (refine ⟨true, _, rfl, ?_⟩; (conv => whnf))
    | (refine ⟨false, .nilp, rfl, ?_⟩; (conv => whnf))
    | (refine ⟨_, _, by first | exact c101 _ _ (hB1 _), ?_⟩; (conv => whnf))
    | ((with_reducible apply Or.inl); (refine ⟨rfl, rfl, ?_⟩); (conv => whnf))
    | (refine ⟨_, ⟨rfl, rfl⟩, ?_⟩; (conv => whnf))
    | (refine ⟨_, ⟨rfl, getM (by first | omega | (simp; omega))⟩, ?_⟩; (conv => whnf))
    | ((with_reducible apply Or.inl); apply Exists.intro; apply And.intro; (focus (intro hg; (conv => whnf); (repeat' first | (with_reducible exact ⟨rfl, rfl⟩) | ((with_reducible refine Own2.data ?_); (conv => whnf)) | (refine ⟨true, _, rfl, ?_⟩; (conv => whnf)) | (refine ⟨false, .nilp, rfl, ?_⟩; (conv => whnf)) | (refine ⟨_, _, by first | exact c101 _ _ (hB1 _), ?_⟩; (conv => whnf)) | ((with_reducible apply Or.inl); (refine ⟨rfl, rfl, ?_⟩); (conv => whnf)) | ((with_reducible apply Or.inl); (with_reducible apply And.intro); (focus (simp only [rng]; omega)); (conv => whnf)) | (refine ⟨by first | omega | (simp at hg ⊢; omega) | (simp_all; first | done | fail), ?_⟩; (conv => whnf)) | ((with_reducible refine ACall.id ?_); (refine PCall.call (by first | exact c101 _ _ (hB1 _)) rfl ?_); (intro x hx; first | subst hx | (obtain ⟨l_, rfl, hl_⟩ := hx.out)); (conv => whnf)) | (intro hlen; (conv => whnf))); done)); (conv => whnf))
    | (apply Exists.intro; apply And.intro; (focus (first | (intro hg; (conv => whnf)) | (conv => whnf)); (repeat' first | (with_reducible exact ⟨rfl, rfl⟩) | ((with_reducible refine Own2.data ?_); (conv => whnf)) | (refine ⟨true, _, rfl, ?_⟩; (conv => whnf)) | (refine ⟨false, .nilp, rfl, ?_⟩; (conv => whnf)) | (refine ⟨_, _, by first | exact c101 _ _ (hB1 _), ?_⟩; (conv => whnf)) | ((with_reducible apply Or.inl); (refine ⟨rfl, rfl, ?_⟩); (conv => whnf)) | ((with_reducible apply Or.inl); (with_reducible apply And.intro); (focus (simp only [rng]; omega)); (conv => whnf)) | (refine ⟨by first | omega | (simp at hg ⊢; omega) | (simp_all; first | done | fail), ?_⟩; (conv => whnf)) | ((with_reducible refine ACall.id ?_); (refine PCall.call (by first | exact c101 _ _ (hB1 _)) rfl ?_); (intro x hx; first | subst hx | (obtain ⟨l_, rfl, hl_⟩ := hx.out)); (conv => whnf)) | (intro hlen; (conv => whnf))); done); (conv => whnf))
    | ((with_reducible apply Or.inl); (with_reducible apply And.intro); (focus (simp only [rng]; omega)); (conv => whnf))
    | ((with_reducible apply Or.inr); (with_reducible apply And.intro) <;> (intro hb; (try simp at hb); (try (exfalso; first | omega | (simp_all; first | done | fail))); (try (conv => whnf))))
    | ((with_reducible apply And.intro); (focus (first | omega | (exact True.intro) | (simp; omega) | (exact Nat.le_of_ble_eq_true rfl) | (exact ⟨rfl, Nat.le_of_ble_eq_true rfl⟩) | (exact ⟨Nat.le_of_ble_eq_true rfl, Nat.le_of_ble_eq_true rfl⟩) | (intro hg; first | (simp; first | done | fail) | (simp at hg ⊢; exact hg) | (simp at hg; exact hg) | exact hg))); (conv => whnf))
    | ((with_reducible apply And.intro) <;> (intro hb; (try simp at hb); (try (exfalso; first | omega | (simp_all; first | done | fail))); (try (conv => whnf))))
    | (intro hlen; (conv => whnf))
    | ((with_reducible refine And.intro (Side.out ?_) ?_); rotate_left; (conv => whnf); rotate_right)
  · rename_i hit
    have : few12 m n = false := by
      unfold few12
      rw [not_all_of_getD (p := fun o => few11 o 40) default hit.1 (by simpa [List.getD_eq_getElem?_getD] using hb)]
      simp
    rw [this]
  · rename_i hit
    exact .mk (i + 1) ⟨by omega, fun j hj => by
      by_cases e : j = i
      · subst e; simpa [List.getD_eq_getElem?_getD] using hb
      · exact hw j (by omega)⟩ (by show m.length - (i + 1) < m.length - i; omega) ⟨rfl, rfl, rfl, ⟨OLe.refl _, trivial⟩, ⟨AV.le_refl _, AV.le_refl _, AV.le_refl _, trivial⟩⟩
  · unfold few12
    by_cases hn : (m.length : Int) ≤ n
    · rw [all_of_getD (p := fun o => few11 o 40) default (fun j hj => by
        have : ¬ i < m.length := fun h => by have := hb h; omega
        exact hw j (by omega))]
      simp
    · simp [hn]
end Go.Proofs
end
section
/- Contracts: sizes, of layers 18 and 13. -/
namespace Go.Proofs
open Go.Pm
set_option maxRecDepth 100000

def few18 (L : List Str) (n : Int) : Bool := decide ((L.length : Int) ≤ n) && L.all fun s => decide (s.length ≤ 30)
theorem c36 (l : List (Str × Str)) (L : List Str) (m : List Obj) (hB : ∀ o ∈ m, bndTags o.tags) :
    PCall Try.prog 36 [.d (encTags l), .d (encStrs L), .d (encMap m)] fun x => x = .d (.bool (few9 l 70 && few18 L 20 && few12 m 30)) := by
  refine PCall.intro Try.tabOk Try.f36 _ Try.func36 rfl (by decide) rfl fun z => ?_
  repeat' first
    | (with_reducible refine AW.seq ?_)
    | ((with_reducible refine AW.region Try.tabOk ?_); (conv => whnf))
    | ((with_reducible refine AW.draw Try.tabOk Try.mixed ?_ ?_); (focus rfl); (conv => whnf))
    | ((with_reducible refine AW.ret ?_); (conv => whnf))
    | ((with_reducible refine AW.block ?_))
    | (with_reducible refine AW.scope ?_)
    | ((with_reducible refine AW.label ?_); (conv => whnf))
    | ((with_reducible refine AW.exit ?_); (conv => whnf))
    | ((with_reducible refine AW.skip ?_); (conv => whnf))
    | ((with_reducible refine AW.cond ?_); (conv => whnf))
    | ((with_reducible refine Own2.data ?_); (conv => whnf))
    | ((with_reducible refine ACall.id ?_); (refine PCall.call (by first | exact c71 _ _ | exact c72 _ _ | exact c73 _ _ hB) rfl ?_); (intro x hx; first | subst hx | (obtain ⟨l_, rfl, hl_⟩ := hx.out)); (conv => whnf))
    | ((with_reducible refine ACall.freeze rfl ?_); (conv => whnf))
    | (refine ⟨true, _, rfl, ?_⟩; (conv => whnf))
    | (refine ⟨false, .nilp, rfl, ?_⟩; (conv => whnf))
    | (refine ⟨_, _, by first | exact c71 _ _ | exact c72 _ _ | exact c73 _ _ hB, ?_⟩; (conv => whnf))
    | ((with_reducible apply Or.inl); (refine ⟨rfl, rfl, ?_⟩); (conv => whnf))
    | (refine ⟨_, ⟨rfl, rfl⟩, ?_⟩; (conv => whnf))
    | (refine ⟨_, ⟨rfl, getM (by first | omega | (simp; omega))⟩, ?_⟩; (conv => whnf))
    | ((with_reducible apply Or.inl); apply Exists.intro; apply And.intro; (focus (intro hg; (conv => whnf); (repeat' first | (with_reducible exact ⟨rfl, rfl⟩) | ((with_reducible refine Own2.data ?_); (conv => whnf)) | (refine ⟨true, _, rfl, ?_⟩; (conv => whnf)) | (refine ⟨false, .nilp, rfl, ?_⟩; (conv => whnf)) | (refine ⟨_, _, by first | exact c71 _ _ | exact c72 _ _ | exact c73 _ _ hB, ?_⟩; (conv => whnf)) | ((with_reducible apply Or.inl); (refine ⟨rfl, rfl, ?_⟩); (conv => whnf)) | ((with_reducible apply Or.inl); (with_reducible apply And.intro); (focus (simp only [rng]; omega)); (conv => whnf)) | (refine ⟨by first | omega | (simp at hg ⊢; omega) | (simp_all; first | done | fail), ?_⟩; (conv => whnf)) | ((with_reducible refine ACall.id ?_); (refine PCall.call (by first | exact c71 _ _ | exact c72 _ _ | exact c73 _ _ hB) rfl ?_); (intro x hx; first | subst hx | (obtain ⟨l_, rfl, hl_⟩ := hx.out)); (conv => whnf)) | (intro hlen; (conv => whnf))); done)); (conv => whnf))
    | (apply Exists.intro; apply And.intro; (focus (first | (intro hg; (conv => whnf)) | (conv => whnf)); (repeat' first | (with_reducible exact ⟨rfl, rfl⟩) | ((with_reducible refine Own2.data ?_); (conv => whnf)) | (refine ⟨true, _, rfl, ?_⟩; (conv => whnf)) | (refine ⟨false, .nilp, rfl, ?_⟩; (conv => whnf)) | (refine ⟨_, _, by first | exact c71 _ _ | exact c72 _ _ | exact c73 _ _ hB, ?_⟩; (conv => whnf)) | ((with_reducible apply Or.inl); (refine ⟨rfl, rfl, ?_⟩); (conv => whnf)) | ((with_reducible apply Or.inl); (with_reducible apply And.intro); (focus (simp only [rng]; omega)); (conv => whnf)) | (refine ⟨by first | omega | (simp at hg ⊢; omega) | (simp_all; first | done | fail), ?_⟩; (conv => whnf)) | ((with_reducible refine ACall.id ?_); (refine PCall.call (by first | exact c71 _ _ | exact c72 _ _ | exact c73 _ _ hB) rfl ?_); (intro x hx; first | subst hx | (obtain ⟨l_, rfl, hl_⟩ := hx.out)); (conv => whnf)) | (intro hlen; (conv => whnf))); done); (conv => whnf))
    | ((with_reducible apply Or.inl); (with_reducible apply And.intro); (focus (simp only [rng]; omega)); (conv => whnf))
    | ((with_reducible apply Or.inr); (with_reducible apply And.intro) <;> (intro hb; (try simp at hb); (try (exfalso; first | omega | (simp_all; first | done | fail))); (try (conv => whnf))))
    | ((with_reducible apply And.intro); (focus (first | omega | (exact True.intro) | (simp; omega) | (exact Nat.le_of_ble_eq_true rfl) | (exact ⟨rfl, Nat.le_of_ble_eq_true rfl⟩) | (exact ⟨Nat.le_of_ble_eq_true rfl, Nat.le_of_ble_eq_true rfl⟩) | (intro hg; first | (simp; first | done | fail) | (simp at hg ⊢; exact hg) | (simp at hg; exact hg) | exact hg))); (conv => whnf))
    | ((with_reducible apply And.intro) <;> (intro hb; (try simp at hb); (try (exfalso; first | omega | (simp_all; first | done | fail))); (try (conv => whnf))))
    | (intro hlen; (conv => whnf))
    | ((with_reducible refine And.intro (Side.out ?_) ?_); rotate_left; (conv => whnf); rotate_right)
  · congr 2
    have h1 : ∀ c b : Bool, (bif c then b else false) = (c && b) := fun c b => by cases c <;> rfl
    simp only [h1, few18]
end Go.Proofs
end
