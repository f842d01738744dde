/-
  The types of this program, as the engine takes them.
-/
import Derived.Test.YtdnnojblneccdaaE21
import Derived.Test.YtdnnojblneccdaaProg
namespace Go.Proofs.Ytdnnojblneccdaa
open Go

noncomputable def tys : List (Nat × TD) := [
  (1, ⟨.func, 1, 8, [Value.nilFunc]⟩),
  (2, ⟨.int .i64, 1, 8, [Value.int IntKind.i64 0]⟩),
  (3, ⟨.int .i64, 1, 8, [Value.int IntKind.i64 0]⟩),
  (4, ⟨.bool, 1, 1, [Value.bool false]⟩),
  (5, ⟨.int .u8, 1, 1, [Value.int IntKind.u8 0]⟩),
  (9, ⟨.str, 1, 16, [Value.string ByteArray.empty]⟩),
  (12, ⟨.int .u64, 1, 8, [Value.int IntKind.u64 0]⟩),
  (20, ⟨.iface, 1, 16, [Value.nilIface]⟩),
  (21, ⟨.int .i32, 1, 4, [Value.int IntKind.i32 0]⟩),
  (22, ⟨.int .u64, 1, 8, [Value.int IntKind.u64 0]⟩),
  (23, ⟨.arr 32 5, 32, 32, List.replicate 32 (Value.int IntKind.u8 0)⟩),
  (24, ⟨.arr 32 5, 32, 32, List.replicate 32 (Value.int IntKind.u8 0)⟩),
  (25, ⟨.arr 32 5, 32, 32, List.replicate 32 (Value.int IntKind.u8 0)⟩),
  (26, ⟨.arr 64 5, 64, 64, List.replicate 64 (Value.int IntKind.u8 0)⟩),
  (27, ⟨.arr 64 5, 64, 64, List.replicate 64 (Value.int IntKind.u8 0)⟩),
  (28, ⟨.struct [(0, 22), (1, 22), (2, 3), (3, 24), (35, 22), (36, 25), (68, 27)], 132, 160, List.flatten [[Value.int IntKind.u64 0], [Value.int IntKind.u64 0], [Value.int IntKind.i64 0], List.replicate 32 (Value.int IntKind.u8 0), [Value.int IntKind.u64 0], List.replicate 32 (Value.int IntKind.u8 0), List.replicate 64 (Value.int IntKind.u8 0)]⟩),
  (29, ⟨.struct [(0, 22), (1, 22), (2, 3), (3, 24), (35, 22), (36, 25), (68, 27)], 132, 160, List.flatten [[Value.int IntKind.u64 0], [Value.int IntKind.u64 0], [Value.int IntKind.i64 0], List.replicate 32 (Value.int IntKind.u8 0), [Value.int IntKind.u64 0], List.replicate 32 (Value.int IntKind.u8 0), List.replicate 64 (Value.int IntKind.u8 0)]⟩),
  (30, ⟨.func, 1, 8, [Value.nilFunc]⟩),
  (31, ⟨.func, 1, 8, [Value.nilFunc]⟩),
  (32, ⟨.func, 1, 8, [Value.nilFunc]⟩),
  (33, ⟨.func, 1, 8, [Value.nilFunc]⟩),
  (34, ⟨.slice 24, 1, 24, [Value.slice none 0 0]⟩),
  (35, ⟨.slice 5, 1, 24, [Value.slice none 0 0]⟩),
  (36, ⟨.struct [(0, 25), (32, 22), (33, 24), (65, 34), (66, 35), (67, 27)], 131, 184, List.flatten [List.replicate 32 (Value.int IntKind.u8 0), [Value.int IntKind.u64 0], List.replicate 32 (Value.int IntKind.u8 0), [Value.slice none 0 0], [Value.slice none 0 0], List.replicate 64 (Value.int IntKind.u8 0)]⟩),
  (37, ⟨.struct [(0, 25), (32, 22), (33, 24), (65, 34), (66, 35), (67, 27)], 131, 184, List.flatten [List.replicate 32 (Value.int IntKind.u8 0), [Value.int IntKind.u64 0], List.replicate 32 (Value.int IntKind.u8 0), [Value.slice none 0 0], [Value.slice none 0 0], List.replicate 64 (Value.int IntKind.u8 0)]⟩),
  (38, ⟨.func, 1, 8, [Value.nilFunc]⟩),
  (39, ⟨.slice 37, 1, 24, [Value.slice none 0 0]⟩),
  (40, ⟨.func, 1, 8, [Value.nilFunc]⟩),
  (41, ⟨.int .i64, 1, 8, [Value.int IntKind.i64 0]⟩),
  (42, ⟨.func, 1, 8, [Value.nilFunc]⟩),
  (43, ⟨.func, 1, 8, [Value.nilFunc]⟩),
  (44, ⟨.func, 1, 8, [Value.nilFunc]⟩),
  (45, ⟨.func, 1, 8, [Value.nilFunc]⟩),
  (46, ⟨.func, 1, 8, [Value.nilFunc]⟩),
  (47, ⟨.func, 1, 8, [Value.nilFunc]⟩),
  (48, ⟨.arr 80 22, 80, 640, List.replicate 80 (Value.int IntKind.u64 0)⟩),
  (49, ⟨.func, 1, 8, [Value.nilFunc]⟩),
  (50, ⟨.arr 8 22, 8, 64, List.replicate 8 (Value.int IntKind.u64 0)⟩),
  (51, ⟨.func, 1, 8, [Value.nilFunc]⟩),
  (52, ⟨.func, 1, 8, [Value.nilFunc]⟩),
  (53, ⟨.func, 1, 8, [Value.nilFunc]⟩),
  (54, ⟨.int .u32, 1, 4, [Value.int IntKind.u32 0]⟩),
  (55, ⟨.func, 1, 8, [Value.nilFunc]⟩),
  (56, ⟨.func, 1, 8, [Value.nilFunc]⟩),
  (58, ⟨.func, 1, 8, [Value.nilFunc]⟩),
  (59, ⟨.func, 1, 8, [Value.nilFunc]⟩),
  (60, ⟨.int .u64, 1, 8, [Value.int IntKind.u64 0]⟩),
  (61, ⟨.func, 1, 8, [Value.nilFunc]⟩),
  (62, ⟨.func, 1, 8, [Value.nilFunc]⟩),
  (63, ⟨.arr 128 5, 128, 128, List.replicate 128 (Value.int IntKind.u8 0)⟩),
  (64, ⟨.func, 1, 8, [Value.nilFunc]⟩),
  (65, ⟨.func, 1, 8, [Value.nilFunc]⟩),
  (66, ⟨.func, 1, 8, [Value.nilFunc]⟩),
  (67, ⟨.func, 1, 8, [Value.nilFunc]⟩),
  (68, ⟨.struct [(0, 5), (1, 35)], 2, 32, List.flatten [[Value.int IntKind.u8 0], [Value.slice none 0 0]]⟩),
  (69, ⟨.struct [(0, 5), (1, 35)], 2, 32, List.flatten [[Value.int IntKind.u8 0], [Value.slice none 0 0]]⟩),
  (70, ⟨.func, 1, 8, [Value.nilFunc]⟩),
  (72, ⟨.func, 1, 8, [Value.nilFunc]⟩),
  (74, ⟨.func, 1, 8, [Value.nilFunc]⟩),
  (75, ⟨.func, 1, 8, [Value.nilFunc]⟩),
  (76, ⟨.func, 1, 8, [Value.nilFunc]⟩),
  (77, ⟨.func, 1, 8, [Value.nilFunc]⟩),
  (78, ⟨.func, 1, 8, [Value.nilFunc]⟩),
  (79, ⟨.func, 1, 8, [Value.nilFunc]⟩),
  (80, ⟨.slice 69, 1, 24, [Value.slice none 0 0]⟩),
  (81, ⟨.func, 1, 8, [Value.nilFunc]⟩),
  (82, ⟨.slice 3, 1, 24, [Value.slice none 0 0]⟩),
  (84, ⟨.func, 1, 8, [Value.nilFunc]⟩),
  (85, ⟨.func, 1, 8, [Value.nilFunc]⟩),
  (86, ⟨.func, 1, 8, [Value.nilFunc]⟩),
  (87, ⟨.func, 1, 8, [Value.nilFunc]⟩),
  (88, ⟨.func, 1, 8, [Value.nilFunc]⟩),
  (89, ⟨.func, 1, 8, [Value.nilFunc]⟩),
  (90, ⟨.arr 6 3, 6, 48, List.replicate 6 (Value.int IntKind.i64 0)⟩),
  (91, ⟨.func, 1, 8, [Value.nilFunc]⟩),
  (92, ⟨.func, 1, 8, [Value.nilFunc]⟩),
  (93, ⟨.func, 1, 8, [Value.nilFunc]⟩),
  (94, ⟨.slice 35, 1, 24, [Value.slice none 0 0]⟩),
  (95, ⟨.func, 1, 8, [Value.nilFunc]⟩),
  (96, ⟨.func, 1, 8, [Value.nilFunc]⟩),
  (97, ⟨.func, 1, 8, [Value.nilFunc]⟩),
  (98, ⟨.func, 1, 8, [Value.nilFunc]⟩),
  (99, ⟨.func, 1, 8, [Value.nilFunc]⟩),
  (100, ⟨.func, 1, 8, [Value.nilFunc]⟩),
  (101, ⟨.func, 1, 8, [Value.nilFunc]⟩),
  (102, ⟨.ptr 48, 1, 8, [Value.pointer none]⟩),
  (103, ⟨.ptr 63, 1, 8, [Value.pointer none]⟩),
  (104, ⟨.func, 1, 8, [Value.nilFunc]⟩),
  (105, ⟨.func, 1, 8, [Value.nilFunc]⟩),
  (106, ⟨.struct [(0, 3), (1, 24)], 33, 40, List.flatten [[Value.int IntKind.i64 0], List.replicate 32 (Value.int IntKind.u8 0)]⟩),
  (107, ⟨.struct [(0, 3), (1, 24)], 33, 40, List.flatten [[Value.int IntKind.i64 0], List.replicate 32 (Value.int IntKind.u8 0)]⟩),
  (108, ⟨.func, 1, 8, [Value.nilFunc]⟩),
  (109, ⟨.func, 1, 8, [Value.nilFunc]⟩),
  (110, ⟨.func, 1, 8, [Value.nilFunc]⟩),
  (111, ⟨.func, 1, 8, [Value.nilFunc]⟩),
  (112, ⟨.func, 1, 8, [Value.nilFunc]⟩),
  (113, ⟨.slice 34, 1, 24, [Value.slice none 0 0]⟩),
  (114, ⟨.func, 1, 8, [Value.nilFunc]⟩),
  (115, ⟨.func, 1, 8, [Value.nilFunc]⟩),
  (116, ⟨.func, 1, 8, [Value.nilFunc]⟩),
  (117, ⟨.slice 22, 1, 24, [Value.slice none 0 0]⟩),
  (118, ⟨.slice 22, 1, 24, [Value.slice none 0 0]⟩),
  (119, ⟨.func, 1, 8, [Value.nilFunc]⟩),
  (120, ⟨.func, 1, 8, [Value.nilFunc]⟩),
  (121, ⟨.slice 54, 1, 24, [Value.slice none 0 0]⟩),
  (122, ⟨.slice 54, 1, 24, [Value.slice none 0 0]⟩),
  (123, ⟨.func, 1, 8, [Value.nilFunc]⟩),
  (124, ⟨.func, 1, 8, [Value.nilFunc]⟩),
  (125, ⟨.func, 1, 8, [Value.nilFunc]⟩),
  (126, ⟨.ptr 143, 1, 8, [Value.pointer none]⟩),
  (127, ⟨.func, 1, 8, [Value.nilFunc]⟩),
  (128, ⟨.func, 1, 8, [Value.nilFunc]⟩),
  (129, ⟨.func, 1, 8, [Value.nilFunc]⟩),
  (130, ⟨.func, 1, 8, [Value.nilFunc]⟩),
  (131, ⟨.func, 1, 8, [Value.nilFunc]⟩),
  (132, ⟨.func, 1, 8, [Value.nilFunc]⟩),
  (133, ⟨.func, 1, 8, [Value.nilFunc]⟩),
  (134, ⟨.func, 1, 8, [Value.nilFunc]⟩),
  (135, ⟨.func, 1, 8, [Value.nilFunc]⟩),
  (136, ⟨.func, 1, 8, [Value.nilFunc]⟩),
  (137, ⟨.func, 1, 8, [Value.nilFunc]⟩),
  (138, ⟨.func, 1, 8, [Value.nilFunc]⟩),
  (139, ⟨.func, 1, 8, [Value.nilFunc]⟩),
  (140, ⟨.func, 1, 8, [Value.nilFunc]⟩),
  (141, ⟨.func, 1, 8, [Value.nilFunc]⟩),
  (142, ⟨.struct [(0, 35), (1, 3), (2, 41), (3, 4)], 4, 48, List.flatten [[Value.slice none 0 0], [Value.int IntKind.i64 0], [Value.int IntKind.i64 0], [Value.bool false]]⟩),
  (143, ⟨.struct [(0, 35), (1, 3), (2, 41), (3, 4)], 4, 48, List.flatten [[Value.slice none 0 0], [Value.int IntKind.i64 0], [Value.int IntKind.i64 0], [Value.bool false]]⟩),
  (145, ⟨.func, 1, 8, [Value.nilFunc]⟩),
  (146, ⟨.func, 1, 8, [Value.nilFunc]⟩),
  (147, ⟨.func, 1, 8, [Value.nilFunc]⟩),
  (148, ⟨.func, 1, 8, [Value.nilFunc]⟩),
  (149, ⟨.func, 1, 8, [Value.nilFunc]⟩),
  (150, ⟨.func, 1, 8, [Value.nilFunc]⟩),
  (151, ⟨.func, 1, 8, [Value.nilFunc]⟩),
  (159, ⟨.func, 1, 8, [Value.nilFunc]⟩),
  (160, ⟨.ptr 5, 1, 8, [Value.pointer none]⟩)]
noncomputable def kks : List (Nat × List TK) := [
  (23, List.replicate 32 (TK.int IntKind.u8)),
  (24, List.replicate 32 (TK.int IntKind.u8)),
  (25, List.replicate 32 (TK.int IntKind.u8)),
  (26, List.replicate 64 (TK.int IntKind.u8)),
  (27, List.replicate 64 (TK.int IntKind.u8)),
  (28, List.flatten [[TK.int IntKind.u64], [TK.int IntKind.u64], [TK.int IntKind.i64], List.replicate 32 (TK.int IntKind.u8), [TK.int IntKind.u64], List.replicate 32 (TK.int IntKind.u8), List.replicate 64 (TK.int IntKind.u8)]),
  (29, List.flatten [[TK.int IntKind.u64], [TK.int IntKind.u64], [TK.int IntKind.i64], List.replicate 32 (TK.int IntKind.u8), [TK.int IntKind.u64], List.replicate 32 (TK.int IntKind.u8), List.replicate 64 (TK.int IntKind.u8)]),
  (48, List.replicate 80 (TK.int IntKind.u64)),
  (50, List.replicate 8 (TK.int IntKind.u64)),
  (63, List.replicate 128 (TK.int IntKind.u8)),
  (90, List.replicate 6 (TK.int IntKind.i64)),
  (106, List.flatten [[TK.int IntKind.i64], List.replicate 32 (TK.int IntKind.u8)]),
  (107, List.flatten [[TK.int IntKind.i64], List.replicate 32 (TK.int IntKind.u8)])]
noncomputable def sts : List Nat := [28, 29, 106, 107]
noncomputable abbrev D : Ty := tyOf tys
noncomputable abbrev K : Kinds := fun t => kks.lookup t
set_option maxRecDepth 100000
theorem tys_ok : tysCheck Try.prog tys = true := by kernel_rfl
theorem tys_fields : fieldsCheck tys = true := by kernel_rfl
theorem tys_structs : sts.all (structCheck Try.prog) = true := by kernel_rfl
theorem tys_kinds : kindsCheck Try.prog (tyOf tys) sts kks = true := by kernel_rfl
theorem mixed : Try.prog.follows .mixedOrders = true := by kernel_rfl
theorem dok : DOk Try.prog D := tysCheck_ok tys_ok
theorem env {Γ : Fns} (h : FnsOk Try.prog Γ) : Env Try.prog Γ D K := env_mk tys_ok tys_fields tys_structs tys_kinds h

theorem D_1 : D 1 = some ⟨.func, 1, 8, [Value.nilFunc]⟩ := by kernel_rfl
theorem D_2 : D 2 = some ⟨.int .i64, 1, 8, [Value.int IntKind.i64 0]⟩ := by kernel_rfl
theorem D_3 : D 3 = some ⟨.int .i64, 1, 8, [Value.int IntKind.i64 0]⟩ := by kernel_rfl
theorem D_4 : D 4 = some ⟨.bool, 1, 1, [Value.bool false]⟩ := by kernel_rfl
theorem D_5 : D 5 = some ⟨.int .u8, 1, 1, [Value.int IntKind.u8 0]⟩ := by kernel_rfl
theorem D_9 : D 9 = some ⟨.str, 1, 16, [Value.string ByteArray.empty]⟩ := by kernel_rfl
theorem D_12 : D 12 = some ⟨.int .u64, 1, 8, [Value.int IntKind.u64 0]⟩ := by kernel_rfl
theorem D_20 : D 20 = some ⟨.iface, 1, 16, [Value.nilIface]⟩ := by kernel_rfl
theorem D_21 : D 21 = some ⟨.int .i32, 1, 4, [Value.int IntKind.i32 0]⟩ := by kernel_rfl
theorem D_22 : D 22 = some ⟨.int .u64, 1, 8, [Value.int IntKind.u64 0]⟩ := by kernel_rfl
theorem D_23 : D 23 = some ⟨.arr 32 5, 32, 32, List.replicate 32 (Value.int IntKind.u8 0)⟩ := by kernel_rfl
theorem D_24 : D 24 = some ⟨.arr 32 5, 32, 32, List.replicate 32 (Value.int IntKind.u8 0)⟩ := by kernel_rfl
theorem D_25 : D 25 = some ⟨.arr 32 5, 32, 32, List.replicate 32 (Value.int IntKind.u8 0)⟩ := by kernel_rfl
theorem D_26 : D 26 = some ⟨.arr 64 5, 64, 64, List.replicate 64 (Value.int IntKind.u8 0)⟩ := by kernel_rfl
theorem D_27 : D 27 = some ⟨.arr 64 5, 64, 64, List.replicate 64 (Value.int IntKind.u8 0)⟩ := by kernel_rfl
theorem D_28 : D 28 = some ⟨.struct [(0, 22), (1, 22), (2, 3), (3, 24), (35, 22), (36, 25), (68, 27)], 132, 160, List.flatten [[Value.int IntKind.u64 0], [Value.int IntKind.u64 0], [Value.int IntKind.i64 0], List.replicate 32 (Value.int IntKind.u8 0), [Value.int IntKind.u64 0], List.replicate 32 (Value.int IntKind.u8 0), List.replicate 64 (Value.int IntKind.u8 0)]⟩ := by kernel_rfl
theorem D_29 : D 29 = some ⟨.struct [(0, 22), (1, 22), (2, 3), (3, 24), (35, 22), (36, 25), (68, 27)], 132, 160, List.flatten [[Value.int IntKind.u64 0], [Value.int IntKind.u64 0], [Value.int IntKind.i64 0], List.replicate 32 (Value.int IntKind.u8 0), [Value.int IntKind.u64 0], List.replicate 32 (Value.int IntKind.u8 0), List.replicate 64 (Value.int IntKind.u8 0)]⟩ := by kernel_rfl
theorem D_30 : D 30 = some ⟨.func, 1, 8, [Value.nilFunc]⟩ := by kernel_rfl
theorem D_31 : D 31 = some ⟨.func, 1, 8, [Value.nilFunc]⟩ := by kernel_rfl
theorem D_32 : D 32 = some ⟨.func, 1, 8, [Value.nilFunc]⟩ := by kernel_rfl
theorem D_33 : D 33 = some ⟨.func, 1, 8, [Value.nilFunc]⟩ := by kernel_rfl
theorem D_34 : D 34 = some ⟨.slice 24, 1, 24, [Value.slice none 0 0]⟩ := by kernel_rfl
theorem D_35 : D 35 = some ⟨.slice 5, 1, 24, [Value.slice none 0 0]⟩ := by kernel_rfl
theorem D_36 : D 36 = some ⟨.struct [(0, 25), (32, 22), (33, 24), (65, 34), (66, 35), (67, 27)], 131, 184, List.flatten [List.replicate 32 (Value.int IntKind.u8 0), [Value.int IntKind.u64 0], List.replicate 32 (Value.int IntKind.u8 0), [Value.slice none 0 0], [Value.slice none 0 0], List.replicate 64 (Value.int IntKind.u8 0)]⟩ := by kernel_rfl
theorem D_37 : D 37 = some ⟨.struct [(0, 25), (32, 22), (33, 24), (65, 34), (66, 35), (67, 27)], 131, 184, List.flatten [List.replicate 32 (Value.int IntKind.u8 0), [Value.int IntKind.u64 0], List.replicate 32 (Value.int IntKind.u8 0), [Value.slice none 0 0], [Value.slice none 0 0], List.replicate 64 (Value.int IntKind.u8 0)]⟩ := by kernel_rfl
theorem D_38 : D 38 = some ⟨.func, 1, 8, [Value.nilFunc]⟩ := by kernel_rfl
theorem D_39 : D 39 = some ⟨.slice 37, 1, 24, [Value.slice none 0 0]⟩ := by kernel_rfl
theorem D_40 : D 40 = some ⟨.func, 1, 8, [Value.nilFunc]⟩ := by kernel_rfl
theorem D_41 : D 41 = some ⟨.int .i64, 1, 8, [Value.int IntKind.i64 0]⟩ := by kernel_rfl
theorem D_42 : D 42 = some ⟨.func, 1, 8, [Value.nilFunc]⟩ := by kernel_rfl
theorem D_43 : D 43 = some ⟨.func, 1, 8, [Value.nilFunc]⟩ := by kernel_rfl
theorem D_44 : D 44 = some ⟨.func, 1, 8, [Value.nilFunc]⟩ := by kernel_rfl
theorem D_45 : D 45 = some ⟨.func, 1, 8, [Value.nilFunc]⟩ := by kernel_rfl
theorem D_46 : D 46 = some ⟨.func, 1, 8, [Value.nilFunc]⟩ := by kernel_rfl
theorem D_47 : D 47 = some ⟨.func, 1, 8, [Value.nilFunc]⟩ := by kernel_rfl
theorem D_48 : D 48 = some ⟨.arr 80 22, 80, 640, List.replicate 80 (Value.int IntKind.u64 0)⟩ := by kernel_rfl
theorem D_49 : D 49 = some ⟨.func, 1, 8, [Value.nilFunc]⟩ := by kernel_rfl
theorem D_50 : D 50 = some ⟨.arr 8 22, 8, 64, List.replicate 8 (Value.int IntKind.u64 0)⟩ := by kernel_rfl
theorem D_51 : D 51 = some ⟨.func, 1, 8, [Value.nilFunc]⟩ := by kernel_rfl
theorem D_52 : D 52 = some ⟨.func, 1, 8, [Value.nilFunc]⟩ := by kernel_rfl
theorem D_53 : D 53 = some ⟨.func, 1, 8, [Value.nilFunc]⟩ := by kernel_rfl
theorem D_54 : D 54 = some ⟨.int .u32, 1, 4, [Value.int IntKind.u32 0]⟩ := by kernel_rfl
theorem D_55 : D 55 = some ⟨.func, 1, 8, [Value.nilFunc]⟩ := by kernel_rfl
theorem D_56 : D 56 = some ⟨.func, 1, 8, [Value.nilFunc]⟩ := by kernel_rfl
theorem D_58 : D 58 = some ⟨.func, 1, 8, [Value.nilFunc]⟩ := by kernel_rfl
theorem D_59 : D 59 = some ⟨.func, 1, 8, [Value.nilFunc]⟩ := by kernel_rfl
theorem D_60 : D 60 = some ⟨.int .u64, 1, 8, [Value.int IntKind.u64 0]⟩ := by kernel_rfl
theorem D_61 : D 61 = some ⟨.func, 1, 8, [Value.nilFunc]⟩ := by kernel_rfl
theorem D_62 : D 62 = some ⟨.func, 1, 8, [Value.nilFunc]⟩ := by kernel_rfl
theorem D_63 : D 63 = some ⟨.arr 128 5, 128, 128, List.replicate 128 (Value.int IntKind.u8 0)⟩ := by kernel_rfl
theorem D_64 : D 64 = some ⟨.func, 1, 8, [Value.nilFunc]⟩ := by kernel_rfl
theorem D_65 : D 65 = some ⟨.func, 1, 8, [Value.nilFunc]⟩ := by kernel_rfl
theorem D_66 : D 66 = some ⟨.func, 1, 8, [Value.nilFunc]⟩ := by kernel_rfl
theorem D_67 : D 67 = some ⟨.func, 1, 8, [Value.nilFunc]⟩ := by kernel_rfl
theorem D_68 : D 68 = some ⟨.struct [(0, 5), (1, 35)], 2, 32, List.flatten [[Value.int IntKind.u8 0], [Value.slice none 0 0]]⟩ := by kernel_rfl
theorem D_69 : D 69 = some ⟨.struct [(0, 5), (1, 35)], 2, 32, List.flatten [[Value.int IntKind.u8 0], [Value.slice none 0 0]]⟩ := by kernel_rfl
theorem D_70 : D 70 = some ⟨.func, 1, 8, [Value.nilFunc]⟩ := by kernel_rfl
theorem D_72 : D 72 = some ⟨.func, 1, 8, [Value.nilFunc]⟩ := by kernel_rfl
theorem D_74 : D 74 = some ⟨.func, 1, 8, [Value.nilFunc]⟩ := by kernel_rfl
theorem D_75 : D 75 = some ⟨.func, 1, 8, [Value.nilFunc]⟩ := by kernel_rfl
theorem D_76 : D 76 = some ⟨.func, 1, 8, [Value.nilFunc]⟩ := by kernel_rfl
theorem D_77 : D 77 = some ⟨.func, 1, 8, [Value.nilFunc]⟩ := by kernel_rfl
theorem D_78 : D 78 = some ⟨.func, 1, 8, [Value.nilFunc]⟩ := by kernel_rfl
theorem D_79 : D 79 = some ⟨.func, 1, 8, [Value.nilFunc]⟩ := by kernel_rfl
theorem D_80 : D 80 = some ⟨.slice 69, 1, 24, [Value.slice none 0 0]⟩ := by kernel_rfl
theorem D_81 : D 81 = some ⟨.func, 1, 8, [Value.nilFunc]⟩ := by kernel_rfl
theorem D_82 : D 82 = some ⟨.slice 3, 1, 24, [Value.slice none 0 0]⟩ := by kernel_rfl
theorem D_84 : D 84 = some ⟨.func, 1, 8, [Value.nilFunc]⟩ := by kernel_rfl
theorem D_85 : D 85 = some ⟨.func, 1, 8, [Value.nilFunc]⟩ := by kernel_rfl
theorem D_86 : D 86 = some ⟨.func, 1, 8, [Value.nilFunc]⟩ := by kernel_rfl
theorem D_87 : D 87 = some ⟨.func, 1, 8, [Value.nilFunc]⟩ := by kernel_rfl
theorem D_88 : D 88 = some ⟨.func, 1, 8, [Value.nilFunc]⟩ := by kernel_rfl
theorem D_89 : D 89 = some ⟨.func, 1, 8, [Value.nilFunc]⟩ := by kernel_rfl
theorem D_90 : D 90 = some ⟨.arr 6 3, 6, 48, List.replicate 6 (Value.int IntKind.i64 0)⟩ := by kernel_rfl
theorem D_91 : D 91 = some ⟨.func, 1, 8, [Value.nilFunc]⟩ := by kernel_rfl
theorem D_92 : D 92 = some ⟨.func, 1, 8, [Value.nilFunc]⟩ := by kernel_rfl
theorem D_93 : D 93 = some ⟨.func, 1, 8, [Value.nilFunc]⟩ := by kernel_rfl
theorem D_94 : D 94 = some ⟨.slice 35, 1, 24, [Value.slice none 0 0]⟩ := by kernel_rfl
theorem D_95 : D 95 = some ⟨.func, 1, 8, [Value.nilFunc]⟩ := by kernel_rfl
theorem D_96 : D 96 = some ⟨.func, 1, 8, [Value.nilFunc]⟩ := by kernel_rfl
theorem D_97 : D 97 = some ⟨.func, 1, 8, [Value.nilFunc]⟩ := by kernel_rfl
theorem D_98 : D 98 = some ⟨.func, 1, 8, [Value.nilFunc]⟩ := by kernel_rfl
theorem D_99 : D 99 = some ⟨.func, 1, 8, [Value.nilFunc]⟩ := by kernel_rfl
theorem D_100 : D 100 = some ⟨.func, 1, 8, [Value.nilFunc]⟩ := by kernel_rfl
theorem D_101 : D 101 = some ⟨.func, 1, 8, [Value.nilFunc]⟩ := by kernel_rfl
theorem D_102 : D 102 = some ⟨.ptr 48, 1, 8, [Value.pointer none]⟩ := by kernel_rfl
theorem D_103 : D 103 = some ⟨.ptr 63, 1, 8, [Value.pointer none]⟩ := by kernel_rfl
theorem D_104 : D 104 = some ⟨.func, 1, 8, [Value.nilFunc]⟩ := by kernel_rfl
theorem D_105 : D 105 = some ⟨.func, 1, 8, [Value.nilFunc]⟩ := by kernel_rfl
theorem D_106 : D 106 = some ⟨.struct [(0, 3), (1, 24)], 33, 40, List.flatten [[Value.int IntKind.i64 0], List.replicate 32 (Value.int IntKind.u8 0)]⟩ := by kernel_rfl
theorem D_107 : D 107 = some ⟨.struct [(0, 3), (1, 24)], 33, 40, List.flatten [[Value.int IntKind.i64 0], List.replicate 32 (Value.int IntKind.u8 0)]⟩ := by kernel_rfl
theorem D_108 : D 108 = some ⟨.func, 1, 8, [Value.nilFunc]⟩ := by kernel_rfl
theorem D_109 : D 109 = some ⟨.func, 1, 8, [Value.nilFunc]⟩ := by kernel_rfl
theorem D_110 : D 110 = some ⟨.func, 1, 8, [Value.nilFunc]⟩ := by kernel_rfl
theorem D_111 : D 111 = some ⟨.func, 1, 8, [Value.nilFunc]⟩ := by kernel_rfl
theorem D_112 : D 112 = some ⟨.func, 1, 8, [Value.nilFunc]⟩ := by kernel_rfl
theorem D_113 : D 113 = some ⟨.slice 34, 1, 24, [Value.slice none 0 0]⟩ := by kernel_rfl
theorem D_114 : D 114 = some ⟨.func, 1, 8, [Value.nilFunc]⟩ := by kernel_rfl
theorem D_115 : D 115 = some ⟨.func, 1, 8, [Value.nilFunc]⟩ := by kernel_rfl
theorem D_116 : D 116 = some ⟨.func, 1, 8, [Value.nilFunc]⟩ := by kernel_rfl
theorem D_117 : D 117 = some ⟨.slice 22, 1, 24, [Value.slice none 0 0]⟩ := by kernel_rfl
theorem D_118 : D 118 = some ⟨.slice 22, 1, 24, [Value.slice none 0 0]⟩ := by kernel_rfl
theorem D_119 : D 119 = some ⟨.func, 1, 8, [Value.nilFunc]⟩ := by kernel_rfl
theorem D_120 : D 120 = some ⟨.func, 1, 8, [Value.nilFunc]⟩ := by kernel_rfl
theorem D_121 : D 121 = some ⟨.slice 54, 1, 24, [Value.slice none 0 0]⟩ := by kernel_rfl
theorem D_122 : D 122 = some ⟨.slice 54, 1, 24, [Value.slice none 0 0]⟩ := by kernel_rfl
theorem D_123 : D 123 = some ⟨.func, 1, 8, [Value.nilFunc]⟩ := by kernel_rfl
theorem D_124 : D 124 = some ⟨.func, 1, 8, [Value.nilFunc]⟩ := by kernel_rfl
theorem D_125 : D 125 = some ⟨.func, 1, 8, [Value.nilFunc]⟩ := by kernel_rfl
theorem D_126 : D 126 = some ⟨.ptr 143, 1, 8, [Value.pointer none]⟩ := by kernel_rfl
theorem D_127 : D 127 = some ⟨.func, 1, 8, [Value.nilFunc]⟩ := by kernel_rfl
theorem D_128 : D 128 = some ⟨.func, 1, 8, [Value.nilFunc]⟩ := by kernel_rfl
theorem D_129 : D 129 = some ⟨.func, 1, 8, [Value.nilFunc]⟩ := by kernel_rfl
theorem D_130 : D 130 = some ⟨.func, 1, 8, [Value.nilFunc]⟩ := by kernel_rfl
theorem D_131 : D 131 = some ⟨.func, 1, 8, [Value.nilFunc]⟩ := by kernel_rfl
theorem D_132 : D 132 = some ⟨.func, 1, 8, [Value.nilFunc]⟩ := by kernel_rfl
theorem D_133 : D 133 = some ⟨.func, 1, 8, [Value.nilFunc]⟩ := by kernel_rfl
theorem D_134 : D 134 = some ⟨.func, 1, 8, [Value.nilFunc]⟩ := by kernel_rfl
theorem D_135 : D 135 = some ⟨.func, 1, 8, [Value.nilFunc]⟩ := by kernel_rfl
theorem D_136 : D 136 = some ⟨.func, 1, 8, [Value.nilFunc]⟩ := by kernel_rfl
theorem D_137 : D 137 = some ⟨.func, 1, 8, [Value.nilFunc]⟩ := by kernel_rfl
theorem D_138 : D 138 = some ⟨.func, 1, 8, [Value.nilFunc]⟩ := by kernel_rfl
theorem D_139 : D 139 = some ⟨.func, 1, 8, [Value.nilFunc]⟩ := by kernel_rfl
theorem D_140 : D 140 = some ⟨.func, 1, 8, [Value.nilFunc]⟩ := by kernel_rfl
theorem D_141 : D 141 = some ⟨.func, 1, 8, [Value.nilFunc]⟩ := by kernel_rfl
theorem D_142 : D 142 = some ⟨.struct [(0, 35), (1, 3), (2, 41), (3, 4)], 4, 48, List.flatten [[Value.slice none 0 0], [Value.int IntKind.i64 0], [Value.int IntKind.i64 0], [Value.bool false]]⟩ := by kernel_rfl
theorem D_143 : D 143 = some ⟨.struct [(0, 35), (1, 3), (2, 41), (3, 4)], 4, 48, List.flatten [[Value.slice none 0 0], [Value.int IntKind.i64 0], [Value.int IntKind.i64 0], [Value.bool false]]⟩ := by kernel_rfl
theorem D_145 : D 145 = some ⟨.func, 1, 8, [Value.nilFunc]⟩ := by kernel_rfl
theorem D_146 : D 146 = some ⟨.func, 1, 8, [Value.nilFunc]⟩ := by kernel_rfl
theorem D_147 : D 147 = some ⟨.func, 1, 8, [Value.nilFunc]⟩ := by kernel_rfl
theorem D_148 : D 148 = some ⟨.func, 1, 8, [Value.nilFunc]⟩ := by kernel_rfl
theorem D_149 : D 149 = some ⟨.func, 1, 8, [Value.nilFunc]⟩ := by kernel_rfl
theorem D_150 : D 150 = some ⟨.func, 1, 8, [Value.nilFunc]⟩ := by kernel_rfl
theorem D_151 : D 151 = some ⟨.func, 1, 8, [Value.nilFunc]⟩ := by kernel_rfl
theorem D_159 : D 159 = some ⟨.func, 1, 8, [Value.nilFunc]⟩ := by kernel_rfl
theorem D_160 : D 160 = some ⟨.ptr 5, 1, 8, [Value.pointer none]⟩ := by kernel_rfl
theorem K_23 : K 23 = some (List.replicate 32 (TK.int IntKind.u8)) := by kernel_rfl
theorem K_24 : K 24 = some (List.replicate 32 (TK.int IntKind.u8)) := by kernel_rfl
theorem K_25 : K 25 = some (List.replicate 32 (TK.int IntKind.u8)) := by kernel_rfl
theorem K_26 : K 26 = some (List.replicate 64 (TK.int IntKind.u8)) := by kernel_rfl
theorem K_27 : K 27 = some (List.replicate 64 (TK.int IntKind.u8)) := by kernel_rfl
theorem K_28 : K 28 = some (List.flatten [[TK.int IntKind.u64], [TK.int IntKind.u64], [TK.int IntKind.i64], List.replicate 32 (TK.int IntKind.u8), [TK.int IntKind.u64], List.replicate 32 (TK.int IntKind.u8), List.replicate 64 (TK.int IntKind.u8)]) := by kernel_rfl
theorem K_29 : K 29 = some (List.flatten [[TK.int IntKind.u64], [TK.int IntKind.u64], [TK.int IntKind.i64], List.replicate 32 (TK.int IntKind.u8), [TK.int IntKind.u64], List.replicate 32 (TK.int IntKind.u8), List.replicate 64 (TK.int IntKind.u8)]) := by kernel_rfl
theorem K_48 : K 48 = some (List.replicate 80 (TK.int IntKind.u64)) := by kernel_rfl
theorem K_50 : K 50 = some (List.replicate 8 (TK.int IntKind.u64)) := by kernel_rfl
theorem K_63 : K 63 = some (List.replicate 128 (TK.int IntKind.u8)) := by kernel_rfl
theorem K_90 : K 90 = some (List.replicate 6 (TK.int IntKind.i64)) := by kernel_rfl
theorem K_106 : K 106 = some (List.flatten [[TK.int IntKind.i64], List.replicate 32 (TK.int IntKind.u8)]) := by kernel_rfl
theorem K_107 : K 107 = some (List.flatten [[TK.int IntKind.i64], List.replicate 32 (TK.int IntKind.u8)]) := by kernel_rfl
end Go.Proofs.Ytdnnojblneccdaa
