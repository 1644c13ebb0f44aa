/- A part of the proof; no statement is proved here: WTypes1, WUtfA, WUtfB, WUtfC, WUtfD, WUtfE, WUtfF, WUtfG, WUtfH, WUtfI, WUtfJx, WUtfKx, WNums. -/
import Derived.Test.YtcfigfhnlhkjiaaDoorChecked
import Derived.Test.YtcfigfhnlhkjiaaDoorCoreD
import Derived.KernelRfl

set_option linter.unusedVariables false
set_option linter.unusedSimpArgs false

/- The table of this seat's types, and that the program has it. Printed by a program of mine (gen.py) from the translation. -/
namespace Fen
open Go Go.Proofs
theorem ty2_u : Tryd.prog.underlying 2 = some (.int .i64) := by kernel_rfl
theorem ty2_i : (Tryd.prog.info? 2).map (fun i => (i.zero, i.size, i.bytes)) = some (some (.int .i64 0), 1, 8) := by kernel_rfl
theorem ty3_u : Tryd.prog.underlying 3 = some (.int .i64) := by kernel_rfl
theorem ty3_i : (Tryd.prog.info? 3).map (fun i => (i.zero, i.size, i.bytes)) = some (some (.int .i64 0), 1, 8) := by kernel_rfl
theorem ty4_u : Tryd.prog.underlying 4 = some (.bool) := by kernel_rfl
theorem ty4_i : (Tryd.prog.info? 4).map (fun i => (i.zero, i.size, i.bytes)) = some (some (.bool false), 1, 1) := by kernel_rfl
theorem ty5_u : Tryd.prog.underlying 5 = some (.int .u8) := by kernel_rfl
theorem ty5_i : (Tryd.prog.info? 5).map (fun i => (i.zero, i.size, i.bytes)) = some (some (.int .u8 0), 1, 1) := by kernel_rfl
theorem ty9_u : Tryd.prog.underlying 9 = some (.string) := by kernel_rfl
theorem ty9_i : (Tryd.prog.info? 9).map (fun i => (i.zero, i.size, i.bytes)) = some (some (.string ⟨#[]⟩), 1, 16) := by kernel_rfl
theorem ty12_u : Tryd.prog.underlying 12 = some (.int .u64) := by kernel_rfl
theorem ty12_i : (Tryd.prog.info? 12).map (fun i => (i.zero, i.size, i.bytes)) = some (some (.int .u64 0), 1, 8) := by kernel_rfl
theorem ty21_u : Tryd.prog.underlying 21 = some (.int .i32) := by kernel_rfl
theorem ty21_i : (Tryd.prog.info? 21).map (fun i => (i.zero, i.size, i.bytes)) = some (some (.int .i32 0), 1, 4) := by kernel_rfl
theorem ty22_u : Tryd.prog.underlying 22 = some (.array 4 3) := by kernel_rfl
theorem ty22_i : (Tryd.prog.info? 22).map (fun i => (i.zero, i.size, i.bytes)) = some (some (.agg #[.int .i64 0, .int .i64 0, .int .i64 0, .int .i64 0]), 4, 32) := by kernel_rfl
theorem ty23_u : Tryd.prog.underlying 23 = some (.int .u64) := by kernel_rfl
theorem ty23_i : (Tryd.prog.info? 23).map (fun i => (i.zero, i.size, i.bytes)) = some (some (.int .u64 0), 1, 8) := by kernel_rfl
theorem ty27_u : Tryd.prog.underlying 27 = some (.array 2 3) := by kernel_rfl
theorem ty27_i : (Tryd.prog.info? 27).map (fun i => (i.zero, i.size, i.bytes)) = some (some (.agg #[.int .i64 0, .int .i64 0]), 2, 16) := by kernel_rfl
theorem ty32_u : Tryd.prog.underlying 32 = some (.slice 3) := by kernel_rfl
theorem ty32_i : (Tryd.prog.info? 32).map (fun i => (i.zero, i.size, i.bytes)) = some (some (.slice none 0 0), 1, 24) := by kernel_rfl
theorem ty38_u : Tryd.prog.underlying 38 = some (.array 22 3) := by kernel_rfl
theorem ty38_i : (Tryd.prog.info? 38).map (fun i => (i.zero, i.size, i.bytes)) = some (some (.agg #[.int .i64 0, .int .i64 0, .int .i64 0, .int .i64 0, .int .i64 0, .int .i64 0, .int .i64 0, .int .i64 0, .int .i64 0, .int .i64 0, .int .i64 0, .int .i64 0, .int .i64 0, .int .i64 0, .int .i64 0, .int .i64 0, .int .i64 0, .int .i64 0, .int .i64 0, .int .i64 0, .int .i64 0, .int .i64 0]), 22, 176) := by kernel_rfl
theorem ty40_u : Tryd.prog.underlying 40 = some (.struct #[{ name := "from", type := 3, offset := 0, embedded := false, tag := "", pkgPath := "fenestra/width", byteOffset := 0 }, { name := "to", type := 3, offset := 1, embedded := false, tag := "", pkgPath := "fenestra/width", byteOffset := 8 }]) := by kernel_rfl
theorem ty40_i : (Tryd.prog.info? 40).map (fun i => (i.zero, i.size, i.bytes)) = some (some (.agg #[.int .i64 0, .int .i64 0]), 2, 16) := by kernel_rfl
theorem ty41_u : Tryd.prog.underlying 41 = some (.struct #[{ name := "from", type := 3, offset := 0, embedded := false, tag := "", pkgPath := "fenestra/width", byteOffset := 0 }, { name := "to", type := 3, offset := 1, embedded := false, tag := "", pkgPath := "fenestra/width", byteOffset := 8 }]) := by kernel_rfl
theorem ty41_i : (Tryd.prog.info? 41).map (fun i => (i.zero, i.size, i.bytes)) = some (some (.agg #[.int .i64 0, .int .i64 0]), 2, 16) := by kernel_rfl
theorem ty42_u : Tryd.prog.underlying 42 = some (.array 11 41) := by kernel_rfl
theorem ty42_i : (Tryd.prog.info? 42).map (fun i => (i.zero, i.size, i.bytes)) = some (some (.agg #[.int .i64 0, .int .i64 0, .int .i64 0, .int .i64 0, .int .i64 0, .int .i64 0, .int .i64 0, .int .i64 0, .int .i64 0, .int .i64 0, .int .i64 0, .int .i64 0, .int .i64 0, .int .i64 0, .int .i64 0, .int .i64 0, .int .i64 0, .int .i64 0, .int .i64 0, .int .i64 0, .int .i64 0, .int .i64 0]), 22, 176) := by kernel_rfl
theorem ty43_u : Tryd.prog.underlying 43 = some (.slice 41) := by kernel_rfl
theorem ty43_i : (Tryd.prog.info? 43).map (fun i => (i.zero, i.size, i.bytes)) = some (some (.slice none 0 0), 1, 24) := by kernel_rfl
theorem ty44_u : Tryd.prog.underlying 44 = some (.array 13 41) := by kernel_rfl
theorem ty44_i : (Tryd.prog.info? 44).map (fun i => (i.zero, i.size, i.bytes)) = some (some (.agg #[.int .i64 0, .int .i64 0, .int .i64 0, .int .i64 0, .int .i64 0, .int .i64 0, .int .i64 0, .int .i64 0, .int .i64 0, .int .i64 0, .int .i64 0, .int .i64 0, .int .i64 0, .int .i64 0, .int .i64 0, .int .i64 0, .int .i64 0, .int .i64 0, .int .i64 0, .int .i64 0, .int .i64 0, .int .i64 0, .int .i64 0, .int .i64 0, .int .i64 0, .int .i64 0]), 26, 208) := by kernel_rfl
theorem ty46_u : Tryd.prog.underlying 46 = some (.slice 27) := by kernel_rfl
theorem ty46_i : (Tryd.prog.info? 46).map (fun i => (i.zero, i.size, i.bytes)) = some (some (.slice none 0 0), 1, 24) := by kernel_rfl
theorem ty50_u : Tryd.prog.underlying 50 = some (.pointer 53) := by kernel_rfl
theorem ty50_i : (Tryd.prog.info? 50).map (fun i => (i.zero, i.size, i.bytes)) = some (some (.pointer none), 1, 8) := by kernel_rfl
theorem ty51_u : Tryd.prog.underlying 51 = some (.slice 5) := by kernel_rfl
theorem ty51_i : (Tryd.prog.info? 51).map (fun i => (i.zero, i.size, i.bytes)) = some (some (.slice none 0 0), 1, 24) := by kernel_rfl
theorem ty52_u : Tryd.prog.underlying 52 = some (.struct #[{ name := "addr", type := 50, offset := 0, embedded := false, tag := "", pkgPath := "strings", byteOffset := 0 }, { name := "buf", type := 51, offset := 1, embedded := false, tag := "", pkgPath := "strings", byteOffset := 8 }]) := by kernel_rfl
theorem ty52_i : (Tryd.prog.info? 52).map (fun i => (i.zero, i.size, i.bytes)) = some (some (.agg #[.pointer none, .slice none 0 0]), 2, 32) := by kernel_rfl
theorem ty53_u : Tryd.prog.underlying 53 = some (.struct #[{ name := "addr", type := 50, offset := 0, embedded := false, tag := "", pkgPath := "strings", byteOffset := 0 }, { name := "buf", type := 51, offset := 1, embedded := false, tag := "", pkgPath := "strings", byteOffset := 8 }]) := by kernel_rfl
theorem ty53_i : (Tryd.prog.info? 53).map (fun i => (i.zero, i.size, i.bytes)) = some (some (.agg #[.pointer none, .slice none 0 0]), 2, 32) := by kernel_rfl
theorem ty67_u : Tryd.prog.underlying 67 = some (.pointer 5) := by kernel_rfl
theorem ty67_i : (Tryd.prog.info? 67).map (fun i => (i.zero, i.size, i.bytes)) = some (some (.pointer none), 1, 8) := by kernel_rfl
theorem ty73_u : Tryd.prog.underlying 73 = some (.array 5 3) := by kernel_rfl
theorem ty73_i : (Tryd.prog.info? 73).map (fun i => (i.zero, i.size, i.bytes)) = some (some (.agg #[.int .i64 0, .int .i64 0, .int .i64 0, .int .i64 0, .int .i64 0]), 5, 40) := by kernel_rfl
theorem ty84_u : Tryd.prog.underlying 84 = some (.array 0 16) := by kernel_rfl
theorem ty84_i : (Tryd.prog.info? 84).map (fun i => (i.zero, i.size, i.bytes)) = some (some (.agg #[]), 0, 0) := by kernel_rfl
theorem ty88_u : Tryd.prog.underlying 88 = some (.int .u32) := by kernel_rfl
theorem ty88_i : (Tryd.prog.info? 88).map (fun i => (i.zero, i.size, i.bytes)) = some (some (.int .u32 0), 1, 4) := by kernel_rfl
theorem ty94_u : Tryd.prog.underlying 94 = some (.struct #[{ name := "Size_", type := 12, offset := 0, embedded := false, tag := "", pkgPath := "", byteOffset := 0 }, { name := "PtrBytes", type := 12, offset := 1, embedded := false, tag := "", pkgPath := "", byteOffset := 8 }, { name := "Hash", type := 88, offset := 2, embedded := false, tag := "", pkgPath := "", byteOffset := 16 }, { name := "TFlag", type := 89, offset := 3, embedded := false, tag := "", pkgPath := "", byteOffset := 20 }, { name := "Align_", type := 5, offset := 4, embedded := false, tag := "", pkgPath := "", byteOffset := 21 }, { name := "FieldAlign_", type := 5, offset := 5, embedded := false, tag := "", pkgPath := "", byteOffset := 22 }, { name := "Kind_", type := 90, offset := 6, embedded := false, tag := "", pkgPath := "", byteOffset := 23 }, { name := "Equal", type := 91, offset := 7, embedded := false, tag := "", pkgPath := "", byteOffset := 24 }, { name := "GCData", type := 67, offset := 8, embedded := false, tag := "", pkgPath := "", byteOffset := 32 }, { name := "Str", type := 92, offset := 9, embedded := false, tag := "", pkgPath := "", byteOffset := 40 }, { name := "PtrToThis", type := 93, offset := 10, embedded := false, tag := "", pkgPath := "", byteOffset := 44 }]) := by kernel_rfl
theorem ty94_i : (Tryd.prog.info? 94).map (fun i => (i.zero, i.size, i.bytes)) = some (some (.agg #[.int .u64 0, .int .u64 0, .int .u32 0, .int .u8 0, .int .u8 0, .int .u8 0, .int .u8 0, .nilFunc, .pointer none, .int .i32 0, .int .i32 0]), 11, 48) := by kernel_rfl
def tt : List (Nat × TI) := [(2, ⟨.int .i64, 1, 8, [.val (.int .i64 0)]⟩),
  (3, ⟨.int .i64, 1, 8, [.val (.int .i64 0)]⟩),
  (4, ⟨.bool, 1, 1, [.val (.bool false)]⟩),
  (5, ⟨.int .u8, 1, 1, [.val (.int .u8 0)]⟩),
  (9, ⟨.str, 1, 16, [.val (.str [])]⟩),
  (12, ⟨.int .u64, 1, 8, [.val (.int .u64 0)]⟩),
  (21, ⟨.int .i32, 1, 4, [.val (.int .i32 0)]⟩),
  (22, ⟨.array 4 3, 4, 32, [.val (.int .i64 0), .val (.int .i64 0), .val (.int .i64 0), .val (.int .i64 0)]⟩),
  (23, ⟨.int .u64, 1, 8, [.val (.int .u64 0)]⟩),
  (27, ⟨.array 2 3, 2, 16, [.val (.int .i64 0), .val (.int .i64 0)]⟩),
  (32, ⟨.slice 3, 1, 24, [.nil]⟩),
  (38, ⟨.array 22 3, 22, 176, [.val (.int .i64 0), .val (.int .i64 0), .val (.int .i64 0), .val (.int .i64 0), .val (.int .i64 0), .val (.int .i64 0), .val (.int .i64 0), .val (.int .i64 0), .val (.int .i64 0), .val (.int .i64 0), .val (.int .i64 0), .val (.int .i64 0), .val (.int .i64 0), .val (.int .i64 0), .val (.int .i64 0), .val (.int .i64 0), .val (.int .i64 0), .val (.int .i64 0), .val (.int .i64 0), .val (.int .i64 0), .val (.int .i64 0), .val (.int .i64 0)]⟩),
  (40, ⟨.struct [(0, 3), (1, 3)], 2, 16, [.val (.int .i64 0), .val (.int .i64 0)]⟩),
  (41, ⟨.struct [(0, 3), (1, 3)], 2, 16, [.val (.int .i64 0), .val (.int .i64 0)]⟩),
  (42, ⟨.array 11 41, 22, 176, [.val (.int .i64 0), .val (.int .i64 0), .val (.int .i64 0), .val (.int .i64 0), .val (.int .i64 0), .val (.int .i64 0), .val (.int .i64 0), .val (.int .i64 0), .val (.int .i64 0), .val (.int .i64 0), .val (.int .i64 0), .val (.int .i64 0), .val (.int .i64 0), .val (.int .i64 0), .val (.int .i64 0), .val (.int .i64 0), .val (.int .i64 0), .val (.int .i64 0), .val (.int .i64 0), .val (.int .i64 0), .val (.int .i64 0), .val (.int .i64 0)]⟩),
  (43, ⟨.slice 41, 1, 24, [.nil]⟩),
  (44, ⟨.array 13 41, 26, 208, [.val (.int .i64 0), .val (.int .i64 0), .val (.int .i64 0), .val (.int .i64 0), .val (.int .i64 0), .val (.int .i64 0), .val (.int .i64 0), .val (.int .i64 0), .val (.int .i64 0), .val (.int .i64 0), .val (.int .i64 0), .val (.int .i64 0), .val (.int .i64 0), .val (.int .i64 0), .val (.int .i64 0), .val (.int .i64 0), .val (.int .i64 0), .val (.int .i64 0), .val (.int .i64 0), .val (.int .i64 0), .val (.int .i64 0), .val (.int .i64 0), .val (.int .i64 0), .val (.int .i64 0), .val (.int .i64 0), .val (.int .i64 0)]⟩),
  (46, ⟨.slice 27, 1, 24, [.nil]⟩),
  (50, ⟨.other, 1, 8, [.val .nilp]⟩),
  (51, ⟨.slice 5, 1, 24, [.nil]⟩),
  (52, ⟨.struct [(0, 50), (1, 51)], 2, 32, [.val .nilp, .nil]⟩),
  (53, ⟨.struct [(0, 50), (1, 51)], 2, 32, [.val .nilp, .nil]⟩),
  (67, ⟨.other, 1, 8, [.val .nilp]⟩),
  (73, ⟨.array 5 3, 5, 40, [.val (.int .i64 0), .val (.int .i64 0), .val (.int .i64 0), .val (.int .i64 0), .val (.int .i64 0)]⟩),
  (84, ⟨.array 0 16, 0, 0, []⟩),
  (88, ⟨.int .u32, 1, 4, [.val (.int .u32 0)]⟩),
  (94, ⟨.struct [(0, 12), (1, 12), (2, 88), (3, 89), (4, 5), (5, 5), (6, 90), (7, 91), (8, 67), (9, 92), (10, 93)], 11, 48, [.val (.int .u64 0), .val (.int .u64 0), .val (.int .u32 0), .val (.int .u8 0), .val (.int .u8 0), .val (.int .u8 0), .val (.int .u8 0), .val .nilf, .val .nilp, .val (.int .i32 0), .val (.int .i32 0)]⟩)]
def T : TT := ttFind tt
@[simp] theorem T_2 : T 2 = some ⟨.int .i64, 1, 8, [.val (.int .i64 0)]⟩ := rfl
@[simp] theorem T_3 : T 3 = some ⟨.int .i64, 1, 8, [.val (.int .i64 0)]⟩ := rfl
@[simp] theorem T_4 : T 4 = some ⟨.bool, 1, 1, [.val (.bool false)]⟩ := rfl
@[simp] theorem T_5 : T 5 = some ⟨.int .u8, 1, 1, [.val (.int .u8 0)]⟩ := rfl
@[simp] theorem T_9 : T 9 = some ⟨.str, 1, 16, [.val (.str [])]⟩ := rfl
@[simp] theorem T_12 : T 12 = some ⟨.int .u64, 1, 8, [.val (.int .u64 0)]⟩ := rfl
@[simp] theorem T_21 : T 21 = some ⟨.int .i32, 1, 4, [.val (.int .i32 0)]⟩ := rfl
@[simp] theorem T_22 : T 22 = some ⟨.array 4 3, 4, 32, [.val (.int .i64 0), .val (.int .i64 0), .val (.int .i64 0), .val (.int .i64 0)]⟩ := rfl
@[simp] theorem T_23 : T 23 = some ⟨.int .u64, 1, 8, [.val (.int .u64 0)]⟩ := rfl
@[simp] theorem T_27 : T 27 = some ⟨.array 2 3, 2, 16, [.val (.int .i64 0), .val (.int .i64 0)]⟩ := rfl
@[simp] theorem T_32 : T 32 = some ⟨.slice 3, 1, 24, [.nil]⟩ := rfl
@[simp] theorem T_38 : T 38 = some ⟨.array 22 3, 22, 176, [.val (.int .i64 0), .val (.int .i64 0), .val (.int .i64 0), .val (.int .i64 0), .val (.int .i64 0), .val (.int .i64 0), .val (.int .i64 0), .val (.int .i64 0), .val (.int .i64 0), .val (.int .i64 0), .val (.int .i64 0), .val (.int .i64 0), .val (.int .i64 0), .val (.int .i64 0), .val (.int .i64 0), .val (.int .i64 0), .val (.int .i64 0), .val (.int .i64 0), .val (.int .i64 0), .val (.int .i64 0), .val (.int .i64 0), .val (.int .i64 0)]⟩ := rfl
@[simp] theorem T_40 : T 40 = some ⟨.struct [(0, 3), (1, 3)], 2, 16, [.val (.int .i64 0), .val (.int .i64 0)]⟩ := rfl
@[simp] theorem T_41 : T 41 = some ⟨.struct [(0, 3), (1, 3)], 2, 16, [.val (.int .i64 0), .val (.int .i64 0)]⟩ := rfl
@[simp] theorem T_42 : T 42 = some ⟨.array 11 41, 22, 176, [.val (.int .i64 0), .val (.int .i64 0), .val (.int .i64 0), .val (.int .i64 0), .val (.int .i64 0), .val (.int .i64 0), .val (.int .i64 0), .val (.int .i64 0), .val (.int .i64 0), .val (.int .i64 0), .val (.int .i64 0), .val (.int .i64 0), .val (.int .i64 0), .val (.int .i64 0), .val (.int .i64 0), .val (.int .i64 0), .val (.int .i64 0), .val (.int .i64 0), .val (.int .i64 0), .val (.int .i64 0), .val (.int .i64 0), .val (.int .i64 0)]⟩ := rfl
@[simp] theorem T_43 : T 43 = some ⟨.slice 41, 1, 24, [.nil]⟩ := rfl
@[simp] theorem T_44 : T 44 = some ⟨.array 13 41, 26, 208, [.val (.int .i64 0), .val (.int .i64 0), .val (.int .i64 0), .val (.int .i64 0), .val (.int .i64 0), .val (.int .i64 0), .val (.int .i64 0), .val (.int .i64 0), .val (.int .i64 0), .val (.int .i64 0), .val (.int .i64 0), .val (.int .i64 0), .val (.int .i64 0), .val (.int .i64 0), .val (.int .i64 0), .val (.int .i64 0), .val (.int .i64 0), .val (.int .i64 0), .val (.int .i64 0), .val (.int .i64 0), .val (.int .i64 0), .val (.int .i64 0), .val (.int .i64 0), .val (.int .i64 0), .val (.int .i64 0), .val (.int .i64 0)]⟩ := rfl
@[simp] theorem T_46 : T 46 = some ⟨.slice 27, 1, 24, [.nil]⟩ := rfl
@[simp] theorem T_50 : T 50 = some ⟨.other, 1, 8, [.val .nilp]⟩ := rfl
@[simp] theorem T_51 : T 51 = some ⟨.slice 5, 1, 24, [.nil]⟩ := rfl
@[simp] theorem T_52 : T 52 = some ⟨.struct [(0, 50), (1, 51)], 2, 32, [.val .nilp, .nil]⟩ := rfl
@[simp] theorem T_53 : T 53 = some ⟨.struct [(0, 50), (1, 51)], 2, 32, [.val .nilp, .nil]⟩ := rfl
@[simp] theorem T_67 : T 67 = some ⟨.other, 1, 8, [.val .nilp]⟩ := rfl
@[simp] theorem T_73 : T 73 = some ⟨.array 5 3, 5, 40, [.val (.int .i64 0), .val (.int .i64 0), .val (.int .i64 0), .val (.int .i64 0), .val (.int .i64 0)]⟩ := rfl
@[simp] theorem T_84 : T 84 = some ⟨.array 0 16, 0, 0, []⟩ := rfl
@[simp] theorem T_88 : T 88 = some ⟨.int .u32, 1, 4, [.val (.int .u32 0)]⟩ := rfl
@[simp] theorem T_94 : T 94 = some ⟨.struct [(0, 12), (1, 12), (2, 88), (3, 89), (4, 5), (5, 5), (6, 90), (7, 91), (8, 67), (9, 92), (10, 93)], 11, 48, [.val (.int .u64 0), .val (.int .u64 0), .val (.int .u32 0), .val (.int .u8 0), .val (.int .u8 0), .val (.int .u8 0), .val (.int .u8 0), .val .nilf, .val .nilp, .val (.int .i32 0), .val (.int .i32 0)]⟩ := rfl
theorem ty2_e : eqOK Tryd.prog 2 = true := by kernel_rfl
@[simp] theorem eqK_2 : eqK T 8 2 = some [.int .i64] := by kernel_rfl
theorem ty3_e : eqOK Tryd.prog 3 = true := by kernel_rfl
@[simp] theorem eqK_3 : eqK T 8 3 = some [.int .i64] := by kernel_rfl
theorem ty4_e : eqOK Tryd.prog 4 = true := by kernel_rfl
@[simp] theorem eqK_4 : eqK T 8 4 = some [.bool] := by kernel_rfl
theorem ty5_e : eqOK Tryd.prog 5 = true := by kernel_rfl
@[simp] theorem eqK_5 : eqK T 8 5 = some [.int .u8] := by kernel_rfl
theorem ty9_e : eqOK Tryd.prog 9 = true := by kernel_rfl
@[simp] theorem eqK_9 : eqK T 8 9 = some [.str] := by kernel_rfl
theorem ty12_e : eqOK Tryd.prog 12 = true := by kernel_rfl
@[simp] theorem eqK_12 : eqK T 8 12 = some [.int .u64] := by kernel_rfl
theorem ty21_e : eqOK Tryd.prog 21 = true := by kernel_rfl
@[simp] theorem eqK_21 : eqK T 8 21 = some [.int .i32] := by kernel_rfl
theorem ty22_e : eqOK Tryd.prog 22 = true := by kernel_rfl
@[simp] theorem eqK_22 : eqK T 8 22 = some [.int .i64, .int .i64, .int .i64, .int .i64] := by kernel_rfl
theorem ty23_e : eqOK Tryd.prog 23 = true := by kernel_rfl
@[simp] theorem eqK_23 : eqK T 8 23 = some [.int .u64] := by kernel_rfl
theorem ty27_e : eqOK Tryd.prog 27 = true := by kernel_rfl
@[simp] theorem eqK_27 : eqK T 8 27 = some [.int .i64, .int .i64] := by kernel_rfl
theorem eqN_32 : eqK T 8 32 = none := by kernel_rfl
theorem ty38_e : eqOK Tryd.prog 38 = true := by kernel_rfl
@[simp] theorem eqK_38 : eqK T 8 38 = some [.int .i64, .int .i64, .int .i64, .int .i64, .int .i64, .int .i64, .int .i64, .int .i64, .int .i64, .int .i64, .int .i64, .int .i64, .int .i64, .int .i64, .int .i64, .int .i64, .int .i64, .int .i64, .int .i64, .int .i64, .int .i64, .int .i64] := by kernel_rfl
theorem ty40_e : eqOK Tryd.prog 40 = true := by kernel_rfl
@[simp] theorem eqK_40 : eqK T 8 40 = some [.int .i64, .int .i64] := by kernel_rfl
theorem ty41_e : eqOK Tryd.prog 41 = true := by kernel_rfl
@[simp] theorem eqK_41 : eqK T 8 41 = some [.int .i64, .int .i64] := by kernel_rfl
theorem ty42_e : eqOK Tryd.prog 42 = true := by kernel_rfl
@[simp] theorem eqK_42 : eqK T 8 42 = some [.int .i64, .int .i64, .int .i64, .int .i64, .int .i64, .int .i64, .int .i64, .int .i64, .int .i64, .int .i64, .int .i64, .int .i64, .int .i64, .int .i64, .int .i64, .int .i64, .int .i64, .int .i64, .int .i64, .int .i64, .int .i64, .int .i64] := by kernel_rfl
theorem eqN_43 : eqK T 8 43 = none := by kernel_rfl
theorem ty44_e : eqOK Tryd.prog 44 = true := by kernel_rfl
@[simp] theorem eqK_44 : eqK T 8 44 = some [.int .i64, .int .i64, .int .i64, .int .i64, .int .i64, .int .i64, .int .i64, .int .i64, .int .i64, .int .i64, .int .i64, .int .i64, .int .i64, .int .i64, .int .i64, .int .i64, .int .i64, .int .i64, .int .i64, .int .i64, .int .i64, .int .i64, .int .i64, .int .i64, .int .i64, .int .i64] := by kernel_rfl
theorem eqN_46 : eqK T 8 46 = none := by kernel_rfl
theorem eqN_50 : eqK T 8 50 = none := by kernel_rfl
theorem eqN_51 : eqK T 8 51 = none := by kernel_rfl
theorem eqN_52 : eqK T 8 52 = none := by kernel_rfl
theorem eqN_53 : eqK T 8 53 = none := by kernel_rfl
theorem eqN_67 : eqK T 8 67 = none := by kernel_rfl
theorem ty73_e : eqOK Tryd.prog 73 = true := by kernel_rfl
@[simp] theorem eqK_73 : eqK T 8 73 = some [.int .i64, .int .i64, .int .i64, .int .i64, .int .i64] := by kernel_rfl
theorem eqN_84 : eqK T 8 84 = none := by kernel_rfl
theorem ty88_e : eqOK Tryd.prog 88 = true := by kernel_rfl
@[simp] theorem eqK_88 : eqK T 8 88 = some [.int .u32] := by kernel_rfl
theorem eqN_94 : eqK T 8 94 = none := by kernel_rfl
theorem tok : TOK Tryd.prog T := tok_of rfl (by
  simp only [tt, List.forall_mem_cons, List.not_mem_nil, false_imp_iff, implies_true, and_true]
  exact ⟨tokRow ty2_u ty2_i rfl (by simp [zval, Value.cells]) rfl rfl,
    tokRow ty3_u ty3_i rfl (by simp [zval, Value.cells]) rfl rfl,
    tokRow ty4_u ty4_i rfl (by simp [zval, Value.cells]) rfl rfl,
    tokRow ty5_u ty5_i rfl (by simp [zval, Value.cells]) rfl rfl,
    tokRow ty9_u ty9_i rfl (by simp [zval, Value.cells]) rfl rfl,
    tokRow ty12_u ty12_i rfl (by simp [zval, Value.cells]) rfl rfl,
    tokRow ty21_u ty21_i rfl (by simp [zval, Value.cells]) rfl rfl,
    tokRow ty22_u ty22_i rfl (by simp [zval, Value.cells]) rfl rfl,
    tokRow ty23_u ty23_i rfl (by simp [zval, Value.cells]) rfl rfl,
    tokRow ty27_u ty27_i rfl (by simp [zval, Value.cells]) rfl rfl,
    tokRow ty32_u ty32_i rfl (by simp [zval, Value.cells]) rfl rfl,
    tokRow ty38_u ty38_i rfl (by simp [zval, Value.cells]) rfl rfl,
    tokRow ty40_u ty40_i ⟨_, rfl, rfl⟩ (by simp [zval, Value.cells]) rfl rfl,
    tokRow ty41_u ty41_i ⟨_, rfl, rfl⟩ (by simp [zval, Value.cells]) rfl rfl,
    tokRow ty42_u ty42_i rfl (by simp [zval, Value.cells]) rfl rfl,
    tokRow ty43_u ty43_i rfl (by simp [zval, Value.cells]) rfl rfl,
    tokRow ty44_u ty44_i rfl (by simp [zval, Value.cells]) rfl rfl,
    tokRow ty46_u ty46_i rfl (by simp [zval, Value.cells]) rfl rfl,
    tokRow ty50_u ty50_i trivial (by simp [zval, Value.cells]) rfl rfl,
    tokRow ty51_u ty51_i rfl (by simp [zval, Value.cells]) rfl rfl,
    tokRow ty52_u ty52_i ⟨_, rfl, rfl⟩ (by simp [zval, Value.cells]) rfl rfl,
    tokRow ty53_u ty53_i ⟨_, rfl, rfl⟩ (by simp [zval, Value.cells]) rfl rfl,
    tokRow ty67_u ty67_i trivial (by simp [zval, Value.cells]) rfl rfl,
    tokRow ty73_u ty73_i rfl (by simp [zval, Value.cells]) rfl rfl,
    tokRow ty84_u ty84_i rfl (by simp [zval, Value.cells]) rfl rfl,
    tokRow ty88_u ty88_i rfl (by simp [zval, Value.cells]) rfl rfl,
    tokRow ty94_u ty94_i ⟨_, rfl, rfl⟩ (by simp [zval, Value.cells]) rfl rfl⟩) (by
  simp only [tt, List.forall_mem_cons, List.not_mem_nil, false_imp_iff, implies_true, and_true]
  exact ⟨fun _ => ty2_e, fun _ => ty3_e, fun _ => ty4_e, fun _ => ty5_e, fun _ => ty9_e, fun _ => ty12_e, fun _ => ty21_e, fun _ => ty22_e, fun _ => ty23_e, fun _ => ty27_e, eq_not eqN_32, fun _ => ty38_e, fun _ => ty40_e, fun _ => ty41_e, fun _ => ty42_e, eq_not eqN_43, fun _ => ty44_e, eq_not eqN_46, eq_not eqN_50, eq_not eqN_51, eq_not eqN_52, eq_not eqN_53, eq_not eqN_67, fun _ => ty73_e, eq_not eqN_84, fun _ => ty88_e, eq_not eqN_94⟩)
theorem mixed : Tryd.prog.follows .mixedOrders = true := by kernel_rfl
end Fen

namespace Fen
open Go Go.Proofs

def lengthF (n : Int) : Int := if 240 ≤ n ∧ n ≤ 244 then 4 else if 224 ≤ n ∧ n < 240 then 3 else if 194 ≤ n ∧ n < 224 then 2 else if n < 128 then 1 else 0

def lengthSpec : Spec := { pre := fun args => ∃ n : Int, args = [.c (.int .u8 n)] ∧ 0 ≤ n ∧ n < 256, res := fun args => .one (.val (.c (.int .i64 (lengthF (args.headD default).int)))) }

set_option maxRecDepth 10000 in
theorem length_sound (gl : Gl) : Sound Tryd.prog gl 50 lengthSpec := by
  refine sound_fn (N := 36) (rs := [.tmp 2]) mixed tok (SpecsOK.nil _ _) Tryd.func50 rfl rfl rfl rfl rfl ?_ ?_ ?_
  · rintro args ⟨n, rfl, h0, h1⟩; simp
  · rintro args ⟨n, rfl, h0, h1⟩; simp [lengthSpec]
  · rintro args ⟨n, rfl, h0, h1⟩ bs hgl hh hro
    simp [lengthSpec]
    unfold lengthF
    (repeat' split) <;> simp <;> omega

def secondF (b : Int) : Int × Int := if b = 224 then (160, 191) else if b = 237 then (128, 159) else if b = 240 then (144, 191) else if b = 244 then (128, 143) else (128, 191)

def secondSpec : Spec := { pre := fun args => ∃ n : Int, args = [.c (.int .u8 n)] ∧ 0 ≤ n ∧ n < 256, res := fun args => .many [.val (.c (.int .u8 (secondF (args.headD default).int).1)), .val (.c (.int .u8 (secondF (args.headD default).int).2))] }

set_option maxRecDepth 10000 in
theorem second_sound (gl : Gl) : Sound Tryd.prog gl 51 secondSpec := by
  refine sound_fn (N := Tryd.f51.ntmps) (rs := Tryd.f51.results.toList) mixed tok (SpecsOK.nil _ _) Tryd.func51 rfl rfl rfl rfl rfl ?_ ?_ ?_
  · rintro args ⟨n, rfl, h0, h1⟩; simp [Tryd.f51]
  · rintro args ⟨n, rfl, h0, h1⟩; simp [secondSpec, Tryd.f51]
  · rintro args ⟨n, rfl, h0, h1⟩ bs hgl hh hro
    simp [secondSpec, Tryd.f51]
    unfold secondF
    (repeat' split) <;> simp_all

theorem lengthF_le (n : Int) : 0 ≤ lengthF n ∧ lengthF n ≤ 4 := by unfold lengthF; (repeat' split) <;> omega

def restOK : Int → Int → List Int → Bool
  | _, _, [] => true
  | lo, hi, b :: l => decide (lo ≤ b) && decide (b ≤ hi) && restOK 128 191 l

def kindF (p : List Int) : Int :=
  if lengthF (p.headD 0) < p.length then 0
  else if restOK (secondF (p.headD 0)).1 (secondF (p.headD 0)).2 p.tail then (if (p.length : Int) < lengthF (p.headD 0) then 1 else 2) else 0

def kindSpec : Spec := { pre := fun args => ∃ p : List Int, args = [bytesV p] ∧ p ≠ [] ∧ Bytes p ∧ p.length ≤ 4294967296, res := fun args => .one (.val (.c (.int .i64 (kindF (args.headD default).ints)))) }

def G27 : Specs := [(50, lengthSpec), (51, secondSpec)]
theorem G27_ok (gl : Gl) : SpecsOK Tryd.prog gl G27 := .cons (length_sound gl) (.cons (second_sound gl) (.nil _ _))

def kindS (N : Nat) (p : List Int) (n : Int) (x : List Int × List Int × Int × Int) : St :=
  ⟨N, [(0, .val (.sl p.length (ints .u8 p))), (2, .val (.int .i64 0)), (3, .val (.int .i64 n)), (4, .val (.int .u8 x.2.2.1)), (5, .val (.int .u8 x.2.2.2)),
    (24, .val (.sl (x.1 ++ x.2.1).length (ints .u8 (x.1 ++ x.2.1)))), (25, .val (.int .i64 (x.1 ++ x.2.1).length)), (26, .val (.int .i64 x.1.length))], []⟩

set_option maxRecDepth 10000 in
theorem kind_sound (gl : Gl) : Sound Tryd.prog gl 47 kindSpec := by
  refine sound_fn (N := Tryd.f47.ntmps) (rs := Tryd.f47.results.toList) mixed tok (G27_ok gl) Tryd.func47 rfl rfl rfl rfl rfl ?_ ?_ ?_
  · rintro args ⟨p, rfl, h0, h1, h2⟩; simp [Tryd.f47]
  · rintro args ⟨p, rfl, h0, h1, h2⟩; simp [kindSpec, Tryd.f47]
  · rintro args ⟨p, rfl, h0, h1, h2⟩ bs hgl hh hro
    obtain ⟨b, q, rfl⟩ : ∃ b q, p = b :: q := by cases p with | nil => exact absurd rfl h0 | cons b q => exact ⟨b, q, rfl⟩
    obtain ⟨hb, hq⟩ := h1.cons
    simp at h2
    simp [kindSpec, Tryd.f47, G27, lengthSpec, secondSpec, kindF, hb]
    refine ⟨fun h h' => absurd h (by omega), fun h => ⟨by omega, ?_⟩⟩
    refine AWP.rounds (fun x => q = x.1 ++ x.2.1 ∧ restOK (secondF b).1 (secondF b).2 q = restOK x.2.2.1 x.2.2.2 x.2.1) (kindS 43 (b :: q) (lengthF b)) (fun x => x.2.1.length) ([], q, (secondF b).1, (secondF b).2) ⟨rfl, rfl⟩ ?_ ?_
    · refine Weak.ren [] (baseOK.nil hh) (by simp) (by simp) ?_
      simp [kindS]
    · rintro ⟨pre, rest, lo, hi⟩ ⟨rfl, hx⟩
      simp only at hx h2 h hq
      refine wpc_ok (E := ⟨Tryd.prog, T, G27, bs⟩) ⟨tok, by rw [hgl]; exact G27_ok gl⟩ mixed _ _ _ ?_
      cases rest with
      | nil =>
        simp [restOK] at hx h
        simp [kindS, hx]
        omega
      | cons c rest =>
        have hl := lengthF_le b
        simp at h2 h
        have hw : IntKind.i64.wrap (pre.length + 1) = pre.length + 1 := wrap64 _ (by omega) (by omega)
        simp [kindS, hx, hw]
        refine ⟨fun _ => ⟨by omega, fun hc _ => ?_, fun h1 h2 => ?_⟩, fun h => by omega⟩
        · simp [restOK]; intro h1 h2; omega
        · refine Next.mk (pre ++ [c], rest, 128, 191) ⟨by simp, by simp [hx, restOK, h1, h2]⟩ (by simp) (Weak.ren [] (baseOK.nil hh) (by simp) (by simp) ?_)
          simp [kindS]

end Fen

namespace Fen
open Go Go.Proofs

def cp0F (b : Int) (n : Nat) : Int := if n = 0 then b else b % 2 ^ (6 - n)
def goCode : Int → List Int → Int
  | cp, [] => cp
  | cp, c :: l => goCode (cp * 64 + c % 64) l
def codeF (p : List Int) : Int := goCode (cp0F (p.headD 0) p.tail.length) p.tail

def codeSpec : Spec := { pre := fun args => ∃ p : List Int, args = [bytesV p] ∧ p ≠ [] ∧ Bytes p ∧ p.length ≤ 4, res := fun args => .one (.val (.c (.int .i64 (codeF (args.headD default).ints)))) }

def codeS (p : List Int) (x : List Int × List Int × Int) : St :=
  ⟨34, [(0, .val (.sl p.length (ints .u8 p))), (2, .val (.int .i64 0)), (3, .val (.int .i64 x.2.2)),
    (20, .val (.sl (x.1 ++ x.2.1).length (ints .u8 (x.1 ++ x.2.1)))), (21, .val (.int .i64 (x.1 ++ x.2.1).length)), (22, .val (.int .i64 x.1.length))], []⟩

def cpB (cp : Int) (n : Nat) : Prop := 0 ≤ cp ∧ n ≤ 3 ∧ (n = 3 → cp < 256) ∧ (n = 2 → cp < 16640) ∧ (n = 1 → cp < 1065024) ∧ (n = 0 → cp < 68161600)

theorem cp0_bits (b : Int) (n : Nat) (h0 : 0 ≤ b) (h1 : b < 256) (h2 : 0 < n) (h3 : n ≤ 3) : bits2 (fun _ x y => x &&& y) .i64 b (Int.fdiv 255 (2 ^ min (IntKind.i64.wrap ((n : Int) + 1 + 1)).toNat IntKind.i64.bits)) = cp0F b n := by
  obtain rfl | rfl | rfl : n = 1 ∨ n = 2 ∨ n = 3 := by omega
  · exact and_mask64 5 (by decide) (by decide) h0 (by omega)
  · exact and_mask64 4 (by decide) (by decide) h0 (by omega)
  · exact and_mask64 3 (by decide) (by decide) h0 (by omega)

theorem cp0_B (b : Int) (n : Nat) (h0 : 0 ≤ b) (h1 : b < 256) (h3 : n ≤ 3) : cpB (cp0F b n) n := by
  unfold cpB cp0F
  obtain rfl | rfl | rfl | rfl : n = 0 ∨ n = 1 ∨ n = 2 ∨ n = 3 := by omega
  all_goals simp
  all_goals omega

set_option maxRecDepth 10000 in
theorem code_sound (gl : Gl) : Sound Tryd.prog gl 48 codeSpec := by
  refine sound_fn (N := Tryd.f48.ntmps) (rs := Tryd.f48.results.toList) mixed tok (SpecsOK.nil _ gl) Tryd.func48 rfl rfl rfl rfl rfl ?_ ?_ ?_
  · rintro args ⟨p, rfl, h0, h1, h2⟩; simp [Tryd.f48]
  · rintro args ⟨p, rfl, h0, h1, h2⟩; simp [codeSpec, Tryd.f48]
  · rintro args ⟨p, rfl, h0, h1, h2⟩ bs hgl hh hro
    obtain ⟨b, q, rfl⟩ : ∃ b q, p = b :: q := by cases p with | nil => exact absurd rfl h0 | cons b q => exact ⟨b, q, rfl⟩
    obtain ⟨hb, hq⟩ := h1.cons
    simp at h2
    have hw : IntKind.i64.wrap b = b := wrap64 _ (by omega) (by omega)
    simp [codeSpec, Tryd.f48, codeF, hb, hw]
    have e2 : IntKind.i64.wrap ((q.length : Int) + 1 + 1) = q.length + 1 + 1 := wrap64 _ (by omega) (by omega)
    refine ⟨fun h => ⟨by omega, by omega, ?_⟩, fun h => ⟨by omega, ?_⟩⟩
    all_goals refine AWP.rounds (fun x : List Int × List Int × Int => q = x.1 ++ x.2.1 ∧ goCode (cp0F b q.length) q = goCode x.2.2 x.2.1 ∧ cpB x.2.2 x.2.1.length) (codeS (b :: q)) (fun x => x.2.1.length) ([], q, cp0F b q.length) ⟨rfl, rfl, cp0_B b _ hb.1 hb.2 h2⟩ ?_ ?_
    · refine Weak.ren [] (baseOK.nil hh) (by simp) (by simp) ?_
      simp [codeS]
      exact (cp0_bits b q.length hb.1 hb.2 (by omega) h2).symm
    rotate_left
    · refine Weak.ren [] (baseOK.nil hh) (by simp) (by simp) ?_
      have : q.length = 0 := by omega
      simp [codeS, cp0F, this]
    all_goals
      rintro ⟨pre, rest, cp⟩ ⟨rfl, hx, hc⟩
      simp only at hx hc hq h2
      refine wpc_ok (E := ⟨Tryd.prog, T, [], bs⟩) ⟨tok, SpecsOK.nil _ _⟩ mixed _ _ _ ?_
      cases rest with
      | nil => simp [goCode] at hx; simp [codeS, hx]
      | cons c rest =>
        obtain ⟨hc1, -⟩ := hq.right.cons
        simp at h2
        simp [goCode] at hx
        unfold cpB at hc
        simp only [List.length_cons] at hc
        have hc0 : 0 ≤ cp ∧ cp < 1065024 := by omega
        have e1 : IntKind.i64.wrap (pre.length + 1) = pre.length + 1 := wrap64 _ (by omega) (by omega)
        have e3 : bits2 (fun _ x y => x &&& y) .u8 c 63 = c % 64 := and_mask8 6 (by decide) (by decide) hc1.1 hc1.2
        have e4 : IntKind.i64.wrap (c % 64) = c % 64 := wrap64 _ (by omega) (by omega)
        have e5 : IntKind.i64.wrap (cp * 64) = cp * 64 := wrap64 _ (by omega) (by omega)
        have e6 : bits2 (fun _ x y => x ||| y) .i64 (cp * 64) (c % 64) = cp * 64 + c % 64 := or_add64 6 hc0.1 (by omega) (by omega) (by omega) (by omega)
        simp [codeS, hx, e1, e3, e4, IntKind.bits, e5, e6]
        refine ⟨fun _ => ?_, fun h => by omega⟩
        refine ⟨by omega, Next.mk (pre ++ [c], rest, cp * 64 + c % 64) ⟨by simp, by simp [hx], ?_⟩ (by simp) (Weak.ren [] (baseOK.nil hh) (by simp) (by simp) ?_)⟩
        · unfold cpB; simp only; omega
        · simp [codeS]

end Fen

namespace Fen
open Go Go.Proofs

def rightF (p : List Int) : Bool := p.isEmpty || kindF p == 1

def rightSpec : Spec := { pre := fun args => ∃ p : List Int, args = [bytesV p] ∧ Bytes p ∧ p.length ≤ 4294967296, res := fun args => .one (.val (.c (.bool (rightF (args.headD default).ints)))) }

set_option maxRecDepth 10000 in
theorem right_sound (gl : Gl) : Sound Tryd.prog gl 46 rightSpec := by
  refine sound_fn (N := Tryd.f46.ntmps) (rs := Tryd.f46.results.toList) mixed tok (SpecsOK.cons (kind_sound gl) (SpecsOK.nil _ gl)) Tryd.func46 rfl rfl rfl rfl rfl ?_ ?_ ?_
  · rintro args ⟨p, rfl, h1, h2⟩; simp [Tryd.f46]
  · rintro args ⟨p, rfl, h1, h2⟩; simp [rightSpec, Tryd.f46]
  · rintro args ⟨p, rfl, h1, h2⟩ bs hgl hh hro
    cases p with
    | nil => simp [rightSpec, kindSpec, Tryd.f46, rightF]
    | cons b q =>
      simp at h2
      simp [rightSpec, kindSpec, Tryd.f46, rightF, and_assoc, h1]
      omega

def flushF (p : List Int) : List Int := if p ≠ [] ∧ rightF p = true then [65533] else []

def flushSpec : Spec := { pre := fun args => ∃ p : List Int, args = [bytesV p] ∧ Bytes p ∧ p.length ≤ 4294967296, res := fun args => .one (.val (intsV (flushF (args.headD default).ints))) }

set_option maxRecDepth 10000 in
theorem flush_sound (gl : Gl) : Sound Tryd.prog gl 40 flushSpec := by
  refine sound_fn (N := Tryd.f40.ntmps) (rs := Tryd.f40.results.toList) mixed tok (SpecsOK.cons (right_sound gl) (SpecsOK.nil _ gl)) Tryd.func40 rfl rfl rfl rfl rfl ?_ ?_ ?_
  · rintro args ⟨p, rfl, h1, h2⟩; simp [Tryd.f40]
  · rintro args ⟨p, rfl, h1, h2⟩; simp [flushSpec, Tryd.f40]
  · rintro args ⟨p, rfl, h1, h2⟩ bs hgl hh hro
    cases p with
    | nil => simp [rightSpec, flushSpec, Tryd.f40, flushF]
    | cons b q =>
      simp at h2
      simp [rightSpec, flushSpec, Tryd.f40, flushF, and_assoc, h1]
      exact ⟨by omega, fun h => by simp [h], fun h => by simp [h]⟩

end Fen

namespace Fen
open Go Go.Proofs

/-- Step, nothing right pending ahead -/
def step0 (b : Int) : List Int × List Int :=
  if kindF [b] = 2 then ([], [codeF [b]]) else if kindF [b] = 1 then ([b], []) else ([], [65533])

def stepP (p : List Int) (b : Int) : List Int × List Int :=
  if kindF (p ++ [b]) = 2 then ([], [codeF (p ++ [b])]) else if kindF (p ++ [b]) = 1 then (p ++ [b], []) else ((step0 b).1, 65533 :: (step0 b).2)

def stepF (p : List Int) (b : Int) : List Int × List Int := if p = [] ∨ rightF p = false then step0 b else stepP p b

theorem kindF_range (p : List Int) : kindF p = 0 ∨ kindF p = 1 ∨ kindF p = 2 := by unfold kindF; (repeat' split) <;> simp

theorem right_len {p : List Int} (h : rightF p = true) : p.length ≤ 3 := by
  unfold rightF kindF at h
  have := lengthF_le (p.head?.getD 0)
  simp at h
  rcases h with rfl | h
  · simp
  · split at h
    · simp at h
    · split at h
      · split at h <;> omega
      · simp at h

theorem kind_len {p : List Int} (h : kindF p ≠ 0) : p.length ≤ 4 := by
  unfold kindF at h
  have := lengthF_le (p.headD 0)
  split at h
  · simp at h
  · omega

def step0Spec : Spec := { pre := fun args => ∃ b : Int, args = [bytesV [], .c (.int .u8 b)] ∧ 0 ≤ b ∧ b < 256, res := fun args => .many [.val (bytesV (step0 (args.getD 1 default).int).1), .val (intsV (step0 (args.getD 1 default).int).2)] }

def GSt : Specs := [(46, rightSpec), (47, kindSpec), (48, codeSpec)]
@[simp] theorem GSt_10 : GSt.find 46 = some rightSpec := rfl
@[simp] theorem GSt_27 : GSt.find 47 = some kindSpec := rfl
@[simp] theorem GSt_29 : GSt.find 48 = some codeSpec := rfl
theorem GSt_ok (gl : Gl) : SpecsOK Tryd.prog gl GSt := .cons (right_sound gl) (.cons (kind_sound gl) (.cons (code_sound gl) (.nil _ _)))

set_option maxRecDepth 10000 in
theorem step0_sound (gl : Gl) : Sound Tryd.prog gl 39 step0Spec := by
  refine sound_fn (N := Tryd.f39.ntmps) (rs := Tryd.f39.results.toList) mixed tok (GSt_ok gl) Tryd.func39 rfl rfl rfl rfl rfl ?_ ?_ ?_
  · rintro args ⟨b, rfl, h0, h1⟩; simp [Tryd.f39]
  · rintro args ⟨b, rfl, h0, h1⟩; simp [step0Spec, Tryd.f39]
  · rintro args ⟨b, rfl, h0, h1⟩ bs hgl hh hro
    have hb : Bytes [b] := Bytes.mk ⟨h0, h1⟩ Bytes.nil
    simp [step0Spec, Tryd.f39, rightSpec, kindSpec, codeSpec, rightF, step0, hb, and_assoc, Bytes.nil]
    refine ⟨fun h => by simp [h], fun h => ⟨fun h' => by simp [h'], fun h' => by simp [h, h']⟩⟩

def stepSpec : Spec := { pre := fun args => ∃ (p : List Int) (b : Int), args = [bytesV p, .c (.int .u8 b)] ∧ Bytes p ∧ p.length ≤ 4294967296 ∧ 0 ≤ b ∧ b < 256, res := fun args => .many [.val (bytesV (stepF (args.headD default).ints (args.getD 1 default).int).1), .val (intsV (stepF (args.headD default).ints (args.getD 1 default).int).2)] }

def GSu : Specs := (39, step0Spec) :: GSt
@[simp] theorem GSu_10 : GSu.find 46 = some rightSpec := rfl
@[simp] theorem GSu_27 : GSu.find 47 = some kindSpec := rfl
@[simp] theorem GSu_29 : GSu.find 48 = some codeSpec := rfl
@[simp] theorem GSu_15 : GSu.find 39 = some step0Spec := rfl
theorem GSu_ok (gl : Gl) : SpecsOK Tryd.prog gl GSu := .cons (step0_sound gl) (GSt_ok gl)

set_option maxRecDepth 10000 in
theorem step_sound (gl : Gl) : Sound Tryd.prog gl 39 stepSpec := by
  refine sound_fn (N := Tryd.f39.ntmps) (rs := Tryd.f39.results.toList) mixed tok (GSu_ok gl) Tryd.func39 rfl rfl rfl rfl rfl ?_ ?_ ?_
  · rintro args ⟨p, b, rfl, h0, h1, h2, h3⟩; simp [Tryd.f39]
  · rintro args ⟨p, b, rfl, h0, h1, h2, h3⟩; simp [stepSpec, Tryd.f39]
  · rintro args ⟨p, b, rfl, h0, h1, h2, h3⟩ bs hgl hh hro
    have hb : Bytes [b] := Bytes.mk ⟨h2, h3⟩ Bytes.nil
    simp [stepSpec, step0Spec, Tryd.f39, rightSpec, kindSpec, codeSpec, stepF, hb, and_assoc, Bytes.nil]
    have hs0 : (step0 b).2.length ≤ 1 := by unfold step0; (repeat' split) <;> simp
    refine ⟨h0, h1, fun hr => ?_, fun hr => ?_⟩
    · simp only [hr, or_true, if_true, step0]
      refine ⟨fun h => by simp [h], fun h => ⟨fun h' => by simp [h'], fun h' => by simp [h, h']⟩⟩
    · have hl := right_len hr
      refine ⟨by omega, by omega, h0.app hb, by omega, ?_⟩
      simp only [hr, or_false, Bool.true_eq_false]
      refine ⟨fun h => ⟨h0.app hb, hl, ?_⟩, fun h => ⟨fun h' => ?_, fun h' => ⟨fun hp => ?_, fun hp => ⟨h2, h3, by omega, by omega, ?_⟩⟩⟩⟩
      · by_cases hp : p = []
        · subst hp; simp at h; simp [step0, h]
        · simp [hp, stepP, h]
      · by_cases hp : p = []
        · subst hp; simp at h h'; simp [step0, h']
        · simp [hp, stepP, h']
      · subst hp; simp at h h'; simp [step0, h, h']
      · simp [hp, stepP, h, h']
        omega

end Fen

namespace Fen
open Go Go.Proofs

def eachSpec : Spec := { pre := fun args => ∃ s : List UInt8, args = [.c (.str s)], res := fun args => .one (.val (.c (.fn 38 [.ptr [.str (args.headD default).str]]))) }

set_option maxRecDepth 10000 in
theorem each_sound (gl : Gl) : Sound Tryd.prog gl 31 eachSpec := by
  refine sound_fn (N := Tryd.f31.ntmps) (rs := Tryd.f31.results.toList) mixed tok (SpecsOK.nil _ _) Tryd.func31 rfl rfl rfl rfl rfl ?_ ?_ ?_
  · rintro args ⟨s, rfl⟩; simp [Tryd.f31]
  · rintro args ⟨s, rfl⟩; simp [eachSpec, Tryd.f31]
  · rintro args ⟨s, rfl⟩ bs hgl hh hro
    simp [eachSpec, Tryd.f31]

/-- the pending bytes, and the code points so far -/
def runF (p : List Int) : List UInt8 → List Int × List Int
  | [] => (p, [])
  | b :: l => ((runF (stepF p b.toNat).1 l).1, (stepF p b.toNat).2 ++ (runF (stepF p b.toNat).1 l).2)

def codesF (s : List UInt8) : List Int := (runF [] s).2 ++ flushF (runF [] s).1

theorem runF_app (p : List Int) (l m : List UInt8) : runF p (l ++ m) = ((runF (runF p l).1 m).1, (runF p l).2 ++ (runF (runF p l).1 m).2) := by
  induction l generalizing p with
  | nil => simp [runF]
  | cons b l ih => simp [runF, ih]

def GEa : Specs := [(39, stepSpec), (40, flushSpec)]
@[simp] theorem GEa_15 : GEa.find 39 = some stepSpec := rfl
@[simp] theorem GEa_13 : GEa.find 40 = some flushSpec := rfl
theorem GEa_ok (gl : Gl) : SpecsOK Tryd.prog gl GEa := .cons (step_sound gl) (.cons (flush_sound gl) (.nil _ _))

theorem bytes_step0 (b : Int) (h : 0 ≤ b ∧ b < 256) : Bytes (step0 b).1 ∧ (step0 b).1.length ≤ 1 := by
  unfold step0
  (repeat' split) <;> simp [Bytes.nil]
  exact h

theorem step_bytes {p : List Int} {b : Int} (hp : Bytes p) (h : 0 ≤ b ∧ b < 256) : Bytes (stepF p b).1 ∧ (stepF p b).1.length ≤ 4 := by
  unfold stepF
  have := bytes_step0 b h
  split
  · exact ⟨this.1, by omega⟩
  · unfold stepP
    split
    · simp [Bytes.nil]
    · split
      · rename_i h1
        exact ⟨hp.app (Bytes.mk h Bytes.nil), kind_len (by simp only; omega)⟩
      · exact ⟨this.1, by simp only; omega⟩

/-- the state at the head of the rounds over the bytes -/
def each1S (id : Nat) (s : List UInt8) (x : List UInt8 × List UInt8 × List Int × List Blk) : St :=
  ⟨48, [(0, .yld id), (1, .fptr [.str s]), (3, .val (.sl x.2.2.1.length (ints .u8 x.2.2.1))), (12, .val (.int .i64 s.length)), (13, .val (.int .i64 x.1.length))], x.2.2.2⟩

def each1T (id : Nat) (s : List UInt8) (p : List Int) (i : Nat) (q : List Int) (x : List Int × List Int × List Blk) : St :=
  ⟨48, [(0, .yld id), (1, .fptr [.str s]), (3, .val (.sl p.length (ints .u8 p))), (12, .val (.int .i64 s.length)), (13, .val (.int .i64 i)),
    (25, .val (.sl q.length (ints .i64 q))), (26, .val (.int .i64 q.length)), (27, .val (.int .i64 x.1.length))], x.2.2⟩

def each1U (id : Nat) (q : List Int) (x : List Int × List Int × List Blk) : St :=
  ⟨48, [(0, .yld id), (38, .val (.sl q.length (ints .i64 q))), (39, .val (.int .i64 q.length)), (40, .val (.int .i64 x.1.length))], x.2.2⟩

set_option maxRecDepth 10000 in
theorem each1_iter (gl : Gl) (s : List UInt8) (hs : s.length ≤ 4294967296) : IterOK Tryd.prog gl 38 [.ptr [.str s]] ((codesF s).map fun c => [.c (.int .i64 c)]) := by
  refine ⟨enters_of Tryd.func38 rfl rfl, Tryd.f38, _, Tryd.func38, rfl, rfl, by simp [Tryd.f38], ?_⟩
  intro bs id I Ix hgl hro hy hI h0
  have hE : Env.OK ⟨Tryd.prog, T, GEa, bs⟩ := ⟨tok, by rw [hgl]; exact GEa_ok gl⟩
  refine wpc_ok hE mixed _ _ _ ?_
  simp [Tryd.f38]
  have h0' : I (runF [] ([] : List UInt8)).2.length bs.h0 := h0
  refine AWP.rounds (fun x => s = x.1 ++ x.2.1 ∧ (runF [] x.1).1 = x.2.2.1 ∧ Bytes x.2.2.1 ∧ x.2.2.1.length ≤ 4 ∧ I (runF [] x.1).2.length x.2.2.2) (each1S id s) (fun x => x.2.1.length) ([], s, [], bs.h0) ⟨rfl, rfl, Bytes.nil, by simp, h0'⟩ ?_ ?_
  · refine Weak.keep ?_
    simp [each1S]
  · rintro ⟨pre, rest, p, h⟩ ⟨hx, hp, hb, hl, hI1⟩
    simp only at hx hp hb hl hI1
    refine wpc_ok hE mixed _ _ _ ?_
    cases rest with
    | nil =>
      simp at hx
      subst hx
      simp [each1S, flushSpec, hb, and_assoc]
      refine ⟨by omega, ?_⟩
      have hfl : (flushF p).length ≤ 1 := by unfold flushF; split <;> simp
      have hcl : (codesF s).length = (runF [] s).2.length + (flushF p).length := by simp [codesF, hp]
      refine AWP.rounds (fun x => flushF p = x.1 ++ x.2.1 ∧ (I ((runF [] s).2.length + x.1.length) x.2.2 ∨ (x.2.1 = [] ∧ Ix x.2.2))) (each1U id (flushF p)) (fun x => x.2.1.length) ([], flushF p, h) ⟨rfl, .inl hI1⟩ ?_ ?_
      · refine Weak.keep ?_
        simp [each1U]
      · rintro ⟨done, todo, h1⟩ ⟨hx1, hI2⟩
        simp only at hx1 hI2
        refine wpc_ok hE mixed _ _ _ ?_
        cases todo with
        | nil =>
          simp at hx1
          simp [each1U, hx1]
          rw [hcl, hx1]
          simpa using hI2
        | cons c todo =>
          have hd : done = [] ∧ todo = [] := by rw [hx1] at hfl; simp at hfl; exact ⟨List.eq_nil_of_length_eq_zero (by omega), List.eq_nil_of_length_eq_zero (by omega)⟩
          obtain ⟨rfl, rfl⟩ := hd
          simp at hI2
          simp [each1U, hx1]
          refine OpW.yield hy (runF [] s).2.length [.c (.int .i64 c)] rfl hI2 (hI _ _ hI2) (by simp [codesF, hp, hx1]) (by simp) (by simp) (by simp) (fun h' k => ?_) (fun h' k => ?_)
          · simp
            refine Next.mk ([c], [], h') ⟨by simp [hx1], .inl (by simpa using k)⟩ (by simp) (Weak.keep ?_)
            simp [each1U]
          · simp
            refine Next.mk ([c], [], h') ⟨by simp [hx1], .inr ⟨rfl, k⟩⟩ (by simp) (Weak.keep ?_)
            simp [each1U]
    | cons c rest =>
      have hcb : (0 : Int) ≤ c.toNat ∧ (c.toNat : Int) < 256 := ⟨by omega, by have := c.toNat_lt; omega⟩
      have hlen : s.length = pre.length + (rest.length + 1) := by rw [hx]; simp
      have hlt : pre.length < s.length := by omega
      have hget : s[pre.length]'hlt = c := by simp [hx]
      have hw : IntKind.i64.wrap (pre.length + 1) = pre.length + 1 := wrap64 _ (by omega) (by omega)
      simp [each1S, stepSpec, hb, and_assoc, hlt, hcb, hget]
      refine ⟨by omega, ?_⟩
      obtain ⟨hb2, hl2⟩ := step_bytes hb hcb
      have hrun : runF [] (pre ++ [c]) = ((stepF p c.toNat).1, (runF [] pre).2 ++ (stepF p c.toNat).2) := by rw [runF_app, hp]; simp [runF]
      have hall : codesF s = (runF [] pre).2 ++ ((stepF p c.toNat).2 ++ ((runF (stepF p c.toNat).1 rest).2 ++ flushF (runF (stepF p c.toNat).1 rest).1)) := by
        unfold codesF
        rw [hx, runF_app, hp]
        simp [runF]
      generalize hq : stepF p c.toNat = q at *
      have hql : q.2.length ≤ 2 := by
        rw [← hq]; unfold stepF stepP step0
        (repeat' split) <;> simp
      refine AWP.rounds (fun x => q.2 = x.1 ++ x.2.1 ∧ I ((runF [] pre).2.length + x.1.length) x.2.2) (each1T id s q.1 pre.length q.2) (fun x => x.2.1.length) ([], q.2, h) ⟨rfl, hI1⟩ ?_ ?_
      · refine Weak.keep ?_
        simp [each1T]
      · rintro ⟨done, todo, h1⟩ ⟨hx1, hI2⟩
        simp only at hx1 hI2
        refine wpc_ok hE mixed _ _ _ ?_
        cases todo with
        | nil =>
          simp at hx1
          simp [each1T, hx1, hw]
          refine Next.mk (pre ++ [c], rest, q.1, h1) ⟨by simp [hx], by simp [hrun], hb2, hl2, ?_⟩ (by simp) (Weak.keep ?_)
          · rw [hrun, hx1]; simpa using hI2
          · simp [each1S]
        | cons d todo =>
          have hdl : done.length < q.2.length := by rw [hx1]; simp
          have hdl2 : done.length ≤ 1 := by omega
          have hdg : q.2.drop done.length = d :: todo := by simp [hx1]
          have hw2 : IntKind.i64.wrap (done.length + 1) = done.length + 1 := wrap64 _ (by omega) (by omega)
          simp [each1T, hdl, hdg]
          refine OpW.yield hy ((runF [] pre).2.length + done.length) [.c (.int .i64 d)] rfl hI2 (hI _ _ hI2) ?_ (by simp) (by simp) (by simp) (fun h' k => ?_) (fun h' k => ?_)
          · rw [hall, hx1]; simp
          · simp [hw2]
            refine Next.mk (done ++ [d], todo, h') ⟨by simp [hx1], by simpa [Nat.add_assoc] using k⟩ (by simp) (Weak.keep ?_)
            simp [each1T]
          · simp
            exact .inr k

end Fen

namespace Fen
open Go Go.Proofs

def codesSpec : Spec := { pre := fun args => ∃ s : List UInt8, args = [.c (.str s)] ∧ s.length ≤ 4294967296, res := fun args => .one (.val (intsV (codesF (args.headD default).str))) }

def GCo : Specs := [(31, eachSpec)]
@[simp] theorem GCo_32 : GCo.find 31 = some eachSpec := rfl
theorem GCo_ok (gl : Gl) : SpecsOK Tryd.prog gl GCo := .cons (each_sound gl) (.nil _ _)

theorem step_codes_len (p : List Int) (b : Int) : (stepF p b).2.length ≤ 2 := by
  unfold stepF stepP step0
  (repeat' split) <;> simp

theorem runF_len (s : List UInt8) : ∀ p, (runF p s).2.length ≤ 2 * s.length := by
  induction s with
  | nil => intro p; simp [runF]
  | cons b s ih =>
    intro p
    have h1 := step_codes_len p b.toNat
    have h2 := ih (stepF p b.toNat).1
    simp only [runF, List.length_append, List.length_cons]
    omega

theorem codesF_len (s : List UInt8) : (codesF s).length ≤ 2 * s.length + 1 := by
  have := runF_len s []
  have h2 : (flushF (runF [] s).1).length ≤ 1 := by unfold flushF; split <;> simp
  simp only [codesF, List.length_append]
  omega

/-- the heap between two rounds -/
def codesH (l : List Int) (n : Nat) : List Blk :=
  if n = 0 then [.box 32 [.nil], .hid] else [.box 32 [.ref 2 (n - 1)], .hid, .sl 3 (n - 1) true 1 n (ints .i64 (l.take n))]

set_option maxRecDepth 10000 in
theorem codes_sound (gl : Gl) : Sound Tryd.prog gl 17 codesSpec := by
  refine sound_fn (N := Tryd.f17.ntmps) (rs := Tryd.f17.results.toList) mixed tok (GCo_ok gl) Tryd.func17 rfl rfl rfl rfl rfl ?_ ?_ ?_
  · rintro args ⟨s, rfl, hs⟩; simp [Tryd.f17]
  · rintro args ⟨s, rfl, hs⟩; simp [codesSpec, Tryd.f17]
  · rintro args ⟨s, rfl, hs⟩ bs hgl hh hro
    have hcl := codesF_len s
    simp [codesSpec, eachSpec, Tryd.f17]
    refine AWP.rangeFunc hro rfl (by rw [hgl]; exact each1_iter gl s hs) (by simp) (by simp) (fun n y => y = n ∧ n ≤ (codesF s).length) (codesH (codesF s)) (fun _ _ => False) 0 ⟨rfl, by simp⟩ (by simp [codesH]) ?_ (by simp) ?_ ?_ (by simp)
    · rintro n y ⟨rfl, hn⟩
      simp only [codesH]; split <;> simp
    · rintro n y args ⟨rfl, hn⟩ hseq bs' hgl' hh'
      simp at hseq
      obtain ⟨c, hc, rfl⟩ := hseq
      have hE : Env.OK ⟨Tryd.prog, T, GCo, bs'⟩ := ⟨tok, by rw [hgl', hgl]; exact GCo_ok gl⟩
      refine wpc_ok hE mixed _ _ _ ?_
      simp
      intro bs2 hgl2 hh2
      have hE : Env.OK ⟨Tryd.prog, T, GCo, bs2⟩ := ⟨tok, by rw [hgl2, hgl]; exact GCo_ok gl⟩
      refine wpc_ok hE mixed _ _ _ ?_
      unfold codesH
      split
      · subst_vars
        simp
        refine roundQ_next 1 ⟨rfl, by have := lt_of_get hc; omega⟩ ?_
        have : List.take 1 (codesF s) = [c] := by rw [List.take_one, List.head?_eq_getElem?, hc]; rfl
        simp [this]
      · rename_i hn0
        simp
        have hlt := lt_of_get hc
        have ht : List.take (y + 1) (codesF s) = List.take y (codesF s) ++ [c] := by rw [List.take_add_one, hc]; rfl
        refine ⟨⟨by omega, by omega⟩, roundQ_next (y + 1) ⟨rfl, by omega⟩ ?_⟩
        have e1 : y - 1 + 1 = y := by omega
        simp [ht, e1]
    · rintro y ⟨rfl, hn⟩
      unfold codesH
      split
      · rename_i h0
        have : codesF s = [] := List.eq_nil_of_length_eq_zero (by simpa using h0)
        simp [this]
      · simp

end Fen

namespace Fen
open Go Go.Proofs

theorem fdiv2 (n : Int) (k : Nat) : n.fdiv (2 ^ k) = n / 2 ^ k := Int.fdiv_eq_ediv_of_nonneg _ (Int.le_of_lt (Int.pow_pos (by decide)))

def checkF (n : Int) : Bool := decide (0 ≤ n) && decide (n ≤ 1114111) && (decide (n < 55296) || decide (57343 < n))
theorem checkF_iff (n : Int) : checkF n = true ↔ 0 ≤ n ∧ n ≤ 1114111 ∧ (n < 55296 ∨ 57343 < n) := by simp [checkF, and_assoc]

def I64 (n : Int) : Prop := -9223372036854775808 ≤ n ∧ n ≤ 9223372036854775807

def checkSpec : Spec := { pre := fun args => ∃ n : Int, args = [.c (.int .i64 n)] ∧ I64 n, res := fun args => .one (.val (.c (.bool (checkF (args.headD default).int)))) }

set_option maxRecDepth 10000 in
theorem check_sound (gl : Gl) : Sound Tryd.prog gl 18 checkSpec := by
  refine sound_fn (N := Tryd.f18.ntmps) (rs := Tryd.f18.results.toList) mixed tok (SpecsOK.nil _ _) Tryd.func18 rfl rfl rfl rfl rfl ?_ ?_ ?_
  · rintro args ⟨n, rfl, hn⟩; simp [Tryd.f18]
  · rintro args ⟨n, rfl, hn⟩; simp [checkSpec, Tryd.f18]
  · rintro args ⟨n, rfl, h1, h2⟩ bs hgl hh hro
    simp [checkSpec, Tryd.f18, checkF]
    have e : n.fdiv (2 ^ min 11 IntKind.i64.bits) = n / 2048 := by rw [show min 11 IntKind.i64.bits = 11 from rfl, fdiv2]; rfl
    have e2 : (¬ n / 2048 = 27) ↔ (n < 55296 ∨ 57343 < n) := by constructor <;> intro h <;> omega
    have e3 : (n / 2048 != 27) = (decide (n < 55296) || decide (57343 < n)) := by rw [Bool.eq_iff_iff]; simpa using e2
    rw [e, e3]
    rfl

set_option maxRecDepth 10000 in
theorem rcheck_sound (gl : Gl) : Sound Tryd.prog gl 20 checkSpec := by
  refine sound_fn (N := Tryd.f20.ntmps) (rs := Tryd.f20.results.toList) mixed tok (SpecsOK.nil _ _) Tryd.func20 rfl rfl rfl rfl rfl ?_ ?_ ?_
  · rintro args ⟨n, rfl, hn⟩; simp [Tryd.f20]
  · rintro args ⟨n, rfl, hn⟩; simp [checkSpec, Tryd.f20]
  · rintro args ⟨n, rfl, h1, h2⟩ bs hgl hh hro
    simp [checkSpec, Tryd.f20, checkF]
    exact ⟨fun a b => ⟨⟨a, b⟩, fun c => ⟨⟨a, b⟩, c⟩⟩, rfl⟩

def moreF (cp shift : Int) : Int := 128 + (cp / 2 ^ shift.toNat) % 64

def moreHS : HS := { wr := false, eff := fun xs h => match xs with
  | [.val (.int .i64 shift), .ptr id 0 0] => (match h[id]? with
    | some (.box _ [.val (.int .i64 cp)]) => (0 ≤ shift ∧ shift < 64 ∧ 0 ≤ cp ∧ cp ≤ 1114111, .val (.int .u8 (moreF cp shift)), h)
    | _ => (False, .dead, h))
  | _ => (False, .dead, h) }
def moreSpec : Spec := { pre := fun _ => False, res := fun _ => .many [], hp := some moreHS }

theorem or128 (m : Int) (h0 : 0 ≤ m) (h1 : m < 64) : bits2 (fun _ x y => x ||| y) .u8 128 m = 128 + m := by
  have := or_add8 (a := 2) (b := m) 6 (by decide) (by decide) h0 h1 (by omega)
  simpa using this

set_option maxRecDepth 10000 in
theorem more_sound (gl : Gl) : Sound Tryd.prog gl 37 moreSpec := by
  refine sound_heap (hs := moreHS) (N := Tryd.f37.ntmps) (rs := Tryd.f37.results.toList) mixed tok (SpecsOK.nil _ gl) Tryd.func37 rfl rfl rfl rfl rfl ?_ ?_
  · intro xs h hp
    simp only [moreHS] at hp
    split at hp
    · simp [Tryd.f37]
    · exact hp.elim
  · intro xs h hp bs hgl hh hro
    simp only [moreHS] at hp
    split at hp
    · rename_i shift id
      split at hp
      · rename_i cp hb
        obtain ⟨h0, h1, h2, h3⟩ := hp
        simp [Tryd.f37, hb, hcEff, moreHS]
        refine ⟨h0, RetTo.same ⟨?_, rfl⟩⟩
        have e1 : min shift.toNat IntKind.i64.bits = shift.toNat := by simp [IntKind.bits]; omega
        rw [e1, fdiv2]
        have hp2 : (1 : Int) ≤ 2 ^ shift.toNat := by exact_mod_cast Nat.one_le_two_pow
        have hd : 0 ≤ cp / 2 ^ shift.toNat := Int.ediv_nonneg h2 (by omega)
        have e2 : IntKind.u8.wrap (cp / 2 ^ shift.toNat) = cp / 2 ^ shift.toNat % 256 := by simp [IntKind.wrap, IntKind.bits, IntKind.signed]
        have e3 := and_mask8 (a := cp / 2 ^ shift.toNat % 256) (m := 63) 6 (by decide) (by decide) (by omega) (by omega)
        have e4 : cp / 2 ^ shift.toNat % 256 % 2 ^ 6 = cp / 2 ^ shift.toNat % 64 := by omega
        rw [e2, e3, e4, or128 _ (by omega) (by omega)]
        rfl
      · exact hp.elim
    · exact hp.elim

def putI (n : Int) : List Int :=
  let cp := if checkF n then n else 65533
  if cp < 128 then [cp] else if cp < 2048 then [192 + cp / 64, 128 + cp % 64] else if cp < 65536 then [224 + cp / 4096, 128 + cp / 64 % 64, 128 + cp % 64]
  else [240 + cp / 262144, 128 + cp / 4096 % 64, 128 + cp / 64 % 64, 128 + cp % 64]

/-- numbers as a text's bytes -/
def bytesS (l : List Int) : List UInt8 := l.map fun n => UInt8.ofNat n.toNat

def putSpec : Spec := { pre := fun args => ∃ n : Int, args = [.c (.int .i64 n)] ∧ I64 n, res := fun args => .one (.val (.c (.str (bytesS (putI (args.headD default).int))))) }

theorem shr_u8 (n : Int) (k : Nat) (hk : k ≤ 64) (h0 : 0 ≤ n / 2 ^ k) (h1 : n / 2 ^ k < 256) : IntKind.u8.wrap (n.fdiv (2 ^ min k IntKind.i64.bits)) = n / 2 ^ k := by
  have e1 : min k IntKind.i64.bits = k := by simp [IntKind.bits]; omega
  rw [e1, fdiv2, wrap8 _ h0 h1]
theorem or192 (m : Int) (h0 : 0 ≤ m) (h1 : m < 32) : bits2 (fun _ x y => x ||| y) .u8 192 m = 192 + m := by
  simpa using or_add8 (a := 3) (b := m) 6 (by decide) (by decide) h0 (by omega) (by omega)
theorem or224 (m : Int) (h0 : 0 ≤ m) (h1 : m < 16) : bits2 (fun _ x y => x ||| y) .u8 224 m = 224 + m := by
  simpa using or_add8 (a := 7) (b := m) 5 (by decide) (by decide) h0 (by omega) (by omega)
theorem or240 (m : Int) (h0 : 0 ≤ m) (h1 : m < 8) : bits2 (fun _ x y => x ||| y) .u8 240 m = 240 + m := by
  simpa using or_add8 (a := 15) (b := m) 4 (by decide) (by decide) h0 (by omega) (by omega)

def GPu : Specs := [(18, checkSpec), (37, moreSpec)]
@[simp] theorem GPu_21 : GPu.find 18 = some checkSpec := rfl
@[simp] theorem GPu_31 : GPu.find 37 = some moreSpec := rfl
theorem GPu_ok (gl : Gl) : SpecsOK Tryd.prog gl GPu := .cons (check_sound gl) (.cons (more_sound gl) (.nil _ _))

set_option maxRecDepth 10000 in
theorem put_sound (gl : Gl) : Sound Tryd.prog gl 29 putSpec := by
  refine sound_fn (N := Tryd.f29.ntmps) (rs := Tryd.f29.results.toList) mixed tok (GPu_ok gl) Tryd.func29 rfl rfl rfl rfl rfl ?_ ?_ ?_
  · rintro args ⟨n, rfl, hn⟩; simp [Tryd.f29]
  · rintro args ⟨n, rfl, hn⟩; simp [putSpec, Tryd.f29]
  · rintro args ⟨n, rfl, hn⟩ bs hgl hh hro
    simp [putSpec, Tryd.f29, checkSpec, hn, moreSpec, moreHS]
    refine ⟨fun h => ⟨by decide, ?_⟩, fun h => ?_⟩
    · rw [shr_u8 65533 12 (by decide) (by decide) (by decide), or224 _ (by decide) (by decide)]
      simp [putI, h, bytesS, moreF]
    · have hc : 0 ≤ n ∧ n ≤ 1114111 := by rw [checkF_iff] at h; exact ⟨h.1, h.2.1⟩
      refine ⟨fun h1 => ?_, fun h1 => ⟨fun h2 => ⟨hc, by decide, ?_⟩, fun h2 => ⟨fun h3 => ⟨hc, by decide, ?_⟩, fun h3 => ⟨hc, by decide, ?_⟩⟩⟩⟩
      · have e1 : IntKind.u8.wrap n = n := wrap8 _ hc.1 (by omega)
        simp [putI, h, bytesS, h1, e1]
      · rw [shr_u8 n 6 (by decide) (by omega) (by omega), or192 _ (by omega) (by omega)]
        have : ¬ n < 128 := by omega
        simp [putI, h, bytesS, moreF, h2, this]
      · rw [shr_u8 n 12 (by decide) (by omega) (by omega), or224 _ (by omega) (by omega)]
        have q1 : ¬ n < 128 := by omega
        have q2 : ¬ n < 2048 := by omega
        simp [putI, h, bytesS, moreF, h3, q1, q2]
      · rw [shr_u8 n 18 (by decide) (by omega) (by omega), or240 _ (by omega) (by omega)]
        have q1 : ¬ n < 128 := by omega
        have q2 : ¬ n < 2048 := by omega
        have q3 : ¬ n < 65536 := by omega
        simp [putI, h, bytesS, moreF, q1, q2, q3]

end Fen

namespace Fen
open Go Go.Proofs

def sizeF (n : Int) : Int := if n < 128 then 1 else if n < 2048 then 2 else if n < 65536 then 3 else 4

def sizeSpec : Spec := { pre := fun args => ∃ n : Int, args = [.c (.int .i64 n)], res := fun args => .one (.val (.c (.int .i64 (sizeF (args.headD default).int)))) }

set_option maxRecDepth 10000 in
theorem size_sound (gl : Gl) : Sound Tryd.prog gl 44 sizeSpec := by
  refine sound_fn (N := Tryd.f44.ntmps) (rs := Tryd.f44.results.toList) mixed tok (SpecsOK.nil _ _) Tryd.func44 rfl rfl rfl rfl rfl ?_ ?_ ?_
  · rintro args ⟨n, rfl⟩; simp [Tryd.f44]
  · rintro args ⟨n, rfl⟩; simp [sizeSpec, Tryd.f44]
  · rintro args ⟨n, rfl⟩ bs hgl hh hro
    simp [sizeSpec, Tryd.f44, sizeF]
    refine ⟨fun h => by simp [h], fun h => ⟨fun h2 => ?_, fun h2 => ⟨fun h3 => ?_, fun h3 => ?_⟩⟩⟩ <;> (repeat' split) <;> first | rfl | omega

def tb (cp : Int) : Nat → List Int
  | 0 => []
  | k + 1 => (128 + cp / 64 ^ k % 64) :: tb cp k

theorem tb_len (cp : Int) (k : Nat) : (tb cp k).length = k := by induction k <;> simp [tb, *]

def GRp : Specs := [(20, checkSpec), (44, sizeSpec)]
@[simp] theorem GRp_22 : GRp.find 20 = some checkSpec := rfl
@[simp] theorem GRp_26 : GRp.find 44 = some sizeSpec := rfl
theorem GRp_ok (gl : Gl) : SpecsOK Tryd.prog gl GRp := .cons (rcheck_sound gl) (.cons (size_sound gl) (.nil _ _))

def rputS (cp : Int) (n : Nat) (k : Nat) : St :=
  ⟨46, [(0, .val (.int .i64 (cp / 64 ^ k))), (3, .val (.int .i64 n)), (4, .ref 0 0), (5, .val (.int .i64 (n - 1 - k : Nat)))], [.sl 3 0 true 1 n (ints .u8 (List.replicate (n - k) 0 ++ tb cp k))]⟩

theorem sizeF_cases (n : Int) (h : 0 ≤ n) (h2 : n ≤ 1114111) : (sizeF n = 1 ∧ n < 128) ∨ ∃ k : Nat, sizeF n = k ∧ 2 ≤ k ∧ k ≤ 4 ∧ (k = 2 → n < 2048 ∧ 128 ≤ n) ∧ (k = 3 → n < 65536 ∧ 2048 ≤ n) ∧ (k = 4 → 65536 ≤ n) := by
  unfold sizeF
  split
  · exact .inl ⟨rfl, ‹_›⟩
  · right
    split
    · exact ⟨2, rfl, by omega, by omega, by omega, by omega, by omega⟩
    · split
      · exact ⟨3, rfl, by omega, by omega, by omega, by omega, by omega⟩
      · exact ⟨4, rfl, by omega, by omega, by omega, by omega, by omega⟩

def putL (cp : Int) : List Int := if cp < 128 then [cp] else if cp < 2048 then [192 + cp / 64, 128 + cp % 64] else if cp < 65536 then [224 + cp / 4096, 128 + cp / 64 % 64, 128 + cp % 64]
  else [240 + cp / 262144, 128 + cp / 4096 % 64, 128 + cp / 64 % 64, 128 + cp % 64]

theorem rput2 (cp : Int) (hc0 : 0 ≤ cp ∧ cp ≤ 1114111) (h : 128 ≤ cp ∧ cp < 2048) :
    [UInt8.ofNat (IntKind.u8.wrap (IntKind.i64.wrap (192 + IntKind.i64.wrap (cp.tdiv 64)))).toNat, UInt8.ofNat (IntKind.u8.wrap (IntKind.i64.wrap (128 + cp.tmod 64))).toNat] = bytesS (putL cp) := by
  have t1 : cp.tdiv 64 = cp / 64 := Int.tdiv_eq_ediv_of_nonneg hc0.1
  have t2 : (cp / 64).tdiv 64 = cp / 64 / 64 := Int.tdiv_eq_ediv_of_nonneg (by omega)
  have t3 : (cp / 64 / 64).tdiv 64 = cp / 64 / 64 / 64 := Int.tdiv_eq_ediv_of_nonneg (by omega)
  have m1 : cp.tmod 64 = cp % 64 := Int.tmod_eq_emod_of_nonneg hc0.1
  have m2 : (cp / 64).tmod 64 = cp / 64 % 64 := Int.tmod_eq_emod_of_nonneg (by omega)
  have m3 : (cp / 64 / 64).tmod 64 = cp / 64 / 64 % 64 := Int.tmod_eq_emod_of_nonneg (by omega)
  have w1 : IntKind.i64.wrap (cp / 64) = cp / 64 := wrap64 _ (by omega) (by omega)
  have w2 : IntKind.i64.wrap (cp / 64 / 64) = cp / 64 / 64 := wrap64 _ (by omega) (by omega)
  have w3 : IntKind.i64.wrap (cp / 64 / 64 / 64) = cp / 64 / 64 / 64 := wrap64 _ (by omega) (by omega)
  have d2 : cp / 64 / 64 = cp / 4096 := by omega
  have d3 : cp / 64 / 64 / 64 = cp / 262144 := by omega
  have a1 : IntKind.i64.wrap (128 + cp % 64) = 128 + cp % 64 := wrap64 _ (by omega) (by omega)
  have a2 : IntKind.i64.wrap (128 + cp / 64 % 64) = 128 + cp / 64 % 64 := wrap64 _ (by omega) (by omega)
  have a3 : IntKind.i64.wrap (128 + cp / 64 / 64 % 64) = 128 + cp / 64 / 64 % 64 := wrap64 _ (by omega) (by omega)
  have b1 : IntKind.u8.wrap (128 + cp % 64) = 128 + cp % 64 := wrap8 _ (by omega) (by omega)
  have b2 : IntKind.u8.wrap (128 + cp / 64 % 64) = 128 + cp / 64 % 64 := wrap8 _ (by omega) (by omega)
  have b3 : IntKind.u8.wrap (128 + cp / 64 / 64 % 64) = 128 + cp / 64 / 64 % 64 := wrap8 _ (by omega) (by omega)
  have f1 : IntKind.i64.wrap (192 + cp / 64) = 192 + cp / 64 := wrap64 _ (by omega) (by omega)
  have f2 : IntKind.u8.wrap (192 + cp / 64) = 192 + cp / 64 := wrap8 _ (by omega) (by omega)
  have q0 : ¬ cp < 128 := by omega
  have q1 : cp < 2048 := by omega
  simp [t1, t2, t3, m1, m2, m3, w1, w2, w3, a1, a2, a3, b1, b2, b3, f1, f2, putL, bytesS, q0, q1]

theorem rput3 (cp : Int) (hc0 : 0 ≤ cp ∧ cp ≤ 1114111) (h : 2048 ≤ cp ∧ cp < 65536) :
    [UInt8.ofNat (IntKind.u8.wrap (IntKind.i64.wrap (224 + IntKind.i64.wrap ((IntKind.i64.wrap (cp.tdiv 64)).tdiv 64)))).toNat, UInt8.ofNat (IntKind.u8.wrap (IntKind.i64.wrap (128 + (IntKind.i64.wrap (cp.tdiv 64)).tmod 64))).toNat, UInt8.ofNat (IntKind.u8.wrap (IntKind.i64.wrap (128 + cp.tmod 64))).toNat] = bytesS (putL cp) := by
  have t1 : cp.tdiv 64 = cp / 64 := Int.tdiv_eq_ediv_of_nonneg hc0.1
  have t2 : (cp / 64).tdiv 64 = cp / 64 / 64 := Int.tdiv_eq_ediv_of_nonneg (by omega)
  have t3 : (cp / 64 / 64).tdiv 64 = cp / 64 / 64 / 64 := Int.tdiv_eq_ediv_of_nonneg (by omega)
  have m1 : cp.tmod 64 = cp % 64 := Int.tmod_eq_emod_of_nonneg hc0.1
  have m2 : (cp / 64).tmod 64 = cp / 64 % 64 := Int.tmod_eq_emod_of_nonneg (by omega)
  have m3 : (cp / 64 / 64).tmod 64 = cp / 64 / 64 % 64 := Int.tmod_eq_emod_of_nonneg (by omega)
  have w1 : IntKind.i64.wrap (cp / 64) = cp / 64 := wrap64 _ (by omega) (by omega)
  have w2 : IntKind.i64.wrap (cp / 64 / 64) = cp / 64 / 64 := wrap64 _ (by omega) (by omega)
  have w3 : IntKind.i64.wrap (cp / 64 / 64 / 64) = cp / 64 / 64 / 64 := wrap64 _ (by omega) (by omega)
  have d2 : cp / 64 / 64 = cp / 4096 := by omega
  have d3 : cp / 64 / 64 / 64 = cp / 262144 := by omega
  have a1 : IntKind.i64.wrap (128 + cp % 64) = 128 + cp % 64 := wrap64 _ (by omega) (by omega)
  have a2 : IntKind.i64.wrap (128 + cp / 64 % 64) = 128 + cp / 64 % 64 := wrap64 _ (by omega) (by omega)
  have a3 : IntKind.i64.wrap (128 + cp / 64 / 64 % 64) = 128 + cp / 64 / 64 % 64 := wrap64 _ (by omega) (by omega)
  have b1 : IntKind.u8.wrap (128 + cp % 64) = 128 + cp % 64 := wrap8 _ (by omega) (by omega)
  have b2 : IntKind.u8.wrap (128 + cp / 64 % 64) = 128 + cp / 64 % 64 := wrap8 _ (by omega) (by omega)
  have b3 : IntKind.u8.wrap (128 + cp / 64 / 64 % 64) = 128 + cp / 64 / 64 % 64 := wrap8 _ (by omega) (by omega)
  have f1 : IntKind.i64.wrap (224 + cp / 64 / 64) = 224 + cp / 64 / 64 := wrap64 _ (by omega) (by omega)
  have f2 : IntKind.u8.wrap (224 + cp / 64 / 64) = 224 + cp / 64 / 64 := wrap8 _ (by omega) (by omega)
  have q0 : ¬ cp < 128 := by omega
  have q1 : ¬ cp < 2048 := by omega
  have q2 : cp < 65536 := by omega
  simp [t1, t2, t3, m1, m2, m3, w1, w2, w3, a1, a2, a3, b1, b2, b3, f1, f2, putL, bytesS, q0, q1, q2]
  rw [d2]

theorem rput4 (cp : Int) (hc0 : 0 ≤ cp ∧ cp ≤ 1114111) (h : 65536 ≤ cp) :
    [UInt8.ofNat (IntKind.u8.wrap (IntKind.i64.wrap (240 + IntKind.i64.wrap ((IntKind.i64.wrap ((IntKind.i64.wrap (cp.tdiv 64)).tdiv 64)).tdiv 64)))).toNat, UInt8.ofNat (IntKind.u8.wrap (IntKind.i64.wrap (128 + (IntKind.i64.wrap ((IntKind.i64.wrap (cp.tdiv 64)).tdiv 64)).tmod 64))).toNat, UInt8.ofNat (IntKind.u8.wrap (IntKind.i64.wrap (128 + (IntKind.i64.wrap (cp.tdiv 64)).tmod 64))).toNat, UInt8.ofNat (IntKind.u8.wrap (IntKind.i64.wrap (128 + cp.tmod 64))).toNat] = bytesS (putL cp) := by
  have t1 : cp.tdiv 64 = cp / 64 := Int.tdiv_eq_ediv_of_nonneg hc0.1
  have t2 : (cp / 64).tdiv 64 = cp / 64 / 64 := Int.tdiv_eq_ediv_of_nonneg (by omega)
  have t3 : (cp / 64 / 64).tdiv 64 = cp / 64 / 64 / 64 := Int.tdiv_eq_ediv_of_nonneg (by omega)
  have m1 : cp.tmod 64 = cp % 64 := Int.tmod_eq_emod_of_nonneg hc0.1
  have m2 : (cp / 64).tmod 64 = cp / 64 % 64 := Int.tmod_eq_emod_of_nonneg (by omega)
  have m3 : (cp / 64 / 64).tmod 64 = cp / 64 / 64 % 64 := Int.tmod_eq_emod_of_nonneg (by omega)
  have w1 : IntKind.i64.wrap (cp / 64) = cp / 64 := wrap64 _ (by omega) (by omega)
  have w2 : IntKind.i64.wrap (cp / 64 / 64) = cp / 64 / 64 := wrap64 _ (by omega) (by omega)
  have w3 : IntKind.i64.wrap (cp / 64 / 64 / 64) = cp / 64 / 64 / 64 := wrap64 _ (by omega) (by omega)
  have d2 : cp / 64 / 64 = cp / 4096 := by omega
  have d3 : cp / 64 / 64 / 64 = cp / 262144 := by omega
  have a1 : IntKind.i64.wrap (128 + cp % 64) = 128 + cp % 64 := wrap64 _ (by omega) (by omega)
  have a2 : IntKind.i64.wrap (128 + cp / 64 % 64) = 128 + cp / 64 % 64 := wrap64 _ (by omega) (by omega)
  have a3 : IntKind.i64.wrap (128 + cp / 64 / 64 % 64) = 128 + cp / 64 / 64 % 64 := wrap64 _ (by omega) (by omega)
  have b1 : IntKind.u8.wrap (128 + cp % 64) = 128 + cp % 64 := wrap8 _ (by omega) (by omega)
  have b2 : IntKind.u8.wrap (128 + cp / 64 % 64) = 128 + cp / 64 % 64 := wrap8 _ (by omega) (by omega)
  have b3 : IntKind.u8.wrap (128 + cp / 64 / 64 % 64) = 128 + cp / 64 / 64 % 64 := wrap8 _ (by omega) (by omega)
  have f1 : IntKind.i64.wrap (240 + cp / 64 / 64 / 64) = 240 + cp / 64 / 64 / 64 := wrap64 _ (by omega) (by omega)
  have f2 : IntKind.u8.wrap (240 + cp / 64 / 64 / 64) = 240 + cp / 64 / 64 / 64 := wrap8 _ (by omega) (by omega)
  have q0 : ¬ cp < 128 := by omega
  have q1 : ¬ cp < 2048 := by omega
  have q2 : ¬ cp < 65536 := by omega
  simp [t1, t2, t3, m1, m2, m3, w1, w2, w3, a1, a2, a3, b1, b2, b3, f1, f2, putL, bytesS, q0, q1, q2]
  exact ⟨by rw [d3], by rw [d2]⟩

set_option maxRecDepth 10000 in
theorem rput_sound (gl : Gl) : Sound Tryd.prog gl 35 putSpec := by
  refine sound_fn (N := Tryd.f35.ntmps) (rs := Tryd.f35.results.toList) mixed tok (GRp_ok gl) Tryd.func35 rfl rfl rfl rfl rfl ?_ ?_ ?_
  · rintro args ⟨n, rfl, hn⟩; simp [Tryd.f35]
  · rintro args ⟨n, rfl, hn⟩; simp [putSpec, Tryd.f35]
  · rintro args ⟨n, rfl, hn⟩ bs hgl hh hro
    obtain ⟨cp, hcp⟩ : ∃ cp, cp = if checkF n = true then n else 65533 := ⟨_, rfl⟩
    have hc0 : 0 ≤ cp ∧ cp ≤ 1114111 := by
      rw [hcp]; split
      · rename_i h; rw [checkF_iff] at h; exact ⟨h.1, h.2.1⟩
      · omega
    have hput : putI n = putL cp := by rw [hcp]; rfl
    simp [putSpec, Tryd.f35, checkSpec, hn]
    have hE : Env.OK ⟨Tryd.prog, T, GRp, bs⟩ := ⟨tok, by rw [hgl]; exact GRp_ok gl⟩
    rw [hput]
    refine ⟨fun h => ?_, fun h => ?_⟩
    · have e0 : cp = 65533 := by rw [hcp, h]; rfl
      rw [← e0]
      clear hput hcp e0 h hn
      rcases sizeF_cases cp hc0.1 hc0.2 with ⟨e, hl⟩ | ⟨k, e, h1, h2, h3, h4, h5⟩
      · have : IntKind.u8.wrap cp = cp := wrap8 _ hc0.1 (by omega)
        simp [sizeSpec, e, this, putL, hl, bytesS]
      · obtain rfl | rfl | rfl : k = 2 ∨ k = 3 ∨ k = 4 := by omega
        · simp [sizeSpec, e]
          refine AWP.unroll hE mixed 2 ?_
          simp
          exact rput2 cp hc0 (by omega)
        · simp [sizeSpec, e]
          refine AWP.unroll hE mixed 3 ?_
          simp
          exact rput3 cp hc0 (by omega)
        · simp [sizeSpec, e]
          refine AWP.unroll hE mixed 4 ?_
          simp
          exact rput4 cp hc0 (by omega)
    · have e0 : cp = n := by rw [hcp, if_pos h]
      rw [← e0]
      clear hput hcp e0 h hn
      rcases sizeF_cases cp hc0.1 hc0.2 with ⟨e, hl⟩ | ⟨k, e, h1, h2, h3, h4, h5⟩
      · have : IntKind.u8.wrap cp = cp := wrap8 _ hc0.1 (by omega)
        simp [sizeSpec, e, this, putL, hl, bytesS]
      · obtain rfl | rfl | rfl : k = 2 ∨ k = 3 ∨ k = 4 := by omega
        · simp [sizeSpec, e]
          refine AWP.unroll hE mixed 2 ?_
          simp
          exact rput2 cp hc0 (by omega)
        · simp [sizeSpec, e]
          refine AWP.unroll hE mixed 3 ?_
          simp
          exact rput3 cp hc0 (by omega)
        · simp [sizeSpec, e]
          refine AWP.unroll hE mixed 4 ?_
          simp
          exact rput4 cp hc0 (by omega)

end Fen

namespace Fen
open Go Go.Proofs

def firstF (b : Int) : Int × Int := if b < 128 then (1, b) else if 192 ≤ b ∧ b < 224 then (2, b - 192) else if 224 ≤ b ∧ b < 240 then (3, b - 224) else if 240 ≤ b ∧ b < 248 then (4, b - 240) else (0, 0)

def firstSpec : Spec := { pre := fun args => ∃ b : Int, args = [.c (.int .u8 b)] ∧ 0 ≤ b ∧ b < 256, res := fun args => .many [.val (.c (.int .i64 (firstF (args.headD default).int).1)), .val (.c (.int .i64 (firstF (args.headD default).int).2))] }

theorem wrapB (b c : Int) (h : 0 ≤ b ∧ b < 256) (hc : 0 ≤ c ∧ c < 256) : IntKind.i64.wrap (b - c) = b - c := wrap64 _ (by omega) (by omega)

set_option maxRecDepth 10000 in
theorem first_sound (gl : Gl) : Sound Tryd.prog gl 49 firstSpec := by
  refine sound_fn (N := Tryd.f49.ntmps) (rs := Tryd.f49.results.toList) mixed tok (SpecsOK.nil _ _) Tryd.func49 rfl rfl rfl rfl rfl ?_ ?_ ?_
  · rintro args ⟨n, rfl, h0, h1⟩; simp [Tryd.f49]
  · rintro args ⟨n, rfl, h0, h1⟩; simp [firstSpec, Tryd.f49]
  · rintro args ⟨n, rfl, h0, h1⟩ bs hgl hh hro
    have w0 : IntKind.i64.wrap n = n := wrap64 _ (by omega) (by omega)
    have w1 : IntKind.i64.wrap (n - 192) = n - 192 := wrap64 _ (by omega) (by omega)
    have w2 : IntKind.i64.wrap (n - 224) = n - 224 := wrap64 _ (by omega) (by omega)
    have w3 : IntKind.i64.wrap (n - 240) = n - 240 := wrap64 _ (by omega) (by omega)
    simp [firstSpec, Tryd.f49, w0, w1, w2, w3]
    unfold firstF
    (repeat' split) <;> simp_all <;> omega

def spanGo : Nat → Int → Int → List Int → Option (Int × Int)
  | 0, low, high, _ => some (low, high)
  | k + 1, low, high, [] => spanGo k (low * 64) (high * 64 + 63) []
  | k + 1, low, high, b :: l => if b < 128 ∨ 191 < b then none else spanGo k (low * 64 + (b - 128)) (high * 64 + (b - 128)) l

def spanK (n len : Int) : Option (Int × Int) → Int × Int × Int
  | none => (0, 0, 0)
  | some r => if n < len then (0, 0, 0) else (r.1, r.2, n)

def spanF (p : List Int) : Int × Int × Int :=
  match p with
  | [] => (0, 0, 0)
  | b :: l => spanK (firstF b).1 ((l.length : Int) + 1) (spanGo ((firstF b).1.toNat - 1) (firstF b).2 (firstF b).2 l)

def spanSpec : Spec := { pre := fun args => ∃ p : List Int, args = [bytesV p] ∧ Bytes p ∧ p.length ≤ 4294967296, res := fun args => .many [.val (.c (.int .i64 (spanF (args.headD default).ints).1)), .val (.c (.int .i64 (spanF (args.headD default).ints).2.1)), .val (.c (.int .i64 (spanF (args.headD default).ints).2.2))] }

def GSp : Specs := [(49, firstSpec)]
@[simp] theorem GSp_37 : GSp.find 49 = some firstSpec := rfl
theorem GSp_ok (gl : Gl) : SpecsOK Tryd.prog gl GSp := .cons (first_sound gl) (.nil _ _)

def spanS (p : List Int) (n : Int) (x : Nat × List Int × Nat × Int × Int) : St :=
  ⟨67, [(0, .val (.sl p.length (ints .u8 p))), (5, .val (.int .i64 n)), (6, .val (.int .i64 x.2.2.2.1)), (7, .val (.int .i64 x.2.2.2.2)), (8, .val (.int .i64 x.1))], []⟩

theorem firstF_range (b : Int) (h : 0 ≤ b ∧ b < 256) : 0 ≤ (firstF b).1 ∧ (firstF b).1 ≤ 4 ∧ 0 ≤ (firstF b).2 ∧ (firstF b).2 < 128 := by
  unfold firstF
  (repeat' split) <;> simp <;> omega

set_option maxRecDepth 10000 in
theorem span_sound (gl : Gl) : Sound Tryd.prog gl 43 spanSpec := by
  refine sound_fn (N := Tryd.f43.ntmps) (rs := Tryd.f43.results.toList) mixed tok (GSp_ok gl) Tryd.func43 rfl rfl rfl rfl rfl ?_ ?_ ?_
  · rintro args ⟨p, rfl, h0, h1⟩; simp [Tryd.f43]
  · rintro args ⟨p, rfl, h0, h1⟩; simp [spanSpec, Tryd.f43]
  · rintro args ⟨p, rfl, h0, h1⟩ bs hgl hh hro
    have hE : Env.OK ⟨Tryd.prog, T, GSp, bs⟩ := ⟨tok, by rw [hgl]; exact GSp_ok gl⟩
    cases p with
    | nil => simp [spanSpec, Tryd.f43, spanF]
    | cons b l =>
      obtain ⟨hb, hl⟩ := h0.cons
      obtain ⟨r1, r2, r3, r4⟩ := firstF_range b hb
      simp at h1
      simp [spanSpec, firstSpec, Tryd.f43, spanF, hb]
      generalize hn : (firstF b).1 = n at *
      generalize hm : (firstF b).2 = m at *
      by_cases hn0 : n = 0
      · subst hn0
        refine AWP.unroll hE mixed 1 ?_
        simp [spanGo, spanK]
      · have pw : ∀ j : Nat, (64 : Int) ^ j ≥ 1 := fun j => by exact_mod_cast Nat.one_le_pow _ _ (by decide)
        refine AWP.rounds (fun x : Nat × List Int × Nat × Int × Int => (b :: l).drop x.1 = x.2.1 ∧ (x.1 : Int) + x.2.2.1 = n ∧ 0 < x.1 ∧ spanGo (n.toNat - 1) m m l = spanGo x.2.2.1 x.2.2.2.1 x.2.2.2.2 x.2.1 ∧ (0 ≤ x.2.2.2.1 ∧ x.2.2.2.1 < 128 * 64 ^ (x.1 - 1)) ∧ (0 ≤ x.2.2.2.2 ∧ x.2.2.2.2 < 128 * 64 ^ (x.1 - 1)))
          (spanS (b :: l) n) (fun x => x.2.2.1) (1, l, n.toNat - 1, m, m) ⟨rfl, by simp only; omega, Nat.one_pos, rfl, by simp; omega, by simp; omega⟩ ?_ ?_
        · refine Weak.keep ?_
          simp [spanS]
        · rintro ⟨i, rest, k, lo, hi⟩ ⟨hx, hik, hi0, hg, hlo, hhi⟩
          simp only at hx hik hi0 hg hlo hhi
          refine wpc_ok hE mixed _ _ _ ?_
          cases k with
          | zero =>
            have hik : (i : Int) = n := by simpa using hik
            simp [spanGo] at hg
            simp [spanS, hik, hg, spanK]
            refine ⟨fun h => by simp [h], fun h => ?_⟩
            have : ¬ n < (l.length : Int) + 1 := by omega
            simp [this]
          | succ k =>
            have hin : (i : Int) < n := by omega
            have hi4 : i ≤ 3 := by omega
            have hp : (64 : Int) ^ (i - 1) ≤ 64 ^ 2 := by exact_mod_cast Nat.pow_le_pow_right (by decide) (by omega)
            have hp2 : (64 : Int) ^ (i + 1 - 1) = 64 * 64 ^ (i - 1) := by
              have : i + 1 - 1 = (i - 1) + 1 := by omega
              rw [this, Int.pow_succ, Int.mul_comm]
            have w1 : IntKind.i64.wrap (lo * 64) = lo * 64 := wrap64 _ (by omega) (by omega)
            have w2 : IntKind.i64.wrap (hi * 64) = hi * 64 := wrap64 _ (by omega) (by omega)
            have w3 : IntKind.i64.wrap (hi * 64 + 63) = hi * 64 + 63 := wrap64 _ (by omega) (by omega)
            have w4 : IntKind.i64.wrap (i + 1) = i + 1 := wrap64 _ (by omega) (by omega)
            cases rest with
            | nil =>
              have hlen : ¬ (i : Int) < (l.length : Int) + 1 := by have := congrArg List.length hx; simp at this; omega
              simp [spanGo] at hg
              simp [spanS, hin, w1, w2, w3, w4, hlen]
              refine Next.mk (i + 1, [], k, lo * 64, hi * 64 + 63) ⟨?_, by simp only; omega, by simp, hg, by simp only; omega, by simp only; omega⟩ (by simp) (Weak.keep ?_)
              · simp only; apply List.drop_eq_nil_of_le; simp; omega
              · simp [spanS]
            | cons c rest =>
              have hlen : (i : Int) < (l.length : Int) + 1 := by have := congrArg List.length hx; simp at this; omega
              have hc : 0 ≤ c ∧ c < 256 := h0 c (List.mem_of_mem_drop (i := i) (by rw [hx]; simp))
              have hx2 : (b :: l).drop (i + 1) = rest := by
                have := congrArg List.tail hx
                simpa using this
              have w5 : IntKind.i64.wrap c = c := wrap64 _ (by omega) (by omega)
              have w6 : IntKind.i64.wrap (c - 128) = c - 128 := wrap64 _ (by omega) (by omega)
              have w7 : IntKind.i64.wrap (lo * 64 + (c - 128)) = lo * 64 + (c - 128) := wrap64 _ (by omega) (by omega)
              have w8 : IntKind.i64.wrap (hi * 64 + (c - 128)) = hi * 64 + (c - 128) := wrap64 _ (by omega) (by omega)
              simp [spanGo] at hg
              simp [spanS, hin, w1, w2, w3, w4, w5, w6, w7, w8, hlen, hx]
              refine ⟨fun h => ?_, fun h1 h2 => ?_⟩
              · rw [if_pos h] at hg
                simp [hg, spanK]
              · have hn : ¬ (c < 128 ∨ 191 < c) := by omega
                rw [if_neg hn] at hg
                refine Next.mk (i + 1, rest, k, lo * 64 + (c - 128), hi * 64 + (c - 128)) ⟨hx2, by simp only; omega, by simp, hg, by simp only; omega, by simp only; omega⟩ (by simp) (Weak.keep ?_)
                simp [spanS]

theorem spanGo_bounds : ∀ (k : Nat) (lo hi : Int) (l : List Int) (r : Int × Int) (B : Int), Bytes l → 0 ≤ lo → lo ≤ hi → hi < B → spanGo k lo hi l = some r → 0 ≤ r.1 ∧ r.1 ≤ r.2 ∧ r.2 < B * 64 ^ k
  | 0, lo, hi, l, r, B, _, h0, h1, h2, e => by
    simp [spanGo] at e; subst e; simp; omega
  | k + 1, lo, hi, [], r, B, hb, h0, h1, h2, e => by
    simp only [spanGo] at e
    have := spanGo_bounds k (lo * 64) (hi * 64 + 63) [] r (B * 64) hb (by omega) (by omega) (by omega) e
    rw [Int.pow_succ, Int.mul_comm (64 ^ k), ← Int.mul_assoc]
    exact this
  | k + 1, lo, hi, b :: l, r, B, hb, h0, h1, h2, e => by
    simp only [spanGo] at e
    split at e
    · cases e
    · have := spanGo_bounds k (lo * 64 + (b - 128)) (hi * 64 + (b - 128)) l r (B * 64) hb.cons.2 (by omega) (by omega) (by omega) e
      rw [Int.pow_succ, Int.mul_comm (64 ^ k), ← Int.mul_assoc]
      exact this

theorem spanF_bounds {p : List Int} (h : Bytes p) : (spanF p).2.2 = 0 ∨ ((spanF p).2.2 = 1 ∨ (spanF p).2.2 = 2 ∨ (spanF p).2.2 = 3 ∨ (spanF p).2.2 = 4) ∧ 0 ≤ (spanF p).1 ∧ (spanF p).1 ≤ (spanF p).2.1 ∧ (spanF p).2.1 < 33554432 := by
  cases p with
  | nil => simp [spanF]
  | cons b l =>
    obtain ⟨r1, r2, r3, r4⟩ := firstF_range b h.cons.1
    simp only [spanF]
    cases e : spanGo ((firstF b).1.toNat - 1) (firstF b).2 (firstF b).2 l with
    | none => simp [spanK]
    | some r =>
      have := spanGo_bounds _ _ _ _ _ 128 h.cons.2 r3 (Int.le_refl _) r4 e
      have hp : (64 : Int) ^ ((firstF b).1.toNat - 1) ≤ 64 ^ 3 := by exact_mod_cast Nat.pow_le_pow_right (by decide) (by omega)
      simp only [spanK]
      split
      · simp
      · simp only
        omega

def leastF (n : Int) : Int := if n = 1 then 0 else if n = 2 then 128 else if n = 3 then 2048 else 65536
def mostF (n : Int) : Int := if n = 1 then 127 else if n = 2 then 2047 else if n = 3 then 65535 else 1114111
theorem dlt (a b : Int) : decide (a < b) = !decide (b ≤ a) := by by_cases h : b ≤ a <;> simp [h]; omega

def maxI (a b : Int) : Int := if a < b then b else a
def minI (a b : Int) : Int := if b < a then b else a
def isF (lo hi n : Int) : Bool := decide (maxI lo (leastF n) ≤ minI hi (mostF n)) && (!decide (55296 ≤ maxI lo (leastF n)) || !decide (minI hi (mostF n) ≤ 57343))
def goesF (p : List Int) : Bool × Bool :=
  if (spanF p).2.2 = 0 then (false, false) else (isF (spanF p).1 (spanF p).2.1 (spanF p).2.2, isF (spanF p).1 (spanF p).2.1 (spanF p).2.2 && (p.length : Int) == (spanF p).2.2)

def goesSpec : Spec := { pre := fun args => ∃ p : List Int, args = [bytesV p] ∧ Bytes p ∧ p.length ≤ 4294967296, res := fun args => .many [.val (.c (.bool (goesF (args.headD default).ints).1)), .val (.c (.bool (goesF (args.headD default).ints).2))] }

def GGo : Specs := [(43, spanSpec)]
@[simp] theorem GGo_30 : GGo.find 43 = some spanSpec := rfl
theorem GGo_ok (gl : Gl) : SpecsOK Tryd.prog gl GGo := .cons (span_sound gl) (.nil _ _)

set_option maxRecDepth 10000 in
theorem goes_sound (gl : Gl) : Sound Tryd.prog gl 42 goesSpec := by
  refine sound_fn (N := Tryd.f42.ntmps) (rs := Tryd.f42.results.toList) mixed tok (GGo_ok gl) Tryd.func42 rfl rfl rfl rfl rfl ?_ ?_ ?_
  · rintro args ⟨p, rfl, h0, h1⟩; simp [Tryd.f42]
  · rintro args ⟨p, rfl, h0, h1⟩; simp [goesSpec, Tryd.f42]
  · rintro args ⟨p, rfl, h0, h1⟩ bs hgl hh hro
    simp [goesSpec, spanSpec, Tryd.f42, h0, h1, and_assoc]
    refine ⟨fun h => by simp [goesF, h], fun h => ?_⟩
    rcases spanF_bounds h0 with hz | ⟨hn, h2, h3, h4⟩
    · exact absurd hz h
    · generalize hs : spanF p = s at *
      obtain ⟨lo, hi, n⟩ := s
      simp only at hn h2 h3 h4 h
      rcases hn with rfl | rfl | rfl | rfl
      all_goals
        simp [goesF, hs, isF, leastF, mostF, maxI, minI]
        refine ⟨by decide, fun h => ⟨h, fun h2 => ⟨h, h2⟩⟩, ?_⟩
        simp only [dlt]

def rrightF (p : List Int) : Bool := p.isEmpty || ((goesF p).1 && !(goesF p).2)

def rrightSpec : Spec := { pre := fun args => ∃ p : List Int, args = [bytesV p] ∧ Bytes p ∧ p.length ≤ 4294967296, res := fun args => .one (.val (.c (.bool (rrightF (args.headD default).ints)))) }

set_option maxRecDepth 10000 in
theorem rright_sound (gl : Gl) : Sound Tryd.prog gl 41 rrightSpec := by
  refine sound_fn (N := Tryd.f41.ntmps) (rs := Tryd.f41.results.toList) mixed tok (SpecsOK.cons (goes_sound gl) (SpecsOK.nil _ gl)) Tryd.func41 rfl rfl rfl rfl rfl ?_ ?_ ?_
  · rintro args ⟨p, rfl, h1, h2⟩; simp [Tryd.f41]
  · rintro args ⟨p, rfl, h1, h2⟩; simp [rrightSpec, Tryd.f41]
  · rintro args ⟨p, rfl, h1, h2⟩ bs hgl hh hro
    cases p with
    | nil => simp [rrightSpec, goesSpec, Tryd.f41, rrightF, h1, and_assoc]
    | cons b q =>
      simp at h2
      simp [rrightSpec, goesSpec, Tryd.f41, rrightF, h1, h2, and_assoc]

def rflushF (p : List Int) : List Int := if p ≠ [] ∧ rrightF p = true then [65533] else []

def rflushSpec : Spec := { pre := fun args => ∃ p : List Int, args = [bytesV p] ∧ Bytes p ∧ p.length ≤ 4294967296, res := fun args => .one (.val (intsV (rflushF (args.headD default).ints))) }

set_option maxRecDepth 10000 in
theorem rflush_sound (gl : Gl) : Sound Tryd.prog gl 34 rflushSpec := by
  refine sound_fn (N := Tryd.f34.ntmps) (rs := Tryd.f34.results.toList) mixed tok (SpecsOK.cons (rright_sound gl) (SpecsOK.nil _ gl)) Tryd.func34 rfl rfl rfl rfl rfl ?_ ?_ ?_
  · rintro args ⟨p, rfl, h1, h2⟩; simp [Tryd.f34]
  · rintro args ⟨p, rfl, h1, h2⟩; simp [rflushSpec, Tryd.f34]
  · rintro args ⟨p, rfl, h1, h2⟩ bs hgl hh hro
    cases p with
    | nil => simp [rrightSpec, rflushSpec, Tryd.f34, rflushF]
    | cons b q =>
      simp at h2
      simp [rrightSpec, rflushSpec, Tryd.f34, rflushF, and_assoc, h1]
      exact ⟨by omega, fun h => by simp [h], fun h => by simp [h]⟩

end Fen

namespace Fen
open Go Go.Proofs

def rstep0 (b : Int) : List Int × List Int :=
  if (goesF [b]).2 = true then ([], [(spanF [b]).1]) else if (goesF [b]).1 = true then ([b], []) else ([], [65533])

def rstepP (p : List Int) (b : Int) : List Int × List Int :=
  if (goesF (p ++ [b])).2 = true then ([], [(spanF (p ++ [b])).1]) else if (goesF (p ++ [b])).1 = true then (p ++ [b], []) else ((rstep0 b).1, 65533 :: (rstep0 b).2)

def rstepF (p : List Int) (b : Int) : List Int × List Int := if p = [] ∨ rrightF p = false then rstep0 b else rstepP p b

def rstep0Spec : Spec := { pre := fun args => ∃ b : Int, args = [bytesV [], .c (.int .u8 b)] ∧ 0 ≤ b ∧ b < 256, res := fun args => .many [.val (bytesV (rstep0 (args.getD 1 default).int).1), .val (intsV (rstep0 (args.getD 1 default).int).2)] }

def GRs : Specs := [(41, rrightSpec), (42, goesSpec), (43, spanSpec)]
@[simp] theorem GRs_11 : GRs.find 41 = some rrightSpec := rfl
@[simp] theorem GRs_28 : GRs.find 42 = some goesSpec := rfl
@[simp] theorem GRs_30 : GRs.find 43 = some spanSpec := rfl
theorem GRs_ok (gl : Gl) : SpecsOK Tryd.prog gl GRs := .cons (rright_sound gl) (.cons (goes_sound gl) (.cons (span_sound gl) (.nil _ _)))

set_option maxRecDepth 10000 in
theorem rstep0_sound (gl : Gl) : Sound Tryd.prog gl 33 rstep0Spec := by
  refine sound_fn (N := Tryd.f33.ntmps) (rs := Tryd.f33.results.toList) mixed tok (GRs_ok gl) Tryd.func33 rfl rfl rfl rfl rfl ?_ ?_ ?_
  · rintro args ⟨b, rfl, h0, h1⟩; simp [Tryd.f33]
  · rintro args ⟨b, rfl, h0, h1⟩; simp [rstep0Spec, Tryd.f33]
  · rintro args ⟨b, rfl, h0, h1⟩ bs hgl hh hro
    have hb : Bytes [b] := Bytes.mk ⟨h0, h1⟩ Bytes.nil
    simp [rstep0Spec, Tryd.f33, rrightSpec, goesSpec, spanSpec, rrightF, rstep0, hb, and_assoc, Bytes.nil]
    refine ⟨fun h => by simp [h], fun h => ⟨fun h' => by simp [h, h'], fun h' => by simp [h, h']⟩⟩

def rstepSpec : Spec := { pre := fun args => ∃ (p : List Int) (b : Int), args = [bytesV p, .c (.int .u8 b)] ∧ Bytes p ∧ p.length ≤ 4294967295 ∧ 0 ≤ b ∧ b < 256, res := fun args => .many [.val (bytesV (rstepF (args.headD default).ints (args.getD 1 default).int).1), .val (intsV (rstepF (args.headD default).ints (args.getD 1 default).int).2)] }

def GRu : Specs := (33, rstep0Spec) :: GRs
@[simp] theorem GRu_11 : GRu.find 41 = some rrightSpec := rfl
@[simp] theorem GRu_28 : GRu.find 42 = some goesSpec := rfl
@[simp] theorem GRu_30 : GRu.find 43 = some spanSpec := rfl
@[simp] theorem GRu_16 : GRu.find 33 = some rstep0Spec := rfl
theorem GRu_ok (gl : Gl) : SpecsOK Tryd.prog gl GRu := .cons (rstep0_sound gl) (GRs_ok gl)

set_option maxRecDepth 10000 in
theorem rstep_sound (gl : Gl) : Sound Tryd.prog gl 33 rstepSpec := by
  refine sound_fn (N := Tryd.f33.ntmps) (rs := Tryd.f33.results.toList) mixed tok (GRu_ok gl) Tryd.func33 rfl rfl rfl rfl rfl ?_ ?_ ?_
  · rintro args ⟨p, b, rfl, h0, h1, h2, h3⟩; simp [Tryd.f33]
  · rintro args ⟨p, b, rfl, h0, h1, h2, h3⟩; simp [rstepSpec, Tryd.f33]
  · rintro args ⟨p, b, rfl, h0, h1, h2, h3⟩ bs hgl hh hro
    have hb : Bytes [b] := Bytes.mk ⟨h2, h3⟩ Bytes.nil
    have hs0 : (rstep0 b).2.length ≤ 1 := by unfold rstep0; (repeat' split) <;> simp
    have hpb : Bytes (p ++ [b]) := h0.app hb
    simp [rstepSpec, rstep0Spec, Tryd.f33, rrightSpec, goesSpec, spanSpec, rstepF, hb, hpb, h0, h2, h3, and_assoc, Bytes.nil]
    refine ⟨by omega, fun hr => ?_, fun hr => ?_⟩
    · simp only [hr, or_true, if_true, rstep0]
      refine ⟨fun h => by simp [h], fun h => ⟨fun h' => by simp [h, h'], fun h' => by simp [h, h']⟩⟩
    · simp only [hr, or_false, Bool.true_eq_false]
      refine ⟨by omega, by omega, by omega, by omega, by omega, fun h => ⟨by omega, ?_⟩, fun h => ⟨fun h' => ?_, fun h' => ⟨fun hp => ?_, fun hp => ⟨by omega, by omega, ?_⟩⟩⟩⟩
      · by_cases hp : p = []
        · subst hp; simp at h; simp [rstep0, h]
        · simp [hp, rstepP, h]
      · by_cases hp : p = []
        · subst hp; simp at h h'; simp [rstep0, h, h']
        · simp [hp, rstepP, h, h']
      · subst hp; simp at h h'; simp [rstep0, h, h']
      · simp [hp, rstepP, h, h']
        omega
end Fen

namespace Fen

/-- what a first byte says, in both texts -/
theorem cls (b : Int) (h : 0 ≤ b ∧ b < 256) :
    (b < 128 ∧ lengthF b = 1 ∧ firstF b = (1, b)) ∨ (128 ≤ b ∧ b < 192 ∧ lengthF b = 0 ∧ firstF b = (0, 0)) ∨ (192 ≤ b ∧ b < 194 ∧ lengthF b = 0 ∧ firstF b = (2, b - 192)) ∨
    (194 ≤ b ∧ b < 224 ∧ lengthF b = 2 ∧ secondF b = (128, 191) ∧ firstF b = (2, b - 192)) ∨
    (b = 224 ∧ lengthF b = 3 ∧ secondF b = (160, 191) ∧ firstF b = (3, 0)) ∨ (224 < b ∧ b < 240 ∧ b ≠ 237 ∧ lengthF b = 3 ∧ secondF b = (128, 191) ∧ firstF b = (3, b - 224)) ∨ (b = 237 ∧ lengthF b = 3 ∧ secondF b = (128, 159) ∧ firstF b = (3, 13)) ∨
    (b = 240 ∧ lengthF b = 4 ∧ secondF b = (144, 191) ∧ firstF b = (4, 0)) ∨ (240 < b ∧ b < 244 ∧ lengthF b = 4 ∧ secondF b = (128, 191) ∧ firstF b = (4, b - 240)) ∨ (b = 244 ∧ lengthF b = 4 ∧ secondF b = (128, 143) ∧ firstF b = (4, 4)) ∨
    (244 < b ∧ b < 248 ∧ lengthF b = 0 ∧ firstF b = (4, b - 240)) ∨ (248 ≤ b ∧ lengthF b = 0 ∧ firstF b = (0, 0)) := by
  unfold lengthF secondF firstF
  by_cases h1 : b < 128
  · left; refine ⟨h1, ?_, ?_⟩ <;> (repeat' split) <;> first | rfl | omega
  right
  by_cases h2 : b < 192
  · left; refine ⟨by omega, h2, ?_, ?_⟩ <;> (repeat' split) <;> first | rfl | omega
  right
  by_cases h3 : b < 194
  · left; refine ⟨by omega, h3, ?_, ?_⟩ <;> (repeat' split) <;> first | rfl | omega
  right
  by_cases h4 : b < 224
  · left; refine ⟨by omega, h4, ?_, ?_, ?_⟩ <;> (repeat' split) <;> first | rfl | omega
  right
  by_cases h5 : b = 224
  · left; subst h5; decide
  right
  by_cases h6 : b < 240 ∧ b ≠ 237
  · left; refine ⟨by omega, h6.1, h6.2, ?_, ?_, ?_⟩ <;> (repeat' split) <;> first | rfl | omega
  right
  by_cases h7 : b = 237
  · left; subst h7; decide
  right
  by_cases h8 : b = 240
  · left; subst h8; decide
  right
  by_cases h9 : b < 244
  · left; refine ⟨by omega, h9, ?_, ?_, ?_⟩ <;> (repeat' split) <;> first | rfl | omega
  right
  by_cases h10 : b = 244
  · left; subst h10; decide
  right
  by_cases h11 : b < 248
  · left; refine ⟨by omega, h11, ?_, ?_⟩ <;> (repeat' split) <;> first | rfl | omega
  · right; refine ⟨by omega, ?_, ?_⟩ <;> (repeat' split) <;> first | rfl | omega

def Rel2 (p : List Int) : Prop := (kindF p = 2 → goesF p = (true, true) ∧ codeF p = (spanF p).1) ∧ (kindF p = 1 → goesF p = (true, false)) ∧ (kindF p = 0 → goesF p = (false, false))

theorem goes_of {p : List Int} {lo hi n : Int} (hs : spanF p = (lo, hi, n)) (hn : n ≠ 0) : goesF p = (isF lo hi n, isF lo hi n && (p.length : Int) == n) := by simp [goesF, hs, hn]
theorem goes_no {p : List Int} (hs : (spanF p).2.2 = 0) : goesF p = (false, false) := by simp [goesF, hs]
theorem maxI_le (a b x : Int) : maxI a b ≤ x ↔ a ≤ x ∧ b ≤ x := by unfold maxI; split <;> omega
theorem le_maxI (a b x : Int) : x ≤ maxI a b ↔ x ≤ a ∨ x ≤ b := by unfold maxI; split <;> omega
theorem minI_le (a b x : Int) : minI a b ≤ x ↔ a ≤ x ∨ b ≤ x := by unfold minI; split <;> omega
theorem le_minI (a b x : Int) : x ≤ minI a b ↔ x ≤ a ∧ x ≤ b := by unfold minI; split <;> omega
theorem isF_iff (lo hi n : Int) : isF lo hi n = true ↔ (lo ≤ hi ∧ lo ≤ mostF n ∧ leastF n ≤ hi ∧ leastF n ≤ mostF n) ∧ ¬ ((55296 ≤ lo ∨ 55296 ≤ leastF n) ∧ (hi ≤ 57343 ∨ mostF n ≤ 57343)) := by
  have e : isF lo hi n = true ↔ maxI lo (leastF n) ≤ minI hi (mostF n) ∧ ¬ (55296 ≤ maxI lo (leastF n) ∧ minI hi (mostF n) ≤ 57343) := by
    unfold isF
    by_cases h1 : maxI lo (leastF n) ≤ minI hi (mostF n) <;> by_cases h2 : 55296 ≤ maxI lo (leastF n) <;> by_cases h3 : minI hi (mostF n) ≤ 57343 <;> simp [h1, h2, h3]
  rw [e, maxI_le, le_minI, le_minI, le_maxI, minI_le]
  omega

/-- a row whose later bytes all go on -/
def conts : List Int → Prop
  | [] => True
  | c :: l => (128 ≤ c ∧ c ≤ 191) ∧ conts l

theorem spanGo_none : ∀ (k : Nat) (lo hi : Int) (l : List Int), l.length ≤ k → ¬ conts l → spanGo k lo hi l = none
  | _, _, _, [], _, h => absurd trivial h
  | 0, lo, hi, c :: l, hk, h => by simp at hk
  | k + 1, lo, hi, c :: l, hk, h => by
    simp only [spanGo]
    split
    · rfl
    · refine spanGo_none k _ _ l (by simpa using hk) fun h' => h ⟨by omega, h'⟩

theorem restOK_conts : ∀ (lo hi : Int) (l : List Int), 128 ≤ lo → hi ≤ 191 → restOK lo hi l = true → conts l
  | _, _, [], _, _, _ => trivial
  | lo, hi, c :: l, h1, h2, h => by
    simp [restOK] at h
    exact ⟨by omega, restOK_conts 128 191 l (by decide) (by decide) h.2⟩

theorem second_range (b : Int) : 128 ≤ (secondF b).1 ∧ (secondF b).2 ≤ 191 := by unfold secondF; (repeat' split) <;> simp

/-- both say no -/
theorem rel_no {p : List Int} (h1 : kindF p = 0) (h2 : (spanF p).2.2 = 0) : Rel2 p := by
  unfold Rel2; rw [h1, goes_no h2]; simp

theorem rel_long {p : List Int} (hp : Bytes p) (h : 4 < p.length) : Rel2 p := by
  refine rel_no ?_ ?_
  · unfold kindF; have := lengthF_le (p.headD 0); rw [if_pos (by omega)]
  · cases p with
    | nil => simp at h
    | cons b l =>
      have := firstF_range b hp.cons.1
      simp only [spanF]
      cases spanGo ((firstF b).1.toNat - 1) (firstF b).2 (firstF b).2 l with
      | none => rfl
      | some r => simp only [spanK]; simp at h; rw [if_pos (by omega)]

/-- a later byte does not go on -/
theorem rel_broken {b : Int} {l : List Int} (hb : 0 ≤ b ∧ b < 256) (h : ¬ conts l) : Rel2 (b :: l) := by
  have hk : restOK (secondF b).1 (secondF b).2 l = false := by
    cases hr : restOK (secondF b).1 (secondF b).2 l with
    | false => rfl
    | true => exact absurd (restOK_conts _ _ l (second_range b).1 (second_range b).2 hr) h
  refine rel_no ?_ ?_
  · simp [kindF, hk]
  · have hf := firstF_range b hb
    simp only [spanF]
    rcases Nat.lt_or_ge ((firstF b).1.toNat - 1) l.length with c | c
    · cases spanGo ((firstF b).1.toNat - 1) (firstF b).2 (firstF b).2 l with
      | none => rfl
      | some r => simp only [spanK]; rw [if_pos (by omega)]
    · rw [spanGo_none _ _ _ l c h]; rfl

theorem rel_no2 {p : List Int} (h1 : kindF p = 0) (h2 : isF (spanF p).1 (spanF p).2.1 (spanF p).2.2 = false) : Rel2 p := by
  unfold Rel2; rw [h1]
  refine ⟨fun h => (by simp at h), fun h => (by simp at h), fun _ => ?_⟩
  simp [goesF, h2]

/-- the limits hold just where the second byte is one of those that may be -/
theorem rel_same {b : Int} {l : List Int} {n : Int} (e1 : lengthF b = n) (hs : (spanF (b :: l)).2.2 = n) (hn : n ≠ 0) (hl : (l.length : Int) + 1 ≤ n) (hi' : isF (spanF (b :: l)).1 (spanF (b :: l)).2.1 n = restOK (secondF b).1 (secondF b).2 l) (hc : (l.length : Int) + 1 = n → codeF (b :: l) = (spanF (b :: l)).1) : Rel2 (b :: l) := by
  unfold Rel2
  have hg : goesF (b :: l) = (isF (spanF (b :: l)).1 (spanF (b :: l)).2.1 n, isF (spanF (b :: l)).1 (spanF (b :: l)).2.1 n && ((b :: l).length : Int) == n) := by simp [goesF, hs, hn]
  rw [hg, hi']
  have hk : kindF (b :: l) = if restOK (secondF b).1 (secondF b).2 l then (if (l.length : Int) + 1 < n then 1 else 2) else 0 := by
    simp [kindF, e1]; omega
  rw [hk]
  cases restOK (secondF b).1 (secondF b).2 l with
  | false => simp
  | true =>
    simp only [if_true]
    split
    · rename_i h; simp; omega
    · have : (l.length : Int) + 1 = n := by omega
      simp [this, hc this]

theorem rel1 (b : Int) (h : 0 ≤ b ∧ b < 256) : Rel2 [b] := by
  rcases cls b h with ⟨h1, e1, e3⟩ | ⟨h1, h2, e1, e3⟩ | ⟨h1, h2, e1, e3⟩ | ⟨h1, h2, e1, e2, e3⟩ | ⟨h1, e1, e2, e3⟩ | ⟨h1, h2, h3, e1, e2, e3⟩ | ⟨h1, e1, e2, e3⟩ | ⟨h1, e1, e2, e3⟩ | ⟨h1, h2, e1, e2, e3⟩ | ⟨h1, e1, e2, e3⟩ | ⟨h1, h2, e1, e3⟩ | ⟨h1, e1, e3⟩
  all_goals
    first
    | (refine rel_no ?_ ?_
       · (simp [kindF, e1]; done)
       · (simp [spanF, spanK, spanGo, e3]; done))
    | (refine rel_no2 ?_ ?_
       · (simp [kindF, e1]; done)
       · (rw [Bool.eq_false_iff, Ne, isF_iff]; simp [spanF, spanK, spanGo, e3, leastF, mostF]; omega))
    | (refine rel_same e1 ?_ ?_ ?_ ?_ ?_
       · (simp [spanF, spanK, spanGo, e3]; done)
       · decide
       · (simp; done)
       · (rw [Bool.eq_iff_iff, isF_iff]; simp [spanF, spanK, spanGo, e3, restOK, leastF, mostF] <;> omega)
       · (intro hh; first | (simp at hh; done) | (simp [spanF, spanK, spanGo, e3, codeF, cp0F, goCode]; done) | (simp [spanF, spanK, spanGo, e3, codeF, cp0F, goCode]; omega)))
    | (refine rel_same e1 ?_ ?_ ?_ ?_ ?_
       · (simp [spanF, spanK, spanGo, e3]; done)
       · decide
       · (simp; done)
       · (rw [Bool.eq_iff_iff, isF_iff]; simp [spanF, spanK, spanGo, e3, e2, restOK, leastF, mostF] <;> omega)
       · (intro hh; first | (simp at hh; done) | (simp [spanF, spanK, spanGo, e3, codeF, cp0F, goCode]; done) | (simp [spanF, spanK, spanGo, e3, codeF, cp0F, goCode]; omega)))

theorem rel2 (b c : Int) (h : 0 ≤ b ∧ b < 256) (hc : 128 ≤ c ∧ c ≤ 191) : Rel2 [b, c] := by
  have nc : ¬ (c < 128 ∨ 191 < c) := by omega
  rcases cls b h with ⟨h1, e1, e3⟩ | ⟨h1, h2, e1, e3⟩ | ⟨h1, h2, e1, e3⟩ | ⟨h1, h2, e1, e2, e3⟩ | ⟨h1, e1, e2, e3⟩ | ⟨h1, h2, h3, e1, e2, e3⟩ | ⟨h1, e1, e2, e3⟩ | ⟨h1, e1, e2, e3⟩ | ⟨h1, h2, e1, e2, e3⟩ | ⟨h1, e1, e2, e3⟩ | ⟨h1, h2, e1, e3⟩ | ⟨h1, e1, e3⟩
  all_goals
    first
    | (refine rel_no ?_ ?_
       · (simp [kindF, e1]; done)
       · (simp [spanF, spanK, spanGo, e3, nc, hc]; done))
    | (refine rel_no2 ?_ ?_
       · (simp [kindF, e1]; done)
       · (rw [Bool.eq_false_iff, Ne, isF_iff]; simp [spanF, spanK, spanGo, e3, leastF, mostF, nc, hc]; omega))
    | (refine rel_same e1 ?_ ?_ ?_ ?_ ?_
       · (simp [spanF, spanK, spanGo, e3, nc, hc]; done)
       · decide
       · (simp; done)
       · (rw [Bool.eq_iff_iff, isF_iff]; simp [spanF, spanK, spanGo, e3, restOK, leastF, mostF, nc, hc] <;> omega)
       · (intro hh; first | (simp at hh; done) | (simp [spanF, spanK, spanGo, e3, codeF, cp0F, goCode, nc, hc]; done) | (simp [spanF, spanK, spanGo, e3, codeF, cp0F, goCode, nc, hc]; omega)))
    | (refine rel_same e1 ?_ ?_ ?_ ?_ ?_
       · (simp [spanF, spanK, spanGo, e3, nc, hc]; done)
       · decide
       · (simp; done)
       · (rw [Bool.eq_iff_iff, isF_iff]; simp [spanF, spanK, spanGo, e3, e2, restOK, leastF, mostF, nc, hc] <;> omega)
       · (intro hh; first | (simp at hh; done) | (simp [spanF, spanK, spanGo, e3, codeF, cp0F, goCode, nc, hc]; done) | (simp [spanF, spanK, spanGo, e3, codeF, cp0F, goCode, nc, hc]; omega)))

theorem rel3 (b c d : Int) (h : 0 ≤ b ∧ b < 256) (hc : 128 ≤ c ∧ c ≤ 191) (hd : 128 ≤ d ∧ d ≤ 191) : Rel2 [b, c, d] := by
  have nc : ¬ (c < 128 ∨ 191 < c) := by omega
  have nd : ¬ (d < 128 ∨ 191 < d) := by omega
  rcases cls b h with ⟨h1, e1, e3⟩ | ⟨h1, h2, e1, e3⟩ | ⟨h1, h2, e1, e3⟩ | ⟨h1, h2, e1, e2, e3⟩ | ⟨h1, e1, e2, e3⟩ | ⟨h1, h2, h3, e1, e2, e3⟩ | ⟨h1, e1, e2, e3⟩ | ⟨h1, e1, e2, e3⟩ | ⟨h1, h2, e1, e2, e3⟩ | ⟨h1, e1, e2, e3⟩ | ⟨h1, h2, e1, e3⟩ | ⟨h1, e1, e3⟩
  all_goals
    first
    | (refine rel_no ?_ ?_
       · (simp [kindF, e1]; done)
       · (simp [spanF, spanK, spanGo, e3, nc, hc, nd, hd]; done))
    | (refine rel_no2 ?_ ?_
       · (simp [kindF, e1]; done)
       · (rw [Bool.eq_false_iff, Ne, isF_iff]; simp [spanF, spanK, spanGo, e3, leastF, mostF, nc, hc, nd, hd]; omega))
    | (refine rel_same e1 ?_ ?_ ?_ ?_ ?_
       · (simp [spanF, spanK, spanGo, e3, nc, hc, nd, hd]; done)
       · decide
       · (simp; done)
       · (rw [Bool.eq_iff_iff, isF_iff]; simp [spanF, spanK, spanGo, e3, restOK, leastF, mostF, nc, hc, nd, hd] <;> omega)
       · (intro hh; first | (simp at hh; done) | (simp [spanF, spanK, spanGo, e3, codeF, cp0F, goCode, nc, hc, nd, hd]; done) | (simp [spanF, spanK, spanGo, e3, codeF, cp0F, goCode, nc, hc, nd, hd]; omega)))
    | (refine rel_same e1 ?_ ?_ ?_ ?_ ?_
       · (simp [spanF, spanK, spanGo, e3, nc, hc, nd, hd]; done)
       · decide
       · (simp; done)
       · (rw [Bool.eq_iff_iff, isF_iff]; simp [spanF, spanK, spanGo, e3, e2, restOK, leastF, mostF, nc, hc, nd, hd] <;> omega)
       · (intro hh; first | (simp at hh; done) | (simp [spanF, spanK, spanGo, e3, codeF, cp0F, goCode, nc, hc, nd, hd]; done) | (simp [spanF, spanK, spanGo, e3, codeF, cp0F, goCode, nc, hc, nd, hd]; omega)))

theorem rel4 (b c d e : Int) (h : 0 ≤ b ∧ b < 256) (hc : 128 ≤ c ∧ c ≤ 191) (hd : 128 ≤ d ∧ d ≤ 191) (he : 128 ≤ e ∧ e ≤ 191) : Rel2 [b, c, d, e] := by
  have nc : ¬ (c < 128 ∨ 191 < c) := by omega
  have nd : ¬ (d < 128 ∨ 191 < d) := by omega
  have ne : ¬ (e < 128 ∨ 191 < e) := by omega
  rcases cls b h with ⟨h1, e1, e3⟩ | ⟨h1, h2, e1, e3⟩ | ⟨h1, h2, e1, e3⟩ | ⟨h1, h2, e1, e2, e3⟩ | ⟨h1, e1, e2, e3⟩ | ⟨h1, h2, h3, e1, e2, e3⟩ | ⟨h1, e1, e2, e3⟩ | ⟨h1, e1, e2, e3⟩ | ⟨h1, h2, e1, e2, e3⟩ | ⟨h1, e1, e2, e3⟩ | ⟨h1, h2, e1, e3⟩ | ⟨h1, e1, e3⟩
  all_goals
    first
    | (refine rel_no ?_ ?_
       · (simp [kindF, e1]; done)
       · (simp [spanF, spanK, spanGo, e3, nc, hc, nd, hd, ne, he]; done))
    | (refine rel_no2 ?_ ?_
       · (simp [kindF, e1]; done)
       · (rw [Bool.eq_false_iff, Ne, isF_iff]; simp [spanF, spanK, spanGo, e3, leastF, mostF, nc, hc, nd, hd, ne, he]; omega))
    | (refine rel_same e1 ?_ ?_ ?_ ?_ ?_
       · (simp [spanF, spanK, spanGo, e3, nc, hc, nd, hd, ne, he]; done)
       · decide
       · (simp; done)
       · (rw [Bool.eq_iff_iff, isF_iff]; simp [spanF, spanK, spanGo, e3, restOK, leastF, mostF, nc, hc, nd, hd, ne, he] <;> omega)
       · (intro hh; first | (simp at hh; done) | (simp [spanF, spanK, spanGo, e3, codeF, cp0F, goCode, nc, hc, nd, hd, ne, he]; done) | (simp [spanF, spanK, spanGo, e3, codeF, cp0F, goCode, nc, hc, nd, hd, ne, he]; omega)))
    | (refine rel_same e1 ?_ ?_ ?_ ?_ ?_
       · (simp [spanF, spanK, spanGo, e3, nc, hc, nd, hd, ne, he]; done)
       · decide
       · (simp; done)
       · (rw [Bool.eq_iff_iff, isF_iff]; simp [spanF, spanK, spanGo, e3, e2, restOK, leastF, mostF, nc, hc, nd, hd, ne, he] <;> omega)
       · (intro hh; first | (simp at hh; done) | (simp [spanF, spanK, spanGo, e3, codeF, cp0F, goCode, nc, hc, nd, hd, ne, he]; done) | (simp [spanF, spanK, spanGo, e3, codeF, cp0F, goCode, nc, hc, nd, hd, ne, he]; omega)))

theorem rel_all {p : List Int} (hp : Bytes p) (hne : p ≠ []) : Rel2 p := by
  rcases Nat.lt_or_ge 4 p.length with h | h
  · exact rel_long hp h
  cases p with
  | nil => exact absurd rfl hne
  | cons b l =>
    have hb := hp.cons.1
    by_cases hc : conts l
    · match l, hc, h with
      | [], _, _ => exact rel1 b hb
      | [c], hc, _ => exact rel2 b c hb hc.1
      | [c, d], hc, _ => exact rel3 b c d hb hc.1 hc.2.1
      | [c, d, e], hc, _ => exact rel4 b c d e hb hc.1 hc.2.1 hc.2.2.1
      | c :: d :: e :: f :: l, _, h => simp at h
    · exact rel_broken hb hc

theorem right_eq {p : List Int} (hp : Bytes p) : rightF p = rrightF p := by
  unfold rightF rrightF
  cases p with
  | nil => rfl
  | cons b l =>
    have := rel_all hp (by simp)
    unfold Rel2 at this
    rcases kindF_range (b :: l) with e | e | e <;> simp [e] at this ⊢ <;> simp [this]

theorem flush_eq {p : List Int} (hp : Bytes p) : flushF p = rflushF p := by unfold flushF rflushF; rw [right_eq hp]

theorem step0_eq (b : Int) (h : 0 ≤ b ∧ b < 256) : step0 b = rstep0 b := by
  have := rel_all (p := [b]) (Bytes.mk h Bytes.nil) (by simp)
  unfold Rel2 at this
  unfold step0 rstep0
  rcases kindF_range [b] with e | e | e <;> simp [e] at this ⊢ <;> simp [this]

theorem step_eq {p : List Int} {b : Int} (hp : Bytes p) (h : 0 ≤ b ∧ b < 256) : stepF p b = rstepF p b := by
  unfold stepF rstepF
  rw [right_eq hp, step0_eq b h]
  split
  · rfl
  · have := rel_all (p := p ++ [b]) (hp.app (Bytes.mk h Bytes.nil)) (by simp)
    unfold Rel2 at this
    unfold stepP rstepP
    rw [step0_eq b h]
    rcases kindF_range (p ++ [b]) with e | e | e <;> simp [e] at this ⊢ <;> simp [this]

end Fen

namespace Fen
open Go Go.Proofs

/-- a text's bytes, as numbers -/
def numsS (s : List UInt8) : List Int := s.map fun b => (b.toNat : Int)
@[simp] theorem byteC_map (s : List UInt8) : s.map byteC = ints .u8 (numsS s) := by simp [ints, numsS, Function.comp_def]
@[simp] theorem numsS_len (s : List UInt8) : (numsS s).length = s.length := by simp [numsS]
theorem numsS_bytes (s : List UInt8) : Bytes (numsS s) := fun x hx => by
  simp [numsS] at hx
  obtain ⟨b, _, rfl⟩ := hx
  exact ⟨by omega, by have := b.toNat_lt; omega⟩

end Fen
