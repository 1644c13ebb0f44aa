/- A part of the proof; no statement is proved here: BTypes1, BBdA, BBdB. -/
import Derived.Test.YtmbogpmhlepkmaaDoorChecked
import Derived.Test.YtmbogpmhlepkmaaDoorCoreD
import Derived.KernelRfl
import Derived.Test.YtmbogpmhlepkmaaDoorCoreE
import Derived.WalkKit
import Derived.ProofKit
import Derived.Lib.Builder
import Derived.Lib.UnsafeStr
import Derived.Lib.Strings
import Derived.Lib.Slices
import Derived.Lib.Walk
import Derived.Laws.Externs
import Derived.Shelf.RegionOpenPlain

set_option linter.unusedVariables false
set_option linter.unusedSimpArgs false

/- The table of this seat's types, and that the program has it. Printed by a program of mine (gen.py) from the translation. -/
namespace Fen
open Go Go.Proofs
theorem ty1_u : Tryd.prog.underlying 1 = some (.func #[] #[] false) := by kernel_rfl
theorem ty1_i : (Tryd.prog.info? 1).map (fun i => (i.zero, i.size, i.bytes)) = some (some (.nilFunc), 1, 8) := by kernel_rfl
theorem ty2_u : Tryd.prog.underlying 2 = some (.int .i64) := by kernel_rfl
theorem ty2_i : (Tryd.prog.info? 2).map (fun i => (i.zero, i.size, i.bytes)) = some (some (.int .i64 0), 1, 8) := by kernel_rfl
theorem ty3_u : Tryd.prog.underlying 3 = some (.int .i64) := by kernel_rfl
theorem ty3_i : (Tryd.prog.info? 3).map (fun i => (i.zero, i.size, i.bytes)) = some (some (.int .i64 0), 1, 8) := by kernel_rfl
theorem ty4_u : Tryd.prog.underlying 4 = some (.bool) := by kernel_rfl
theorem ty4_i : (Tryd.prog.info? 4).map (fun i => (i.zero, i.size, i.bytes)) = some (some (.bool false), 1, 1) := by kernel_rfl
theorem ty5_u : Tryd.prog.underlying 5 = some (.int .u8) := by kernel_rfl
theorem ty5_i : (Tryd.prog.info? 5).map (fun i => (i.zero, i.size, i.bytes)) = some (some (.int .u8 0), 1, 1) := by kernel_rfl
theorem ty9_u : Tryd.prog.underlying 9 = some (.string) := by kernel_rfl
theorem ty9_i : (Tryd.prog.info? 9).map (fun i => (i.zero, i.size, i.bytes)) = some (some (.string ⟨#[]⟩), 1, 16) := by kernel_rfl
theorem ty12_u : Tryd.prog.underlying 12 = some (.int .u64) := by kernel_rfl
theorem ty12_i : (Tryd.prog.info? 12).map (fun i => (i.zero, i.size, i.bytes)) = some (some (.int .u64 0), 1, 8) := by kernel_rfl
theorem ty21_u : Tryd.prog.underlying 21 = some (.int .i32) := by kernel_rfl
theorem ty21_i : (Tryd.prog.info? 21).map (fun i => (i.zero, i.size, i.bytes)) = some (some (.int .i32 0), 1, 4) := by kernel_rfl
theorem ty22_u : Tryd.prog.underlying 22 = some (.int .i64) := by kernel_rfl
theorem ty22_i : (Tryd.prog.info? 22).map (fun i => (i.zero, i.size, i.bytes)) = some (some (.int .i64 0), 1, 8) := by kernel_rfl
theorem ty24_u : Tryd.prog.underlying 24 = some (.func #[9] #[9, 22] false) := by kernel_rfl
theorem ty24_i : (Tryd.prog.info? 24).map (fun i => (i.zero, i.size, i.bytes)) = some (some (.nilFunc), 1, 8) := by kernel_rfl
theorem ty25_u : Tryd.prog.underlying 25 = some (.func #[3] #[3] false) := by kernel_rfl
theorem ty25_i : (Tryd.prog.info? 25).map (fun i => (i.zero, i.size, i.bytes)) = some (some (.nilFunc), 1, 8) := by kernel_rfl
theorem ty26_u : Tryd.prog.underlying 26 = some (.func #[] #[4] false) := by kernel_rfl
theorem ty26_i : (Tryd.prog.info? 26).map (fun i => (i.zero, i.size, i.bytes)) = some (some (.nilFunc), 1, 8) := by kernel_rfl
theorem ty27_u : Tryd.prog.underlying 27 = some (.func #[9, 3] #[4] false) := by kernel_rfl
theorem ty27_i : (Tryd.prog.info? 27).map (fun i => (i.zero, i.size, i.bytes)) = some (some (.nilFunc), 1, 8) := by kernel_rfl
theorem ty28_u : Tryd.prog.underlying 28 = some (.slice 5) := by kernel_rfl
theorem ty28_i : (Tryd.prog.info? 28).map (fun i => (i.zero, i.size, i.bytes)) = some (some (.slice none 0 0), 1, 24) := by kernel_rfl
theorem ty29_u : Tryd.prog.underlying 29 = some (.array 6 9) := by kernel_rfl
theorem ty29_i : (Tryd.prog.info? 29).map (fun i => (i.zero, i.size, i.bytes)) = some (some (.agg #[.string ⟨#[]⟩, .string ⟨#[]⟩, .string ⟨#[]⟩, .string ⟨#[]⟩, .string ⟨#[]⟩, .string ⟨#[]⟩]), 6, 96) := by kernel_rfl
theorem ty30_u : Tryd.prog.underlying 30 = some (.func #[9, 28, 5, 5, 5] #[4] false) := by kernel_rfl
theorem ty30_i : (Tryd.prog.info? 30).map (fun i => (i.zero, i.size, i.bytes)) = some (some (.nilFunc), 1, 8) := by kernel_rfl
theorem ty31_u : Tryd.prog.underlying 31 = some (.func #[9, 9] #[9] false) := by kernel_rfl
theorem ty31_i : (Tryd.prog.info? 31).map (fun i => (i.zero, i.size, i.bytes)) = some (some (.nilFunc), 1, 8) := by kernel_rfl
theorem ty32_u : Tryd.prog.underlying 32 = some (.func #[9, 5] #[4] false) := by kernel_rfl
theorem ty32_i : (Tryd.prog.info? 32).map (fun i => (i.zero, i.size, i.bytes)) = some (some (.nilFunc), 1, 8) := by kernel_rfl
theorem ty33_u : Tryd.prog.underlying 33 = some (.func #[9, 3] #[9] false) := by kernel_rfl
theorem ty33_i : (Tryd.prog.info? 33).map (fun i => (i.zero, i.size, i.bytes)) = some (some (.nilFunc), 1, 8) := by kernel_rfl
theorem ty34_u : Tryd.prog.underlying 34 = some (.array 2 9) := by kernel_rfl
theorem ty34_i : (Tryd.prog.info? 34).map (fun i => (i.zero, i.size, i.bytes)) = some (some (.agg #[.string ⟨#[]⟩, .string ⟨#[]⟩]), 2, 32) := by kernel_rfl
theorem ty35_u : Tryd.prog.underlying 35 = some (.func #[9, 28, 5] #[4] false) := by kernel_rfl
theorem ty35_i : (Tryd.prog.info? 35).map (fun i => (i.zero, i.size, i.bytes)) = some (some (.nilFunc), 1, 8) := by kernel_rfl
theorem ty36_u : Tryd.prog.underlying 36 = some (.func #[9, 9] #[4] false) := by kernel_rfl
theorem ty36_i : (Tryd.prog.info? 36).map (fun i => (i.zero, i.size, i.bytes)) = some (some (.nilFunc), 1, 8) := by kernel_rfl
theorem ty37_u : Tryd.prog.underlying 37 = some (.func #[9] #[4] false) := by kernel_rfl
theorem ty37_i : (Tryd.prog.info? 37).map (fun i => (i.zero, i.size, i.bytes)) = some (some (.nilFunc), 1, 8) := by kernel_rfl
theorem ty38_u : Tryd.prog.underlying 38 = some (.pointer 40) := by kernel_rfl
theorem ty38_i : (Tryd.prog.info? 38).map (fun i => (i.zero, i.size, i.bytes)) = some (some (.pointer none), 1, 8) := by kernel_rfl
theorem ty39_u : Tryd.prog.underlying 39 = some (.struct #[{ name := "addr", type := 38, offset := 0, embedded := false, tag := "", pkgPath := "strings", byteOffset := 0 }, { name := "buf", type := 28, offset := 1, embedded := false, tag := "", pkgPath := "strings", byteOffset := 8 }]) := by kernel_rfl
theorem ty39_i : (Tryd.prog.info? 39).map (fun i => (i.zero, i.size, i.bytes)) = some (some (.agg #[.pointer none, .slice none 0 0]), 2, 32) := by kernel_rfl
theorem ty40_u : Tryd.prog.underlying 40 = some (.struct #[{ name := "addr", type := 38, offset := 0, embedded := false, tag := "", pkgPath := "strings", byteOffset := 0 }, { name := "buf", type := 28, offset := 1, embedded := false, tag := "", pkgPath := "strings", byteOffset := 8 }]) := by kernel_rfl
theorem ty40_i : (Tryd.prog.info? 40).map (fun i => (i.zero, i.size, i.bytes)) = some (some (.agg #[.pointer none, .slice none 0 0]), 2, 32) := by kernel_rfl
theorem ty41_u : Tryd.prog.underlying 41 = some (.func #[3] #[3, 3] false) := by kernel_rfl
theorem ty41_i : (Tryd.prog.info? 41).map (fun i => (i.zero, i.size, i.bytes)) = some (some (.nilFunc), 1, 8) := by kernel_rfl
theorem ty42_u : Tryd.prog.underlying 42 = some (.func #[3, 3, 46] #[41] false) := by kernel_rfl
theorem ty42_i : (Tryd.prog.info? 42).map (fun i => (i.zero, i.size, i.bytes)) = some (some (.nilFunc), 1, 8) := by kernel_rfl
theorem ty45_u : Tryd.prog.underlying 45 = some (.func #[5] #[44] false) := by kernel_rfl
theorem ty45_i : (Tryd.prog.info? 45).map (fun i => (i.zero, i.size, i.bytes)) = some (some (.nilFunc), 1, 8) := by kernel_rfl
theorem ty46_u : Tryd.prog.underlying 46 = some (.func #[3] #[] false) := by kernel_rfl
theorem ty46_i : (Tryd.prog.info? 46).map (fun i => (i.zero, i.size, i.bytes)) = some (some (.nilFunc), 1, 8) := by kernel_rfl
theorem ty48_u : Tryd.prog.underlying 48 = some (.func #[] #[9] false) := by kernel_rfl
theorem ty48_i : (Tryd.prog.info? 48).map (fun i => (i.zero, i.size, i.bytes)) = some (some (.nilFunc), 1, 8) := by kernel_rfl
theorem ty49_u : Tryd.prog.underlying 49 = some (.func #[] #[3] false) := by kernel_rfl
theorem ty49_i : (Tryd.prog.info? 49).map (fun i => (i.zero, i.size, i.bytes)) = some (some (.nilFunc), 1, 8) := by kernel_rfl
theorem ty50_u : Tryd.prog.underlying 50 = some (.func #[9] #[9] false) := by kernel_rfl
theorem ty50_i : (Tryd.prog.info? 50).map (fun i => (i.zero, i.size, i.bytes)) = some (some (.nilFunc), 1, 8) := by kernel_rfl
theorem ty51_u : Tryd.prog.underlying 51 = some (.array 7 9) := by kernel_rfl
theorem ty51_i : (Tryd.prog.info? 51).map (fun i => (i.zero, i.size, i.bytes)) = some (some (.agg #[.string ⟨#[]⟩, .string ⟨#[]⟩, .string ⟨#[]⟩, .string ⟨#[]⟩, .string ⟨#[]⟩, .string ⟨#[]⟩, .string ⟨#[]⟩]), 7, 112) := by kernel_rfl
theorem ty53_u : Tryd.prog.underlying 53 = some (.func #[] #[52] false) := by kernel_rfl
theorem ty53_i : (Tryd.prog.info? 53).map (fun i => (i.zero, i.size, i.bytes)) = some (some (.nilFunc), 1, 8) := by kernel_rfl
theorem ty55_u : Tryd.prog.underlying 55 = some (.func #[5] #[3] false) := by kernel_rfl
theorem ty55_i : (Tryd.prog.info? 55).map (fun i => (i.zero, i.size, i.bytes)) = some (some (.nilFunc), 1, 8) := by kernel_rfl
theorem ty56_u : Tryd.prog.underlying 56 = some (.int .u64) := by kernel_rfl
theorem ty56_i : (Tryd.prog.info? 56).map (fun i => (i.zero, i.size, i.bytes)) = some (some (.int .u64 0), 1, 8) := by kernel_rfl
theorem ty57_u : Tryd.prog.underlying 57 = some (.func #[9, 5] #[9] false) := by kernel_rfl
theorem ty57_i : (Tryd.prog.info? 57).map (fun i => (i.zero, i.size, i.bytes)) = some (some (.nilFunc), 1, 8) := by kernel_rfl
theorem ty61_u : Tryd.prog.underlying 61 = some (.func #[9] #[59, 4] false) := by kernel_rfl
theorem ty61_i : (Tryd.prog.info? 61).map (fun i => (i.zero, i.size, i.bytes)) = some (some (.nilFunc), 1, 8) := by kernel_rfl
theorem ty62_u : Tryd.prog.underlying 62 = some (.func #[9, 63] #[9] false) := by kernel_rfl
theorem ty62_i : (Tryd.prog.info? 62).map (fun i => (i.zero, i.size, i.bytes)) = some (some (.nilFunc), 1, 8) := by kernel_rfl
theorem ty63_u : Tryd.prog.underlying 63 = some (.pointer 59) := by kernel_rfl
theorem ty63_i : (Tryd.prog.info? 63).map (fun i => (i.zero, i.size, i.bytes)) = some (some (.pointer none), 1, 8) := by kernel_rfl
theorem ty65_u : Tryd.prog.underlying 65 = some (.func #[56, 56] #[56, 56] false) := by kernel_rfl
theorem ty65_i : (Tryd.prog.info? 65).map (fun i => (i.zero, i.size, i.bytes)) = some (some (.nilFunc), 1, 8) := by kernel_rfl
theorem ty67_u : Tryd.prog.underlying 67 = some (.func #[9] #[3, 44] false) := by kernel_rfl
theorem ty67_i : (Tryd.prog.info? 67).map (fun i => (i.zero, i.size, i.bytes)) = some (some (.nilFunc), 1, 8) := by kernel_rfl
theorem ty68_u : Tryd.prog.underlying 68 = some (.pointer 5) := by kernel_rfl
theorem ty68_i : (Tryd.prog.info? 68).map (fun i => (i.zero, i.size, i.bytes)) = some (some (.pointer none), 1, 8) := by kernel_rfl
theorem ty69_u : Tryd.prog.underlying 69 = some (.array 8 3) := by kernel_rfl
theorem ty69_i : (Tryd.prog.info? 69).map (fun i => (i.zero, i.size, i.bytes)) = some (some (.agg #[.int .i64 0, .int .i64 0, .int .i64 0, .int .i64 0, .int .i64 0, .int .i64 0, .int .i64 0, .int .i64 0]), 8, 64) := by kernel_rfl
theorem ty70_u : Tryd.prog.underlying 70 = some (.func #[5] #[4] false) := by kernel_rfl
theorem ty70_i : (Tryd.prog.info? 70).map (fun i => (i.zero, i.size, i.bytes)) = some (some (.nilFunc), 1, 8) := by kernel_rfl
theorem ty72_u : Tryd.prog.underlying 72 = some (.func #[9] #[21, 3] false) := by kernel_rfl
theorem ty72_i : (Tryd.prog.info? 72).map (fun i => (i.zero, i.size, i.bytes)) = some (some (.nilFunc), 1, 8) := by kernel_rfl
theorem ty73_u : Tryd.prog.underlying 73 = some (.func #[9, 21] #[4] false) := by kernel_rfl
theorem ty73_i : (Tryd.prog.info? 73).map (fun i => (i.zero, i.size, i.bytes)) = some (some (.nilFunc), 1, 8) := by kernel_rfl
theorem ty74_u : Tryd.prog.underlying 74 = some (.int .u32) := by kernel_rfl
theorem ty74_i : (Tryd.prog.info? 74).map (fun i => (i.zero, i.size, i.bytes)) = some (some (.int .u32 0), 1, 4) := by kernel_rfl
theorem ty76_u : Tryd.prog.underlying 76 = some (.func #[74, 74] #[74, 74] false) := by kernel_rfl
theorem ty76_i : (Tryd.prog.info? 76).map (fun i => (i.zero, i.size, i.bytes)) = some (some (.nilFunc), 1, 8) := by kernel_rfl
theorem ty77_u : Tryd.prog.underlying 77 = some (.int .u64) := by kernel_rfl
theorem ty77_i : (Tryd.prog.info? 77).map (fun i => (i.zero, i.size, i.bytes)) = some (some (.int .u64 0), 1, 8) := by kernel_rfl
theorem ty79_u : Tryd.prog.underlying 79 = some (.func #[77, 77] #[77, 77] false) := by kernel_rfl
theorem ty79_i : (Tryd.prog.info? 79).map (fun i => (i.zero, i.size, i.bytes)) = some (some (.nilFunc), 1, 8) := by kernel_rfl
theorem ty81_u : Tryd.prog.underlying 81 = some (.func #[80] #[80] false) := by kernel_rfl
theorem ty81_i : (Tryd.prog.info? 81).map (fun i => (i.zero, i.size, i.bytes)) = some (some (.nilFunc), 1, 8) := by kernel_rfl
theorem ty82_u : Tryd.prog.underlying 82 = some (.func #[9, 21] #[3] false) := by kernel_rfl
theorem ty82_i : (Tryd.prog.info? 82).map (fun i => (i.zero, i.size, i.bytes)) = some (some (.nilFunc), 1, 8) := by kernel_rfl
theorem ty83_u : Tryd.prog.underlying 83 = some (.func #[3] #[28] false) := by kernel_rfl
theorem ty83_i : (Tryd.prog.info? 83).map (fun i => (i.zero, i.size, i.bytes)) = some (some (.nilFunc), 1, 8) := by kernel_rfl
theorem ty84_u : Tryd.prog.underlying 84 = some (.func #[9, 5] #[3] false) := by kernel_rfl
theorem ty84_i : (Tryd.prog.info? 84).map (fun i => (i.zero, i.size, i.bytes)) = some (some (.nilFunc), 1, 8) := by kernel_rfl
theorem ty85_u : Tryd.prog.underlying 85 = some (.func #[21] #[4] false) := by kernel_rfl
theorem ty85_i : (Tryd.prog.info? 85).map (fun i => (i.zero, i.size, i.bytes)) = some (some (.nilFunc), 1, 8) := by kernel_rfl
theorem ty86_u : Tryd.prog.underlying 86 = some (.func #[9, 9] #[3] false) := by kernel_rfl
theorem ty86_i : (Tryd.prog.info? 86).map (fun i => (i.zero, i.size, i.bytes)) = some (some (.nilFunc), 1, 8) := by kernel_rfl
theorem ty88_u : Tryd.prog.underlying 88 = some (.struct #[{ name := "lo", type := 5, offset := 0, embedded := false, tag := "", pkgPath := "unicode/utf8", byteOffset := 0 }, { name := "hi", type := 5, offset := 1, embedded := false, tag := "", pkgPath := "unicode/utf8", byteOffset := 1 }]) := by kernel_rfl
theorem ty88_i : (Tryd.prog.info? 88).map (fun i => (i.zero, i.size, i.bytes)) = some (some (.agg #[.int .u8 0, .int .u8 0]), 2, 2) := by kernel_rfl
theorem ty89_u : Tryd.prog.underlying 89 = some (.struct #[{ name := "lo", type := 5, offset := 0, embedded := false, tag := "", pkgPath := "unicode/utf8", byteOffset := 0 }, { name := "hi", type := 5, offset := 1, embedded := false, tag := "", pkgPath := "unicode/utf8", byteOffset := 1 }]) := by kernel_rfl
theorem ty89_i : (Tryd.prog.info? 89).map (fun i => (i.zero, i.size, i.bytes)) = some (some (.agg #[.int .u8 0, .int .u8 0]), 2, 2) := by kernel_rfl
theorem ty90_u : Tryd.prog.underlying 90 = some (.array 16 89) := by kernel_rfl
theorem ty90_i : (Tryd.prog.info? 90).map (fun i => (i.zero, i.size, i.bytes)) = some (some (.agg #[.int .u8 0, .int .u8 0, .int .u8 0, .int .u8 0, .int .u8 0, .int .u8 0, .int .u8 0, .int .u8 0, .int .u8 0, .int .u8 0, .int .u8 0, .int .u8 0, .int .u8 0, .int .u8 0, .int .u8 0, .int .u8 0, .int .u8 0, .int .u8 0, .int .u8 0, .int .u8 0, .int .u8 0, .int .u8 0, .int .u8 0, .int .u8 0, .int .u8 0, .int .u8 0, .int .u8 0, .int .u8 0, .int .u8 0, .int .u8 0, .int .u8 0, .int .u8 0]), 32, 32) := by kernel_rfl
theorem ty93_u : Tryd.prog.underlying 93 = some (.array 0 16) := by kernel_rfl
theorem ty93_i : (Tryd.prog.info? 93).map (fun i => (i.zero, i.size, i.bytes)) = some (some (.agg #[]), 0, 0) := by kernel_rfl
theorem ty98_u : Tryd.prog.underlying 98 = some (.func #[80, 80] #[4] false) := by kernel_rfl
theorem ty98_i : (Tryd.prog.info? 98).map (fun i => (i.zero, i.size, i.bytes)) = some (some (.nilFunc), 1, 8) := by kernel_rfl
theorem ty101_u : Tryd.prog.underlying 101 = some (.struct #[{ name := "Size_", type := 12, offset := 0, embedded := false, tag := "", pkgPath := "", byteOffset := 0 }, { name := "PtrBytes", type := 12, offset := 1, embedded := false, tag := "", pkgPath := "", byteOffset := 8 }, { name := "Hash", type := 74, offset := 2, embedded := false, tag := "", pkgPath := "", byteOffset := 16 }, { name := "TFlag", type := 96, offset := 3, embedded := false, tag := "", pkgPath := "", byteOffset := 20 }, { name := "Align_", type := 5, offset := 4, embedded := false, tag := "", pkgPath := "", byteOffset := 21 }, { name := "FieldAlign_", type := 5, offset := 5, embedded := false, tag := "", pkgPath := "", byteOffset := 22 }, { name := "Kind_", type := 97, offset := 6, embedded := false, tag := "", pkgPath := "", byteOffset := 23 }, { name := "Equal", type := 98, offset := 7, embedded := false, tag := "", pkgPath := "", byteOffset := 24 }, { name := "GCData", type := 68, offset := 8, embedded := false, tag := "", pkgPath := "", byteOffset := 32 }, { name := "Str", type := 99, offset := 9, embedded := false, tag := "", pkgPath := "", byteOffset := 40 }, { name := "PtrToThis", type := 100, offset := 10, embedded := false, tag := "", pkgPath := "", byteOffset := 44 }]) := by kernel_rfl
theorem ty101_i : (Tryd.prog.info? 101).map (fun i => (i.zero, i.size, i.bytes)) = some (some (.agg #[.int .u64 0, .int .u64 0, .int .u32 0, .int .u8 0, .int .u8 0, .int .u8 0, .int .u8 0, .nilFunc, .pointer none, .int .i32 0, .int .i32 0]), 11, 48) := by kernel_rfl
def tt : List (Nat × TI) := [(1, ⟨.other, 1, 8, [.val .nilf]⟩),
  (2, ⟨.int .i64, 1, 8, [.val (.int .i64 0)]⟩),
  (3, ⟨.int .i64, 1, 8, [.val (.int .i64 0)]⟩),
  (4, ⟨.bool, 1, 1, [.val (.bool false)]⟩),
  (5, ⟨.int .u8, 1, 1, [.val (.int .u8 0)]⟩),
  (9, ⟨.str, 1, 16, [.val (.str [])]⟩),
  (12, ⟨.int .u64, 1, 8, [.val (.int .u64 0)]⟩),
  (21, ⟨.int .i32, 1, 4, [.val (.int .i32 0)]⟩),
  (22, ⟨.int .i64, 1, 8, [.val (.int .i64 0)]⟩),
  (24, ⟨.other, 1, 8, [.val .nilf]⟩),
  (25, ⟨.other, 1, 8, [.val .nilf]⟩),
  (26, ⟨.other, 1, 8, [.val .nilf]⟩),
  (27, ⟨.other, 1, 8, [.val .nilf]⟩),
  (28, ⟨.slice 5, 1, 24, [.nil]⟩),
  (29, ⟨.array 6 9, 6, 96, [.val (.str []), .val (.str []), .val (.str []), .val (.str []), .val (.str []), .val (.str [])]⟩),
  (30, ⟨.other, 1, 8, [.val .nilf]⟩),
  (31, ⟨.other, 1, 8, [.val .nilf]⟩),
  (32, ⟨.other, 1, 8, [.val .nilf]⟩),
  (33, ⟨.other, 1, 8, [.val .nilf]⟩),
  (34, ⟨.array 2 9, 2, 32, [.val (.str []), .val (.str [])]⟩),
  (35, ⟨.other, 1, 8, [.val .nilf]⟩),
  (36, ⟨.other, 1, 8, [.val .nilf]⟩),
  (37, ⟨.other, 1, 8, [.val .nilf]⟩),
  (38, ⟨.other, 1, 8, [.val .nilp]⟩),
  (39, ⟨.struct [(0, 38), (1, 28)], 2, 32, [.val .nilp, .nil]⟩),
  (40, ⟨.struct [(0, 38), (1, 28)], 2, 32, [.val .nilp, .nil]⟩),
  (41, ⟨.other, 1, 8, [.val .nilf]⟩),
  (42, ⟨.other, 1, 8, [.val .nilf]⟩),
  (45, ⟨.other, 1, 8, [.val .nilf]⟩),
  (46, ⟨.other, 1, 8, [.val .nilf]⟩),
  (48, ⟨.other, 1, 8, [.val .nilf]⟩),
  (49, ⟨.other, 1, 8, [.val .nilf]⟩),
  (50, ⟨.other, 1, 8, [.val .nilf]⟩),
  (51, ⟨.array 7 9, 7, 112, [.val (.str []), .val (.str []), .val (.str []), .val (.str []), .val (.str []), .val (.str []), .val (.str [])]⟩),
  (53, ⟨.other, 1, 8, [.val .nilf]⟩),
  (55, ⟨.other, 1, 8, [.val .nilf]⟩),
  (56, ⟨.int .u64, 1, 8, [.val (.int .u64 0)]⟩),
  (57, ⟨.other, 1, 8, [.val .nilf]⟩),
  (61, ⟨.other, 1, 8, [.val .nilf]⟩),
  (62, ⟨.other, 1, 8, [.val .nilf]⟩),
  (63, ⟨.other, 1, 8, [.val .nilp]⟩),
  (65, ⟨.other, 1, 8, [.val .nilf]⟩),
  (67, ⟨.other, 1, 8, [.val .nilf]⟩),
  (68, ⟨.other, 1, 8, [.val .nilp]⟩),
  (69, ⟨.array 8 3, 8, 64, [.val (.int .i64 0), .val (.int .i64 0), .val (.int .i64 0), .val (.int .i64 0), .val (.int .i64 0), .val (.int .i64 0), .val (.int .i64 0), .val (.int .i64 0)]⟩),
  (70, ⟨.other, 1, 8, [.val .nilf]⟩),
  (72, ⟨.other, 1, 8, [.val .nilf]⟩),
  (73, ⟨.other, 1, 8, [.val .nilf]⟩),
  (74, ⟨.int .u32, 1, 4, [.val (.int .u32 0)]⟩),
  (76, ⟨.other, 1, 8, [.val .nilf]⟩),
  (77, ⟨.int .u64, 1, 8, [.val (.int .u64 0)]⟩),
  (79, ⟨.other, 1, 8, [.val .nilf]⟩),
  (81, ⟨.other, 1, 8, [.val .nilf]⟩),
  (82, ⟨.other, 1, 8, [.val .nilf]⟩),
  (83, ⟨.other, 1, 8, [.val .nilf]⟩),
  (84, ⟨.other, 1, 8, [.val .nilf]⟩),
  (85, ⟨.other, 1, 8, [.val .nilf]⟩),
  (86, ⟨.other, 1, 8, [.val .nilf]⟩),
  (88, ⟨.struct [(0, 5), (1, 5)], 2, 2, [.val (.int .u8 0), .val (.int .u8 0)]⟩),
  (89, ⟨.struct [(0, 5), (1, 5)], 2, 2, [.val (.int .u8 0), .val (.int .u8 0)]⟩),
  (90, ⟨.array 16 89, 32, 32, [.val (.int .u8 0), .val (.int .u8 0), .val (.int .u8 0), .val (.int .u8 0), .val (.int .u8 0), .val (.int .u8 0), .val (.int .u8 0), .val (.int .u8 0), .val (.int .u8 0), .val (.int .u8 0), .val (.int .u8 0), .val (.int .u8 0), .val (.int .u8 0), .val (.int .u8 0), .val (.int .u8 0), .val (.int .u8 0), .val (.int .u8 0), .val (.int .u8 0), .val (.int .u8 0), .val (.int .u8 0), .val (.int .u8 0), .val (.int .u8 0), .val (.int .u8 0), .val (.int .u8 0), .val (.int .u8 0), .val (.int .u8 0), .val (.int .u8 0), .val (.int .u8 0), .val (.int .u8 0), .val (.int .u8 0), .val (.int .u8 0), .val (.int .u8 0)]⟩),
  (93, ⟨.array 0 16, 0, 0, []⟩),
  (98, ⟨.other, 1, 8, [.val .nilf]⟩),
  (101, ⟨.struct [(0, 12), (1, 12), (2, 74), (3, 96), (4, 5), (5, 5), (6, 97), (7, 98), (8, 68), (9, 99), (10, 100)], 11, 48, [.val (.int .u64 0), .val (.int .u64 0), .val (.int .u32 0), .val (.int .u8 0), .val (.int .u8 0), .val (.int .u8 0), .val (.int .u8 0), .val .nilf, .val .nilp, .val (.int .i32 0), .val (.int .i32 0)]⟩)]
def T : TT := ttFind tt
@[simp] theorem T_1 : T 1 = some ⟨.other, 1, 8, [.val .nilf]⟩ := rfl
@[simp] theorem T_2 : T 2 = some ⟨.int .i64, 1, 8, [.val (.int .i64 0)]⟩ := rfl
@[simp] theorem T_3 : T 3 = some ⟨.int .i64, 1, 8, [.val (.int .i64 0)]⟩ := rfl
@[simp] theorem T_4 : T 4 = some ⟨.bool, 1, 1, [.val (.bool false)]⟩ := rfl
@[simp] theorem T_5 : T 5 = some ⟨.int .u8, 1, 1, [.val (.int .u8 0)]⟩ := rfl
@[simp] theorem T_9 : T 9 = some ⟨.str, 1, 16, [.val (.str [])]⟩ := rfl
@[simp] theorem T_12 : T 12 = some ⟨.int .u64, 1, 8, [.val (.int .u64 0)]⟩ := rfl
@[simp] theorem T_21 : T 21 = some ⟨.int .i32, 1, 4, [.val (.int .i32 0)]⟩ := rfl
@[simp] theorem T_22 : T 22 = some ⟨.int .i64, 1, 8, [.val (.int .i64 0)]⟩ := rfl
@[simp] theorem T_24 : T 24 = some ⟨.other, 1, 8, [.val .nilf]⟩ := rfl
@[simp] theorem T_25 : T 25 = some ⟨.other, 1, 8, [.val .nilf]⟩ := rfl
@[simp] theorem T_26 : T 26 = some ⟨.other, 1, 8, [.val .nilf]⟩ := rfl
@[simp] theorem T_27 : T 27 = some ⟨.other, 1, 8, [.val .nilf]⟩ := rfl
@[simp] theorem T_28 : T 28 = some ⟨.slice 5, 1, 24, [.nil]⟩ := rfl
@[simp] theorem T_29 : T 29 = some ⟨.array 6 9, 6, 96, [.val (.str []), .val (.str []), .val (.str []), .val (.str []), .val (.str []), .val (.str [])]⟩ := rfl
@[simp] theorem T_30 : T 30 = some ⟨.other, 1, 8, [.val .nilf]⟩ := rfl
@[simp] theorem T_31 : T 31 = some ⟨.other, 1, 8, [.val .nilf]⟩ := rfl
@[simp] theorem T_32 : T 32 = some ⟨.other, 1, 8, [.val .nilf]⟩ := rfl
@[simp] theorem T_33 : T 33 = some ⟨.other, 1, 8, [.val .nilf]⟩ := rfl
@[simp] theorem T_34 : T 34 = some ⟨.array 2 9, 2, 32, [.val (.str []), .val (.str [])]⟩ := rfl
@[simp] theorem T_35 : T 35 = some ⟨.other, 1, 8, [.val .nilf]⟩ := rfl
@[simp] theorem T_36 : T 36 = some ⟨.other, 1, 8, [.val .nilf]⟩ := rfl
@[simp] theorem T_37 : T 37 = some ⟨.other, 1, 8, [.val .nilf]⟩ := rfl
@[simp] theorem T_38 : T 38 = some ⟨.other, 1, 8, [.val .nilp]⟩ := rfl
@[simp] theorem T_39 : T 39 = some ⟨.struct [(0, 38), (1, 28)], 2, 32, [.val .nilp, .nil]⟩ := rfl
@[simp] theorem T_40 : T 40 = some ⟨.struct [(0, 38), (1, 28)], 2, 32, [.val .nilp, .nil]⟩ := rfl
@[simp] theorem T_41 : T 41 = some ⟨.other, 1, 8, [.val .nilf]⟩ := rfl
@[simp] theorem T_42 : T 42 = some ⟨.other, 1, 8, [.val .nilf]⟩ := rfl
@[simp] theorem T_45 : T 45 = some ⟨.other, 1, 8, [.val .nilf]⟩ := rfl
@[simp] theorem T_46 : T 46 = some ⟨.other, 1, 8, [.val .nilf]⟩ := rfl
@[simp] theorem T_48 : T 48 = some ⟨.other, 1, 8, [.val .nilf]⟩ := rfl
@[simp] theorem T_49 : T 49 = some ⟨.other, 1, 8, [.val .nilf]⟩ := rfl
@[simp] theorem T_50 : T 50 = some ⟨.other, 1, 8, [.val .nilf]⟩ := rfl
@[simp] theorem T_51 : T 51 = some ⟨.array 7 9, 7, 112, [.val (.str []), .val (.str []), .val (.str []), .val (.str []), .val (.str []), .val (.str []), .val (.str [])]⟩ := rfl
@[simp] theorem T_53 : T 53 = some ⟨.other, 1, 8, [.val .nilf]⟩ := rfl
@[simp] theorem T_55 : T 55 = some ⟨.other, 1, 8, [.val .nilf]⟩ := rfl
@[simp] theorem T_56 : T 56 = some ⟨.int .u64, 1, 8, [.val (.int .u64 0)]⟩ := rfl
@[simp] theorem T_57 : T 57 = some ⟨.other, 1, 8, [.val .nilf]⟩ := rfl
@[simp] theorem T_61 : T 61 = some ⟨.other, 1, 8, [.val .nilf]⟩ := rfl
@[simp] theorem T_62 : T 62 = some ⟨.other, 1, 8, [.val .nilf]⟩ := rfl
@[simp] theorem T_63 : T 63 = some ⟨.other, 1, 8, [.val .nilp]⟩ := rfl
@[simp] theorem T_65 : T 65 = some ⟨.other, 1, 8, [.val .nilf]⟩ := rfl
@[simp] theorem T_67 : T 67 = some ⟨.other, 1, 8, [.val .nilf]⟩ := rfl
@[simp] theorem T_68 : T 68 = some ⟨.other, 1, 8, [.val .nilp]⟩ := rfl
@[simp] theorem T_69 : T 69 = some ⟨.array 8 3, 8, 64, [.val (.int .i64 0), .val (.int .i64 0), .val (.int .i64 0), .val (.int .i64 0), .val (.int .i64 0), .val (.int .i64 0), .val (.int .i64 0), .val (.int .i64 0)]⟩ := rfl
@[simp] theorem T_70 : T 70 = some ⟨.other, 1, 8, [.val .nilf]⟩ := rfl
@[simp] theorem T_72 : T 72 = some ⟨.other, 1, 8, [.val .nilf]⟩ := rfl
@[simp] theorem T_73 : T 73 = some ⟨.other, 1, 8, [.val .nilf]⟩ := rfl
@[simp] theorem T_74 : T 74 = some ⟨.int .u32, 1, 4, [.val (.int .u32 0)]⟩ := rfl
@[simp] theorem T_76 : T 76 = some ⟨.other, 1, 8, [.val .nilf]⟩ := rfl
@[simp] theorem T_77 : T 77 = some ⟨.int .u64, 1, 8, [.val (.int .u64 0)]⟩ := rfl
@[simp] theorem T_79 : T 79 = some ⟨.other, 1, 8, [.val .nilf]⟩ := rfl
@[simp] theorem T_81 : T 81 = some ⟨.other, 1, 8, [.val .nilf]⟩ := rfl
@[simp] theorem T_82 : T 82 = some ⟨.other, 1, 8, [.val .nilf]⟩ := rfl
@[simp] theorem T_83 : T 83 = some ⟨.other, 1, 8, [.val .nilf]⟩ := rfl
@[simp] theorem T_84 : T 84 = some ⟨.other, 1, 8, [.val .nilf]⟩ := rfl
@[simp] theorem T_85 : T 85 = some ⟨.other, 1, 8, [.val .nilf]⟩ := rfl
@[simp] theorem T_86 : T 86 = some ⟨.other, 1, 8, [.val .nilf]⟩ := rfl
@[simp] theorem T_88 : T 88 = some ⟨.struct [(0, 5), (1, 5)], 2, 2, [.val (.int .u8 0), .val (.int .u8 0)]⟩ := rfl
@[simp] theorem T_89 : T 89 = some ⟨.struct [(0, 5), (1, 5)], 2, 2, [.val (.int .u8 0), .val (.int .u8 0)]⟩ := rfl
@[simp] theorem T_90 : T 90 = some ⟨.array 16 89, 32, 32, [.val (.int .u8 0), .val (.int .u8 0), .val (.int .u8 0), .val (.int .u8 0), .val (.int .u8 0), .val (.int .u8 0), .val (.int .u8 0), .val (.int .u8 0), .val (.int .u8 0), .val (.int .u8 0), .val (.int .u8 0), .val (.int .u8 0), .val (.int .u8 0), .val (.int .u8 0), .val (.int .u8 0), .val (.int .u8 0), .val (.int .u8 0), .val (.int .u8 0), .val (.int .u8 0), .val (.int .u8 0), .val (.int .u8 0), .val (.int .u8 0), .val (.int .u8 0), .val (.int .u8 0), .val (.int .u8 0), .val (.int .u8 0), .val (.int .u8 0), .val (.int .u8 0), .val (.int .u8 0), .val (.int .u8 0), .val (.int .u8 0), .val (.int .u8 0)]⟩ := rfl
@[simp] theorem T_93 : T 93 = some ⟨.array 0 16, 0, 0, []⟩ := rfl
@[simp] theorem T_98 : T 98 = some ⟨.other, 1, 8, [.val .nilf]⟩ := rfl
@[simp] theorem T_101 : T 101 = some ⟨.struct [(0, 12), (1, 12), (2, 74), (3, 96), (4, 5), (5, 5), (6, 97), (7, 98), (8, 68), (9, 99), (10, 100)], 11, 48, [.val (.int .u64 0), .val (.int .u64 0), .val (.int .u32 0), .val (.int .u8 0), .val (.int .u8 0), .val (.int .u8 0), .val (.int .u8 0), .val .nilf, .val .nilp, .val (.int .i32 0), .val (.int .i32 0)]⟩ := rfl
theorem eqN_1 : eqK T 8 1 = none := by kernel_rfl
theorem ty2_e : eqOK Tryd.prog 2 = true := by kernel_rfl
@[simp] theorem eqK_2 : eqK T 8 2 = some [.int .i64] := by kernel_rfl
theorem ty3_e : eqOK Tryd.prog 3 = true := by kernel_rfl
@[simp] theorem eqK_3 : eqK T 8 3 = some [.int .i64] := by kernel_rfl
theorem ty4_e : eqOK Tryd.prog 4 = true := by kernel_rfl
@[simp] theorem eqK_4 : eqK T 8 4 = some [.bool] := by kernel_rfl
theorem ty5_e : eqOK Tryd.prog 5 = true := by kernel_rfl
@[simp] theorem eqK_5 : eqK T 8 5 = some [.int .u8] := by kernel_rfl
theorem ty9_e : eqOK Tryd.prog 9 = true := by kernel_rfl
@[simp] theorem eqK_9 : eqK T 8 9 = some [.str] := by kernel_rfl
theorem ty12_e : eqOK Tryd.prog 12 = true := by kernel_rfl
@[simp] theorem eqK_12 : eqK T 8 12 = some [.int .u64] := by kernel_rfl
theorem ty21_e : eqOK Tryd.prog 21 = true := by kernel_rfl
@[simp] theorem eqK_21 : eqK T 8 21 = some [.int .i32] := by kernel_rfl
theorem ty22_e : eqOK Tryd.prog 22 = true := by kernel_rfl
@[simp] theorem eqK_22 : eqK T 8 22 = some [.int .i64] := by kernel_rfl
theorem eqN_24 : eqK T 8 24 = none := by kernel_rfl
theorem eqN_25 : eqK T 8 25 = none := by kernel_rfl
theorem eqN_26 : eqK T 8 26 = none := by kernel_rfl
theorem eqN_27 : eqK T 8 27 = none := by kernel_rfl
theorem eqN_28 : eqK T 8 28 = none := by kernel_rfl
theorem ty29_e : eqOK Tryd.prog 29 = true := by kernel_rfl
@[simp] theorem eqK_29 : eqK T 8 29 = some [.str, .str, .str, .str, .str, .str] := by kernel_rfl
theorem eqN_30 : eqK T 8 30 = none := by kernel_rfl
theorem eqN_31 : eqK T 8 31 = none := by kernel_rfl
theorem eqN_32 : eqK T 8 32 = none := by kernel_rfl
theorem eqN_33 : eqK T 8 33 = none := by kernel_rfl
theorem ty34_e : eqOK Tryd.prog 34 = true := by kernel_rfl
@[simp] theorem eqK_34 : eqK T 8 34 = some [.str, .str] := by kernel_rfl
theorem eqN_35 : eqK T 8 35 = none := by kernel_rfl
theorem eqN_36 : eqK T 8 36 = none := by kernel_rfl
theorem eqN_37 : eqK T 8 37 = none := by kernel_rfl
theorem eqN_38 : eqK T 8 38 = none := by kernel_rfl
theorem eqN_39 : eqK T 8 39 = none := by kernel_rfl
theorem eqN_40 : eqK T 8 40 = none := by kernel_rfl
theorem eqN_41 : eqK T 8 41 = none := by kernel_rfl
theorem eqN_42 : eqK T 8 42 = none := by kernel_rfl
theorem eqN_45 : eqK T 8 45 = none := by kernel_rfl
theorem eqN_46 : eqK T 8 46 = none := by kernel_rfl
theorem eqN_48 : eqK T 8 48 = none := by kernel_rfl
theorem eqN_49 : eqK T 8 49 = none := by kernel_rfl
theorem eqN_50 : eqK T 8 50 = none := by kernel_rfl
theorem ty51_e : eqOK Tryd.prog 51 = true := by kernel_rfl
@[simp] theorem eqK_51 : eqK T 8 51 = some [.str, .str, .str, .str, .str, .str, .str] := by kernel_rfl
theorem eqN_53 : eqK T 8 53 = none := by kernel_rfl
theorem eqN_55 : eqK T 8 55 = none := by kernel_rfl
theorem ty56_e : eqOK Tryd.prog 56 = true := by kernel_rfl
@[simp] theorem eqK_56 : eqK T 8 56 = some [.int .u64] := by kernel_rfl
theorem eqN_57 : eqK T 8 57 = none := by kernel_rfl
theorem eqN_61 : eqK T 8 61 = none := by kernel_rfl
theorem eqN_62 : eqK T 8 62 = none := by kernel_rfl
theorem eqN_63 : eqK T 8 63 = none := by kernel_rfl
theorem eqN_65 : eqK T 8 65 = none := by kernel_rfl
theorem eqN_67 : eqK T 8 67 = none := by kernel_rfl
theorem eqN_68 : eqK T 8 68 = none := by kernel_rfl
theorem ty69_e : eqOK Tryd.prog 69 = true := by kernel_rfl
@[simp] theorem eqK_69 : eqK T 8 69 = some [.int .i64, .int .i64, .int .i64, .int .i64, .int .i64, .int .i64, .int .i64, .int .i64] := by kernel_rfl
theorem eqN_70 : eqK T 8 70 = none := by kernel_rfl
theorem eqN_72 : eqK T 8 72 = none := by kernel_rfl
theorem eqN_73 : eqK T 8 73 = none := by kernel_rfl
theorem ty74_e : eqOK Tryd.prog 74 = true := by kernel_rfl
@[simp] theorem eqK_74 : eqK T 8 74 = some [.int .u32] := by kernel_rfl
theorem eqN_76 : eqK T 8 76 = none := by kernel_rfl
theorem ty77_e : eqOK Tryd.prog 77 = true := by kernel_rfl
@[simp] theorem eqK_77 : eqK T 8 77 = some [.int .u64] := by kernel_rfl
theorem eqN_79 : eqK T 8 79 = none := by kernel_rfl
theorem eqN_81 : eqK T 8 81 = none := by kernel_rfl
theorem eqN_82 : eqK T 8 82 = none := by kernel_rfl
theorem eqN_83 : eqK T 8 83 = none := by kernel_rfl
theorem eqN_84 : eqK T 8 84 = none := by kernel_rfl
theorem eqN_85 : eqK T 8 85 = none := by kernel_rfl
theorem eqN_86 : eqK T 8 86 = none := by kernel_rfl
theorem ty88_e : eqOK Tryd.prog 88 = true := by kernel_rfl
@[simp] theorem eqK_88 : eqK T 8 88 = some [.int .u8, .int .u8] := by kernel_rfl
theorem ty89_e : eqOK Tryd.prog 89 = true := by kernel_rfl
@[simp] theorem eqK_89 : eqK T 8 89 = some [.int .u8, .int .u8] := by kernel_rfl
theorem ty90_e : eqOK Tryd.prog 90 = true := by kernel_rfl
@[simp] theorem eqK_90 : eqK T 8 90 = some [.int .u8, .int .u8, .int .u8, .int .u8, .int .u8, .int .u8, .int .u8, .int .u8, .int .u8, .int .u8, .int .u8, .int .u8, .int .u8, .int .u8, .int .u8, .int .u8, .int .u8, .int .u8, .int .u8, .int .u8, .int .u8, .int .u8, .int .u8, .int .u8, .int .u8, .int .u8, .int .u8, .int .u8, .int .u8, .int .u8, .int .u8, .int .u8] := by kernel_rfl
theorem eqN_93 : eqK T 8 93 = none := by kernel_rfl
theorem eqN_98 : eqK T 8 98 = none := by kernel_rfl
theorem eqN_101 : eqK T 8 101 = none := by kernel_rfl
theorem tok : TOK Tryd.prog T := tok_of rfl (by
  simp only [tt, List.forall_mem_cons, List.not_mem_nil, false_imp_iff, implies_true, and_true]
  exact ⟨tokRow ty1_u ty1_i trivial (by simp [zval, Value.cells]) rfl rfl,
    tokRow ty2_u ty2_i rfl (by simp [zval, Value.cells]) rfl rfl,
    tokRow ty3_u ty3_i rfl (by simp [zval, Value.cells]) rfl rfl,
    tokRow ty4_u ty4_i rfl (by simp [zval, Value.cells]) rfl rfl,
    tokRow ty5_u ty5_i rfl (by simp [zval, Value.cells]) rfl rfl,
    tokRow ty9_u ty9_i rfl (by simp [zval, Value.cells]) rfl rfl,
    tokRow ty12_u ty12_i rfl (by simp [zval, Value.cells]) rfl rfl,
    tokRow ty21_u ty21_i rfl (by simp [zval, Value.cells]) rfl rfl,
    tokRow ty22_u ty22_i rfl (by simp [zval, Value.cells]) rfl rfl,
    tokRow ty24_u ty24_i trivial (by simp [zval, Value.cells]) rfl rfl,
    tokRow ty25_u ty25_i trivial (by simp [zval, Value.cells]) rfl rfl,
    tokRow ty26_u ty26_i trivial (by simp [zval, Value.cells]) rfl rfl,
    tokRow ty27_u ty27_i trivial (by simp [zval, Value.cells]) rfl rfl,
    tokRow ty28_u ty28_i rfl (by simp [zval, Value.cells]) rfl rfl,
    tokRow ty29_u ty29_i rfl (by simp [zval, Value.cells]) rfl rfl,
    tokRow ty30_u ty30_i trivial (by simp [zval, Value.cells]) rfl rfl,
    tokRow ty31_u ty31_i trivial (by simp [zval, Value.cells]) rfl rfl,
    tokRow ty32_u ty32_i trivial (by simp [zval, Value.cells]) rfl rfl,
    tokRow ty33_u ty33_i trivial (by simp [zval, Value.cells]) rfl rfl,
    tokRow ty34_u ty34_i rfl (by simp [zval, Value.cells]) rfl rfl,
    tokRow ty35_u ty35_i trivial (by simp [zval, Value.cells]) rfl rfl,
    tokRow ty36_u ty36_i trivial (by simp [zval, Value.cells]) rfl rfl,
    tokRow ty37_u ty37_i trivial (by simp [zval, Value.cells]) rfl rfl,
    tokRow ty38_u ty38_i trivial (by simp [zval, Value.cells]) rfl rfl,
    tokRow ty39_u ty39_i ⟨_, rfl, rfl⟩ (by simp [zval, Value.cells]) rfl rfl,
    tokRow ty40_u ty40_i ⟨_, rfl, rfl⟩ (by simp [zval, Value.cells]) rfl rfl,
    tokRow ty41_u ty41_i trivial (by simp [zval, Value.cells]) rfl rfl,
    tokRow ty42_u ty42_i trivial (by simp [zval, Value.cells]) rfl rfl,
    tokRow ty45_u ty45_i trivial (by simp [zval, Value.cells]) rfl rfl,
    tokRow ty46_u ty46_i trivial (by simp [zval, Value.cells]) rfl rfl,
    tokRow ty48_u ty48_i trivial (by simp [zval, Value.cells]) rfl rfl,
    tokRow ty49_u ty49_i trivial (by simp [zval, Value.cells]) rfl rfl,
    tokRow ty50_u ty50_i trivial (by simp [zval, Value.cells]) rfl rfl,
    tokRow ty51_u ty51_i rfl (by simp [zval, Value.cells]) rfl rfl,
    tokRow ty53_u ty53_i trivial (by simp [zval, Value.cells]) rfl rfl,
    tokRow ty55_u ty55_i trivial (by simp [zval, Value.cells]) rfl rfl,
    tokRow ty56_u ty56_i rfl (by simp [zval, Value.cells]) rfl rfl,
    tokRow ty57_u ty57_i trivial (by simp [zval, Value.cells]) rfl rfl,
    tokRow ty61_u ty61_i trivial (by simp [zval, Value.cells]) rfl rfl,
    tokRow ty62_u ty62_i trivial (by simp [zval, Value.cells]) rfl rfl,
    tokRow ty63_u ty63_i trivial (by simp [zval, Value.cells]) rfl rfl,
    tokRow ty65_u ty65_i trivial (by simp [zval, Value.cells]) rfl rfl,
    tokRow ty67_u ty67_i trivial (by simp [zval, Value.cells]) rfl rfl,
    tokRow ty68_u ty68_i trivial (by simp [zval, Value.cells]) rfl rfl,
    tokRow ty69_u ty69_i rfl (by simp [zval, Value.cells]) rfl rfl,
    tokRow ty70_u ty70_i trivial (by simp [zval, Value.cells]) rfl rfl,
    tokRow ty72_u ty72_i trivial (by simp [zval, Value.cells]) rfl rfl,
    tokRow ty73_u ty73_i trivial (by simp [zval, Value.cells]) rfl rfl,
    tokRow ty74_u ty74_i rfl (by simp [zval, Value.cells]) rfl rfl,
    tokRow ty76_u ty76_i trivial (by simp [zval, Value.cells]) rfl rfl,
    tokRow ty77_u ty77_i rfl (by simp [zval, Value.cells]) rfl rfl,
    tokRow ty79_u ty79_i trivial (by simp [zval, Value.cells]) rfl rfl,
    tokRow ty81_u ty81_i trivial (by simp [zval, Value.cells]) rfl rfl,
    tokRow ty82_u ty82_i trivial (by simp [zval, Value.cells]) rfl rfl,
    tokRow ty83_u ty83_i trivial (by simp [zval, Value.cells]) rfl rfl,
    tokRow ty84_u ty84_i trivial (by simp [zval, Value.cells]) rfl rfl,
    tokRow ty85_u ty85_i trivial (by simp [zval, Value.cells]) rfl rfl,
    tokRow ty86_u ty86_i trivial (by simp [zval, Value.cells]) rfl rfl,
    tokRow ty88_u ty88_i ⟨_, rfl, rfl⟩ (by simp [zval, Value.cells]) rfl rfl,
    tokRow ty89_u ty89_i ⟨_, rfl, rfl⟩ (by simp [zval, Value.cells]) rfl rfl,
    tokRow ty90_u ty90_i rfl (by simp [zval, Value.cells]) rfl rfl,
    tokRow ty93_u ty93_i rfl (by simp [zval, Value.cells]) rfl rfl,
    tokRow ty98_u ty98_i trivial (by simp [zval, Value.cells]) rfl rfl,
    tokRow ty101_u ty101_i ⟨_, rfl, rfl⟩ (by simp [zval, Value.cells]) rfl rfl⟩) (by
  simp only [tt, List.forall_mem_cons, List.not_mem_nil, false_imp_iff, implies_true, and_true]
  exact ⟨eq_not eqN_1, fun _ => ty2_e, fun _ => ty3_e, fun _ => ty4_e, fun _ => ty5_e, fun _ => ty9_e, fun _ => ty12_e, fun _ => ty21_e, fun _ => ty22_e, eq_not eqN_24, eq_not eqN_25, eq_not eqN_26, eq_not eqN_27, eq_not eqN_28, fun _ => ty29_e, eq_not eqN_30, eq_not eqN_31, eq_not eqN_32, eq_not eqN_33, fun _ => ty34_e, eq_not eqN_35, eq_not eqN_36, eq_not eqN_37, eq_not eqN_38, eq_not eqN_39, eq_not eqN_40, eq_not eqN_41, eq_not eqN_42, eq_not eqN_45, eq_not eqN_46, eq_not eqN_48, eq_not eqN_49, eq_not eqN_50, fun _ => ty51_e, eq_not eqN_53, eq_not eqN_55, fun _ => ty56_e, eq_not eqN_57, eq_not eqN_61, eq_not eqN_62, eq_not eqN_63, eq_not eqN_65, eq_not eqN_67, eq_not eqN_68, fun _ => ty69_e, eq_not eqN_70, eq_not eqN_72, eq_not eqN_73, fun _ => ty74_e, eq_not eqN_76, fun _ => ty77_e, eq_not eqN_79, eq_not eqN_81, eq_not eqN_82, eq_not eqN_83, eq_not eqN_84, eq_not eqN_85, eq_not eqN_86, fun _ => ty88_e, fun _ => ty89_e, fun _ => ty90_e, eq_not eqN_93, eq_not eqN_98, eq_not eqN_101⟩)
theorem mixed : Tryd.prog.follows .mixedOrders = true := by kernel_rfl
end Fen

namespace Fen
open Go Go.Proofs Go.RowKit

theorem sizeBld : (Tryd.prog.info? 40).map (·.size) = some 2 := by kernel_rfl
theorem cellsByte : Tryd.prog.cellsOf 5 = 1 := by kernel_rfl
theorem liesBld : liesAt Tryd.prog Tryd.prog.depth 40 (2 / Tryd.prog.cellsOf 40) 0 40 1 = true := by kernel_rfl

set_option maxHeartbeats 1000000 in
set_option maxRecDepth 100000 in
theorem cc_used (b : Nat) (w : World) (h0 : w.cell? ⟨b, 0, none⟩ = some (.pointer (some ⟨b, 0, none⟩))) :
    Calls Tryd.prog 37 #[.pointer (some ⟨b, 0, none⟩)] w fun e w' => e = .returned (.tuple #[]) ∧ w' = w := by
  obtain ⟨j, hj, _⟩ := Option.map_eq_some_iff.1 sizeBld
  go_enter Tryd.func37, Tryd.ntmps37
  go_wp2
  rw [Lib.run_neq_ptr_same w _ Tryd.underlying38 hj]
  go_wp2
  go_end0
  exact ⟨rfl, rfl⟩

set_option maxHeartbeats 1000000 in
set_option maxRecDepth 100000 in
theorem cc_fresh (b : Nat) (w : World) (h0 : w.cell? ⟨b, 0, none⟩ = some (.pointer none)) (hsh : w.shape? b = some (40, 2)) (hfz : w.frozen? ⟨b, 0, none⟩ = false) :
    Calls Tryd.prog 37 #[.pointer (some ⟨b, 0, none⟩)] w fun e w' => e = .returned (.tuple #[]) ∧ w' = w.setCell ⟨b, 0, none⟩ (.pointer (some ⟨b, 0, none⟩)) := by
  obtain ⟨j, hj, hjs⟩ := Option.map_eq_some_iff.1 sizeBld
  go_enter Tryd.func37, Tryd.ntmps37
  go_wp2
  rw [Lib.run_to_unsafe w ⟨b, 0, none⟩ Tryd.underlying38 Tryd.underlying80 hj (by rw [hjs]; decide) hsh (Nat.zero_lt_succ 1)]
  simp only [Result.andThen]
  rw [Oper.upon_value]
  go_wp2
  rw [run_callFunc_extern Tryd.func45 (by kernel_rfl) (by kernel_rfl) (by kernel_rfl) (e := Extern.AbiNoEscape.same) (by kernel_rfl)]
  rw [Lib.run_noEscape]
  simp only [Result.andThen]
  rw [Oper.upon_value]
  go_wp2
  rw [Lib.run_from_unsafe w ⟨b, 0, none⟩ Tryd.underlying80 Tryd.underlying38 hj hsh liesBld]
  simp only [Result.andThen]
  rw [Oper.upon_value]
  go_wp2
  go_end0
  exact ⟨rfl, rfl⟩

set_option maxHeartbeats 1000000 in
set_option maxRecDepth 100000 in
theorem bld_string (b g : Nat) (l : List UInt8) (cap : Nat) (cur : Array Value) (p : Value) (w : World) (hbk : w.heap[b]? = some (.cells #[p, .slice (some ⟨g, 0, none⟩) l.length cap] 40 (0, 0)))
    (hg : w.heap[g]? = some (.cells cur 5 (0, 0))) (h0 : l ≠ []) (hnc : l.length ≤ cap) (hcm : cap ≤ maxLen) (hcs : cur.size = cap * 1) (hcell : ∀ (j : Nat) (x : UInt8), l[j]? = some x → cur.toList[j]? = some (Value.int .u8 x.toNat)) :
    Calls Tryd.prog 22 #[.pointer (some ⟨b, 0, none⟩)] w fun e w' => e = .returned (.string ⟨l.toArray⟩) ∧ w' = w.drew.freeze ⟨g, 0, none⟩ l.length := by
  have hl0 : l.length ≠ 0 := by simpa using h0
  have c1 : w.drew.cell? ⟨b, 1, none⟩ = some (.slice (some ⟨g, 0, none⟩) l.length cap) := by
    have : w.drew.heap[b]? = some (.cells #[p, .slice (some ⟨g, 0, none⟩) l.length cap] 40 (0, 0)) := hbk
    rw [Lib.cell_of_heap this]; rfl
  have hSD : (Builtin.unsafeSliceData_ #[28] 68 #[.slice (some ⟨g, 0, none⟩) l.length cap]).run Tryd.prog w.drew = .ok (.pointer (some ⟨g, 0, none⟩)) w.drew :=
    Lib.run_unsafeSliceData_row _ _ _ _ _ _ (by omega)
  have hUS : (Builtin.unsafeString_ #[68, 3] 9 #[.pointer (some ⟨g, 0, none⟩), .int .i64 l.length]).run Tryd.prog w.drew = .ok (.string ⟨l.toArray⟩) (w.drew.freeze ⟨g, 0, none⟩ l.length) := by
    refine Lib.run_unsafeString_row w.drew 68 3 9 5 Tryd.underlying68 cellsByte g cur.size (by have hg' : w.drew.heap[g]? = some (.cells cur 5 (0, 0)) := hg; simp [World.shape?, hg']) l h0 (by omega) (by unfold maxLen at hcm; omega) ?_
    intro j x hx
    have hg' : w.drew.heap[g]? = some (.cells cur 5 (0, 0)) := hg
    rw [Go.WideShapes.add_plain, Lib.cell_of_heap hg']
    simpa using hcell j x hx
  have mixed := mixed
  go_enter Tryd.func22, Tryd.ntmps22
  go_wp2
  go_region_o
  all_goals (go_wp2; go_ret; exact ⟨rfl, rfl⟩)

set_option maxHeartbeats 1000000 in
set_option maxRecDepth 100000 in
theorem bld_string_nil (b : Nat) (p : Value) (w : World) (hbk : w.heap[b]? = some (.cells #[p, .slice none 0 0] 40 (0, 0))) :
    Calls Tryd.prog 22 #[.pointer (some ⟨b, 0, none⟩)] w fun e w' => e = .returned (.string ⟨#[]⟩) ∧ w' = w.drew := by
  have hUS := fun (W : World) (q : Option Addr) => Lib.run_unsafeString_none (P := Tryd.prog) W 68 3 9 q
  have c1 : w.drew.cell? ⟨b, 1, none⟩ = some (.slice none 0 0) := by
    have : w.drew.heap[b]? = some (.cells #[p, .slice none 0 0] 40 (0, 0)) := hbk
    rw [Lib.cell_of_heap this]; rfl
  have hSD : (Builtin.unsafeSliceData_ #[28] 68 #[.slice none 0 0]).run Tryd.prog w.drew = .ok (.pointer none) w.drew := rfl
  have mixed := mixed
  go_enter Tryd.func22, Tryd.ntmps22
  go_wp2
  go_region_o
  all_goals (go_wp2; go_ret; exact ⟨rfl, rfl⟩)
end Fen

namespace Fen
open Go Go.Proofs Go.RowKit

def ccHS : HS := { wr := true, eff := fun xs h => match xs with
  | [.ptr id 0 0] => (match h[id]? with
    | some (.box 40 [a, b]) => (a = .val .nilp ∨ a = .ptr id 0 0, .tup [], h.set id (.box 40 [.ptr id 0 0, b]))
    | _ => (False, .dead, h))
  | _ => (False, .dead, h) }
def ccSpec : Spec := { pre := fun _ => False, res := fun _ => .many [], hp := some ccHS }

theorem cc_sound (gl : Gl) : Sound Tryd.prog gl 37 ccSpec := by
  refine ⟨enters_of Tryd.func37 rfl rfl, fun h => (by cases h), fun hs e xs h hp => ?_⟩
  cases e
  simp only [ccHS] at hp
  split at hp
  · rename_i id
    split at hp
    · rename_i a b hb
      intro bs g w vs hgl H r
      simp only [RelXs] at r
      obtain ⟨v, us, rfl, r, rfl⟩ := r
      have hk := H.blk id _ hb
      simp only [BlkOK] at hk
      obtain ⟨hex, ha, hS, cs, hcur, hr⟩ := hk
      simp only [RelXs] at hr
      obtain ⟨va, us, e1, r1, vb, us', rfl, r2, rfl⟩ := hr
      obtain rfl : cs = #[va, vb] := by apply Array.ext'; simpa using e1
      have hself : RelX g (h.set id (.box 40 [.ptr id 0 0, b])) (.ptr id 0 0) (.pointer (some ⟨(g.ad id).1, 0, none⟩)) := by
        simp only [RelX]
        exact ⟨_, get_set_eq (lt_of_get hb), Nat.le_refl _, ⟨_, rfl⟩, fun _ => by rw [ha]⟩
      have hv : v = .pointer (some ⟨(g.ad id).1, 0, none⟩) := by
        simp only [RelX] at r
        obtain ⟨b', hb', _, _, hq⟩ := r
        rw [hb] at hb'; cases hb'
        rw [hq rfl, ha]
      subst hv
      have c0 : w.cell? ⟨(g.ad id).1, 0, none⟩ = some va := by rw [cell_of hcur]; rfl
      have hx : (hcEff ccHS [.ptr id 0 0] h).x = .tup [] ∧ (hcEff ccHS [.ptr id 0 0] h).h = h.set id (.box 40 [.ptr id 0 0, b]) := by simp [hcEff, ccHS, hb]
      rw [hx.1, hx.2]
      rcases hp with rfl | rfl
      · simp only [RelX, RepV] at r1
        subst r1
        refine (cc_fresh _ w c0 (by simp [World.shape?, hcur]) (Lib.frozen_of_heap hcur 0)).mono ?_
        rintro e w' ⟨rfl, rfl⟩
        obtain ⟨E, H'⟩ := H.first (a' := .ptr id 0 0) hb (v := .pointer (some ⟨(g.ad id).1, 0, none⟩)) hself
        exact ⟨_, _, _, g, rfl, ⟨rfl, rfl⟩, E, H', by simp [RelX, RelXs]⟩
      · have hva : va = .pointer (some ⟨(g.ad id).1, 0, none⟩) := by
          simp only [RelX] at r1
          obtain ⟨b', hb', _, _, hq⟩ := r1
          rw [hb] at hb'; cases hb'
          rw [hq rfl, ha]
        subst hva
        refine (cc_used _ w c0).mono ?_
        rintro e w' ⟨rfl, rfl⟩
        have hse : h.set id (.box 40 [.ptr id 0 0, b]) = h := by
          apply List.ext_getElem?; intro i
          rw [List.getElem?_set]
          split
          · rename_i e; subst e; rw [hb, if_pos (lt_of_get hb)]
          · rfl
        rw [hse]
        exact ⟨_, _, _, g, rfl, ⟨rfl, rfl⟩, Ext.refl _ _, H, by simp [RelX, RelXs]⟩
    · exact hp.elim
  · exact hp.elim


def strHS : HS := { wr := true, eff := fun xs h => match xs with
  | [.ptr id 0 0] => (match h[id]? with
    | some (.box 40 [_, .nil]) => (True, .val (.str []), h)
    | some (.box 40 [a, .ref j v]) => (match h[j]? with
      | some (.sl 5 v' p 1 n cs) => (v = v' ∧ 0 < n ∧ p = true ∧ (cs.map byteOf).map byteC = cs, .val (.str (cs.map byteOf)), (h.set id (.box 40 [a, .val (.sl n cs)])).set j (.sl 5 (v' + 1) false 1 0 []))
      | _ => (False, .dead, h))
    | _ => (False, .dead, h))
  | _ => (False, .dead, h) }
def strSpec : Spec := { pre := fun _ => False, res := fun _ => .many [], hp := some strHS }

theorem str_sound (gl : Gl) : Sound Tryd.prog gl 22 strSpec := by
  refine ⟨enters_of Tryd.func22 rfl rfl, fun h => (by cases h), fun hs e xs h hp => ?_⟩
  cases e
  simp only [strHS] at hp
  split at hp
  · rename_i id
    have self : ∀ {bs : Base} {g : Gh} {w : World} {a b : X} {v : Value}, HeapOK bs g h w → h[id]? = some (.box 40 [a, b]) → RelX g h (.ptr id 0 0) v →
        v = .pointer (some ⟨(g.ad id).1, 0, none⟩) ∧ ∃ va vb, w.heap[(g.ad id).1]? = some (.cells #[va, vb] 40 (0, 0)) ∧ RelX g h a va ∧ RelX g h b vb := fun {bs g w a b v} H hb r => by
      have hk := H.blk id _ hb
      simp only [BlkOK] at hk
      obtain ⟨hex, ha, hS, cs, hcur, hr⟩ := hk
      simp only [RelXs] at hr
      obtain ⟨va, us, e1, r1, vb, us', rfl, r2, rfl⟩ := hr
      obtain rfl : cs = #[va, vb] := by apply Array.ext'; simpa using e1
      refine ⟨?_, va, vb, hcur, r1, r2⟩
      simp only [RelX] at r
      obtain ⟨b', hb', _, _, hq⟩ := r
      rw [hb] at hb'; cases hb'
      rw [hq rfl, ha]
    split at hp
    · rename_i a hb
      intro bs g w vs hgl H r
      simp only [RelXs] at r
      obtain ⟨v, us, rfl, r, rfl⟩ := r
      obtain ⟨rfl, va, vb, hcur, _, r2⟩ := self H hb r
      simp only [RelX] at r2; subst r2
      have hx : (hcEff strHS [.ptr id 0 0] h).x = .val (.str []) ∧ (hcEff strHS [.ptr id 0 0] h).h = h := by simp [hcEff, strHS, hb]
      rw [hx.1, hx.2]
      refine (bld_string_nil _ va w hcur).mono ?_
      rintro e w' ⟨rfl, rfl⟩
      exact ⟨_, _, _, g, rfl, ⟨rfl, rfl⟩, Ext.refl _ _, H.drew, by simp [RelX, RepV]⟩
    · rename_i a j v0 hb
      split at hp
      · rename_i v' p n cs hj
        obtain ⟨rfl, hn, rfl, hcs⟩ := hp
        intro bs g w vs hgl H r
        simp only [RelXs] at r
        obtain ⟨v, us, rfl, r, rfl⟩ := r
        obtain ⟨rfl, va, vb, hcur, r1, r2⟩ := self H hb r
        have hvb := rel_ref H hj r2
        have hne' : id ≠ j := by rintro rfl; rw [hj] at hb; cases hb
        have hk := H.blk j _ hj
        simp only [BlkOK] at hk
        obtain ⟨h0, hl, hk⟩ := hk
        have hx : (hcEff strHS [.ptr id 0 0] h).x = .val (.str (cs.map byteOf)) ∧ (hcEff strHS [.ptr id 0 0] h).h = (h.set id (.box 40 [a, .val (.sl n cs)])).set j (.sl 5 (v0 + 1) false 1 0 []) := by simp [hcEff, strHS, hb, hj]
        rw [hx.1, hx.2]
        rcases hk with ⟨k1, k2, k3⟩ | ⟨hex, ha, cap, cur, k1, k2, k3, k4, k5, k6, k7⟩ | ⟨hex, hpf, k1, k2, vs, k3, k4⟩
        · omega
        · have hlen : (cs.map byteOf).length = n := by simp; omega
          have hne : cs.map byteOf ≠ [] := fun e => by rw [e] at hlen; simp at hlen; omega
          have hcur0 := hcur
          rw [hvb, k1] at hcur
          have hcell : ∀ (i : Nat) (x : UInt8), (cs.map byteOf)[i]? = some x → cur.toList[i]? = some (Value.int .u8 x.toNat) := fun i x hi => by
            have hc : cs[i]? = some (byteC x) := by rw [← hcs, List.getElem?_map, hi]; rfl
            obtain ⟨u, hu, ru⟩ := k6.at hc
            rw [List.getElem?_take] at hu
            split at hu
            · simp only [byteC, RepV] at ru; rw [hu, ru]
            · cases hu
          -- the memory's value, frozen
          have e : toV1 h (.ref j v0) = some (.c (.sl n cs), h.set j (.sl 5 v0 false 1 n cs)) := by simp only [toV1, hj, if_true]
          obtain ⟨S', E1, H1, hrep⟩ := toV1_ok H r2 e
          have hb1 : (h.set j (.sl 5 v0 false 1 n cs))[id]? = some (.box 40 [a, .ref j v0]) := by rw [get_set_ne hne']; exact hb
          obtain ⟨E2, H2⟩ := H1.rebox (ys := [a, .val (.sl n cs)]) hb1 fun vs hvs => by
            simp only [RelXs] at hvs ⊢
            obtain ⟨u, us, rfl, q1, u2, us2, rfl, q2, rfl⟩ := hvs
            have : u2 = g.hd j := by
              simp only [RelX] at q2
              obtain ⟨b, h1, _, _, _, h2⟩ := q2
              rw [get_set_eq (lt_of_get hj)] at h1; cases h1
              exact h2 rfl
            refine ⟨u, _, rfl, q1, u2, [], rfl, ?_, rfl⟩
            rw [this, ← hvb]
            simpa only [RelX, RepA] using hrep
          have hj2 : ((h.set j (.sl 5 v0 false 1 n cs)).set id (.box 40 [a, .val (.sl n cs)]))[j]? = some (.sl 5 v0 false 1 n cs) := by
            rw [get_set_ne (Ne.symm hne')]; exact get_set_eq (lt_of_get hj)
          rw [← hlen] at hcur k2
          refine (bld_string _ _ (cs.map byteOf) cap cur va w hcur k4 hne k2 k3 k5 hcell).mono ?_
          rintro e w' ⟨rfl, rfl⟩
          obtain ⟨g', E3, H3⟩ := H2.drew.shut (m := (cs.map byteOf).length) hj2 hex
          have hh : ((h.set j (.sl 5 v0 false 1 n cs)).set id (.box 40 [a, .val (.sl n cs)])).set j (.sl 5 (v0 + 1) false 1 0 []) = (h.set id (.box 40 [a, .val (.sl n cs)])).set j (.sl 5 (v0 + 1) false 1 0 []) := by
            rw [List.set_comm _ _ (Ne.symm hne'), List.set_set]
          rw [hh] at E3 H3
          exact ⟨_, _, _, g', rfl, ⟨rfl, rfl⟩, (E1.trans E2).trans E3, H3, by simp [RelX, RepV]⟩
        · cases hpf
      · exact hp.elim
    · exact hp.elim
  · exact hp.elim

/-! ### the builder at the head of a heap, its memory in block i -/
def hB (i : Nat) (out : List UInt8) : Blk := .box 40 (if out = [] then [.val .nilp, .nil] else [.ptr 0 0 0, .ref i (out.length - 1)])
def hS (out : List UInt8) : List Blk := if out = [] then [] else [.sl 5 (out.length - 1) true 1 out.length (out.map byteC)]
def outOf : List Blk → List UInt8
  | [.sl _ _ _ _ _ cs] => cs.map byteOf
  | _ => []
theorem byteOf_byteC (l : List UInt8) : (l.map byteC).map byteOf = l := by
  rw [List.map_map]
  conv => rhs; rw [← List.map_id l]
  apply List.map_congr_left
  intro x _
  simp [byteC, byteOf]
@[simp] theorem outOf_hS (out : List UInt8) : outOf (hS out) = out := by
  unfold hS
  by_cases h : out = []
  · rw [if_pos h]; simp [outOf, h]
  · rw [if_neg h]; simp only [outOf, byteOf_byteC]
def hOK (i : Nat) (b : Blk) (t : List Blk) : Prop := ∃ out, b = hB i out ∧ t = hS out ∧ out.length < 100000
theorem hOK_mk {i : Nat} {out : List UInt8} (h : out.length < 100000) : hOK i (hB i out) (hS out) := ⟨out, rfl, rfl, h⟩
def u8i (c : Int) : UInt8 := UInt8.ofNat c.toNat
theorem byteC_u8i {c : Int} (h0 : 0 ≤ c) (h1 : c < 256) : (((u8i c).toNat : Nat) : Int) = c := by
  simp only [u8i, UInt8.toNat_ofNat']
  omega
@[simp] theorem strip_nilIface : strip (constX Value.nilIface) = (true, .dead) := rfl
theorem len_back {out : List UInt8} (e : ¬ out = []) : out.length - 1 + 1 = out.length := by
  have : out.length ≠ 0 := by simpa using e
  omega
def wbHS : HS := { wr := true, eff := fun xs h => match xs, h with
  | [.ptr 0 0 0, .val (.int .u8 c)], b :: x1 :: x2 :: x3 :: x4 :: x5 :: t => (hOK 6 b t ∧ 0 ≤ c ∧ c < 256, .dead, hB 6 (outOf t ++ [u8i c]) :: x1 :: x2 :: x3 :: x4 :: x5 :: hS (outOf t ++ [u8i c]))
  | _, _ => (False, .dead, h) }
def wbSpec : Spec := { pre := fun _ => False, res := fun _ => .many [], hp := some wbHS }
def G_wb : Specs := [(37, ccSpec)]
@[simp] theorem G_wb_live : Specs.live G_wb = false := rfl
@[simp] theorem G_wb_37 : G_wb.find 37 = some ccSpec := rfl
theorem G_wb_ok (gl : Gl) : SpecsOK Tryd.prog gl G_wb := .cons (cc_sound gl) (.nil _ _)
set_option maxHeartbeats 2000000 in
set_option maxRecDepth 10000 in
theorem wb_sound (gl : Gl) : Sound Tryd.prog gl 21 wbSpec := by
  refine sound_heap (hs := wbHS) (N := Tryd.f21.ntmps) (rs := Tryd.f21.results.toList) mixed tok (G_wb_ok gl) Tryd.func21 rfl rfl rfl rfl rfl ?_ ?_
  · intro xs h hp
    simp only [wbHS] at hp
    split at hp
    all_goals first | exact hp.elim | simp [Tryd.f21]
  · intro xs h hp bs hgl hh hro
    have hE : Env.OK ⟨Tryd.prog, T, G_wb, bs⟩ := ⟨tok, by rw [hgl]; exact G_wb_ok gl⟩
    simp only [wbHS] at hp
    split at hp
    · rename_i c b x1 x2 x3 x4 x5 t
      obtain ⟨⟨out, rfl, rfl, hl⟩, hc0, hc1⟩ := hp
      have hb := byteC_u8i hc0 hc1
      by_cases e : out = []
      · subst e
        simp [Tryd.f21, hcEff, wbHS, ccSpec, ccHS, hB, hS, outOf, hb]
        exact RetTo.same ⟨rfl, rfl⟩
      · have e1 := len_back e
        have o2 : outOf (hS out) = out := outOf_hS out
        simp only [hS, if_neg e] at o2
        simp [Tryd.f21, hcEff, wbHS, ccSpec, ccHS, hB, hS, e, e1, hb, o2]
        refine ⟨?_, ?_⟩
        · omega
        · exact RetTo.same ⟨rfl, rfl⟩
    · exact hp.elim
def wb7HS : HS := { wr := true, eff := fun xs h => match xs, h with
  | [.ptr 0 0 0, .val (.int .u8 c)], b :: x1 :: x2 :: x3 :: x4 :: x5 :: x6 :: t => (hOK 7 b t ∧ 0 ≤ c ∧ c < 256, .dead, hB 7 (outOf t ++ [u8i c]) :: x1 :: x2 :: x3 :: x4 :: x5 :: x6 :: hS (outOf t ++ [u8i c]))
  | _, _ => (False, .dead, h) }
def wb7Spec : Spec := { pre := fun _ => False, res := fun _ => .many [], hp := some wb7HS }
def G_wb7 : Specs := [(37, ccSpec)]
@[simp] theorem G_wb7_live : Specs.live G_wb7 = false := rfl
@[simp] theorem G_wb7_37 : G_wb7.find 37 = some ccSpec := rfl
theorem G_wb7_ok (gl : Gl) : SpecsOK Tryd.prog gl G_wb7 := .cons (cc_sound gl) (.nil _ _)
set_option maxHeartbeats 2000000 in
set_option maxRecDepth 10000 in
theorem wb7_sound (gl : Gl) : Sound Tryd.prog gl 21 wb7Spec := by
  refine sound_heap (hs := wb7HS) (N := Tryd.f21.ntmps) (rs := Tryd.f21.results.toList) mixed tok (G_wb7_ok gl) Tryd.func21 rfl rfl rfl rfl rfl ?_ ?_
  · intro xs h hp
    simp only [wb7HS] at hp
    split at hp
    all_goals first | exact hp.elim | simp [Tryd.f21]
  · intro xs h hp bs hgl hh hro
    have hE : Env.OK ⟨Tryd.prog, T, G_wb7, bs⟩ := ⟨tok, by rw [hgl]; exact G_wb7_ok gl⟩
    simp only [wb7HS] at hp
    split at hp
    · rename_i c b x1 x2 x3 x4 x5 x6 t
      obtain ⟨⟨out, rfl, rfl, hl⟩, hc0, hc1⟩ := hp
      have hb := byteC_u8i hc0 hc1
      by_cases e : out = []
      · subst e
        simp [Tryd.f21, hcEff, wb7HS, ccSpec, ccHS, hB, hS, outOf, hb]
        exact RetTo.same ⟨rfl, rfl⟩
      · have e1 := len_back e
        have o2 : outOf (hS out) = out := outOf_hS out
        simp only [hS, if_neg e] at o2
        simp [Tryd.f21, hcEff, wb7HS, ccSpec, ccHS, hB, hS, e, e1, hb, o2]
        refine ⟨?_, ?_⟩
        · omega
        · exact RetTo.same ⟨rfl, rfl⟩
    · exact hp.elim
def blenHS : HS := { wr := false, eff := fun xs h => match xs, h with
  | [.ptr 0 0 0], .box 40 [.val .nilp, .nil] :: t => (True, .val (.int .i64 0), h)
  | [.ptr 0 0 0], .box 40 [.ptr 0 0 0, .val (.sl n cs)] :: t => (True, .val (.int .i64 n), h)
  | _, _ => (False, .dead, h) }
def blenSpec : Spec := { pre := fun _ => False, res := fun _ => .many [], hp := some blenHS }
def G_blen : Specs := []
@[simp] theorem G_blen_live : Specs.live G_blen = false := rfl
theorem G_blen_ok (gl : Gl) : SpecsOK Tryd.prog gl G_blen := .nil _ _
set_option maxRecDepth 10000 in
theorem blen_sound (gl : Gl) : Sound Tryd.prog gl 23 blenSpec := by
  refine sound_heap (hs := blenHS) (N := Tryd.f23.ntmps) (rs := Tryd.f23.results.toList) mixed tok (G_blen_ok gl) Tryd.func23 rfl rfl rfl rfl rfl ?_ ?_
  · intro xs h hp
    simp only [blenHS] at hp
    split at hp
    all_goals first | exact hp.elim | simp [Tryd.f23]
  · intro xs h hp bs hgl hh hro
    have hE : Env.OK ⟨Tryd.prog, T, G_blen, bs⟩ := ⟨tok, by rw [hgl]; exact G_blen_ok gl⟩
    simp only [blenHS] at hp
    split at hp
    · simp [Tryd.f23, hcEff, blenHS]
      exact RetTo.same ⟨rfl, rfl⟩
    · simp [Tryd.f23, hcEff, blenHS]
      exact RetTo.same ⟨rfl, rfl⟩
    · exact hp.elim
end Fen
