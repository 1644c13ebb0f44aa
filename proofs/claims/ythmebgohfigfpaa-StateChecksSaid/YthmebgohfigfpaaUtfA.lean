/- A part of the proof; no statement is proved here: STypes1, SUtfP, SUtfA, SUtfB, SUtfC, SUtfD. -/
import Derived.Test.YthmebgohfigfpaaChecked
import Derived.Test.YthmebgohfigfpaaCoreD
import Derived.KernelRfl
import Derived.Test.YthmebgohfigfpaaCoreC

set_option linter.unusedVariables false
set_option linter.unusedSimpArgs false

/- The table of this seat's types, and that the program has it. Printed by a program of mine (gen.py) from the translation. -/
namespace Fen
open Go Go.Proofs
theorem ty1_u : Try.prog.underlying 1 = some (.func #[] #[] false) := by kernel_rfl
theorem ty1_i : (Try.prog.info? 1).map (fun i => (i.zero, i.size, i.bytes)) = some (some (.nilFunc), 1, 8) := by kernel_rfl
theorem ty2_u : Try.prog.underlying 2 = some (.int .i64) := by kernel_rfl
theorem ty2_i : (Try.prog.info? 2).map (fun i => (i.zero, i.size, i.bytes)) = some (some (.int .i64 0), 1, 8) := by kernel_rfl
theorem ty3_u : Try.prog.underlying 3 = some (.int .i64) := by kernel_rfl
theorem ty3_i : (Try.prog.info? 3).map (fun i => (i.zero, i.size, i.bytes)) = some (some (.int .i64 0), 1, 8) := by kernel_rfl
theorem ty4_u : Try.prog.underlying 4 = some (.bool) := by kernel_rfl
theorem ty4_i : (Try.prog.info? 4).map (fun i => (i.zero, i.size, i.bytes)) = some (some (.bool false), 1, 1) := by kernel_rfl
theorem ty5_u : Try.prog.underlying 5 = some (.int .u8) := by kernel_rfl
theorem ty5_i : (Try.prog.info? 5).map (fun i => (i.zero, i.size, i.bytes)) = some (some (.int .u8 0), 1, 1) := by kernel_rfl
theorem ty9_u : Try.prog.underlying 9 = some (.string) := by kernel_rfl
theorem ty9_i : (Try.prog.info? 9).map (fun i => (i.zero, i.size, i.bytes)) = some (some (.string ⟨#[]⟩), 1, 16) := by kernel_rfl
theorem ty12_u : Try.prog.underlying 12 = some (.int .u64) := by kernel_rfl
theorem ty12_i : (Try.prog.info? 12).map (fun i => (i.zero, i.size, i.bytes)) = some (some (.int .u64 0), 1, 8) := by kernel_rfl
theorem ty21_u : Try.prog.underlying 21 = some (.int .i32) := by kernel_rfl
theorem ty21_i : (Try.prog.info? 21).map (fun i => (i.zero, i.size, i.bytes)) = some (some (.int .i32 0), 1, 4) := by kernel_rfl
theorem ty22_u : Try.prog.underlying 22 = some (.slice 5) := by kernel_rfl
theorem ty22_i : (Try.prog.info? 22).map (fun i => (i.zero, i.size, i.bytes)) = some (some (.slice none 0 0), 1, 24) := by kernel_rfl
theorem ty23_u : Try.prog.underlying 23 = some (.slice 51) := by kernel_rfl
theorem ty23_i : (Try.prog.info? 23).map (fun i => (i.zero, i.size, i.bytes)) = some (some (.slice none 0 0), 1, 24) := by kernel_rfl
theorem ty24_u : Try.prog.underlying 24 = some (.struct #[{ name := "State", type := 3, offset := 0, embedded := false, tag := "", pkgPath := "", byteOffset := 0 }, { name := "Utf", type := 22, offset := 1, embedded := false, tag := "", pkgPath := "", byteOffset := 8 }, { name := "Private", type := 5, offset := 2, embedded := false, tag := "", pkgPath := "", byteOffset := 32 }, { name := "Final", type := 5, offset := 3, embedded := false, tag := "", pkgPath := "", byteOffset := 33 }, { name := "Params", type := 23, offset := 4, embedded := false, tag := "", pkgPath := "", byteOffset := 40 }, { name := "Inter", type := 9, offset := 5, embedded := false, tag := "", pkgPath := "", byteOffset := 64 }, { name := "Text", type := 9, offset := 6, embedded := false, tag := "", pkgPath := "", byteOffset := 80 }, { name := "Bad", type := 4, offset := 7, embedded := false, tag := "", pkgPath := "", byteOffset := 96 }]) := by kernel_rfl
theorem ty24_i : (Try.prog.info? 24).map (fun i => (i.zero, i.size, i.bytes)) = some (some (.agg #[.int .i64 0, .slice none 0 0, .int .u8 0, .int .u8 0, .slice none 0 0, .string ⟨#[]⟩, .string ⟨#[]⟩, .bool false]), 8, 104) := by kernel_rfl
theorem ty25_u : Try.prog.underlying 25 = some (.struct #[{ name := "State", type := 3, offset := 0, embedded := false, tag := "", pkgPath := "", byteOffset := 0 }, { name := "Utf", type := 22, offset := 1, embedded := false, tag := "", pkgPath := "", byteOffset := 8 }, { name := "Private", type := 5, offset := 2, embedded := false, tag := "", pkgPath := "", byteOffset := 32 }, { name := "Final", type := 5, offset := 3, embedded := false, tag := "", pkgPath := "", byteOffset := 33 }, { name := "Params", type := 23, offset := 4, embedded := false, tag := "", pkgPath := "", byteOffset := 40 }, { name := "Inter", type := 9, offset := 5, embedded := false, tag := "", pkgPath := "", byteOffset := 64 }, { name := "Text", type := 9, offset := 6, embedded := false, tag := "", pkgPath := "", byteOffset := 80 }, { name := "Bad", type := 4, offset := 7, embedded := false, tag := "", pkgPath := "", byteOffset := 96 }]) := by kernel_rfl
theorem ty25_i : (Try.prog.info? 25).map (fun i => (i.zero, i.size, i.bytes)) = some (some (.agg #[.int .i64 0, .slice none 0 0, .int .u8 0, .int .u8 0, .slice none 0 0, .string ⟨#[]⟩, .string ⟨#[]⟩, .bool false]), 8, 104) := by kernel_rfl
theorem ty26_u : Try.prog.underlying 26 = some (.func #[25] #[25] false) := by kernel_rfl
theorem ty26_i : (Try.prog.info? 26).map (fun i => (i.zero, i.size, i.bytes)) = some (some (.nilFunc), 1, 8) := by kernel_rfl
theorem ty27_u : Try.prog.underlying 27 = some (.func #[22] #[25] false) := by kernel_rfl
theorem ty27_i : (Try.prog.info? 27).map (fun i => (i.zero, i.size, i.bytes)) = some (some (.nilFunc), 1, 8) := by kernel_rfl
theorem ty28_u : Try.prog.underlying 28 = some (.array 3 25) := by kernel_rfl
theorem ty28_i : (Try.prog.info? 28).map (fun i => (i.zero, i.size, i.bytes)) = some (some (.agg #[.int .i64 0, .slice none 0 0, .int .u8 0, .int .u8 0, .slice none 0 0, .string ⟨#[]⟩, .string ⟨#[]⟩, .bool false, .int .i64 0, .slice none 0 0, .int .u8 0, .int .u8 0, .slice none 0 0, .string ⟨#[]⟩, .string ⟨#[]⟩, .bool false, .int .i64 0, .slice none 0 0, .int .u8 0, .int .u8 0, .slice none 0 0, .string ⟨#[]⟩, .string ⟨#[]⟩, .bool false]), 24, 312) := by kernel_rfl
theorem ty29_u : Try.prog.underlying 29 = some (.slice 42) := by kernel_rfl
theorem ty29_i : (Try.prog.info? 29).map (fun i => (i.zero, i.size, i.bytes)) = some (some (.slice none 0 0), 1, 24) := by kernel_rfl
theorem ty30_u : Try.prog.underlying 30 = some (.int .i64) := by kernel_rfl
theorem ty30_i : (Try.prog.info? 30).map (fun i => (i.zero, i.size, i.bytes)) = some (some (.int .i64 0), 1, 8) := by kernel_rfl
theorem ty32_u : Try.prog.underlying 32 = some (.func #[25, 22] #[25, 29, 30] false) := by kernel_rfl
theorem ty32_i : (Try.prog.info? 32).map (fun i => (i.zero, i.size, i.bytes)) = some (some (.nilFunc), 1, 8) := by kernel_rfl
theorem ty33_u : Try.prog.underlying 33 = some (.func #[25, 25] #[4] false) := by kernel_rfl
theorem ty33_i : (Try.prog.info? 33).map (fun i => (i.zero, i.size, i.bytes)) = some (some (.nilFunc), 1, 8) := by kernel_rfl
theorem ty34_u : Try.prog.underlying 34 = some (.func #[29, 29] #[4] false) := by kernel_rfl
theorem ty34_i : (Try.prog.info? 34).map (fun i => (i.zero, i.size, i.bytes)) = some (some (.nilFunc), 1, 8) := by kernel_rfl
theorem ty35_u : Try.prog.underlying 35 = some (.func #[] #[4] false) := by kernel_rfl
theorem ty35_i : (Try.prog.info? 35).map (fun i => (i.zero, i.size, i.bytes)) = some (some (.nilFunc), 1, 8) := by kernel_rfl
theorem ty36_u : Try.prog.underlying 36 = some (.func #[25, 22, 22] #[4] false) := by kernel_rfl
theorem ty36_i : (Try.prog.info? 36).map (fun i => (i.zero, i.size, i.bytes)) = some (some (.nilFunc), 1, 8) := by kernel_rfl
theorem ty37_u : Try.prog.underlying 37 = some (.func #[25] #[30] false) := by kernel_rfl
theorem ty37_i : (Try.prog.info? 37).map (fun i => (i.zero, i.size, i.bytes)) = some (some (.nilFunc), 1, 8) := by kernel_rfl
theorem ty38_u : Try.prog.underlying 38 = some (.func #[22, 22] #[4] false) := by kernel_rfl
theorem ty38_i : (Try.prog.info? 38).map (fun i => (i.zero, i.size, i.bytes)) = some (some (.nilFunc), 1, 8) := by kernel_rfl
theorem ty39_u : Try.prog.underlying 39 = some (.array 3 9) := by kernel_rfl
theorem ty39_i : (Try.prog.info? 39).map (fun i => (i.zero, i.size, i.bytes)) = some (some (.agg #[.string ⟨#[]⟩, .string ⟨#[]⟩, .string ⟨#[]⟩]), 3, 48) := by kernel_rfl
theorem ty40_u : Try.prog.underlying 40 = some (.func #[42, 42] #[4] false) := by kernel_rfl
theorem ty40_i : (Try.prog.info? 40).map (fun i => (i.zero, i.size, i.bytes)) = some (some (.nilFunc), 1, 8) := by kernel_rfl
theorem ty41_u : Try.prog.underlying 41 = some (.struct #[{ name := "Kind", type := 3, offset := 0, embedded := false, tag := "", pkgPath := "", byteOffset := 0 }, { name := "Code", type := 3, offset := 1, embedded := false, tag := "", pkgPath := "", byteOffset := 8 }, { name := "Private", type := 5, offset := 2, embedded := false, tag := "", pkgPath := "", byteOffset := 16 }, { name := "Final", type := 5, offset := 3, embedded := false, tag := "", pkgPath := "", byteOffset := 17 }, { name := "Params", type := 23, offset := 4, embedded := false, tag := "", pkgPath := "", byteOffset := 24 }, { name := "Inter", type := 9, offset := 5, embedded := false, tag := "", pkgPath := "", byteOffset := 48 }, { name := "Text", type := 9, offset := 6, embedded := false, tag := "", pkgPath := "", byteOffset := 64 }]) := by kernel_rfl
theorem ty41_i : (Try.prog.info? 41).map (fun i => (i.zero, i.size, i.bytes)) = some (some (.agg #[.int .i64 0, .int .i64 0, .int .u8 0, .int .u8 0, .slice none 0 0, .string ⟨#[]⟩, .string ⟨#[]⟩]), 7, 80) := by kernel_rfl
theorem ty42_u : Try.prog.underlying 42 = some (.struct #[{ name := "Kind", type := 3, offset := 0, embedded := false, tag := "", pkgPath := "", byteOffset := 0 }, { name := "Code", type := 3, offset := 1, embedded := false, tag := "", pkgPath := "", byteOffset := 8 }, { name := "Private", type := 5, offset := 2, embedded := false, tag := "", pkgPath := "", byteOffset := 16 }, { name := "Final", type := 5, offset := 3, embedded := false, tag := "", pkgPath := "", byteOffset := 17 }, { name := "Params", type := 23, offset := 4, embedded := false, tag := "", pkgPath := "", byteOffset := 24 }, { name := "Inter", type := 9, offset := 5, embedded := false, tag := "", pkgPath := "", byteOffset := 48 }, { name := "Text", type := 9, offset := 6, embedded := false, tag := "", pkgPath := "", byteOffset := 64 }]) := by kernel_rfl
theorem ty42_i : (Try.prog.info? 42).map (fun i => (i.zero, i.size, i.bytes)) = some (some (.agg #[.int .i64 0, .int .i64 0, .int .u8 0, .int .u8 0, .slice none 0 0, .string ⟨#[]⟩, .string ⟨#[]⟩]), 7, 80) := by kernel_rfl
theorem ty43_u : Try.prog.underlying 43 = some (.func #[9, 5] #[42] false) := by kernel_rfl
theorem ty43_i : (Try.prog.info? 43).map (fun i => (i.zero, i.size, i.bytes)) = some (some (.nilFunc), 1, 8) := by kernel_rfl
theorem ty44_u : Try.prog.underlying 44 = some (.slice 47) := by kernel_rfl
theorem ty44_i : (Try.prog.info? 44).map (fun i => (i.zero, i.size, i.bytes)) = some (some (.slice none 0 0), 1, 24) := by kernel_rfl
theorem ty45_u : Try.prog.underlying 45 = some (.struct #[{ name := "Params", type := 44, offset := 0, embedded := false, tag := "", pkgPath := "", byteOffset := 0 }, { name := "Private", type := 5, offset := 1, embedded := false, tag := "", pkgPath := "", byteOffset := 24 }, { name := "Signs", type := 22, offset := 2, embedded := false, tag := "", pkgPath := "", byteOffset := 32 }, { name := "Final", type := 5, offset := 3, embedded := false, tag := "", pkgPath := "", byteOffset := 56 }, { name := "Text", type := 9, offset := 4, embedded := false, tag := "", pkgPath := "", byteOffset := 64 }]) := by kernel_rfl
theorem ty45_i : (Try.prog.info? 45).map (fun i => (i.zero, i.size, i.bytes)) = some (some (.agg #[.slice none 0 0, .int .u8 0, .slice none 0 0, .int .u8 0, .string ⟨#[]⟩]), 5, 80) := by kernel_rfl
theorem ty46_u : Try.prog.underlying 46 = some (.struct #[{ name := "Params", type := 44, offset := 0, embedded := false, tag := "", pkgPath := "", byteOffset := 0 }, { name := "Private", type := 5, offset := 1, embedded := false, tag := "", pkgPath := "", byteOffset := 24 }, { name := "Signs", type := 22, offset := 2, embedded := false, tag := "", pkgPath := "", byteOffset := 32 }, { name := "Final", type := 5, offset := 3, embedded := false, tag := "", pkgPath := "", byteOffset := 56 }, { name := "Text", type := 9, offset := 4, embedded := false, tag := "", pkgPath := "", byteOffset := 64 }]) := by kernel_rfl
theorem ty46_i : (Try.prog.info? 46).map (fun i => (i.zero, i.size, i.bytes)) = some (some (.agg #[.slice none 0 0, .int .u8 0, .slice none 0 0, .int .u8 0, .string ⟨#[]⟩]), 5, 80) := by kernel_rfl
theorem ty47_u : Try.prog.underlying 47 = some (.int .u16) := by kernel_rfl
theorem ty47_i : (Try.prog.info? 47).map (fun i => (i.zero, i.size, i.bytes)) = some (some (.int .u16 0), 1, 2) := by kernel_rfl
theorem ty48_u : Try.prog.underlying 48 = some (.func #[3] #[9] false) := by kernel_rfl
theorem ty48_i : (Try.prog.info? 48).map (fun i => (i.zero, i.size, i.bytes)) = some (some (.nilFunc), 1, 8) := by kernel_rfl
theorem ty49_u : Try.prog.underlying 49 = some (.slice 3) := by kernel_rfl
theorem ty49_i : (Try.prog.info? 49).map (fun i => (i.zero, i.size, i.bytes)) = some (some (.slice none 0 0), 1, 24) := by kernel_rfl
theorem ty50_u : Try.prog.underlying 50 = some (.struct #[{ name := "Subs", type := 49, offset := 0, embedded := false, tag := "", pkgPath := "", byteOffset := 0 }]) := by kernel_rfl
theorem ty50_i : (Try.prog.info? 50).map (fun i => (i.zero, i.size, i.bytes)) = some (some (.agg #[.slice none 0 0]), 1, 24) := by kernel_rfl
theorem ty51_u : Try.prog.underlying 51 = some (.struct #[{ name := "Subs", type := 49, offset := 0, embedded := false, tag := "", pkgPath := "", byteOffset := 0 }]) := by kernel_rfl
theorem ty51_i : (Try.prog.info? 51).map (fun i => (i.zero, i.size, i.bytes)) = some (some (.agg #[.slice none 0 0]), 1, 24) := by kernel_rfl
theorem ty52_u : Try.prog.underlying 52 = some (.func #[9, 29] #[4] true) := by kernel_rfl
theorem ty52_i : (Try.prog.info? 52).map (fun i => (i.zero, i.size, i.bytes)) = some (some (.nilFunc), 1, 8) := by kernel_rfl
theorem ty53_u : Try.prog.underlying 53 = some (.func #[3] #[42] false) := by kernel_rfl
theorem ty53_i : (Try.prog.info? 53).map (fun i => (i.zero, i.size, i.bytes)) = some (some (.nilFunc), 1, 8) := by kernel_rfl
theorem ty54_u : Try.prog.underlying 54 = some (.func #[46] #[4] false) := by kernel_rfl
theorem ty54_i : (Try.prog.info? 54).map (fun i => (i.zero, i.size, i.bytes)) = some (some (.nilFunc), 1, 8) := by kernel_rfl
theorem ty55_u : Try.prog.underlying 55 = some (.func #[5, 49] #[42] true) := by kernel_rfl
theorem ty55_i : (Try.prog.info? 55).map (fun i => (i.zero, i.size, i.bytes)) = some (some (.nilFunc), 1, 8) := by kernel_rfl
theorem ty56_u : Try.prog.underlying 56 = some (.func #[9] #[42] false) := by kernel_rfl
theorem ty56_i : (Try.prog.info? 56).map (fun i => (i.zero, i.size, i.bytes)) = some (some (.nilFunc), 1, 8) := by kernel_rfl
theorem ty57_u : Try.prog.underlying 57 = some (.func #[9, 5] #[4] false) := by kernel_rfl
theorem ty57_i : (Try.prog.info? 57).map (fun i => (i.zero, i.size, i.bytes)) = some (some (.nilFunc), 1, 8) := by kernel_rfl
theorem ty58_u : Try.prog.underlying 58 = some (.array 2 25) := by kernel_rfl
theorem ty58_i : (Try.prog.info? 58).map (fun i => (i.zero, i.size, i.bytes)) = some (some (.agg #[.int .i64 0, .slice none 0 0, .int .u8 0, .int .u8 0, .slice none 0 0, .string ⟨#[]⟩, .string ⟨#[]⟩, .bool false, .int .i64 0, .slice none 0 0, .int .u8 0, .int .u8 0, .slice none 0 0, .string ⟨#[]⟩, .string ⟨#[]⟩, .bool false]), 16, 208) := by kernel_rfl
theorem ty59_u : Try.prog.underlying 59 = some (.array 8 5) := by kernel_rfl
theorem ty59_i : (Try.prog.info? 59).map (fun i => (i.zero, i.size, i.bytes)) = some (some (.agg #[.int .u8 0, .int .u8 0, .int .u8 0, .int .u8 0, .int .u8 0, .int .u8 0, .int .u8 0, .int .u8 0]), 8, 8) := by kernel_rfl
theorem ty60_u : Try.prog.underlying 60 = some (.func #[25, 5] #[25, 29, 30] false) := by kernel_rfl
theorem ty60_i : (Try.prog.info? 60).map (fun i => (i.zero, i.size, i.bytes)) = some (some (.nilFunc), 1, 8) := by kernel_rfl
theorem ty61_u : Try.prog.underlying 61 = some (.func #[25, 22, 5] #[4] false) := by kernel_rfl
theorem ty61_i : (Try.prog.info? 61).map (fun i => (i.zero, i.size, i.bytes)) = some (some (.nilFunc), 1, 8) := by kernel_rfl
theorem ty62_u : Try.prog.underlying 62 = some (.array 2 42) := by kernel_rfl
theorem ty62_i : (Try.prog.info? 62).map (fun i => (i.zero, i.size, i.bytes)) = some (some (.agg #[.int .i64 0, .int .i64 0, .int .u8 0, .int .u8 0, .slice none 0 0, .string ⟨#[]⟩, .string ⟨#[]⟩, .int .i64 0, .int .i64 0, .int .u8 0, .int .u8 0, .slice none 0 0, .string ⟨#[]⟩, .string ⟨#[]⟩]), 14, 160) := by kernel_rfl
theorem ty63_u : Try.prog.underlying 63 = some (.array 9 25) := by kernel_rfl
theorem ty63_i : (Try.prog.info? 63).map (fun i => (i.zero, i.size, i.bytes)) = some (some (.agg #[.int .i64 0, .slice none 0 0, .int .u8 0, .int .u8 0, .slice none 0 0, .string ⟨#[]⟩, .string ⟨#[]⟩, .bool false, .int .i64 0, .slice none 0 0, .int .u8 0, .int .u8 0, .slice none 0 0, .string ⟨#[]⟩, .string ⟨#[]⟩, .bool false, .int .i64 0, .slice none 0 0, .int .u8 0, .int .u8 0, .slice none 0 0, .string ⟨#[]⟩, .string ⟨#[]⟩, .bool false, .int .i64 0, .slice none 0 0, .int .u8 0, .int .u8 0, .slice none 0 0, .string ⟨#[]⟩, .string ⟨#[]⟩, .bool false, .int .i64 0, .slice none 0 0, .int .u8 0, .int .u8 0, .slice none 0 0, .string ⟨#[]⟩, .string ⟨#[]⟩, .bool false, .int .i64 0, .slice none 0 0, .int .u8 0, .int .u8 0, .slice none 0 0, .string ⟨#[]⟩, .string ⟨#[]⟩, .bool false, .int .i64 0, .slice none 0 0, .int .u8 0, .int .u8 0, .slice none 0 0, .string ⟨#[]⟩, .string ⟨#[]⟩, .bool false, .int .i64 0, .slice none 0 0, .int .u8 0, .int .u8 0, .slice none 0 0, .string ⟨#[]⟩, .string ⟨#[]⟩, .bool false, .int .i64 0, .slice none 0 0, .int .u8 0, .int .u8 0, .slice none 0 0, .string ⟨#[]⟩, .string ⟨#[]⟩, .bool false]), 72, 936) := by kernel_rfl
theorem ty64_u : Try.prog.underlying 64 = some (.int .u64) := by kernel_rfl
theorem ty64_i : (Try.prog.info? 64).map (fun i => (i.zero, i.size, i.bytes)) = some (some (.int .u64 0), 1, 8) := by kernel_rfl
theorem ty65_u : Try.prog.underlying 65 = some (.func #[25, 22, 3, 62] #[4] false) := by kernel_rfl
theorem ty65_i : (Try.prog.info? 65).map (fun i => (i.zero, i.size, i.bytes)) = some (some (.nilFunc), 1, 8) := by kernel_rfl
theorem ty66_u : Try.prog.underlying 66 = some (.func #[9, 3] #[9] false) := by kernel_rfl
theorem ty66_i : (Try.prog.info? 66).map (fun i => (i.zero, i.size, i.bytes)) = some (some (.nilFunc), 1, 8) := by kernel_rfl
theorem ty67_u : Try.prog.underlying 67 = some (.func #[49] #[23] true) := by kernel_rfl
theorem ty67_i : (Try.prog.info? 67).map (fun i => (i.zero, i.size, i.bytes)) = some (some (.nilFunc), 1, 8) := by kernel_rfl
theorem ty68_u : Try.prog.underlying 68 = some (.array 8 25) := by kernel_rfl
theorem ty68_i : (Try.prog.info? 68).map (fun i => (i.zero, i.size, i.bytes)) = some (some (.agg #[.int .i64 0, .slice none 0 0, .int .u8 0, .int .u8 0, .slice none 0 0, .string ⟨#[]⟩, .string ⟨#[]⟩, .bool false, .int .i64 0, .slice none 0 0, .int .u8 0, .int .u8 0, .slice none 0 0, .string ⟨#[]⟩, .string ⟨#[]⟩, .bool false, .int .i64 0, .slice none 0 0, .int .u8 0, .int .u8 0, .slice none 0 0, .string ⟨#[]⟩, .string ⟨#[]⟩, .bool false, .int .i64 0, .slice none 0 0, .int .u8 0, .int .u8 0, .slice none 0 0, .string ⟨#[]⟩, .string ⟨#[]⟩, .bool false, .int .i64 0, .slice none 0 0, .int .u8 0, .int .u8 0, .slice none 0 0, .string ⟨#[]⟩, .string ⟨#[]⟩, .bool false, .int .i64 0, .slice none 0 0, .int .u8 0, .int .u8 0, .slice none 0 0, .string ⟨#[]⟩, .string ⟨#[]⟩, .bool false, .int .i64 0, .slice none 0 0, .int .u8 0, .int .u8 0, .slice none 0 0, .string ⟨#[]⟩, .string ⟨#[]⟩, .bool false, .int .i64 0, .slice none 0 0, .int .u8 0, .int .u8 0, .slice none 0 0, .string ⟨#[]⟩, .string ⟨#[]⟩, .bool false]), 64, 832) := by kernel_rfl
theorem ty69_u : Try.prog.underlying 69 = some (.array 6 25) := by kernel_rfl
theorem ty69_i : (Try.prog.info? 69).map (fun i => (i.zero, i.size, i.bytes)) = some (some (.agg #[.int .i64 0, .slice none 0 0, .int .u8 0, .int .u8 0, .slice none 0 0, .string ⟨#[]⟩, .string ⟨#[]⟩, .bool false, .int .i64 0, .slice none 0 0, .int .u8 0, .int .u8 0, .slice none 0 0, .string ⟨#[]⟩, .string ⟨#[]⟩, .bool false, .int .i64 0, .slice none 0 0, .int .u8 0, .int .u8 0, .slice none 0 0, .string ⟨#[]⟩, .string ⟨#[]⟩, .bool false, .int .i64 0, .slice none 0 0, .int .u8 0, .int .u8 0, .slice none 0 0, .string ⟨#[]⟩, .string ⟨#[]⟩, .bool false, .int .i64 0, .slice none 0 0, .int .u8 0, .int .u8 0, .slice none 0 0, .string ⟨#[]⟩, .string ⟨#[]⟩, .bool false, .int .i64 0, .slice none 0 0, .int .u8 0, .int .u8 0, .slice none 0 0, .string ⟨#[]⟩, .string ⟨#[]⟩, .bool false]), 48, 624) := by kernel_rfl
theorem ty70_u : Try.prog.underlying 70 = some (.pointer 72) := by kernel_rfl
theorem ty70_i : (Try.prog.info? 70).map (fun i => (i.zero, i.size, i.bytes)) = some (some (.pointer none), 1, 8) := by kernel_rfl
theorem ty71_u : Try.prog.underlying 71 = some (.struct #[{ name := "Parse", type := 25, offset := 0, embedded := true, tag := "", pkgPath := "", byteOffset := 0 }, { name := "events", type := 29, offset := 8, embedded := false, tag := "", pkgPath := "fenestra/state", byteOffset := 104 }]) := by kernel_rfl
theorem ty71_i : (Try.prog.info? 71).map (fun i => (i.zero, i.size, i.bytes)) = some (some (.agg #[.int .i64 0, .slice none 0 0, .int .u8 0, .int .u8 0, .slice none 0 0, .string ⟨#[]⟩, .string ⟨#[]⟩, .bool false, .slice none 0 0]), 9, 128) := by kernel_rfl
theorem ty72_u : Try.prog.underlying 72 = some (.struct #[{ name := "Parse", type := 25, offset := 0, embedded := true, tag := "", pkgPath := "", byteOffset := 0 }, { name := "events", type := 29, offset := 8, embedded := false, tag := "", pkgPath := "fenestra/state", byteOffset := 104 }]) := by kernel_rfl
theorem ty72_i : (Try.prog.info? 72).map (fun i => (i.zero, i.size, i.bytes)) = some (some (.agg #[.int .i64 0, .slice none 0 0, .int .u8 0, .int .u8 0, .slice none 0 0, .string ⟨#[]⟩, .string ⟨#[]⟩, .bool false, .slice none 0 0]), 9, 128) := by kernel_rfl
theorem ty73_u : Try.prog.underlying 73 = some (.func #[5] #[] false) := by kernel_rfl
theorem ty73_i : (Try.prog.info? 73).map (fun i => (i.zero, i.size, i.bytes)) = some (some (.nilFunc), 1, 8) := by kernel_rfl
theorem ty74_u : Try.prog.underlying 74 = some (.func #[25] #[4] false) := by kernel_rfl
theorem ty74_i : (Try.prog.info? 74).map (fun i => (i.zero, i.size, i.bytes)) = some (some (.nilFunc), 1, 8) := by kernel_rfl
theorem ty76_u : Try.prog.underlying 76 = some (.func #[25, 5] #[25, 29] false) := by kernel_rfl
theorem ty76_i : (Try.prog.info? 76).map (fun i => (i.zero, i.size, i.bytes)) = some (some (.nilFunc), 1, 8) := by kernel_rfl
theorem ty77_u : Try.prog.underlying 77 = some (.func #[23, 23] #[4] false) := by kernel_rfl
theorem ty77_i : (Try.prog.info? 77).map (fun i => (i.zero, i.size, i.bytes)) = some (some (.nilFunc), 1, 8) := by kernel_rfl
theorem ty78_u : Try.prog.underlying 78 = some (.array 15 3) := by kernel_rfl
theorem ty78_i : (Try.prog.info? 78).map (fun i => (i.zero, i.size, i.bytes)) = some (some (.agg #[.int .i64 0, .int .i64 0, .int .i64 0, .int .i64 0, .int .i64 0, .int .i64 0, .int .i64 0, .int .i64 0, .int .i64 0, .int .i64 0, .int .i64 0, .int .i64 0, .int .i64 0, .int .i64 0, .int .i64 0]), 15, 120) := by kernel_rfl
theorem ty79_u : Try.prog.underlying 79 = some (.func #[] #[78] false) := by kernel_rfl
theorem ty79_i : (Try.prog.info? 79).map (fun i => (i.zero, i.size, i.bytes)) = some (some (.nilFunc), 1, 8) := by kernel_rfl
theorem ty80_u : Try.prog.underlying 80 = some (.func #[3] #[4] false) := by kernel_rfl
theorem ty80_i : (Try.prog.info? 80).map (fun i => (i.zero, i.size, i.bytes)) = some (some (.nilFunc), 1, 8) := by kernel_rfl
theorem ty81_u : Try.prog.underlying 81 = some (.func #[22] #[4] false) := by kernel_rfl
theorem ty81_i : (Try.prog.info? 81).map (fun i => (i.zero, i.size, i.bytes)) = some (some (.nilFunc), 1, 8) := by kernel_rfl
theorem ty82_u : Try.prog.underlying 82 = some (.func #[23] #[30] false) := by kernel_rfl
theorem ty82_i : (Try.prog.info? 82).map (fun i => (i.zero, i.size, i.bytes)) = some (some (.nilFunc), 1, 8) := by kernel_rfl
theorem ty83_u : Try.prog.underlying 83 = some (.func #[5, 5, 5] #[4] false) := by kernel_rfl
theorem ty83_i : (Try.prog.info? 83).map (fun i => (i.zero, i.size, i.bytes)) = some (some (.nilFunc), 1, 8) := by kernel_rfl
theorem ty85_u : Try.prog.underlying 85 = some (.func #[64, 64] #[64, 64] false) := by kernel_rfl
theorem ty85_i : (Try.prog.info? 85).map (fun i => (i.zero, i.size, i.bytes)) = some (some (.nilFunc), 1, 8) := by kernel_rfl
theorem ty86_u : Try.prog.underlying 86 = some (.func #[9, 9] #[4] false) := by kernel_rfl
theorem ty86_i : (Try.prog.info? 86).map (fun i => (i.zero, i.size, i.bytes)) = some (some (.nilFunc), 1, 8) := by kernel_rfl
theorem ty87_u : Try.prog.underlying 87 = some (.pointer 89) := by kernel_rfl
theorem ty87_i : (Try.prog.info? 87).map (fun i => (i.zero, i.size, i.bytes)) = some (some (.pointer none), 1, 8) := by kernel_rfl
theorem ty88_u : Try.prog.underlying 88 = some (.struct #[{ name := "addr", type := 87, offset := 0, embedded := false, tag := "", pkgPath := "strings", byteOffset := 0 }, { name := "buf", type := 22, offset := 1, embedded := false, tag := "", pkgPath := "strings", byteOffset := 8 }]) := by kernel_rfl
theorem ty88_i : (Try.prog.info? 88).map (fun i => (i.zero, i.size, i.bytes)) = some (some (.agg #[.pointer none, .slice none 0 0]), 2, 32) := by kernel_rfl
theorem ty89_u : Try.prog.underlying 89 = some (.struct #[{ name := "addr", type := 87, offset := 0, embedded := false, tag := "", pkgPath := "strings", byteOffset := 0 }, { name := "buf", type := 22, offset := 1, embedded := false, tag := "", pkgPath := "strings", byteOffset := 8 }]) := by kernel_rfl
theorem ty89_i : (Try.prog.info? 89).map (fun i => (i.zero, i.size, i.bytes)) = some (some (.agg #[.pointer none, .slice none 0 0]), 2, 32) := by kernel_rfl
theorem ty90_u : Try.prog.underlying 90 = some (.func #[3] #[] false) := by kernel_rfl
theorem ty90_i : (Try.prog.info? 90).map (fun i => (i.zero, i.size, i.bytes)) = some (some (.nilFunc), 1, 8) := by kernel_rfl
theorem ty94_u : Try.prog.underlying 94 = some (.func #[9] #[3, 92] false) := by kernel_rfl
theorem ty94_i : (Try.prog.info? 94).map (fun i => (i.zero, i.size, i.bytes)) = some (some (.nilFunc), 1, 8) := by kernel_rfl
theorem ty95_u : Try.prog.underlying 95 = some (.func #[] #[3] false) := by kernel_rfl
theorem ty95_i : (Try.prog.info? 95).map (fun i => (i.zero, i.size, i.bytes)) = some (some (.nilFunc), 1, 8) := by kernel_rfl
theorem ty96_u : Try.prog.underlying 96 = some (.func #[] #[9] false) := by kernel_rfl
theorem ty96_i : (Try.prog.info? 96).map (fun i => (i.zero, i.size, i.bytes)) = some (some (.nilFunc), 1, 8) := by kernel_rfl
theorem ty97_u : Try.prog.underlying 97 = some (.func #[42] #[] false) := by kernel_rfl
theorem ty97_i : (Try.prog.info? 97).map (fun i => (i.zero, i.size, i.bytes)) = some (some (.nilFunc), 1, 8) := by kernel_rfl
theorem ty98_u : Try.prog.underlying 98 = some (.func #[70, 5] #[] false) := by kernel_rfl
theorem ty98_i : (Try.prog.info? 98).map (fun i => (i.zero, i.size, i.bytes)) = some (some (.nilFunc), 1, 8) := by kernel_rfl
theorem ty99_u : Try.prog.underlying 99 = some (.array 15 98) := by kernel_rfl
theorem ty99_i : (Try.prog.info? 99).map (fun i => (i.zero, i.size, i.bytes)) = some (some (.agg #[.nilFunc, .nilFunc, .nilFunc, .nilFunc, .nilFunc, .nilFunc, .nilFunc, .nilFunc, .nilFunc, .nilFunc, .nilFunc, .nilFunc, .nilFunc, .nilFunc, .nilFunc]), 15, 120) := by kernel_rfl
theorem ty100_u : Try.prog.underlying 100 = some (.func #[] #[99] false) := by kernel_rfl
theorem ty100_i : (Try.prog.info? 100).map (fun i => (i.zero, i.size, i.bytes)) = some (some (.nilFunc), 1, 8) := by kernel_rfl
theorem ty101_u : Try.prog.underlying 101 = some (.func #[3, 49] #[4] true) := by kernel_rfl
theorem ty101_i : (Try.prog.info? 101).map (fun i => (i.zero, i.size, i.bytes)) = some (some (.nilFunc), 1, 8) := by kernel_rfl
theorem ty102_u : Try.prog.underlying 102 = some (.func #[9, 3, 3] #[4] false) := by kernel_rfl
theorem ty102_i : (Try.prog.info? 102).map (fun i => (i.zero, i.size, i.bytes)) = some (some (.nilFunc), 1, 8) := by kernel_rfl
theorem ty103_u : Try.prog.underlying 103 = some (.func #[9] #[4] false) := by kernel_rfl
theorem ty103_i : (Try.prog.info? 103).map (fun i => (i.zero, i.size, i.bytes)) = some (some (.nilFunc), 1, 8) := by kernel_rfl
theorem ty104_u : Try.prog.underlying 104 = some (.func #[3] #[25] false) := by kernel_rfl
theorem ty104_i : (Try.prog.info? 104).map (fun i => (i.zero, i.size, i.bytes)) = some (some (.nilFunc), 1, 8) := by kernel_rfl
theorem ty105_u : Try.prog.underlying 105 = some (.func #[22] #[3] false) := by kernel_rfl
theorem ty105_i : (Try.prog.info? 105).map (fun i => (i.zero, i.size, i.bytes)) = some (some (.nilFunc), 1, 8) := by kernel_rfl
theorem ty106_u : Try.prog.underlying 106 = some (.func #[49, 80] #[4] false) := by kernel_rfl
theorem ty106_i : (Try.prog.info? 106).map (fun i => (i.zero, i.size, i.bytes)) = some (some (.nilFunc), 1, 8) := by kernel_rfl
theorem ty107_u : Try.prog.underlying 107 = some (.func #[51] #[4] false) := by kernel_rfl
theorem ty107_i : (Try.prog.info? 107).map (fun i => (i.zero, i.size, i.bytes)) = some (some (.nilFunc), 1, 8) := by kernel_rfl
theorem ty108_u : Try.prog.underlying 108 = some (.func #[23] #[4] false) := by kernel_rfl
theorem ty108_i : (Try.prog.info? 108).map (fun i => (i.zero, i.size, i.bytes)) = some (some (.nilFunc), 1, 8) := by kernel_rfl
theorem ty109_u : Try.prog.underlying 109 = some (.func #[23, 107] #[4] false) := by kernel_rfl
theorem ty109_i : (Try.prog.info? 109).map (fun i => (i.zero, i.size, i.bytes)) = some (some (.nilFunc), 1, 8) := by kernel_rfl
theorem ty110_u : Try.prog.underlying 110 = some (.func #[23, 23, 112] #[4] false) := by kernel_rfl
theorem ty110_i : (Try.prog.info? 110).map (fun i => (i.zero, i.size, i.bytes)) = some (some (.nilFunc), 1, 8) := by kernel_rfl
theorem ty111_u : Try.prog.underlying 111 = some (.func #[49, 49] #[4] false) := by kernel_rfl
theorem ty111_i : (Try.prog.info? 111).map (fun i => (i.zero, i.size, i.bytes)) = some (some (.nilFunc), 1, 8) := by kernel_rfl
theorem ty112_u : Try.prog.underlying 112 = some (.func #[51, 51] #[4] false) := by kernel_rfl
theorem ty112_i : (Try.prog.info? 112).map (fun i => (i.zero, i.size, i.bytes)) = some (some (.nilFunc), 1, 8) := by kernel_rfl
theorem ty113_u : Try.prog.underlying 113 = some (.int .u32) := by kernel_rfl
theorem ty113_i : (Try.prog.info? 113).map (fun i => (i.zero, i.size, i.bytes)) = some (some (.int .u32 0), 1, 4) := by kernel_rfl
theorem ty115_u : Try.prog.underlying 115 = some (.func #[113, 113] #[113, 113] false) := by kernel_rfl
theorem ty115_i : (Try.prog.info? 115).map (fun i => (i.zero, i.size, i.bytes)) = some (some (.nilFunc), 1, 8) := by kernel_rfl
theorem ty116_u : Try.prog.underlying 116 = some (.int .u64) := by kernel_rfl
theorem ty116_i : (Try.prog.info? 116).map (fun i => (i.zero, i.size, i.bytes)) = some (some (.int .u64 0), 1, 8) := by kernel_rfl
theorem ty118_u : Try.prog.underlying 118 = some (.func #[116, 116] #[116, 116] false) := by kernel_rfl
theorem ty118_i : (Try.prog.info? 118).map (fun i => (i.zero, i.size, i.bytes)) = some (some (.nilFunc), 1, 8) := by kernel_rfl
theorem ty119_u : Try.prog.underlying 119 = some (.pointer 5) := by kernel_rfl
theorem ty119_i : (Try.prog.info? 119).map (fun i => (i.zero, i.size, i.bytes)) = some (some (.pointer none), 1, 8) := by kernel_rfl
theorem ty121_u : Try.prog.underlying 121 = some (.func #[22, 5] #[22, 49] false) := by kernel_rfl
theorem ty121_i : (Try.prog.info? 121).map (fun i => (i.zero, i.size, i.bytes)) = some (some (.nilFunc), 1, 8) := by kernel_rfl
theorem ty123_u : Try.prog.underlying 123 = some (.func #[22] #[4, 4] false) := by kernel_rfl
theorem ty123_i : (Try.prog.info? 123).map (fun i => (i.zero, i.size, i.bytes)) = some (some (.nilFunc), 1, 8) := by kernel_rfl
theorem ty124_u : Try.prog.underlying 124 = some (.func #[25, 42] #[25, 29] false) := by kernel_rfl
theorem ty124_i : (Try.prog.info? 124).map (fun i => (i.zero, i.size, i.bytes)) = some (some (.nilFunc), 1, 8) := by kernel_rfl
theorem ty125_u : Try.prog.underlying 125 = some (.func #[5] #[25, 29] false) := by kernel_rfl
theorem ty125_i : (Try.prog.info? 125).map (fun i => (i.zero, i.size, i.bytes)) = some (some (.nilFunc), 1, 8) := by kernel_rfl
theorem ty126_u : Try.prog.underlying 126 = some (.func #[25, 5] #[25] false) := by kernel_rfl
theorem ty126_i : (Try.prog.info? 126).map (fun i => (i.zero, i.size, i.bytes)) = some (some (.nilFunc), 1, 8) := by kernel_rfl
theorem ty128_u : Try.prog.underlying 128 = some (.func #[23, 5] #[23, 30] false) := by kernel_rfl
theorem ty128_i : (Try.prog.info? 128).map (fun i => (i.zero, i.size, i.bytes)) = some (some (.nilFunc), 1, 8) := by kernel_rfl
theorem ty129_u : Try.prog.underlying 129 = some (.func #[5] #[3] false) := by kernel_rfl
theorem ty129_i : (Try.prog.info? 129).map (fun i => (i.zero, i.size, i.bytes)) = some (some (.nilFunc), 1, 8) := by kernel_rfl
theorem ty131_u : Try.prog.underlying 131 = some (.func #[5] #[5, 5] false) := by kernel_rfl
theorem ty131_i : (Try.prog.info? 131).map (fun i => (i.zero, i.size, i.bytes)) = some (some (.nilFunc), 1, 8) := by kernel_rfl
theorem ty132_u : Try.prog.underlying 132 = some (.func #[49, 80] #[3] false) := by kernel_rfl
theorem ty132_i : (Try.prog.info? 132).map (fun i => (i.zero, i.size, i.bytes)) = some (some (.nilFunc), 1, 8) := by kernel_rfl
theorem ty133_u : Try.prog.underlying 133 = some (.func #[23, 107] #[3] false) := by kernel_rfl
theorem ty133_i : (Try.prog.info? 133).map (fun i => (i.zero, i.size, i.bytes)) = some (some (.nilFunc), 1, 8) := by kernel_rfl
theorem ty135_u : Try.prog.underlying 135 = some (.func #[134] #[134] false) := by kernel_rfl
theorem ty135_i : (Try.prog.info? 135).map (fun i => (i.zero, i.size, i.bytes)) = some (some (.nilFunc), 1, 8) := by kernel_rfl
theorem ty136_u : Try.prog.underlying 136 = some (.func #[3] #[22] false) := by kernel_rfl
theorem ty136_i : (Try.prog.info? 136).map (fun i => (i.zero, i.size, i.bytes)) = some (some (.nilFunc), 1, 8) := by kernel_rfl
theorem ty138_u : Try.prog.underlying 138 = some (.func #[22] #[3, 3, 3] false) := by kernel_rfl
theorem ty138_i : (Try.prog.info? 138).map (fun i => (i.zero, i.size, i.bytes)) = some (some (.nilFunc), 1, 8) := by kernel_rfl
theorem ty139_u : Try.prog.underlying 139 = some (.array 5 3) := by kernel_rfl
theorem ty139_i : (Try.prog.info? 139).map (fun i => (i.zero, i.size, i.bytes)) = some (some (.agg #[.int .i64 0, .int .i64 0, .int .i64 0, .int .i64 0, .int .i64 0]), 5, 40) := by kernel_rfl
theorem ty140_u : Try.prog.underlying 140 = some (.func #[23] #[23] false) := by kernel_rfl
theorem ty140_i : (Try.prog.info? 140).map (fun i => (i.zero, i.size, i.bytes)) = some (some (.nilFunc), 1, 8) := by kernel_rfl
theorem ty141_u : Try.prog.underlying 141 = some (.pointer 51) := by kernel_rfl
theorem ty141_i : (Try.prog.info? 141).map (fun i => (i.zero, i.size, i.bytes)) = some (some (.pointer none), 1, 8) := by kernel_rfl
theorem ty143_u : Try.prog.underlying 143 = some (.func #[5] #[3, 3] false) := by kernel_rfl
theorem ty143_i : (Try.prog.info? 143).map (fun i => (i.zero, i.size, i.bytes)) = some (some (.nilFunc), 1, 8) := by kernel_rfl
theorem ty144_u : Try.prog.underlying 144 = some (.func #[23, 51] #[23] false) := by kernel_rfl
theorem ty144_i : (Try.prog.info? 144).map (fun i => (i.zero, i.size, i.bytes)) = some (some (.nilFunc), 1, 8) := by kernel_rfl
theorem ty145_u : Try.prog.underlying 145 = some (.func #[49] #[23, 30] false) := by kernel_rfl
theorem ty145_i : (Try.prog.info? 145).map (fun i => (i.zero, i.size, i.bytes)) = some (some (.nilFunc), 1, 8) := by kernel_rfl
theorem ty146_u : Try.prog.underlying 146 = some (.func #[49, 3] #[49] false) := by kernel_rfl
theorem ty146_i : (Try.prog.info? 146).map (fun i => (i.zero, i.size, i.bytes)) = some (some (.nilFunc), 1, 8) := by kernel_rfl
theorem ty149_u : Try.prog.underlying 149 = some (.array 0 16) := by kernel_rfl
theorem ty149_i : (Try.prog.info? 149).map (fun i => (i.zero, i.size, i.bytes)) = some (some (.agg #[]), 0, 0) := by kernel_rfl
theorem ty154_u : Try.prog.underlying 154 = some (.func #[134, 134] #[4] false) := by kernel_rfl
theorem ty154_i : (Try.prog.info? 154).map (fun i => (i.zero, i.size, i.bytes)) = some (some (.nilFunc), 1, 8) := by kernel_rfl
theorem ty157_u : Try.prog.underlying 157 = some (.struct #[{ name := "Size_", type := 12, offset := 0, embedded := false, tag := "", pkgPath := "", byteOffset := 0 }, { name := "PtrBytes", type := 12, offset := 1, embedded := false, tag := "", pkgPath := "", byteOffset := 8 }, { name := "Hash", type := 113, offset := 2, embedded := false, tag := "", pkgPath := "", byteOffset := 16 }, { name := "TFlag", type := 152, offset := 3, embedded := false, tag := "", pkgPath := "", byteOffset := 20 }, { name := "Align_", type := 5, offset := 4, embedded := false, tag := "", pkgPath := "", byteOffset := 21 }, { name := "FieldAlign_", type := 5, offset := 5, embedded := false, tag := "", pkgPath := "", byteOffset := 22 }, { name := "Kind_", type := 153, offset := 6, embedded := false, tag := "", pkgPath := "", byteOffset := 23 }, { name := "Equal", type := 154, offset := 7, embedded := false, tag := "", pkgPath := "", byteOffset := 24 }, { name := "GCData", type := 119, offset := 8, embedded := false, tag := "", pkgPath := "", byteOffset := 32 }, { name := "Str", type := 155, offset := 9, embedded := false, tag := "", pkgPath := "", byteOffset := 40 }, { name := "PtrToThis", type := 156, offset := 10, embedded := false, tag := "", pkgPath := "", byteOffset := 44 }]) := by kernel_rfl
theorem ty157_i : (Try.prog.info? 157).map (fun i => (i.zero, i.size, i.bytes)) = some (some (.agg #[.int .u64 0, .int .u64 0, .int .u32 0, .int .u8 0, .int .u8 0, .int .u8 0, .int .u8 0, .nilFunc, .pointer none, .int .i32 0, .int .i32 0]), 11, 48) := by kernel_rfl
def tt : List (Nat × TI) := [(1, ⟨.other, 1, 8, [.val .nilf]⟩),
  (2, ⟨.int .i64, 1, 8, [.val (.int .i64 0)]⟩),
  (3, ⟨.int .i64, 1, 8, [.val (.int .i64 0)]⟩),
  (4, ⟨.bool, 1, 1, [.val (.bool false)]⟩),
  (5, ⟨.int .u8, 1, 1, [.val (.int .u8 0)]⟩),
  (9, ⟨.str, 1, 16, [.val (.str [])]⟩),
  (12, ⟨.int .u64, 1, 8, [.val (.int .u64 0)]⟩),
  (21, ⟨.int .i32, 1, 4, [.val (.int .i32 0)]⟩),
  (22, ⟨.slice 5, 1, 24, [.nil]⟩),
  (23, ⟨.slice 51, 1, 24, [.nil]⟩),
  (24, ⟨.struct [(0, 3), (1, 22), (2, 5), (3, 5), (4, 23), (5, 9), (6, 9), (7, 4)], 8, 104, [.val (.int .i64 0), .nil, .val (.int .u8 0), .val (.int .u8 0), .nil, .val (.str []), .val (.str []), .val (.bool false)]⟩),
  (25, ⟨.struct [(0, 3), (1, 22), (2, 5), (3, 5), (4, 23), (5, 9), (6, 9), (7, 4)], 8, 104, [.val (.int .i64 0), .nil, .val (.int .u8 0), .val (.int .u8 0), .nil, .val (.str []), .val (.str []), .val (.bool false)]⟩),
  (26, ⟨.other, 1, 8, [.val .nilf]⟩),
  (27, ⟨.other, 1, 8, [.val .nilf]⟩),
  (28, ⟨.array 3 25, 24, 312, [.val (.int .i64 0), .nil, .val (.int .u8 0), .val (.int .u8 0), .nil, .val (.str []), .val (.str []), .val (.bool false), .val (.int .i64 0), .nil, .val (.int .u8 0), .val (.int .u8 0), .nil, .val (.str []), .val (.str []), .val (.bool false), .val (.int .i64 0), .nil, .val (.int .u8 0), .val (.int .u8 0), .nil, .val (.str []), .val (.str []), .val (.bool false)]⟩),
  (29, ⟨.slice 42, 1, 24, [.nil]⟩),
  (30, ⟨.int .i64, 1, 8, [.val (.int .i64 0)]⟩),
  (32, ⟨.other, 1, 8, [.val .nilf]⟩),
  (33, ⟨.other, 1, 8, [.val .nilf]⟩),
  (34, ⟨.other, 1, 8, [.val .nilf]⟩),
  (35, ⟨.other, 1, 8, [.val .nilf]⟩),
  (36, ⟨.other, 1, 8, [.val .nilf]⟩),
  (37, ⟨.other, 1, 8, [.val .nilf]⟩),
  (38, ⟨.other, 1, 8, [.val .nilf]⟩),
  (39, ⟨.array 3 9, 3, 48, [.val (.str []), .val (.str []), .val (.str [])]⟩),
  (40, ⟨.other, 1, 8, [.val .nilf]⟩),
  (41, ⟨.struct [(0, 3), (1, 3), (2, 5), (3, 5), (4, 23), (5, 9), (6, 9)], 7, 80, [.val (.int .i64 0), .val (.int .i64 0), .val (.int .u8 0), .val (.int .u8 0), .nil, .val (.str []), .val (.str [])]⟩),
  (42, ⟨.struct [(0, 3), (1, 3), (2, 5), (3, 5), (4, 23), (5, 9), (6, 9)], 7, 80, [.val (.int .i64 0), .val (.int .i64 0), .val (.int .u8 0), .val (.int .u8 0), .nil, .val (.str []), .val (.str [])]⟩),
  (43, ⟨.other, 1, 8, [.val .nilf]⟩),
  (44, ⟨.slice 47, 1, 24, [.nil]⟩),
  (45, ⟨.struct [(0, 44), (1, 5), (2, 22), (3, 5), (4, 9)], 5, 80, [.nil, .val (.int .u8 0), .nil, .val (.int .u8 0), .val (.str [])]⟩),
  (46, ⟨.struct [(0, 44), (1, 5), (2, 22), (3, 5), (4, 9)], 5, 80, [.nil, .val (.int .u8 0), .nil, .val (.int .u8 0), .val (.str [])]⟩),
  (47, ⟨.int .u16, 1, 2, [.val (.int .u16 0)]⟩),
  (48, ⟨.other, 1, 8, [.val .nilf]⟩),
  (49, ⟨.slice 3, 1, 24, [.nil]⟩),
  (50, ⟨.struct [(0, 49)], 1, 24, [.nil]⟩),
  (51, ⟨.struct [(0, 49)], 1, 24, [.nil]⟩),
  (52, ⟨.other, 1, 8, [.val .nilf]⟩),
  (53, ⟨.other, 1, 8, [.val .nilf]⟩),
  (54, ⟨.other, 1, 8, [.val .nilf]⟩),
  (55, ⟨.other, 1, 8, [.val .nilf]⟩),
  (56, ⟨.other, 1, 8, [.val .nilf]⟩),
  (57, ⟨.other, 1, 8, [.val .nilf]⟩),
  (58, ⟨.array 2 25, 16, 208, [.val (.int .i64 0), .nil, .val (.int .u8 0), .val (.int .u8 0), .nil, .val (.str []), .val (.str []), .val (.bool false), .val (.int .i64 0), .nil, .val (.int .u8 0), .val (.int .u8 0), .nil, .val (.str []), .val (.str []), .val (.bool false)]⟩),
  (59, ⟨.array 8 5, 8, 8, [.val (.int .u8 0), .val (.int .u8 0), .val (.int .u8 0), .val (.int .u8 0), .val (.int .u8 0), .val (.int .u8 0), .val (.int .u8 0), .val (.int .u8 0)]⟩),
  (60, ⟨.other, 1, 8, [.val .nilf]⟩),
  (61, ⟨.other, 1, 8, [.val .nilf]⟩),
  (62, ⟨.array 2 42, 14, 160, [.val (.int .i64 0), .val (.int .i64 0), .val (.int .u8 0), .val (.int .u8 0), .nil, .val (.str []), .val (.str []), .val (.int .i64 0), .val (.int .i64 0), .val (.int .u8 0), .val (.int .u8 0), .nil, .val (.str []), .val (.str [])]⟩),
  (63, ⟨.array 9 25, 72, 936, [.val (.int .i64 0), .nil, .val (.int .u8 0), .val (.int .u8 0), .nil, .val (.str []), .val (.str []), .val (.bool false), .val (.int .i64 0), .nil, .val (.int .u8 0), .val (.int .u8 0), .nil, .val (.str []), .val (.str []), .val (.bool false), .val (.int .i64 0), .nil, .val (.int .u8 0), .val (.int .u8 0), .nil, .val (.str []), .val (.str []), .val (.bool false), .val (.int .i64 0), .nil, .val (.int .u8 0), .val (.int .u8 0), .nil, .val (.str []), .val (.str []), .val (.bool false), .val (.int .i64 0), .nil, .val (.int .u8 0), .val (.int .u8 0), .nil, .val (.str []), .val (.str []), .val (.bool false), .val (.int .i64 0), .nil, .val (.int .u8 0), .val (.int .u8 0), .nil, .val (.str []), .val (.str []), .val (.bool false), .val (.int .i64 0), .nil, .val (.int .u8 0), .val (.int .u8 0), .nil, .val (.str []), .val (.str []), .val (.bool false), .val (.int .i64 0), .nil, .val (.int .u8 0), .val (.int .u8 0), .nil, .val (.str []), .val (.str []), .val (.bool false), .val (.int .i64 0), .nil, .val (.int .u8 0), .val (.int .u8 0), .nil, .val (.str []), .val (.str []), .val (.bool false)]⟩),
  (64, ⟨.int .u64, 1, 8, [.val (.int .u64 0)]⟩),
  (65, ⟨.other, 1, 8, [.val .nilf]⟩),
  (66, ⟨.other, 1, 8, [.val .nilf]⟩),
  (67, ⟨.other, 1, 8, [.val .nilf]⟩),
  (68, ⟨.array 8 25, 64, 832, [.val (.int .i64 0), .nil, .val (.int .u8 0), .val (.int .u8 0), .nil, .val (.str []), .val (.str []), .val (.bool false), .val (.int .i64 0), .nil, .val (.int .u8 0), .val (.int .u8 0), .nil, .val (.str []), .val (.str []), .val (.bool false), .val (.int .i64 0), .nil, .val (.int .u8 0), .val (.int .u8 0), .nil, .val (.str []), .val (.str []), .val (.bool false), .val (.int .i64 0), .nil, .val (.int .u8 0), .val (.int .u8 0), .nil, .val (.str []), .val (.str []), .val (.bool false), .val (.int .i64 0), .nil, .val (.int .u8 0), .val (.int .u8 0), .nil, .val (.str []), .val (.str []), .val (.bool false), .val (.int .i64 0), .nil, .val (.int .u8 0), .val (.int .u8 0), .nil, .val (.str []), .val (.str []), .val (.bool false), .val (.int .i64 0), .nil, .val (.int .u8 0), .val (.int .u8 0), .nil, .val (.str []), .val (.str []), .val (.bool false), .val (.int .i64 0), .nil, .val (.int .u8 0), .val (.int .u8 0), .nil, .val (.str []), .val (.str []), .val (.bool false)]⟩),
  (69, ⟨.array 6 25, 48, 624, [.val (.int .i64 0), .nil, .val (.int .u8 0), .val (.int .u8 0), .nil, .val (.str []), .val (.str []), .val (.bool false), .val (.int .i64 0), .nil, .val (.int .u8 0), .val (.int .u8 0), .nil, .val (.str []), .val (.str []), .val (.bool false), .val (.int .i64 0), .nil, .val (.int .u8 0), .val (.int .u8 0), .nil, .val (.str []), .val (.str []), .val (.bool false), .val (.int .i64 0), .nil, .val (.int .u8 0), .val (.int .u8 0), .nil, .val (.str []), .val (.str []), .val (.bool false), .val (.int .i64 0), .nil, .val (.int .u8 0), .val (.int .u8 0), .nil, .val (.str []), .val (.str []), .val (.bool false), .val (.int .i64 0), .nil, .val (.int .u8 0), .val (.int .u8 0), .nil, .val (.str []), .val (.str []), .val (.bool false)]⟩),
  (70, ⟨.other, 1, 8, [.val .nilp]⟩),
  (71, ⟨.struct [(0, 25), (8, 29)], 9, 128, [.val (.int .i64 0), .nil, .val (.int .u8 0), .val (.int .u8 0), .nil, .val (.str []), .val (.str []), .val (.bool false), .nil]⟩),
  (72, ⟨.struct [(0, 25), (8, 29)], 9, 128, [.val (.int .i64 0), .nil, .val (.int .u8 0), .val (.int .u8 0), .nil, .val (.str []), .val (.str []), .val (.bool false), .nil]⟩),
  (73, ⟨.other, 1, 8, [.val .nilf]⟩),
  (74, ⟨.other, 1, 8, [.val .nilf]⟩),
  (76, ⟨.other, 1, 8, [.val .nilf]⟩),
  (77, ⟨.other, 1, 8, [.val .nilf]⟩),
  (78, ⟨.array 15 3, 15, 120, [.val (.int .i64 0), .val (.int .i64 0), .val (.int .i64 0), .val (.int .i64 0), .val (.int .i64 0), .val (.int .i64 0), .val (.int .i64 0), .val (.int .i64 0), .val (.int .i64 0), .val (.int .i64 0), .val (.int .i64 0), .val (.int .i64 0), .val (.int .i64 0), .val (.int .i64 0), .val (.int .i64 0)]⟩),
  (79, ⟨.other, 1, 8, [.val .nilf]⟩),
  (80, ⟨.other, 1, 8, [.val .nilf]⟩),
  (81, ⟨.other, 1, 8, [.val .nilf]⟩),
  (82, ⟨.other, 1, 8, [.val .nilf]⟩),
  (83, ⟨.other, 1, 8, [.val .nilf]⟩),
  (85, ⟨.other, 1, 8, [.val .nilf]⟩),
  (86, ⟨.other, 1, 8, [.val .nilf]⟩),
  (87, ⟨.other, 1, 8, [.val .nilp]⟩),
  (88, ⟨.struct [(0, 87), (1, 22)], 2, 32, [.val .nilp, .nil]⟩),
  (89, ⟨.struct [(0, 87), (1, 22)], 2, 32, [.val .nilp, .nil]⟩),
  (90, ⟨.other, 1, 8, [.val .nilf]⟩),
  (94, ⟨.other, 1, 8, [.val .nilf]⟩),
  (95, ⟨.other, 1, 8, [.val .nilf]⟩),
  (96, ⟨.other, 1, 8, [.val .nilf]⟩),
  (97, ⟨.other, 1, 8, [.val .nilf]⟩),
  (98, ⟨.other, 1, 8, [.val .nilf]⟩),
  (99, ⟨.array 15 98, 15, 120, [.val .nilf, .val .nilf, .val .nilf, .val .nilf, .val .nilf, .val .nilf, .val .nilf, .val .nilf, .val .nilf, .val .nilf, .val .nilf, .val .nilf, .val .nilf, .val .nilf, .val .nilf]⟩),
  (100, ⟨.other, 1, 8, [.val .nilf]⟩),
  (101, ⟨.other, 1, 8, [.val .nilf]⟩),
  (102, ⟨.other, 1, 8, [.val .nilf]⟩),
  (103, ⟨.other, 1, 8, [.val .nilf]⟩),
  (104, ⟨.other, 1, 8, [.val .nilf]⟩),
  (105, ⟨.other, 1, 8, [.val .nilf]⟩),
  (106, ⟨.other, 1, 8, [.val .nilf]⟩),
  (107, ⟨.other, 1, 8, [.val .nilf]⟩),
  (108, ⟨.other, 1, 8, [.val .nilf]⟩),
  (109, ⟨.other, 1, 8, [.val .nilf]⟩),
  (110, ⟨.other, 1, 8, [.val .nilf]⟩),
  (111, ⟨.other, 1, 8, [.val .nilf]⟩),
  (112, ⟨.other, 1, 8, [.val .nilf]⟩),
  (113, ⟨.int .u32, 1, 4, [.val (.int .u32 0)]⟩),
  (115, ⟨.other, 1, 8, [.val .nilf]⟩),
  (116, ⟨.int .u64, 1, 8, [.val (.int .u64 0)]⟩),
  (118, ⟨.other, 1, 8, [.val .nilf]⟩),
  (119, ⟨.other, 1, 8, [.val .nilp]⟩),
  (121, ⟨.other, 1, 8, [.val .nilf]⟩),
  (123, ⟨.other, 1, 8, [.val .nilf]⟩),
  (124, ⟨.other, 1, 8, [.val .nilf]⟩),
  (125, ⟨.other, 1, 8, [.val .nilf]⟩),
  (126, ⟨.other, 1, 8, [.val .nilf]⟩),
  (128, ⟨.other, 1, 8, [.val .nilf]⟩),
  (129, ⟨.other, 1, 8, [.val .nilf]⟩),
  (131, ⟨.other, 1, 8, [.val .nilf]⟩),
  (132, ⟨.other, 1, 8, [.val .nilf]⟩),
  (133, ⟨.other, 1, 8, [.val .nilf]⟩),
  (135, ⟨.other, 1, 8, [.val .nilf]⟩),
  (136, ⟨.other, 1, 8, [.val .nilf]⟩),
  (138, ⟨.other, 1, 8, [.val .nilf]⟩),
  (139, ⟨.array 5 3, 5, 40, [.val (.int .i64 0), .val (.int .i64 0), .val (.int .i64 0), .val (.int .i64 0), .val (.int .i64 0)]⟩),
  (140, ⟨.other, 1, 8, [.val .nilf]⟩),
  (141, ⟨.other, 1, 8, [.val .nilp]⟩),
  (143, ⟨.other, 1, 8, [.val .nilf]⟩),
  (144, ⟨.other, 1, 8, [.val .nilf]⟩),
  (145, ⟨.other, 1, 8, [.val .nilf]⟩),
  (146, ⟨.other, 1, 8, [.val .nilf]⟩),
  (149, ⟨.array 0 16, 0, 0, []⟩),
  (154, ⟨.other, 1, 8, [.val .nilf]⟩),
  (157, ⟨.struct [(0, 12), (1, 12), (2, 113), (3, 152), (4, 5), (5, 5), (6, 153), (7, 154), (8, 119), (9, 155), (10, 156)], 11, 48, [.val (.int .u64 0), .val (.int .u64 0), .val (.int .u32 0), .val (.int .u8 0), .val (.int .u8 0), .val (.int .u8 0), .val (.int .u8 0), .val .nilf, .val .nilp, .val (.int .i32 0), .val (.int .i32 0)]⟩)]
def T : TT := ttFind tt
@[simp] theorem T_1 : T 1 = some ⟨.other, 1, 8, [.val .nilf]⟩ := rfl
@[simp] theorem T_2 : T 2 = some ⟨.int .i64, 1, 8, [.val (.int .i64 0)]⟩ := rfl
@[simp] theorem T_3 : T 3 = some ⟨.int .i64, 1, 8, [.val (.int .i64 0)]⟩ := rfl
@[simp] theorem T_4 : T 4 = some ⟨.bool, 1, 1, [.val (.bool false)]⟩ := rfl
@[simp] theorem T_5 : T 5 = some ⟨.int .u8, 1, 1, [.val (.int .u8 0)]⟩ := rfl
@[simp] theorem T_9 : T 9 = some ⟨.str, 1, 16, [.val (.str [])]⟩ := rfl
@[simp] theorem T_12 : T 12 = some ⟨.int .u64, 1, 8, [.val (.int .u64 0)]⟩ := rfl
@[simp] theorem T_21 : T 21 = some ⟨.int .i32, 1, 4, [.val (.int .i32 0)]⟩ := rfl
@[simp] theorem T_22 : T 22 = some ⟨.slice 5, 1, 24, [.nil]⟩ := rfl
@[simp] theorem T_23 : T 23 = some ⟨.slice 51, 1, 24, [.nil]⟩ := rfl
@[simp] theorem T_24 : T 24 = some ⟨.struct [(0, 3), (1, 22), (2, 5), (3, 5), (4, 23), (5, 9), (6, 9), (7, 4)], 8, 104, [.val (.int .i64 0), .nil, .val (.int .u8 0), .val (.int .u8 0), .nil, .val (.str []), .val (.str []), .val (.bool false)]⟩ := rfl
@[simp] theorem T_25 : T 25 = some ⟨.struct [(0, 3), (1, 22), (2, 5), (3, 5), (4, 23), (5, 9), (6, 9), (7, 4)], 8, 104, [.val (.int .i64 0), .nil, .val (.int .u8 0), .val (.int .u8 0), .nil, .val (.str []), .val (.str []), .val (.bool false)]⟩ := rfl
@[simp] theorem T_26 : T 26 = some ⟨.other, 1, 8, [.val .nilf]⟩ := rfl
@[simp] theorem T_27 : T 27 = some ⟨.other, 1, 8, [.val .nilf]⟩ := rfl
@[simp] theorem T_28 : T 28 = some ⟨.array 3 25, 24, 312, [.val (.int .i64 0), .nil, .val (.int .u8 0), .val (.int .u8 0), .nil, .val (.str []), .val (.str []), .val (.bool false), .val (.int .i64 0), .nil, .val (.int .u8 0), .val (.int .u8 0), .nil, .val (.str []), .val (.str []), .val (.bool false), .val (.int .i64 0), .nil, .val (.int .u8 0), .val (.int .u8 0), .nil, .val (.str []), .val (.str []), .val (.bool false)]⟩ := rfl
@[simp] theorem T_29 : T 29 = some ⟨.slice 42, 1, 24, [.nil]⟩ := rfl
@[simp] theorem T_30 : T 30 = some ⟨.int .i64, 1, 8, [.val (.int .i64 0)]⟩ := rfl
@[simp] theorem T_32 : T 32 = some ⟨.other, 1, 8, [.val .nilf]⟩ := rfl
@[simp] theorem T_33 : T 33 = some ⟨.other, 1, 8, [.val .nilf]⟩ := rfl
@[simp] theorem T_34 : T 34 = some ⟨.other, 1, 8, [.val .nilf]⟩ := rfl
@[simp] theorem T_35 : T 35 = some ⟨.other, 1, 8, [.val .nilf]⟩ := rfl
@[simp] theorem T_36 : T 36 = some ⟨.other, 1, 8, [.val .nilf]⟩ := rfl
@[simp] theorem T_37 : T 37 = some ⟨.other, 1, 8, [.val .nilf]⟩ := rfl
@[simp] theorem T_38 : T 38 = some ⟨.other, 1, 8, [.val .nilf]⟩ := rfl
@[simp] theorem T_39 : T 39 = some ⟨.array 3 9, 3, 48, [.val (.str []), .val (.str []), .val (.str [])]⟩ := rfl
@[simp] theorem T_40 : T 40 = some ⟨.other, 1, 8, [.val .nilf]⟩ := rfl
@[simp] theorem T_41 : T 41 = some ⟨.struct [(0, 3), (1, 3), (2, 5), (3, 5), (4, 23), (5, 9), (6, 9)], 7, 80, [.val (.int .i64 0), .val (.int .i64 0), .val (.int .u8 0), .val (.int .u8 0), .nil, .val (.str []), .val (.str [])]⟩ := rfl
@[simp] theorem T_42 : T 42 = some ⟨.struct [(0, 3), (1, 3), (2, 5), (3, 5), (4, 23), (5, 9), (6, 9)], 7, 80, [.val (.int .i64 0), .val (.int .i64 0), .val (.int .u8 0), .val (.int .u8 0), .nil, .val (.str []), .val (.str [])]⟩ := rfl
@[simp] theorem T_43 : T 43 = some ⟨.other, 1, 8, [.val .nilf]⟩ := rfl
@[simp] theorem T_44 : T 44 = some ⟨.slice 47, 1, 24, [.nil]⟩ := rfl
@[simp] theorem T_45 : T 45 = some ⟨.struct [(0, 44), (1, 5), (2, 22), (3, 5), (4, 9)], 5, 80, [.nil, .val (.int .u8 0), .nil, .val (.int .u8 0), .val (.str [])]⟩ := rfl
@[simp] theorem T_46 : T 46 = some ⟨.struct [(0, 44), (1, 5), (2, 22), (3, 5), (4, 9)], 5, 80, [.nil, .val (.int .u8 0), .nil, .val (.int .u8 0), .val (.str [])]⟩ := rfl
@[simp] theorem T_47 : T 47 = some ⟨.int .u16, 1, 2, [.val (.int .u16 0)]⟩ := rfl
@[simp] theorem T_48 : T 48 = some ⟨.other, 1, 8, [.val .nilf]⟩ := rfl
@[simp] theorem T_49 : T 49 = some ⟨.slice 3, 1, 24, [.nil]⟩ := rfl
@[simp] theorem T_50 : T 50 = some ⟨.struct [(0, 49)], 1, 24, [.nil]⟩ := rfl
@[simp] theorem T_51 : T 51 = some ⟨.struct [(0, 49)], 1, 24, [.nil]⟩ := rfl
@[simp] theorem T_52 : T 52 = some ⟨.other, 1, 8, [.val .nilf]⟩ := rfl
@[simp] theorem T_53 : T 53 = some ⟨.other, 1, 8, [.val .nilf]⟩ := rfl
@[simp] theorem T_54 : T 54 = some ⟨.other, 1, 8, [.val .nilf]⟩ := rfl
@[simp] theorem T_55 : T 55 = some ⟨.other, 1, 8, [.val .nilf]⟩ := rfl
@[simp] theorem T_56 : T 56 = some ⟨.other, 1, 8, [.val .nilf]⟩ := rfl
@[simp] theorem T_57 : T 57 = some ⟨.other, 1, 8, [.val .nilf]⟩ := rfl
@[simp] theorem T_58 : T 58 = some ⟨.array 2 25, 16, 208, [.val (.int .i64 0), .nil, .val (.int .u8 0), .val (.int .u8 0), .nil, .val (.str []), .val (.str []), .val (.bool false), .val (.int .i64 0), .nil, .val (.int .u8 0), .val (.int .u8 0), .nil, .val (.str []), .val (.str []), .val (.bool false)]⟩ := rfl
@[simp] theorem T_59 : T 59 = some ⟨.array 8 5, 8, 8, [.val (.int .u8 0), .val (.int .u8 0), .val (.int .u8 0), .val (.int .u8 0), .val (.int .u8 0), .val (.int .u8 0), .val (.int .u8 0), .val (.int .u8 0)]⟩ := rfl
@[simp] theorem T_60 : T 60 = some ⟨.other, 1, 8, [.val .nilf]⟩ := rfl
@[simp] theorem T_61 : T 61 = some ⟨.other, 1, 8, [.val .nilf]⟩ := rfl
@[simp] theorem T_62 : T 62 = some ⟨.array 2 42, 14, 160, [.val (.int .i64 0), .val (.int .i64 0), .val (.int .u8 0), .val (.int .u8 0), .nil, .val (.str []), .val (.str []), .val (.int .i64 0), .val (.int .i64 0), .val (.int .u8 0), .val (.int .u8 0), .nil, .val (.str []), .val (.str [])]⟩ := rfl
@[simp] theorem T_63 : T 63 = some ⟨.array 9 25, 72, 936, [.val (.int .i64 0), .nil, .val (.int .u8 0), .val (.int .u8 0), .nil, .val (.str []), .val (.str []), .val (.bool false), .val (.int .i64 0), .nil, .val (.int .u8 0), .val (.int .u8 0), .nil, .val (.str []), .val (.str []), .val (.bool false), .val (.int .i64 0), .nil, .val (.int .u8 0), .val (.int .u8 0), .nil, .val (.str []), .val (.str []), .val (.bool false), .val (.int .i64 0), .nil, .val (.int .u8 0), .val (.int .u8 0), .nil, .val (.str []), .val (.str []), .val (.bool false), .val (.int .i64 0), .nil, .val (.int .u8 0), .val (.int .u8 0), .nil, .val (.str []), .val (.str []), .val (.bool false), .val (.int .i64 0), .nil, .val (.int .u8 0), .val (.int .u8 0), .nil, .val (.str []), .val (.str []), .val (.bool false), .val (.int .i64 0), .nil, .val (.int .u8 0), .val (.int .u8 0), .nil, .val (.str []), .val (.str []), .val (.bool false), .val (.int .i64 0), .nil, .val (.int .u8 0), .val (.int .u8 0), .nil, .val (.str []), .val (.str []), .val (.bool false), .val (.int .i64 0), .nil, .val (.int .u8 0), .val (.int .u8 0), .nil, .val (.str []), .val (.str []), .val (.bool false)]⟩ := rfl
@[simp] theorem T_64 : T 64 = some ⟨.int .u64, 1, 8, [.val (.int .u64 0)]⟩ := rfl
@[simp] theorem T_65 : T 65 = some ⟨.other, 1, 8, [.val .nilf]⟩ := rfl
@[simp] theorem T_66 : T 66 = some ⟨.other, 1, 8, [.val .nilf]⟩ := rfl
@[simp] theorem T_67 : T 67 = some ⟨.other, 1, 8, [.val .nilf]⟩ := rfl
@[simp] theorem T_68 : T 68 = some ⟨.array 8 25, 64, 832, [.val (.int .i64 0), .nil, .val (.int .u8 0), .val (.int .u8 0), .nil, .val (.str []), .val (.str []), .val (.bool false), .val (.int .i64 0), .nil, .val (.int .u8 0), .val (.int .u8 0), .nil, .val (.str []), .val (.str []), .val (.bool false), .val (.int .i64 0), .nil, .val (.int .u8 0), .val (.int .u8 0), .nil, .val (.str []), .val (.str []), .val (.bool false), .val (.int .i64 0), .nil, .val (.int .u8 0), .val (.int .u8 0), .nil, .val (.str []), .val (.str []), .val (.bool false), .val (.int .i64 0), .nil, .val (.int .u8 0), .val (.int .u8 0), .nil, .val (.str []), .val (.str []), .val (.bool false), .val (.int .i64 0), .nil, .val (.int .u8 0), .val (.int .u8 0), .nil, .val (.str []), .val (.str []), .val (.bool false), .val (.int .i64 0), .nil, .val (.int .u8 0), .val (.int .u8 0), .nil, .val (.str []), .val (.str []), .val (.bool false), .val (.int .i64 0), .nil, .val (.int .u8 0), .val (.int .u8 0), .nil, .val (.str []), .val (.str []), .val (.bool false)]⟩ := rfl
@[simp] theorem T_69 : T 69 = some ⟨.array 6 25, 48, 624, [.val (.int .i64 0), .nil, .val (.int .u8 0), .val (.int .u8 0), .nil, .val (.str []), .val (.str []), .val (.bool false), .val (.int .i64 0), .nil, .val (.int .u8 0), .val (.int .u8 0), .nil, .val (.str []), .val (.str []), .val (.bool false), .val (.int .i64 0), .nil, .val (.int .u8 0), .val (.int .u8 0), .nil, .val (.str []), .val (.str []), .val (.bool false), .val (.int .i64 0), .nil, .val (.int .u8 0), .val (.int .u8 0), .nil, .val (.str []), .val (.str []), .val (.bool false), .val (.int .i64 0), .nil, .val (.int .u8 0), .val (.int .u8 0), .nil, .val (.str []), .val (.str []), .val (.bool false), .val (.int .i64 0), .nil, .val (.int .u8 0), .val (.int .u8 0), .nil, .val (.str []), .val (.str []), .val (.bool false)]⟩ := rfl
@[simp] theorem T_70 : T 70 = some ⟨.other, 1, 8, [.val .nilp]⟩ := rfl
@[simp] theorem T_71 : T 71 = some ⟨.struct [(0, 25), (8, 29)], 9, 128, [.val (.int .i64 0), .nil, .val (.int .u8 0), .val (.int .u8 0), .nil, .val (.str []), .val (.str []), .val (.bool false), .nil]⟩ := rfl
@[simp] theorem T_72 : T 72 = some ⟨.struct [(0, 25), (8, 29)], 9, 128, [.val (.int .i64 0), .nil, .val (.int .u8 0), .val (.int .u8 0), .nil, .val (.str []), .val (.str []), .val (.bool false), .nil]⟩ := rfl
@[simp] theorem T_73 : T 73 = some ⟨.other, 1, 8, [.val .nilf]⟩ := rfl
@[simp] theorem T_74 : T 74 = some ⟨.other, 1, 8, [.val .nilf]⟩ := rfl
@[simp] theorem T_76 : T 76 = some ⟨.other, 1, 8, [.val .nilf]⟩ := rfl
@[simp] theorem T_77 : T 77 = some ⟨.other, 1, 8, [.val .nilf]⟩ := rfl
@[simp] theorem T_78 : T 78 = some ⟨.array 15 3, 15, 120, [.val (.int .i64 0), .val (.int .i64 0), .val (.int .i64 0), .val (.int .i64 0), .val (.int .i64 0), .val (.int .i64 0), .val (.int .i64 0), .val (.int .i64 0), .val (.int .i64 0), .val (.int .i64 0), .val (.int .i64 0), .val (.int .i64 0), .val (.int .i64 0), .val (.int .i64 0), .val (.int .i64 0)]⟩ := rfl
@[simp] theorem T_79 : T 79 = some ⟨.other, 1, 8, [.val .nilf]⟩ := rfl
@[simp] theorem T_80 : T 80 = some ⟨.other, 1, 8, [.val .nilf]⟩ := rfl
@[simp] theorem T_81 : T 81 = some ⟨.other, 1, 8, [.val .nilf]⟩ := rfl
@[simp] theorem T_82 : T 82 = some ⟨.other, 1, 8, [.val .nilf]⟩ := rfl
@[simp] theorem T_83 : T 83 = some ⟨.other, 1, 8, [.val .nilf]⟩ := rfl
@[simp] theorem T_85 : T 85 = some ⟨.other, 1, 8, [.val .nilf]⟩ := rfl
@[simp] theorem T_86 : T 86 = some ⟨.other, 1, 8, [.val .nilf]⟩ := rfl
@[simp] theorem T_87 : T 87 = some ⟨.other, 1, 8, [.val .nilp]⟩ := rfl
@[simp] theorem T_88 : T 88 = some ⟨.struct [(0, 87), (1, 22)], 2, 32, [.val .nilp, .nil]⟩ := rfl
@[simp] theorem T_89 : T 89 = some ⟨.struct [(0, 87), (1, 22)], 2, 32, [.val .nilp, .nil]⟩ := rfl
@[simp] theorem T_90 : T 90 = some ⟨.other, 1, 8, [.val .nilf]⟩ := rfl
@[simp] theorem T_94 : T 94 = some ⟨.other, 1, 8, [.val .nilf]⟩ := rfl
@[simp] theorem T_95 : T 95 = some ⟨.other, 1, 8, [.val .nilf]⟩ := rfl
@[simp] theorem T_96 : T 96 = some ⟨.other, 1, 8, [.val .nilf]⟩ := rfl
@[simp] theorem T_97 : T 97 = some ⟨.other, 1, 8, [.val .nilf]⟩ := rfl
@[simp] theorem T_98 : T 98 = some ⟨.other, 1, 8, [.val .nilf]⟩ := rfl
@[simp] theorem T_99 : T 99 = some ⟨.array 15 98, 15, 120, [.val .nilf, .val .nilf, .val .nilf, .val .nilf, .val .nilf, .val .nilf, .val .nilf, .val .nilf, .val .nilf, .val .nilf, .val .nilf, .val .nilf, .val .nilf, .val .nilf, .val .nilf]⟩ := rfl
@[simp] theorem T_100 : T 100 = some ⟨.other, 1, 8, [.val .nilf]⟩ := rfl
@[simp] theorem T_101 : T 101 = some ⟨.other, 1, 8, [.val .nilf]⟩ := rfl
@[simp] theorem T_102 : T 102 = some ⟨.other, 1, 8, [.val .nilf]⟩ := rfl
@[simp] theorem T_103 : T 103 = some ⟨.other, 1, 8, [.val .nilf]⟩ := rfl
@[simp] theorem T_104 : T 104 = some ⟨.other, 1, 8, [.val .nilf]⟩ := rfl
@[simp] theorem T_105 : T 105 = some ⟨.other, 1, 8, [.val .nilf]⟩ := rfl
@[simp] theorem T_106 : T 106 = some ⟨.other, 1, 8, [.val .nilf]⟩ := rfl
@[simp] theorem T_107 : T 107 = some ⟨.other, 1, 8, [.val .nilf]⟩ := rfl
@[simp] theorem T_108 : T 108 = some ⟨.other, 1, 8, [.val .nilf]⟩ := rfl
@[simp] theorem T_109 : T 109 = some ⟨.other, 1, 8, [.val .nilf]⟩ := rfl
@[simp] theorem T_110 : T 110 = some ⟨.other, 1, 8, [.val .nilf]⟩ := rfl
@[simp] theorem T_111 : T 111 = some ⟨.other, 1, 8, [.val .nilf]⟩ := rfl
@[simp] theorem T_112 : T 112 = some ⟨.other, 1, 8, [.val .nilf]⟩ := rfl
@[simp] theorem T_113 : T 113 = some ⟨.int .u32, 1, 4, [.val (.int .u32 0)]⟩ := rfl
@[simp] theorem T_115 : T 115 = some ⟨.other, 1, 8, [.val .nilf]⟩ := rfl
@[simp] theorem T_116 : T 116 = some ⟨.int .u64, 1, 8, [.val (.int .u64 0)]⟩ := rfl
@[simp] theorem T_118 : T 118 = some ⟨.other, 1, 8, [.val .nilf]⟩ := rfl
@[simp] theorem T_119 : T 119 = some ⟨.other, 1, 8, [.val .nilp]⟩ := rfl
@[simp] theorem T_121 : T 121 = some ⟨.other, 1, 8, [.val .nilf]⟩ := rfl
@[simp] theorem T_123 : T 123 = some ⟨.other, 1, 8, [.val .nilf]⟩ := rfl
@[simp] theorem T_124 : T 124 = some ⟨.other, 1, 8, [.val .nilf]⟩ := rfl
@[simp] theorem T_125 : T 125 = some ⟨.other, 1, 8, [.val .nilf]⟩ := rfl
@[simp] theorem T_126 : T 126 = some ⟨.other, 1, 8, [.val .nilf]⟩ := rfl
@[simp] theorem T_128 : T 128 = some ⟨.other, 1, 8, [.val .nilf]⟩ := rfl
@[simp] theorem T_129 : T 129 = some ⟨.other, 1, 8, [.val .nilf]⟩ := rfl
@[simp] theorem T_131 : T 131 = some ⟨.other, 1, 8, [.val .nilf]⟩ := rfl
@[simp] theorem T_132 : T 132 = some ⟨.other, 1, 8, [.val .nilf]⟩ := rfl
@[simp] theorem T_133 : T 133 = some ⟨.other, 1, 8, [.val .nilf]⟩ := rfl
@[simp] theorem T_135 : T 135 = some ⟨.other, 1, 8, [.val .nilf]⟩ := rfl
@[simp] theorem T_136 : T 136 = some ⟨.other, 1, 8, [.val .nilf]⟩ := rfl
@[simp] theorem T_138 : T 138 = some ⟨.other, 1, 8, [.val .nilf]⟩ := rfl
@[simp] theorem T_139 : T 139 = some ⟨.array 5 3, 5, 40, [.val (.int .i64 0), .val (.int .i64 0), .val (.int .i64 0), .val (.int .i64 0), .val (.int .i64 0)]⟩ := rfl
@[simp] theorem T_140 : T 140 = some ⟨.other, 1, 8, [.val .nilf]⟩ := rfl
@[simp] theorem T_141 : T 141 = some ⟨.other, 1, 8, [.val .nilp]⟩ := rfl
@[simp] theorem T_143 : T 143 = some ⟨.other, 1, 8, [.val .nilf]⟩ := rfl
@[simp] theorem T_144 : T 144 = some ⟨.other, 1, 8, [.val .nilf]⟩ := rfl
@[simp] theorem T_145 : T 145 = some ⟨.other, 1, 8, [.val .nilf]⟩ := rfl
@[simp] theorem T_146 : T 146 = some ⟨.other, 1, 8, [.val .nilf]⟩ := rfl
@[simp] theorem T_149 : T 149 = some ⟨.array 0 16, 0, 0, []⟩ := rfl
@[simp] theorem T_154 : T 154 = some ⟨.other, 1, 8, [.val .nilf]⟩ := rfl
@[simp] theorem T_157 : T 157 = some ⟨.struct [(0, 12), (1, 12), (2, 113), (3, 152), (4, 5), (5, 5), (6, 153), (7, 154), (8, 119), (9, 155), (10, 156)], 11, 48, [.val (.int .u64 0), .val (.int .u64 0), .val (.int .u32 0), .val (.int .u8 0), .val (.int .u8 0), .val (.int .u8 0), .val (.int .u8 0), .val .nilf, .val .nilp, .val (.int .i32 0), .val (.int .i32 0)]⟩ := rfl
theorem eqN_1 : eqK T 8 1 = none := by kernel_rfl
theorem ty2_e : eqOK Try.prog 2 = true := by kernel_rfl
@[simp] theorem eqK_2 : eqK T 8 2 = some [.int .i64] := by kernel_rfl
theorem ty3_e : eqOK Try.prog 3 = true := by kernel_rfl
@[simp] theorem eqK_3 : eqK T 8 3 = some [.int .i64] := by kernel_rfl
theorem ty4_e : eqOK Try.prog 4 = true := by kernel_rfl
@[simp] theorem eqK_4 : eqK T 8 4 = some [.bool] := by kernel_rfl
theorem ty5_e : eqOK Try.prog 5 = true := by kernel_rfl
@[simp] theorem eqK_5 : eqK T 8 5 = some [.int .u8] := by kernel_rfl
theorem ty9_e : eqOK Try.prog 9 = true := by kernel_rfl
@[simp] theorem eqK_9 : eqK T 8 9 = some [.str] := by kernel_rfl
theorem ty12_e : eqOK Try.prog 12 = true := by kernel_rfl
@[simp] theorem eqK_12 : eqK T 8 12 = some [.int .u64] := by kernel_rfl
theorem ty21_e : eqOK Try.prog 21 = true := by kernel_rfl
@[simp] theorem eqK_21 : eqK T 8 21 = some [.int .i32] := by kernel_rfl
theorem eqN_22 : eqK T 8 22 = none := by kernel_rfl
theorem eqN_23 : eqK T 8 23 = none := by kernel_rfl
theorem eqN_24 : eqK T 8 24 = none := by kernel_rfl
theorem eqN_25 : eqK T 8 25 = none := by kernel_rfl
theorem eqN_26 : eqK T 8 26 = none := by kernel_rfl
theorem eqN_27 : eqK T 8 27 = none := by kernel_rfl
theorem eqN_28 : eqK T 8 28 = none := by kernel_rfl
theorem eqN_29 : eqK T 8 29 = none := by kernel_rfl
theorem ty30_e : eqOK Try.prog 30 = true := by kernel_rfl
@[simp] theorem eqK_30 : eqK T 8 30 = some [.int .i64] := by kernel_rfl
theorem eqN_32 : eqK T 8 32 = none := by kernel_rfl
theorem eqN_33 : eqK T 8 33 = none := by kernel_rfl
theorem eqN_34 : eqK T 8 34 = none := by kernel_rfl
theorem eqN_35 : eqK T 8 35 = none := by kernel_rfl
theorem eqN_36 : eqK T 8 36 = none := by kernel_rfl
theorem eqN_37 : eqK T 8 37 = none := by kernel_rfl
theorem eqN_38 : eqK T 8 38 = none := by kernel_rfl
theorem ty39_e : eqOK Try.prog 39 = true := by kernel_rfl
@[simp] theorem eqK_39 : eqK T 8 39 = some [.str, .str, .str] := by kernel_rfl
theorem eqN_40 : eqK T 8 40 = none := by kernel_rfl
theorem eqN_41 : eqK T 8 41 = none := by kernel_rfl
theorem eqN_42 : eqK T 8 42 = none := by kernel_rfl
theorem eqN_43 : eqK T 8 43 = none := by kernel_rfl
theorem eqN_44 : eqK T 8 44 = none := by kernel_rfl
theorem eqN_45 : eqK T 8 45 = none := by kernel_rfl
theorem eqN_46 : eqK T 8 46 = none := by kernel_rfl
theorem ty47_e : eqOK Try.prog 47 = true := by kernel_rfl
@[simp] theorem eqK_47 : eqK T 8 47 = some [.int .u16] := by kernel_rfl
theorem eqN_48 : eqK T 8 48 = none := by kernel_rfl
theorem eqN_49 : eqK T 8 49 = none := by kernel_rfl
theorem eqN_50 : eqK T 8 50 = none := by kernel_rfl
theorem eqN_51 : eqK T 8 51 = none := by kernel_rfl
theorem eqN_52 : eqK T 8 52 = none := by kernel_rfl
theorem eqN_53 : eqK T 8 53 = none := by kernel_rfl
theorem eqN_54 : eqK T 8 54 = none := by kernel_rfl
theorem eqN_55 : eqK T 8 55 = none := by kernel_rfl
theorem eqN_56 : eqK T 8 56 = none := by kernel_rfl
theorem eqN_57 : eqK T 8 57 = none := by kernel_rfl
theorem eqN_58 : eqK T 8 58 = none := by kernel_rfl
theorem ty59_e : eqOK Try.prog 59 = true := by kernel_rfl
@[simp] theorem eqK_59 : eqK T 8 59 = some [.int .u8, .int .u8, .int .u8, .int .u8, .int .u8, .int .u8, .int .u8, .int .u8] := by kernel_rfl
theorem eqN_60 : eqK T 8 60 = none := by kernel_rfl
theorem eqN_61 : eqK T 8 61 = none := by kernel_rfl
theorem eqN_62 : eqK T 8 62 = none := by kernel_rfl
theorem eqN_63 : eqK T 8 63 = none := by kernel_rfl
theorem ty64_e : eqOK Try.prog 64 = true := by kernel_rfl
@[simp] theorem eqK_64 : eqK T 8 64 = some [.int .u64] := by kernel_rfl
theorem eqN_65 : eqK T 8 65 = none := by kernel_rfl
theorem eqN_66 : eqK T 8 66 = none := by kernel_rfl
theorem eqN_67 : eqK T 8 67 = none := by kernel_rfl
theorem eqN_68 : eqK T 8 68 = none := by kernel_rfl
theorem eqN_69 : eqK T 8 69 = none := by kernel_rfl
theorem eqN_70 : eqK T 8 70 = none := by kernel_rfl
theorem eqN_71 : eqK T 8 71 = none := by kernel_rfl
theorem eqN_72 : eqK T 8 72 = none := by kernel_rfl
theorem eqN_73 : eqK T 8 73 = none := by kernel_rfl
theorem eqN_74 : eqK T 8 74 = none := by kernel_rfl
theorem eqN_76 : eqK T 8 76 = none := by kernel_rfl
theorem eqN_77 : eqK T 8 77 = none := by kernel_rfl
theorem ty78_e : eqOK Try.prog 78 = true := by kernel_rfl
@[simp] theorem eqK_78 : eqK T 8 78 = some [.int .i64, .int .i64, .int .i64, .int .i64, .int .i64, .int .i64, .int .i64, .int .i64, .int .i64, .int .i64, .int .i64, .int .i64, .int .i64, .int .i64, .int .i64] := by kernel_rfl
theorem eqN_79 : eqK T 8 79 = none := by kernel_rfl
theorem eqN_80 : eqK T 8 80 = none := by kernel_rfl
theorem eqN_81 : eqK T 8 81 = none := by kernel_rfl
theorem eqN_82 : eqK T 8 82 = none := by kernel_rfl
theorem eqN_83 : eqK T 8 83 = none := by kernel_rfl
theorem eqN_85 : eqK T 8 85 = none := by kernel_rfl
theorem eqN_86 : eqK T 8 86 = none := by kernel_rfl
theorem eqN_87 : eqK T 8 87 = none := by kernel_rfl
theorem eqN_88 : eqK T 8 88 = none := by kernel_rfl
theorem eqN_89 : eqK T 8 89 = none := by kernel_rfl
theorem eqN_90 : eqK T 8 90 = none := by kernel_rfl
theorem eqN_94 : eqK T 8 94 = none := by kernel_rfl
theorem eqN_95 : eqK T 8 95 = none := by kernel_rfl
theorem eqN_96 : eqK T 8 96 = none := by kernel_rfl
theorem eqN_97 : eqK T 8 97 = none := by kernel_rfl
theorem eqN_98 : eqK T 8 98 = none := by kernel_rfl
theorem eqN_99 : eqK T 8 99 = none := by kernel_rfl
theorem eqN_100 : eqK T 8 100 = none := by kernel_rfl
theorem eqN_101 : eqK T 8 101 = none := by kernel_rfl
theorem eqN_102 : eqK T 8 102 = none := by kernel_rfl
theorem eqN_103 : eqK T 8 103 = none := by kernel_rfl
theorem eqN_104 : eqK T 8 104 = none := by kernel_rfl
theorem eqN_105 : eqK T 8 105 = none := by kernel_rfl
theorem eqN_106 : eqK T 8 106 = none := by kernel_rfl
theorem eqN_107 : eqK T 8 107 = none := by kernel_rfl
theorem eqN_108 : eqK T 8 108 = none := by kernel_rfl
theorem eqN_109 : eqK T 8 109 = none := by kernel_rfl
theorem eqN_110 : eqK T 8 110 = none := by kernel_rfl
theorem eqN_111 : eqK T 8 111 = none := by kernel_rfl
theorem eqN_112 : eqK T 8 112 = none := by kernel_rfl
theorem ty113_e : eqOK Try.prog 113 = true := by kernel_rfl
@[simp] theorem eqK_113 : eqK T 8 113 = some [.int .u32] := by kernel_rfl
theorem eqN_115 : eqK T 8 115 = none := by kernel_rfl
theorem ty116_e : eqOK Try.prog 116 = true := by kernel_rfl
@[simp] theorem eqK_116 : eqK T 8 116 = some [.int .u64] := by kernel_rfl
theorem eqN_118 : eqK T 8 118 = none := by kernel_rfl
theorem eqN_119 : eqK T 8 119 = none := by kernel_rfl
theorem eqN_121 : eqK T 8 121 = none := by kernel_rfl
theorem eqN_123 : eqK T 8 123 = none := by kernel_rfl
theorem eqN_124 : eqK T 8 124 = none := by kernel_rfl
theorem eqN_125 : eqK T 8 125 = none := by kernel_rfl
theorem eqN_126 : eqK T 8 126 = none := by kernel_rfl
theorem eqN_128 : eqK T 8 128 = none := by kernel_rfl
theorem eqN_129 : eqK T 8 129 = none := by kernel_rfl
theorem eqN_131 : eqK T 8 131 = none := by kernel_rfl
theorem eqN_132 : eqK T 8 132 = none := by kernel_rfl
theorem eqN_133 : eqK T 8 133 = none := by kernel_rfl
theorem eqN_135 : eqK T 8 135 = none := by kernel_rfl
theorem eqN_136 : eqK T 8 136 = none := by kernel_rfl
theorem eqN_138 : eqK T 8 138 = none := by kernel_rfl
theorem ty139_e : eqOK Try.prog 139 = true := by kernel_rfl
@[simp] theorem eqK_139 : eqK T 8 139 = some [.int .i64, .int .i64, .int .i64, .int .i64, .int .i64] := by kernel_rfl
theorem eqN_140 : eqK T 8 140 = none := by kernel_rfl
theorem eqN_141 : eqK T 8 141 = none := by kernel_rfl
theorem eqN_143 : eqK T 8 143 = none := by kernel_rfl
theorem eqN_144 : eqK T 8 144 = none := by kernel_rfl
theorem eqN_145 : eqK T 8 145 = none := by kernel_rfl
theorem eqN_146 : eqK T 8 146 = none := by kernel_rfl
theorem eqN_149 : eqK T 8 149 = none := by kernel_rfl
theorem eqN_154 : eqK T 8 154 = none := by kernel_rfl
theorem eqN_157 : eqK T 8 157 = none := by kernel_rfl
theorem tok : TOK Try.prog T := tok_of rfl (by
  simp only [tt, List.forall_mem_cons, List.not_mem_nil, false_imp_iff, implies_true, and_true]
  exact ⟨tokRow ty1_u ty1_i trivial (by simp [zval, Value.cells]) rfl rfl,
    tokRow ty2_u ty2_i rfl (by simp [zval, Value.cells]) rfl rfl,
    tokRow ty3_u ty3_i rfl (by simp [zval, Value.cells]) rfl rfl,
    tokRow ty4_u ty4_i rfl (by simp [zval, Value.cells]) rfl rfl,
    tokRow ty5_u ty5_i rfl (by simp [zval, Value.cells]) rfl rfl,
    tokRow ty9_u ty9_i rfl (by simp [zval, Value.cells]) rfl rfl,
    tokRow ty12_u ty12_i rfl (by simp [zval, Value.cells]) rfl rfl,
    tokRow ty21_u ty21_i rfl (by simp [zval, Value.cells]) rfl rfl,
    tokRow ty22_u ty22_i rfl (by simp [zval, Value.cells]) rfl rfl,
    tokRow ty23_u ty23_i rfl (by simp [zval, Value.cells]) rfl rfl,
    tokRow ty24_u ty24_i ⟨_, rfl, rfl⟩ (by simp [zval, Value.cells]) rfl rfl,
    tokRow ty25_u ty25_i ⟨_, rfl, rfl⟩ (by simp [zval, Value.cells]) rfl rfl,
    tokRow ty26_u ty26_i trivial (by simp [zval, Value.cells]) rfl rfl,
    tokRow ty27_u ty27_i trivial (by simp [zval, Value.cells]) rfl rfl,
    tokRow ty28_u ty28_i rfl (by simp [zval, Value.cells]) rfl rfl,
    tokRow ty29_u ty29_i rfl (by simp [zval, Value.cells]) rfl rfl,
    tokRow ty30_u ty30_i rfl (by simp [zval, Value.cells]) rfl rfl,
    tokRow ty32_u ty32_i trivial (by simp [zval, Value.cells]) rfl rfl,
    tokRow ty33_u ty33_i trivial (by simp [zval, Value.cells]) rfl rfl,
    tokRow ty34_u ty34_i trivial (by simp [zval, Value.cells]) rfl rfl,
    tokRow ty35_u ty35_i trivial (by simp [zval, Value.cells]) rfl rfl,
    tokRow ty36_u ty36_i trivial (by simp [zval, Value.cells]) rfl rfl,
    tokRow ty37_u ty37_i trivial (by simp [zval, Value.cells]) rfl rfl,
    tokRow ty38_u ty38_i trivial (by simp [zval, Value.cells]) rfl rfl,
    tokRow ty39_u ty39_i rfl (by simp [zval, Value.cells]) rfl rfl,
    tokRow ty40_u ty40_i trivial (by simp [zval, Value.cells]) rfl rfl,
    tokRow ty41_u ty41_i ⟨_, rfl, rfl⟩ (by simp [zval, Value.cells]) rfl rfl,
    tokRow ty42_u ty42_i ⟨_, rfl, rfl⟩ (by simp [zval, Value.cells]) rfl rfl,
    tokRow ty43_u ty43_i trivial (by simp [zval, Value.cells]) rfl rfl,
    tokRow ty44_u ty44_i rfl (by simp [zval, Value.cells]) rfl rfl,
    tokRow ty45_u ty45_i ⟨_, rfl, rfl⟩ (by simp [zval, Value.cells]) rfl rfl,
    tokRow ty46_u ty46_i ⟨_, rfl, rfl⟩ (by simp [zval, Value.cells]) rfl rfl,
    tokRow ty47_u ty47_i rfl (by simp [zval, Value.cells]) rfl rfl,
    tokRow ty48_u ty48_i trivial (by simp [zval, Value.cells]) rfl rfl,
    tokRow ty49_u ty49_i rfl (by simp [zval, Value.cells]) rfl rfl,
    tokRow ty50_u ty50_i ⟨_, rfl, rfl⟩ (by simp [zval, Value.cells]) rfl rfl,
    tokRow ty51_u ty51_i ⟨_, rfl, rfl⟩ (by simp [zval, Value.cells]) rfl rfl,
    tokRow ty52_u ty52_i trivial (by simp [zval, Value.cells]) rfl rfl,
    tokRow ty53_u ty53_i trivial (by simp [zval, Value.cells]) rfl rfl,
    tokRow ty54_u ty54_i trivial (by simp [zval, Value.cells]) rfl rfl,
    tokRow ty55_u ty55_i trivial (by simp [zval, Value.cells]) rfl rfl,
    tokRow ty56_u ty56_i trivial (by simp [zval, Value.cells]) rfl rfl,
    tokRow ty57_u ty57_i trivial (by simp [zval, Value.cells]) rfl rfl,
    tokRow ty58_u ty58_i rfl (by simp [zval, Value.cells]) rfl rfl,
    tokRow ty59_u ty59_i rfl (by simp [zval, Value.cells]) rfl rfl,
    tokRow ty60_u ty60_i trivial (by simp [zval, Value.cells]) rfl rfl,
    tokRow ty61_u ty61_i trivial (by simp [zval, Value.cells]) rfl rfl,
    tokRow ty62_u ty62_i rfl (by simp [zval, Value.cells]) rfl rfl,
    tokRow ty63_u ty63_i rfl (by simp [zval, Value.cells]) rfl rfl,
    tokRow ty64_u ty64_i rfl (by simp [zval, Value.cells]) rfl rfl,
    tokRow ty65_u ty65_i trivial (by simp [zval, Value.cells]) rfl rfl,
    tokRow ty66_u ty66_i trivial (by simp [zval, Value.cells]) rfl rfl,
    tokRow ty67_u ty67_i trivial (by simp [zval, Value.cells]) rfl rfl,
    tokRow ty68_u ty68_i rfl (by simp [zval, Value.cells]) rfl rfl,
    tokRow ty69_u ty69_i rfl (by simp [zval, Value.cells]) rfl rfl,
    tokRow ty70_u ty70_i trivial (by simp [zval, Value.cells]) rfl rfl,
    tokRow ty71_u ty71_i ⟨_, rfl, rfl⟩ (by simp [zval, Value.cells]) rfl rfl,
    tokRow ty72_u ty72_i ⟨_, rfl, rfl⟩ (by simp [zval, Value.cells]) rfl rfl,
    tokRow ty73_u ty73_i trivial (by simp [zval, Value.cells]) rfl rfl,
    tokRow ty74_u ty74_i trivial (by simp [zval, Value.cells]) rfl rfl,
    tokRow ty76_u ty76_i trivial (by simp [zval, Value.cells]) rfl rfl,
    tokRow ty77_u ty77_i trivial (by simp [zval, Value.cells]) rfl rfl,
    tokRow ty78_u ty78_i rfl (by simp [zval, Value.cells]) rfl rfl,
    tokRow ty79_u ty79_i trivial (by simp [zval, Value.cells]) rfl rfl,
    tokRow ty80_u ty80_i trivial (by simp [zval, Value.cells]) rfl rfl,
    tokRow ty81_u ty81_i trivial (by simp [zval, Value.cells]) rfl rfl,
    tokRow ty82_u ty82_i trivial (by simp [zval, Value.cells]) rfl rfl,
    tokRow ty83_u ty83_i trivial (by simp [zval, Value.cells]) rfl rfl,
    tokRow ty85_u ty85_i trivial (by simp [zval, Value.cells]) rfl rfl,
    tokRow ty86_u ty86_i trivial (by simp [zval, Value.cells]) rfl rfl,
    tokRow ty87_u ty87_i trivial (by simp [zval, Value.cells]) rfl rfl,
    tokRow ty88_u ty88_i ⟨_, rfl, rfl⟩ (by simp [zval, Value.cells]) rfl rfl,
    tokRow ty89_u ty89_i ⟨_, rfl, rfl⟩ (by simp [zval, Value.cells]) rfl rfl,
    tokRow ty90_u ty90_i trivial (by simp [zval, Value.cells]) rfl rfl,
    tokRow ty94_u ty94_i trivial (by simp [zval, Value.cells]) rfl rfl,
    tokRow ty95_u ty95_i trivial (by simp [zval, Value.cells]) rfl rfl,
    tokRow ty96_u ty96_i trivial (by simp [zval, Value.cells]) rfl rfl,
    tokRow ty97_u ty97_i trivial (by simp [zval, Value.cells]) rfl rfl,
    tokRow ty98_u ty98_i trivial (by simp [zval, Value.cells]) rfl rfl,
    tokRow ty99_u ty99_i rfl (by simp [zval, Value.cells]) rfl rfl,
    tokRow ty100_u ty100_i trivial (by simp [zval, Value.cells]) rfl rfl,
    tokRow ty101_u ty101_i trivial (by simp [zval, Value.cells]) rfl rfl,
    tokRow ty102_u ty102_i trivial (by simp [zval, Value.cells]) rfl rfl,
    tokRow ty103_u ty103_i trivial (by simp [zval, Value.cells]) rfl rfl,
    tokRow ty104_u ty104_i trivial (by simp [zval, Value.cells]) rfl rfl,
    tokRow ty105_u ty105_i trivial (by simp [zval, Value.cells]) rfl rfl,
    tokRow ty106_u ty106_i trivial (by simp [zval, Value.cells]) rfl rfl,
    tokRow ty107_u ty107_i trivial (by simp [zval, Value.cells]) rfl rfl,
    tokRow ty108_u ty108_i trivial (by simp [zval, Value.cells]) rfl rfl,
    tokRow ty109_u ty109_i trivial (by simp [zval, Value.cells]) rfl rfl,
    tokRow ty110_u ty110_i trivial (by simp [zval, Value.cells]) rfl rfl,
    tokRow ty111_u ty111_i trivial (by simp [zval, Value.cells]) rfl rfl,
    tokRow ty112_u ty112_i trivial (by simp [zval, Value.cells]) rfl rfl,
    tokRow ty113_u ty113_i rfl (by simp [zval, Value.cells]) rfl rfl,
    tokRow ty115_u ty115_i trivial (by simp [zval, Value.cells]) rfl rfl,
    tokRow ty116_u ty116_i rfl (by simp [zval, Value.cells]) rfl rfl,
    tokRow ty118_u ty118_i trivial (by simp [zval, Value.cells]) rfl rfl,
    tokRow ty119_u ty119_i trivial (by simp [zval, Value.cells]) rfl rfl,
    tokRow ty121_u ty121_i trivial (by simp [zval, Value.cells]) rfl rfl,
    tokRow ty123_u ty123_i trivial (by simp [zval, Value.cells]) rfl rfl,
    tokRow ty124_u ty124_i trivial (by simp [zval, Value.cells]) rfl rfl,
    tokRow ty125_u ty125_i trivial (by simp [zval, Value.cells]) rfl rfl,
    tokRow ty126_u ty126_i trivial (by simp [zval, Value.cells]) rfl rfl,
    tokRow ty128_u ty128_i trivial (by simp [zval, Value.cells]) rfl rfl,
    tokRow ty129_u ty129_i trivial (by simp [zval, Value.cells]) rfl rfl,
    tokRow ty131_u ty131_i trivial (by simp [zval, Value.cells]) rfl rfl,
    tokRow ty132_u ty132_i trivial (by simp [zval, Value.cells]) rfl rfl,
    tokRow ty133_u ty133_i trivial (by simp [zval, Value.cells]) rfl rfl,
    tokRow ty135_u ty135_i trivial (by simp [zval, Value.cells]) rfl rfl,
    tokRow ty136_u ty136_i trivial (by simp [zval, Value.cells]) rfl rfl,
    tokRow ty138_u ty138_i trivial (by simp [zval, Value.cells]) rfl rfl,
    tokRow ty139_u ty139_i rfl (by simp [zval, Value.cells]) rfl rfl,
    tokRow ty140_u ty140_i trivial (by simp [zval, Value.cells]) rfl rfl,
    tokRow ty141_u ty141_i trivial (by simp [zval, Value.cells]) rfl rfl,
    tokRow ty143_u ty143_i trivial (by simp [zval, Value.cells]) rfl rfl,
    tokRow ty144_u ty144_i trivial (by simp [zval, Value.cells]) rfl rfl,
    tokRow ty145_u ty145_i trivial (by simp [zval, Value.cells]) rfl rfl,
    tokRow ty146_u ty146_i trivial (by simp [zval, Value.cells]) rfl rfl,
    tokRow ty149_u ty149_i rfl (by simp [zval, Value.cells]) rfl rfl,
    tokRow ty154_u ty154_i trivial (by simp [zval, Value.cells]) rfl rfl,
    tokRow ty157_u ty157_i ⟨_, rfl, rfl⟩ (by simp [zval, Value.cells]) rfl rfl⟩) (by
  simp only [tt, List.forall_mem_cons, List.not_mem_nil, false_imp_iff, implies_true, and_true]
  exact ⟨eq_not eqN_1, fun _ => ty2_e, fun _ => ty3_e, fun _ => ty4_e, fun _ => ty5_e, fun _ => ty9_e, fun _ => ty12_e, fun _ => ty21_e, eq_not eqN_22, eq_not eqN_23, eq_not eqN_24, eq_not eqN_25, eq_not eqN_26, eq_not eqN_27, eq_not eqN_28, eq_not eqN_29, fun _ => ty30_e, eq_not eqN_32, eq_not eqN_33, eq_not eqN_34, eq_not eqN_35, eq_not eqN_36, eq_not eqN_37, eq_not eqN_38, fun _ => ty39_e, eq_not eqN_40, eq_not eqN_41, eq_not eqN_42, eq_not eqN_43, eq_not eqN_44, eq_not eqN_45, eq_not eqN_46, fun _ => ty47_e, eq_not eqN_48, eq_not eqN_49, eq_not eqN_50, eq_not eqN_51, eq_not eqN_52, eq_not eqN_53, eq_not eqN_54, eq_not eqN_55, eq_not eqN_56, eq_not eqN_57, eq_not eqN_58, fun _ => ty59_e, eq_not eqN_60, eq_not eqN_61, eq_not eqN_62, eq_not eqN_63, fun _ => ty64_e, eq_not eqN_65, eq_not eqN_66, eq_not eqN_67, eq_not eqN_68, eq_not eqN_69, eq_not eqN_70, eq_not eqN_71, eq_not eqN_72, eq_not eqN_73, eq_not eqN_74, eq_not eqN_76, eq_not eqN_77, fun _ => ty78_e, eq_not eqN_79, eq_not eqN_80, eq_not eqN_81, eq_not eqN_82, eq_not eqN_83, eq_not eqN_85, eq_not eqN_86, eq_not eqN_87, eq_not eqN_88, eq_not eqN_89, eq_not eqN_90, eq_not eqN_94, eq_not eqN_95, eq_not eqN_96, eq_not eqN_97, eq_not eqN_98, eq_not eqN_99, eq_not eqN_100, eq_not eqN_101, eq_not eqN_102, eq_not eqN_103, eq_not eqN_104, eq_not eqN_105, eq_not eqN_106, eq_not eqN_107, eq_not eqN_108, eq_not eqN_109, eq_not eqN_110, eq_not eqN_111, eq_not eqN_112, fun _ => ty113_e, eq_not eqN_115, fun _ => ty116_e, eq_not eqN_118, eq_not eqN_119, eq_not eqN_121, eq_not eqN_123, eq_not eqN_124, eq_not eqN_125, eq_not eqN_126, eq_not eqN_128, eq_not eqN_129, eq_not eqN_131, eq_not eqN_132, eq_not eqN_133, eq_not eqN_135, eq_not eqN_136, eq_not eqN_138, fun _ => ty139_e, eq_not eqN_140, eq_not eqN_141, eq_not eqN_143, eq_not eqN_144, eq_not eqN_145, eq_not eqN_146, eq_not eqN_149, eq_not eqN_154, eq_not eqN_157⟩)
theorem mixed : Try.prog.follows .mixedOrders = true := by kernel_rfl
end Fen

namespace Fen
open Go

def lengthF (n : Int) : Int := if 240 ≤ n ∧ n ≤ 244 then 4 else if 224 ≤ n ∧ n < 240 then 3 else if 194 ≤ n ∧ n < 224 then 2 else if n < 128 then 1 else 0
def secondF (b : Int) : Int × Int := if b = 224 then (160, 191) else if b = 237 then (128, 159) else if b = 240 then (144, 191) else if b = 244 then (128, 143) else (128, 191)
def restOK : Int → Int → List Int → Bool
  | _, _, [] => true
  | lo, hi, b :: l => decide (lo ≤ b) && decide (b ≤ hi) && restOK 128 191 l
def kindF (p : List Int) : Int :=
  if lengthF (p.headD 0) < p.length then 0
  else if restOK (secondF (p.headD 0)).1 (secondF (p.headD 0)).2 p.tail then (if (p.length : Int) < lengthF (p.headD 0) then 1 else 2) else 0
theorem lengthF_le (n : Int) : 0 ≤ lengthF n ∧ lengthF n ≤ 4 := by unfold lengthF; (repeat' split) <;> omega
def cp0F (b : Int) (n : Nat) : Int := if n = 0 then b else b % 2 ^ (6 - n)
def goCode : Int → List Int → Int
  | cp, [] => cp
  | cp, c :: l => goCode (cp * 64 + c % 64) l
def codeF (p : List Int) : Int := goCode (cp0F (p.headD 0) p.tail.length) p.tail
def rightF (p : List Int) : Bool := p.isEmpty || kindF p == 1
/-- Step, nothing right pending ahead -/
def step0 (b : Int) : List Int × List Int :=
  if kindF [b] = 2 then ([], [codeF [b]]) else if kindF [b] = 1 then ([b], []) else ([], [65533])
def stepP (p : List Int) (b : Int) : List Int × List Int :=
  if kindF (p ++ [b]) = 2 then ([], [codeF (p ++ [b])]) else if kindF (p ++ [b]) = 1 then (p ++ [b], []) else ((step0 b).1, 65533 :: (step0 b).2)
def stepF (p : List Int) (b : Int) : List Int × List Int := if p = [] ∨ rightF p = false then step0 b else stepP p b
theorem kindF_range (p : List Int) : kindF p = 0 ∨ kindF p = 1 ∨ kindF p = 2 := by unfold kindF; (repeat' split) <;> simp
theorem right_len {p : List Int} (h : rightF p = true) : p.length ≤ 3 := by
  unfold rightF kindF at h
  have := lengthF_le (p.head?.getD 0)
  simp at h
  rcases h with rfl | h
  · simp
  · split at h
    · simp at h
    · split at h
      · split at h <;> omega
      · simp at h
theorem kind_len {p : List Int} (h : kindF p ≠ 0) : p.length ≤ 4 := by
  unfold kindF at h
  have := lengthF_le (p.headD 0)
  split at h
  · simp at h
  · omega
end Fen

namespace Fen
open Go Go.Proofs



def lengthSpec : Spec := { pre := fun args => ∃ n : Int, args = [.c (.int .u8 n)] ∧ 0 ≤ n ∧ n < 256, res := fun args => .one (.val (.c (.int .i64 (lengthF (args.headD default).int)))) }

set_option maxRecDepth 10000 in
theorem length_sound (gl : Gl) : Sound Try.prog gl 98 lengthSpec := by
  refine sound_fn (N := 36) (rs := [.tmp 2]) mixed tok (SpecsOK.nil _ _) Try.func98 rfl rfl rfl rfl rfl ?_ ?_ ?_
  · rintro args ⟨n, rfl, h0, h1⟩; simp
  · rintro args ⟨n, rfl, h0, h1⟩; simp [lengthSpec]
  · rintro args ⟨n, rfl, h0, h1⟩ bs hgl hh hro
    simp [lengthSpec]
    unfold lengthF
    (repeat' split) <;> simp <;> omega



def secondSpec : Spec := { pre := fun args => ∃ n : Int, args = [.c (.int .u8 n)] ∧ 0 ≤ n ∧ n < 256, res := fun args => .many [.val (.c (.int .u8 (secondF (args.headD default).int).1)), .val (.c (.int .u8 (secondF (args.headD default).int).2))] }

set_option maxRecDepth 10000 in
theorem second_sound (gl : Gl) : Sound Try.prog gl 99 secondSpec := by
  refine sound_fn (N := Try.f99.ntmps) (rs := Try.f99.results.toList) mixed tok (SpecsOK.nil _ _) Try.func99 rfl rfl rfl rfl rfl ?_ ?_ ?_
  · rintro args ⟨n, rfl, h0, h1⟩; simp [Try.f99]
  · rintro args ⟨n, rfl, h0, h1⟩; simp [secondSpec, Try.f99]
  · rintro args ⟨n, rfl, h0, h1⟩ bs hgl hh hro
    simp [secondSpec, Try.f99]
    unfold secondF
    (repeat' split) <;> simp_all







def kindSpec : Spec := { pre := fun args => ∃ p : List Int, args = [bytesV p] ∧ p ≠ [] ∧ Bytes p ∧ p.length ≤ 4294967296, res := fun args => .one (.val (.c (.int .i64 (kindF (args.headD default).ints)))) }

def G27 : Specs := [(98, lengthSpec), (99, secondSpec)]
@[simp] theorem G27_live : Specs.live G27 = false := rfl
theorem G27_ok (gl : Gl) : SpecsOK Try.prog gl G27 := .cons (length_sound gl) (.cons (second_sound gl) (.nil _ _))

def kindS (N : Nat) (p : List Int) (n : Int) (x : List Int × List Int × Int × Int) : St :=
  ⟨N, [(0, .val (.sl p.length (ints .u8 p))), (2, .val (.int .i64 0)), (3, .val (.int .i64 n)), (4, .val (.int .u8 x.2.2.1)), (5, .val (.int .u8 x.2.2.2)),
    (24, .val (.sl (x.1 ++ x.2.1).length (ints .u8 (x.1 ++ x.2.1)))), (25, .val (.int .i64 (x.1 ++ x.2.1).length)), (26, .val (.int .i64 x.1.length))], []⟩

set_option maxRecDepth 10000 in
theorem kind_sound (gl : Gl) : Sound Try.prog gl 68 kindSpec := by
  refine sound_fn (N := Try.f68.ntmps) (rs := Try.f68.results.toList) mixed tok (G27_ok gl) Try.func68 rfl rfl rfl rfl rfl ?_ ?_ ?_
  · rintro args ⟨p, rfl, h0, h1, h2⟩; simp [Try.f68]
  · rintro args ⟨p, rfl, h0, h1, h2⟩; simp [kindSpec, Try.f68]
  · rintro args ⟨p, rfl, h0, h1, h2⟩ bs hgl hh hro
    obtain ⟨b, q, rfl⟩ : ∃ b q, p = b :: q := by cases p with | nil => exact absurd rfl h0 | cons b q => exact ⟨b, q, rfl⟩
    obtain ⟨hb, hq⟩ := h1.cons
    simp at h2
    simp [kindSpec, Try.f68, G27, lengthSpec, secondSpec, kindF, hb]
    refine ⟨fun h h' => absurd h (by omega), fun h => ⟨by omega, ?_⟩⟩
    refine AWP.rounds (fun x => q = x.1 ++ x.2.1 ∧ restOK (secondF b).1 (secondF b).2 q = restOK x.2.2.1 x.2.2.2 x.2.1) (kindS 43 (b :: q) (lengthF b)) (fun x => x.2.1.length) ([], q, (secondF b).1, (secondF b).2) ⟨rfl, rfl⟩ ?_ ?_
    · refine Weak.ren [] (baseOK.nil hh) (by simp) (by simp) ?_
      simp [kindS]
    · rintro ⟨pre, rest, lo, hi⟩ ⟨rfl, hx⟩
      simp only at hx h2 h hq
      refine wpc_ok (E := ⟨Try.prog, T, G27, bs⟩) ⟨tok, by rw [hgl]; exact G27_ok gl⟩ mixed _ _ _ ?_
      cases rest with
      | nil =>
        simp [restOK] at hx h
        simp [kindS, hx]
        omega
      | cons c rest =>
        have hl := lengthF_le b
        simp at h2 h
        have hw : IntKind.i64.wrap (pre.length + 1) = pre.length + 1 := wrap64 _ (by omega) (by omega)
        simp [kindS, hx, hw]
        refine ⟨fun _ => ⟨by omega, fun hc _ => ?_, fun h1 h2 => ?_⟩, fun h => by omega⟩
        · simp [restOK]; intro h1 h2; omega
        · refine Next.mk (pre ++ [c], rest, 128, 191) ⟨by simp, by simp [hx, restOK, h1, h2]⟩ (by simp) (Weak.ren [] (baseOK.nil hh) (by simp) (by simp) ?_)
          simp [kindS]

end Fen

namespace Fen
open Go Go.Proofs





def codeSpec : Spec := { pre := fun args => ∃ p : List Int, args = [bytesV p] ∧ p ≠ [] ∧ Bytes p ∧ p.length ≤ 4, res := fun args => .one (.val (.c (.int .i64 (codeF (args.headD default).ints)))) }

def codeS (p : List Int) (x : List Int × List Int × Int) : St :=
  ⟨34, [(0, .val (.sl p.length (ints .u8 p))), (2, .val (.int .i64 0)), (3, .val (.int .i64 x.2.2)),
    (20, .val (.sl (x.1 ++ x.2.1).length (ints .u8 (x.1 ++ x.2.1)))), (21, .val (.int .i64 (x.1 ++ x.2.1).length)), (22, .val (.int .i64 x.1.length))], []⟩

def cpB (cp : Int) (n : Nat) : Prop := 0 ≤ cp ∧ n ≤ 3 ∧ (n = 3 → cp < 256) ∧ (n = 2 → cp < 16640) ∧ (n = 1 → cp < 1065024) ∧ (n = 0 → cp < 68161600)

theorem cp0_bits (b : Int) (n : Nat) (h0 : 0 ≤ b) (h1 : b < 256) (h2 : 0 < n) (h3 : n ≤ 3) : bits2 (fun _ x y => x &&& y) .i64 b (Int.fdiv 255 (2 ^ min (IntKind.i64.wrap ((n : Int) + 1 + 1)).toNat IntKind.i64.bits)) = cp0F b n := by
  obtain rfl | rfl | rfl : n = 1 ∨ n = 2 ∨ n = 3 := by omega
  · exact and_mask64 5 (by decide) (by decide) h0 (by omega)
  · exact and_mask64 4 (by decide) (by decide) h0 (by omega)
  · exact and_mask64 3 (by decide) (by decide) h0 (by omega)

theorem cp0_B (b : Int) (n : Nat) (h0 : 0 ≤ b) (h1 : b < 256) (h3 : n ≤ 3) : cpB (cp0F b n) n := by
  unfold cpB cp0F
  obtain rfl | rfl | rfl | rfl : n = 0 ∨ n = 1 ∨ n = 2 ∨ n = 3 := by omega
  all_goals simp
  all_goals omega

set_option maxRecDepth 10000 in
theorem code_sound (gl : Gl) : Sound Try.prog gl 104 codeSpec := by
  refine sound_fn (N := Try.f104.ntmps) (rs := Try.f104.results.toList) mixed tok (SpecsOK.nil _ gl) Try.func104 rfl rfl rfl rfl rfl ?_ ?_ ?_
  · rintro args ⟨p, rfl, h0, h1, h2⟩; simp [Try.f104]
  · rintro args ⟨p, rfl, h0, h1, h2⟩; simp [codeSpec, Try.f104]
  · rintro args ⟨p, rfl, h0, h1, h2⟩ bs hgl hh hro
    obtain ⟨b, q, rfl⟩ : ∃ b q, p = b :: q := by cases p with | nil => exact absurd rfl h0 | cons b q => exact ⟨b, q, rfl⟩
    obtain ⟨hb, hq⟩ := h1.cons
    simp at h2
    have hw : IntKind.i64.wrap b = b := wrap64 _ (by omega) (by omega)
    simp [codeSpec, Try.f104, codeF, hb, hw]
    have e2 : IntKind.i64.wrap ((q.length : Int) + 1 + 1) = q.length + 1 + 1 := wrap64 _ (by omega) (by omega)
    refine ⟨fun h => ⟨by omega, by omega, ?_⟩, fun h => ⟨by omega, ?_⟩⟩
    all_goals refine AWP.rounds (fun x : List Int × List Int × Int => q = x.1 ++ x.2.1 ∧ goCode (cp0F b q.length) q = goCode x.2.2 x.2.1 ∧ cpB x.2.2 x.2.1.length) (codeS (b :: q)) (fun x => x.2.1.length) ([], q, cp0F b q.length) ⟨rfl, rfl, cp0_B b _ hb.1 hb.2 h2⟩ ?_ ?_
    · refine Weak.ren [] (baseOK.nil hh) (by simp) (by simp) ?_
      simp [codeS]
      exact (cp0_bits b q.length hb.1 hb.2 (by omega) h2).symm
    rotate_left
    · refine Weak.ren [] (baseOK.nil hh) (by simp) (by simp) ?_
      have : q.length = 0 := by omega
      simp [codeS, cp0F, this]
    all_goals
      rintro ⟨pre, rest, cp⟩ ⟨rfl, hx, hc⟩
      simp only at hx hc hq h2
      refine wpc_ok (E := ⟨Try.prog, T, [], bs⟩) ⟨tok, SpecsOK.nil _ _⟩ mixed _ _ _ ?_
      cases rest with
      | nil => simp [goCode] at hx; simp [codeS, hx]
      | cons c rest =>
        obtain ⟨hc1, -⟩ := hq.right.cons
        simp at h2
        simp [goCode] at hx
        unfold cpB at hc
        simp only [List.length_cons] at hc
        have hc0 : 0 ≤ cp ∧ cp < 1065024 := by omega
        have e1 : IntKind.i64.wrap (pre.length + 1) = pre.length + 1 := wrap64 _ (by omega) (by omega)
        have e3 : bits2 (fun _ x y => x &&& y) .u8 c 63 = c % 64 := and_mask8 6 (by decide) (by decide) hc1.1 hc1.2
        have e4 : IntKind.i64.wrap (c % 64) = c % 64 := wrap64 _ (by omega) (by omega)
        have e5 : IntKind.i64.wrap (cp * 64) = cp * 64 := wrap64 _ (by omega) (by omega)
        have e6 : bits2 (fun _ x y => x ||| y) .i64 (cp * 64) (c % 64) = cp * 64 + c % 64 := or_add64 6 hc0.1 (by omega) (by omega) (by omega) (by omega)
        simp [codeS, hx, e1, e3, e4, IntKind.bits, e5, e6]
        refine ⟨fun _ => ?_, fun h => by omega⟩
        refine ⟨by omega, Next.mk (pre ++ [c], rest, cp * 64 + c % 64) ⟨by simp, by simp [hx], ?_⟩ (by simp) (Weak.ren [] (baseOK.nil hh) (by simp) (by simp) ?_)⟩
        · unfold cpB; simp only; omega
        · simp [codeS]

end Fen

namespace Fen
open Go Go.Proofs



def rightSpec : Spec := { pre := fun args => ∃ p : List Int, args = [bytesV p] ∧ Bytes p ∧ p.length ≤ 4294967296, res := fun args => .one (.val (.c (.bool (rightF (args.headD default).ints)))) }

set_option maxRecDepth 10000 in
theorem right_sound (gl : Gl) : Sound Try.prog gl 40 rightSpec := by
  refine sound_fn (N := Try.f40.ntmps) (rs := Try.f40.results.toList) mixed tok (SpecsOK.cons (kind_sound gl) (SpecsOK.nil _ gl)) Try.func40 rfl rfl rfl rfl rfl ?_ ?_ ?_
  · rintro args ⟨p, rfl, h1, h2⟩; simp [Try.f40]
  · rintro args ⟨p, rfl, h1, h2⟩; simp [rightSpec, Try.f40]
  · rintro args ⟨p, rfl, h1, h2⟩ bs hgl hh hro
    cases p with
    | nil => simp [rightSpec, kindSpec, Try.f40, rightF]
    | cons b q =>
      simp at h2
      simp [rightSpec, kindSpec, Try.f40, rightF, and_assoc, h1]
      omega

def flushF (p : List Int) : List Int := if p ≠ [] ∧ rightF p = true then [65533] else []

def flushSpec : Spec := { pre := fun args => ∃ p : List Int, args = [bytesV p] ∧ Bytes p ∧ p.length ≤ 4294967296, res := fun args => .one (.val (intsV (flushF (args.headD default).ints))) }

end Fen

namespace Fen
open Go Go.Proofs













def step0Spec : Spec := { pre := fun args => ∃ b : Int, args = [bytesV [], .c (.int .u8 b)] ∧ 0 ≤ b ∧ b < 256, res := fun args => .many [.val (bytesV (step0 (args.getD 1 default).int).1), .val (intsV (step0 (args.getD 1 default).int).2)] }

def GSt : Specs := [(40, rightSpec), (68, kindSpec), (104, codeSpec)]
@[simp] theorem GSt_live : Specs.live GSt = false := rfl
@[simp] theorem GSt_10 : GSt.find 40 = some rightSpec := rfl
@[simp] theorem GSt_27 : GSt.find 68 = some kindSpec := rfl
@[simp] theorem GSt_29 : GSt.find 104 = some codeSpec := rfl
theorem GSt_ok (gl : Gl) : SpecsOK Try.prog gl GSt := .cons (right_sound gl) (.cons (kind_sound gl) (.cons (code_sound gl) (.nil _ _)))

set_option maxRecDepth 10000 in
theorem step0_sound (gl : Gl) : Sound Try.prog gl 82 step0Spec := by
  refine sound_fn (N := Try.f82.ntmps) (rs := Try.f82.results.toList) mixed tok (GSt_ok gl) Try.func82 rfl rfl rfl rfl rfl ?_ ?_ ?_
  · rintro args ⟨b, rfl, h0, h1⟩; simp [Try.f82]
  · rintro args ⟨b, rfl, h0, h1⟩; simp [step0Spec, Try.f82]
  · rintro args ⟨b, rfl, h0, h1⟩ bs hgl hh hro
    have hb : Bytes [b] := Bytes.mk ⟨h0, h1⟩ Bytes.nil
    simp [step0Spec, Try.f82, rightSpec, kindSpec, codeSpec, rightF, step0, hb, and_assoc, Bytes.nil]
    refine ⟨fun h => by simp [h], fun h => ⟨fun h' => by simp [h'], fun h' => by simp [h, h']⟩⟩

def stepSpec : Spec := { pre := fun args => ∃ (p : List Int) (b : Int), args = [bytesV p, .c (.int .u8 b)] ∧ Bytes p ∧ p.length ≤ 4294967296 ∧ 0 ≤ b ∧ b < 256, res := fun args => .many [.val (bytesV (stepF (args.headD default).ints (args.getD 1 default).int).1), .val (intsV (stepF (args.headD default).ints (args.getD 1 default).int).2)] }

def GSu : Specs := (82, step0Spec) :: GSt
@[simp] theorem GSu_live : Specs.live GSu = false := rfl
@[simp] theorem GSu_10 : GSu.find 40 = some rightSpec := rfl
@[simp] theorem GSu_27 : GSu.find 68 = some kindSpec := rfl
@[simp] theorem GSu_29 : GSu.find 104 = some codeSpec := rfl
@[simp] theorem GSu_15 : GSu.find 82 = some step0Spec := rfl
theorem GSu_ok (gl : Gl) : SpecsOK Try.prog gl GSu := .cons (step0_sound gl) (GSt_ok gl)

set_option maxRecDepth 10000 in
theorem step_sound (gl : Gl) : Sound Try.prog gl 82 stepSpec := by
  refine sound_fn (N := Try.f82.ntmps) (rs := Try.f82.results.toList) mixed tok (GSu_ok gl) Try.func82 rfl rfl rfl rfl rfl ?_ ?_ ?_
  · rintro args ⟨p, b, rfl, h0, h1, h2, h3⟩; simp [Try.f82]
  · rintro args ⟨p, b, rfl, h0, h1, h2, h3⟩; simp [stepSpec, Try.f82]
  · rintro args ⟨p, b, rfl, h0, h1, h2, h3⟩ bs hgl hh hro
    have hb : Bytes [b] := Bytes.mk ⟨h2, h3⟩ Bytes.nil
    simp [stepSpec, step0Spec, Try.f82, rightSpec, kindSpec, codeSpec, stepF, hb, and_assoc, Bytes.nil]
    have hs0 : (step0 b).2.length ≤ 1 := by unfold step0; (repeat' split) <;> simp
    refine ⟨h0, h1, fun hr => ?_, fun hr => ?_⟩
    · simp only [hr, or_true, if_true, step0]
      refine ⟨fun h => by simp [h], fun h => ⟨fun h' => by simp [h'], fun h' => by simp [h, h']⟩⟩
    · have hl := right_len hr
      refine ⟨by omega, by omega, h0.app hb, by omega, ?_⟩
      simp only [hr, or_false, Bool.true_eq_false]
      refine ⟨fun h => ⟨h0.app hb, hl, ?_⟩, fun h => ⟨fun h' => ?_, fun h' => ⟨fun hp => ?_, fun hp => ⟨h2, h3, by omega, by omega, ?_⟩⟩⟩⟩
      · by_cases hp : p = []
        · subst hp; simp at h; simp [step0, h]
        · simp [hp, stepP, h]
      · by_cases hp : p = []
        · subst hp; simp at h h'; simp [step0, h']
        · simp [hp, stepP, h']
      · subst hp; simp at h h'; simp [step0, h, h']
      · simp [hp, stepP, h, h']
        omega

end Fen
