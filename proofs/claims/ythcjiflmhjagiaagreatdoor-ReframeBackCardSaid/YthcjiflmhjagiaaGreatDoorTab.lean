/- The types that the functions use, in a table; each row is proved. No statement of its own. -/
import Derived.Test.YthcjiflmhjagiaaGreatDoorProg
import Derived.Test.YthcjiflmhjagiaaGreatDoorVz
set_option linter.unusedSimpArgs false
set_option linter.unusedVariables false
set_option maxRecDepth 100000
namespace Go.Proofs.YthcjiflmhjagiaaGreatDoor
open Go.RowKit

def ti2 : TI := ⟨.int .i64, 1, 8, [.int .i64 0]⟩
theorem tok2 : TOk Tryz.prog 2 ti2 := by
  obtain ⟨inf, h1, h2, h3, h4⟩ := info_parts (show (Tryz.prog.info? 2).map (fun i => (i.zero, i.size, i.bytes)) = some (some (.int .i64 0), 1, 8) from by kernel_rfl)
  exact ⟨Tryz.underlying2, inf, _, h1, h2, rfl, h3, h4, rfl⟩
def ti3 : TI := ⟨.int .i64, 1, 8, [.int .i64 0]⟩
theorem tok3 : TOk Tryz.prog 3 ti3 := by
  obtain ⟨inf, h1, h2, h3, h4⟩ := info_parts (show (Tryz.prog.info? 3).map (fun i => (i.zero, i.size, i.bytes)) = some (some (.int .i64 0), 1, 8) from by kernel_rfl)
  exact ⟨Tryz.underlying3, inf, _, h1, h2, rfl, h3, h4, rfl⟩
def ti4 : TI := ⟨.bool, 1, 1, [.bool false]⟩
theorem tok4 : TOk Tryz.prog 4 ti4 := by
  obtain ⟨inf, h1, h2, h3, h4⟩ := info_parts (show (Tryz.prog.info? 4).map (fun i => (i.zero, i.size, i.bytes)) = some (some (.bool false), 1, 1) from by kernel_rfl)
  exact ⟨Tryz.underlying4, inf, _, h1, h2, rfl, h3, h4, rfl⟩
def ti5 : TI := ⟨.int .u8, 1, 1, [.int .u8 0]⟩
theorem tok5 : TOk Tryz.prog 5 ti5 := by
  obtain ⟨inf, h1, h2, h3, h4⟩ := info_parts (show (Tryz.prog.info? 5).map (fun i => (i.zero, i.size, i.bytes)) = some (some (.int .u8 0), 1, 1) from by kernel_rfl)
  exact ⟨Tryz.underlying5, inf, _, h1, h2, rfl, h3, h4, rfl⟩
def ti9 : TI := ⟨.string, 1, 16, [.string ⟨#[]⟩]⟩
theorem tok9 : TOk Tryz.prog 9 ti9 := by
  obtain ⟨inf, h1, h2, h3, h4⟩ := info_parts (show (Tryz.prog.info? 9).map (fun i => (i.zero, i.size, i.bytes)) = some (some (.string ⟨#[]⟩), 1, 16) from by kernel_rfl)
  exact ⟨Tryz.underlying9, inf, _, h1, h2, rfl, h3, h4, rfl⟩
def ti22 : TI := ⟨.slice 57, 1, 24, [.slice none 0 0]⟩
theorem tok22 : TOk Tryz.prog 22 ti22 := by
  obtain ⟨inf, h1, h2, h3, h4⟩ := info_parts (show (Tryz.prog.info? 22).map (fun i => (i.zero, i.size, i.bytes)) = some (some (.slice none 0 0), 1, 24) from by kernel_rfl)
  exact ⟨Tryz.underlying22, inf, _, h1, h2, rfl, h3, h4, rfl⟩
def ti25 : TI := ⟨.int .i64, 1, 8, [.int .i64 0]⟩
theorem tok25 : TOk Tryz.prog 25 ti25 := by
  obtain ⟨inf, h1, h2, h3, h4⟩ := info_parts (show (Tryz.prog.info? 25).map (fun i => (i.zero, i.size, i.bytes)) = some (some (.int .i64 0), 1, 8) from by kernel_rfl)
  exact ⟨Tryz.underlying25, inf, _, h1, h2, rfl, h3, h4, rfl⟩
def ti30 : TI := ⟨.pointer 67, 1, 8, [.pointer none]⟩
theorem tok30 : TOk Tryz.prog 30 ti30 := by
  obtain ⟨inf, h1, h2, h3, h4⟩ := info_parts (show (Tryz.prog.info? 30).map (fun i => (i.zero, i.size, i.bytes)) = some (some (.pointer none), 1, 8) from by kernel_rfl)
  exact ⟨Tryz.underlying30, inf, _, h1, h2, rfl, h3, h4, rfl⟩
def ti38 : TI := ⟨.int .i64, 1, 8, [.int .i64 0]⟩
theorem tok38 : TOk Tryz.prog 38 ti38 := by
  obtain ⟨inf, h1, h2, h3, h4⟩ := info_parts (show (Tryz.prog.info? 38).map (fun i => (i.zero, i.size, i.bytes)) = some (some (.int .i64 0), 1, 8) from by kernel_rfl)
  exact ⟨Tryz.underlying38, inf, _, h1, h2, rfl, h3, h4, rfl⟩
def ti40 : TI := ⟨.struct #[{ name := "Kind", type := 38, offset := 0, embedded := false, tag := "", pkgPath := "", byteOffset := 0 }, { name := "N", type := 3, offset := 1, embedded := false, tag := "", pkgPath := "", byteOffset := 8 }], 2, 16, [.int .i64 0, .int .i64 0]⟩
theorem tok40 : TOk Tryz.prog 40 ti40 := by
  obtain ⟨inf, h1, h2, h3, h4⟩ := info_parts (show (Tryz.prog.info? 40).map (fun i => (i.zero, i.size, i.bytes)) = some (some (.agg #[.int .i64 0, .int .i64 0]), 2, 16) from by kernel_rfl)
  exact ⟨Tryz.underlying40, inf, _, h1, h2, rfl, h3, h4, rfl⟩
def ti42 : TI := ⟨.struct #[{ name := "F", type := 40, offset := 0, embedded := false, tag := "", pkgPath := "", byteOffset := 0 }, { name := "Size", type := 3, offset := 2, embedded := false, tag := "", pkgPath := "", byteOffset := 16 }], 3, 24, [.int .i64 0, .int .i64 0, .int .i64 0]⟩
theorem tok42 : TOk Tryz.prog 42 ti42 := by
  obtain ⟨inf, h1, h2, h3, h4⟩ := info_parts (show (Tryz.prog.info? 42).map (fun i => (i.zero, i.size, i.bytes)) = some (some (.agg #[.int .i64 0, .int .i64 0, .int .i64 0]), 3, 24) from by kernel_rfl)
  exact ⟨Tryz.underlying42, inf, _, h1, h2, rfl, h3, h4, rfl⟩
def ti43 : TI := ⟨.pointer 70, 1, 8, [.pointer none]⟩
theorem tok43 : TOk Tryz.prog 43 ti43 := by
  obtain ⟨inf, h1, h2, h3, h4⟩ := info_parts (show (Tryz.prog.info? 43).map (fun i => (i.zero, i.size, i.bytes)) = some (some (.pointer none), 1, 8) from by kernel_rfl)
  exact ⟨Tryz.underlying43, inf, _, h1, h2, rfl, h3, h4, rfl⟩
def ti50 : TI := ⟨.pointer 75, 1, 8, [.pointer none]⟩
theorem tok50 : TOk Tryz.prog 50 ti50 := by
  obtain ⟨inf, h1, h2, h3, h4⟩ := info_parts (show (Tryz.prog.info? 50).map (fun i => (i.zero, i.size, i.bytes)) = some (some (.pointer none), 1, 8) from by kernel_rfl)
  exact ⟨Tryz.underlying50, inf, _, h1, h2, rfl, h3, h4, rfl⟩
def ti57 : TI := ⟨.struct #[{ name := "Name", type := 9, offset := 0, embedded := false, tag := "", pkgPath := "", byteOffset := 0 }, { name := "Value", type := 9, offset := 1, embedded := false, tag := "", pkgPath := "", byteOffset := 16 }], 2, 32, [.string ⟨#[]⟩, .string ⟨#[]⟩]⟩
theorem tok57 : TOk Tryz.prog 57 ti57 := by
  obtain ⟨inf, h1, h2, h3, h4⟩ := info_parts (show (Tryz.prog.info? 57).map (fun i => (i.zero, i.size, i.bytes)) = some (some (.agg #[.string ⟨#[]⟩, .string ⟨#[]⟩]), 2, 32) from by kernel_rfl)
  exact ⟨Tryz.underlying57, inf, _, h1, h2, rfl, h3, h4, rfl⟩
def ti58 : TI := ⟨.pointer 77, 1, 8, [.pointer none]⟩
theorem tok58 : TOk Tryz.prog 58 ti58 := by
  obtain ⟨inf, h1, h2, h3, h4⟩ := info_parts (show (Tryz.prog.info? 58).map (fun i => (i.zero, i.size, i.bytes)) = some (some (.pointer none), 1, 8) from by kernel_rfl)
  exact ⟨Tryz.underlying58, inf, _, h1, h2, rfl, h3, h4, rfl⟩
def ti64 : TI := ⟨.int .i64, 1, 8, [.int .i64 0]⟩
theorem tok64 : TOk Tryz.prog 64 ti64 := by
  obtain ⟨inf, h1, h2, h3, h4⟩ := info_parts (show (Tryz.prog.info? 64).map (fun i => (i.zero, i.size, i.bytes)) = some (some (.int .i64 0), 1, 8) from by kernel_rfl)
  exact ⟨Tryz.underlying64, inf, _, h1, h2, rfl, h3, h4, rfl⟩
def ti65 : TI := ⟨.slice 5, 1, 24, [.slice none 0 0]⟩
theorem tok65 : TOk Tryz.prog 65 ti65 := by
  obtain ⟨inf, h1, h2, h3, h4⟩ := info_parts (show (Tryz.prog.info? 65).map (fun i => (i.zero, i.size, i.bytes)) = some (some (.slice none 0 0), 1, 24) from by kernel_rfl)
  exact ⟨Tryz.underlying65, inf, _, h1, h2, rfl, h3, h4, rfl⟩
def ti67 : TI := ⟨.struct #[{ name := "limit", type := 3, offset := 0, embedded := false, tag := "", pkgPath := "doorstep/dechunk", byteOffset := 0 }, { name := "at", type := 64, offset := 1, embedded := false, tag := "", pkgPath := "doorstep/dechunk", byteOffset := 8 }, { name := "line", type := 65, offset := 2, embedded := false, tag := "", pkgPath := "doorstep/dechunk", byteOffset := 16 }, { name := "left", type := 3, offset := 3, embedded := false, tag := "", pkgPath := "doorstep/dechunk", byteOffset := 40 }, { name := "sum", type := 3, offset := 4, embedded := false, tag := "", pkgPath := "doorstep/dechunk", byteOffset := 48 }, { name := "spent", type := 3, offset := 5, embedded := false, tag := "", pkgPath := "doorstep/dechunk", byteOffset := 56 }, { name := "trailers", type := 22, offset := 6, embedded := false, tag := "", pkgPath := "doorstep/dechunk", byteOffset := 64 }], 7, 88, [.int .i64 0, .int .i64 0, .slice none 0 0, .int .i64 0, .int .i64 0, .int .i64 0, .slice none 0 0]⟩
theorem tok67 : TOk Tryz.prog 67 ti67 := by
  obtain ⟨inf, h1, h2, h3, h4⟩ := info_parts (show (Tryz.prog.info? 67).map (fun i => (i.zero, i.size, i.bytes)) = some (some (.agg #[.int .i64 0, .int .i64 0, .slice none 0 0, .int .i64 0, .int .i64 0, .int .i64 0, .slice none 0 0]), 7, 88) from by kernel_rfl)
  exact ⟨Tryz.underlying67, inf, _, h1, h2, rfl, h3, h4, rfl⟩
def ti70 : TI := ⟨.struct #[{ name := "Encoder", type := 58, offset := 0, embedded := true, tag := "", pkgPath := "", byteOffset := 0 }, { name := "frame", type := 40, offset := 1, embedded := false, tag := "", pkgPath := "doorstep/reframe", byteOffset := 8 }, { name := "left", type := 3, offset := 3, embedded := false, tag := "", pkgPath := "doorstep/reframe", byteOffset := 24 }, { name := "done", type := 4, offset := 4, embedded := false, tag := "", pkgPath := "doorstep/reframe", byteOffset := 32 }], 5, 40, [.pointer none, .int .i64 0, .int .i64 0, .int .i64 0, .bool false]⟩
theorem tok70 : TOk Tryz.prog 70 ti70 := by
  obtain ⟨inf, h1, h2, h3, h4⟩ := info_parts (show (Tryz.prog.info? 70).map (fun i => (i.zero, i.size, i.bytes)) = some (some (.agg #[.pointer none, .int .i64 0, .int .i64 0, .int .i64 0, .bool false]), 5, 40) from by kernel_rfl)
  exact ⟨Tryz.underlying70, inf, _, h1, h2, rfl, h3, h4, rfl⟩
def ti75 : TI := ⟨.struct #[{ name := "Decoder", type := 30, offset := 0, embedded := true, tag := "", pkgPath := "", byteOffset := 0 }, { name := "frame", type := 40, offset := 1, embedded := false, tag := "", pkgPath := "doorstep/body", byteOffset := 8 }, { name := "left", type := 3, offset := 3, embedded := false, tag := "", pkgPath := "doorstep/body", byteOffset := 24 }, { name := "done", type := 4, offset := 4, embedded := false, tag := "", pkgPath := "doorstep/body", byteOffset := 32 }, { name := "bad", type := 4, offset := 5, embedded := false, tag := "", pkgPath := "doorstep/body", byteOffset := 33 }], 6, 40, [.pointer none, .int .i64 0, .int .i64 0, .int .i64 0, .bool false, .bool false]⟩
theorem tok75 : TOk Tryz.prog 75 ti75 := by
  obtain ⟨inf, h1, h2, h3, h4⟩ := info_parts (show (Tryz.prog.info? 75).map (fun i => (i.zero, i.size, i.bytes)) = some (some (.agg #[.pointer none, .int .i64 0, .int .i64 0, .int .i64 0, .bool false, .bool false]), 6, 40) from by kernel_rfl)
  exact ⟨Tryz.underlying75, inf, _, h1, h2, rfl, h3, h4, rfl⟩
def ti77 : TI := ⟨.struct #[{ name := "size", type := 3, offset := 0, embedded := false, tag := "", pkgPath := "doorstep/enchunk", byteOffset := 0 }, { name := "buf", type := 9, offset := 1, embedded := false, tag := "", pkgPath := "doorstep/enchunk", byteOffset := 8 }, { name := "done", type := 4, offset := 2, embedded := false, tag := "", pkgPath := "doorstep/enchunk", byteOffset := 24 }], 3, 32, [.int .i64 0, .string ⟨#[]⟩, .bool false]⟩
theorem tok77 : TOk Tryz.prog 77 ti77 := by
  obtain ⟨inf, h1, h2, h3, h4⟩ := info_parts (show (Tryz.prog.info? 77).map (fun i => (i.zero, i.size, i.bytes)) = some (some (.agg #[.int .i64 0, .string ⟨#[]⟩, .bool false]), 3, 32) from by kernel_rfl)
  exact ⟨Tryz.underlying77, inf, _, h1, h2, rfl, h3, h4, rfl⟩
def ti78 : TI := ⟨.slice 9, 1, 24, [.slice none 0 0]⟩
theorem tok78 : TOk Tryz.prog 78 ti78 := by
  obtain ⟨inf, h1, h2, h3, h4⟩ := info_parts (show (Tryz.prog.info? 78).map (fun i => (i.zero, i.size, i.bytes)) = some (some (.slice none 0 0), 1, 24) from by kernel_rfl)
  exact ⟨Tryz.underlying78, inf, _, h1, h2, rfl, h3, h4, rfl⟩
def ti100 : TI := ⟨.slice 117, 1, 24, [.slice none 0 0]⟩
theorem tok100 : TOk Tryz.prog 100 ti100 := by
  obtain ⟨inf, h1, h2, h3, h4⟩ := info_parts (show (Tryz.prog.info? 100).map (fun i => (i.zero, i.size, i.bytes)) = some (some (.slice none 0 0), 1, 24) from by kernel_rfl)
  exact ⟨Tryz.underlying100, inf, _, h1, h2, rfl, h3, h4, rfl⟩
def ti109 : TI := ⟨.pointer 135, 1, 8, [.pointer none]⟩
theorem tok109 : TOk Tryz.prog 109 ti109 := by
  obtain ⟨inf, h1, h2, h3, h4⟩ := info_parts (show (Tryz.prog.info? 109).map (fun i => (i.zero, i.size, i.bytes)) = some (some (.pointer none), 1, 8) from by kernel_rfl)
  exact ⟨Tryz.underlying109, inf, _, h1, h2, rfl, h3, h4, rfl⟩
def ti112 : TI := ⟨.struct #[{ name := "Scanner", type := 109, offset := 0, embedded := true, tag := "", pkgPath := "", byteOffset := 0 }], 1, 8, [.pointer none]⟩
theorem tok112 : TOk Tryz.prog 112 ti112 := by
  obtain ⟨inf, h1, h2, h3, h4⟩ := info_parts (show (Tryz.prog.info? 112).map (fun i => (i.zero, i.size, i.bytes)) = some (some (.agg #[.pointer none]), 1, 8) from by kernel_rfl)
  exact ⟨Tryz.underlying112, inf, _, h1, h2, rfl, h3, h4, rfl⟩
def ti117 : TI := ⟨.struct #[{ name := "Name", type := 9, offset := 0, embedded := false, tag := "", pkgPath := "", byteOffset := 0 }, { name := "Value", type := 9, offset := 1, embedded := false, tag := "", pkgPath := "", byteOffset := 16 }, { name := "Has", type := 4, offset := 2, embedded := false, tag := "", pkgPath := "", byteOffset := 32 }], 3, 40, [.string ⟨#[]⟩, .string ⟨#[]⟩, .bool false]⟩
theorem tok117 : TOk Tryz.prog 117 ti117 := by
  obtain ⟨inf, h1, h2, h3, h4⟩ := info_parts (show (Tryz.prog.info? 117).map (fun i => (i.zero, i.size, i.bytes)) = some (some (.agg #[.string ⟨#[]⟩, .string ⟨#[]⟩, .bool false]), 3, 40) from by kernel_rfl)
  exact ⟨Tryz.underlying117, inf, _, h1, h2, rfl, h3, h4, rfl⟩
def ti135 : TI := ⟨.struct #[{ name := "s", type := 9, offset := 0, embedded := false, tag := "", pkgPath := "doorstep/scan", byteOffset := 0 }, { name := "at", type := 3, offset := 1, embedded := false, tag := "", pkgPath := "doorstep/scan", byteOffset := 16 }], 2, 24, [.string ⟨#[]⟩, .int .i64 0]⟩
theorem tok135 : TOk Tryz.prog 135 ti135 := by
  obtain ⟨inf, h1, h2, h3, h4⟩ := info_parts (show (Tryz.prog.info? 135).map (fun i => (i.zero, i.size, i.bytes)) = some (some (.agg #[.string ⟨#[]⟩, .int .i64 0]), 2, 24) from by kernel_rfl)
  exact ⟨Tryz.underlying135, inf, _, h1, h2, rfl, h3, h4, rfl⟩
def ti149 : TI := ⟨.array 24 5, 24, 24, [.int .u8 0, .int .u8 0, .int .u8 0, .int .u8 0, .int .u8 0, .int .u8 0, .int .u8 0, .int .u8 0, .int .u8 0, .int .u8 0, .int .u8 0, .int .u8 0, .int .u8 0, .int .u8 0, .int .u8 0, .int .u8 0, .int .u8 0, .int .u8 0, .int .u8 0, .int .u8 0, .int .u8 0, .int .u8 0, .int .u8 0, .int .u8 0]⟩
theorem tok149 : TOk Tryz.prog 149 ti149 := by
  obtain ⟨inf, h1, h2, h3, h4⟩ := info_parts (show (Tryz.prog.info? 149).map (fun i => (i.zero, i.size, i.bytes)) = some (some (.agg #[.int .u8 0, .int .u8 0, .int .u8 0, .int .u8 0, .int .u8 0, .int .u8 0, .int .u8 0, .int .u8 0, .int .u8 0, .int .u8 0, .int .u8 0, .int .u8 0, .int .u8 0, .int .u8 0, .int .u8 0, .int .u8 0, .int .u8 0, .int .u8 0, .int .u8 0, .int .u8 0, .int .u8 0, .int .u8 0, .int .u8 0, .int .u8 0]), 24, 24) from by kernel_rfl)
  exact ⟨Tryz.underlying149, inf, _, h1, h2, rfl, h3, h4, rfl⟩
def ti150 : TI := ⟨.int .u64, 1, 8, [.int .u64 0]⟩
theorem tok150 : TOk Tryz.prog 150 ti150 := by
  obtain ⟨inf, h1, h2, h3, h4⟩ := info_parts (show (Tryz.prog.info? 150).map (fun i => (i.zero, i.size, i.bytes)) = some (some (.int .u64 0), 1, 8) from by kernel_rfl)
  exact ⟨Tryz.underlying150, inf, _, h1, h2, rfl, h3, h4, rfl⟩
def ti158 : TI := ⟨.struct #[{ name := "Scanner", type := 109, offset := 0, embedded := true, tag := "", pkgPath := "", byteOffset := 0 }, { name := "out", type := 65, offset := 1, embedded := false, tag := "", pkgPath := "doorstep/quoted", byteOffset := 8 }], 2, 32, [.pointer none, .slice none 0 0]⟩
theorem tok158 : TOk Tryz.prog 158 ti158 := by
  obtain ⟨inf, h1, h2, h3, h4⟩ := info_parts (show (Tryz.prog.info? 158).map (fun i => (i.zero, i.size, i.bytes)) = some (some (.agg #[.pointer none, .slice none 0 0]), 2, 32) from by kernel_rfl)
  exact ⟨Tryz.underlying158, inf, _, h1, h2, rfl, h3, h4, rfl⟩
def ti161 : TI := ⟨.int .u64, 1, 8, [.int .u64 0]⟩
theorem tok161 : TOk Tryz.prog 161 ti161 := by
  obtain ⟨inf, h1, h2, h3, h4⟩ := info_parts (show (Tryz.prog.info? 161).map (fun i => (i.zero, i.size, i.bytes)) = some (some (.int .u64 0), 1, 8) from by kernel_rfl)
  exact ⟨Tryz.underlying161, inf, _, h1, h2, rfl, h3, h4, rfl⟩
def ti164 : TI := ⟨.int .u32, 1, 4, [.int .u32 0]⟩
theorem tok164 : TOk Tryz.prog 164 ti164 := by
  obtain ⟨inf, h1, h2, h3, h4⟩ := info_parts (show (Tryz.prog.info? 164).map (fun i => (i.zero, i.size, i.bytes)) = some (some (.int .u32 0), 1, 4) from by kernel_rfl)
  exact ⟨Tryz.underlying164, inf, _, h1, h2, rfl, h3, h4, rfl⟩
def ti165 : TI := ⟨.array 65 5, 65, 65, [.int .u8 0, .int .u8 0, .int .u8 0, .int .u8 0, .int .u8 0, .int .u8 0, .int .u8 0, .int .u8 0, .int .u8 0, .int .u8 0, .int .u8 0, .int .u8 0, .int .u8 0, .int .u8 0, .int .u8 0, .int .u8 0, .int .u8 0, .int .u8 0, .int .u8 0, .int .u8 0, .int .u8 0, .int .u8 0, .int .u8 0, .int .u8 0, .int .u8 0, .int .u8 0, .int .u8 0, .int .u8 0, .int .u8 0, .int .u8 0, .int .u8 0, .int .u8 0, .int .u8 0, .int .u8 0, .int .u8 0, .int .u8 0, .int .u8 0, .int .u8 0, .int .u8 0, .int .u8 0, .int .u8 0, .int .u8 0, .int .u8 0, .int .u8 0, .int .u8 0, .int .u8 0, .int .u8 0, .int .u8 0, .int .u8 0, .int .u8 0, .int .u8 0, .int .u8 0, .int .u8 0, .int .u8 0, .int .u8 0, .int .u8 0, .int .u8 0, .int .u8 0, .int .u8 0, .int .u8 0, .int .u8 0, .int .u8 0, .int .u8 0, .int .u8 0, .int .u8 0]⟩
theorem tok165 : TOk Tryz.prog 165 ti165 := by
  obtain ⟨inf, h1, h2, h3, h4⟩ := info_parts (show (Tryz.prog.info? 165).map (fun i => (i.zero, i.size, i.bytes)) = some (some (.agg #[.int .u8 0, .int .u8 0, .int .u8 0, .int .u8 0, .int .u8 0, .int .u8 0, .int .u8 0, .int .u8 0, .int .u8 0, .int .u8 0, .int .u8 0, .int .u8 0, .int .u8 0, .int .u8 0, .int .u8 0, .int .u8 0, .int .u8 0, .int .u8 0, .int .u8 0, .int .u8 0, .int .u8 0, .int .u8 0, .int .u8 0, .int .u8 0, .int .u8 0, .int .u8 0, .int .u8 0, .int .u8 0, .int .u8 0, .int .u8 0, .int .u8 0, .int .u8 0, .int .u8 0, .int .u8 0, .int .u8 0, .int .u8 0, .int .u8 0, .int .u8 0, .int .u8 0, .int .u8 0, .int .u8 0, .int .u8 0, .int .u8 0, .int .u8 0, .int .u8 0, .int .u8 0, .int .u8 0, .int .u8 0, .int .u8 0, .int .u8 0, .int .u8 0, .int .u8 0, .int .u8 0, .int .u8 0, .int .u8 0, .int .u8 0, .int .u8 0, .int .u8 0, .int .u8 0, .int .u8 0, .int .u8 0, .int .u8 0, .int .u8 0, .int .u8 0, .int .u8 0]), 65, 65) from by kernel_rfl)
  exact ⟨Tryz.underlying165, inf, _, h1, h2, rfl, h3, h4, rfl⟩
def T : Tab := findT [(2, ti2), (3, ti3), (4, ti4), (5, ti5), (9, ti9), (22, ti22), (25, ti25), (30, ti30), (38, ti38), (40, ti40), (42, ti42), (43, ti43), (50, ti50), (57, ti57), (58, ti58), (64, ti64), (65, ti65), (67, ti67), (70, ti70), (75, ti75), (77, ti77), (78, ti78), (100, ti100), (109, ti109), (112, ti112), (117, ti117), (135, ti135), (149, ti149), (150, ti150), (158, ti158), (161, ti161), (164, ti164), (165, ti165)]
theorem T_ok : T.Ok Tryz.prog := findT_ok (.cons tok2 (.cons tok3 (.cons tok4 (.cons tok5 (.cons tok9 (.cons tok22 (.cons tok25 (.cons tok30 (.cons tok38 (.cons tok40 (.cons tok42 (.cons tok43 (.cons tok50 (.cons tok57 (.cons tok58 (.cons tok64 (.cons tok65 (.cons tok67 (.cons tok70 (.cons tok75 (.cons tok77 (.cons tok78 (.cons tok100 (.cons tok109 (.cons tok112 (.cons tok117 (.cons tok135 (.cons tok149 (.cons tok150 (.cons tok158 (.cons tok161 (.cons tok164 (.cons tok165 (.nil))))))))))))))))))))))))))))))))))
end Go.Proofs.YthcjiflmhjagiaaGreatDoor
