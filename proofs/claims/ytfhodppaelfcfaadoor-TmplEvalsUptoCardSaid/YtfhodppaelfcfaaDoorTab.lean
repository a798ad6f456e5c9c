/- The types that the functions use, in a table; each row is proved. No statement of its own. -/
import Derived.Test.YtfhodppaelfcfaaDoorProg
import Derived.Test.YtfhodppaelfcfaaDoorVz
set_option linter.unusedSimpArgs false
set_option linter.unusedVariables false
set_option maxRecDepth 100000
namespace Go.Proofs.YtfhodppaelfcfaaDoor
open Go.RowKit

def ti2 : TI := ⟨.int .i64, 1, 8, [.int .i64 0]⟩
theorem tok2 : TOk Tryd.prog 2 ti2 := by
  obtain ⟨inf, h1, h2, h3, h4⟩ := info_parts (show (Tryd.prog.info? 2).map (fun i => (i.zero, i.size, i.bytes)) = some (some (.int .i64 0), 1, 8) from by kernel_rfl)
  exact ⟨Tryd.underlying2, inf, _, h1, h2, rfl, h3, h4, rfl⟩
def ti3 : TI := ⟨.int .i64, 1, 8, [.int .i64 0]⟩
theorem tok3 : TOk Tryd.prog 3 ti3 := by
  obtain ⟨inf, h1, h2, h3, h4⟩ := info_parts (show (Tryd.prog.info? 3).map (fun i => (i.zero, i.size, i.bytes)) = some (some (.int .i64 0), 1, 8) from by kernel_rfl)
  exact ⟨Tryd.underlying3, inf, _, h1, h2, rfl, h3, h4, rfl⟩
def ti4 : TI := ⟨.bool, 1, 1, [.bool false]⟩
theorem tok4 : TOk Tryd.prog 4 ti4 := by
  obtain ⟨inf, h1, h2, h3, h4⟩ := info_parts (show (Tryd.prog.info? 4).map (fun i => (i.zero, i.size, i.bytes)) = some (some (.bool false), 1, 1) from by kernel_rfl)
  exact ⟨Tryd.underlying4, inf, _, h1, h2, rfl, h3, h4, rfl⟩
def ti5 : TI := ⟨.int .u8, 1, 1, [.int .u8 0]⟩
theorem tok5 : TOk Tryd.prog 5 ti5 := by
  obtain ⟨inf, h1, h2, h3, h4⟩ := info_parts (show (Tryd.prog.info? 5).map (fun i => (i.zero, i.size, i.bytes)) = some (some (.int .u8 0), 1, 1) from by kernel_rfl)
  exact ⟨Tryd.underlying5, inf, _, h1, h2, rfl, h3, h4, rfl⟩
def ti9 : TI := ⟨.string, 1, 16, [.string ⟨#[]⟩]⟩
theorem tok9 : TOk Tryd.prog 9 ti9 := by
  obtain ⟨inf, h1, h2, h3, h4⟩ := info_parts (show (Tryd.prog.info? 9).map (fun i => (i.zero, i.size, i.bytes)) = some (some (.string ⟨#[]⟩), 1, 16) from by kernel_rfl)
  exact ⟨Tryd.underlying9, inf, _, h1, h2, rfl, h3, h4, rfl⟩
def ti23 : TI := ⟨.slice 100, 1, 24, [.slice none 0 0]⟩
theorem tok23 : TOk Tryd.prog 23 ti23 := by
  obtain ⟨inf, h1, h2, h3, h4⟩ := info_parts (show (Tryd.prog.info? 23).map (fun i => (i.zero, i.size, i.bytes)) = some (some (.slice none 0 0), 1, 24) from by kernel_rfl)
  exact ⟨Tryd.underlying23, inf, _, h1, h2, rfl, h3, h4, rfl⟩
def ti24 : TI := ⟨.int .i64, 1, 8, [.int .i64 0]⟩
theorem tok24 : TOk Tryd.prog 24 ti24 := by
  obtain ⟨inf, h1, h2, h3, h4⟩ := info_parts (show (Tryd.prog.info? 24).map (fun i => (i.zero, i.size, i.bytes)) = some (some (.int .i64 0), 1, 8) from by kernel_rfl)
  exact ⟨Tryd.underlying24, inf, _, h1, h2, rfl, h3, h4, rfl⟩
def ti35 : TI := ⟨.slice 64, 1, 24, [.slice none 0 0]⟩
theorem tok35 : TOk Tryd.prog 35 ti35 := by
  obtain ⟨inf, h1, h2, h3, h4⟩ := info_parts (show (Tryd.prog.info? 35).map (fun i => (i.zero, i.size, i.bytes)) = some (some (.slice none 0 0), 1, 24) from by kernel_rfl)
  exact ⟨Tryd.underlying35, inf, _, h1, h2, rfl, h3, h4, rfl⟩
def ti41 : TI := ⟨.slice 120, 1, 24, [.slice none 0 0]⟩
theorem tok41 : TOk Tryd.prog 41 ti41 := by
  obtain ⟨inf, h1, h2, h3, h4⟩ := info_parts (show (Tryd.prog.info? 41).map (fun i => (i.zero, i.size, i.bytes)) = some (some (.slice none 0 0), 1, 24) from by kernel_rfl)
  exact ⟨Tryd.underlying41, inf, _, h1, h2, rfl, h3, h4, rfl⟩
def ti48 : TI := ⟨.slice 9, 1, 24, [.slice none 0 0]⟩
theorem tok48 : TOk Tryd.prog 48 ti48 := by
  obtain ⟨inf, h1, h2, h3, h4⟩ := info_parts (show (Tryd.prog.info? 48).map (fun i => (i.zero, i.size, i.bytes)) = some (some (.slice none 0 0), 1, 24) from by kernel_rfl)
  exact ⟨Tryd.underlying48, inf, _, h1, h2, rfl, h3, h4, rfl⟩
def ti55 : TI := ⟨.slice 129, 1, 24, [.slice none 0 0]⟩
theorem tok55 : TOk Tryd.prog 55 ti55 := by
  obtain ⟨inf, h1, h2, h3, h4⟩ := info_parts (show (Tryd.prog.info? 55).map (fun i => (i.zero, i.size, i.bytes)) = some (some (.slice none 0 0), 1, 24) from by kernel_rfl)
  exact ⟨Tryd.underlying55, inf, _, h1, h2, rfl, h3, h4, rfl⟩
def ti56 : TI := ⟨.int .i64, 1, 8, [.int .i64 0]⟩
theorem tok56 : TOk Tryd.prog 56 ti56 := by
  obtain ⟨inf, h1, h2, h3, h4⟩ := info_parts (show (Tryd.prog.info? 56).map (fun i => (i.zero, i.size, i.bytes)) = some (some (.int .i64 0), 1, 8) from by kernel_rfl)
  exact ⟨Tryd.underlying56, inf, _, h1, h2, rfl, h3, h4, rfl⟩
def ti58 : TI := ⟨.struct #[{ name := "Kind", type := 56, offset := 0, embedded := false, tag := "", pkgPath := "", byteOffset := 0 }, { name := "Method", type := 9, offset := 1, embedded := false, tag := "", pkgPath := "", byteOffset := 8 }, { name := "Target", type := 9, offset := 2, embedded := false, tag := "", pkgPath := "", byteOffset := 24 }, { name := "Code", type := 3, offset := 3, embedded := false, tag := "", pkgPath := "", byteOffset := 40 }, { name := "Reason", type := 9, offset := 4, embedded := false, tag := "", pkgPath := "", byteOffset := 48 }, { name := "Minor", type := 3, offset := 5, embedded := false, tag := "", pkgPath := "", byteOffset := 64 }, { name := "Fields", type := 35, offset := 6, embedded := false, tag := "", pkgPath := "", byteOffset := 72 }], 7, 96, [.int .i64 0, .string ⟨#[]⟩, .string ⟨#[]⟩, .int .i64 0, .string ⟨#[]⟩, .int .i64 0, .slice none 0 0]⟩
theorem tok58 : TOk Tryd.prog 58 ti58 := by
  obtain ⟨inf, h1, h2, h3, h4⟩ := info_parts (show (Tryd.prog.info? 58).map (fun i => (i.zero, i.size, i.bytes)) = some (some (.agg #[.int .i64 0, .string ⟨#[]⟩, .string ⟨#[]⟩, .int .i64 0, .string ⟨#[]⟩, .int .i64 0, .slice none 0 0]), 7, 96) from by kernel_rfl)
  exact ⟨Tryd.underlying58, inf, _, h1, h2, rfl, h3, h4, rfl⟩
def ti64 : TI := ⟨.struct #[{ name := "Name", type := 9, offset := 0, embedded := false, tag := "", pkgPath := "", byteOffset := 0 }, { name := "Value", type := 9, offset := 1, embedded := false, tag := "", pkgPath := "", byteOffset := 16 }], 2, 32, [.string ⟨#[]⟩, .string ⟨#[]⟩]⟩
theorem tok64 : TOk Tryd.prog 64 ti64 := by
  obtain ⟨inf, h1, h2, h3, h4⟩ := info_parts (show (Tryd.prog.info? 64).map (fun i => (i.zero, i.size, i.bytes)) = some (some (.agg #[.string ⟨#[]⟩, .string ⟨#[]⟩]), 2, 32) from by kernel_rfl)
  exact ⟨Tryd.underlying64, inf, _, h1, h2, rfl, h3, h4, rfl⟩
def ti67 : TI := ⟨.struct #[{ name := "Kind", type := 5, offset := 0, embedded := false, tag := "", pkgPath := "", byteOffset := 0 }, { name := "Name", type := 9, offset := 1, embedded := false, tag := "", pkgPath := "", byteOffset := 8 }, { name := "Value", type := 9, offset := 2, embedded := false, tag := "", pkgPath := "", byteOffset := 24 }], 3, 40, [.int .u8 0, .string ⟨#[]⟩, .string ⟨#[]⟩]⟩
theorem tok67 : TOk Tryd.prog 67 ti67 := by
  obtain ⟨inf, h1, h2, h3, h4⟩ := info_parts (show (Tryd.prog.info? 67).map (fun i => (i.zero, i.size, i.bytes)) = some (some (.agg #[.int .u8 0, .string ⟨#[]⟩, .string ⟨#[]⟩]), 3, 40) from by kernel_rfl)
  exact ⟨Tryd.underlying67, inf, _, h1, h2, rfl, h3, h4, rfl⟩
def ti69 : TI := ⟨.pointer 134, 1, 8, [.pointer none]⟩
theorem tok69 : TOk Tryd.prog 69 ti69 := by
  obtain ⟨inf, h1, h2, h3, h4⟩ := info_parts (show (Tryd.prog.info? 69).map (fun i => (i.zero, i.size, i.bytes)) = some (some (.pointer none), 1, 8) from by kernel_rfl)
  exact ⟨Tryd.underlying69, inf, _, h1, h2, rfl, h3, h4, rfl⟩
def ti77 : TI := ⟨.slice 67, 1, 24, [.slice none 0 0]⟩
theorem tok77 : TOk Tryd.prog 77 ti77 := by
  obtain ⟨inf, h1, h2, h3, h4⟩ := info_parts (show (Tryd.prog.info? 77).map (fun i => (i.zero, i.size, i.bytes)) = some (some (.slice none 0 0), 1, 24) from by kernel_rfl)
  exact ⟨Tryd.underlying77, inf, _, h1, h2, rfl, h3, h4, rfl⟩
def ti91 : TI := ⟨.int .i64, 1, 8, [.int .i64 0]⟩
theorem tok91 : TOk Tryd.prog 91 ti91 := by
  obtain ⟨inf, h1, h2, h3, h4⟩ := info_parts (show (Tryd.prog.info? 91).map (fun i => (i.zero, i.size, i.bytes)) = some (some (.int .i64 0), 1, 8) from by kernel_rfl)
  exact ⟨Tryd.underlying91, inf, _, h1, h2, rfl, h3, h4, rfl⟩
def ti93 : TI := ⟨.struct #[{ name := "Kind", type := 91, offset := 0, embedded := false, tag := "", pkgPath := "", byteOffset := 0 }, { name := "Name", type := 9, offset := 1, embedded := false, tag := "", pkgPath := "", byteOffset := 8 }, { name := "Value", type := 9, offset := 2, embedded := false, tag := "", pkgPath := "", byteOffset := 24 }], 3, 40, [.int .i64 0, .string ⟨#[]⟩, .string ⟨#[]⟩]⟩
theorem tok93 : TOk Tryd.prog 93 ti93 := by
  obtain ⟨inf, h1, h2, h3, h4⟩ := info_parts (show (Tryd.prog.info? 93).map (fun i => (i.zero, i.size, i.bytes)) = some (some (.agg #[.int .i64 0, .string ⟨#[]⟩, .string ⟨#[]⟩]), 3, 40) from by kernel_rfl)
  exact ⟨Tryd.underlying93, inf, _, h1, h2, rfl, h3, h4, rfl⟩
def ti94 : TI := ⟨.int .i64, 1, 8, [.int .i64 0]⟩
theorem tok94 : TOk Tryd.prog 94 ti94 := by
  obtain ⟨inf, h1, h2, h3, h4⟩ := info_parts (show (Tryd.prog.info? 94).map (fun i => (i.zero, i.size, i.bytes)) = some (some (.int .i64 0), 1, 8) from by kernel_rfl)
  exact ⟨Tryd.underlying94, inf, _, h1, h2, rfl, h3, h4, rfl⟩
def ti96 : TI := ⟨.struct #[{ name := "Side", type := 56, offset := 0, embedded := false, tag := "", pkgPath := "", byteOffset := 0 }, { name := "Guard", type := 93, offset := 1, embedded := false, tag := "", pkgPath := "", byteOffset := 8 }, { name := "Kind", type := 94, offset := 4, embedded := false, tag := "", pkgPath := "", byteOffset := 48 }, { name := "Name", type := 9, offset := 5, embedded := false, tag := "", pkgPath := "", byteOffset := 56 }, { name := "To", type := 9, offset := 6, embedded := false, tag := "", pkgPath := "", byteOffset := 72 }, { name := "Parts", type := 41, offset := 7, embedded := false, tag := "", pkgPath := "", byteOffset := 88 }], 8, 112, [.int .i64 0, .int .i64 0, .string ⟨#[]⟩, .string ⟨#[]⟩, .int .i64 0, .string ⟨#[]⟩, .string ⟨#[]⟩, .slice none 0 0]⟩
theorem tok96 : TOk Tryd.prog 96 ti96 := by
  obtain ⟨inf, h1, h2, h3, h4⟩ := info_parts (show (Tryd.prog.info? 96).map (fun i => (i.zero, i.size, i.bytes)) = some (some (.agg #[.int .i64 0, .int .i64 0, .string ⟨#[]⟩, .string ⟨#[]⟩, .int .i64 0, .string ⟨#[]⟩, .string ⟨#[]⟩, .slice none 0 0]), 8, 112) from by kernel_rfl)
  exact ⟨Tryd.underlying96, inf, _, h1, h2, rfl, h3, h4, rfl⟩
def ti100 : TI := ⟨.struct #[{ name := "Name", type := 9, offset := 0, embedded := false, tag := "", pkgPath := "", byteOffset := 0 }, { name := "Value", type := 9, offset := 1, embedded := false, tag := "", pkgPath := "", byteOffset := 16 }, { name := "Has", type := 4, offset := 2, embedded := false, tag := "", pkgPath := "", byteOffset := 32 }], 3, 40, [.string ⟨#[]⟩, .string ⟨#[]⟩, .bool false]⟩
theorem tok100 : TOk Tryd.prog 100 ti100 := by
  obtain ⟨inf, h1, h2, h3, h4⟩ := info_parts (show (Tryd.prog.info? 100).map (fun i => (i.zero, i.size, i.bytes)) = some (some (.agg #[.string ⟨#[]⟩, .string ⟨#[]⟩, .bool false]), 3, 40) from by kernel_rfl)
  exact ⟨Tryd.underlying100, inf, _, h1, h2, rfl, h3, h4, rfl⟩
def ti101 : TI := ⟨.pointer 146, 1, 8, [.pointer none]⟩
theorem tok101 : TOk Tryd.prog 101 ti101 := by
  obtain ⟨inf, h1, h2, h3, h4⟩ := info_parts (show (Tryd.prog.info? 101).map (fun i => (i.zero, i.size, i.bytes)) = some (some (.pointer none), 1, 8) from by kernel_rfl)
  exact ⟨Tryd.underlying101, inf, _, h1, h2, rfl, h3, h4, rfl⟩
def ti104 : TI := ⟨.struct #[{ name := "Scanner", type := 101, offset := 0, embedded := true, tag := "", pkgPath := "", byteOffset := 0 }], 1, 8, [.pointer none]⟩
theorem tok104 : TOk Tryd.prog 104 ti104 := by
  obtain ⟨inf, h1, h2, h3, h4⟩ := info_parts (show (Tryd.prog.info? 104).map (fun i => (i.zero, i.size, i.bytes)) = some (some (.agg #[.pointer none]), 1, 8) from by kernel_rfl)
  exact ⟨Tryd.underlying104, inf, _, h1, h2, rfl, h3, h4, rfl⟩
def ti118 : TI := ⟨.int .i64, 1, 8, [.int .i64 0]⟩
theorem tok118 : TOk Tryd.prog 118 ti118 := by
  obtain ⟨inf, h1, h2, h3, h4⟩ := info_parts (show (Tryd.prog.info? 118).map (fun i => (i.zero, i.size, i.bytes)) = some (some (.int .i64 0), 1, 8) from by kernel_rfl)
  exact ⟨Tryd.underlying118, inf, _, h1, h2, rfl, h3, h4, rfl⟩
def ti120 : TI := ⟨.struct #[{ name := "Kind", type := 118, offset := 0, embedded := false, tag := "", pkgPath := "", byteOffset := 0 }, { name := "Text", type := 9, offset := 1, embedded := false, tag := "", pkgPath := "", byteOffset := 8 }], 2, 24, [.int .i64 0, .string ⟨#[]⟩]⟩
theorem tok120 : TOk Tryd.prog 120 ti120 := by
  obtain ⟨inf, h1, h2, h3, h4⟩ := info_parts (show (Tryd.prog.info? 120).map (fun i => (i.zero, i.size, i.bytes)) = some (some (.agg #[.int .i64 0, .string ⟨#[]⟩]), 2, 24) from by kernel_rfl)
  exact ⟨Tryd.underlying120, inf, _, h1, h2, rfl, h3, h4, rfl⟩
def ti123 : TI := ⟨.struct #[{ name := "Scanner", type := 101, offset := 0, embedded := true, tag := "", pkgPath := "", byteOffset := 0 }, { name := "out", type := 41, offset := 1, embedded := false, tag := "", pkgPath := "doorstep/tmpl", byteOffset := 8 }], 2, 32, [.pointer none, .slice none 0 0]⟩
theorem tok123 : TOk Tryd.prog 123 ti123 := by
  obtain ⟨inf, h1, h2, h3, h4⟩ := info_parts (show (Tryd.prog.info? 123).map (fun i => (i.zero, i.size, i.bytes)) = some (some (.agg #[.pointer none, .slice none 0 0]), 2, 32) from by kernel_rfl)
  exact ⟨Tryd.underlying123, inf, _, h1, h2, rfl, h3, h4, rfl⟩
def ti129 : TI := ⟨.struct #[{ name := "Name", type := 9, offset := 0, embedded := false, tag := "", pkgPath := "", byteOffset := 0 }, { name := "Value", type := 9, offset := 1, embedded := false, tag := "", pkgPath := "", byteOffset := 16 }], 2, 32, [.string ⟨#[]⟩, .string ⟨#[]⟩]⟩
theorem tok129 : TOk Tryd.prog 129 ti129 := by
  obtain ⟨inf, h1, h2, h3, h4⟩ := info_parts (show (Tryd.prog.info? 129).map (fun i => (i.zero, i.size, i.bytes)) = some (some (.agg #[.string ⟨#[]⟩, .string ⟨#[]⟩]), 2, 32) from by kernel_rfl)
  exact ⟨Tryd.underlying129, inf, _, h1, h2, rfl, h3, h4, rfl⟩
def ti130 : TI := ⟨.slice 5, 1, 24, [.slice none 0 0]⟩
theorem tok130 : TOk Tryd.prog 130 ti130 := by
  obtain ⟨inf, h1, h2, h3, h4⟩ := info_parts (show (Tryd.prog.info? 130).map (fun i => (i.zero, i.size, i.bytes)) = some (some (.slice none 0 0), 1, 24) from by kernel_rfl)
  exact ⟨Tryd.underlying130, inf, _, h1, h2, rfl, h3, h4, rfl⟩
def ti134 : TI := ⟨.struct #[{ name := "l", type := 35, offset := 0, embedded := false, tag := "", pkgPath := "doorstep/bag", byteOffset := 0 }], 1, 24, [.slice none 0 0]⟩
theorem tok134 : TOk Tryd.prog 134 ti134 := by
  obtain ⟨inf, h1, h2, h3, h4⟩ := info_parts (show (Tryd.prog.info? 134).map (fun i => (i.zero, i.size, i.bytes)) = some (some (.agg #[.slice none 0 0]), 1, 24) from by kernel_rfl)
  exact ⟨Tryd.underlying134, inf, _, h1, h2, rfl, h3, h4, rfl⟩
def ti144 : TI := ⟨.array 4 9, 4, 64, [.string ⟨#[]⟩, .string ⟨#[]⟩, .string ⟨#[]⟩, .string ⟨#[]⟩]⟩
theorem tok144 : TOk Tryd.prog 144 ti144 := by
  obtain ⟨inf, h1, h2, h3, h4⟩ := info_parts (show (Tryd.prog.info? 144).map (fun i => (i.zero, i.size, i.bytes)) = some (some (.agg #[.string ⟨#[]⟩, .string ⟨#[]⟩, .string ⟨#[]⟩, .string ⟨#[]⟩]), 4, 64) from by kernel_rfl)
  exact ⟨Tryd.underlying144, inf, _, h1, h2, rfl, h3, h4, rfl⟩
def ti146 : TI := ⟨.struct #[{ name := "s", type := 9, offset := 0, embedded := false, tag := "", pkgPath := "doorstep/scan", byteOffset := 0 }, { name := "at", type := 3, offset := 1, embedded := false, tag := "", pkgPath := "doorstep/scan", byteOffset := 16 }], 2, 24, [.string ⟨#[]⟩, .int .i64 0]⟩
theorem tok146 : TOk Tryd.prog 146 ti146 := by
  obtain ⟨inf, h1, h2, h3, h4⟩ := info_parts (show (Tryd.prog.info? 146).map (fun i => (i.zero, i.size, i.bytes)) = some (some (.agg #[.string ⟨#[]⟩, .int .i64 0]), 2, 24) from by kernel_rfl)
  exact ⟨Tryd.underlying146, inf, _, h1, h2, rfl, h3, h4, rfl⟩
def ti192 : TI := ⟨.struct #[{ name := "Scanner", type := 101, offset := 0, embedded := true, tag := "", pkgPath := "", byteOffset := 0 }, { name := "out", type := 130, offset := 1, embedded := false, tag := "", pkgPath := "doorstep/quoted", byteOffset := 8 }], 2, 32, [.pointer none, .slice none 0 0]⟩
theorem tok192 : TOk Tryd.prog 192 ti192 := by
  obtain ⟨inf, h1, h2, h3, h4⟩ := info_parts (show (Tryd.prog.info? 192).map (fun i => (i.zero, i.size, i.bytes)) = some (some (.agg #[.pointer none, .slice none 0 0]), 2, 32) from by kernel_rfl)
  exact ⟨Tryd.underlying192, inf, _, h1, h2, rfl, h3, h4, rfl⟩
def ti199 : TI := ⟨.array 24 5, 24, 24, [.int .u8 0, .int .u8 0, .int .u8 0, .int .u8 0, .int .u8 0, .int .u8 0, .int .u8 0, .int .u8 0, .int .u8 0, .int .u8 0, .int .u8 0, .int .u8 0, .int .u8 0, .int .u8 0, .int .u8 0, .int .u8 0, .int .u8 0, .int .u8 0, .int .u8 0, .int .u8 0, .int .u8 0, .int .u8 0, .int .u8 0, .int .u8 0]⟩
theorem tok199 : TOk Tryd.prog 199 ti199 := by
  obtain ⟨inf, h1, h2, h3, h4⟩ := info_parts (show (Tryd.prog.info? 199).map (fun i => (i.zero, i.size, i.bytes)) = some (some (.agg #[.int .u8 0, .int .u8 0, .int .u8 0, .int .u8 0, .int .u8 0, .int .u8 0, .int .u8 0, .int .u8 0, .int .u8 0, .int .u8 0, .int .u8 0, .int .u8 0, .int .u8 0, .int .u8 0, .int .u8 0, .int .u8 0, .int .u8 0, .int .u8 0, .int .u8 0, .int .u8 0, .int .u8 0, .int .u8 0, .int .u8 0, .int .u8 0]), 24, 24) from by kernel_rfl)
  exact ⟨Tryd.underlying199, inf, _, h1, h2, rfl, h3, h4, rfl⟩
def ti200 : TI := ⟨.int .u64, 1, 8, [.int .u64 0]⟩
theorem tok200 : TOk Tryd.prog 200 ti200 := by
  obtain ⟨inf, h1, h2, h3, h4⟩ := info_parts (show (Tryd.prog.info? 200).map (fun i => (i.zero, i.size, i.bytes)) = some (some (.int .u64 0), 1, 8) from by kernel_rfl)
  exact ⟨Tryd.underlying200, inf, _, h1, h2, rfl, h3, h4, rfl⟩
def ti209 : TI := ⟨.int .u64, 1, 8, [.int .u64 0]⟩
theorem tok209 : TOk Tryd.prog 209 ti209 := by
  obtain ⟨inf, h1, h2, h3, h4⟩ := info_parts (show (Tryd.prog.info? 209).map (fun i => (i.zero, i.size, i.bytes)) = some (some (.int .u64 0), 1, 8) from by kernel_rfl)
  exact ⟨Tryd.underlying209, inf, _, h1, h2, rfl, h3, h4, rfl⟩
def ti217 : TI := ⟨.int .u32, 1, 4, [.int .u32 0]⟩
theorem tok217 : TOk Tryd.prog 217 ti217 := by
  obtain ⟨inf, h1, h2, h3, h4⟩ := info_parts (show (Tryd.prog.info? 217).map (fun i => (i.zero, i.size, i.bytes)) = some (some (.int .u32 0), 1, 4) from by kernel_rfl)
  exact ⟨Tryd.underlying217, inf, _, h1, h2, rfl, h3, h4, rfl⟩
def ti218 : TI := ⟨.array 65 5, 65, 65, [.int .u8 0, .int .u8 0, .int .u8 0, .int .u8 0, .int .u8 0, .int .u8 0, .int .u8 0, .int .u8 0, .int .u8 0, .int .u8 0, .int .u8 0, .int .u8 0, .int .u8 0, .int .u8 0, .int .u8 0, .int .u8 0, .int .u8 0, .int .u8 0, .int .u8 0, .int .u8 0, .int .u8 0, .int .u8 0, .int .u8 0, .int .u8 0, .int .u8 0, .int .u8 0, .int .u8 0, .int .u8 0, .int .u8 0, .int .u8 0, .int .u8 0, .int .u8 0, .int .u8 0, .int .u8 0, .int .u8 0, .int .u8 0, .int .u8 0, .int .u8 0, .int .u8 0, .int .u8 0, .int .u8 0, .int .u8 0, .int .u8 0, .int .u8 0, .int .u8 0, .int .u8 0, .int .u8 0, .int .u8 0, .int .u8 0, .int .u8 0, .int .u8 0, .int .u8 0, .int .u8 0, .int .u8 0, .int .u8 0, .int .u8 0, .int .u8 0, .int .u8 0, .int .u8 0, .int .u8 0, .int .u8 0, .int .u8 0, .int .u8 0, .int .u8 0, .int .u8 0]⟩
theorem tok218 : TOk Tryd.prog 218 ti218 := by
  obtain ⟨inf, h1, h2, h3, h4⟩ := info_parts (show (Tryd.prog.info? 218).map (fun i => (i.zero, i.size, i.bytes)) = some (some (.agg #[.int .u8 0, .int .u8 0, .int .u8 0, .int .u8 0, .int .u8 0, .int .u8 0, .int .u8 0, .int .u8 0, .int .u8 0, .int .u8 0, .int .u8 0, .int .u8 0, .int .u8 0, .int .u8 0, .int .u8 0, .int .u8 0, .int .u8 0, .int .u8 0, .int .u8 0, .int .u8 0, .int .u8 0, .int .u8 0, .int .u8 0, .int .u8 0, .int .u8 0, .int .u8 0, .int .u8 0, .int .u8 0, .int .u8 0, .int .u8 0, .int .u8 0, .int .u8 0, .int .u8 0, .int .u8 0, .int .u8 0, .int .u8 0, .int .u8 0, .int .u8 0, .int .u8 0, .int .u8 0, .int .u8 0, .int .u8 0, .int .u8 0, .int .u8 0, .int .u8 0, .int .u8 0, .int .u8 0, .int .u8 0, .int .u8 0, .int .u8 0, .int .u8 0, .int .u8 0, .int .u8 0, .int .u8 0, .int .u8 0, .int .u8 0, .int .u8 0, .int .u8 0, .int .u8 0, .int .u8 0, .int .u8 0, .int .u8 0, .int .u8 0, .int .u8 0, .int .u8 0]), 65, 65) from by kernel_rfl)
  exact ⟨Tryd.underlying218, inf, _, h1, h2, rfl, h3, h4, rfl⟩
def T : Tab := findT [(2, ti2), (3, ti3), (4, ti4), (5, ti5), (9, ti9), (23, ti23), (24, ti24), (35, ti35), (41, ti41), (48, ti48), (55, ti55), (56, ti56), (58, ti58), (64, ti64), (67, ti67), (69, ti69), (77, ti77), (91, ti91), (93, ti93), (94, ti94), (96, ti96), (100, ti100), (101, ti101), (104, ti104), (118, ti118), (120, ti120), (123, ti123), (129, ti129), (130, ti130), (134, ti134), (144, ti144), (146, ti146), (192, ti192), (199, ti199), (200, ti200), (209, ti209), (217, ti217), (218, ti218)]
theorem T_ok : T.Ok Tryd.prog := findT_ok (.cons tok2 (.cons tok3 (.cons tok4 (.cons tok5 (.cons tok9 (.cons tok23 (.cons tok24 (.cons tok35 (.cons tok41 (.cons tok48 (.cons tok55 (.cons tok56 (.cons tok58 (.cons tok64 (.cons tok67 (.cons tok69 (.cons tok77 (.cons tok91 (.cons tok93 (.cons tok94 (.cons tok96 (.cons tok100 (.cons tok101 (.cons tok104 (.cons tok118 (.cons tok120 (.cons tok123 (.cons tok129 (.cons tok130 (.cons tok134 (.cons tok144 (.cons tok146 (.cons tok192 (.cons tok199 (.cons tok200 (.cons tok209 (.cons tok217 (.cons tok218 (.nil)))))))))))))))))))))))))))))))))))))))
end Go.Proofs.YtfhodppaelfcfaaDoor
