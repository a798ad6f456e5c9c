/- The types that the functions use, in a table; each row is proved. No statement of its own. -/
import Derived.Test.YtajgpiplndfoeaaDoorProg
import Derived.Test.YtajgpiplndfoeaaDoorVf
set_option maxRecDepth 100000
namespace Go.Proofs.YtajgpiplndfoeaaDoor
open Go.RowKit

def ti3 : TI := ⟨.int .i64, 1, 8, [.int .i64 0]⟩
theorem tok3 : TOk Tryd.prog 3 ti3 := by
  obtain ⟨inf, h1, h2, h3, h4⟩ := info_parts (show (Tryd.prog.info? 3).map (fun i => (i.zero, i.size, i.bytes)) = some (some (.int .i64 0), 1, 8) from by kernel_rfl)
  exact ⟨Tryd.underlying3, inf, _, h1, h2, rfl, h3, h4, rfl⟩
def ti4 : TI := ⟨.bool, 1, 1, [.bool false]⟩
theorem tok4 : TOk Tryd.prog 4 ti4 := by
  obtain ⟨inf, h1, h2, h3, h4⟩ := info_parts (show (Tryd.prog.info? 4).map (fun i => (i.zero, i.size, i.bytes)) = some (some (.bool false), 1, 1) from by kernel_rfl)
  exact ⟨Tryd.underlying4, inf, _, h1, h2, rfl, h3, h4, rfl⟩
def ti5 : TI := ⟨.int .u8, 1, 1, [.int .u8 0]⟩
theorem tok5 : TOk Tryd.prog 5 ti5 := by
  obtain ⟨inf, h1, h2, h3, h4⟩ := info_parts (show (Tryd.prog.info? 5).map (fun i => (i.zero, i.size, i.bytes)) = some (some (.int .u8 0), 1, 1) from by kernel_rfl)
  exact ⟨Tryd.underlying5, inf, _, h1, h2, rfl, h3, h4, rfl⟩
def ti9 : TI := ⟨.string, 1, 16, [.string ⟨#[]⟩]⟩
theorem tok9 : TOk Tryd.prog 9 ti9 := by
  obtain ⟨inf, h1, h2, h3, h4⟩ := info_parts (show (Tryd.prog.info? 9).map (fun i => (i.zero, i.size, i.bytes)) = some (some (.string ⟨#[]⟩), 1, 16) from by kernel_rfl)
  exact ⟨Tryd.underlying9, inf, _, h1, h2, rfl, h3, h4, rfl⟩
def ti23 : TI := ⟨.slice 104, 1, 24, [.slice none 0 0]⟩
theorem tok23 : TOk Tryd.prog 23 ti23 := by
  obtain ⟨inf, h1, h2, h3, h4⟩ := info_parts (show (Tryd.prog.info? 23).map (fun i => (i.zero, i.size, i.bytes)) = some (some (.slice none 0 0), 1, 24) from by kernel_rfl)
  exact ⟨Tryd.underlying23, inf, _, h1, h2, rfl, h3, h4, rfl⟩
def ti24 : TI := ⟨.int .i64, 1, 8, [.int .i64 0]⟩
theorem tok24 : TOk Tryd.prog 24 ti24 := by
  obtain ⟨inf, h1, h2, h3, h4⟩ := info_parts (show (Tryd.prog.info? 24).map (fun i => (i.zero, i.size, i.bytes)) = some (some (.int .i64 0), 1, 8) from by kernel_rfl)
  exact ⟨Tryd.underlying24, inf, _, h1, h2, rfl, h3, h4, rfl⟩
def ti35 : TI := ⟨.slice 120, 1, 24, [.slice none 0 0]⟩
theorem tok35 : TOk Tryd.prog 35 ti35 := by
  obtain ⟨inf, h1, h2, h3, h4⟩ := info_parts (show (Tryd.prog.info? 35).map (fun i => (i.zero, i.size, i.bytes)) = some (some (.slice none 0 0), 1, 24) from by kernel_rfl)
  exact ⟨Tryd.underlying35, inf, _, h1, h2, rfl, h3, h4, rfl⟩
def ti42 : TI := ⟨.slice 9, 1, 24, [.slice none 0 0]⟩
theorem tok42 : TOk Tryd.prog 42 ti42 := by
  obtain ⟨inf, h1, h2, h3, h4⟩ := info_parts (show (Tryd.prog.info? 42).map (fun i => (i.zero, i.size, i.bytes)) = some (some (.slice none 0 0), 1, 24) from by kernel_rfl)
  exact ⟨Tryd.underlying42, inf, _, h1, h2, rfl, h3, h4, rfl⟩
def ti65 : TI := ⟨.int .i64, 1, 8, [.int .i64 0]⟩
theorem tok65 : TOk Tryd.prog 65 ti65 := by
  obtain ⟨inf, h1, h2, h3, h4⟩ := info_parts (show (Tryd.prog.info? 65).map (fun i => (i.zero, i.size, i.bytes)) = some (some (.int .i64 0), 1, 8) from by kernel_rfl)
  exact ⟨Tryd.underlying65, inf, _, h1, h2, rfl, h3, h4, rfl⟩
def ti66 : TI := ⟨.slice 94, 1, 24, [.slice none 0 0]⟩
theorem tok66 : TOk Tryd.prog 66 ti66 := by
  obtain ⟨inf, h1, h2, h3, h4⟩ := info_parts (show (Tryd.prog.info? 66).map (fun i => (i.zero, i.size, i.bytes)) = some (some (.slice none 0 0), 1, 24) from by kernel_rfl)
  exact ⟨Tryd.underlying66, inf, _, h1, h2, rfl, h3, h4, rfl⟩
def ti68 : TI := ⟨.struct #[{ name := "Kind", type := 65, offset := 0, embedded := false, tag := "", pkgPath := "", byteOffset := 0 }, { name := "Method", type := 9, offset := 1, embedded := false, tag := "", pkgPath := "", byteOffset := 8 }, { name := "Target", type := 9, offset := 2, embedded := false, tag := "", pkgPath := "", byteOffset := 24 }, { name := "Code", type := 3, offset := 3, embedded := false, tag := "", pkgPath := "", byteOffset := 40 }, { name := "Reason", type := 9, offset := 4, embedded := false, tag := "", pkgPath := "", byteOffset := 48 }, { name := "Minor", type := 3, offset := 5, embedded := false, tag := "", pkgPath := "", byteOffset := 64 }, { name := "Fields", type := 66, offset := 6, embedded := false, tag := "", pkgPath := "", byteOffset := 72 }], 7, 96, [.int .i64 0, .string ⟨#[]⟩, .string ⟨#[]⟩, .int .i64 0, .string ⟨#[]⟩, .int .i64 0, .slice none 0 0]⟩
theorem tok68 : TOk Tryd.prog 68 ti68 := by
  obtain ⟨inf, h1, h2, h3, h4⟩ := info_parts (show (Tryd.prog.info? 68).map (fun i => (i.zero, i.size, i.bytes)) = some (some (.agg #[.int .i64 0, .string ⟨#[]⟩, .string ⟨#[]⟩, .int .i64 0, .string ⟨#[]⟩, .int .i64 0, .slice none 0 0]), 7, 96) from by kernel_rfl)
  exact ⟨Tryd.underlying68, inf, _, h1, h2, rfl, h3, h4, rfl⟩
def ti70 : TI := ⟨.int .i64, 1, 8, [.int .i64 0]⟩
theorem tok70 : TOk Tryd.prog 70 ti70 := by
  obtain ⟨inf, h1, h2, h3, h4⟩ := info_parts (show (Tryd.prog.info? 70).map (fun i => (i.zero, i.size, i.bytes)) = some (some (.int .i64 0), 1, 8) from by kernel_rfl)
  exact ⟨Tryd.underlying70, inf, _, h1, h2, rfl, h3, h4, rfl⟩
def ti72 : TI := ⟨.struct #[{ name := "Kind", type := 70, offset := 0, embedded := false, tag := "", pkgPath := "", byteOffset := 0 }, { name := "N", type := 3, offset := 1, embedded := false, tag := "", pkgPath := "", byteOffset := 8 }], 2, 16, [.int .i64 0, .int .i64 0]⟩
theorem tok72 : TOk Tryd.prog 72 ti72 := by
  obtain ⟨inf, h1, h2, h3, h4⟩ := info_parts (show (Tryd.prog.info? 72).map (fun i => (i.zero, i.size, i.bytes)) = some (some (.agg #[.int .i64 0, .int .i64 0]), 2, 16) from by kernel_rfl)
  exact ⟨Tryd.underlying72, inf, _, h1, h2, rfl, h3, h4, rfl⟩
def ti81 : TI := ⟨.struct #[{ name := "Method", type := 9, offset := 0, embedded := false, tag := "", pkgPath := "", byteOffset := 0 }, { name := "Minor", type := 3, offset := 1, embedded := false, tag := "", pkgPath := "", byteOffset := 16 }, { name := "Close", type := 4, offset := 2, embedded := false, tag := "", pkgPath := "", byteOffset := 24 }], 3, 32, [.string ⟨#[]⟩, .int .i64 0, .bool false]⟩
theorem tok81 : TOk Tryd.prog 81 ti81 := by
  obtain ⟨inf, h1, h2, h3, h4⟩ := info_parts (show (Tryd.prog.info? 81).map (fun i => (i.zero, i.size, i.bytes)) = some (some (.agg #[.string ⟨#[]⟩, .int .i64 0, .bool false]), 3, 32) from by kernel_rfl)
  exact ⟨Tryd.underlying81, inf, _, h1, h2, rfl, h3, h4, rfl⟩
def ti83 : TI := ⟨.pointer 143, 1, 8, [.pointer none]⟩
theorem tok83 : TOk Tryd.prog 83 ti83 := by
  obtain ⟨inf, h1, h2, h3, h4⟩ := info_parts (show (Tryd.prog.info? 83).map (fun i => (i.zero, i.size, i.bytes)) = some (some (.pointer none), 1, 8) from by kernel_rfl)
  exact ⟨Tryd.underlying83, inf, _, h1, h2, rfl, h3, h4, rfl⟩
def ti90 : TI := ⟨.struct #[{ name := "Kind", type := 5, offset := 0, embedded := false, tag := "", pkgPath := "", byteOffset := 0 }, { name := "Name", type := 9, offset := 1, embedded := false, tag := "", pkgPath := "", byteOffset := 8 }, { name := "Value", type := 9, offset := 2, embedded := false, tag := "", pkgPath := "", byteOffset := 24 }], 3, 40, [.int .u8 0, .string ⟨#[]⟩, .string ⟨#[]⟩]⟩
theorem tok90 : TOk Tryd.prog 90 ti90 := by
  obtain ⟨inf, h1, h2, h3, h4⟩ := info_parts (show (Tryd.prog.info? 90).map (fun i => (i.zero, i.size, i.bytes)) = some (some (.agg #[.int .u8 0, .string ⟨#[]⟩, .string ⟨#[]⟩]), 3, 40) from by kernel_rfl)
  exact ⟨Tryd.underlying90, inf, _, h1, h2, rfl, h3, h4, rfl⟩
def ti91 : TI := ⟨.pointer 150, 1, 8, [.pointer none]⟩
theorem tok91 : TOk Tryd.prog 91 ti91 := by
  obtain ⟨inf, h1, h2, h3, h4⟩ := info_parts (show (Tryd.prog.info? 91).map (fun i => (i.zero, i.size, i.bytes)) = some (some (.pointer none), 1, 8) from by kernel_rfl)
  exact ⟨Tryd.underlying91, inf, _, h1, h2, rfl, h3, h4, rfl⟩
def ti94 : TI := ⟨.struct #[{ name := "Name", type := 9, offset := 0, embedded := false, tag := "", pkgPath := "", byteOffset := 0 }, { name := "Value", type := 9, offset := 1, embedded := false, tag := "", pkgPath := "", byteOffset := 16 }], 2, 32, [.string ⟨#[]⟩, .string ⟨#[]⟩]⟩
theorem tok94 : TOk Tryd.prog 94 ti94 := by
  obtain ⟨inf, h1, h2, h3, h4⟩ := info_parts (show (Tryd.prog.info? 94).map (fun i => (i.zero, i.size, i.bytes)) = some (some (.agg #[.string ⟨#[]⟩, .string ⟨#[]⟩]), 2, 32) from by kernel_rfl)
  exact ⟨Tryd.underlying94, inf, _, h1, h2, rfl, h3, h4, rfl⟩
def ti104 : TI := ⟨.struct #[{ name := "Name", type := 9, offset := 0, embedded := false, tag := "", pkgPath := "", byteOffset := 0 }, { name := "Value", type := 9, offset := 1, embedded := false, tag := "", pkgPath := "", byteOffset := 16 }, { name := "Has", type := 4, offset := 2, embedded := false, tag := "", pkgPath := "", byteOffset := 32 }], 3, 40, [.string ⟨#[]⟩, .string ⟨#[]⟩, .bool false]⟩
theorem tok104 : TOk Tryd.prog 104 ti104 := by
  obtain ⟨inf, h1, h2, h3, h4⟩ := info_parts (show (Tryd.prog.info? 104).map (fun i => (i.zero, i.size, i.bytes)) = some (some (.agg #[.string ⟨#[]⟩, .string ⟨#[]⟩, .bool false]), 3, 40) from by kernel_rfl)
  exact ⟨Tryd.underlying104, inf, _, h1, h2, rfl, h3, h4, rfl⟩
def ti105 : TI := ⟨.pointer 157, 1, 8, [.pointer none]⟩
theorem tok105 : TOk Tryd.prog 105 ti105 := by
  obtain ⟨inf, h1, h2, h3, h4⟩ := info_parts (show (Tryd.prog.info? 105).map (fun i => (i.zero, i.size, i.bytes)) = some (some (.pointer none), 1, 8) from by kernel_rfl)
  exact ⟨Tryd.underlying105, inf, _, h1, h2, rfl, h3, h4, rfl⟩
def ti108 : TI := ⟨.struct #[{ name := "Scanner", type := 105, offset := 0, embedded := true, tag := "", pkgPath := "", byteOffset := 0 }], 1, 8, [.pointer none]⟩
theorem tok108 : TOk Tryd.prog 108 ti108 := by
  obtain ⟨inf, h1, h2, h3, h4⟩ := info_parts (show (Tryd.prog.info? 108).map (fun i => (i.zero, i.size, i.bytes)) = some (some (.agg #[.pointer none]), 1, 8) from by kernel_rfl)
  exact ⟨Tryd.underlying108, inf, _, h1, h2, rfl, h3, h4, rfl⟩
def ti118 : TI := ⟨.int .i64, 1, 8, [.int .i64 0]⟩
theorem tok118 : TOk Tryd.prog 118 ti118 := by
  obtain ⟨inf, h1, h2, h3, h4⟩ := info_parts (show (Tryd.prog.info? 118).map (fun i => (i.zero, i.size, i.bytes)) = some (some (.int .i64 0), 1, 8) from by kernel_rfl)
  exact ⟨Tryd.underlying118, inf, _, h1, h2, rfl, h3, h4, rfl⟩
def ti120 : TI := ⟨.struct #[{ name := "Kind", type := 118, offset := 0, embedded := false, tag := "", pkgPath := "", byteOffset := 0 }, { name := "Text", type := 9, offset := 1, embedded := false, tag := "", pkgPath := "", byteOffset := 8 }], 2, 24, [.int .i64 0, .string ⟨#[]⟩]⟩
theorem tok120 : TOk Tryd.prog 120 ti120 := by
  obtain ⟨inf, h1, h2, h3, h4⟩ := info_parts (show (Tryd.prog.info? 120).map (fun i => (i.zero, i.size, i.bytes)) = some (some (.agg #[.int .i64 0, .string ⟨#[]⟩]), 2, 24) from by kernel_rfl)
  exact ⟨Tryd.underlying120, inf, _, h1, h2, rfl, h3, h4, rfl⟩
def ti123 : TI := ⟨.struct #[{ name := "Scanner", type := 105, offset := 0, embedded := true, tag := "", pkgPath := "", byteOffset := 0 }, { name := "out", type := 35, offset := 1, embedded := false, tag := "", pkgPath := "doorstep/tmpl", byteOffset := 8 }], 2, 32, [.pointer none, .slice none 0 0]⟩
theorem tok123 : TOk Tryd.prog 123 ti123 := by
  obtain ⟨inf, h1, h2, h3, h4⟩ := info_parts (show (Tryd.prog.info? 123).map (fun i => (i.zero, i.size, i.bytes)) = some (some (.agg #[.pointer none, .slice none 0 0]), 2, 32) from by kernel_rfl)
  exact ⟨Tryd.underlying123, inf, _, h1, h2, rfl, h3, h4, rfl⟩
def ti130 : TI := ⟨.struct #[{ name := "Scanner", type := 105, offset := 0, embedded := true, tag := "", pkgPath := "", byteOffset := 0 }, { name := "out", type := 42, offset := 1, embedded := false, tag := "", pkgPath := "doorstep/commas", byteOffset := 8 }, { name := "from", type := 3, offset := 2, embedded := false, tag := "", pkgPath := "doorstep/commas", byteOffset := 32 }, { name := "s", type := 9, offset := 3, embedded := false, tag := "", pkgPath := "doorstep/commas", byteOffset := 40 }], 4, 56, [.pointer none, .slice none 0 0, .int .i64 0, .string ⟨#[]⟩]⟩
theorem tok130 : TOk Tryd.prog 130 ti130 := by
  obtain ⟨inf, h1, h2, h3, h4⟩ := info_parts (show (Tryd.prog.info? 130).map (fun i => (i.zero, i.size, i.bytes)) = some (some (.agg #[.pointer none, .slice none 0 0, .int .i64 0, .string ⟨#[]⟩]), 4, 56) from by kernel_rfl)
  exact ⟨Tryd.underlying130, inf, _, h1, h2, rfl, h3, h4, rfl⟩
def ti135 : TI := ⟨.slice 3, 1, 24, [.slice none 0 0]⟩
theorem tok135 : TOk Tryd.prog 135 ti135 := by
  obtain ⟨inf, h1, h2, h3, h4⟩ := info_parts (show (Tryd.prog.info? 135).map (fun i => (i.zero, i.size, i.bytes)) = some (some (.slice none 0 0), 1, 24) from by kernel_rfl)
  exact ⟨Tryd.underlying135, inf, _, h1, h2, rfl, h3, h4, rfl⟩
def ti139 : TI := ⟨.slice 81, 1, 24, [.slice none 0 0]⟩
theorem tok139 : TOk Tryd.prog 139 ti139 := by
  obtain ⟨inf, h1, h2, h3, h4⟩ := info_parts (show (Tryd.prog.info? 139).map (fun i => (i.zero, i.size, i.bytes)) = some (some (.slice none 0 0), 1, 24) from by kernel_rfl)
  exact ⟨Tryd.underlying139, inf, _, h1, h2, rfl, h3, h4, rfl⟩
def ti141 : TI := ⟨.struct #[{ name := "l", type := 139, offset := 0, embedded := false, tag := "", pkgPath := "doorstep/pairing", byteOffset := 0 }, { name := "most", type := 3, offset := 1, embedded := false, tag := "", pkgPath := "doorstep/pairing", byteOffset := 24 }], 2, 32, [.slice none 0 0, .int .i64 0]⟩
theorem tok141 : TOk Tryd.prog 141 ti141 := by
  obtain ⟨inf, h1, h2, h3, h4⟩ := info_parts (show (Tryd.prog.info? 141).map (fun i => (i.zero, i.size, i.bytes)) = some (some (.agg #[.slice none 0 0, .int .i64 0]), 2, 32) from by kernel_rfl)
  exact ⟨Tryd.underlying141, inf, _, h1, h2, rfl, h3, h4, rfl⟩
def ti143 : TI := ⟨.struct #[{ name := "row", type := 141, offset := 0, embedded := true, tag := "", pkgPath := "doorstep/pairing", byteOffset := 0 }, { name := "last", type := 4, offset := 2, embedded := false, tag := "", pkgPath := "doorstep/pairing", byteOffset := 32 }], 3, 40, [.slice none 0 0, .int .i64 0, .bool false]⟩
theorem tok143 : TOk Tryd.prog 143 ti143 := by
  obtain ⟨inf, h1, h2, h3, h4⟩ := info_parts (show (Tryd.prog.info? 143).map (fun i => (i.zero, i.size, i.bytes)) = some (some (.agg #[.slice none 0 0, .int .i64 0, .bool false]), 3, 40) from by kernel_rfl)
  exact ⟨Tryd.underlying143, inf, _, h1, h2, rfl, h3, h4, rfl⟩
def ti150 : TI := ⟨.struct #[{ name := "l", type := 66, offset := 0, embedded := false, tag := "", pkgPath := "doorstep/bag", byteOffset := 0 }], 1, 24, [.slice none 0 0]⟩
theorem tok150 : TOk Tryd.prog 150 ti150 := by
  obtain ⟨inf, h1, h2, h3, h4⟩ := info_parts (show (Tryd.prog.info? 150).map (fun i => (i.zero, i.size, i.bytes)) = some (some (.agg #[.slice none 0 0]), 1, 24) from by kernel_rfl)
  exact ⟨Tryd.underlying150, inf, _, h1, h2, rfl, h3, h4, rfl⟩
def ti157 : TI := ⟨.struct #[{ name := "s", type := 9, offset := 0, embedded := false, tag := "", pkgPath := "doorstep/scan", byteOffset := 0 }, { name := "at", type := 3, offset := 1, embedded := false, tag := "", pkgPath := "doorstep/scan", byteOffset := 16 }], 2, 24, [.string ⟨#[]⟩, .int .i64 0]⟩
theorem tok157 : TOk Tryd.prog 157 ti157 := by
  obtain ⟨inf, h1, h2, h3, h4⟩ := info_parts (show (Tryd.prog.info? 157).map (fun i => (i.zero, i.size, i.bytes)) = some (some (.agg #[.string ⟨#[]⟩, .int .i64 0]), 2, 24) from by kernel_rfl)
  exact ⟨Tryd.underlying157, inf, _, h1, h2, rfl, h3, h4, rfl⟩
def ti181 : TI := ⟨.struct #[{ name := "Bag", type := 91, offset := 0, embedded := true, tag := "", pkgPath := "", byteOffset := 0 }, { name := "minor", type := 3, offset := 1, embedded := false, tag := "", pkgPath := "doorstep/length", byteOffset := 8 }], 2, 16, [.pointer none, .int .i64 0]⟩
theorem tok181 : TOk Tryd.prog 181 ti181 := by
  obtain ⟨inf, h1, h2, h3, h4⟩ := info_parts (show (Tryd.prog.info? 181).map (fun i => (i.zero, i.size, i.bytes)) = some (some (.agg #[.pointer none, .int .i64 0]), 2, 16) from by kernel_rfl)
  exact ⟨Tryd.underlying181, inf, _, h1, h2, rfl, h3, h4, rfl⟩
def ti194 : TI := ⟨.slice 5, 1, 24, [.slice none 0 0]⟩
theorem tok194 : TOk Tryd.prog 194 ti194 := by
  obtain ⟨inf, h1, h2, h3, h4⟩ := info_parts (show (Tryd.prog.info? 194).map (fun i => (i.zero, i.size, i.bytes)) = some (some (.slice none 0 0), 1, 24) from by kernel_rfl)
  exact ⟨Tryd.underlying194, inf, _, h1, h2, rfl, h3, h4, rfl⟩
def ti206 : TI := ⟨.struct #[{ name := "Scanner", type := 105, offset := 0, embedded := true, tag := "", pkgPath := "", byteOffset := 0 }, { name := "out", type := 194, offset := 1, embedded := false, tag := "", pkgPath := "doorstep/quoted", byteOffset := 8 }], 2, 32, [.pointer none, .slice none 0 0]⟩
theorem tok206 : TOk Tryd.prog 206 ti206 := by
  obtain ⟨inf, h1, h2, h3, h4⟩ := info_parts (show (Tryd.prog.info? 206).map (fun i => (i.zero, i.size, i.bytes)) = some (some (.agg #[.pointer none, .slice none 0 0]), 2, 32) from by kernel_rfl)
  exact ⟨Tryd.underlying206, inf, _, h1, h2, rfl, h3, h4, rfl⟩
def T : Tab := findT [(3, ti3), (4, ti4), (5, ti5), (9, ti9), (23, ti23), (24, ti24), (35, ti35), (42, ti42), (65, ti65), (66, ti66), (68, ti68), (70, ti70), (72, ti72), (81, ti81), (83, ti83), (90, ti90), (91, ti91), (94, ti94), (104, ti104), (105, ti105), (108, ti108), (118, ti118), (120, ti120), (123, ti123), (130, ti130), (135, ti135), (139, ti139), (141, ti141), (143, ti143), (150, ti150), (157, ti157), (181, ti181), (194, ti194), (206, ti206)]
theorem T_ok : T.Ok Tryd.prog := findT_ok (.cons tok3 (.cons tok4 (.cons tok5 (.cons tok9 (.cons tok23 (.cons tok24 (.cons tok35 (.cons tok42 (.cons tok65 (.cons tok66 (.cons tok68 (.cons tok70 (.cons tok72 (.cons tok81 (.cons tok83 (.cons tok90 (.cons tok91 (.cons tok94 (.cons tok104 (.cons tok105 (.cons tok108 (.cons tok118 (.cons tok120 (.cons tok123 (.cons tok130 (.cons tok135 (.cons tok139 (.cons tok141 (.cons tok143 (.cons tok150 (.cons tok157 (.cons tok181 (.cons tok194 (.cons tok206 (.nil)))))))))))))))))))))))))))))))))))
end Go.Proofs.YtajgpiplndfoeaaDoor
