/- The types that the functions use, in a table; each row is proved. No statement of its own. -/
import Derived.Test.YtopmflkeohicjaaDoorProg
import Derived.Test.YtopmflkeohicjaaDoorVf
set_option maxRecDepth 100000
namespace Go.Proofs.YtopmflkeohicjaaDoor
open Go.RowKit

def ti3 : TI := ⟨.int .i64, 1, 8, [.int .i64 0]⟩
theorem tok3 : TOk Tryd.prog 3 ti3 := by
  obtain ⟨inf, h1, h2, h3, h4⟩ := info_parts (show (Tryd.prog.info? 3).map (fun i => (i.zero, i.size, i.bytes)) = some (some (.int .i64 0), 1, 8) from by kernel_rfl)
  exact ⟨Tryd.underlying3, inf, _, h1, h2, rfl, h3, h4, rfl⟩
def ti4 : TI := ⟨.bool, 1, 1, [.bool false]⟩
theorem tok4 : TOk Tryd.prog 4 ti4 := by
  obtain ⟨inf, h1, h2, h3, h4⟩ := info_parts (show (Tryd.prog.info? 4).map (fun i => (i.zero, i.size, i.bytes)) = some (some (.bool false), 1, 1) from by kernel_rfl)
  exact ⟨Tryd.underlying4, inf, _, h1, h2, rfl, h3, h4, rfl⟩
def ti5 : TI := ⟨.int .u8, 1, 1, [.int .u8 0]⟩
theorem tok5 : TOk Tryd.prog 5 ti5 := by
  obtain ⟨inf, h1, h2, h3, h4⟩ := info_parts (show (Tryd.prog.info? 5).map (fun i => (i.zero, i.size, i.bytes)) = some (some (.int .u8 0), 1, 1) from by kernel_rfl)
  exact ⟨Tryd.underlying5, inf, _, h1, h2, rfl, h3, h4, rfl⟩
def ti9 : TI := ⟨.string, 1, 16, [.string ⟨#[]⟩]⟩
theorem tok9 : TOk Tryd.prog 9 ti9 := by
  obtain ⟨inf, h1, h2, h3, h4⟩ := info_parts (show (Tryd.prog.info? 9).map (fun i => (i.zero, i.size, i.bytes)) = some (some (.string ⟨#[]⟩), 1, 16) from by kernel_rfl)
  exact ⟨Tryd.underlying9, inf, _, h1, h2, rfl, h3, h4, rfl⟩
def ti23 : TI := ⟨.slice 98, 1, 24, [.slice none 0 0]⟩
theorem tok23 : TOk Tryd.prog 23 ti23 := by
  obtain ⟨inf, h1, h2, h3, h4⟩ := info_parts (show (Tryd.prog.info? 23).map (fun i => (i.zero, i.size, i.bytes)) = some (some (.slice none 0 0), 1, 24) from by kernel_rfl)
  exact ⟨Tryd.underlying23, inf, _, h1, h2, rfl, h3, h4, rfl⟩
def ti24 : TI := ⟨.int .i64, 1, 8, [.int .i64 0]⟩
theorem tok24 : TOk Tryd.prog 24 ti24 := by
  obtain ⟨inf, h1, h2, h3, h4⟩ := info_parts (show (Tryd.prog.info? 24).map (fun i => (i.zero, i.size, i.bytes)) = some (some (.int .i64 0), 1, 8) from by kernel_rfl)
  exact ⟨Tryd.underlying24, inf, _, h1, h2, rfl, h3, h4, rfl⟩
def ti35 : TI := ⟨.slice 75, 1, 24, [.slice none 0 0]⟩
theorem tok35 : TOk Tryd.prog 35 ti35 := by
  obtain ⟨inf, h1, h2, h3, h4⟩ := info_parts (show (Tryd.prog.info? 35).map (fun i => (i.zero, i.size, i.bytes)) = some (some (.slice none 0 0), 1, 24) from by kernel_rfl)
  exact ⟨Tryd.underlying35, inf, _, h1, h2, rfl, h3, h4, rfl⟩
def ti41 : TI := ⟨.int .i64, 1, 8, [.int .i64 0]⟩
theorem tok41 : TOk Tryd.prog 41 ti41 := by
  obtain ⟨inf, h1, h2, h3, h4⟩ := info_parts (show (Tryd.prog.info? 41).map (fun i => (i.zero, i.size, i.bytes)) = some (some (.int .i64 0), 1, 8) from by kernel_rfl)
  exact ⟨Tryd.underlying41, inf, _, h1, h2, rfl, h3, h4, rfl⟩
def ti43 : TI := ⟨.struct #[{ name := "Kind", type := 41, offset := 0, embedded := false, tag := "", pkgPath := "", byteOffset := 0 }, { name := "Method", type := 9, offset := 1, embedded := false, tag := "", pkgPath := "", byteOffset := 8 }, { name := "Target", type := 9, offset := 2, embedded := false, tag := "", pkgPath := "", byteOffset := 24 }, { name := "Code", type := 3, offset := 3, embedded := false, tag := "", pkgPath := "", byteOffset := 40 }, { name := "Reason", type := 9, offset := 4, embedded := false, tag := "", pkgPath := "", byteOffset := 48 }, { name := "Minor", type := 3, offset := 5, embedded := false, tag := "", pkgPath := "", byteOffset := 64 }, { name := "Fields", type := 35, offset := 6, embedded := false, tag := "", pkgPath := "", byteOffset := 72 }], 7, 96, [.int .i64 0, .string ⟨#[]⟩, .string ⟨#[]⟩, .int .i64 0, .string ⟨#[]⟩, .int .i64 0, .slice none 0 0]⟩
theorem tok43 : TOk Tryd.prog 43 ti43 := by
  obtain ⟨inf, h1, h2, h3, h4⟩ := info_parts (show (Tryd.prog.info? 43).map (fun i => (i.zero, i.size, i.bytes)) = some (some (.agg #[.int .i64 0, .string ⟨#[]⟩, .string ⟨#[]⟩, .int .i64 0, .string ⟨#[]⟩, .int .i64 0, .slice none 0 0]), 7, 96) from by kernel_rfl)
  exact ⟨Tryd.underlying43, inf, _, h1, h2, rfl, h3, h4, rfl⟩
def ti45 : TI := ⟨.int .i64, 1, 8, [.int .i64 0]⟩
theorem tok45 : TOk Tryd.prog 45 ti45 := by
  obtain ⟨inf, h1, h2, h3, h4⟩ := info_parts (show (Tryd.prog.info? 45).map (fun i => (i.zero, i.size, i.bytes)) = some (some (.int .i64 0), 1, 8) from by kernel_rfl)
  exact ⟨Tryd.underlying45, inf, _, h1, h2, rfl, h3, h4, rfl⟩
def ti47 : TI := ⟨.struct #[{ name := "Kind", type := 45, offset := 0, embedded := false, tag := "", pkgPath := "", byteOffset := 0 }, { name := "N", type := 3, offset := 1, embedded := false, tag := "", pkgPath := "", byteOffset := 8 }], 2, 16, [.int .i64 0, .int .i64 0]⟩
theorem tok47 : TOk Tryd.prog 47 ti47 := by
  obtain ⟨inf, h1, h2, h3, h4⟩ := info_parts (show (Tryd.prog.info? 47).map (fun i => (i.zero, i.size, i.bytes)) = some (some (.agg #[.int .i64 0, .int .i64 0]), 2, 16) from by kernel_rfl)
  exact ⟨Tryd.underlying47, inf, _, h1, h2, rfl, h3, h4, rfl⟩
def ti58 : TI := ⟨.struct #[{ name := "Method", type := 9, offset := 0, embedded := false, tag := "", pkgPath := "", byteOffset := 0 }, { name := "Minor", type := 3, offset := 1, embedded := false, tag := "", pkgPath := "", byteOffset := 16 }, { name := "Close", type := 4, offset := 2, embedded := false, tag := "", pkgPath := "", byteOffset := 24 }], 3, 32, [.string ⟨#[]⟩, .int .i64 0, .bool false]⟩
theorem tok58 : TOk Tryd.prog 58 ti58 := by
  obtain ⟨inf, h1, h2, h3, h4⟩ := info_parts (show (Tryd.prog.info? 58).map (fun i => (i.zero, i.size, i.bytes)) = some (some (.agg #[.string ⟨#[]⟩, .int .i64 0, .bool false]), 3, 32) from by kernel_rfl)
  exact ⟨Tryd.underlying58, inf, _, h1, h2, rfl, h3, h4, rfl⟩
def ti60 : TI := ⟨.pointer 128, 1, 8, [.pointer none]⟩
theorem tok60 : TOk Tryd.prog 60 ti60 := by
  obtain ⟨inf, h1, h2, h3, h4⟩ := info_parts (show (Tryd.prog.info? 60).map (fun i => (i.zero, i.size, i.bytes)) = some (some (.pointer none), 1, 8) from by kernel_rfl)
  exact ⟨Tryd.underlying60, inf, _, h1, h2, rfl, h3, h4, rfl⟩
def ti67 : TI := ⟨.slice 9, 1, 24, [.slice none 0 0]⟩
theorem tok67 : TOk Tryd.prog 67 ti67 := by
  obtain ⟨inf, h1, h2, h3, h4⟩ := info_parts (show (Tryd.prog.info? 67).map (fun i => (i.zero, i.size, i.bytes)) = some (some (.slice none 0 0), 1, 24) from by kernel_rfl)
  exact ⟨Tryd.underlying67, inf, _, h1, h2, rfl, h3, h4, rfl⟩
def ti75 : TI := ⟨.struct #[{ name := "Name", type := 9, offset := 0, embedded := false, tag := "", pkgPath := "", byteOffset := 0 }, { name := "Value", type := 9, offset := 1, embedded := false, tag := "", pkgPath := "", byteOffset := 16 }], 2, 32, [.string ⟨#[]⟩, .string ⟨#[]⟩]⟩
theorem tok75 : TOk Tryd.prog 75 ti75 := by
  obtain ⟨inf, h1, h2, h3, h4⟩ := info_parts (show (Tryd.prog.info? 75).map (fun i => (i.zero, i.size, i.bytes)) = some (some (.agg #[.string ⟨#[]⟩, .string ⟨#[]⟩]), 2, 32) from by kernel_rfl)
  exact ⟨Tryd.underlying75, inf, _, h1, h2, rfl, h3, h4, rfl⟩
def ti78 : TI := ⟨.struct #[{ name := "Kind", type := 5, offset := 0, embedded := false, tag := "", pkgPath := "", byteOffset := 0 }, { name := "Name", type := 9, offset := 1, embedded := false, tag := "", pkgPath := "", byteOffset := 8 }, { name := "Value", type := 9, offset := 2, embedded := false, tag := "", pkgPath := "", byteOffset := 24 }], 3, 40, [.int .u8 0, .string ⟨#[]⟩, .string ⟨#[]⟩]⟩
theorem tok78 : TOk Tryd.prog 78 ti78 := by
  obtain ⟨inf, h1, h2, h3, h4⟩ := info_parts (show (Tryd.prog.info? 78).map (fun i => (i.zero, i.size, i.bytes)) = some (some (.agg #[.int .u8 0, .string ⟨#[]⟩, .string ⟨#[]⟩]), 3, 40) from by kernel_rfl)
  exact ⟨Tryd.underlying78, inf, _, h1, h2, rfl, h3, h4, rfl⟩
def ti79 : TI := ⟨.pointer 137, 1, 8, [.pointer none]⟩
theorem tok79 : TOk Tryd.prog 79 ti79 := by
  obtain ⟨inf, h1, h2, h3, h4⟩ := info_parts (show (Tryd.prog.info? 79).map (fun i => (i.zero, i.size, i.bytes)) = some (some (.pointer none), 1, 8) from by kernel_rfl)
  exact ⟨Tryd.underlying79, inf, _, h1, h2, rfl, h3, h4, rfl⟩
def ti86 : TI := ⟨.slice 78, 1, 24, [.slice none 0 0]⟩
theorem tok86 : TOk Tryd.prog 86 ti86 := by
  obtain ⟨inf, h1, h2, h3, h4⟩ := info_parts (show (Tryd.prog.info? 86).map (fun i => (i.zero, i.size, i.bytes)) = some (some (.slice none 0 0), 1, 24) from by kernel_rfl)
  exact ⟨Tryd.underlying86, inf, _, h1, h2, rfl, h3, h4, rfl⟩
def ti98 : TI := ⟨.struct #[{ name := "Name", type := 9, offset := 0, embedded := false, tag := "", pkgPath := "", byteOffset := 0 }, { name := "Value", type := 9, offset := 1, embedded := false, tag := "", pkgPath := "", byteOffset := 16 }, { name := "Has", type := 4, offset := 2, embedded := false, tag := "", pkgPath := "", byteOffset := 32 }], 3, 40, [.string ⟨#[]⟩, .string ⟨#[]⟩, .bool false]⟩
theorem tok98 : TOk Tryd.prog 98 ti98 := by
  obtain ⟨inf, h1, h2, h3, h4⟩ := info_parts (show (Tryd.prog.info? 98).map (fun i => (i.zero, i.size, i.bytes)) = some (some (.agg #[.string ⟨#[]⟩, .string ⟨#[]⟩, .bool false]), 3, 40) from by kernel_rfl)
  exact ⟨Tryd.underlying98, inf, _, h1, h2, rfl, h3, h4, rfl⟩
def ti99 : TI := ⟨.pointer 146, 1, 8, [.pointer none]⟩
theorem tok99 : TOk Tryd.prog 99 ti99 := by
  obtain ⟨inf, h1, h2, h3, h4⟩ := info_parts (show (Tryd.prog.info? 99).map (fun i => (i.zero, i.size, i.bytes)) = some (some (.pointer none), 1, 8) from by kernel_rfl)
  exact ⟨Tryd.underlying99, inf, _, h1, h2, rfl, h3, h4, rfl⟩
def ti102 : TI := ⟨.struct #[{ name := "Scanner", type := 99, offset := 0, embedded := true, tag := "", pkgPath := "", byteOffset := 0 }], 1, 8, [.pointer none]⟩
theorem tok102 : TOk Tryd.prog 102 ti102 := by
  obtain ⟨inf, h1, h2, h3, h4⟩ := info_parts (show (Tryd.prog.info? 102).map (fun i => (i.zero, i.size, i.bytes)) = some (some (.agg #[.pointer none]), 1, 8) from by kernel_rfl)
  exact ⟨Tryd.underlying102, inf, _, h1, h2, rfl, h3, h4, rfl⟩
def ti119 : TI := ⟨.slice 3, 1, 24, [.slice none 0 0]⟩
theorem tok119 : TOk Tryd.prog 119 ti119 := by
  obtain ⟨inf, h1, h2, h3, h4⟩ := info_parts (show (Tryd.prog.info? 119).map (fun i => (i.zero, i.size, i.bytes)) = some (some (.slice none 0 0), 1, 24) from by kernel_rfl)
  exact ⟨Tryd.underlying119, inf, _, h1, h2, rfl, h3, h4, rfl⟩
def ti124 : TI := ⟨.slice 58, 1, 24, [.slice none 0 0]⟩
theorem tok124 : TOk Tryd.prog 124 ti124 := by
  obtain ⟨inf, h1, h2, h3, h4⟩ := info_parts (show (Tryd.prog.info? 124).map (fun i => (i.zero, i.size, i.bytes)) = some (some (.slice none 0 0), 1, 24) from by kernel_rfl)
  exact ⟨Tryd.underlying124, inf, _, h1, h2, rfl, h3, h4, rfl⟩
def ti126 : TI := ⟨.struct #[{ name := "l", type := 124, offset := 0, embedded := false, tag := "", pkgPath := "doorstep/pairing", byteOffset := 0 }, { name := "most", type := 3, offset := 1, embedded := false, tag := "", pkgPath := "doorstep/pairing", byteOffset := 24 }], 2, 32, [.slice none 0 0, .int .i64 0]⟩
theorem tok126 : TOk Tryd.prog 126 ti126 := by
  obtain ⟨inf, h1, h2, h3, h4⟩ := info_parts (show (Tryd.prog.info? 126).map (fun i => (i.zero, i.size, i.bytes)) = some (some (.agg #[.slice none 0 0, .int .i64 0]), 2, 32) from by kernel_rfl)
  exact ⟨Tryd.underlying126, inf, _, h1, h2, rfl, h3, h4, rfl⟩
def ti128 : TI := ⟨.struct #[{ name := "row", type := 126, offset := 0, embedded := true, tag := "", pkgPath := "doorstep/pairing", byteOffset := 0 }, { name := "last", type := 4, offset := 2, embedded := false, tag := "", pkgPath := "doorstep/pairing", byteOffset := 32 }], 3, 40, [.slice none 0 0, .int .i64 0, .bool false]⟩
theorem tok128 : TOk Tryd.prog 128 ti128 := by
  obtain ⟨inf, h1, h2, h3, h4⟩ := info_parts (show (Tryd.prog.info? 128).map (fun i => (i.zero, i.size, i.bytes)) = some (some (.agg #[.slice none 0 0, .int .i64 0, .bool false]), 3, 40) from by kernel_rfl)
  exact ⟨Tryd.underlying128, inf, _, h1, h2, rfl, h3, h4, rfl⟩
def ti137 : TI := ⟨.struct #[{ name := "l", type := 35, offset := 0, embedded := false, tag := "", pkgPath := "doorstep/bag", byteOffset := 0 }], 1, 24, [.slice none 0 0]⟩
theorem tok137 : TOk Tryd.prog 137 ti137 := by
  obtain ⟨inf, h1, h2, h3, h4⟩ := info_parts (show (Tryd.prog.info? 137).map (fun i => (i.zero, i.size, i.bytes)) = some (some (.agg #[.slice none 0 0]), 1, 24) from by kernel_rfl)
  exact ⟨Tryd.underlying137, inf, _, h1, h2, rfl, h3, h4, rfl⟩
def ti146 : TI := ⟨.struct #[{ name := "s", type := 9, offset := 0, embedded := false, tag := "", pkgPath := "doorstep/scan", byteOffset := 0 }, { name := "at", type := 3, offset := 1, embedded := false, tag := "", pkgPath := "doorstep/scan", byteOffset := 16 }], 2, 24, [.string ⟨#[]⟩, .int .i64 0]⟩
theorem tok146 : TOk Tryd.prog 146 ti146 := by
  obtain ⟨inf, h1, h2, h3, h4⟩ := info_parts (show (Tryd.prog.info? 146).map (fun i => (i.zero, i.size, i.bytes)) = some (some (.agg #[.string ⟨#[]⟩, .int .i64 0]), 2, 24) from by kernel_rfl)
  exact ⟨Tryd.underlying146, inf, _, h1, h2, rfl, h3, h4, rfl⟩
def ti160 : TI := ⟨.struct #[{ name := "Bag", type := 79, offset := 0, embedded := true, tag := "", pkgPath := "", byteOffset := 0 }, { name := "minor", type := 3, offset := 1, embedded := false, tag := "", pkgPath := "doorstep/length", byteOffset := 8 }], 2, 16, [.pointer none, .int .i64 0]⟩
theorem tok160 : TOk Tryd.prog 160 ti160 := by
  obtain ⟨inf, h1, h2, h3, h4⟩ := info_parts (show (Tryd.prog.info? 160).map (fun i => (i.zero, i.size, i.bytes)) = some (some (.agg #[.pointer none, .int .i64 0]), 2, 16) from by kernel_rfl)
  exact ⟨Tryd.underlying160, inf, _, h1, h2, rfl, h3, h4, rfl⟩
def ti167 : TI := ⟨.slice 5, 1, 24, [.slice none 0 0]⟩
theorem tok167 : TOk Tryd.prog 167 ti167 := by
  obtain ⟨inf, h1, h2, h3, h4⟩ := info_parts (show (Tryd.prog.info? 167).map (fun i => (i.zero, i.size, i.bytes)) = some (some (.slice none 0 0), 1, 24) from by kernel_rfl)
  exact ⟨Tryd.underlying167, inf, _, h1, h2, rfl, h3, h4, rfl⟩
def ti187 : TI := ⟨.struct #[{ name := "Scanner", type := 99, offset := 0, embedded := true, tag := "", pkgPath := "", byteOffset := 0 }, { name := "out", type := 67, offset := 1, embedded := false, tag := "", pkgPath := "doorstep/commas", byteOffset := 8 }, { name := "from", type := 3, offset := 2, embedded := false, tag := "", pkgPath := "doorstep/commas", byteOffset := 32 }, { name := "s", type := 9, offset := 3, embedded := false, tag := "", pkgPath := "doorstep/commas", byteOffset := 40 }], 4, 56, [.pointer none, .slice none 0 0, .int .i64 0, .string ⟨#[]⟩]⟩
theorem tok187 : TOk Tryd.prog 187 ti187 := by
  obtain ⟨inf, h1, h2, h3, h4⟩ := info_parts (show (Tryd.prog.info? 187).map (fun i => (i.zero, i.size, i.bytes)) = some (some (.agg #[.pointer none, .slice none 0 0, .int .i64 0, .string ⟨#[]⟩]), 4, 56) from by kernel_rfl)
  exact ⟨Tryd.underlying187, inf, _, h1, h2, rfl, h3, h4, rfl⟩
def ti198 : TI := ⟨.struct #[{ name := "Scanner", type := 99, offset := 0, embedded := true, tag := "", pkgPath := "", byteOffset := 0 }, { name := "out", type := 167, offset := 1, embedded := false, tag := "", pkgPath := "doorstep/quoted", byteOffset := 8 }], 2, 32, [.pointer none, .slice none 0 0]⟩
theorem tok198 : TOk Tryd.prog 198 ti198 := by
  obtain ⟨inf, h1, h2, h3, h4⟩ := info_parts (show (Tryd.prog.info? 198).map (fun i => (i.zero, i.size, i.bytes)) = some (some (.agg #[.pointer none, .slice none 0 0]), 2, 32) from by kernel_rfl)
  exact ⟨Tryd.underlying198, inf, _, h1, h2, rfl, h3, h4, rfl⟩
def T : Tab := findT [(3, ti3), (4, ti4), (5, ti5), (9, ti9), (23, ti23), (24, ti24), (35, ti35), (41, ti41), (43, ti43), (45, ti45), (47, ti47), (58, ti58), (60, ti60), (67, ti67), (75, ti75), (78, ti78), (79, ti79), (86, ti86), (98, ti98), (99, ti99), (102, ti102), (119, ti119), (124, ti124), (126, ti126), (128, ti128), (137, ti137), (146, ti146), (160, ti160), (167, ti167), (187, ti187), (198, ti198)]
theorem T_ok : T.Ok Tryd.prog := findT_ok (.cons tok3 (.cons tok4 (.cons tok5 (.cons tok9 (.cons tok23 (.cons tok24 (.cons tok35 (.cons tok41 (.cons tok43 (.cons tok45 (.cons tok47 (.cons tok58 (.cons tok60 (.cons tok67 (.cons tok75 (.cons tok78 (.cons tok79 (.cons tok86 (.cons tok98 (.cons tok99 (.cons tok102 (.cons tok119 (.cons tok124 (.cons tok126 (.cons tok128 (.cons tok137 (.cons tok146 (.cons tok160 (.cons tok167 (.cons tok187 (.cons tok198 (.nil))))))))))))))))))))))))))))))))
end Go.Proofs.YtopmflkeohicjaaDoor
