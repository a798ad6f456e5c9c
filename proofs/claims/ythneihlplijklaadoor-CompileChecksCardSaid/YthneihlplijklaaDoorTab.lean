/- The types that the functions use, in a table; each row is proved. No statement of its own. -/
import Derived.Test.YthneihlplijklaaDoorProg
import Derived.Test.YthneihlplijklaaDoorVz
set_option linter.unusedSimpArgs false
set_option linter.unusedVariables false
set_option maxRecDepth 100000
namespace Go.Proofs.YthneihlplijklaaDoor
open Go.RowKit

def ti2 : TI := ⟨.int .i64, 1, 8, [.int .i64 0]⟩
theorem tok2 : TOk Tryd.prog 2 ti2 := by
  obtain ⟨inf, h1, h2, h3, h4⟩ := info_parts (show (Tryd.prog.info? 2).map (fun i => (i.zero, i.size, i.bytes)) = some (some (.int .i64 0), 1, 8) from by kernel_rfl)
  exact ⟨Tryd.underlying2, inf, _, h1, h2, rfl, h3, h4, rfl⟩
def ti3 : TI := ⟨.int .i64, 1, 8, [.int .i64 0]⟩
theorem tok3 : TOk Tryd.prog 3 ti3 := by
  obtain ⟨inf, h1, h2, h3, h4⟩ := info_parts (show (Tryd.prog.info? 3).map (fun i => (i.zero, i.size, i.bytes)) = some (some (.int .i64 0), 1, 8) from by kernel_rfl)
  exact ⟨Tryd.underlying3, inf, _, h1, h2, rfl, h3, h4, rfl⟩
def ti4 : TI := ⟨.bool, 1, 1, [.bool false]⟩
theorem tok4 : TOk Tryd.prog 4 ti4 := by
  obtain ⟨inf, h1, h2, h3, h4⟩ := info_parts (show (Tryd.prog.info? 4).map (fun i => (i.zero, i.size, i.bytes)) = some (some (.bool false), 1, 1) from by kernel_rfl)
  exact ⟨Tryd.underlying4, inf, _, h1, h2, rfl, h3, h4, rfl⟩
def ti5 : TI := ⟨.int .u8, 1, 1, [.int .u8 0]⟩
theorem tok5 : TOk Tryd.prog 5 ti5 := by
  obtain ⟨inf, h1, h2, h3, h4⟩ := info_parts (show (Tryd.prog.info? 5).map (fun i => (i.zero, i.size, i.bytes)) = some (some (.int .u8 0), 1, 1) from by kernel_rfl)
  exact ⟨Tryd.underlying5, inf, _, h1, h2, rfl, h3, h4, rfl⟩
def ti9 : TI := ⟨.string, 1, 16, [.string ⟨#[]⟩]⟩
theorem tok9 : TOk Tryd.prog 9 ti9 := by
  obtain ⟨inf, h1, h2, h3, h4⟩ := info_parts (show (Tryd.prog.info? 9).map (fun i => (i.zero, i.size, i.bytes)) = some (some (.string ⟨#[]⟩), 1, 16) from by kernel_rfl)
  exact ⟨Tryd.underlying9, inf, _, h1, h2, rfl, h3, h4, rfl⟩
def ti22 : TI := ⟨.int .i64, 1, 8, [.int .i64 0]⟩
theorem tok22 : TOk Tryd.prog 22 ti22 := by
  obtain ⟨inf, h1, h2, h3, h4⟩ := info_parts (show (Tryd.prog.info? 22).map (fun i => (i.zero, i.size, i.bytes)) = some (some (.int .i64 0), 1, 8) from by kernel_rfl)
  exact ⟨Tryd.underlying22, inf, _, h1, h2, rfl, h3, h4, rfl⟩
def ti23 : TI := ⟨.slice 36, 1, 24, [.slice none 0 0]⟩
theorem tok23 : TOk Tryd.prog 23 ti23 := by
  obtain ⟨inf, h1, h2, h3, h4⟩ := info_parts (show (Tryd.prog.info? 23).map (fun i => (i.zero, i.size, i.bytes)) = some (some (.slice none 0 0), 1, 24) from by kernel_rfl)
  exact ⟨Tryd.underlying23, inf, _, h1, h2, rfl, h3, h4, rfl⟩
def ti26 : TI := ⟨.slice 39, 1, 24, [.slice none 0 0]⟩
theorem tok26 : TOk Tryd.prog 26 ti26 := by
  obtain ⟨inf, h1, h2, h3, h4⟩ := info_parts (show (Tryd.prog.info? 26).map (fun i => (i.zero, i.size, i.bytes)) = some (some (.slice none 0 0), 1, 24) from by kernel_rfl)
  exact ⟨Tryd.underlying26, inf, _, h1, h2, rfl, h3, h4, rfl⟩
def ti27 : TI := ⟨.int .i64, 1, 8, [.int .i64 0]⟩
theorem tok27 : TOk Tryd.prog 27 ti27 := by
  obtain ⟨inf, h1, h2, h3, h4⟩ := info_parts (show (Tryd.prog.info? 27).map (fun i => (i.zero, i.size, i.bytes)) = some (some (.int .i64 0), 1, 8) from by kernel_rfl)
  exact ⟨Tryd.underlying27, inf, _, h1, h2, rfl, h3, h4, rfl⟩
def ti30 : TI := ⟨.int .i64, 1, 8, [.int .i64 0]⟩
theorem tok30 : TOk Tryd.prog 30 ti30 := by
  obtain ⟨inf, h1, h2, h3, h4⟩ := info_parts (show (Tryd.prog.info? 30).map (fun i => (i.zero, i.size, i.bytes)) = some (some (.int .i64 0), 1, 8) from by kernel_rfl)
  exact ⟨Tryd.underlying30, inf, _, h1, h2, rfl, h3, h4, rfl⟩
def ti32 : TI := ⟨.struct #[{ name := "Kind", type := 30, offset := 0, embedded := false, tag := "", pkgPath := "", byteOffset := 0 }, { name := "Name", type := 9, offset := 1, embedded := false, tag := "", pkgPath := "", byteOffset := 8 }, { name := "Value", type := 9, offset := 2, embedded := false, tag := "", pkgPath := "", byteOffset := 24 }], 3, 40, [.int .i64 0, .string ⟨#[]⟩, .string ⟨#[]⟩]⟩
theorem tok32 : TOk Tryd.prog 32 ti32 := by
  obtain ⟨inf, h1, h2, h3, h4⟩ := info_parts (show (Tryd.prog.info? 32).map (fun i => (i.zero, i.size, i.bytes)) = some (some (.agg #[.int .i64 0, .string ⟨#[]⟩, .string ⟨#[]⟩]), 3, 40) from by kernel_rfl)
  exact ⟨Tryd.underlying32, inf, _, h1, h2, rfl, h3, h4, rfl⟩
def ti33 : TI := ⟨.int .i64, 1, 8, [.int .i64 0]⟩
theorem tok33 : TOk Tryd.prog 33 ti33 := by
  obtain ⟨inf, h1, h2, h3, h4⟩ := info_parts (show (Tryd.prog.info? 33).map (fun i => (i.zero, i.size, i.bytes)) = some (some (.int .i64 0), 1, 8) from by kernel_rfl)
  exact ⟨Tryd.underlying33, inf, _, h1, h2, rfl, h3, h4, rfl⟩
def ti34 : TI := ⟨.slice 116, 1, 24, [.slice none 0 0]⟩
theorem tok34 : TOk Tryd.prog 34 ti34 := by
  obtain ⟨inf, h1, h2, h3, h4⟩ := info_parts (show (Tryd.prog.info? 34).map (fun i => (i.zero, i.size, i.bytes)) = some (some (.slice none 0 0), 1, 24) from by kernel_rfl)
  exact ⟨Tryd.underlying34, inf, _, h1, h2, rfl, h3, h4, rfl⟩
def ti36 : TI := ⟨.struct #[{ name := "Side", type := 22, offset := 0, embedded := false, tag := "", pkgPath := "", byteOffset := 0 }, { name := "Guard", type := 32, offset := 1, embedded := false, tag := "", pkgPath := "", byteOffset := 8 }, { name := "Kind", type := 33, offset := 4, embedded := false, tag := "", pkgPath := "", byteOffset := 48 }, { name := "Name", type := 9, offset := 5, embedded := false, tag := "", pkgPath := "", byteOffset := 56 }, { name := "To", type := 9, offset := 6, embedded := false, tag := "", pkgPath := "", byteOffset := 72 }, { name := "Parts", type := 34, offset := 7, embedded := false, tag := "", pkgPath := "", byteOffset := 88 }], 8, 112, [.int .i64 0, .int .i64 0, .string ⟨#[]⟩, .string ⟨#[]⟩, .int .i64 0, .string ⟨#[]⟩, .string ⟨#[]⟩, .slice none 0 0]⟩
theorem tok36 : TOk Tryd.prog 36 ti36 := by
  obtain ⟨inf, h1, h2, h3, h4⟩ := info_parts (show (Tryd.prog.info? 36).map (fun i => (i.zero, i.size, i.bytes)) = some (some (.agg #[.int .i64 0, .int .i64 0, .string ⟨#[]⟩, .string ⟨#[]⟩, .int .i64 0, .string ⟨#[]⟩, .string ⟨#[]⟩, .slice none 0 0]), 8, 112) from by kernel_rfl)
  exact ⟨Tryd.underlying36, inf, _, h1, h2, rfl, h3, h4, rfl⟩
def ti37 : TI := ⟨.int .i64, 1, 8, [.int .i64 0]⟩
theorem tok37 : TOk Tryd.prog 37 ti37 := by
  obtain ⟨inf, h1, h2, h3, h4⟩ := info_parts (show (Tryd.prog.info? 37).map (fun i => (i.zero, i.size, i.bytes)) = some (some (.int .i64 0), 1, 8) from by kernel_rfl)
  exact ⟨Tryd.underlying37, inf, _, h1, h2, rfl, h3, h4, rfl⟩
def ti39 : TI := ⟨.struct #[{ name := "Kind", type := 37, offset := 0, embedded := false, tag := "", pkgPath := "", byteOffset := 0 }, { name := "Name", type := 9, offset := 1, embedded := false, tag := "", pkgPath := "", byteOffset := 8 }, { name := "Text", type := 9, offset := 2, embedded := false, tag := "", pkgPath := "", byteOffset := 24 }, { name := "Parts", type := 34, offset := 3, embedded := false, tag := "", pkgPath := "", byteOffset := 40 }, { name := "N", type := 3, offset := 4, embedded := false, tag := "", pkgPath := "", byteOffset := 64 }], 5, 72, [.int .i64 0, .string ⟨#[]⟩, .string ⟨#[]⟩, .slice none 0 0, .int .i64 0]⟩
theorem tok39 : TOk Tryd.prog 39 ti39 := by
  obtain ⟨inf, h1, h2, h3, h4⟩ := info_parts (show (Tryd.prog.info? 39).map (fun i => (i.zero, i.size, i.bytes)) = some (some (.agg #[.int .i64 0, .string ⟨#[]⟩, .string ⟨#[]⟩, .slice none 0 0, .int .i64 0]), 5, 72) from by kernel_rfl)
  exact ⟨Tryd.underlying39, inf, _, h1, h2, rfl, h3, h4, rfl⟩
def ti47 : TI := ⟨.slice 64, 1, 24, [.slice none 0 0]⟩
theorem tok47 : TOk Tryd.prog 47 ti47 := by
  obtain ⟨inf, h1, h2, h3, h4⟩ := info_parts (show (Tryd.prog.info? 47).map (fun i => (i.zero, i.size, i.bytes)) = some (some (.slice none 0 0), 1, 24) from by kernel_rfl)
  exact ⟨Tryd.underlying47, inf, _, h1, h2, rfl, h3, h4, rfl⟩
def ti54 : TI := ⟨.struct #[{ name := "Kind", type := 5, offset := 0, embedded := false, tag := "", pkgPath := "", byteOffset := 0 }, { name := "Name", type := 9, offset := 1, embedded := false, tag := "", pkgPath := "", byteOffset := 8 }, { name := "Value", type := 9, offset := 2, embedded := false, tag := "", pkgPath := "", byteOffset := 24 }], 3, 40, [.int .u8 0, .string ⟨#[]⟩, .string ⟨#[]⟩]⟩
theorem tok54 : TOk Tryd.prog 54 ti54 := by
  obtain ⟨inf, h1, h2, h3, h4⟩ := info_parts (show (Tryd.prog.info? 54).map (fun i => (i.zero, i.size, i.bytes)) = some (some (.agg #[.int .u8 0, .string ⟨#[]⟩, .string ⟨#[]⟩]), 3, 40) from by kernel_rfl)
  exact ⟨Tryd.underlying54, inf, _, h1, h2, rfl, h3, h4, rfl⟩
def ti56 : TI := ⟨.pointer 99, 1, 8, [.pointer none]⟩
theorem tok56 : TOk Tryd.prog 56 ti56 := by
  obtain ⟨inf, h1, h2, h3, h4⟩ := info_parts (show (Tryd.prog.info? 56).map (fun i => (i.zero, i.size, i.bytes)) = some (some (.pointer none), 1, 8) from by kernel_rfl)
  exact ⟨Tryd.underlying56, inf, _, h1, h2, rfl, h3, h4, rfl⟩
def ti64 : TI := ⟨.struct #[{ name := "Name", type := 9, offset := 0, embedded := false, tag := "", pkgPath := "", byteOffset := 0 }, { name := "Value", type := 9, offset := 1, embedded := false, tag := "", pkgPath := "", byteOffset := 16 }], 2, 32, [.string ⟨#[]⟩, .string ⟨#[]⟩]⟩
theorem tok64 : TOk Tryd.prog 64 ti64 := by
  obtain ⟨inf, h1, h2, h3, h4⟩ := info_parts (show (Tryd.prog.info? 64).map (fun i => (i.zero, i.size, i.bytes)) = some (some (.agg #[.string ⟨#[]⟩, .string ⟨#[]⟩]), 2, 32) from by kernel_rfl)
  exact ⟨Tryd.underlying64, inf, _, h1, h2, rfl, h3, h4, rfl⟩
def ti66 : TI := ⟨.slice 54, 1, 24, [.slice none 0 0]⟩
theorem tok66 : TOk Tryd.prog 66 ti66 := by
  obtain ⟨inf, h1, h2, h3, h4⟩ := info_parts (show (Tryd.prog.info? 66).map (fun i => (i.zero, i.size, i.bytes)) = some (some (.slice none 0 0), 1, 24) from by kernel_rfl)
  exact ⟨Tryd.underlying66, inf, _, h1, h2, rfl, h3, h4, rfl⟩
def ti70 : TI := ⟨.slice 9, 1, 24, [.slice none 0 0]⟩
theorem tok70 : TOk Tryd.prog 70 ti70 := by
  obtain ⟨inf, h1, h2, h3, h4⟩ := info_parts (show (Tryd.prog.info? 70).map (fun i => (i.zero, i.size, i.bytes)) = some (some (.slice none 0 0), 1, 24) from by kernel_rfl)
  exact ⟨Tryd.underlying70, inf, _, h1, h2, rfl, h3, h4, rfl⟩
def ti84 : TI := ⟨.struct #[{ name := "out", type := 26, offset := 0, embedded := false, tag := "", pkgPath := "doorstep/compile", byteOffset := 0 }], 1, 24, [.slice none 0 0]⟩
theorem tok84 : TOk Tryd.prog 84 ti84 := by
  obtain ⟨inf, h1, h2, h3, h4⟩ := info_parts (show (Tryd.prog.info? 84).map (fun i => (i.zero, i.size, i.bytes)) = some (some (.agg #[.slice none 0 0]), 1, 24) from by kernel_rfl)
  exact ⟨Tryd.underlying84, inf, _, h1, h2, rfl, h3, h4, rfl⟩
def ti87 : TI := ⟨.slice 92, 1, 24, [.slice none 0 0]⟩
theorem tok87 : TOk Tryd.prog 87 ti87 := by
  obtain ⟨inf, h1, h2, h3, h4⟩ := info_parts (show (Tryd.prog.info? 87).map (fun i => (i.zero, i.size, i.bytes)) = some (some (.slice none 0 0), 1, 24) from by kernel_rfl)
  exact ⟨Tryd.underlying87, inf, _, h1, h2, rfl, h3, h4, rfl⟩
def ti92 : TI := ⟨.struct #[{ name := "Name", type := 9, offset := 0, embedded := false, tag := "", pkgPath := "", byteOffset := 0 }, { name := "Value", type := 9, offset := 1, embedded := false, tag := "", pkgPath := "", byteOffset := 16 }, { name := "Has", type := 4, offset := 2, embedded := false, tag := "", pkgPath := "", byteOffset := 32 }], 3, 40, [.string ⟨#[]⟩, .string ⟨#[]⟩, .bool false]⟩
theorem tok92 : TOk Tryd.prog 92 ti92 := by
  obtain ⟨inf, h1, h2, h3, h4⟩ := info_parts (show (Tryd.prog.info? 92).map (fun i => (i.zero, i.size, i.bytes)) = some (some (.agg #[.string ⟨#[]⟩, .string ⟨#[]⟩, .bool false]), 3, 40) from by kernel_rfl)
  exact ⟨Tryd.underlying92, inf, _, h1, h2, rfl, h3, h4, rfl⟩
def ti99 : TI := ⟨.struct #[{ name := "l", type := 47, offset := 0, embedded := false, tag := "", pkgPath := "doorstep/bag", byteOffset := 0 }], 1, 24, [.slice none 0 0]⟩
theorem tok99 : TOk Tryd.prog 99 ti99 := by
  obtain ⟨inf, h1, h2, h3, h4⟩ := info_parts (show (Tryd.prog.info? 99).map (fun i => (i.zero, i.size, i.bytes)) = some (some (.agg #[.slice none 0 0]), 1, 24) from by kernel_rfl)
  exact ⟨Tryd.underlying99, inf, _, h1, h2, rfl, h3, h4, rfl⟩
def ti108 : TI := ⟨.array 4 9, 4, 64, [.string ⟨#[]⟩, .string ⟨#[]⟩, .string ⟨#[]⟩, .string ⟨#[]⟩]⟩
theorem tok108 : TOk Tryd.prog 108 ti108 := by
  obtain ⟨inf, h1, h2, h3, h4⟩ := info_parts (show (Tryd.prog.info? 108).map (fun i => (i.zero, i.size, i.bytes)) = some (some (.agg #[.string ⟨#[]⟩, .string ⟨#[]⟩, .string ⟨#[]⟩, .string ⟨#[]⟩]), 4, 64) from by kernel_rfl)
  exact ⟨Tryd.underlying108, inf, _, h1, h2, rfl, h3, h4, rfl⟩
def ti114 : TI := ⟨.int .i64, 1, 8, [.int .i64 0]⟩
theorem tok114 : TOk Tryd.prog 114 ti114 := by
  obtain ⟨inf, h1, h2, h3, h4⟩ := info_parts (show (Tryd.prog.info? 114).map (fun i => (i.zero, i.size, i.bytes)) = some (some (.int .i64 0), 1, 8) from by kernel_rfl)
  exact ⟨Tryd.underlying114, inf, _, h1, h2, rfl, h3, h4, rfl⟩
def ti116 : TI := ⟨.struct #[{ name := "Kind", type := 114, offset := 0, embedded := false, tag := "", pkgPath := "", byteOffset := 0 }, { name := "Text", type := 9, offset := 1, embedded := false, tag := "", pkgPath := "", byteOffset := 8 }], 2, 24, [.int .i64 0, .string ⟨#[]⟩]⟩
theorem tok116 : TOk Tryd.prog 116 ti116 := by
  obtain ⟨inf, h1, h2, h3, h4⟩ := info_parts (show (Tryd.prog.info? 116).map (fun i => (i.zero, i.size, i.bytes)) = some (some (.agg #[.int .i64 0, .string ⟨#[]⟩]), 2, 24) from by kernel_rfl)
  exact ⟨Tryd.underlying116, inf, _, h1, h2, rfl, h3, h4, rfl⟩
def ti117 : TI := ⟨.pointer 142, 1, 8, [.pointer none]⟩
theorem tok117 : TOk Tryd.prog 117 ti117 := by
  obtain ⟨inf, h1, h2, h3, h4⟩ := info_parts (show (Tryd.prog.info? 117).map (fun i => (i.zero, i.size, i.bytes)) = some (some (.pointer none), 1, 8) from by kernel_rfl)
  exact ⟨Tryd.underlying117, inf, _, h1, h2, rfl, h3, h4, rfl⟩
def ti120 : TI := ⟨.struct #[{ name := "Scanner", type := 117, offset := 0, embedded := true, tag := "", pkgPath := "", byteOffset := 0 }], 1, 8, [.pointer none]⟩
theorem tok120 : TOk Tryd.prog 120 ti120 := by
  obtain ⟨inf, h1, h2, h3, h4⟩ := info_parts (show (Tryd.prog.info? 120).map (fun i => (i.zero, i.size, i.bytes)) = some (some (.agg #[.pointer none]), 1, 8) from by kernel_rfl)
  exact ⟨Tryd.underlying120, inf, _, h1, h2, rfl, h3, h4, rfl⟩
def ti142 : TI := ⟨.struct #[{ name := "s", type := 9, offset := 0, embedded := false, tag := "", pkgPath := "doorstep/scan", byteOffset := 0 }, { name := "at", type := 3, offset := 1, embedded := false, tag := "", pkgPath := "doorstep/scan", byteOffset := 16 }], 2, 24, [.string ⟨#[]⟩, .int .i64 0]⟩
theorem tok142 : TOk Tryd.prog 142 ti142 := by
  obtain ⟨inf, h1, h2, h3, h4⟩ := info_parts (show (Tryd.prog.info? 142).map (fun i => (i.zero, i.size, i.bytes)) = some (some (.agg #[.string ⟨#[]⟩, .int .i64 0]), 2, 24) from by kernel_rfl)
  exact ⟨Tryd.underlying142, inf, _, h1, h2, rfl, h3, h4, rfl⟩
def ti152 : TI := ⟨.slice 5, 1, 24, [.slice none 0 0]⟩
theorem tok152 : TOk Tryd.prog 152 ti152 := by
  obtain ⟨inf, h1, h2, h3, h4⟩ := info_parts (show (Tryd.prog.info? 152).map (fun i => (i.zero, i.size, i.bytes)) = some (some (.slice none 0 0), 1, 24) from by kernel_rfl)
  exact ⟨Tryd.underlying152, inf, _, h1, h2, rfl, h3, h4, rfl⟩
def ti182 : TI := ⟨.struct #[{ name := "Scanner", type := 117, offset := 0, embedded := true, tag := "", pkgPath := "", byteOffset := 0 }, { name := "out", type := 152, offset := 1, embedded := false, tag := "", pkgPath := "doorstep/quoted", byteOffset := 8 }], 2, 32, [.pointer none, .slice none 0 0]⟩
theorem tok182 : TOk Tryd.prog 182 ti182 := by
  obtain ⟨inf, h1, h2, h3, h4⟩ := info_parts (show (Tryd.prog.info? 182).map (fun i => (i.zero, i.size, i.bytes)) = some (some (.agg #[.pointer none, .slice none 0 0]), 2, 32) from by kernel_rfl)
  exact ⟨Tryd.underlying182, inf, _, h1, h2, rfl, h3, h4, rfl⟩
def ti195 : TI := ⟨.int .u64, 1, 8, [.int .u64 0]⟩
theorem tok195 : TOk Tryd.prog 195 ti195 := by
  obtain ⟨inf, h1, h2, h3, h4⟩ := info_parts (show (Tryd.prog.info? 195).map (fun i => (i.zero, i.size, i.bytes)) = some (some (.int .u64 0), 1, 8) from by kernel_rfl)
  exact ⟨Tryd.underlying195, inf, _, h1, h2, rfl, h3, h4, rfl⟩
def ti204 : TI := ⟨.struct #[{ name := "Scanner", type := 117, offset := 0, embedded := true, tag := "", pkgPath := "", byteOffset := 0 }, { name := "out", type := 34, offset := 1, embedded := false, tag := "", pkgPath := "doorstep/tmpl", byteOffset := 8 }], 2, 32, [.pointer none, .slice none 0 0]⟩
theorem tok204 : TOk Tryd.prog 204 ti204 := by
  obtain ⟨inf, h1, h2, h3, h4⟩ := info_parts (show (Tryd.prog.info? 204).map (fun i => (i.zero, i.size, i.bytes)) = some (some (.agg #[.pointer none, .slice none 0 0]), 2, 32) from by kernel_rfl)
  exact ⟨Tryd.underlying204, inf, _, h1, h2, rfl, h3, h4, rfl⟩
def ti205 : TI := ⟨.array 24 5, 24, 24, [.int .u8 0, .int .u8 0, .int .u8 0, .int .u8 0, .int .u8 0, .int .u8 0, .int .u8 0, .int .u8 0, .int .u8 0, .int .u8 0, .int .u8 0, .int .u8 0, .int .u8 0, .int .u8 0, .int .u8 0, .int .u8 0, .int .u8 0, .int .u8 0, .int .u8 0, .int .u8 0, .int .u8 0, .int .u8 0, .int .u8 0, .int .u8 0]⟩
theorem tok205 : TOk Tryd.prog 205 ti205 := by
  obtain ⟨inf, h1, h2, h3, h4⟩ := info_parts (show (Tryd.prog.info? 205).map (fun i => (i.zero, i.size, i.bytes)) = some (some (.agg #[.int .u8 0, .int .u8 0, .int .u8 0, .int .u8 0, .int .u8 0, .int .u8 0, .int .u8 0, .int .u8 0, .int .u8 0, .int .u8 0, .int .u8 0, .int .u8 0, .int .u8 0, .int .u8 0, .int .u8 0, .int .u8 0, .int .u8 0, .int .u8 0, .int .u8 0, .int .u8 0, .int .u8 0, .int .u8 0, .int .u8 0, .int .u8 0]), 24, 24) from by kernel_rfl)
  exact ⟨Tryd.underlying205, inf, _, h1, h2, rfl, h3, h4, rfl⟩
def ti206 : TI := ⟨.int .u64, 1, 8, [.int .u64 0]⟩
theorem tok206 : TOk Tryd.prog 206 ti206 := by
  obtain ⟨inf, h1, h2, h3, h4⟩ := info_parts (show (Tryd.prog.info? 206).map (fun i => (i.zero, i.size, i.bytes)) = some (some (.int .u64 0), 1, 8) from by kernel_rfl)
  exact ⟨Tryd.underlying206, inf, _, h1, h2, rfl, h3, h4, rfl⟩
def ti214 : TI := ⟨.int .u32, 1, 4, [.int .u32 0]⟩
theorem tok214 : TOk Tryd.prog 214 ti214 := by
  obtain ⟨inf, h1, h2, h3, h4⟩ := info_parts (show (Tryd.prog.info? 214).map (fun i => (i.zero, i.size, i.bytes)) = some (some (.int .u32 0), 1, 4) from by kernel_rfl)
  exact ⟨Tryd.underlying214, inf, _, h1, h2, rfl, h3, h4, rfl⟩
def ti215 : TI := ⟨.array 65 5, 65, 65, [.int .u8 0, .int .u8 0, .int .u8 0, .int .u8 0, .int .u8 0, .int .u8 0, .int .u8 0, .int .u8 0, .int .u8 0, .int .u8 0, .int .u8 0, .int .u8 0, .int .u8 0, .int .u8 0, .int .u8 0, .int .u8 0, .int .u8 0, .int .u8 0, .int .u8 0, .int .u8 0, .int .u8 0, .int .u8 0, .int .u8 0, .int .u8 0, .int .u8 0, .int .u8 0, .int .u8 0, .int .u8 0, .int .u8 0, .int .u8 0, .int .u8 0, .int .u8 0, .int .u8 0, .int .u8 0, .int .u8 0, .int .u8 0, .int .u8 0, .int .u8 0, .int .u8 0, .int .u8 0, .int .u8 0, .int .u8 0, .int .u8 0, .int .u8 0, .int .u8 0, .int .u8 0, .int .u8 0, .int .u8 0, .int .u8 0, .int .u8 0, .int .u8 0, .int .u8 0, .int .u8 0, .int .u8 0, .int .u8 0, .int .u8 0, .int .u8 0, .int .u8 0, .int .u8 0, .int .u8 0, .int .u8 0, .int .u8 0, .int .u8 0, .int .u8 0, .int .u8 0]⟩
theorem tok215 : TOk Tryd.prog 215 ti215 := by
  obtain ⟨inf, h1, h2, h3, h4⟩ := info_parts (show (Tryd.prog.info? 215).map (fun i => (i.zero, i.size, i.bytes)) = some (some (.agg #[.int .u8 0, .int .u8 0, .int .u8 0, .int .u8 0, .int .u8 0, .int .u8 0, .int .u8 0, .int .u8 0, .int .u8 0, .int .u8 0, .int .u8 0, .int .u8 0, .int .u8 0, .int .u8 0, .int .u8 0, .int .u8 0, .int .u8 0, .int .u8 0, .int .u8 0, .int .u8 0, .int .u8 0, .int .u8 0, .int .u8 0, .int .u8 0, .int .u8 0, .int .u8 0, .int .u8 0, .int .u8 0, .int .u8 0, .int .u8 0, .int .u8 0, .int .u8 0, .int .u8 0, .int .u8 0, .int .u8 0, .int .u8 0, .int .u8 0, .int .u8 0, .int .u8 0, .int .u8 0, .int .u8 0, .int .u8 0, .int .u8 0, .int .u8 0, .int .u8 0, .int .u8 0, .int .u8 0, .int .u8 0, .int .u8 0, .int .u8 0, .int .u8 0, .int .u8 0, .int .u8 0, .int .u8 0, .int .u8 0, .int .u8 0, .int .u8 0, .int .u8 0, .int .u8 0, .int .u8 0, .int .u8 0, .int .u8 0, .int .u8 0, .int .u8 0, .int .u8 0]), 65, 65) from by kernel_rfl)
  exact ⟨Tryd.underlying215, inf, _, h1, h2, rfl, h3, h4, rfl⟩
def T : Tab := findT [(2, ti2), (3, ti3), (4, ti4), (5, ti5), (9, ti9), (22, ti22), (23, ti23), (26, ti26), (27, ti27), (30, ti30), (32, ti32), (33, ti33), (34, ti34), (36, ti36), (37, ti37), (39, ti39), (47, ti47), (54, ti54), (56, ti56), (64, ti64), (66, ti66), (70, ti70), (84, ti84), (87, ti87), (92, ti92), (99, ti99), (108, ti108), (114, ti114), (116, ti116), (117, ti117), (120, ti120), (142, ti142), (152, ti152), (182, ti182), (195, ti195), (204, ti204), (205, ti205), (206, ti206), (214, ti214), (215, ti215)]
theorem T_ok : T.Ok Tryd.prog := findT_ok (.cons tok2 (.cons tok3 (.cons tok4 (.cons tok5 (.cons tok9 (.cons tok22 (.cons tok23 (.cons tok26 (.cons tok27 (.cons tok30 (.cons tok32 (.cons tok33 (.cons tok34 (.cons tok36 (.cons tok37 (.cons tok39 (.cons tok47 (.cons tok54 (.cons tok56 (.cons tok64 (.cons tok66 (.cons tok70 (.cons tok84 (.cons tok87 (.cons tok92 (.cons tok99 (.cons tok108 (.cons tok114 (.cons tok116 (.cons tok117 (.cons tok120 (.cons tok142 (.cons tok152 (.cons tok182 (.cons tok195 (.cons tok204 (.cons tok205 (.cons tok206 (.cons tok214 (.cons tok215 (.nil)))))))))))))))))))))))))))))))))))))))))
end Go.Proofs.YthneihlplijklaaDoor
