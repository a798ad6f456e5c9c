/- The types that the functions use, in a table; each row is proved. No statement of its own. -/
import Derived.Test.YtgkhnllgmfjhpaaGreatDoorProg
import Derived.Test.YtgkhnllgmfjhpaaGreatDoorVz
set_option linter.unusedSimpArgs false
set_option linter.unusedVariables false
set_option maxRecDepth 100000
namespace Go.Proofs.YtgkhnllgmfjhpaaGreatDoor
open Go.RowKit

def ti3 : TI := ⟨.int .i64, 1, 8, [.int .i64 0]⟩
theorem tok3 : TOk Tryz.prog 3 ti3 := by
  obtain ⟨inf, h1, h2, h3, h4⟩ := info_parts (show (Tryz.prog.info? 3).map (fun i => (i.zero, i.size, i.bytes)) = some (some (.int .i64 0), 1, 8) from by kernel_rfl)
  exact ⟨Tryz.underlying3, inf, _, h1, h2, rfl, h3, h4, rfl⟩
def ti4 : TI := ⟨.bool, 1, 1, [.bool false]⟩
theorem tok4 : TOk Tryz.prog 4 ti4 := by
  obtain ⟨inf, h1, h2, h3, h4⟩ := info_parts (show (Tryz.prog.info? 4).map (fun i => (i.zero, i.size, i.bytes)) = some (some (.bool false), 1, 1) from by kernel_rfl)
  exact ⟨Tryz.underlying4, inf, _, h1, h2, rfl, h3, h4, rfl⟩
def ti5 : TI := ⟨.int .u8, 1, 1, [.int .u8 0]⟩
theorem tok5 : TOk Tryz.prog 5 ti5 := by
  obtain ⟨inf, h1, h2, h3, h4⟩ := info_parts (show (Tryz.prog.info? 5).map (fun i => (i.zero, i.size, i.bytes)) = some (some (.int .u8 0), 1, 1) from by kernel_rfl)
  exact ⟨Tryz.underlying5, inf, _, h1, h2, rfl, h3, h4, rfl⟩
def ti9 : TI := ⟨.string, 1, 16, [.string ⟨#[]⟩]⟩
theorem tok9 : TOk Tryz.prog 9 ti9 := by
  obtain ⟨inf, h1, h2, h3, h4⟩ := info_parts (show (Tryz.prog.info? 9).map (fun i => (i.zero, i.size, i.bytes)) = some (some (.string ⟨#[]⟩), 1, 16) from by kernel_rfl)
  exact ⟨Tryz.underlying9, inf, _, h1, h2, rfl, h3, h4, rfl⟩
def ti22 : TI := ⟨.int .i64, 1, 8, [.int .i64 0]⟩
theorem tok22 : TOk Tryz.prog 22 ti22 := by
  obtain ⟨inf, h1, h2, h3, h4⟩ := info_parts (show (Tryz.prog.info? 22).map (fun i => (i.zero, i.size, i.bytes)) = some (some (.int .i64 0), 1, 8) from by kernel_rfl)
  exact ⟨Tryz.underlying22, inf, _, h1, h2, rfl, h3, h4, rfl⟩
def ti23 : TI := ⟨.slice 48, 1, 24, [.slice none 0 0]⟩
theorem tok23 : TOk Tryz.prog 23 ti23 := by
  obtain ⟨inf, h1, h2, h3, h4⟩ := info_parts (show (Tryz.prog.info? 23).map (fun i => (i.zero, i.size, i.bytes)) = some (some (.slice none 0 0), 1, 24) from by kernel_rfl)
  exact ⟨Tryz.underlying23, inf, _, h1, h2, rfl, h3, h4, rfl⟩
def ti25 : TI := ⟨.struct #[{ name := "Kind", type := 22, offset := 0, embedded := false, tag := "", pkgPath := "", byteOffset := 0 }, { name := "Method", type := 9, offset := 1, embedded := false, tag := "", pkgPath := "", byteOffset := 8 }, { name := "Target", type := 9, offset := 2, embedded := false, tag := "", pkgPath := "", byteOffset := 24 }, { name := "Code", type := 3, offset := 3, embedded := false, tag := "", pkgPath := "", byteOffset := 40 }, { name := "Reason", type := 9, offset := 4, embedded := false, tag := "", pkgPath := "", byteOffset := 48 }, { name := "Minor", type := 3, offset := 5, embedded := false, tag := "", pkgPath := "", byteOffset := 64 }, { name := "Fields", type := 23, offset := 6, embedded := false, tag := "", pkgPath := "", byteOffset := 72 }], 7, 96, [.int .i64 0, .string ⟨#[]⟩, .string ⟨#[]⟩, .int .i64 0, .string ⟨#[]⟩, .int .i64 0, .slice none 0 0]⟩
theorem tok25 : TOk Tryz.prog 25 ti25 := by
  obtain ⟨inf, h1, h2, h3, h4⟩ := info_parts (show (Tryz.prog.info? 25).map (fun i => (i.zero, i.size, i.bytes)) = some (some (.agg #[.int .i64 0, .string ⟨#[]⟩, .string ⟨#[]⟩, .int .i64 0, .string ⟨#[]⟩, .int .i64 0, .slice none 0 0]), 7, 96) from by kernel_rfl)
  exact ⟨Tryz.underlying25, inf, _, h1, h2, rfl, h3, h4, rfl⟩
def ti26 : TI := ⟨.slice 37, 1, 24, [.slice none 0 0]⟩
theorem tok26 : TOk Tryz.prog 26 ti26 := by
  obtain ⟨inf, h1, h2, h3, h4⟩ := info_parts (show (Tryz.prog.info? 26).map (fun i => (i.zero, i.size, i.bytes)) = some (some (.slice none 0 0), 1, 24) from by kernel_rfl)
  exact ⟨Tryz.underlying26, inf, _, h1, h2, rfl, h3, h4, rfl⟩
def ti27 : TI := ⟨.slice 179, 1, 24, [.slice none 0 0]⟩
theorem tok27 : TOk Tryz.prog 27 ti27 := by
  obtain ⟨inf, h1, h2, h3, h4⟩ := info_parts (show (Tryz.prog.info? 27).map (fun i => (i.zero, i.size, i.bytes)) = some (some (.slice none 0 0), 1, 24) from by kernel_rfl)
  exact ⟨Tryz.underlying27, inf, _, h1, h2, rfl, h3, h4, rfl⟩
def ti31 : TI := ⟨.slice 82, 1, 24, [.slice none 0 0]⟩
theorem tok31 : TOk Tryz.prog 31 ti31 := by
  obtain ⟨inf, h1, h2, h3, h4⟩ := info_parts (show (Tryz.prog.info? 31).map (fun i => (i.zero, i.size, i.bytes)) = some (some (.slice none 0 0), 1, 24) from by kernel_rfl)
  exact ⟨Tryz.underlying31, inf, _, h1, h2, rfl, h3, h4, rfl⟩
def ti32 : TI := ⟨.int .i64, 1, 8, [.int .i64 0]⟩
theorem tok32 : TOk Tryz.prog 32 ti32 := by
  obtain ⟨inf, h1, h2, h3, h4⟩ := info_parts (show (Tryz.prog.info? 32).map (fun i => (i.zero, i.size, i.bytes)) = some (some (.int .i64 0), 1, 8) from by kernel_rfl)
  exact ⟨Tryz.underlying32, inf, _, h1, h2, rfl, h3, h4, rfl⟩
def ti34 : TI := ⟨.struct #[{ name := "Kind", type := 32, offset := 0, embedded := false, tag := "", pkgPath := "", byteOffset := 0 }, { name := "Name", type := 9, offset := 1, embedded := false, tag := "", pkgPath := "", byteOffset := 8 }, { name := "Value", type := 9, offset := 2, embedded := false, tag := "", pkgPath := "", byteOffset := 24 }], 3, 40, [.int .i64 0, .string ⟨#[]⟩, .string ⟨#[]⟩]⟩
theorem tok34 : TOk Tryz.prog 34 ti34 := by
  obtain ⟨inf, h1, h2, h3, h4⟩ := info_parts (show (Tryz.prog.info? 34).map (fun i => (i.zero, i.size, i.bytes)) = some (some (.agg #[.int .i64 0, .string ⟨#[]⟩, .string ⟨#[]⟩]), 3, 40) from by kernel_rfl)
  exact ⟨Tryz.underlying34, inf, _, h1, h2, rfl, h3, h4, rfl⟩
def ti35 : TI := ⟨.int .i64, 1, 8, [.int .i64 0]⟩
theorem tok35 : TOk Tryz.prog 35 ti35 := by
  obtain ⟨inf, h1, h2, h3, h4⟩ := info_parts (show (Tryz.prog.info? 35).map (fun i => (i.zero, i.size, i.bytes)) = some (some (.int .i64 0), 1, 8) from by kernel_rfl)
  exact ⟨Tryz.underlying35, inf, _, h1, h2, rfl, h3, h4, rfl⟩
def ti37 : TI := ⟨.struct #[{ name := "Side", type := 22, offset := 0, embedded := false, tag := "", pkgPath := "", byteOffset := 0 }, { name := "Guard", type := 34, offset := 1, embedded := false, tag := "", pkgPath := "", byteOffset := 8 }, { name := "Kind", type := 35, offset := 4, embedded := false, tag := "", pkgPath := "", byteOffset := 48 }, { name := "Name", type := 9, offset := 5, embedded := false, tag := "", pkgPath := "", byteOffset := 56 }, { name := "To", type := 9, offset := 6, embedded := false, tag := "", pkgPath := "", byteOffset := 72 }, { name := "Parts", type := 31, offset := 7, embedded := false, tag := "", pkgPath := "", byteOffset := 88 }], 8, 112, [.int .i64 0, .int .i64 0, .string ⟨#[]⟩, .string ⟨#[]⟩, .int .i64 0, .string ⟨#[]⟩, .string ⟨#[]⟩, .slice none 0 0]⟩
theorem tok37 : TOk Tryz.prog 37 ti37 := by
  obtain ⟨inf, h1, h2, h3, h4⟩ := info_parts (show (Tryz.prog.info? 37).map (fun i => (i.zero, i.size, i.bytes)) = some (some (.agg #[.int .i64 0, .int .i64 0, .string ⟨#[]⟩, .string ⟨#[]⟩, .int .i64 0, .string ⟨#[]⟩, .string ⟨#[]⟩, .slice none 0 0]), 8, 112) from by kernel_rfl)
  exact ⟨Tryz.underlying37, inf, _, h1, h2, rfl, h3, h4, rfl⟩
def ti38 : TI := ⟨.int .i64, 1, 8, [.int .i64 0]⟩
theorem tok38 : TOk Tryz.prog 38 ti38 := by
  obtain ⟨inf, h1, h2, h3, h4⟩ := info_parts (show (Tryz.prog.info? 38).map (fun i => (i.zero, i.size, i.bytes)) = some (some (.int .i64 0), 1, 8) from by kernel_rfl)
  exact ⟨Tryz.underlying38, inf, _, h1, h2, rfl, h3, h4, rfl⟩
def ti44 : TI := ⟨.slice 9, 1, 24, [.slice none 0 0]⟩
theorem tok44 : TOk Tryz.prog 44 ti44 := by
  obtain ⟨inf, h1, h2, h3, h4⟩ := info_parts (show (Tryz.prog.info? 44).map (fun i => (i.zero, i.size, i.bytes)) = some (some (.slice none 0 0), 1, 24) from by kernel_rfl)
  exact ⟨Tryz.underlying44, inf, _, h1, h2, rfl, h3, h4, rfl⟩
def ti48 : TI := ⟨.struct #[{ name := "Name", type := 9, offset := 0, embedded := false, tag := "", pkgPath := "", byteOffset := 0 }, { name := "Value", type := 9, offset := 1, embedded := false, tag := "", pkgPath := "", byteOffset := 16 }], 2, 32, [.string ⟨#[]⟩, .string ⟨#[]⟩]⟩
theorem tok48 : TOk Tryz.prog 48 ti48 := by
  obtain ⟨inf, h1, h2, h3, h4⟩ := info_parts (show (Tryz.prog.info? 48).map (fun i => (i.zero, i.size, i.bytes)) = some (some (.agg #[.string ⟨#[]⟩, .string ⟨#[]⟩]), 2, 32) from by kernel_rfl)
  exact ⟨Tryz.underlying48, inf, _, h1, h2, rfl, h3, h4, rfl⟩
def ti50 : TI := ⟨.slice 87, 1, 24, [.slice none 0 0]⟩
theorem tok50 : TOk Tryz.prog 50 ti50 := by
  obtain ⟨inf, h1, h2, h3, h4⟩ := info_parts (show (Tryz.prog.info? 50).map (fun i => (i.zero, i.size, i.bytes)) = some (some (.slice none 0 0), 1, 24) from by kernel_rfl)
  exact ⟨Tryz.underlying50, inf, _, h1, h2, rfl, h3, h4, rfl⟩
def ti58 : TI := ⟨.array 4 9, 4, 64, [.string ⟨#[]⟩, .string ⟨#[]⟩, .string ⟨#[]⟩, .string ⟨#[]⟩]⟩
theorem tok58 : TOk Tryz.prog 58 ti58 := by
  obtain ⟨inf, h1, h2, h3, h4⟩ := info_parts (show (Tryz.prog.info? 58).map (fun i => (i.zero, i.size, i.bytes)) = some (some (.agg #[.string ⟨#[]⟩, .string ⟨#[]⟩, .string ⟨#[]⟩, .string ⟨#[]⟩]), 4, 64) from by kernel_rfl)
  exact ⟨Tryz.underlying58, inf, _, h1, h2, rfl, h3, h4, rfl⟩
def ti64 : TI := ⟨.struct #[{ name := "out", type := 50, offset := 0, embedded := false, tag := "", pkgPath := "doorstep/compile", byteOffset := 0 }], 1, 24, [.slice none 0 0]⟩
theorem tok64 : TOk Tryz.prog 64 ti64 := by
  obtain ⟨inf, h1, h2, h3, h4⟩ := info_parts (show (Tryz.prog.info? 64).map (fun i => (i.zero, i.size, i.bytes)) = some (some (.agg #[.slice none 0 0]), 1, 24) from by kernel_rfl)
  exact ⟨Tryz.underlying64, inf, _, h1, h2, rfl, h3, h4, rfl⟩
def ti67 : TI := ⟨.pointer 92, 1, 8, [.pointer none]⟩
theorem tok67 : TOk Tryz.prog 67 ti67 := by
  obtain ⟨inf, h1, h2, h3, h4⟩ := info_parts (show (Tryz.prog.info? 67).map (fun i => (i.zero, i.size, i.bytes)) = some (some (.pointer none), 1, 8) from by kernel_rfl)
  exact ⟨Tryz.underlying67, inf, _, h1, h2, rfl, h3, h4, rfl⟩
def ti70 : TI := ⟨.struct #[{ name := "Bag", type := 67, offset := 0, embedded := true, tag := "", pkgPath := "", byteOffset := 0 }, { name := "known", type := 27, offset := 1, embedded := false, tag := "", pkgPath := "doorstep/machine", byteOffset := 8 }, { name := "steps", type := 3, offset := 2, embedded := false, tag := "", pkgPath := "doorstep/machine", byteOffset := 32 }], 3, 40, [.pointer none, .slice none 0 0, .int .i64 0]⟩
theorem tok70 : TOk Tryz.prog 70 ti70 := by
  obtain ⟨inf, h1, h2, h3, h4⟩ := info_parts (show (Tryz.prog.info? 70).map (fun i => (i.zero, i.size, i.bytes)) = some (some (.agg #[.pointer none, .slice none 0 0, .int .i64 0]), 3, 40) from by kernel_rfl)
  exact ⟨Tryz.underlying70, inf, _, h1, h2, rfl, h3, h4, rfl⟩
def ti80 : TI := ⟨.int .i64, 1, 8, [.int .i64 0]⟩
theorem tok80 : TOk Tryz.prog 80 ti80 := by
  obtain ⟨inf, h1, h2, h3, h4⟩ := info_parts (show (Tryz.prog.info? 80).map (fun i => (i.zero, i.size, i.bytes)) = some (some (.int .i64 0), 1, 8) from by kernel_rfl)
  exact ⟨Tryz.underlying80, inf, _, h1, h2, rfl, h3, h4, rfl⟩
def ti82 : TI := ⟨.struct #[{ name := "Kind", type := 80, offset := 0, embedded := false, tag := "", pkgPath := "", byteOffset := 0 }, { name := "Text", type := 9, offset := 1, embedded := false, tag := "", pkgPath := "", byteOffset := 8 }], 2, 24, [.int .i64 0, .string ⟨#[]⟩]⟩
theorem tok82 : TOk Tryz.prog 82 ti82 := by
  obtain ⟨inf, h1, h2, h3, h4⟩ := info_parts (show (Tryz.prog.info? 82).map (fun i => (i.zero, i.size, i.bytes)) = some (some (.agg #[.int .i64 0, .string ⟨#[]⟩]), 2, 24) from by kernel_rfl)
  exact ⟨Tryz.underlying82, inf, _, h1, h2, rfl, h3, h4, rfl⟩
def ti85 : TI := ⟨.int .i64, 1, 8, [.int .i64 0]⟩
theorem tok85 : TOk Tryz.prog 85 ti85 := by
  obtain ⟨inf, h1, h2, h3, h4⟩ := info_parts (show (Tryz.prog.info? 85).map (fun i => (i.zero, i.size, i.bytes)) = some (some (.int .i64 0), 1, 8) from by kernel_rfl)
  exact ⟨Tryz.underlying85, inf, _, h1, h2, rfl, h3, h4, rfl⟩
def ti87 : TI := ⟨.struct #[{ name := "Kind", type := 85, offset := 0, embedded := false, tag := "", pkgPath := "", byteOffset := 0 }, { name := "Name", type := 9, offset := 1, embedded := false, tag := "", pkgPath := "", byteOffset := 8 }, { name := "Text", type := 9, offset := 2, embedded := false, tag := "", pkgPath := "", byteOffset := 24 }, { name := "Parts", type := 31, offset := 3, embedded := false, tag := "", pkgPath := "", byteOffset := 40 }, { name := "N", type := 3, offset := 4, embedded := false, tag := "", pkgPath := "", byteOffset := 64 }], 5, 72, [.int .i64 0, .string ⟨#[]⟩, .string ⟨#[]⟩, .slice none 0 0, .int .i64 0]⟩
theorem tok87 : TOk Tryz.prog 87 ti87 := by
  obtain ⟨inf, h1, h2, h3, h4⟩ := info_parts (show (Tryz.prog.info? 87).map (fun i => (i.zero, i.size, i.bytes)) = some (some (.agg #[.int .i64 0, .string ⟨#[]⟩, .string ⟨#[]⟩, .slice none 0 0, .int .i64 0]), 5, 72) from by kernel_rfl)
  exact ⟨Tryz.underlying87, inf, _, h1, h2, rfl, h3, h4, rfl⟩
def ti92 : TI := ⟨.struct #[{ name := "l", type := 23, offset := 0, embedded := false, tag := "", pkgPath := "doorstep/bag", byteOffset := 0 }], 1, 24, [.slice none 0 0]⟩
theorem tok92 : TOk Tryz.prog 92 ti92 := by
  obtain ⟨inf, h1, h2, h3, h4⟩ := info_parts (show (Tryz.prog.info? 92).map (fun i => (i.zero, i.size, i.bytes)) = some (some (.agg #[.slice none 0 0]), 1, 24) from by kernel_rfl)
  exact ⟨Tryz.underlying92, inf, _, h1, h2, rfl, h3, h4, rfl⟩
def ti95 : TI := ⟨.slice 5, 1, 24, [.slice none 0 0]⟩
theorem tok95 : TOk Tryz.prog 95 ti95 := by
  obtain ⟨inf, h1, h2, h3, h4⟩ := info_parts (show (Tryz.prog.info? 95).map (fun i => (i.zero, i.size, i.bytes)) = some (some (.slice none 0 0), 1, 24) from by kernel_rfl)
  exact ⟨Tryz.underlying95, inf, _, h1, h2, rfl, h3, h4, rfl⟩
def ti141 : TI := ⟨.pointer 160, 1, 8, [.pointer none]⟩
theorem tok141 : TOk Tryz.prog 141 ti141 := by
  obtain ⟨inf, h1, h2, h3, h4⟩ := info_parts (show (Tryz.prog.info? 141).map (fun i => (i.zero, i.size, i.bytes)) = some (some (.pointer none), 1, 8) from by kernel_rfl)
  exact ⟨Tryz.underlying141, inf, _, h1, h2, rfl, h3, h4, rfl⟩
def ti144 : TI := ⟨.struct #[{ name := "Scanner", type := 141, offset := 0, embedded := true, tag := "", pkgPath := "", byteOffset := 0 }, { name := "out", type := 44, offset := 1, embedded := false, tag := "", pkgPath := "doorstep/commas", byteOffset := 8 }, { name := "from", type := 3, offset := 2, embedded := false, tag := "", pkgPath := "doorstep/commas", byteOffset := 32 }, { name := "s", type := 9, offset := 3, embedded := false, tag := "", pkgPath := "doorstep/commas", byteOffset := 40 }], 4, 56, [.pointer none, .slice none 0 0, .int .i64 0, .string ⟨#[]⟩]⟩
theorem tok144 : TOk Tryz.prog 144 ti144 := by
  obtain ⟨inf, h1, h2, h3, h4⟩ := info_parts (show (Tryz.prog.info? 144).map (fun i => (i.zero, i.size, i.bytes)) = some (some (.agg #[.pointer none, .slice none 0 0, .int .i64 0, .string ⟨#[]⟩]), 4, 56) from by kernel_rfl)
  exact ⟨Tryz.underlying144, inf, _, h1, h2, rfl, h3, h4, rfl⟩
def ti160 : TI := ⟨.struct #[{ name := "s", type := 9, offset := 0, embedded := false, tag := "", pkgPath := "doorstep/scan", byteOffset := 0 }, { name := "at", type := 3, offset := 1, embedded := false, tag := "", pkgPath := "doorstep/scan", byteOffset := 16 }], 2, 24, [.string ⟨#[]⟩, .int .i64 0]⟩
theorem tok160 : TOk Tryz.prog 160 ti160 := by
  obtain ⟨inf, h1, h2, h3, h4⟩ := info_parts (show (Tryz.prog.info? 160).map (fun i => (i.zero, i.size, i.bytes)) = some (some (.agg #[.string ⟨#[]⟩, .int .i64 0]), 2, 24) from by kernel_rfl)
  exact ⟨Tryz.underlying160, inf, _, h1, h2, rfl, h3, h4, rfl⟩
def ti179 : TI := ⟨.struct #[{ name := "Name", type := 9, offset := 0, embedded := false, tag := "", pkgPath := "", byteOffset := 0 }, { name := "Value", type := 9, offset := 1, embedded := false, tag := "", pkgPath := "", byteOffset := 16 }], 2, 32, [.string ⟨#[]⟩, .string ⟨#[]⟩]⟩
theorem tok179 : TOk Tryz.prog 179 ti179 := by
  obtain ⟨inf, h1, h2, h3, h4⟩ := info_parts (show (Tryz.prog.info? 179).map (fun i => (i.zero, i.size, i.bytes)) = some (some (.agg #[.string ⟨#[]⟩, .string ⟨#[]⟩]), 2, 32) from by kernel_rfl)
  exact ⟨Tryz.underlying179, inf, _, h1, h2, rfl, h3, h4, rfl⟩
def ti183 : TI := ⟨.struct #[{ name := "Scanner", type := 141, offset := 0, embedded := true, tag := "", pkgPath := "", byteOffset := 0 }, { name := "out", type := 95, offset := 1, embedded := false, tag := "", pkgPath := "doorstep/quoted", byteOffset := 8 }], 2, 32, [.pointer none, .slice none 0 0]⟩
theorem tok183 : TOk Tryz.prog 183 ti183 := by
  obtain ⟨inf, h1, h2, h3, h4⟩ := info_parts (show (Tryz.prog.info? 183).map (fun i => (i.zero, i.size, i.bytes)) = some (some (.agg #[.pointer none, .slice none 0 0]), 2, 32) from by kernel_rfl)
  exact ⟨Tryz.underlying183, inf, _, h1, h2, rfl, h3, h4, rfl⟩
def ti192 : TI := ⟨.struct #[{ name := "Scanner", type := 141, offset := 0, embedded := true, tag := "", pkgPath := "", byteOffset := 0 }, { name := "out", type := 31, offset := 1, embedded := false, tag := "", pkgPath := "doorstep/tmpl", byteOffset := 8 }], 2, 32, [.pointer none, .slice none 0 0]⟩
theorem tok192 : TOk Tryz.prog 192 ti192 := by
  obtain ⟨inf, h1, h2, h3, h4⟩ := info_parts (show (Tryz.prog.info? 192).map (fun i => (i.zero, i.size, i.bytes)) = some (some (.agg #[.pointer none, .slice none 0 0]), 2, 32) from by kernel_rfl)
  exact ⟨Tryz.underlying192, inf, _, h1, h2, rfl, h3, h4, rfl⟩
def T : Tab := findT [(3, ti3), (4, ti4), (5, ti5), (9, ti9), (22, ti22), (23, ti23), (25, ti25), (26, ti26), (27, ti27), (31, ti31), (32, ti32), (34, ti34), (35, ti35), (37, ti37), (38, ti38), (44, ti44), (48, ti48), (50, ti50), (58, ti58), (64, ti64), (67, ti67), (70, ti70), (80, ti80), (82, ti82), (85, ti85), (87, ti87), (92, ti92), (95, ti95), (141, ti141), (144, ti144), (160, ti160), (179, ti179), (183, ti183), (192, ti192)]
theorem T_ok : T.Ok Tryz.prog := findT_ok (.cons tok3 (.cons tok4 (.cons tok5 (.cons tok9 (.cons tok22 (.cons tok23 (.cons tok25 (.cons tok26 (.cons tok27 (.cons tok31 (.cons tok32 (.cons tok34 (.cons tok35 (.cons tok37 (.cons tok38 (.cons tok44 (.cons tok48 (.cons tok50 (.cons tok58 (.cons tok64 (.cons tok67 (.cons tok70 (.cons tok80 (.cons tok82 (.cons tok85 (.cons tok87 (.cons tok92 (.cons tok95 (.cons tok141 (.cons tok144 (.cons tok160 (.cons tok179 (.cons tok183 (.cons tok192 (.nil)))))))))))))))))))))))))))))))))))
end Go.Proofs.YtgkhnllgmfjhpaaGreatDoor
