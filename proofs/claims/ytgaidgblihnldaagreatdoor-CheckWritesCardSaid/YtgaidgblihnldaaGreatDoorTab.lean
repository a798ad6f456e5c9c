/- The types that the functions use, in a table; each row is proved. No statement of its own. -/
import Derived.Test.YtgaidgblihnldaaGreatDoorProg
import Derived.Test.YtgaidgblihnldaaGreatDoorVz
set_option linter.unusedSimpArgs false
set_option linter.unusedVariables false
set_option maxRecDepth 100000
namespace Go.Proofs.YtgaidgblihnldaaGreatDoor
open Go.RowKit

def ti3 : TI := ⟨.int .i64, 1, 8, [.int .i64 0]⟩
theorem tok3 : TOk Tryz.prog 3 ti3 := by
  obtain ⟨inf, h1, h2, h3, h4⟩ := info_parts (show (Tryz.prog.info? 3).map (fun i => (i.zero, i.size, i.bytes)) = some (some (.int .i64 0), 1, 8) from by kernel_rfl)
  exact ⟨Tryz.underlying3, inf, _, h1, h2, rfl, h3, h4, rfl⟩
def ti4 : TI := ⟨.bool, 1, 1, [.bool false]⟩
theorem tok4 : TOk Tryz.prog 4 ti4 := by
  obtain ⟨inf, h1, h2, h3, h4⟩ := info_parts (show (Tryz.prog.info? 4).map (fun i => (i.zero, i.size, i.bytes)) = some (some (.bool false), 1, 1) from by kernel_rfl)
  exact ⟨Tryz.underlying4, inf, _, h1, h2, rfl, h3, h4, rfl⟩
def ti5 : TI := ⟨.int .u8, 1, 1, [.int .u8 0]⟩
theorem tok5 : TOk Tryz.prog 5 ti5 := by
  obtain ⟨inf, h1, h2, h3, h4⟩ := info_parts (show (Tryz.prog.info? 5).map (fun i => (i.zero, i.size, i.bytes)) = some (some (.int .u8 0), 1, 1) from by kernel_rfl)
  exact ⟨Tryz.underlying5, inf, _, h1, h2, rfl, h3, h4, rfl⟩
def ti9 : TI := ⟨.string, 1, 16, [.string ⟨#[]⟩]⟩
theorem tok9 : TOk Tryz.prog 9 ti9 := by
  obtain ⟨inf, h1, h2, h3, h4⟩ := info_parts (show (Tryz.prog.info? 9).map (fun i => (i.zero, i.size, i.bytes)) = some (some (.string ⟨#[]⟩), 1, 16) from by kernel_rfl)
  exact ⟨Tryz.underlying9, inf, _, h1, h2, rfl, h3, h4, rfl⟩
def ti21 : TI := ⟨.int .i32, 1, 4, [.int .i32 0]⟩
theorem tok21 : TOk Tryz.prog 21 ti21 := by
  obtain ⟨inf, h1, h2, h3, h4⟩ := info_parts (show (Tryz.prog.info? 21).map (fun i => (i.zero, i.size, i.bytes)) = some (some (.int .i32 0), 1, 4) from by kernel_rfl)
  exact ⟨Tryz.underlying21, inf, _, h1, h2, rfl, h3, h4, rfl⟩
def ti22 : TI := ⟨.int .i64, 1, 8, [.int .i64 0]⟩
theorem tok22 : TOk Tryz.prog 22 ti22 := by
  obtain ⟨inf, h1, h2, h3, h4⟩ := info_parts (show (Tryz.prog.info? 22).map (fun i => (i.zero, i.size, i.bytes)) = some (some (.int .i64 0), 1, 8) from by kernel_rfl)
  exact ⟨Tryz.underlying22, inf, _, h1, h2, rfl, h3, h4, rfl⟩
def ti23 : TI := ⟨.int .i64, 1, 8, [.int .i64 0]⟩
theorem tok23 : TOk Tryz.prog 23 ti23 := by
  obtain ⟨inf, h1, h2, h3, h4⟩ := info_parts (show (Tryz.prog.info? 23).map (fun i => (i.zero, i.size, i.bytes)) = some (some (.int .i64 0), 1, 8) from by kernel_rfl)
  exact ⟨Tryz.underlying23, inf, _, h1, h2, rfl, h3, h4, rfl⟩
def ti25 : TI := ⟨.struct #[{ name := "Kind", type := 23, offset := 0, embedded := false, tag := "", pkgPath := "", byteOffset := 0 }, { name := "Name", type := 9, offset := 1, embedded := false, tag := "", pkgPath := "", byteOffset := 8 }, { name := "Value", type := 9, offset := 2, embedded := false, tag := "", pkgPath := "", byteOffset := 24 }], 3, 40, [.int .i64 0, .string ⟨#[]⟩, .string ⟨#[]⟩]⟩
theorem tok25 : TOk Tryz.prog 25 ti25 := by
  obtain ⟨inf, h1, h2, h3, h4⟩ := info_parts (show (Tryz.prog.info? 25).map (fun i => (i.zero, i.size, i.bytes)) = some (some (.agg #[.int .i64 0, .string ⟨#[]⟩, .string ⟨#[]⟩]), 3, 40) from by kernel_rfl)
  exact ⟨Tryz.underlying25, inf, _, h1, h2, rfl, h3, h4, rfl⟩
def ti26 : TI := ⟨.int .i64, 1, 8, [.int .i64 0]⟩
theorem tok26 : TOk Tryz.prog 26 ti26 := by
  obtain ⟨inf, h1, h2, h3, h4⟩ := info_parts (show (Tryz.prog.info? 26).map (fun i => (i.zero, i.size, i.bytes)) = some (some (.int .i64 0), 1, 8) from by kernel_rfl)
  exact ⟨Tryz.underlying26, inf, _, h1, h2, rfl, h3, h4, rfl⟩
def ti27 : TI := ⟨.slice 86, 1, 24, [.slice none 0 0]⟩
theorem tok27 : TOk Tryz.prog 27 ti27 := by
  obtain ⟨inf, h1, h2, h3, h4⟩ := info_parts (show (Tryz.prog.info? 27).map (fun i => (i.zero, i.size, i.bytes)) = some (some (.slice none 0 0), 1, 24) from by kernel_rfl)
  exact ⟨Tryz.underlying27, inf, _, h1, h2, rfl, h3, h4, rfl⟩
def ti29 : TI := ⟨.struct #[{ name := "Side", type := 22, offset := 0, embedded := false, tag := "", pkgPath := "", byteOffset := 0 }, { name := "Guard", type := 25, offset := 1, embedded := false, tag := "", pkgPath := "", byteOffset := 8 }, { name := "Kind", type := 26, offset := 4, embedded := false, tag := "", pkgPath := "", byteOffset := 48 }, { name := "Name", type := 9, offset := 5, embedded := false, tag := "", pkgPath := "", byteOffset := 56 }, { name := "To", type := 9, offset := 6, embedded := false, tag := "", pkgPath := "", byteOffset := 72 }, { name := "Parts", type := 27, offset := 7, embedded := false, tag := "", pkgPath := "", byteOffset := 88 }], 8, 112, [.int .i64 0, .int .i64 0, .string ⟨#[]⟩, .string ⟨#[]⟩, .int .i64 0, .string ⟨#[]⟩, .string ⟨#[]⟩, .slice none 0 0]⟩
theorem tok29 : TOk Tryz.prog 29 ti29 := by
  obtain ⟨inf, h1, h2, h3, h4⟩ := info_parts (show (Tryz.prog.info? 29).map (fun i => (i.zero, i.size, i.bytes)) = some (some (.agg #[.int .i64 0, .int .i64 0, .string ⟨#[]⟩, .string ⟨#[]⟩, .int .i64 0, .string ⟨#[]⟩, .string ⟨#[]⟩, .slice none 0 0]), 8, 112) from by kernel_rfl)
  exact ⟨Tryz.underlying29, inf, _, h1, h2, rfl, h3, h4, rfl⟩
def ti32 : TI := ⟨.int .i64, 1, 8, [.int .i64 0]⟩
theorem tok32 : TOk Tryz.prog 32 ti32 := by
  obtain ⟨inf, h1, h2, h3, h4⟩ := info_parts (show (Tryz.prog.info? 32).map (fun i => (i.zero, i.size, i.bytes)) = some (some (.int .i64 0), 1, 8) from by kernel_rfl)
  exact ⟨Tryz.underlying32, inf, _, h1, h2, rfl, h3, h4, rfl⟩
def ti47 : TI := ⟨.slice 5, 1, 24, [.slice none 0 0]⟩
theorem tok47 : TOk Tryz.prog 47 ti47 := by
  obtain ⟨inf, h1, h2, h3, h4⟩ := info_parts (show (Tryz.prog.info? 47).map (fun i => (i.zero, i.size, i.bytes)) = some (some (.slice none 0 0), 1, 24) from by kernel_rfl)
  exact ⟨Tryz.underlying47, inf, _, h1, h2, rfl, h3, h4, rfl⟩
def ti48 : TI := ⟨.slice 52, 1, 24, [.slice none 0 0]⟩
theorem tok48 : TOk Tryz.prog 48 ti48 := by
  obtain ⟨inf, h1, h2, h3, h4⟩ := info_parts (show (Tryz.prog.info? 48).map (fun i => (i.zero, i.size, i.bytes)) = some (some (.slice none 0 0), 1, 24) from by kernel_rfl)
  exact ⟨Tryz.underlying48, inf, _, h1, h2, rfl, h3, h4, rfl⟩
def ti52 : TI := ⟨.struct #[{ name := "Text", type := 9, offset := 0, embedded := false, tag := "", pkgPath := "", byteOffset := 0 }, { name := "Quoted", type := 4, offset := 1, embedded := false, tag := "", pkgPath := "", byteOffset := 16 }], 2, 24, [.string ⟨#[]⟩, .bool false]⟩
theorem tok52 : TOk Tryz.prog 52 ti52 := by
  obtain ⟨inf, h1, h2, h3, h4⟩ := info_parts (show (Tryz.prog.info? 52).map (fun i => (i.zero, i.size, i.bytes)) = some (some (.agg #[.string ⟨#[]⟩, .bool false]), 2, 24) from by kernel_rfl)
  exact ⟨Tryz.underlying52, inf, _, h1, h2, rfl, h3, h4, rfl⟩
def ti58 : TI := ⟨.slice 29, 1, 24, [.slice none 0 0]⟩
theorem tok58 : TOk Tryz.prog 58 ti58 := by
  obtain ⟨inf, h1, h2, h3, h4⟩ := info_parts (show (Tryz.prog.info? 58).map (fun i => (i.zero, i.size, i.bytes)) = some (some (.slice none 0 0), 1, 24) from by kernel_rfl)
  exact ⟨Tryz.underlying58, inf, _, h1, h2, rfl, h3, h4, rfl⟩
def ti62 : TI := ⟨.struct #[{ name := "L", type := 58, offset := 0, embedded := false, tag := "", pkgPath := "", byteOffset := 0 }, { name := "Line", type := 3, offset := 1, embedded := false, tag := "", pkgPath := "", byteOffset := 24 }, { name := "Err", type := 3, offset := 2, embedded := false, tag := "", pkgPath := "", byteOffset := 32 }], 3, 40, [.slice none 0 0, .int .i64 0, .int .i64 0]⟩
theorem tok62 : TOk Tryz.prog 62 ti62 := by
  obtain ⟨inf, h1, h2, h3, h4⟩ := info_parts (show (Tryz.prog.info? 62).map (fun i => (i.zero, i.size, i.bytes)) = some (some (.agg #[.slice none 0 0, .int .i64 0, .int .i64 0]), 3, 40) from by kernel_rfl)
  exact ⟨Tryz.underlying62, inf, _, h1, h2, rfl, h3, h4, rfl⟩
def ti73 : TI := ⟨.array 4 9, 4, 64, [.string ⟨#[]⟩, .string ⟨#[]⟩, .string ⟨#[]⟩, .string ⟨#[]⟩]⟩
theorem tok73 : TOk Tryz.prog 73 ti73 := by
  obtain ⟨inf, h1, h2, h3, h4⟩ := info_parts (show (Tryz.prog.info? 73).map (fun i => (i.zero, i.size, i.bytes)) = some (some (.agg #[.string ⟨#[]⟩, .string ⟨#[]⟩, .string ⟨#[]⟩, .string ⟨#[]⟩]), 4, 64) from by kernel_rfl)
  exact ⟨Tryz.underlying73, inf, _, h1, h2, rfl, h3, h4, rfl⟩
def ti76 : TI := ⟨.slice 9, 1, 24, [.slice none 0 0]⟩
theorem tok76 : TOk Tryz.prog 76 ti76 := by
  obtain ⟨inf, h1, h2, h3, h4⟩ := info_parts (show (Tryz.prog.info? 76).map (fun i => (i.zero, i.size, i.bytes)) = some (some (.slice none 0 0), 1, 24) from by kernel_rfl)
  exact ⟨Tryz.underlying76, inf, _, h1, h2, rfl, h3, h4, rfl⟩
def ti78 : TI := ⟨.struct #[{ name := "words", type := 76, offset := 0, embedded := false, tag := "", pkgPath := "doorstep/ruleprint", byteOffset := 0 }], 1, 24, [.slice none 0 0]⟩
theorem tok78 : TOk Tryz.prog 78 ti78 := by
  obtain ⟨inf, h1, h2, h3, h4⟩ := info_parts (show (Tryz.prog.info? 78).map (fun i => (i.zero, i.size, i.bytes)) = some (some (.agg #[.slice none 0 0]), 1, 24) from by kernel_rfl)
  exact ⟨Tryz.underlying78, inf, _, h1, h2, rfl, h3, h4, rfl⟩
def ti84 : TI := ⟨.int .i64, 1, 8, [.int .i64 0]⟩
theorem tok84 : TOk Tryz.prog 84 ti84 := by
  obtain ⟨inf, h1, h2, h3, h4⟩ := info_parts (show (Tryz.prog.info? 84).map (fun i => (i.zero, i.size, i.bytes)) = some (some (.int .i64 0), 1, 8) from by kernel_rfl)
  exact ⟨Tryz.underlying84, inf, _, h1, h2, rfl, h3, h4, rfl⟩
def ti86 : TI := ⟨.struct #[{ name := "Kind", type := 84, offset := 0, embedded := false, tag := "", pkgPath := "", byteOffset := 0 }, { name := "Text", type := 9, offset := 1, embedded := false, tag := "", pkgPath := "", byteOffset := 8 }], 2, 24, [.int .i64 0, .string ⟨#[]⟩]⟩
theorem tok86 : TOk Tryz.prog 86 ti86 := by
  obtain ⟨inf, h1, h2, h3, h4⟩ := info_parts (show (Tryz.prog.info? 86).map (fun i => (i.zero, i.size, i.bytes)) = some (some (.agg #[.int .i64 0, .string ⟨#[]⟩]), 2, 24) from by kernel_rfl)
  exact ⟨Tryz.underlying86, inf, _, h1, h2, rfl, h3, h4, rfl⟩
def ti88 : TI := ⟨.struct #[{ name := "e", type := 32, offset := 0, embedded := false, tag := "", pkgPath := "doorstep/ruletext", byteOffset := 0 }], 1, 8, [.int .i64 0]⟩
theorem tok88 : TOk Tryz.prog 88 ti88 := by
  obtain ⟨inf, h1, h2, h3, h4⟩ := info_parts (show (Tryz.prog.info? 88).map (fun i => (i.zero, i.size, i.bytes)) = some (some (.agg #[.int .i64 0]), 1, 8) from by kernel_rfl)
  exact ⟨Tryz.underlying88, inf, _, h1, h2, rfl, h3, h4, rfl⟩
def ti90 : TI := ⟨.pointer 117, 1, 8, [.pointer none]⟩
theorem tok90 : TOk Tryz.prog 90 ti90 := by
  obtain ⟨inf, h1, h2, h3, h4⟩ := info_parts (show (Tryz.prog.info? 90).map (fun i => (i.zero, i.size, i.bytes)) = some (some (.pointer none), 1, 8) from by kernel_rfl)
  exact ⟨Tryz.underlying90, inf, _, h1, h2, rfl, h3, h4, rfl⟩
def ti93 : TI := ⟨.struct #[{ name := "Scanner", type := 90, offset := 0, embedded := true, tag := "", pkgPath := "", byteOffset := 0 }, { name := "long", type := 4, offset := 1, embedded := false, tag := "", pkgPath := "doorstep/ruletext", byteOffset := 8 }], 2, 16, [.pointer none, .bool false]⟩
theorem tok93 : TOk Tryz.prog 93 ti93 := by
  obtain ⟨inf, h1, h2, h3, h4⟩ := info_parts (show (Tryz.prog.info? 93).map (fun i => (i.zero, i.size, i.bytes)) = some (some (.agg #[.pointer none, .bool false]), 2, 16) from by kernel_rfl)
  exact ⟨Tryz.underlying93, inf, _, h1, h2, rfl, h3, h4, rfl⟩
def ti105 : TI := ⟨.pointer 137, 1, 8, [.pointer none]⟩
theorem tok105 : TOk Tryz.prog 105 ti105 := by
  obtain ⟨inf, h1, h2, h3, h4⟩ := info_parts (show (Tryz.prog.info? 105).map (fun i => (i.zero, i.size, i.bytes)) = some (some (.pointer none), 1, 8) from by kernel_rfl)
  exact ⟨Tryz.underlying105, inf, _, h1, h2, rfl, h3, h4, rfl⟩
def ti117 : TI := ⟨.struct #[{ name := "s", type := 9, offset := 0, embedded := false, tag := "", pkgPath := "doorstep/scan", byteOffset := 0 }, { name := "at", type := 3, offset := 1, embedded := false, tag := "", pkgPath := "doorstep/scan", byteOffset := 16 }], 2, 24, [.string ⟨#[]⟩, .int .i64 0]⟩
theorem tok117 : TOk Tryz.prog 117 ti117 := by
  obtain ⟨inf, h1, h2, h3, h4⟩ := info_parts (show (Tryz.prog.info? 117).map (fun i => (i.zero, i.size, i.bytes)) = some (some (.agg #[.string ⟨#[]⟩, .int .i64 0]), 2, 24) from by kernel_rfl)
  exact ⟨Tryz.underlying117, inf, _, h1, h2, rfl, h3, h4, rfl⟩
def ti130 : TI := ⟨.struct #[{ name := "Name", type := 9, offset := 0, embedded := false, tag := "", pkgPath := "", byteOffset := 0 }, { name := "Value", type := 9, offset := 1, embedded := false, tag := "", pkgPath := "", byteOffset := 16 }], 2, 32, [.string ⟨#[]⟩, .string ⟨#[]⟩]⟩
theorem tok130 : TOk Tryz.prog 130 ti130 := by
  obtain ⟨inf, h1, h2, h3, h4⟩ := info_parts (show (Tryz.prog.info? 130).map (fun i => (i.zero, i.size, i.bytes)) = some (some (.agg #[.string ⟨#[]⟩, .string ⟨#[]⟩]), 2, 32) from by kernel_rfl)
  exact ⟨Tryz.underlying130, inf, _, h1, h2, rfl, h3, h4, rfl⟩
def ti137 : TI := ⟨.struct #[{ name := "b", type := 47, offset := 0, embedded := false, tag := "", pkgPath := "doorstep/quill", byteOffset := 0 }, { name := "most", type := 3, offset := 1, embedded := false, tag := "", pkgPath := "doorstep/quill", byteOffset := 24 }], 2, 32, [.slice none 0 0, .int .i64 0]⟩
theorem tok137 : TOk Tryz.prog 137 ti137 := by
  obtain ⟨inf, h1, h2, h3, h4⟩ := info_parts (show (Tryz.prog.info? 137).map (fun i => (i.zero, i.size, i.bytes)) = some (some (.agg #[.slice none 0 0, .int .i64 0]), 2, 32) from by kernel_rfl)
  exact ⟨Tryz.underlying137, inf, _, h1, h2, rfl, h3, h4, rfl⟩
def ti163 : TI := ⟨.struct #[{ name := "Scanner", type := 90, offset := 0, embedded := true, tag := "", pkgPath := "", byteOffset := 0 }, { name := "out", type := 27, offset := 1, embedded := false, tag := "", pkgPath := "doorstep/tmpl", byteOffset := 8 }], 2, 32, [.pointer none, .slice none 0 0]⟩
theorem tok163 : TOk Tryz.prog 163 ti163 := by
  obtain ⟨inf, h1, h2, h3, h4⟩ := info_parts (show (Tryz.prog.info? 163).map (fun i => (i.zero, i.size, i.bytes)) = some (some (.agg #[.pointer none, .slice none 0 0]), 2, 32) from by kernel_rfl)
  exact ⟨Tryz.underlying163, inf, _, h1, h2, rfl, h3, h4, rfl⟩
def ti189 : TI := ⟨.struct #[{ name := "Scanner", type := 90, offset := 0, embedded := true, tag := "", pkgPath := "", byteOffset := 0 }, { name := "out", type := 47, offset := 1, embedded := false, tag := "", pkgPath := "doorstep/quoted", byteOffset := 8 }], 2, 32, [.pointer none, .slice none 0 0]⟩
theorem tok189 : TOk Tryz.prog 189 ti189 := by
  obtain ⟨inf, h1, h2, h3, h4⟩ := info_parts (show (Tryz.prog.info? 189).map (fun i => (i.zero, i.size, i.bytes)) = some (some (.agg #[.pointer none, .slice none 0 0]), 2, 32) from by kernel_rfl)
  exact ⟨Tryz.underlying189, inf, _, h1, h2, rfl, h3, h4, rfl⟩
def T : Tab := findT [(3, ti3), (4, ti4), (5, ti5), (9, ti9), (21, ti21), (22, ti22), (23, ti23), (25, ti25), (26, ti26), (27, ti27), (29, ti29), (32, ti32), (47, ti47), (48, ti48), (52, ti52), (58, ti58), (62, ti62), (73, ti73), (76, ti76), (78, ti78), (84, ti84), (86, ti86), (88, ti88), (90, ti90), (93, ti93), (105, ti105), (117, ti117), (130, ti130), (137, ti137), (163, ti163), (189, ti189)]
theorem T_ok : T.Ok Tryz.prog := findT_ok (.cons tok3 (.cons tok4 (.cons tok5 (.cons tok9 (.cons tok21 (.cons tok22 (.cons tok23 (.cons tok25 (.cons tok26 (.cons tok27 (.cons tok29 (.cons tok32 (.cons tok47 (.cons tok48 (.cons tok52 (.cons tok58 (.cons tok62 (.cons tok73 (.cons tok76 (.cons tok78 (.cons tok84 (.cons tok86 (.cons tok88 (.cons tok90 (.cons tok93 (.cons tok105 (.cons tok117 (.cons tok130 (.cons tok137 (.cons tok163 (.cons tok189 (.nil))))))))))))))))))))))))))))))))
end Go.Proofs.YtgaidgblihnldaaGreatDoor
