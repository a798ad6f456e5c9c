/- The types that the functions use, in a table; each row is proved. No statement of its own. -/
import Derived.Test.YtfhodppaelfcfaaGreatDoorProg
import Derived.Test.YtfhodppaelfcfaaGreatDoorVz
set_option linter.unusedSimpArgs false
set_option linter.unusedVariables false
set_option maxRecDepth 100000
namespace Go.Proofs.YtfhodppaelfcfaaGreatDoor
open Go.RowKit

def ti3 : TI := ⟨.int .i64, 1, 8, [.int .i64 0]⟩
theorem tok3 : TOk Tryz.prog 3 ti3 := by
  obtain ⟨inf, h1, h2, h3, h4⟩ := info_parts (show (Tryz.prog.info? 3).map (fun i => (i.zero, i.size, i.bytes)) = some (some (.int .i64 0), 1, 8) from by kernel_rfl)
  exact ⟨Tryz.underlying3, inf, _, h1, h2, rfl, h3, h4, rfl⟩
def ti4 : TI := ⟨.bool, 1, 1, [.bool false]⟩
theorem tok4 : TOk Tryz.prog 4 ti4 := by
  obtain ⟨inf, h1, h2, h3, h4⟩ := info_parts (show (Tryz.prog.info? 4).map (fun i => (i.zero, i.size, i.bytes)) = some (some (.bool false), 1, 1) from by kernel_rfl)
  exact ⟨Tryz.underlying4, inf, _, h1, h2, rfl, h3, h4, rfl⟩
def ti5 : TI := ⟨.int .u8, 1, 1, [.int .u8 0]⟩
theorem tok5 : TOk Tryz.prog 5 ti5 := by
  obtain ⟨inf, h1, h2, h3, h4⟩ := info_parts (show (Tryz.prog.info? 5).map (fun i => (i.zero, i.size, i.bytes)) = some (some (.int .u8 0), 1, 1) from by kernel_rfl)
  exact ⟨Tryz.underlying5, inf, _, h1, h2, rfl, h3, h4, rfl⟩
def ti9 : TI := ⟨.string, 1, 16, [.string ⟨#[]⟩]⟩
theorem tok9 : TOk Tryz.prog 9 ti9 := by
  obtain ⟨inf, h1, h2, h3, h4⟩ := info_parts (show (Tryz.prog.info? 9).map (fun i => (i.zero, i.size, i.bytes)) = some (some (.string ⟨#[]⟩), 1, 16) from by kernel_rfl)
  exact ⟨Tryz.underlying9, inf, _, h1, h2, rfl, h3, h4, rfl⟩
def ti22 : TI := ⟨.int .i64, 1, 8, [.int .i64 0]⟩
theorem tok22 : TOk Tryz.prog 22 ti22 := by
  obtain ⟨inf, h1, h2, h3, h4⟩ := info_parts (show (Tryz.prog.info? 22).map (fun i => (i.zero, i.size, i.bytes)) = some (some (.int .i64 0), 1, 8) from by kernel_rfl)
  exact ⟨Tryz.underlying22, inf, _, h1, h2, rfl, h3, h4, rfl⟩
def ti23 : TI := ⟨.int .i64, 1, 8, [.int .i64 0]⟩
theorem tok23 : TOk Tryz.prog 23 ti23 := by
  obtain ⟨inf, h1, h2, h3, h4⟩ := info_parts (show (Tryz.prog.info? 23).map (fun i => (i.zero, i.size, i.bytes)) = some (some (.int .i64 0), 1, 8) from by kernel_rfl)
  exact ⟨Tryz.underlying23, inf, _, h1, h2, rfl, h3, h4, rfl⟩
def ti25 : TI := ⟨.struct #[{ name := "Kind", type := 23, offset := 0, embedded := false, tag := "", pkgPath := "", byteOffset := 0 }, { name := "Name", type := 9, offset := 1, embedded := false, tag := "", pkgPath := "", byteOffset := 8 }, { name := "Value", type := 9, offset := 2, embedded := false, tag := "", pkgPath := "", byteOffset := 24 }], 3, 40, [.int .i64 0, .string ⟨#[]⟩, .string ⟨#[]⟩]⟩
theorem tok25 : TOk Tryz.prog 25 ti25 := by
  obtain ⟨inf, h1, h2, h3, h4⟩ := info_parts (show (Tryz.prog.info? 25).map (fun i => (i.zero, i.size, i.bytes)) = some (some (.agg #[.int .i64 0, .string ⟨#[]⟩, .string ⟨#[]⟩]), 3, 40) from by kernel_rfl)
  exact ⟨Tryz.underlying25, inf, _, h1, h2, rfl, h3, h4, rfl⟩
def ti26 : TI := ⟨.int .i64, 1, 8, [.int .i64 0]⟩
theorem tok26 : TOk Tryz.prog 26 ti26 := by
  obtain ⟨inf, h1, h2, h3, h4⟩ := info_parts (show (Tryz.prog.info? 26).map (fun i => (i.zero, i.size, i.bytes)) = some (some (.int .i64 0), 1, 8) from by kernel_rfl)
  exact ⟨Tryz.underlying26, inf, _, h1, h2, rfl, h3, h4, rfl⟩
def ti27 : TI := ⟨.slice 43, 1, 24, [.slice none 0 0]⟩
theorem tok27 : TOk Tryz.prog 27 ti27 := by
  obtain ⟨inf, h1, h2, h3, h4⟩ := info_parts (show (Tryz.prog.info? 27).map (fun i => (i.zero, i.size, i.bytes)) = some (some (.slice none 0 0), 1, 24) from by kernel_rfl)
  exact ⟨Tryz.underlying27, inf, _, h1, h2, rfl, h3, h4, rfl⟩
def ti29 : TI := ⟨.struct #[{ name := "Side", type := 22, offset := 0, embedded := false, tag := "", pkgPath := "", byteOffset := 0 }, { name := "Guard", type := 25, offset := 1, embedded := false, tag := "", pkgPath := "", byteOffset := 8 }, { name := "Kind", type := 26, offset := 4, embedded := false, tag := "", pkgPath := "", byteOffset := 48 }, { name := "Name", type := 9, offset := 5, embedded := false, tag := "", pkgPath := "", byteOffset := 56 }, { name := "To", type := 9, offset := 6, embedded := false, tag := "", pkgPath := "", byteOffset := 72 }, { name := "Parts", type := 27, offset := 7, embedded := false, tag := "", pkgPath := "", byteOffset := 88 }], 8, 112, [.int .i64 0, .int .i64 0, .string ⟨#[]⟩, .string ⟨#[]⟩, .int .i64 0, .string ⟨#[]⟩, .string ⟨#[]⟩, .slice none 0 0]⟩
theorem tok29 : TOk Tryz.prog 29 ti29 := by
  obtain ⟨inf, h1, h2, h3, h4⟩ := info_parts (show (Tryz.prog.info? 29).map (fun i => (i.zero, i.size, i.bytes)) = some (some (.agg #[.int .i64 0, .int .i64 0, .string ⟨#[]⟩, .string ⟨#[]⟩, .int .i64 0, .string ⟨#[]⟩, .string ⟨#[]⟩, .slice none 0 0]), 8, 112) from by kernel_rfl)
  exact ⟨Tryz.underlying29, inf, _, h1, h2, rfl, h3, h4, rfl⟩
def ti32 : TI := ⟨.int .i64, 1, 8, [.int .i64 0]⟩
theorem tok32 : TOk Tryz.prog 32 ti32 := by
  obtain ⟨inf, h1, h2, h3, h4⟩ := info_parts (show (Tryz.prog.info? 32).map (fun i => (i.zero, i.size, i.bytes)) = some (some (.int .i64 0), 1, 8) from by kernel_rfl)
  exact ⟨Tryz.underlying32, inf, _, h1, h2, rfl, h3, h4, rfl⟩
def ti34 : TI := ⟨.slice 9, 1, 24, [.slice none 0 0]⟩
theorem tok34 : TOk Tryz.prog 34 ti34 := by
  obtain ⟨inf, h1, h2, h3, h4⟩ := info_parts (show (Tryz.prog.info? 34).map (fun i => (i.zero, i.size, i.bytes)) = some (some (.slice none 0 0), 1, 24) from by kernel_rfl)
  exact ⟨Tryz.underlying34, inf, _, h1, h2, rfl, h3, h4, rfl⟩
def ti41 : TI := ⟨.int .i64, 1, 8, [.int .i64 0]⟩
theorem tok41 : TOk Tryz.prog 41 ti41 := by
  obtain ⟨inf, h1, h2, h3, h4⟩ := info_parts (show (Tryz.prog.info? 41).map (fun i => (i.zero, i.size, i.bytes)) = some (some (.int .i64 0), 1, 8) from by kernel_rfl)
  exact ⟨Tryz.underlying41, inf, _, h1, h2, rfl, h3, h4, rfl⟩
def ti43 : TI := ⟨.struct #[{ name := "Kind", type := 41, offset := 0, embedded := false, tag := "", pkgPath := "", byteOffset := 0 }, { name := "Text", type := 9, offset := 1, embedded := false, tag := "", pkgPath := "", byteOffset := 8 }], 2, 24, [.int .i64 0, .string ⟨#[]⟩]⟩
theorem tok43 : TOk Tryz.prog 43 ti43 := by
  obtain ⟨inf, h1, h2, h3, h4⟩ := info_parts (show (Tryz.prog.info? 43).map (fun i => (i.zero, i.size, i.bytes)) = some (some (.agg #[.int .i64 0, .string ⟨#[]⟩]), 2, 24) from by kernel_rfl)
  exact ⟨Tryz.underlying43, inf, _, h1, h2, rfl, h3, h4, rfl⟩
def ti44 : TI := ⟨.array 4 9, 4, 64, [.string ⟨#[]⟩, .string ⟨#[]⟩, .string ⟨#[]⟩, .string ⟨#[]⟩]⟩
theorem tok44 : TOk Tryz.prog 44 ti44 := by
  obtain ⟨inf, h1, h2, h3, h4⟩ := info_parts (show (Tryz.prog.info? 44).map (fun i => (i.zero, i.size, i.bytes)) = some (some (.agg #[.string ⟨#[]⟩, .string ⟨#[]⟩, .string ⟨#[]⟩, .string ⟨#[]⟩]), 4, 64) from by kernel_rfl)
  exact ⟨Tryz.underlying44, inf, _, h1, h2, rfl, h3, h4, rfl⟩
def ti55 : TI := ⟨.struct #[{ name := "Name", type := 9, offset := 0, embedded := false, tag := "", pkgPath := "", byteOffset := 0 }, { name := "Value", type := 9, offset := 1, embedded := false, tag := "", pkgPath := "", byteOffset := 16 }], 2, 32, [.string ⟨#[]⟩, .string ⟨#[]⟩]⟩
theorem tok55 : TOk Tryz.prog 55 ti55 := by
  obtain ⟨inf, h1, h2, h3, h4⟩ := info_parts (show (Tryz.prog.info? 55).map (fun i => (i.zero, i.size, i.bytes)) = some (some (.agg #[.string ⟨#[]⟩, .string ⟨#[]⟩]), 2, 32) from by kernel_rfl)
  exact ⟨Tryz.underlying55, inf, _, h1, h2, rfl, h3, h4, rfl⟩
def ti57 : TI := ⟨.slice 5, 1, 24, [.slice none 0 0]⟩
theorem tok57 : TOk Tryz.prog 57 ti57 := by
  obtain ⟨inf, h1, h2, h3, h4⟩ := info_parts (show (Tryz.prog.info? 57).map (fun i => (i.zero, i.size, i.bytes)) = some (some (.slice none 0 0), 1, 24) from by kernel_rfl)
  exact ⟨Tryz.underlying57, inf, _, h1, h2, rfl, h3, h4, rfl⟩
def ti91 : TI := ⟨.pointer 107, 1, 8, [.pointer none]⟩
theorem tok91 : TOk Tryz.prog 91 ti91 := by
  obtain ⟨inf, h1, h2, h3, h4⟩ := info_parts (show (Tryz.prog.info? 91).map (fun i => (i.zero, i.size, i.bytes)) = some (some (.pointer none), 1, 8) from by kernel_rfl)
  exact ⟨Tryz.underlying91, inf, _, h1, h2, rfl, h3, h4, rfl⟩
def ti94 : TI := ⟨.struct #[{ name := "Scanner", type := 91, offset := 0, embedded := true, tag := "", pkgPath := "", byteOffset := 0 }, { name := "out", type := 27, offset := 1, embedded := false, tag := "", pkgPath := "doorstep/tmpl", byteOffset := 8 }], 2, 32, [.pointer none, .slice none 0 0]⟩
theorem tok94 : TOk Tryz.prog 94 ti94 := by
  obtain ⟨inf, h1, h2, h3, h4⟩ := info_parts (show (Tryz.prog.info? 94).map (fun i => (i.zero, i.size, i.bytes)) = some (some (.agg #[.pointer none, .slice none 0 0]), 2, 32) from by kernel_rfl)
  exact ⟨Tryz.underlying94, inf, _, h1, h2, rfl, h3, h4, rfl⟩
def ti107 : TI := ⟨.struct #[{ name := "s", type := 9, offset := 0, embedded := false, tag := "", pkgPath := "doorstep/scan", byteOffset := 0 }, { name := "at", type := 3, offset := 1, embedded := false, tag := "", pkgPath := "doorstep/scan", byteOffset := 16 }], 2, 24, [.string ⟨#[]⟩, .int .i64 0]⟩
theorem tok107 : TOk Tryz.prog 107 ti107 := by
  obtain ⟨inf, h1, h2, h3, h4⟩ := info_parts (show (Tryz.prog.info? 107).map (fun i => (i.zero, i.size, i.bytes)) = some (some (.agg #[.string ⟨#[]⟩, .int .i64 0]), 2, 24) from by kernel_rfl)
  exact ⟨Tryz.underlying107, inf, _, h1, h2, rfl, h3, h4, rfl⟩
def T : Tab := findT [(3, ti3), (4, ti4), (5, ti5), (9, ti9), (22, ti22), (23, ti23), (25, ti25), (26, ti26), (27, ti27), (29, ti29), (32, ti32), (34, ti34), (41, ti41), (43, ti43), (44, ti44), (55, ti55), (57, ti57), (91, ti91), (94, ti94), (107, ti107)]
theorem T_ok : T.Ok Tryz.prog := findT_ok (.cons tok3 (.cons tok4 (.cons tok5 (.cons tok9 (.cons tok22 (.cons tok23 (.cons tok25 (.cons tok26 (.cons tok27 (.cons tok29 (.cons tok32 (.cons tok34 (.cons tok41 (.cons tok43 (.cons tok44 (.cons tok55 (.cons tok57 (.cons tok91 (.cons tok94 (.cons tok107 (.nil)))))))))))))))))))))
end Go.Proofs.YtfhodppaelfcfaaGreatDoor
