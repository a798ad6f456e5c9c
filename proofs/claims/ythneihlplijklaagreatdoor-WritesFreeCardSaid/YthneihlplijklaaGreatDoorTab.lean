/- The types that the functions use, in a table; each row is proved. No statement of its own. -/
import Derived.Test.YthneihlplijklaaGreatDoorProg
import Derived.Test.YthneihlplijklaaGreatDoorVz
set_option linter.unusedSimpArgs false
set_option linter.unusedVariables false
set_option maxRecDepth 100000
namespace Go.Proofs.YthneihlplijklaaGreatDoor
open Go.RowKit

def ti3 : TI := ⟨.int .i64, 1, 8, [.int .i64 0]⟩
theorem tok3 : TOk Tryz.prog 3 ti3 := by
  obtain ⟨inf, h1, h2, h3, h4⟩ := info_parts (show (Tryz.prog.info? 3).map (fun i => (i.zero, i.size, i.bytes)) = some (some (.int .i64 0), 1, 8) from by kernel_rfl)
  exact ⟨Tryz.underlying3, inf, _, h1, h2, rfl, h3, h4, rfl⟩
def ti4 : TI := ⟨.bool, 1, 1, [.bool false]⟩
theorem tok4 : TOk Tryz.prog 4 ti4 := by
  obtain ⟨inf, h1, h2, h3, h4⟩ := info_parts (show (Tryz.prog.info? 4).map (fun i => (i.zero, i.size, i.bytes)) = some (some (.bool false), 1, 1) from by kernel_rfl)
  exact ⟨Tryz.underlying4, inf, _, h1, h2, rfl, h3, h4, rfl⟩
def ti5 : TI := ⟨.int .u8, 1, 1, [.int .u8 0]⟩
theorem tok5 : TOk Tryz.prog 5 ti5 := by
  obtain ⟨inf, h1, h2, h3, h4⟩ := info_parts (show (Tryz.prog.info? 5).map (fun i => (i.zero, i.size, i.bytes)) = some (some (.int .u8 0), 1, 1) from by kernel_rfl)
  exact ⟨Tryz.underlying5, inf, _, h1, h2, rfl, h3, h4, rfl⟩
def ti9 : TI := ⟨.string, 1, 16, [.string ⟨#[]⟩]⟩
theorem tok9 : TOk Tryz.prog 9 ti9 := by
  obtain ⟨inf, h1, h2, h3, h4⟩ := info_parts (show (Tryz.prog.info? 9).map (fun i => (i.zero, i.size, i.bytes)) = some (some (.string ⟨#[]⟩), 1, 16) from by kernel_rfl)
  exact ⟨Tryz.underlying9, inf, _, h1, h2, rfl, h3, h4, rfl⟩
def ti22 : TI := ⟨.int .i64, 1, 8, [.int .i64 0]⟩
theorem tok22 : TOk Tryz.prog 22 ti22 := by
  obtain ⟨inf, h1, h2, h3, h4⟩ := info_parts (show (Tryz.prog.info? 22).map (fun i => (i.zero, i.size, i.bytes)) = some (some (.int .i64 0), 1, 8) from by kernel_rfl)
  exact ⟨Tryz.underlying22, inf, _, h1, h2, rfl, h3, h4, rfl⟩
def ti23 : TI := ⟨.slice 45, 1, 24, [.slice none 0 0]⟩
theorem tok23 : TOk Tryz.prog 23 ti23 := by
  obtain ⟨inf, h1, h2, h3, h4⟩ := info_parts (show (Tryz.prog.info? 23).map (fun i => (i.zero, i.size, i.bytes)) = some (some (.slice none 0 0), 1, 24) from by kernel_rfl)
  exact ⟨Tryz.underlying23, inf, _, h1, h2, rfl, h3, h4, rfl⟩
def ti26 : TI := ⟨.slice 38, 1, 24, [.slice none 0 0]⟩
theorem tok26 : TOk Tryz.prog 26 ti26 := by
  obtain ⟨inf, h1, h2, h3, h4⟩ := info_parts (show (Tryz.prog.info? 26).map (fun i => (i.zero, i.size, i.bytes)) = some (some (.slice none 0 0), 1, 24) from by kernel_rfl)
  exact ⟨Tryz.underlying26, inf, _, h1, h2, rfl, h3, h4, rfl⟩
def ti27 : TI := ⟨.int .i64, 1, 8, [.int .i64 0]⟩
theorem tok27 : TOk Tryz.prog 27 ti27 := by
  obtain ⟨inf, h1, h2, h3, h4⟩ := info_parts (show (Tryz.prog.info? 27).map (fun i => (i.zero, i.size, i.bytes)) = some (some (.int .i64 0), 1, 8) from by kernel_rfl)
  exact ⟨Tryz.underlying27, inf, _, h1, h2, rfl, h3, h4, rfl⟩
def ti35 : TI := ⟨.int .i64, 1, 8, [.int .i64 0]⟩
theorem tok35 : TOk Tryz.prog 35 ti35 := by
  obtain ⟨inf, h1, h2, h3, h4⟩ := info_parts (show (Tryz.prog.info? 35).map (fun i => (i.zero, i.size, i.bytes)) = some (some (.int .i64 0), 1, 8) from by kernel_rfl)
  exact ⟨Tryz.underlying35, inf, _, h1, h2, rfl, h3, h4, rfl⟩
def ti36 : TI := ⟨.slice 89, 1, 24, [.slice none 0 0]⟩
theorem tok36 : TOk Tryz.prog 36 ti36 := by
  obtain ⟨inf, h1, h2, h3, h4⟩ := info_parts (show (Tryz.prog.info? 36).map (fun i => (i.zero, i.size, i.bytes)) = some (some (.slice none 0 0), 1, 24) from by kernel_rfl)
  exact ⟨Tryz.underlying36, inf, _, h1, h2, rfl, h3, h4, rfl⟩
def ti38 : TI := ⟨.struct #[{ name := "Kind", type := 35, offset := 0, embedded := false, tag := "", pkgPath := "", byteOffset := 0 }, { name := "Name", type := 9, offset := 1, embedded := false, tag := "", pkgPath := "", byteOffset := 8 }, { name := "Text", type := 9, offset := 2, embedded := false, tag := "", pkgPath := "", byteOffset := 24 }, { name := "Parts", type := 36, offset := 3, embedded := false, tag := "", pkgPath := "", byteOffset := 40 }, { name := "N", type := 3, offset := 4, embedded := false, tag := "", pkgPath := "", byteOffset := 64 }], 5, 72, [.int .i64 0, .string ⟨#[]⟩, .string ⟨#[]⟩, .slice none 0 0, .int .i64 0]⟩
theorem tok38 : TOk Tryz.prog 38 ti38 := by
  obtain ⟨inf, h1, h2, h3, h4⟩ := info_parts (show (Tryz.prog.info? 38).map (fun i => (i.zero, i.size, i.bytes)) = some (some (.agg #[.int .i64 0, .string ⟨#[]⟩, .string ⟨#[]⟩, .slice none 0 0, .int .i64 0]), 5, 72) from by kernel_rfl)
  exact ⟨Tryz.underlying38, inf, _, h1, h2, rfl, h3, h4, rfl⟩
def ti40 : TI := ⟨.int .i64, 1, 8, [.int .i64 0]⟩
theorem tok40 : TOk Tryz.prog 40 ti40 := by
  obtain ⟨inf, h1, h2, h3, h4⟩ := info_parts (show (Tryz.prog.info? 40).map (fun i => (i.zero, i.size, i.bytes)) = some (some (.int .i64 0), 1, 8) from by kernel_rfl)
  exact ⟨Tryz.underlying40, inf, _, h1, h2, rfl, h3, h4, rfl⟩
def ti42 : TI := ⟨.struct #[{ name := "Kind", type := 40, offset := 0, embedded := false, tag := "", pkgPath := "", byteOffset := 0 }, { name := "Name", type := 9, offset := 1, embedded := false, tag := "", pkgPath := "", byteOffset := 8 }, { name := "Value", type := 9, offset := 2, embedded := false, tag := "", pkgPath := "", byteOffset := 24 }], 3, 40, [.int .i64 0, .string ⟨#[]⟩, .string ⟨#[]⟩]⟩
theorem tok42 : TOk Tryz.prog 42 ti42 := by
  obtain ⟨inf, h1, h2, h3, h4⟩ := info_parts (show (Tryz.prog.info? 42).map (fun i => (i.zero, i.size, i.bytes)) = some (some (.agg #[.int .i64 0, .string ⟨#[]⟩, .string ⟨#[]⟩]), 3, 40) from by kernel_rfl)
  exact ⟨Tryz.underlying42, inf, _, h1, h2, rfl, h3, h4, rfl⟩
def ti43 : TI := ⟨.int .i64, 1, 8, [.int .i64 0]⟩
theorem tok43 : TOk Tryz.prog 43 ti43 := by
  obtain ⟨inf, h1, h2, h3, h4⟩ := info_parts (show (Tryz.prog.info? 43).map (fun i => (i.zero, i.size, i.bytes)) = some (some (.int .i64 0), 1, 8) from by kernel_rfl)
  exact ⟨Tryz.underlying43, inf, _, h1, h2, rfl, h3, h4, rfl⟩
def ti45 : TI := ⟨.struct #[{ name := "Side", type := 22, offset := 0, embedded := false, tag := "", pkgPath := "", byteOffset := 0 }, { name := "Guard", type := 42, offset := 1, embedded := false, tag := "", pkgPath := "", byteOffset := 8 }, { name := "Kind", type := 43, offset := 4, embedded := false, tag := "", pkgPath := "", byteOffset := 48 }, { name := "Name", type := 9, offset := 5, embedded := false, tag := "", pkgPath := "", byteOffset := 56 }, { name := "To", type := 9, offset := 6, embedded := false, tag := "", pkgPath := "", byteOffset := 72 }, { name := "Parts", type := 36, offset := 7, embedded := false, tag := "", pkgPath := "", byteOffset := 88 }], 8, 112, [.int .i64 0, .int .i64 0, .string ⟨#[]⟩, .string ⟨#[]⟩, .int .i64 0, .string ⟨#[]⟩, .string ⟨#[]⟩, .slice none 0 0]⟩
theorem tok45 : TOk Tryz.prog 45 ti45 := by
  obtain ⟨inf, h1, h2, h3, h4⟩ := info_parts (show (Tryz.prog.info? 45).map (fun i => (i.zero, i.size, i.bytes)) = some (some (.agg #[.int .i64 0, .int .i64 0, .string ⟨#[]⟩, .string ⟨#[]⟩, .int .i64 0, .string ⟨#[]⟩, .string ⟨#[]⟩, .slice none 0 0]), 8, 112) from by kernel_rfl)
  exact ⟨Tryz.underlying45, inf, _, h1, h2, rfl, h3, h4, rfl⟩
def ti47 : TI := ⟨.slice 93, 1, 24, [.slice none 0 0]⟩
theorem tok47 : TOk Tryz.prog 47 ti47 := by
  obtain ⟨inf, h1, h2, h3, h4⟩ := info_parts (show (Tryz.prog.info? 47).map (fun i => (i.zero, i.size, i.bytes)) = some (some (.slice none 0 0), 1, 24) from by kernel_rfl)
  exact ⟨Tryz.underlying47, inf, _, h1, h2, rfl, h3, h4, rfl⟩
def ti49 : TI := ⟨.struct #[{ name := "Kind", type := 22, offset := 0, embedded := false, tag := "", pkgPath := "", byteOffset := 0 }, { name := "Method", type := 9, offset := 1, embedded := false, tag := "", pkgPath := "", byteOffset := 8 }, { name := "Target", type := 9, offset := 2, embedded := false, tag := "", pkgPath := "", byteOffset := 24 }, { name := "Code", type := 3, offset := 3, embedded := false, tag := "", pkgPath := "", byteOffset := 40 }, { name := "Reason", type := 9, offset := 4, embedded := false, tag := "", pkgPath := "", byteOffset := 48 }, { name := "Minor", type := 3, offset := 5, embedded := false, tag := "", pkgPath := "", byteOffset := 64 }, { name := "Fields", type := 47, offset := 6, embedded := false, tag := "", pkgPath := "", byteOffset := 72 }], 7, 96, [.int .i64 0, .string ⟨#[]⟩, .string ⟨#[]⟩, .int .i64 0, .string ⟨#[]⟩, .int .i64 0, .slice none 0 0]⟩
theorem tok49 : TOk Tryz.prog 49 ti49 := by
  obtain ⟨inf, h1, h2, h3, h4⟩ := info_parts (show (Tryz.prog.info? 49).map (fun i => (i.zero, i.size, i.bytes)) = some (some (.agg #[.int .i64 0, .string ⟨#[]⟩, .string ⟨#[]⟩, .int .i64 0, .string ⟨#[]⟩, .int .i64 0, .slice none 0 0]), 7, 96) from by kernel_rfl)
  exact ⟨Tryz.underlying49, inf, _, h1, h2, rfl, h3, h4, rfl⟩
def ti51 : TI := ⟨.slice 9, 1, 24, [.slice none 0 0]⟩
theorem tok51 : TOk Tryz.prog 51 ti51 := by
  obtain ⟨inf, h1, h2, h3, h4⟩ := info_parts (show (Tryz.prog.info? 51).map (fun i => (i.zero, i.size, i.bytes)) = some (some (.slice none 0 0), 1, 24) from by kernel_rfl)
  exact ⟨Tryz.underlying51, inf, _, h1, h2, rfl, h3, h4, rfl⟩
def ti64 : TI := ⟨.slice 178, 1, 24, [.slice none 0 0]⟩
theorem tok64 : TOk Tryz.prog 64 ti64 := by
  obtain ⟨inf, h1, h2, h3, h4⟩ := info_parts (show (Tryz.prog.info? 64).map (fun i => (i.zero, i.size, i.bytes)) = some (some (.slice none 0 0), 1, 24) from by kernel_rfl)
  exact ⟨Tryz.underlying64, inf, _, h1, h2, rfl, h3, h4, rfl⟩
def ti66 : TI := ⟨.struct #[{ name := "Known", type := 64, offset := 0, embedded := false, tag := "", pkgPath := "", byteOffset := 0 }, { name := "Fields", type := 47, offset := 1, embedded := false, tag := "", pkgPath := "", byteOffset := 24 }, { name := "Side", type := 22, offset := 2, embedded := false, tag := "", pkgPath := "", byteOffset := 48 }], 3, 56, [.slice none 0 0, .slice none 0 0, .int .i64 0]⟩
theorem tok66 : TOk Tryz.prog 66 ti66 := by
  obtain ⟨inf, h1, h2, h3, h4⟩ := info_parts (show (Tryz.prog.info? 66).map (fun i => (i.zero, i.size, i.bytes)) = some (some (.agg #[.slice none 0 0, .slice none 0 0, .int .i64 0]), 3, 56) from by kernel_rfl)
  exact ⟨Tryz.underlying66, inf, _, h1, h2, rfl, h3, h4, rfl⟩
def ti82 : TI := ⟨.struct #[{ name := "out", type := 26, offset := 0, embedded := false, tag := "", pkgPath := "doorstep/compile", byteOffset := 0 }], 1, 24, [.slice none 0 0]⟩
theorem tok82 : TOk Tryz.prog 82 ti82 := by
  obtain ⟨inf, h1, h2, h3, h4⟩ := info_parts (show (Tryz.prog.info? 82).map (fun i => (i.zero, i.size, i.bytes)) = some (some (.agg #[.slice none 0 0]), 1, 24) from by kernel_rfl)
  exact ⟨Tryz.underlying82, inf, _, h1, h2, rfl, h3, h4, rfl⟩
def ti87 : TI := ⟨.int .i64, 1, 8, [.int .i64 0]⟩
theorem tok87 : TOk Tryz.prog 87 ti87 := by
  obtain ⟨inf, h1, h2, h3, h4⟩ := info_parts (show (Tryz.prog.info? 87).map (fun i => (i.zero, i.size, i.bytes)) = some (some (.int .i64 0), 1, 8) from by kernel_rfl)
  exact ⟨Tryz.underlying87, inf, _, h1, h2, rfl, h3, h4, rfl⟩
def ti89 : TI := ⟨.struct #[{ name := "Kind", type := 87, offset := 0, embedded := false, tag := "", pkgPath := "", byteOffset := 0 }, { name := "Text", type := 9, offset := 1, embedded := false, tag := "", pkgPath := "", byteOffset := 8 }], 2, 24, [.int .i64 0, .string ⟨#[]⟩]⟩
theorem tok89 : TOk Tryz.prog 89 ti89 := by
  obtain ⟨inf, h1, h2, h3, h4⟩ := info_parts (show (Tryz.prog.info? 89).map (fun i => (i.zero, i.size, i.bytes)) = some (some (.agg #[.int .i64 0, .string ⟨#[]⟩]), 2, 24) from by kernel_rfl)
  exact ⟨Tryz.underlying89, inf, _, h1, h2, rfl, h3, h4, rfl⟩
def ti93 : TI := ⟨.struct #[{ name := "Name", type := 9, offset := 0, embedded := false, tag := "", pkgPath := "", byteOffset := 0 }, { name := "Value", type := 9, offset := 1, embedded := false, tag := "", pkgPath := "", byteOffset := 16 }], 2, 32, [.string ⟨#[]⟩, .string ⟨#[]⟩]⟩
theorem tok93 : TOk Tryz.prog 93 ti93 := by
  obtain ⟨inf, h1, h2, h3, h4⟩ := info_parts (show (Tryz.prog.info? 93).map (fun i => (i.zero, i.size, i.bytes)) = some (some (.agg #[.string ⟨#[]⟩, .string ⟨#[]⟩]), 2, 32) from by kernel_rfl)
  exact ⟨Tryz.underlying93, inf, _, h1, h2, rfl, h3, h4, rfl⟩
def ti99 : TI := ⟨.array 4 9, 4, 64, [.string ⟨#[]⟩, .string ⟨#[]⟩, .string ⟨#[]⟩, .string ⟨#[]⟩]⟩
theorem tok99 : TOk Tryz.prog 99 ti99 := by
  obtain ⟨inf, h1, h2, h3, h4⟩ := info_parts (show (Tryz.prog.info? 99).map (fun i => (i.zero, i.size, i.bytes)) = some (some (.agg #[.string ⟨#[]⟩, .string ⟨#[]⟩, .string ⟨#[]⟩, .string ⟨#[]⟩]), 4, 64) from by kernel_rfl)
  exact ⟨Tryz.underlying99, inf, _, h1, h2, rfl, h3, h4, rfl⟩
def ti103 : TI := ⟨.struct #[{ name := "words", type := 51, offset := 0, embedded := false, tag := "", pkgPath := "doorstep/ruleprint", byteOffset := 0 }], 1, 24, [.slice none 0 0]⟩
theorem tok103 : TOk Tryz.prog 103 ti103 := by
  obtain ⟨inf, h1, h2, h3, h4⟩ := info_parts (show (Tryz.prog.info? 103).map (fun i => (i.zero, i.size, i.bytes)) = some (some (.agg #[.slice none 0 0]), 1, 24) from by kernel_rfl)
  exact ⟨Tryz.underlying103, inf, _, h1, h2, rfl, h3, h4, rfl⟩
def ti112 : TI := ⟨.array 4 43, 4, 32, [.int .i64 0, .int .i64 0, .int .i64 0, .int .i64 0]⟩
theorem tok112 : TOk Tryz.prog 112 ti112 := by
  obtain ⟨inf, h1, h2, h3, h4⟩ := info_parts (show (Tryz.prog.info? 112).map (fun i => (i.zero, i.size, i.bytes)) = some (some (.agg #[.int .i64 0, .int .i64 0, .int .i64 0, .int .i64 0]), 4, 32) from by kernel_rfl)
  exact ⟨Tryz.underlying112, inf, _, h1, h2, rfl, h3, h4, rfl⟩
def ti114 : TI := ⟨.pointer 151, 1, 8, [.pointer none]⟩
theorem tok114 : TOk Tryz.prog 114 ti114 := by
  obtain ⟨inf, h1, h2, h3, h4⟩ := info_parts (show (Tryz.prog.info? 114).map (fun i => (i.zero, i.size, i.bytes)) = some (some (.pointer none), 1, 8) from by kernel_rfl)
  exact ⟨Tryz.underlying114, inf, _, h1, h2, rfl, h3, h4, rfl⟩
def ti117 : TI := ⟨.struct #[{ name := "Bag", type := 114, offset := 0, embedded := true, tag := "", pkgPath := "", byteOffset := 0 }, { name := "known", type := 64, offset := 1, embedded := false, tag := "", pkgPath := "doorstep/machine", byteOffset := 8 }, { name := "steps", type := 3, offset := 2, embedded := false, tag := "", pkgPath := "doorstep/machine", byteOffset := 32 }], 3, 40, [.pointer none, .slice none 0 0, .int .i64 0]⟩
theorem tok117 : TOk Tryz.prog 117 ti117 := by
  obtain ⟨inf, h1, h2, h3, h4⟩ := info_parts (show (Tryz.prog.info? 117).map (fun i => (i.zero, i.size, i.bytes)) = some (some (.agg #[.pointer none, .slice none 0 0, .int .i64 0]), 3, 40) from by kernel_rfl)
  exact ⟨Tryz.underlying117, inf, _, h1, h2, rfl, h3, h4, rfl⟩
def ti126 : TI := ⟨.slice 5, 1, 24, [.slice none 0 0]⟩
theorem tok126 : TOk Tryz.prog 126 ti126 := by
  obtain ⟨inf, h1, h2, h3, h4⟩ := info_parts (show (Tryz.prog.info? 126).map (fun i => (i.zero, i.size, i.bytes)) = some (some (.slice none 0 0), 1, 24) from by kernel_rfl)
  exact ⟨Tryz.underlying126, inf, _, h1, h2, rfl, h3, h4, rfl⟩
def ti151 : TI := ⟨.struct #[{ name := "l", type := 47, offset := 0, embedded := false, tag := "", pkgPath := "doorstep/bag", byteOffset := 0 }], 1, 24, [.slice none 0 0]⟩
theorem tok151 : TOk Tryz.prog 151 ti151 := by
  obtain ⟨inf, h1, h2, h3, h4⟩ := info_parts (show (Tryz.prog.info? 151).map (fun i => (i.zero, i.size, i.bytes)) = some (some (.agg #[.slice none 0 0]), 1, 24) from by kernel_rfl)
  exact ⟨Tryz.underlying151, inf, _, h1, h2, rfl, h3, h4, rfl⟩
def ti178 : TI := ⟨.struct #[{ name := "Name", type := 9, offset := 0, embedded := false, tag := "", pkgPath := "", byteOffset := 0 }, { name := "Value", type := 9, offset := 1, embedded := false, tag := "", pkgPath := "", byteOffset := 16 }], 2, 32, [.string ⟨#[]⟩, .string ⟨#[]⟩]⟩
theorem tok178 : TOk Tryz.prog 178 ti178 := by
  obtain ⟨inf, h1, h2, h3, h4⟩ := info_parts (show (Tryz.prog.info? 178).map (fun i => (i.zero, i.size, i.bytes)) = some (some (.agg #[.string ⟨#[]⟩, .string ⟨#[]⟩]), 2, 32) from by kernel_rfl)
  exact ⟨Tryz.underlying178, inf, _, h1, h2, rfl, h3, h4, rfl⟩
def ti199 : TI := ⟨.pointer 225, 1, 8, [.pointer none]⟩
theorem tok199 : TOk Tryz.prog 199 ti199 := by
  obtain ⟨inf, h1, h2, h3, h4⟩ := info_parts (show (Tryz.prog.info? 199).map (fun i => (i.zero, i.size, i.bytes)) = some (some (.pointer none), 1, 8) from by kernel_rfl)
  exact ⟨Tryz.underlying199, inf, _, h1, h2, rfl, h3, h4, rfl⟩
def ti202 : TI := ⟨.struct #[{ name := "Scanner", type := 199, offset := 0, embedded := true, tag := "", pkgPath := "", byteOffset := 0 }, { name := "out", type := 51, offset := 1, embedded := false, tag := "", pkgPath := "doorstep/commas", byteOffset := 8 }, { name := "from", type := 3, offset := 2, embedded := false, tag := "", pkgPath := "doorstep/commas", byteOffset := 32 }, { name := "s", type := 9, offset := 3, embedded := false, tag := "", pkgPath := "doorstep/commas", byteOffset := 40 }], 4, 56, [.pointer none, .slice none 0 0, .int .i64 0, .string ⟨#[]⟩]⟩
theorem tok202 : TOk Tryz.prog 202 ti202 := by
  obtain ⟨inf, h1, h2, h3, h4⟩ := info_parts (show (Tryz.prog.info? 202).map (fun i => (i.zero, i.size, i.bytes)) = some (some (.agg #[.pointer none, .slice none 0 0, .int .i64 0, .string ⟨#[]⟩]), 4, 56) from by kernel_rfl)
  exact ⟨Tryz.underlying202, inf, _, h1, h2, rfl, h3, h4, rfl⟩
def ti209 : TI := ⟨.struct #[{ name := "Scanner", type := 199, offset := 0, embedded := true, tag := "", pkgPath := "", byteOffset := 0 }, { name := "out", type := 36, offset := 1, embedded := false, tag := "", pkgPath := "doorstep/tmpl", byteOffset := 8 }], 2, 32, [.pointer none, .slice none 0 0]⟩
theorem tok209 : TOk Tryz.prog 209 ti209 := by
  obtain ⟨inf, h1, h2, h3, h4⟩ := info_parts (show (Tryz.prog.info? 209).map (fun i => (i.zero, i.size, i.bytes)) = some (some (.agg #[.pointer none, .slice none 0 0]), 2, 32) from by kernel_rfl)
  exact ⟨Tryz.underlying209, inf, _, h1, h2, rfl, h3, h4, rfl⟩
def ti225 : TI := ⟨.struct #[{ name := "s", type := 9, offset := 0, embedded := false, tag := "", pkgPath := "doorstep/scan", byteOffset := 0 }, { name := "at", type := 3, offset := 1, embedded := false, tag := "", pkgPath := "doorstep/scan", byteOffset := 16 }], 2, 24, [.string ⟨#[]⟩, .int .i64 0]⟩
theorem tok225 : TOk Tryz.prog 225 ti225 := by
  obtain ⟨inf, h1, h2, h3, h4⟩ := info_parts (show (Tryz.prog.info? 225).map (fun i => (i.zero, i.size, i.bytes)) = some (some (.agg #[.string ⟨#[]⟩, .int .i64 0]), 2, 24) from by kernel_rfl)
  exact ⟨Tryz.underlying225, inf, _, h1, h2, rfl, h3, h4, rfl⟩
def ti250 : TI := ⟨.struct #[{ name := "Scanner", type := 199, offset := 0, embedded := true, tag := "", pkgPath := "", byteOffset := 0 }, { name := "out", type := 126, offset := 1, embedded := false, tag := "", pkgPath := "doorstep/quoted", byteOffset := 8 }], 2, 32, [.pointer none, .slice none 0 0]⟩
theorem tok250 : TOk Tryz.prog 250 ti250 := by
  obtain ⟨inf, h1, h2, h3, h4⟩ := info_parts (show (Tryz.prog.info? 250).map (fun i => (i.zero, i.size, i.bytes)) = some (some (.agg #[.pointer none, .slice none 0 0]), 2, 32) from by kernel_rfl)
  exact ⟨Tryz.underlying250, inf, _, h1, h2, rfl, h3, h4, rfl⟩
def T : Tab := findT [(3, ti3), (4, ti4), (5, ti5), (9, ti9), (22, ti22), (23, ti23), (26, ti26), (27, ti27), (35, ti35), (36, ti36), (38, ti38), (40, ti40), (42, ti42), (43, ti43), (45, ti45), (47, ti47), (49, ti49), (51, ti51), (64, ti64), (66, ti66), (82, ti82), (87, ti87), (89, ti89), (93, ti93), (99, ti99), (103, ti103), (112, ti112), (114, ti114), (117, ti117), (126, ti126), (151, ti151), (178, ti178), (199, ti199), (202, ti202), (209, ti209), (225, ti225), (250, ti250)]
theorem T_ok : T.Ok Tryz.prog := findT_ok (.cons tok3 (.cons tok4 (.cons tok5 (.cons tok9 (.cons tok22 (.cons tok23 (.cons tok26 (.cons tok27 (.cons tok35 (.cons tok36 (.cons tok38 (.cons tok40 (.cons tok42 (.cons tok43 (.cons tok45 (.cons tok47 (.cons tok49 (.cons tok51 (.cons tok64 (.cons tok66 (.cons tok82 (.cons tok87 (.cons tok89 (.cons tok93 (.cons tok99 (.cons tok103 (.cons tok112 (.cons tok114 (.cons tok117 (.cons tok126 (.cons tok151 (.cons tok178 (.cons tok199 (.cons tok202 (.cons tok209 (.cons tok225 (.cons tok250 (.nil))))))))))))))))))))))))))))))))))))))
end Go.Proofs.YthneihlplijklaaGreatDoor
