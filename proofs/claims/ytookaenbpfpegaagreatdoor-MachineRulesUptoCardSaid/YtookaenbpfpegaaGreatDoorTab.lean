/- The types that the functions use, in a table; each row is proved. No statement of its own. -/
import Derived.Test.YtookaenbpfpegaaGreatDoorProg
import Derived.Test.YtookaenbpfpegaaGreatDoorVz
set_option linter.unusedSimpArgs false
set_option linter.unusedVariables false
set_option maxRecDepth 100000
namespace Go.Proofs.YtookaenbpfpegaaGreatDoor
open Go.RowKit

def ti3 : TI := ⟨.int .i64, 1, 8, [.int .i64 0]⟩
theorem tok3 : TOk Tryz.prog 3 ti3 := by
  obtain ⟨inf, h1, h2, h3, h4⟩ := info_parts (show (Tryz.prog.info? 3).map (fun i => (i.zero, i.size, i.bytes)) = some (some (.int .i64 0), 1, 8) from by kernel_rfl)
  exact ⟨Tryz.underlying3, inf, _, h1, h2, rfl, h3, h4, rfl⟩
def ti4 : TI := ⟨.bool, 1, 1, [.bool false]⟩
theorem tok4 : TOk Tryz.prog 4 ti4 := by
  obtain ⟨inf, h1, h2, h3, h4⟩ := info_parts (show (Tryz.prog.info? 4).map (fun i => (i.zero, i.size, i.bytes)) = some (some (.bool false), 1, 1) from by kernel_rfl)
  exact ⟨Tryz.underlying4, inf, _, h1, h2, rfl, h3, h4, rfl⟩
def ti5 : TI := ⟨.int .u8, 1, 1, [.int .u8 0]⟩
theorem tok5 : TOk Tryz.prog 5 ti5 := by
  obtain ⟨inf, h1, h2, h3, h4⟩ := info_parts (show (Tryz.prog.info? 5).map (fun i => (i.zero, i.size, i.bytes)) = some (some (.int .u8 0), 1, 1) from by kernel_rfl)
  exact ⟨Tryz.underlying5, inf, _, h1, h2, rfl, h3, h4, rfl⟩
def ti9 : TI := ⟨.string, 1, 16, [.string ⟨#[]⟩]⟩
theorem tok9 : TOk Tryz.prog 9 ti9 := by
  obtain ⟨inf, h1, h2, h3, h4⟩ := info_parts (show (Tryz.prog.info? 9).map (fun i => (i.zero, i.size, i.bytes)) = some (some (.string ⟨#[]⟩), 1, 16) from by kernel_rfl)
  exact ⟨Tryz.underlying9, inf, _, h1, h2, rfl, h3, h4, rfl⟩
def ti21 : TI := ⟨.int .i32, 1, 4, [.int .i32 0]⟩
theorem tok21 : TOk Tryz.prog 21 ti21 := by
  obtain ⟨inf, h1, h2, h3, h4⟩ := info_parts (show (Tryz.prog.info? 21).map (fun i => (i.zero, i.size, i.bytes)) = some (some (.int .i32 0), 1, 4) from by kernel_rfl)
  exact ⟨Tryz.underlying21, inf, _, h1, h2, rfl, h3, h4, rfl⟩
def ti22 : TI := ⟨.int .i64, 1, 8, [.int .i64 0]⟩
theorem tok22 : TOk Tryz.prog 22 ti22 := by
  obtain ⟨inf, h1, h2, h3, h4⟩ := info_parts (show (Tryz.prog.info? 22).map (fun i => (i.zero, i.size, i.bytes)) = some (some (.int .i64 0), 1, 8) from by kernel_rfl)
  exact ⟨Tryz.underlying22, inf, _, h1, h2, rfl, h3, h4, rfl⟩
def ti23 : TI := ⟨.int .i64, 1, 8, [.int .i64 0]⟩
theorem tok23 : TOk Tryz.prog 23 ti23 := by
  obtain ⟨inf, h1, h2, h3, h4⟩ := info_parts (show (Tryz.prog.info? 23).map (fun i => (i.zero, i.size, i.bytes)) = some (some (.int .i64 0), 1, 8) from by kernel_rfl)
  exact ⟨Tryz.underlying23, inf, _, h1, h2, rfl, h3, h4, rfl⟩
def ti25 : TI := ⟨.struct #[{ name := "Kind", type := 23, offset := 0, embedded := false, tag := "", pkgPath := "", byteOffset := 0 }, { name := "Name", type := 9, offset := 1, embedded := false, tag := "", pkgPath := "", byteOffset := 8 }, { name := "Value", type := 9, offset := 2, embedded := false, tag := "", pkgPath := "", byteOffset := 24 }], 3, 40, [.int .i64 0, .string ⟨#[]⟩, .string ⟨#[]⟩]⟩
theorem tok25 : TOk Tryz.prog 25 ti25 := by
  obtain ⟨inf, h1, h2, h3, h4⟩ := info_parts (show (Tryz.prog.info? 25).map (fun i => (i.zero, i.size, i.bytes)) = some (some (.agg #[.int .i64 0, .string ⟨#[]⟩, .string ⟨#[]⟩]), 3, 40) from by kernel_rfl)
  exact ⟨Tryz.underlying25, inf, _, h1, h2, rfl, h3, h4, rfl⟩
def ti26 : TI := ⟨.int .i64, 1, 8, [.int .i64 0]⟩
theorem tok26 : TOk Tryz.prog 26 ti26 := by
  obtain ⟨inf, h1, h2, h3, h4⟩ := info_parts (show (Tryz.prog.info? 26).map (fun i => (i.zero, i.size, i.bytes)) = some (some (.int .i64 0), 1, 8) from by kernel_rfl)
  exact ⟨Tryz.underlying26, inf, _, h1, h2, rfl, h3, h4, rfl⟩
def ti27 : TI := ⟨.slice 94, 1, 24, [.slice none 0 0]⟩
theorem tok27 : TOk Tryz.prog 27 ti27 := by
  obtain ⟨inf, h1, h2, h3, h4⟩ := info_parts (show (Tryz.prog.info? 27).map (fun i => (i.zero, i.size, i.bytes)) = some (some (.slice none 0 0), 1, 24) from by kernel_rfl)
  exact ⟨Tryz.underlying27, inf, _, h1, h2, rfl, h3, h4, rfl⟩
def ti29 : TI := ⟨.struct #[{ name := "Side", type := 22, offset := 0, embedded := false, tag := "", pkgPath := "", byteOffset := 0 }, { name := "Guard", type := 25, offset := 1, embedded := false, tag := "", pkgPath := "", byteOffset := 8 }, { name := "Kind", type := 26, offset := 4, embedded := false, tag := "", pkgPath := "", byteOffset := 48 }, { name := "Name", type := 9, offset := 5, embedded := false, tag := "", pkgPath := "", byteOffset := 56 }, { name := "To", type := 9, offset := 6, embedded := false, tag := "", pkgPath := "", byteOffset := 72 }, { name := "Parts", type := 27, offset := 7, embedded := false, tag := "", pkgPath := "", byteOffset := 88 }], 8, 112, [.int .i64 0, .int .i64 0, .string ⟨#[]⟩, .string ⟨#[]⟩, .int .i64 0, .string ⟨#[]⟩, .string ⟨#[]⟩, .slice none 0 0]⟩
theorem tok29 : TOk Tryz.prog 29 ti29 := by
  obtain ⟨inf, h1, h2, h3, h4⟩ := info_parts (show (Tryz.prog.info? 29).map (fun i => (i.zero, i.size, i.bytes)) = some (some (.agg #[.int .i64 0, .int .i64 0, .string ⟨#[]⟩, .string ⟨#[]⟩, .int .i64 0, .string ⟨#[]⟩, .string ⟨#[]⟩, .slice none 0 0]), 8, 112) from by kernel_rfl)
  exact ⟨Tryz.underlying29, inf, _, h1, h2, rfl, h3, h4, rfl⟩
def ti32 : TI := ⟨.int .i64, 1, 8, [.int .i64 0]⟩
theorem tok32 : TOk Tryz.prog 32 ti32 := by
  obtain ⟨inf, h1, h2, h3, h4⟩ := info_parts (show (Tryz.prog.info? 32).map (fun i => (i.zero, i.size, i.bytes)) = some (some (.int .i64 0), 1, 8) from by kernel_rfl)
  exact ⟨Tryz.underlying32, inf, _, h1, h2, rfl, h3, h4, rfl⟩
def ti40 : TI := ⟨.slice 183, 1, 24, [.slice none 0 0]⟩
theorem tok40 : TOk Tryz.prog 40 ti40 := by
  obtain ⟨inf, h1, h2, h3, h4⟩ := info_parts (show (Tryz.prog.info? 40).map (fun i => (i.zero, i.size, i.bytes)) = some (some (.slice none 0 0), 1, 24) from by kernel_rfl)
  exact ⟨Tryz.underlying40, inf, _, h1, h2, rfl, h3, h4, rfl⟩
def ti41 : TI := ⟨.slice 91, 1, 24, [.slice none 0 0]⟩
theorem tok41 : TOk Tryz.prog 41 ti41 := by
  obtain ⟨inf, h1, h2, h3, h4⟩ := info_parts (show (Tryz.prog.info? 41).map (fun i => (i.zero, i.size, i.bytes)) = some (some (.slice none 0 0), 1, 24) from by kernel_rfl)
  exact ⟨Tryz.underlying41, inf, _, h1, h2, rfl, h3, h4, rfl⟩
def ti43 : TI := ⟨.struct #[{ name := "Known", type := 40, offset := 0, embedded := false, tag := "", pkgPath := "", byteOffset := 0 }, { name := "Fields", type := 41, offset := 1, embedded := false, tag := "", pkgPath := "", byteOffset := 24 }, { name := "Side", type := 22, offset := 2, embedded := false, tag := "", pkgPath := "", byteOffset := 48 }], 3, 56, [.slice none 0 0, .slice none 0 0, .int .i64 0]⟩
theorem tok43 : TOk Tryz.prog 43 ti43 := by
  obtain ⟨inf, h1, h2, h3, h4⟩ := info_parts (show (Tryz.prog.info? 43).map (fun i => (i.zero, i.size, i.bytes)) = some (some (.agg #[.slice none 0 0, .slice none 0 0, .int .i64 0]), 3, 56) from by kernel_rfl)
  exact ⟨Tryz.underlying43, inf, _, h1, h2, rfl, h3, h4, rfl⟩
def ti44 : TI := ⟨.slice 29, 1, 24, [.slice none 0 0]⟩
theorem tok44 : TOk Tryz.prog 44 ti44 := by
  obtain ⟨inf, h1, h2, h3, h4⟩ := info_parts (show (Tryz.prog.info? 44).map (fun i => (i.zero, i.size, i.bytes)) = some (some (.slice none 0 0), 1, 24) from by kernel_rfl)
  exact ⟨Tryz.underlying44, inf, _, h1, h2, rfl, h3, h4, rfl⟩
def ti53 : TI := ⟨.slice 56, 1, 24, [.slice none 0 0]⟩
theorem tok53 : TOk Tryz.prog 53 ti53 := by
  obtain ⟨inf, h1, h2, h3, h4⟩ := info_parts (show (Tryz.prog.info? 53).map (fun i => (i.zero, i.size, i.bytes)) = some (some (.slice none 0 0), 1, 24) from by kernel_rfl)
  exact ⟨Tryz.underlying53, inf, _, h1, h2, rfl, h3, h4, rfl⟩
def ti54 : TI := ⟨.int .i64, 1, 8, [.int .i64 0]⟩
theorem tok54 : TOk Tryz.prog 54 ti54 := by
  obtain ⟨inf, h1, h2, h3, h4⟩ := info_parts (show (Tryz.prog.info? 54).map (fun i => (i.zero, i.size, i.bytes)) = some (some (.int .i64 0), 1, 8) from by kernel_rfl)
  exact ⟨Tryz.underlying54, inf, _, h1, h2, rfl, h3, h4, rfl⟩
def ti56 : TI := ⟨.struct #[{ name := "Kind", type := 54, offset := 0, embedded := false, tag := "", pkgPath := "", byteOffset := 0 }, { name := "Name", type := 9, offset := 1, embedded := false, tag := "", pkgPath := "", byteOffset := 8 }, { name := "Text", type := 9, offset := 2, embedded := false, tag := "", pkgPath := "", byteOffset := 24 }, { name := "Parts", type := 27, offset := 3, embedded := false, tag := "", pkgPath := "", byteOffset := 40 }, { name := "N", type := 3, offset := 4, embedded := false, tag := "", pkgPath := "", byteOffset := 64 }], 5, 72, [.int .i64 0, .string ⟨#[]⟩, .string ⟨#[]⟩, .slice none 0 0, .int .i64 0]⟩
theorem tok56 : TOk Tryz.prog 56 ti56 := by
  obtain ⟨inf, h1, h2, h3, h4⟩ := info_parts (show (Tryz.prog.info? 56).map (fun i => (i.zero, i.size, i.bytes)) = some (some (.agg #[.int .i64 0, .string ⟨#[]⟩, .string ⟨#[]⟩, .slice none 0 0, .int .i64 0]), 5, 72) from by kernel_rfl)
  exact ⟨Tryz.underlying56, inf, _, h1, h2, rfl, h3, h4, rfl⟩
def ti69 : TI := ⟨.slice 5, 1, 24, [.slice none 0 0]⟩
theorem tok69 : TOk Tryz.prog 69 ti69 := by
  obtain ⟨inf, h1, h2, h3, h4⟩ := info_parts (show (Tryz.prog.info? 69).map (fun i => (i.zero, i.size, i.bytes)) = some (some (.slice none 0 0), 1, 24) from by kernel_rfl)
  exact ⟨Tryz.underlying69, inf, _, h1, h2, rfl, h3, h4, rfl⟩
def ti70 : TI := ⟨.slice 74, 1, 24, [.slice none 0 0]⟩
theorem tok70 : TOk Tryz.prog 70 ti70 := by
  obtain ⟨inf, h1, h2, h3, h4⟩ := info_parts (show (Tryz.prog.info? 70).map (fun i => (i.zero, i.size, i.bytes)) = some (some (.slice none 0 0), 1, 24) from by kernel_rfl)
  exact ⟨Tryz.underlying70, inf, _, h1, h2, rfl, h3, h4, rfl⟩
def ti74 : TI := ⟨.struct #[{ name := "Text", type := 9, offset := 0, embedded := false, tag := "", pkgPath := "", byteOffset := 0 }, { name := "Quoted", type := 4, offset := 1, embedded := false, tag := "", pkgPath := "", byteOffset := 16 }], 2, 24, [.string ⟨#[]⟩, .bool false]⟩
theorem tok74 : TOk Tryz.prog 74 ti74 := by
  obtain ⟨inf, h1, h2, h3, h4⟩ := info_parts (show (Tryz.prog.info? 74).map (fun i => (i.zero, i.size, i.bytes)) = some (some (.agg #[.string ⟨#[]⟩, .bool false]), 2, 24) from by kernel_rfl)
  exact ⟨Tryz.underlying74, inf, _, h1, h2, rfl, h3, h4, rfl⟩
def ti80 : TI := ⟨.array 4 9, 4, 64, [.string ⟨#[]⟩, .string ⟨#[]⟩, .string ⟨#[]⟩, .string ⟨#[]⟩]⟩
theorem tok80 : TOk Tryz.prog 80 ti80 := by
  obtain ⟨inf, h1, h2, h3, h4⟩ := info_parts (show (Tryz.prog.info? 80).map (fun i => (i.zero, i.size, i.bytes)) = some (some (.agg #[.string ⟨#[]⟩, .string ⟨#[]⟩, .string ⟨#[]⟩, .string ⟨#[]⟩]), 4, 64) from by kernel_rfl)
  exact ⟨Tryz.underlying80, inf, _, h1, h2, rfl, h3, h4, rfl⟩
def ti82 : TI := ⟨.slice 9, 1, 24, [.slice none 0 0]⟩
theorem tok82 : TOk Tryz.prog 82 ti82 := by
  obtain ⟨inf, h1, h2, h3, h4⟩ := info_parts (show (Tryz.prog.info? 82).map (fun i => (i.zero, i.size, i.bytes)) = some (some (.slice none 0 0), 1, 24) from by kernel_rfl)
  exact ⟨Tryz.underlying82, inf, _, h1, h2, rfl, h3, h4, rfl⟩
def ti84 : TI := ⟨.struct #[{ name := "words", type := 82, offset := 0, embedded := false, tag := "", pkgPath := "doorstep/ruleprint", byteOffset := 0 }], 1, 24, [.slice none 0 0]⟩
theorem tok84 : TOk Tryz.prog 84 ti84 := by
  obtain ⟨inf, h1, h2, h3, h4⟩ := info_parts (show (Tryz.prog.info? 84).map (fun i => (i.zero, i.size, i.bytes)) = some (some (.agg #[.slice none 0 0]), 1, 24) from by kernel_rfl)
  exact ⟨Tryz.underlying84, inf, _, h1, h2, rfl, h3, h4, rfl⟩
def ti91 : TI := ⟨.struct #[{ name := "Name", type := 9, offset := 0, embedded := false, tag := "", pkgPath := "", byteOffset := 0 }, { name := "Value", type := 9, offset := 1, embedded := false, tag := "", pkgPath := "", byteOffset := 16 }], 2, 32, [.string ⟨#[]⟩, .string ⟨#[]⟩]⟩
theorem tok91 : TOk Tryz.prog 91 ti91 := by
  obtain ⟨inf, h1, h2, h3, h4⟩ := info_parts (show (Tryz.prog.info? 91).map (fun i => (i.zero, i.size, i.bytes)) = some (some (.agg #[.string ⟨#[]⟩, .string ⟨#[]⟩]), 2, 32) from by kernel_rfl)
  exact ⟨Tryz.underlying91, inf, _, h1, h2, rfl, h3, h4, rfl⟩
def ti92 : TI := ⟨.int .i64, 1, 8, [.int .i64 0]⟩
theorem tok92 : TOk Tryz.prog 92 ti92 := by
  obtain ⟨inf, h1, h2, h3, h4⟩ := info_parts (show (Tryz.prog.info? 92).map (fun i => (i.zero, i.size, i.bytes)) = some (some (.int .i64 0), 1, 8) from by kernel_rfl)
  exact ⟨Tryz.underlying92, inf, _, h1, h2, rfl, h3, h4, rfl⟩
def ti94 : TI := ⟨.struct #[{ name := "Kind", type := 92, offset := 0, embedded := false, tag := "", pkgPath := "", byteOffset := 0 }, { name := "Text", type := 9, offset := 1, embedded := false, tag := "", pkgPath := "", byteOffset := 8 }], 2, 24, [.int .i64 0, .string ⟨#[]⟩]⟩
theorem tok94 : TOk Tryz.prog 94 ti94 := by
  obtain ⟨inf, h1, h2, h3, h4⟩ := info_parts (show (Tryz.prog.info? 94).map (fun i => (i.zero, i.size, i.bytes)) = some (some (.agg #[.int .i64 0, .string ⟨#[]⟩]), 2, 24) from by kernel_rfl)
  exact ⟨Tryz.underlying94, inf, _, h1, h2, rfl, h3, h4, rfl⟩
def ti96 : TI := ⟨.struct #[{ name := "Kind", type := 22, offset := 0, embedded := false, tag := "", pkgPath := "", byteOffset := 0 }, { name := "Method", type := 9, offset := 1, embedded := false, tag := "", pkgPath := "", byteOffset := 8 }, { name := "Target", type := 9, offset := 2, embedded := false, tag := "", pkgPath := "", byteOffset := 24 }, { name := "Code", type := 3, offset := 3, embedded := false, tag := "", pkgPath := "", byteOffset := 40 }, { name := "Reason", type := 9, offset := 4, embedded := false, tag := "", pkgPath := "", byteOffset := 48 }, { name := "Minor", type := 3, offset := 5, embedded := false, tag := "", pkgPath := "", byteOffset := 64 }, { name := "Fields", type := 41, offset := 6, embedded := false, tag := "", pkgPath := "", byteOffset := 72 }], 7, 96, [.int .i64 0, .string ⟨#[]⟩, .string ⟨#[]⟩, .int .i64 0, .string ⟨#[]⟩, .int .i64 0, .slice none 0 0]⟩
theorem tok96 : TOk Tryz.prog 96 ti96 := by
  obtain ⟨inf, h1, h2, h3, h4⟩ := info_parts (show (Tryz.prog.info? 96).map (fun i => (i.zero, i.size, i.bytes)) = some (some (.agg #[.int .i64 0, .string ⟨#[]⟩, .string ⟨#[]⟩, .int .i64 0, .string ⟨#[]⟩, .int .i64 0, .slice none 0 0]), 7, 96) from by kernel_rfl)
  exact ⟨Tryz.underlying96, inf, _, h1, h2, rfl, h3, h4, rfl⟩
def ti104 : TI := ⟨.array 4 26, 4, 32, [.int .i64 0, .int .i64 0, .int .i64 0, .int .i64 0]⟩
theorem tok104 : TOk Tryz.prog 104 ti104 := by
  obtain ⟨inf, h1, h2, h3, h4⟩ := info_parts (show (Tryz.prog.info? 104).map (fun i => (i.zero, i.size, i.bytes)) = some (some (.agg #[.int .i64 0, .int .i64 0, .int .i64 0, .int .i64 0]), 4, 32) from by kernel_rfl)
  exact ⟨Tryz.underlying104, inf, _, h1, h2, rfl, h3, h4, rfl⟩
def ti106 : TI := ⟨.pointer 147, 1, 8, [.pointer none]⟩
theorem tok106 : TOk Tryz.prog 106 ti106 := by
  obtain ⟨inf, h1, h2, h3, h4⟩ := info_parts (show (Tryz.prog.info? 106).map (fun i => (i.zero, i.size, i.bytes)) = some (some (.pointer none), 1, 8) from by kernel_rfl)
  exact ⟨Tryz.underlying106, inf, _, h1, h2, rfl, h3, h4, rfl⟩
def ti109 : TI := ⟨.struct #[{ name := "Bag", type := 106, offset := 0, embedded := true, tag := "", pkgPath := "", byteOffset := 0 }, { name := "known", type := 40, offset := 1, embedded := false, tag := "", pkgPath := "doorstep/machine", byteOffset := 8 }, { name := "steps", type := 3, offset := 2, embedded := false, tag := "", pkgPath := "doorstep/machine", byteOffset := 32 }], 3, 40, [.pointer none, .slice none 0 0, .int .i64 0]⟩
theorem tok109 : TOk Tryz.prog 109 ti109 := by
  obtain ⟨inf, h1, h2, h3, h4⟩ := info_parts (show (Tryz.prog.info? 109).map (fun i => (i.zero, i.size, i.bytes)) = some (some (.agg #[.pointer none, .slice none 0 0, .int .i64 0]), 3, 40) from by kernel_rfl)
  exact ⟨Tryz.underlying109, inf, _, h1, h2, rfl, h3, h4, rfl⟩
def ti113 : TI := ⟨.struct #[{ name := "e", type := 32, offset := 0, embedded := false, tag := "", pkgPath := "doorstep/ruletext", byteOffset := 0 }], 1, 8, [.int .i64 0]⟩
theorem tok113 : TOk Tryz.prog 113 ti113 := by
  obtain ⟨inf, h1, h2, h3, h4⟩ := info_parts (show (Tryz.prog.info? 113).map (fun i => (i.zero, i.size, i.bytes)) = some (some (.agg #[.int .i64 0]), 1, 8) from by kernel_rfl)
  exact ⟨Tryz.underlying113, inf, _, h1, h2, rfl, h3, h4, rfl⟩
def ti115 : TI := ⟨.pointer 151, 1, 8, [.pointer none]⟩
theorem tok115 : TOk Tryz.prog 115 ti115 := by
  obtain ⟨inf, h1, h2, h3, h4⟩ := info_parts (show (Tryz.prog.info? 115).map (fun i => (i.zero, i.size, i.bytes)) = some (some (.pointer none), 1, 8) from by kernel_rfl)
  exact ⟨Tryz.underlying115, inf, _, h1, h2, rfl, h3, h4, rfl⟩
def ti118 : TI := ⟨.struct #[{ name := "Scanner", type := 115, offset := 0, embedded := true, tag := "", pkgPath := "", byteOffset := 0 }, { name := "long", type := 4, offset := 1, embedded := false, tag := "", pkgPath := "doorstep/ruletext", byteOffset := 8 }], 2, 16, [.pointer none, .bool false]⟩
theorem tok118 : TOk Tryz.prog 118 ti118 := by
  obtain ⟨inf, h1, h2, h3, h4⟩ := info_parts (show (Tryz.prog.info? 118).map (fun i => (i.zero, i.size, i.bytes)) = some (some (.agg #[.pointer none, .bool false]), 2, 16) from by kernel_rfl)
  exact ⟨Tryz.underlying118, inf, _, h1, h2, rfl, h3, h4, rfl⟩
def ti139 : TI := ⟨.struct #[{ name := "out", type := 53, offset := 0, embedded := false, tag := "", pkgPath := "doorstep/compile", byteOffset := 0 }], 1, 24, [.slice none 0 0]⟩
theorem tok139 : TOk Tryz.prog 139 ti139 := by
  obtain ⟨inf, h1, h2, h3, h4⟩ := info_parts (show (Tryz.prog.info? 139).map (fun i => (i.zero, i.size, i.bytes)) = some (some (.agg #[.slice none 0 0]), 1, 24) from by kernel_rfl)
  exact ⟨Tryz.underlying139, inf, _, h1, h2, rfl, h3, h4, rfl⟩
def ti147 : TI := ⟨.struct #[{ name := "l", type := 41, offset := 0, embedded := false, tag := "", pkgPath := "doorstep/bag", byteOffset := 0 }], 1, 24, [.slice none 0 0]⟩
theorem tok147 : TOk Tryz.prog 147 ti147 := by
  obtain ⟨inf, h1, h2, h3, h4⟩ := info_parts (show (Tryz.prog.info? 147).map (fun i => (i.zero, i.size, i.bytes)) = some (some (.agg #[.slice none 0 0]), 1, 24) from by kernel_rfl)
  exact ⟨Tryz.underlying147, inf, _, h1, h2, rfl, h3, h4, rfl⟩
def ti151 : TI := ⟨.struct #[{ name := "s", type := 9, offset := 0, embedded := false, tag := "", pkgPath := "doorstep/scan", byteOffset := 0 }, { name := "at", type := 3, offset := 1, embedded := false, tag := "", pkgPath := "doorstep/scan", byteOffset := 16 }], 2, 24, [.string ⟨#[]⟩, .int .i64 0]⟩
theorem tok151 : TOk Tryz.prog 151 ti151 := by
  obtain ⟨inf, h1, h2, h3, h4⟩ := info_parts (show (Tryz.prog.info? 151).map (fun i => (i.zero, i.size, i.bytes)) = some (some (.agg #[.string ⟨#[]⟩, .int .i64 0]), 2, 24) from by kernel_rfl)
  exact ⟨Tryz.underlying151, inf, _, h1, h2, rfl, h3, h4, rfl⟩
def ti183 : TI := ⟨.struct #[{ name := "Name", type := 9, offset := 0, embedded := false, tag := "", pkgPath := "", byteOffset := 0 }, { name := "Value", type := 9, offset := 1, embedded := false, tag := "", pkgPath := "", byteOffset := 16 }], 2, 32, [.string ⟨#[]⟩, .string ⟨#[]⟩]⟩
theorem tok183 : TOk Tryz.prog 183 ti183 := by
  obtain ⟨inf, h1, h2, h3, h4⟩ := info_parts (show (Tryz.prog.info? 183).map (fun i => (i.zero, i.size, i.bytes)) = some (some (.agg #[.string ⟨#[]⟩, .string ⟨#[]⟩]), 2, 32) from by kernel_rfl)
  exact ⟨Tryz.underlying183, inf, _, h1, h2, rfl, h3, h4, rfl⟩
def ti200 : TI := ⟨.struct #[{ name := "Scanner", type := 115, offset := 0, embedded := true, tag := "", pkgPath := "", byteOffset := 0 }, { name := "out", type := 27, offset := 1, embedded := false, tag := "", pkgPath := "doorstep/tmpl", byteOffset := 8 }], 2, 32, [.pointer none, .slice none 0 0]⟩
theorem tok200 : TOk Tryz.prog 200 ti200 := by
  obtain ⟨inf, h1, h2, h3, h4⟩ := info_parts (show (Tryz.prog.info? 200).map (fun i => (i.zero, i.size, i.bytes)) = some (some (.agg #[.pointer none, .slice none 0 0]), 2, 32) from by kernel_rfl)
  exact ⟨Tryz.underlying200, inf, _, h1, h2, rfl, h3, h4, rfl⟩
def ti237 : TI := ⟨.struct #[{ name := "Scanner", type := 115, offset := 0, embedded := true, tag := "", pkgPath := "", byteOffset := 0 }, { name := "out", type := 69, offset := 1, embedded := false, tag := "", pkgPath := "doorstep/quoted", byteOffset := 8 }], 2, 32, [.pointer none, .slice none 0 0]⟩
theorem tok237 : TOk Tryz.prog 237 ti237 := by
  obtain ⟨inf, h1, h2, h3, h4⟩ := info_parts (show (Tryz.prog.info? 237).map (fun i => (i.zero, i.size, i.bytes)) = some (some (.agg #[.pointer none, .slice none 0 0]), 2, 32) from by kernel_rfl)
  exact ⟨Tryz.underlying237, inf, _, h1, h2, rfl, h3, h4, rfl⟩
def T : Tab := findT [(3, ti3), (4, ti4), (5, ti5), (9, ti9), (21, ti21), (22, ti22), (23, ti23), (25, ti25), (26, ti26), (27, ti27), (29, ti29), (32, ti32), (40, ti40), (41, ti41), (43, ti43), (44, ti44), (53, ti53), (54, ti54), (56, ti56), (69, ti69), (70, ti70), (74, ti74), (80, ti80), (82, ti82), (84, ti84), (91, ti91), (92, ti92), (94, ti94), (96, ti96), (104, ti104), (106, ti106), (109, ti109), (113, ti113), (115, ti115), (118, ti118), (139, ti139), (147, ti147), (151, ti151), (183, ti183), (200, ti200), (237, ti237)]
theorem T_ok : T.Ok Tryz.prog := findT_ok (.cons tok3 (.cons tok4 (.cons tok5 (.cons tok9 (.cons tok21 (.cons tok22 (.cons tok23 (.cons tok25 (.cons tok26 (.cons tok27 (.cons tok29 (.cons tok32 (.cons tok40 (.cons tok41 (.cons tok43 (.cons tok44 (.cons tok53 (.cons tok54 (.cons tok56 (.cons tok69 (.cons tok70 (.cons tok74 (.cons tok80 (.cons tok82 (.cons tok84 (.cons tok91 (.cons tok92 (.cons tok94 (.cons tok96 (.cons tok104 (.cons tok106 (.cons tok109 (.cons tok113 (.cons tok115 (.cons tok118 (.cons tok139 (.cons tok147 (.cons tok151 (.cons tok183 (.cons tok200 (.cons tok237 (.nil))))))))))))))))))))))))))))))))))))))))))
end Go.Proofs.YtookaenbpfpegaaGreatDoor
