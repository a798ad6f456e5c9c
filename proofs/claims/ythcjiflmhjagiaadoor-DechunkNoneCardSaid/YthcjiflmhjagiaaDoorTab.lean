/- The types that the functions use, in a table; each row is proved. No statement of its own. -/
import Derived.Test.YthcjiflmhjagiaaDoorProg
import Derived.Test.YthcjiflmhjagiaaDoorVz
set_option linter.unusedSimpArgs false
set_option linter.unusedVariables false
set_option maxRecDepth 100000
namespace Go.Proofs.YthcjiflmhjagiaaDoor
open Go.RowKit

def ti2 : TI := ⟨.int .i64, 1, 8, [.int .i64 0]⟩
theorem tok2 : TOk Tryd.prog 2 ti2 := by
  obtain ⟨inf, h1, h2, h3, h4⟩ := info_parts (show (Tryd.prog.info? 2).map (fun i => (i.zero, i.size, i.bytes)) = some (some (.int .i64 0), 1, 8) from by kernel_rfl)
  exact ⟨Tryd.underlying2, inf, _, h1, h2, rfl, h3, h4, rfl⟩
def ti3 : TI := ⟨.int .i64, 1, 8, [.int .i64 0]⟩
theorem tok3 : TOk Tryd.prog 3 ti3 := by
  obtain ⟨inf, h1, h2, h3, h4⟩ := info_parts (show (Tryd.prog.info? 3).map (fun i => (i.zero, i.size, i.bytes)) = some (some (.int .i64 0), 1, 8) from by kernel_rfl)
  exact ⟨Tryd.underlying3, inf, _, h1, h2, rfl, h3, h4, rfl⟩
def ti4 : TI := ⟨.bool, 1, 1, [.bool false]⟩
theorem tok4 : TOk Tryd.prog 4 ti4 := by
  obtain ⟨inf, h1, h2, h3, h4⟩ := info_parts (show (Tryd.prog.info? 4).map (fun i => (i.zero, i.size, i.bytes)) = some (some (.bool false), 1, 1) from by kernel_rfl)
  exact ⟨Tryd.underlying4, inf, _, h1, h2, rfl, h3, h4, rfl⟩
def ti5 : TI := ⟨.int .u8, 1, 1, [.int .u8 0]⟩
theorem tok5 : TOk Tryd.prog 5 ti5 := by
  obtain ⟨inf, h1, h2, h3, h4⟩ := info_parts (show (Tryd.prog.info? 5).map (fun i => (i.zero, i.size, i.bytes)) = some (some (.int .u8 0), 1, 1) from by kernel_rfl)
  exact ⟨Tryd.underlying5, inf, _, h1, h2, rfl, h3, h4, rfl⟩
def ti9 : TI := ⟨.string, 1, 16, [.string ⟨#[]⟩]⟩
theorem tok9 : TOk Tryd.prog 9 ti9 := by
  obtain ⟨inf, h1, h2, h3, h4⟩ := info_parts (show (Tryd.prog.info? 9).map (fun i => (i.zero, i.size, i.bytes)) = some (some (.string ⟨#[]⟩), 1, 16) from by kernel_rfl)
  exact ⟨Tryd.underlying9, inf, _, h1, h2, rfl, h3, h4, rfl⟩
def ti22 : TI := ⟨.slice 43, 1, 24, [.slice none 0 0]⟩
theorem tok22 : TOk Tryd.prog 22 ti22 := by
  obtain ⟨inf, h1, h2, h3, h4⟩ := info_parts (show (Tryd.prog.info? 22).map (fun i => (i.zero, i.size, i.bytes)) = some (some (.slice none 0 0), 1, 24) from by kernel_rfl)
  exact ⟨Tryd.underlying22, inf, _, h1, h2, rfl, h3, h4, rfl⟩
def ti24 : TI := ⟨.int .i64, 1, 8, [.int .i64 0]⟩
theorem tok24 : TOk Tryd.prog 24 ti24 := by
  obtain ⟨inf, h1, h2, h3, h4⟩ := info_parts (show (Tryd.prog.info? 24).map (fun i => (i.zero, i.size, i.bytes)) = some (some (.int .i64 0), 1, 8) from by kernel_rfl)
  exact ⟨Tryd.underlying24, inf, _, h1, h2, rfl, h3, h4, rfl⟩
def ti30 : TI := ⟨.slice 5, 1, 24, [.slice none 0 0]⟩
theorem tok30 : TOk Tryd.prog 30 ti30 := by
  obtain ⟨inf, h1, h2, h3, h4⟩ := info_parts (show (Tryd.prog.info? 30).map (fun i => (i.zero, i.size, i.bytes)) = some (some (.slice none 0 0), 1, 24) from by kernel_rfl)
  exact ⟨Tryd.underlying30, inf, _, h1, h2, rfl, h3, h4, rfl⟩
def ti31 : TI := ⟨.pointer 94, 1, 8, [.pointer none]⟩
theorem tok31 : TOk Tryd.prog 31 ti31 := by
  obtain ⟨inf, h1, h2, h3, h4⟩ := info_parts (show (Tryd.prog.info? 31).map (fun i => (i.zero, i.size, i.bytes)) = some (some (.pointer none), 1, 8) from by kernel_rfl)
  exact ⟨Tryd.underlying31, inf, _, h1, h2, rfl, h3, h4, rfl⟩
def ti34 : TI := ⟨.slice 9, 1, 24, [.slice none 0 0]⟩
theorem tok34 : TOk Tryd.prog 34 ti34 := by
  obtain ⟨inf, h1, h2, h3, h4⟩ := info_parts (show (Tryd.prog.info? 34).map (fun i => (i.zero, i.size, i.bytes)) = some (some (.slice none 0 0), 1, 24) from by kernel_rfl)
  exact ⟨Tryd.underlying34, inf, _, h1, h2, rfl, h3, h4, rfl⟩
def ti43 : TI := ⟨.struct #[{ name := "Name", type := 9, offset := 0, embedded := false, tag := "", pkgPath := "", byteOffset := 0 }, { name := "Value", type := 9, offset := 1, embedded := false, tag := "", pkgPath := "", byteOffset := 16 }], 2, 32, [.string ⟨#[]⟩, .string ⟨#[]⟩]⟩
theorem tok43 : TOk Tryd.prog 43 ti43 := by
  obtain ⟨inf, h1, h2, h3, h4⟩ := info_parts (show (Tryd.prog.info? 43).map (fun i => (i.zero, i.size, i.bytes)) = some (some (.agg #[.string ⟨#[]⟩, .string ⟨#[]⟩]), 2, 32) from by kernel_rfl)
  exact ⟨Tryd.underlying43, inf, _, h1, h2, rfl, h3, h4, rfl⟩
def ti46 : TI := ⟨.int .i64, 1, 8, [.int .i64 0]⟩
theorem tok46 : TOk Tryd.prog 46 ti46 := by
  obtain ⟨inf, h1, h2, h3, h4⟩ := info_parts (show (Tryd.prog.info? 46).map (fun i => (i.zero, i.size, i.bytes)) = some (some (.int .i64 0), 1, 8) from by kernel_rfl)
  exact ⟨Tryd.underlying46, inf, _, h1, h2, rfl, h3, h4, rfl⟩
def ti48 : TI := ⟨.struct #[{ name := "Kind", type := 46, offset := 0, embedded := false, tag := "", pkgPath := "", byteOffset := 0 }, { name := "N", type := 3, offset := 1, embedded := false, tag := "", pkgPath := "", byteOffset := 8 }], 2, 16, [.int .i64 0, .int .i64 0]⟩
theorem tok48 : TOk Tryd.prog 48 ti48 := by
  obtain ⟨inf, h1, h2, h3, h4⟩ := info_parts (show (Tryd.prog.info? 48).map (fun i => (i.zero, i.size, i.bytes)) = some (some (.agg #[.int .i64 0, .int .i64 0]), 2, 16) from by kernel_rfl)
  exact ⟨Tryd.underlying48, inf, _, h1, h2, rfl, h3, h4, rfl⟩
def ti50 : TI := ⟨.struct #[{ name := "F", type := 48, offset := 0, embedded := false, tag := "", pkgPath := "", byteOffset := 0 }, { name := "Size", type := 3, offset := 2, embedded := false, tag := "", pkgPath := "", byteOffset := 16 }], 3, 24, [.int .i64 0, .int .i64 0, .int .i64 0]⟩
theorem tok50 : TOk Tryd.prog 50 ti50 := by
  obtain ⟨inf, h1, h2, h3, h4⟩ := info_parts (show (Tryd.prog.info? 50).map (fun i => (i.zero, i.size, i.bytes)) = some (some (.agg #[.int .i64 0, .int .i64 0, .int .i64 0]), 3, 24) from by kernel_rfl)
  exact ⟨Tryd.underlying50, inf, _, h1, h2, rfl, h3, h4, rfl⟩
def ti51 : TI := ⟨.pointer 98, 1, 8, [.pointer none]⟩
theorem tok51 : TOk Tryd.prog 51 ti51 := by
  obtain ⟨inf, h1, h2, h3, h4⟩ := info_parts (show (Tryd.prog.info? 51).map (fun i => (i.zero, i.size, i.bytes)) = some (some (.pointer none), 1, 8) from by kernel_rfl)
  exact ⟨Tryd.underlying51, inf, _, h1, h2, rfl, h3, h4, rfl⟩
def ti62 : TI := ⟨.pointer 102, 1, 8, [.pointer none]⟩
theorem tok62 : TOk Tryd.prog 62 ti62 := by
  obtain ⟨inf, h1, h2, h3, h4⟩ := info_parts (show (Tryd.prog.info? 62).map (fun i => (i.zero, i.size, i.bytes)) = some (some (.pointer none), 1, 8) from by kernel_rfl)
  exact ⟨Tryd.underlying62, inf, _, h1, h2, rfl, h3, h4, rfl⟩
def ti70 : TI := ⟨.int .u16, 1, 2, [.int .u16 0]⟩
theorem tok70 : TOk Tryd.prog 70 ti70 := by
  obtain ⟨inf, h1, h2, h3, h4⟩ := info_parts (show (Tryd.prog.info? 70).map (fun i => (i.zero, i.size, i.bytes)) = some (some (.int .u16 0), 1, 2) from by kernel_rfl)
  exact ⟨Tryd.underlying70, inf, _, h1, h2, rfl, h3, h4, rfl⟩
def ti72 : TI := ⟨.pointer 104, 1, 8, [.pointer none]⟩
theorem tok72 : TOk Tryd.prog 72 ti72 := by
  obtain ⟨inf, h1, h2, h3, h4⟩ := info_parts (show (Tryd.prog.info? 72).map (fun i => (i.zero, i.size, i.bytes)) = some (some (.pointer none), 1, 8) from by kernel_rfl)
  exact ⟨Tryd.underlying72, inf, _, h1, h2, rfl, h3, h4, rfl⟩
def ti79 : TI := ⟨.struct #[{ name := "At", type := 3, offset := 0, embedded := false, tag := "", pkgPath := "", byteOffset := 0 }, { name := "Err", type := 3, offset := 1, embedded := false, tag := "", pkgPath := "", byteOffset := 8 }, { name := "Body", type := 9, offset := 2, embedded := false, tag := "", pkgPath := "", byteOffset := 16 }, { name := "Trailers", type := 22, offset := 3, embedded := false, tag := "", pkgPath := "", byteOffset := 32 }, { name := "Kept", type := 3, offset := 4, embedded := false, tag := "", pkgPath := "", byteOffset := 56 }], 5, 64, [.int .i64 0, .int .i64 0, .string ⟨#[]⟩, .slice none 0 0, .int .i64 0]⟩
theorem tok79 : TOk Tryd.prog 79 ti79 := by
  obtain ⟨inf, h1, h2, h3, h4⟩ := info_parts (show (Tryd.prog.info? 79).map (fun i => (i.zero, i.size, i.bytes)) = some (some (.agg #[.int .i64 0, .int .i64 0, .string ⟨#[]⟩, .slice none 0 0, .int .i64 0]), 5, 64) from by kernel_rfl)
  exact ⟨Tryd.underlying79, inf, _, h1, h2, rfl, h3, h4, rfl⟩
def ti83 : TI := ⟨.slice 88, 1, 24, [.slice none 0 0]⟩
theorem tok83 : TOk Tryd.prog 83 ti83 := by
  obtain ⟨inf, h1, h2, h3, h4⟩ := info_parts (show (Tryd.prog.info? 83).map (fun i => (i.zero, i.size, i.bytes)) = some (some (.slice none 0 0), 1, 24) from by kernel_rfl)
  exact ⟨Tryd.underlying83, inf, _, h1, h2, rfl, h3, h4, rfl⟩
def ti88 : TI := ⟨.struct #[{ name := "Name", type := 9, offset := 0, embedded := false, tag := "", pkgPath := "", byteOffset := 0 }, { name := "Value", type := 9, offset := 1, embedded := false, tag := "", pkgPath := "", byteOffset := 16 }, { name := "Has", type := 4, offset := 2, embedded := false, tag := "", pkgPath := "", byteOffset := 32 }], 3, 40, [.string ⟨#[]⟩, .string ⟨#[]⟩, .bool false]⟩
theorem tok88 : TOk Tryd.prog 88 ti88 := by
  obtain ⟨inf, h1, h2, h3, h4⟩ := info_parts (show (Tryd.prog.info? 88).map (fun i => (i.zero, i.size, i.bytes)) = some (some (.agg #[.string ⟨#[]⟩, .string ⟨#[]⟩, .bool false]), 3, 40) from by kernel_rfl)
  exact ⟨Tryd.underlying88, inf, _, h1, h2, rfl, h3, h4, rfl⟩
def ti94 : TI := ⟨.struct #[{ name := "size", type := 3, offset := 0, embedded := false, tag := "", pkgPath := "doorstep/enchunk", byteOffset := 0 }, { name := "buf", type := 9, offset := 1, embedded := false, tag := "", pkgPath := "doorstep/enchunk", byteOffset := 8 }, { name := "done", type := 4, offset := 2, embedded := false, tag := "", pkgPath := "doorstep/enchunk", byteOffset := 24 }], 3, 32, [.int .i64 0, .string ⟨#[]⟩, .bool false]⟩
theorem tok94 : TOk Tryd.prog 94 ti94 := by
  obtain ⟨inf, h1, h2, h3, h4⟩ := info_parts (show (Tryd.prog.info? 94).map (fun i => (i.zero, i.size, i.bytes)) = some (some (.agg #[.int .i64 0, .string ⟨#[]⟩, .bool false]), 3, 32) from by kernel_rfl)
  exact ⟨Tryd.underlying94, inf, _, h1, h2, rfl, h3, h4, rfl⟩
def ti98 : TI := ⟨.struct #[{ name := "Encoder", type := 31, offset := 0, embedded := true, tag := "", pkgPath := "", byteOffset := 0 }, { name := "frame", type := 48, offset := 1, embedded := false, tag := "", pkgPath := "doorstep/reframe", byteOffset := 8 }, { name := "left", type := 3, offset := 3, embedded := false, tag := "", pkgPath := "doorstep/reframe", byteOffset := 24 }, { name := "done", type := 4, offset := 4, embedded := false, tag := "", pkgPath := "doorstep/reframe", byteOffset := 32 }], 5, 40, [.pointer none, .int .i64 0, .int .i64 0, .int .i64 0, .bool false]⟩
theorem tok98 : TOk Tryd.prog 98 ti98 := by
  obtain ⟨inf, h1, h2, h3, h4⟩ := info_parts (show (Tryd.prog.info? 98).map (fun i => (i.zero, i.size, i.bytes)) = some (some (.agg #[.pointer none, .int .i64 0, .int .i64 0, .int .i64 0, .bool false]), 5, 40) from by kernel_rfl)
  exact ⟨Tryd.underlying98, inf, _, h1, h2, rfl, h3, h4, rfl⟩
def ti100 : TI := ⟨.int .i64, 1, 8, [.int .i64 0]⟩
theorem tok100 : TOk Tryd.prog 100 ti100 := by
  obtain ⟨inf, h1, h2, h3, h4⟩ := info_parts (show (Tryd.prog.info? 100).map (fun i => (i.zero, i.size, i.bytes)) = some (some (.int .i64 0), 1, 8) from by kernel_rfl)
  exact ⟨Tryd.underlying100, inf, _, h1, h2, rfl, h3, h4, rfl⟩
def ti102 : TI := ⟨.struct #[{ name := "limit", type := 3, offset := 0, embedded := false, tag := "", pkgPath := "doorstep/dechunk", byteOffset := 0 }, { name := "at", type := 100, offset := 1, embedded := false, tag := "", pkgPath := "doorstep/dechunk", byteOffset := 8 }, { name := "line", type := 30, offset := 2, embedded := false, tag := "", pkgPath := "doorstep/dechunk", byteOffset := 16 }, { name := "left", type := 3, offset := 3, embedded := false, tag := "", pkgPath := "doorstep/dechunk", byteOffset := 40 }, { name := "sum", type := 3, offset := 4, embedded := false, tag := "", pkgPath := "doorstep/dechunk", byteOffset := 48 }, { name := "spent", type := 3, offset := 5, embedded := false, tag := "", pkgPath := "doorstep/dechunk", byteOffset := 56 }, { name := "trailers", type := 22, offset := 6, embedded := false, tag := "", pkgPath := "doorstep/dechunk", byteOffset := 64 }], 7, 88, [.int .i64 0, .int .i64 0, .slice none 0 0, .int .i64 0, .int .i64 0, .int .i64 0, .slice none 0 0]⟩
theorem tok102 : TOk Tryd.prog 102 ti102 := by
  obtain ⟨inf, h1, h2, h3, h4⟩ := info_parts (show (Tryd.prog.info? 102).map (fun i => (i.zero, i.size, i.bytes)) = some (some (.agg #[.int .i64 0, .int .i64 0, .slice none 0 0, .int .i64 0, .int .i64 0, .int .i64 0, .slice none 0 0]), 7, 88) from by kernel_rfl)
  exact ⟨Tryd.underlying102, inf, _, h1, h2, rfl, h3, h4, rfl⟩
def ti104 : TI := ⟨.struct #[{ name := "Decoder", type := 62, offset := 0, embedded := true, tag := "", pkgPath := "", byteOffset := 0 }, { name := "frame", type := 48, offset := 1, embedded := false, tag := "", pkgPath := "doorstep/body", byteOffset := 8 }, { name := "left", type := 3, offset := 3, embedded := false, tag := "", pkgPath := "doorstep/body", byteOffset := 24 }, { name := "done", type := 4, offset := 4, embedded := false, tag := "", pkgPath := "doorstep/body", byteOffset := 32 }, { name := "bad", type := 4, offset := 5, embedded := false, tag := "", pkgPath := "doorstep/body", byteOffset := 33 }], 6, 40, [.pointer none, .int .i64 0, .int .i64 0, .int .i64 0, .bool false, .bool false]⟩
theorem tok104 : TOk Tryd.prog 104 ti104 := by
  obtain ⟨inf, h1, h2, h3, h4⟩ := info_parts (show (Tryd.prog.info? 104).map (fun i => (i.zero, i.size, i.bytes)) = some (some (.agg #[.pointer none, .int .i64 0, .int .i64 0, .int .i64 0, .bool false, .bool false]), 6, 40) from by kernel_rfl)
  exact ⟨Tryd.underlying104, inf, _, h1, h2, rfl, h3, h4, rfl⟩
def ti106 : TI := ⟨.struct #[{ name := "At", type := 3, offset := 0, embedded := false, tag := "", pkgPath := "", byteOffset := 0 }, { name := "Err", type := 3, offset := 1, embedded := false, tag := "", pkgPath := "", byteOffset := 8 }, { name := "Body", type := 9, offset := 2, embedded := false, tag := "", pkgPath := "", byteOffset := 16 }, { name := "Trailers", type := 22, offset := 3, embedded := false, tag := "", pkgPath := "", byteOffset := 32 }, { name := "Line", type := 3, offset := 4, embedded := false, tag := "", pkgPath := "", byteOffset := 56 }], 5, 64, [.int .i64 0, .int .i64 0, .string ⟨#[]⟩, .slice none 0 0, .int .i64 0]⟩
theorem tok106 : TOk Tryd.prog 106 ti106 := by
  obtain ⟨inf, h1, h2, h3, h4⟩ := info_parts (show (Tryd.prog.info? 106).map (fun i => (i.zero, i.size, i.bytes)) = some (some (.agg #[.int .i64 0, .int .i64 0, .string ⟨#[]⟩, .slice none 0 0, .int .i64 0]), 5, 64) from by kernel_rfl)
  exact ⟨Tryd.underlying106, inf, _, h1, h2, rfl, h3, h4, rfl⟩
def ti108 : TI := ⟨.pointer 130, 1, 8, [.pointer none]⟩
theorem tok108 : TOk Tryd.prog 108 ti108 := by
  obtain ⟨inf, h1, h2, h3, h4⟩ := info_parts (show (Tryd.prog.info? 108).map (fun i => (i.zero, i.size, i.bytes)) = some (some (.pointer none), 1, 8) from by kernel_rfl)
  exact ⟨Tryd.underlying108, inf, _, h1, h2, rfl, h3, h4, rfl⟩
def ti111 : TI := ⟨.struct #[{ name := "Scanner", type := 108, offset := 0, embedded := true, tag := "", pkgPath := "", byteOffset := 0 }], 1, 8, [.pointer none]⟩
theorem tok111 : TOk Tryd.prog 111 ti111 := by
  obtain ⟨inf, h1, h2, h3, h4⟩ := info_parts (show (Tryd.prog.info? 111).map (fun i => (i.zero, i.size, i.bytes)) = some (some (.agg #[.pointer none]), 1, 8) from by kernel_rfl)
  exact ⟨Tryd.underlying111, inf, _, h1, h2, rfl, h3, h4, rfl⟩
def ti124 : TI := ⟨.struct #[{ name := "N", type := 3, offset := 0, embedded := false, tag := "", pkgPath := "", byteOffset := 0 }, { name := "Bad", type := 3, offset := 1, embedded := false, tag := "", pkgPath := "", byteOffset := 8 }, { name := "Err", type := 3, offset := 2, embedded := false, tag := "", pkgPath := "", byteOffset := 16 }], 3, 24, [.int .i64 0, .int .i64 0, .int .i64 0]⟩
theorem tok124 : TOk Tryd.prog 124 ti124 := by
  obtain ⟨inf, h1, h2, h3, h4⟩ := info_parts (show (Tryd.prog.info? 124).map (fun i => (i.zero, i.size, i.bytes)) = some (some (.agg #[.int .i64 0, .int .i64 0, .int .i64 0]), 3, 24) from by kernel_rfl)
  exact ⟨Tryd.underlying124, inf, _, h1, h2, rfl, h3, h4, rfl⟩
def ti130 : TI := ⟨.struct #[{ name := "s", type := 9, offset := 0, embedded := false, tag := "", pkgPath := "doorstep/scan", byteOffset := 0 }, { name := "at", type := 3, offset := 1, embedded := false, tag := "", pkgPath := "doorstep/scan", byteOffset := 16 }], 2, 24, [.string ⟨#[]⟩, .int .i64 0]⟩
theorem tok130 : TOk Tryd.prog 130 ti130 := by
  obtain ⟨inf, h1, h2, h3, h4⟩ := info_parts (show (Tryd.prog.info? 130).map (fun i => (i.zero, i.size, i.bytes)) = some (some (.agg #[.string ⟨#[]⟩, .int .i64 0]), 2, 24) from by kernel_rfl)
  exact ⟨Tryd.underlying130, inf, _, h1, h2, rfl, h3, h4, rfl⟩
def ti173 : TI := ⟨.struct #[{ name := "Scanner", type := 108, offset := 0, embedded := true, tag := "", pkgPath := "", byteOffset := 0 }, { name := "out", type := 30, offset := 1, embedded := false, tag := "", pkgPath := "doorstep/quoted", byteOffset := 8 }], 2, 32, [.pointer none, .slice none 0 0]⟩
theorem tok173 : TOk Tryd.prog 173 ti173 := by
  obtain ⟨inf, h1, h2, h3, h4⟩ := info_parts (show (Tryd.prog.info? 173).map (fun i => (i.zero, i.size, i.bytes)) = some (some (.agg #[.pointer none, .slice none 0 0]), 2, 32) from by kernel_rfl)
  exact ⟨Tryd.underlying173, inf, _, h1, h2, rfl, h3, h4, rfl⟩
def ti185 : TI := ⟨.array 24 5, 24, 24, [.int .u8 0, .int .u8 0, .int .u8 0, .int .u8 0, .int .u8 0, .int .u8 0, .int .u8 0, .int .u8 0, .int .u8 0, .int .u8 0, .int .u8 0, .int .u8 0, .int .u8 0, .int .u8 0, .int .u8 0, .int .u8 0, .int .u8 0, .int .u8 0, .int .u8 0, .int .u8 0, .int .u8 0, .int .u8 0, .int .u8 0, .int .u8 0]⟩
theorem tok185 : TOk Tryd.prog 185 ti185 := by
  obtain ⟨inf, h1, h2, h3, h4⟩ := info_parts (show (Tryd.prog.info? 185).map (fun i => (i.zero, i.size, i.bytes)) = some (some (.agg #[.int .u8 0, .int .u8 0, .int .u8 0, .int .u8 0, .int .u8 0, .int .u8 0, .int .u8 0, .int .u8 0, .int .u8 0, .int .u8 0, .int .u8 0, .int .u8 0, .int .u8 0, .int .u8 0, .int .u8 0, .int .u8 0, .int .u8 0, .int .u8 0, .int .u8 0, .int .u8 0, .int .u8 0, .int .u8 0, .int .u8 0, .int .u8 0]), 24, 24) from by kernel_rfl)
  exact ⟨Tryd.underlying185, inf, _, h1, h2, rfl, h3, h4, rfl⟩
def ti186 : TI := ⟨.int .u64, 1, 8, [.int .u64 0]⟩
theorem tok186 : TOk Tryd.prog 186 ti186 := by
  obtain ⟨inf, h1, h2, h3, h4⟩ := info_parts (show (Tryd.prog.info? 186).map (fun i => (i.zero, i.size, i.bytes)) = some (some (.int .u64 0), 1, 8) from by kernel_rfl)
  exact ⟨Tryd.underlying186, inf, _, h1, h2, rfl, h3, h4, rfl⟩
def ti192 : TI := ⟨.int .u64, 1, 8, [.int .u64 0]⟩
theorem tok192 : TOk Tryd.prog 192 ti192 := by
  obtain ⟨inf, h1, h2, h3, h4⟩ := info_parts (show (Tryd.prog.info? 192).map (fun i => (i.zero, i.size, i.bytes)) = some (some (.int .u64 0), 1, 8) from by kernel_rfl)
  exact ⟨Tryd.underlying192, inf, _, h1, h2, rfl, h3, h4, rfl⟩
def ti200 : TI := ⟨.int .u32, 1, 4, [.int .u32 0]⟩
theorem tok200 : TOk Tryd.prog 200 ti200 := by
  obtain ⟨inf, h1, h2, h3, h4⟩ := info_parts (show (Tryd.prog.info? 200).map (fun i => (i.zero, i.size, i.bytes)) = some (some (.int .u32 0), 1, 4) from by kernel_rfl)
  exact ⟨Tryd.underlying200, inf, _, h1, h2, rfl, h3, h4, rfl⟩
def ti201 : TI := ⟨.array 65 5, 65, 65, [.int .u8 0, .int .u8 0, .int .u8 0, .int .u8 0, .int .u8 0, .int .u8 0, .int .u8 0, .int .u8 0, .int .u8 0, .int .u8 0, .int .u8 0, .int .u8 0, .int .u8 0, .int .u8 0, .int .u8 0, .int .u8 0, .int .u8 0, .int .u8 0, .int .u8 0, .int .u8 0, .int .u8 0, .int .u8 0, .int .u8 0, .int .u8 0, .int .u8 0, .int .u8 0, .int .u8 0, .int .u8 0, .int .u8 0, .int .u8 0, .int .u8 0, .int .u8 0, .int .u8 0, .int .u8 0, .int .u8 0, .int .u8 0, .int .u8 0, .int .u8 0, .int .u8 0, .int .u8 0, .int .u8 0, .int .u8 0, .int .u8 0, .int .u8 0, .int .u8 0, .int .u8 0, .int .u8 0, .int .u8 0, .int .u8 0, .int .u8 0, .int .u8 0, .int .u8 0, .int .u8 0, .int .u8 0, .int .u8 0, .int .u8 0, .int .u8 0, .int .u8 0, .int .u8 0, .int .u8 0, .int .u8 0, .int .u8 0, .int .u8 0, .int .u8 0, .int .u8 0]⟩
theorem tok201 : TOk Tryd.prog 201 ti201 := by
  obtain ⟨inf, h1, h2, h3, h4⟩ := info_parts (show (Tryd.prog.info? 201).map (fun i => (i.zero, i.size, i.bytes)) = some (some (.agg #[.int .u8 0, .int .u8 0, .int .u8 0, .int .u8 0, .int .u8 0, .int .u8 0, .int .u8 0, .int .u8 0, .int .u8 0, .int .u8 0, .int .u8 0, .int .u8 0, .int .u8 0, .int .u8 0, .int .u8 0, .int .u8 0, .int .u8 0, .int .u8 0, .int .u8 0, .int .u8 0, .int .u8 0, .int .u8 0, .int .u8 0, .int .u8 0, .int .u8 0, .int .u8 0, .int .u8 0, .int .u8 0, .int .u8 0, .int .u8 0, .int .u8 0, .int .u8 0, .int .u8 0, .int .u8 0, .int .u8 0, .int .u8 0, .int .u8 0, .int .u8 0, .int .u8 0, .int .u8 0, .int .u8 0, .int .u8 0, .int .u8 0, .int .u8 0, .int .u8 0, .int .u8 0, .int .u8 0, .int .u8 0, .int .u8 0, .int .u8 0, .int .u8 0, .int .u8 0, .int .u8 0, .int .u8 0, .int .u8 0, .int .u8 0, .int .u8 0, .int .u8 0, .int .u8 0, .int .u8 0, .int .u8 0, .int .u8 0, .int .u8 0, .int .u8 0, .int .u8 0]), 65, 65) from by kernel_rfl)
  exact ⟨Tryd.underlying201, inf, _, h1, h2, rfl, h3, h4, rfl⟩
def T : Tab := findT [(2, ti2), (3, ti3), (4, ti4), (5, ti5), (9, ti9), (22, ti22), (24, ti24), (30, ti30), (31, ti31), (34, ti34), (43, ti43), (46, ti46), (48, ti48), (50, ti50), (51, ti51), (62, ti62), (70, ti70), (72, ti72), (79, ti79), (83, ti83), (88, ti88), (94, ti94), (98, ti98), (100, ti100), (102, ti102), (104, ti104), (106, ti106), (108, ti108), (111, ti111), (124, ti124), (130, ti130), (173, ti173), (185, ti185), (186, ti186), (192, ti192), (200, ti200), (201, ti201)]
theorem T_ok : T.Ok Tryd.prog := findT_ok (.cons tok2 (.cons tok3 (.cons tok4 (.cons tok5 (.cons tok9 (.cons tok22 (.cons tok24 (.cons tok30 (.cons tok31 (.cons tok34 (.cons tok43 (.cons tok46 (.cons tok48 (.cons tok50 (.cons tok51 (.cons tok62 (.cons tok70 (.cons tok72 (.cons tok79 (.cons tok83 (.cons tok88 (.cons tok94 (.cons tok98 (.cons tok100 (.cons tok102 (.cons tok104 (.cons tok106 (.cons tok108 (.cons tok111 (.cons tok124 (.cons tok130 (.cons tok173 (.cons tok185 (.cons tok186 (.cons tok192 (.cons tok200 (.cons tok201 (.nil))))))))))))))))))))))))))))))))))))))
end Go.Proofs.YthcjiflmhjagiaaDoor
