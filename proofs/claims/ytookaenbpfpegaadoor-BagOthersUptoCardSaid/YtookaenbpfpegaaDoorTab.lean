/- The types that the functions use, in a table; each row is proved. No statement of its own. -/
import Derived.Test.YtookaenbpfpegaaDoorProg
import Derived.Test.YtookaenbpfpegaaDoorVz
set_option linter.unusedSimpArgs false
set_option linter.unusedVariables false
set_option maxRecDepth 100000
namespace Go.Proofs.YtookaenbpfpegaaDoor
open Go.RowKit

def ti3 : TI := ⟨.int .i64, 1, 8, [.int .i64 0]⟩
theorem tok3 : TOk Tryd.prog 3 ti3 := by
  obtain ⟨inf, h1, h2, h3, h4⟩ := info_parts (show (Tryd.prog.info? 3).map (fun i => (i.zero, i.size, i.bytes)) = some (some (.int .i64 0), 1, 8) from by kernel_rfl)
  exact ⟨Tryd.underlying3, inf, _, h1, h2, rfl, h3, h4, rfl⟩
def ti4 : TI := ⟨.bool, 1, 1, [.bool false]⟩
theorem tok4 : TOk Tryd.prog 4 ti4 := by
  obtain ⟨inf, h1, h2, h3, h4⟩ := info_parts (show (Tryd.prog.info? 4).map (fun i => (i.zero, i.size, i.bytes)) = some (some (.bool false), 1, 1) from by kernel_rfl)
  exact ⟨Tryd.underlying4, inf, _, h1, h2, rfl, h3, h4, rfl⟩
def ti5 : TI := ⟨.int .u8, 1, 1, [.int .u8 0]⟩
theorem tok5 : TOk Tryd.prog 5 ti5 := by
  obtain ⟨inf, h1, h2, h3, h4⟩ := info_parts (show (Tryd.prog.info? 5).map (fun i => (i.zero, i.size, i.bytes)) = some (some (.int .u8 0), 1, 1) from by kernel_rfl)
  exact ⟨Tryd.underlying5, inf, _, h1, h2, rfl, h3, h4, rfl⟩
def ti9 : TI := ⟨.string, 1, 16, [.string ⟨#[]⟩]⟩
theorem tok9 : TOk Tryd.prog 9 ti9 := by
  obtain ⟨inf, h1, h2, h3, h4⟩ := info_parts (show (Tryd.prog.info? 9).map (fun i => (i.zero, i.size, i.bytes)) = some (some (.string ⟨#[]⟩), 1, 16) from by kernel_rfl)
  exact ⟨Tryd.underlying9, inf, _, h1, h2, rfl, h3, h4, rfl⟩
def ti22 : TI := ⟨.int .i64, 1, 8, [.int .i64 0]⟩
theorem tok22 : TOk Tryd.prog 22 ti22 := by
  obtain ⟨inf, h1, h2, h3, h4⟩ := info_parts (show (Tryd.prog.info? 22).map (fun i => (i.zero, i.size, i.bytes)) = some (some (.int .i64 0), 1, 8) from by kernel_rfl)
  exact ⟨Tryd.underlying22, inf, _, h1, h2, rfl, h3, h4, rfl⟩
def ti24 : TI := ⟨.struct #[{ name := "Kind", type := 22, offset := 0, embedded := false, tag := "", pkgPath := "", byteOffset := 0 }, { name := "N", type := 3, offset := 1, embedded := false, tag := "", pkgPath := "", byteOffset := 8 }], 2, 16, [.int .i64 0, .int .i64 0]⟩
theorem tok24 : TOk Tryd.prog 24 ti24 := by
  obtain ⟨inf, h1, h2, h3, h4⟩ := info_parts (show (Tryd.prog.info? 24).map (fun i => (i.zero, i.size, i.bytes)) = some (some (.agg #[.int .i64 0, .int .i64 0]), 2, 16) from by kernel_rfl)
  exact ⟨Tryd.underlying24, inf, _, h1, h2, rfl, h3, h4, rfl⟩
def ti25 : TI := ⟨.slice 5, 1, 24, [.slice none 0 0]⟩
theorem tok25 : TOk Tryd.prog 25 ti25 := by
  obtain ⟨inf, h1, h2, h3, h4⟩ := info_parts (show (Tryd.prog.info? 25).map (fun i => (i.zero, i.size, i.bytes)) = some (some (.slice none 0 0), 1, 24) from by kernel_rfl)
  exact ⟨Tryd.underlying25, inf, _, h1, h2, rfl, h3, h4, rfl⟩
def ti27 : TI := ⟨.pointer 73, 1, 8, [.pointer none]⟩
theorem tok27 : TOk Tryd.prog 27 ti27 := by
  obtain ⟨inf, h1, h2, h3, h4⟩ := info_parts (show (Tryd.prog.info? 27).map (fun i => (i.zero, i.size, i.bytes)) = some (some (.pointer none), 1, 8) from by kernel_rfl)
  exact ⟨Tryd.underlying27, inf, _, h1, h2, rfl, h3, h4, rfl⟩
def ti28 : TI := ⟨.int .i64, 1, 8, [.int .i64 0]⟩
theorem tok28 : TOk Tryd.prog 28 ti28 := by
  obtain ⟨inf, h1, h2, h3, h4⟩ := info_parts (show (Tryd.prog.info? 28).map (fun i => (i.zero, i.size, i.bytes)) = some (some (.int .i64 0), 1, 8) from by kernel_rfl)
  exact ⟨Tryd.underlying28, inf, _, h1, h2, rfl, h3, h4, rfl⟩
def ti32 : TI := ⟨.slice 55, 1, 24, [.slice none 0 0]⟩
theorem tok32 : TOk Tryd.prog 32 ti32 := by
  obtain ⟨inf, h1, h2, h3, h4⟩ := info_parts (show (Tryd.prog.info? 32).map (fun i => (i.zero, i.size, i.bytes)) = some (some (.slice none 0 0), 1, 24) from by kernel_rfl)
  exact ⟨Tryd.underlying32, inf, _, h1, h2, rfl, h3, h4, rfl⟩
def ti34 : TI := ⟨.struct #[{ name := "At", type := 3, offset := 0, embedded := false, tag := "", pkgPath := "", byteOffset := 0 }, { name := "Err", type := 3, offset := 1, embedded := false, tag := "", pkgPath := "", byteOffset := 8 }, { name := "Body", type := 9, offset := 2, embedded := false, tag := "", pkgPath := "", byteOffset := 16 }, { name := "Trailers", type := 32, offset := 3, embedded := false, tag := "", pkgPath := "", byteOffset := 32 }, { name := "Kept", type := 3, offset := 4, embedded := false, tag := "", pkgPath := "", byteOffset := 56 }], 5, 64, [.int .i64 0, .int .i64 0, .string ⟨#[]⟩, .slice none 0 0, .int .i64 0]⟩
theorem tok34 : TOk Tryd.prog 34 ti34 := by
  obtain ⟨inf, h1, h2, h3, h4⟩ := info_parts (show (Tryd.prog.info? 34).map (fun i => (i.zero, i.size, i.bytes)) = some (some (.agg #[.int .i64 0, .int .i64 0, .string ⟨#[]⟩, .slice none 0 0, .int .i64 0]), 5, 64) from by kernel_rfl)
  exact ⟨Tryd.underlying34, inf, _, h1, h2, rfl, h3, h4, rfl⟩
def ti36 : TI := ⟨.slice 9, 1, 24, [.slice none 0 0]⟩
theorem tok36 : TOk Tryd.prog 36 ti36 := by
  obtain ⟨inf, h1, h2, h3, h4⟩ := info_parts (show (Tryd.prog.info? 36).map (fun i => (i.zero, i.size, i.bytes)) = some (some (.slice none 0 0), 1, 24) from by kernel_rfl)
  exact ⟨Tryd.underlying36, inf, _, h1, h2, rfl, h3, h4, rfl⟩
def ti47 : TI := ⟨.struct #[{ name := "Kind", type := 5, offset := 0, embedded := false, tag := "", pkgPath := "", byteOffset := 0 }, { name := "Name", type := 9, offset := 1, embedded := false, tag := "", pkgPath := "", byteOffset := 8 }, { name := "Value", type := 9, offset := 2, embedded := false, tag := "", pkgPath := "", byteOffset := 24 }], 3, 40, [.int .u8 0, .string ⟨#[]⟩, .string ⟨#[]⟩]⟩
theorem tok47 : TOk Tryd.prog 47 ti47 := by
  obtain ⟨inf, h1, h2, h3, h4⟩ := info_parts (show (Tryd.prog.info? 47).map (fun i => (i.zero, i.size, i.bytes)) = some (some (.agg #[.int .u8 0, .string ⟨#[]⟩, .string ⟨#[]⟩]), 3, 40) from by kernel_rfl)
  exact ⟨Tryd.underlying47, inf, _, h1, h2, rfl, h3, h4, rfl⟩
def ti49 : TI := ⟨.pointer 78, 1, 8, [.pointer none]⟩
theorem tok49 : TOk Tryd.prog 49 ti49 := by
  obtain ⟨inf, h1, h2, h3, h4⟩ := info_parts (show (Tryd.prog.info? 49).map (fun i => (i.zero, i.size, i.bytes)) = some (some (.pointer none), 1, 8) from by kernel_rfl)
  exact ⟨Tryd.underlying49, inf, _, h1, h2, rfl, h3, h4, rfl⟩
def ti55 : TI := ⟨.struct #[{ name := "Name", type := 9, offset := 0, embedded := false, tag := "", pkgPath := "", byteOffset := 0 }, { name := "Value", type := 9, offset := 1, embedded := false, tag := "", pkgPath := "", byteOffset := 16 }], 2, 32, [.string ⟨#[]⟩, .string ⟨#[]⟩]⟩
theorem tok55 : TOk Tryd.prog 55 ti55 := by
  obtain ⟨inf, h1, h2, h3, h4⟩ := info_parts (show (Tryd.prog.info? 55).map (fun i => (i.zero, i.size, i.bytes)) = some (some (.agg #[.string ⟨#[]⟩, .string ⟨#[]⟩]), 2, 32) from by kernel_rfl)
  exact ⟨Tryd.underlying55, inf, _, h1, h2, rfl, h3, h4, rfl⟩
def ti57 : TI := ⟨.slice 47, 1, 24, [.slice none 0 0]⟩
theorem tok57 : TOk Tryd.prog 57 ti57 := by
  obtain ⟨inf, h1, h2, h3, h4⟩ := info_parts (show (Tryd.prog.info? 57).map (fun i => (i.zero, i.size, i.bytes)) = some (some (.slice none 0 0), 1, 24) from by kernel_rfl)
  exact ⟨Tryd.underlying57, inf, _, h1, h2, rfl, h3, h4, rfl⟩
def ti69 : TI := ⟨.pointer 90, 1, 8, [.pointer none]⟩
theorem tok69 : TOk Tryd.prog 69 ti69 := by
  obtain ⟨inf, h1, h2, h3, h4⟩ := info_parts (show (Tryd.prog.info? 69).map (fun i => (i.zero, i.size, i.bytes)) = some (some (.pointer none), 1, 8) from by kernel_rfl)
  exact ⟨Tryd.underlying69, inf, _, h1, h2, rfl, h3, h4, rfl⟩
def ti73 : TI := ⟨.struct #[{ name := "Decoder", type := 69, offset := 0, embedded := true, tag := "", pkgPath := "", byteOffset := 0 }, { name := "frame", type := 24, offset := 1, embedded := false, tag := "", pkgPath := "doorstep/body", byteOffset := 8 }, { name := "left", type := 3, offset := 3, embedded := false, tag := "", pkgPath := "doorstep/body", byteOffset := 24 }, { name := "done", type := 4, offset := 4, embedded := false, tag := "", pkgPath := "doorstep/body", byteOffset := 32 }, { name := "bad", type := 4, offset := 5, embedded := false, tag := "", pkgPath := "doorstep/body", byteOffset := 33 }], 6, 40, [.pointer none, .int .i64 0, .int .i64 0, .int .i64 0, .bool false, .bool false]⟩
theorem tok73 : TOk Tryd.prog 73 ti73 := by
  obtain ⟨inf, h1, h2, h3, h4⟩ := info_parts (show (Tryd.prog.info? 73).map (fun i => (i.zero, i.size, i.bytes)) = some (some (.agg #[.pointer none, .int .i64 0, .int .i64 0, .int .i64 0, .bool false, .bool false]), 6, 40) from by kernel_rfl)
  exact ⟨Tryd.underlying73, inf, _, h1, h2, rfl, h3, h4, rfl⟩
def ti75 : TI := ⟨.struct #[{ name := "At", type := 3, offset := 0, embedded := false, tag := "", pkgPath := "", byteOffset := 0 }, { name := "Err", type := 3, offset := 1, embedded := false, tag := "", pkgPath := "", byteOffset := 8 }, { name := "Body", type := 9, offset := 2, embedded := false, tag := "", pkgPath := "", byteOffset := 16 }, { name := "Trailers", type := 32, offset := 3, embedded := false, tag := "", pkgPath := "", byteOffset := 32 }, { name := "Line", type := 3, offset := 4, embedded := false, tag := "", pkgPath := "", byteOffset := 56 }], 5, 64, [.int .i64 0, .int .i64 0, .string ⟨#[]⟩, .slice none 0 0, .int .i64 0]⟩
theorem tok75 : TOk Tryd.prog 75 ti75 := by
  obtain ⟨inf, h1, h2, h3, h4⟩ := info_parts (show (Tryd.prog.info? 75).map (fun i => (i.zero, i.size, i.bytes)) = some (some (.agg #[.int .i64 0, .int .i64 0, .string ⟨#[]⟩, .slice none 0 0, .int .i64 0]), 5, 64) from by kernel_rfl)
  exact ⟨Tryd.underlying75, inf, _, h1, h2, rfl, h3, h4, rfl⟩
def ti78 : TI := ⟨.struct #[{ name := "l", type := 32, offset := 0, embedded := false, tag := "", pkgPath := "doorstep/bag", byteOffset := 0 }], 1, 24, [.slice none 0 0]⟩
theorem tok78 : TOk Tryd.prog 78 ti78 := by
  obtain ⟨inf, h1, h2, h3, h4⟩ := info_parts (show (Tryd.prog.info? 78).map (fun i => (i.zero, i.size, i.bytes)) = some (some (.agg #[.slice none 0 0]), 1, 24) from by kernel_rfl)
  exact ⟨Tryd.underlying78, inf, _, h1, h2, rfl, h3, h4, rfl⟩
def ti88 : TI := ⟨.int .i64, 1, 8, [.int .i64 0]⟩
theorem tok88 : TOk Tryd.prog 88 ti88 := by
  obtain ⟨inf, h1, h2, h3, h4⟩ := info_parts (show (Tryd.prog.info? 88).map (fun i => (i.zero, i.size, i.bytes)) = some (some (.int .i64 0), 1, 8) from by kernel_rfl)
  exact ⟨Tryd.underlying88, inf, _, h1, h2, rfl, h3, h4, rfl⟩
def ti90 : TI := ⟨.struct #[{ name := "limit", type := 3, offset := 0, embedded := false, tag := "", pkgPath := "doorstep/dechunk", byteOffset := 0 }, { name := "at", type := 88, offset := 1, embedded := false, tag := "", pkgPath := "doorstep/dechunk", byteOffset := 8 }, { name := "line", type := 25, offset := 2, embedded := false, tag := "", pkgPath := "doorstep/dechunk", byteOffset := 16 }, { name := "left", type := 3, offset := 3, embedded := false, tag := "", pkgPath := "doorstep/dechunk", byteOffset := 40 }, { name := "sum", type := 3, offset := 4, embedded := false, tag := "", pkgPath := "doorstep/dechunk", byteOffset := 48 }, { name := "spent", type := 3, offset := 5, embedded := false, tag := "", pkgPath := "doorstep/dechunk", byteOffset := 56 }, { name := "trailers", type := 32, offset := 6, embedded := false, tag := "", pkgPath := "doorstep/dechunk", byteOffset := 64 }], 7, 88, [.int .i64 0, .int .i64 0, .slice none 0 0, .int .i64 0, .int .i64 0, .int .i64 0, .slice none 0 0]⟩
theorem tok90 : TOk Tryd.prog 90 ti90 := by
  obtain ⟨inf, h1, h2, h3, h4⟩ := info_parts (show (Tryd.prog.info? 90).map (fun i => (i.zero, i.size, i.bytes)) = some (some (.agg #[.int .i64 0, .int .i64 0, .slice none 0 0, .int .i64 0, .int .i64 0, .int .i64 0, .slice none 0 0]), 7, 88) from by kernel_rfl)
  exact ⟨Tryd.underlying90, inf, _, h1, h2, rfl, h3, h4, rfl⟩
def ti92 : TI := ⟨.struct #[{ name := "N", type := 3, offset := 0, embedded := false, tag := "", pkgPath := "", byteOffset := 0 }, { name := "Bad", type := 3, offset := 1, embedded := false, tag := "", pkgPath := "", byteOffset := 8 }, { name := "Err", type := 3, offset := 2, embedded := false, tag := "", pkgPath := "", byteOffset := 16 }], 3, 24, [.int .i64 0, .int .i64 0, .int .i64 0]⟩
theorem tok92 : TOk Tryd.prog 92 ti92 := by
  obtain ⟨inf, h1, h2, h3, h4⟩ := info_parts (show (Tryd.prog.info? 92).map (fun i => (i.zero, i.size, i.bytes)) = some (some (.agg #[.int .i64 0, .int .i64 0, .int .i64 0]), 3, 24) from by kernel_rfl)
  exact ⟨Tryd.underlying92, inf, _, h1, h2, rfl, h3, h4, rfl⟩
def ti94 : TI := ⟨.slice 109, 1, 24, [.slice none 0 0]⟩
theorem tok94 : TOk Tryd.prog 94 ti94 := by
  obtain ⟨inf, h1, h2, h3, h4⟩ := info_parts (show (Tryd.prog.info? 94).map (fun i => (i.zero, i.size, i.bytes)) = some (some (.slice none 0 0), 1, 24) from by kernel_rfl)
  exact ⟨Tryd.underlying94, inf, _, h1, h2, rfl, h3, h4, rfl⟩
def ti109 : TI := ⟨.struct #[{ name := "Name", type := 9, offset := 0, embedded := false, tag := "", pkgPath := "", byteOffset := 0 }, { name := "Value", type := 9, offset := 1, embedded := false, tag := "", pkgPath := "", byteOffset := 16 }, { name := "Has", type := 4, offset := 2, embedded := false, tag := "", pkgPath := "", byteOffset := 32 }], 3, 40, [.string ⟨#[]⟩, .string ⟨#[]⟩, .bool false]⟩
theorem tok109 : TOk Tryd.prog 109 ti109 := by
  obtain ⟨inf, h1, h2, h3, h4⟩ := info_parts (show (Tryd.prog.info? 109).map (fun i => (i.zero, i.size, i.bytes)) = some (some (.agg #[.string ⟨#[]⟩, .string ⟨#[]⟩, .bool false]), 3, 40) from by kernel_rfl)
  exact ⟨Tryd.underlying109, inf, _, h1, h2, rfl, h3, h4, rfl⟩
def ti150 : TI := ⟨.pointer 171, 1, 8, [.pointer none]⟩
theorem tok150 : TOk Tryd.prog 150 ti150 := by
  obtain ⟨inf, h1, h2, h3, h4⟩ := info_parts (show (Tryd.prog.info? 150).map (fun i => (i.zero, i.size, i.bytes)) = some (some (.pointer none), 1, 8) from by kernel_rfl)
  exact ⟨Tryd.underlying150, inf, _, h1, h2, rfl, h3, h4, rfl⟩
def ti153 : TI := ⟨.struct #[{ name := "Scanner", type := 150, offset := 0, embedded := true, tag := "", pkgPath := "", byteOffset := 0 }], 1, 8, [.pointer none]⟩
theorem tok153 : TOk Tryd.prog 153 ti153 := by
  obtain ⟨inf, h1, h2, h3, h4⟩ := info_parts (show (Tryd.prog.info? 153).map (fun i => (i.zero, i.size, i.bytes)) = some (some (.agg #[.pointer none]), 1, 8) from by kernel_rfl)
  exact ⟨Tryd.underlying153, inf, _, h1, h2, rfl, h3, h4, rfl⟩
def ti171 : TI := ⟨.struct #[{ name := "s", type := 9, offset := 0, embedded := false, tag := "", pkgPath := "doorstep/scan", byteOffset := 0 }, { name := "at", type := 3, offset := 1, embedded := false, tag := "", pkgPath := "doorstep/scan", byteOffset := 16 }], 2, 24, [.string ⟨#[]⟩, .int .i64 0]⟩
theorem tok171 : TOk Tryd.prog 171 ti171 := by
  obtain ⟨inf, h1, h2, h3, h4⟩ := info_parts (show (Tryd.prog.info? 171).map (fun i => (i.zero, i.size, i.bytes)) = some (some (.agg #[.string ⟨#[]⟩, .int .i64 0]), 2, 24) from by kernel_rfl)
  exact ⟨Tryd.underlying171, inf, _, h1, h2, rfl, h3, h4, rfl⟩
def ti183 : TI := ⟨.struct #[{ name := "Scanner", type := 150, offset := 0, embedded := true, tag := "", pkgPath := "", byteOffset := 0 }, { name := "out", type := 25, offset := 1, embedded := false, tag := "", pkgPath := "doorstep/quoted", byteOffset := 8 }], 2, 32, [.pointer none, .slice none 0 0]⟩
theorem tok183 : TOk Tryd.prog 183 ti183 := by
  obtain ⟨inf, h1, h2, h3, h4⟩ := info_parts (show (Tryd.prog.info? 183).map (fun i => (i.zero, i.size, i.bytes)) = some (some (.agg #[.pointer none, .slice none 0 0]), 2, 32) from by kernel_rfl)
  exact ⟨Tryd.underlying183, inf, _, h1, h2, rfl, h3, h4, rfl⟩
def T : Tab := findT [(3, ti3), (4, ti4), (5, ti5), (9, ti9), (22, ti22), (24, ti24), (25, ti25), (27, ti27), (28, ti28), (32, ti32), (34, ti34), (36, ti36), (47, ti47), (49, ti49), (55, ti55), (57, ti57), (69, ti69), (73, ti73), (75, ti75), (78, ti78), (88, ti88), (90, ti90), (92, ti92), (94, ti94), (109, ti109), (150, ti150), (153, ti153), (171, ti171), (183, ti183)]
theorem T_ok : T.Ok Tryd.prog := findT_ok (.cons tok3 (.cons tok4 (.cons tok5 (.cons tok9 (.cons tok22 (.cons tok24 (.cons tok25 (.cons tok27 (.cons tok28 (.cons tok32 (.cons tok34 (.cons tok36 (.cons tok47 (.cons tok49 (.cons tok55 (.cons tok57 (.cons tok69 (.cons tok73 (.cons tok75 (.cons tok78 (.cons tok88 (.cons tok90 (.cons tok92 (.cons tok94 (.cons tok109 (.cons tok150 (.cons tok153 (.cons tok171 (.cons tok183 (.nil))))))))))))))))))))))))))))))
end Go.Proofs.YtookaenbpfpegaaDoor
