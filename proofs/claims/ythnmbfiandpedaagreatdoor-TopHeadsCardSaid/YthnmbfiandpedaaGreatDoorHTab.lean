/- The types that the functions use, in a table; each row is proved. No statement of its own. -/
import Derived.Test.YthnmbfiandpedaaGreatDoorProg
import Derived.Test.YthnmbfiandpedaaGreatDoorHVz
set_option linter.unusedSimpArgs false
set_option linter.unusedVariables false
set_option maxRecDepth 100000
namespace Go.Proofs.YthnmbfiandpedaaGreatDoor
open Go.RowKit

def ti2 : TI := ⟨.int .i64, 1, 8, [.int .i64 0]⟩
theorem tok2 : TOk Tryz.prog 2 ti2 := by
  obtain ⟨inf, h1, h2, h3, h4⟩ := info_parts (show (Tryz.prog.info? 2).map (fun i => (i.zero, i.size, i.bytes)) = some (some (.int .i64 0), 1, 8) from by kernel_rfl)
  exact ⟨Tryz.underlying2, inf, _, h1, h2, rfl, h3, h4, rfl⟩
def ti3 : TI := ⟨.int .i64, 1, 8, [.int .i64 0]⟩
theorem tok3 : TOk Tryz.prog 3 ti3 := by
  obtain ⟨inf, h1, h2, h3, h4⟩ := info_parts (show (Tryz.prog.info? 3).map (fun i => (i.zero, i.size, i.bytes)) = some (some (.int .i64 0), 1, 8) from by kernel_rfl)
  exact ⟨Tryz.underlying3, inf, _, h1, h2, rfl, h3, h4, rfl⟩
def ti4 : TI := ⟨.bool, 1, 1, [.bool false]⟩
theorem tok4 : TOk Tryz.prog 4 ti4 := by
  obtain ⟨inf, h1, h2, h3, h4⟩ := info_parts (show (Tryz.prog.info? 4).map (fun i => (i.zero, i.size, i.bytes)) = some (some (.bool false), 1, 1) from by kernel_rfl)
  exact ⟨Tryz.underlying4, inf, _, h1, h2, rfl, h3, h4, rfl⟩
def ti5 : TI := ⟨.int .u8, 1, 1, [.int .u8 0]⟩
theorem tok5 : TOk Tryz.prog 5 ti5 := by
  obtain ⟨inf, h1, h2, h3, h4⟩ := info_parts (show (Tryz.prog.info? 5).map (fun i => (i.zero, i.size, i.bytes)) = some (some (.int .u8 0), 1, 1) from by kernel_rfl)
  exact ⟨Tryz.underlying5, inf, _, h1, h2, rfl, h3, h4, rfl⟩
def ti9 : TI := ⟨.string, 1, 16, [.string ⟨#[]⟩]⟩
theorem tok9 : TOk Tryz.prog 9 ti9 := by
  obtain ⟨inf, h1, h2, h3, h4⟩ := info_parts (show (Tryz.prog.info? 9).map (fun i => (i.zero, i.size, i.bytes)) = some (some (.string ⟨#[]⟩), 1, 16) from by kernel_rfl)
  exact ⟨Tryz.underlying9, inf, _, h1, h2, rfl, h3, h4, rfl⟩
def ti22 : TI := ⟨.int .i64, 1, 8, [.int .i64 0]⟩
theorem tok22 : TOk Tryz.prog 22 ti22 := by
  obtain ⟨inf, h1, h2, h3, h4⟩ := info_parts (show (Tryz.prog.info? 22).map (fun i => (i.zero, i.size, i.bytes)) = some (some (.int .i64 0), 1, 8) from by kernel_rfl)
  exact ⟨Tryz.underlying22, inf, _, h1, h2, rfl, h3, h4, rfl⟩
def ti24 : TI := ⟨.pointer 61, 1, 8, [.pointer none]⟩
theorem tok24 : TOk Tryz.prog 24 ti24 := by
  obtain ⟨inf, h1, h2, h3, h4⟩ := info_parts (show (Tryz.prog.info? 24).map (fun i => (i.zero, i.size, i.bytes)) = some (some (.pointer none), 1, 8) from by kernel_rfl)
  exact ⟨Tryz.underlying24, inf, _, h1, h2, rfl, h3, h4, rfl⟩
def ti25 : TI := ⟨.int .i64, 1, 8, [.int .i64 0]⟩
theorem tok25 : TOk Tryz.prog 25 ti25 := by
  obtain ⟨inf, h1, h2, h3, h4⟩ := info_parts (show (Tryz.prog.info? 25).map (fun i => (i.zero, i.size, i.bytes)) = some (some (.int .i64 0), 1, 8) from by kernel_rfl)
  exact ⟨Tryz.underlying25, inf, _, h1, h2, rfl, h3, h4, rfl⟩
def ti30 : TI := ⟨.slice 73, 1, 24, [.slice none 0 0]⟩
theorem tok30 : TOk Tryz.prog 30 ti30 := by
  obtain ⟨inf, h1, h2, h3, h4⟩ := info_parts (show (Tryz.prog.info? 30).map (fun i => (i.zero, i.size, i.bytes)) = some (some (.slice none 0 0), 1, 24) from by kernel_rfl)
  exact ⟨Tryz.underlying30, inf, _, h1, h2, rfl, h3, h4, rfl⟩
def ti32 : TI := ⟨.struct #[{ name := "Kind", type := 22, offset := 0, embedded := false, tag := "", pkgPath := "", byteOffset := 0 }, { name := "Method", type := 9, offset := 1, embedded := false, tag := "", pkgPath := "", byteOffset := 8 }, { name := "Target", type := 9, offset := 2, embedded := false, tag := "", pkgPath := "", byteOffset := 24 }, { name := "Code", type := 3, offset := 3, embedded := false, tag := "", pkgPath := "", byteOffset := 40 }, { name := "Reason", type := 9, offset := 4, embedded := false, tag := "", pkgPath := "", byteOffset := 48 }, { name := "Minor", type := 3, offset := 5, embedded := false, tag := "", pkgPath := "", byteOffset := 64 }, { name := "Fields", type := 30, offset := 6, embedded := false, tag := "", pkgPath := "", byteOffset := 72 }], 7, 96, [.int .i64 0, .string ⟨#[]⟩, .string ⟨#[]⟩, .int .i64 0, .string ⟨#[]⟩, .int .i64 0, .slice none 0 0]⟩
theorem tok32 : TOk Tryz.prog 32 ti32 := by
  obtain ⟨inf, h1, h2, h3, h4⟩ := info_parts (show (Tryz.prog.info? 32).map (fun i => (i.zero, i.size, i.bytes)) = some (some (.agg #[.int .i64 0, .string ⟨#[]⟩, .string ⟨#[]⟩, .int .i64 0, .string ⟨#[]⟩, .int .i64 0, .slice none 0 0]), 7, 96) from by kernel_rfl)
  exact ⟨Tryz.underlying32, inf, _, h1, h2, rfl, h3, h4, rfl⟩
def ti41 : TI := ⟨.struct #[{ name := "Client", type := 3, offset := 0, embedded := false, tag := "", pkgPath := "", byteOffset := 0 }, { name := "Upstream", type := 3, offset := 1, embedded := false, tag := "", pkgPath := "", byteOffset := 8 }], 2, 16, [.int .i64 0, .int .i64 0]⟩
theorem tok41 : TOk Tryz.prog 41 ti41 := by
  obtain ⟨inf, h1, h2, h3, h4⟩ := info_parts (show (Tryz.prog.info? 41).map (fun i => (i.zero, i.size, i.bytes)) = some (some (.agg #[.int .i64 0, .int .i64 0]), 2, 16) from by kernel_rfl)
  exact ⟨Tryz.underlying41, inf, _, h1, h2, rfl, h3, h4, rfl⟩
def ti43 : TI := ⟨.struct #[{ name := "Client", type := 9, offset := 0, embedded := false, tag := "", pkgPath := "", byteOffset := 0 }, { name := "Upstream", type := 9, offset := 1, embedded := false, tag := "", pkgPath := "", byteOffset := 16 }, { name := "ReadClient", type := 3, offset := 2, embedded := false, tag := "", pkgPath := "", byteOffset := 32 }, { name := "ReadUpstream", type := 3, offset := 3, embedded := false, tag := "", pkgPath := "", byteOffset := 40 }, { name := "Most", type := 41, offset := 4, embedded := false, tag := "", pkgPath := "", byteOffset := 48 }, { name := "Closed", type := 4, offset := 6, embedded := false, tag := "", pkgPath := "", byteOffset := 64 }], 7, 72, [.string ⟨#[]⟩, .string ⟨#[]⟩, .int .i64 0, .int .i64 0, .int .i64 0, .int .i64 0, .bool false]⟩
theorem tok43 : TOk Tryz.prog 43 ti43 := by
  obtain ⟨inf, h1, h2, h3, h4⟩ := info_parts (show (Tryz.prog.info? 43).map (fun i => (i.zero, i.size, i.bytes)) = some (some (.agg #[.string ⟨#[]⟩, .string ⟨#[]⟩, .int .i64 0, .int .i64 0, .int .i64 0, .int .i64 0, .bool false]), 7, 72) from by kernel_rfl)
  exact ⟨Tryz.underlying43, inf, _, h1, h2, rfl, h3, h4, rfl⟩
def ti46 : TI := ⟨.slice 149, 1, 24, [.slice none 0 0]⟩
theorem tok46 : TOk Tryz.prog 46 ti46 := by
  obtain ⟨inf, h1, h2, h3, h4⟩ := info_parts (show (Tryz.prog.info? 46).map (fun i => (i.zero, i.size, i.bytes)) = some (some (.slice none 0 0), 1, 24) from by kernel_rfl)
  exact ⟨Tryz.underlying46, inf, _, h1, h2, rfl, h3, h4, rfl⟩
def ti48 : TI := ⟨.struct #[{ name := "Client", type := 9, offset := 0, embedded := false, tag := "", pkgPath := "", byteOffset := 0 }, { name := "Host", type := 9, offset := 1, embedded := false, tag := "", pkgPath := "", byteOffset := 16 }, { name := "Scheme", type := 9, offset := 2, embedded := false, tag := "", pkgPath := "", byteOffset := 32 }, { name := "By", type := 9, offset := 3, embedded := false, tag := "", pkgPath := "", byteOffset := 48 }, { name := "Domains", type := 46, offset := 4, embedded := false, tag := "", pkgPath := "", byteOffset := 64 }, { name := "Locations", type := 46, offset := 5, embedded := false, tag := "", pkgPath := "", byteOffset := 88 }], 6, 112, [.string ⟨#[]⟩, .string ⟨#[]⟩, .string ⟨#[]⟩, .string ⟨#[]⟩, .slice none 0 0, .slice none 0 0]⟩
theorem tok48 : TOk Tryz.prog 48 ti48 := by
  obtain ⟨inf, h1, h2, h3, h4⟩ := info_parts (show (Tryz.prog.info? 48).map (fun i => (i.zero, i.size, i.bytes)) = some (some (.agg #[.string ⟨#[]⟩, .string ⟨#[]⟩, .string ⟨#[]⟩, .string ⟨#[]⟩, .slice none 0 0, .slice none 0 0]), 6, 112) from by kernel_rfl)
  exact ⟨Tryz.underlying48, inf, _, h1, h2, rfl, h3, h4, rfl⟩
def ti50 : TI := ⟨.struct #[{ name := "Head", type := 3, offset := 0, embedded := false, tag := "", pkgPath := "", byteOffset := 0 }, { name := "Chunk", type := 3, offset := 1, embedded := false, tag := "", pkgPath := "", byteOffset := 8 }, { name := "Queue", type := 3, offset := 2, embedded := false, tag := "", pkgPath := "", byteOffset := 16 }], 3, 24, [.int .i64 0, .int .i64 0, .int .i64 0]⟩
theorem tok50 : TOk Tryz.prog 50 ti50 := by
  obtain ⟨inf, h1, h2, h3, h4⟩ := info_parts (show (Tryz.prog.info? 50).map (fun i => (i.zero, i.size, i.bytes)) = some (some (.agg #[.int .i64 0, .int .i64 0, .int .i64 0]), 3, 24) from by kernel_rfl)
  exact ⟨Tryz.underlying50, inf, _, h1, h2, rfl, h3, h4, rfl⟩
def ti51 : TI := ⟨.slice 162, 1, 24, [.slice none 0 0]⟩
theorem tok51 : TOk Tryz.prog 51 ti51 := by
  obtain ⟨inf, h1, h2, h3, h4⟩ := info_parts (show (Tryz.prog.info? 51).map (fun i => (i.zero, i.size, i.bytes)) = some (some (.slice none 0 0), 1, 24) from by kernel_rfl)
  exact ⟨Tryz.underlying51, inf, _, h1, h2, rfl, h3, h4, rfl⟩
def ti52 : TI := ⟨.slice 82, 1, 24, [.slice none 0 0]⟩
theorem tok52 : TOk Tryz.prog 52 ti52 := by
  obtain ⟨inf, h1, h2, h3, h4⟩ := info_parts (show (Tryz.prog.info? 52).map (fun i => (i.zero, i.size, i.bytes)) = some (some (.slice none 0 0), 1, 24) from by kernel_rfl)
  exact ⟨Tryz.underlying52, inf, _, h1, h2, rfl, h3, h4, rfl⟩
def ti54 : TI := ⟨.struct #[{ name := "Env", type := 48, offset := 0, embedded := false, tag := "", pkgPath := "", byteOffset := 0 }, { name := "Caps", type := 50, offset := 6, embedded := false, tag := "", pkgPath := "", byteOffset := 112 }, { name := "Rules", type := 51, offset := 9, embedded := false, tag := "", pkgPath := "", byteOffset := 136 }, { name := "Client", type := 9, offset := 10, embedded := false, tag := "", pkgPath := "", byteOffset := 160 }, { name := "Upstream", type := 9, offset := 11, embedded := false, tag := "", pkgPath := "", byteOffset := 176 }, { name := "ClientEnds", type := 4, offset := 12, embedded := false, tag := "", pkgPath := "", byteOffset := 192 }, { name := "UpstreamEnds", type := 4, offset := 13, embedded := false, tag := "", pkgPath := "", byteOffset := 193 }, { name := "Events", type := 52, offset := 14, embedded := false, tag := "", pkgPath := "", byteOffset := 200 }], 15, 224, [.string ⟨#[]⟩, .string ⟨#[]⟩, .string ⟨#[]⟩, .string ⟨#[]⟩, .slice none 0 0, .slice none 0 0, .int .i64 0, .int .i64 0, .int .i64 0, .slice none 0 0, .string ⟨#[]⟩, .string ⟨#[]⟩, .bool false, .bool false, .slice none 0 0]⟩
theorem tok54 : TOk Tryz.prog 54 ti54 := by
  obtain ⟨inf, h1, h2, h3, h4⟩ := info_parts (show (Tryz.prog.info? 54).map (fun i => (i.zero, i.size, i.bytes)) = some (some (.agg #[.string ⟨#[]⟩, .string ⟨#[]⟩, .string ⟨#[]⟩, .string ⟨#[]⟩, .slice none 0 0, .slice none 0 0, .int .i64 0, .int .i64 0, .int .i64 0, .slice none 0 0, .string ⟨#[]⟩, .string ⟨#[]⟩, .bool false, .bool false, .slice none 0 0]), 15, 224) from by kernel_rfl)
  exact ⟨Tryz.underlying54, inf, _, h1, h2, rfl, h3, h4, rfl⟩
def ti57 : TI := ⟨.struct #[{ name := "Requests", type := 3, offset := 0, embedded := false, tag := "", pkgPath := "", byteOffset := 0 }, { name := "Responses", type := 3, offset := 1, embedded := false, tag := "", pkgPath := "", byteOffset := 8 }, { name := "Interims", type := 3, offset := 2, embedded := false, tag := "", pkgPath := "", byteOffset := 16 }, { name := "Torn", type := 4, offset := 3, embedded := false, tag := "", pkgPath := "", byteOffset := 24 }], 4, 32, [.int .i64 0, .int .i64 0, .int .i64 0, .bool false]⟩
theorem tok57 : TOk Tryz.prog 57 ti57 := by
  obtain ⟨inf, h1, h2, h3, h4⟩ := info_parts (show (Tryz.prog.info? 57).map (fun i => (i.zero, i.size, i.bytes)) = some (some (.agg #[.int .i64 0, .int .i64 0, .int .i64 0, .bool false]), 4, 32) from by kernel_rfl)
  exact ⟨Tryz.underlying57, inf, _, h1, h2, rfl, h3, h4, rfl⟩
def ti59 : TI := ⟨.slice 5, 1, 24, [.slice none 0 0]⟩
theorem tok59 : TOk Tryz.prog 59 ti59 := by
  obtain ⟨inf, h1, h2, h3, h4⟩ := info_parts (show (Tryz.prog.info? 59).map (fun i => (i.zero, i.size, i.bytes)) = some (some (.slice none 0 0), 1, 24) from by kernel_rfl)
  exact ⟨Tryz.underlying59, inf, _, h1, h2, rfl, h3, h4, rfl⟩
def ti61 : TI := ⟨.struct #[{ name := "kind", type := 22, offset := 0, embedded := false, tag := "", pkgPath := "doorstep/accum", byteOffset := 0 }, { name := "limit", type := 3, offset := 1, embedded := false, tag := "", pkgPath := "doorstep/accum", byteOffset := 8 }, { name := "buf", type := 59, offset := 2, embedded := false, tag := "", pkgPath := "doorstep/accum", byteOffset := 16 }, { name := "from", type := 3, offset := 3, embedded := false, tag := "", pkgPath := "doorstep/accum", byteOffset := 40 }, { name := "took", type := 4, offset := 4, embedded := false, tag := "", pkgPath := "doorstep/accum", byteOffset := 48 }, { name := "bad", type := 25, offset := 5, embedded := false, tag := "", pkgPath := "doorstep/accum", byteOffset := 56 }, { name := "whole", type := 4, offset := 6, embedded := false, tag := "", pkgPath := "doorstep/accum", byteOffset := 64 }, { name := "got", type := 32, offset := 7, embedded := false, tag := "", pkgPath := "doorstep/accum", byteOffset := 72 }], 14, 168, [.int .i64 0, .int .i64 0, .slice none 0 0, .int .i64 0, .bool false, .int .i64 0, .bool false, .int .i64 0, .string ⟨#[]⟩, .string ⟨#[]⟩, .int .i64 0, .string ⟨#[]⟩, .int .i64 0, .slice none 0 0]⟩
theorem tok61 : TOk Tryz.prog 61 ti61 := by
  obtain ⟨inf, h1, h2, h3, h4⟩ := info_parts (show (Tryz.prog.info? 61).map (fun i => (i.zero, i.size, i.bytes)) = some (some (.agg #[.int .i64 0, .int .i64 0, .slice none 0 0, .int .i64 0, .bool false, .int .i64 0, .bool false, .int .i64 0, .string ⟨#[]⟩, .string ⟨#[]⟩, .int .i64 0, .string ⟨#[]⟩, .int .i64 0, .slice none 0 0]), 14, 168) from by kernel_rfl)
  exact ⟨Tryz.underlying61, inf, _, h1, h2, rfl, h3, h4, rfl⟩
def ti66 : TI := ⟨.pointer 97, 1, 8, [.pointer none]⟩
theorem tok66 : TOk Tryz.prog 66 ti66 := by
  obtain ⟨inf, h1, h2, h3, h4⟩ := info_parts (show (Tryz.prog.info? 66).map (fun i => (i.zero, i.size, i.bytes)) = some (some (.pointer none), 1, 8) from by kernel_rfl)
  exact ⟨Tryz.underlying66, inf, _, h1, h2, rfl, h3, h4, rfl⟩
def ti69 : TI := ⟨.struct #[{ name := "Quill", type := 66, offset := 0, embedded := true, tag := "", pkgPath := "", byteOffset := 0 }, { name := "full", type := 4, offset := 1, embedded := false, tag := "", pkgPath := "doorstep/head", byteOffset := 8 }], 2, 16, [.pointer none, .bool false]⟩
theorem tok69 : TOk Tryz.prog 69 ti69 := by
  obtain ⟨inf, h1, h2, h3, h4⟩ := info_parts (show (Tryz.prog.info? 69).map (fun i => (i.zero, i.size, i.bytes)) = some (some (.agg #[.pointer none, .bool false]), 2, 16) from by kernel_rfl)
  exact ⟨Tryz.underlying69, inf, _, h1, h2, rfl, h3, h4, rfl⟩
def ti73 : TI := ⟨.struct #[{ name := "Name", type := 9, offset := 0, embedded := false, tag := "", pkgPath := "", byteOffset := 0 }, { name := "Value", type := 9, offset := 1, embedded := false, tag := "", pkgPath := "", byteOffset := 16 }], 2, 32, [.string ⟨#[]⟩, .string ⟨#[]⟩]⟩
theorem tok73 : TOk Tryz.prog 73 ti73 := by
  obtain ⟨inf, h1, h2, h3, h4⟩ := info_parts (show (Tryz.prog.info? 73).map (fun i => (i.zero, i.size, i.bytes)) = some (some (.agg #[.string ⟨#[]⟩, .string ⟨#[]⟩]), 2, 32) from by kernel_rfl)
  exact ⟨Tryz.underlying73, inf, _, h1, h2, rfl, h3, h4, rfl⟩
def ti77 : TI := ⟨.pointer 111, 1, 8, [.pointer none]⟩
theorem tok77 : TOk Tryz.prog 77 ti77 := by
  obtain ⟨inf, h1, h2, h3, h4⟩ := info_parts (show (Tryz.prog.info? 77).map (fun i => (i.zero, i.size, i.bytes)) = some (some (.pointer none), 1, 8) from by kernel_rfl)
  exact ⟨Tryz.underlying77, inf, _, h1, h2, rfl, h3, h4, rfl⟩
def ti80 : TI := ⟨.int .i64, 1, 8, [.int .i64 0]⟩
theorem tok80 : TOk Tryz.prog 80 ti80 := by
  obtain ⟨inf, h1, h2, h3, h4⟩ := info_parts (show (Tryz.prog.info? 80).map (fun i => (i.zero, i.size, i.bytes)) = some (some (.int .i64 0), 1, 8) from by kernel_rfl)
  exact ⟨Tryz.underlying80, inf, _, h1, h2, rfl, h3, h4, rfl⟩
def ti82 : TI := ⟨.struct #[{ name := "Kind", type := 80, offset := 0, embedded := false, tag := "", pkgPath := "", byteOffset := 0 }, { name := "N", type := 3, offset := 1, embedded := false, tag := "", pkgPath := "", byteOffset := 8 }], 2, 16, [.int .i64 0, .int .i64 0]⟩
theorem tok82 : TOk Tryz.prog 82 ti82 := by
  obtain ⟨inf, h1, h2, h3, h4⟩ := info_parts (show (Tryz.prog.info? 82).map (fun i => (i.zero, i.size, i.bytes)) = some (some (.agg #[.int .i64 0, .int .i64 0]), 2, 16) from by kernel_rfl)
  exact ⟨Tryz.underlying82, inf, _, h1, h2, rfl, h3, h4, rfl⟩
def ti87 : TI := ⟨.slice 92, 1, 24, [.slice none 0 0]⟩
theorem tok87 : TOk Tryz.prog 87 ti87 := by
  obtain ⟨inf, h1, h2, h3, h4⟩ := info_parts (show (Tryz.prog.info? 87).map (fun i => (i.zero, i.size, i.bytes)) = some (some (.slice none 0 0), 1, 24) from by kernel_rfl)
  exact ⟨Tryz.underlying87, inf, _, h1, h2, rfl, h3, h4, rfl⟩
def ti90 : TI := ⟨.slice 9, 1, 24, [.slice none 0 0]⟩
theorem tok90 : TOk Tryz.prog 90 ti90 := by
  obtain ⟨inf, h1, h2, h3, h4⟩ := info_parts (show (Tryz.prog.info? 90).map (fun i => (i.zero, i.size, i.bytes)) = some (some (.slice none 0 0), 1, 24) from by kernel_rfl)
  exact ⟨Tryz.underlying90, inf, _, h1, h2, rfl, h3, h4, rfl⟩
def ti92 : TI := ⟨.slice 174, 1, 24, [.slice none 0 0]⟩
theorem tok92 : TOk Tryz.prog 92 ti92 := by
  obtain ⟨inf, h1, h2, h3, h4⟩ := info_parts (show (Tryz.prog.info? 92).map (fun i => (i.zero, i.size, i.bytes)) = some (some (.slice none 0 0), 1, 24) from by kernel_rfl)
  exact ⟨Tryz.underlying92, inf, _, h1, h2, rfl, h3, h4, rfl⟩
def ti97 : TI := ⟨.struct #[{ name := "b", type := 59, offset := 0, embedded := false, tag := "", pkgPath := "doorstep/quill", byteOffset := 0 }, { name := "most", type := 3, offset := 1, embedded := false, tag := "", pkgPath := "doorstep/quill", byteOffset := 24 }], 2, 32, [.slice none 0 0, .int .i64 0]⟩
theorem tok97 : TOk Tryz.prog 97 ti97 := by
  obtain ⟨inf, h1, h2, h3, h4⟩ := info_parts (show (Tryz.prog.info? 97).map (fun i => (i.zero, i.size, i.bytes)) = some (some (.agg #[.slice none 0 0, .int .i64 0]), 2, 32) from by kernel_rfl)
  exact ⟨Tryz.underlying97, inf, _, h1, h2, rfl, h3, h4, rfl⟩
def ti103 : TI := ⟨.pointer 155, 1, 8, [.pointer none]⟩
theorem tok103 : TOk Tryz.prog 103 ti103 := by
  obtain ⟨inf, h1, h2, h3, h4⟩ := info_parts (show (Tryz.prog.info? 103).map (fun i => (i.zero, i.size, i.bytes)) = some (some (.pointer none), 1, 8) from by kernel_rfl)
  exact ⟨Tryz.underlying103, inf, _, h1, h2, rfl, h3, h4, rfl⟩
def ti106 : TI := ⟨.func #[9] #[3, 25] false, 1, 8, [.nilFunc]⟩
theorem tok106 : TOk Tryz.prog 106 ti106 := by
  obtain ⟨inf, h1, h2, h3, h4⟩ := info_parts (show (Tryz.prog.info? 106).map (fun i => (i.zero, i.size, i.bytes)) = some (some (.nilFunc), 1, 8) from by kernel_rfl)
  exact ⟨Tryz.underlying106, inf, _, h1, h2, rfl, h3, h4, rfl⟩
def ti107 : TI := ⟨.func #[] #[25] false, 1, 8, [.nilFunc]⟩
theorem tok107 : TOk Tryz.prog 107 ti107 := by
  obtain ⟨inf, h1, h2, h3, h4⟩ := info_parts (show (Tryz.prog.info? 107).map (fun i => (i.zero, i.size, i.bytes)) = some (some (.nilFunc), 1, 8) from by kernel_rfl)
  exact ⟨Tryz.underlying107, inf, _, h1, h2, rfl, h3, h4, rfl⟩
def ti109 : TI := ⟨.struct #[{ name := "all", type := 9, offset := 0, embedded := false, tag := "", pkgPath := "doorstep/wire", byteOffset := 0 }, { name := "read", type := 3, offset := 1, embedded := false, tag := "", pkgPath := "doorstep/wire", byteOffset := 16 }, { name := "ends", type := 4, offset := 2, embedded := false, tag := "", pkgPath := "doorstep/wire", byteOffset := 24 }, { name := "ended", type := 4, offset := 3, embedded := false, tag := "", pkgPath := "doorstep/wire", byteOffset := 25 }, { name := "sent", type := 59, offset := 4, embedded := false, tag := "", pkgPath := "doorstep/wire", byteOffset := 32 }, { name := "give", type := 106, offset := 5, embedded := false, tag := "", pkgPath := "doorstep/wire", byteOffset := 56 }, { name := "end", type := 107, offset := 6, embedded := false, tag := "", pkgPath := "doorstep/wire", byteOffset := 64 }], 7, 72, [.string ⟨#[]⟩, .int .i64 0, .bool false, .bool false, .slice none 0 0, .nilFunc, .nilFunc]⟩
theorem tok109 : TOk Tryz.prog 109 ti109 := by
  obtain ⟨inf, h1, h2, h3, h4⟩ := info_parts (show (Tryz.prog.info? 109).map (fun i => (i.zero, i.size, i.bytes)) = some (some (.agg #[.string ⟨#[]⟩, .int .i64 0, .bool false, .bool false, .slice none 0 0, .nilFunc, .nilFunc]), 7, 72) from by kernel_rfl)
  exact ⟨Tryz.underlying109, inf, _, h1, h2, rfl, h3, h4, rfl⟩
def ti111 : TI := ⟨.struct #[{ name := "Gateway", type := 103, offset := 0, embedded := true, tag := "", pkgPath := "", byteOffset := 0 }, { name := "client", type := 109, offset := 1, embedded := false, tag := "", pkgPath := "doorstep/wire", byteOffset := 8 }, { name := "upstream", type := 109, offset := 8, embedded := false, tag := "", pkgPath := "doorstep/wire", byteOffset := 80 }, { name := "most", type := 41, offset := 15, embedded := false, tag := "", pkgPath := "doorstep/wire", byteOffset := 152 }], 17, 168, [.pointer none, .string ⟨#[]⟩, .int .i64 0, .bool false, .bool false, .slice none 0 0, .nilFunc, .nilFunc, .string ⟨#[]⟩, .int .i64 0, .bool false, .bool false, .slice none 0 0, .nilFunc, .nilFunc, .int .i64 0, .int .i64 0]⟩
theorem tok111 : TOk Tryz.prog 111 ti111 := by
  obtain ⟨inf, h1, h2, h3, h4⟩ := info_parts (show (Tryz.prog.info? 111).map (fun i => (i.zero, i.size, i.bytes)) = some (some (.agg #[.pointer none, .string ⟨#[]⟩, .int .i64 0, .bool false, .bool false, .slice none 0 0, .nilFunc, .nilFunc, .string ⟨#[]⟩, .int .i64 0, .bool false, .bool false, .slice none 0 0, .nilFunc, .nilFunc, .int .i64 0, .int .i64 0]), 17, 168) from by kernel_rfl)
  exact ⟨Tryz.underlying111, inf, _, h1, h2, rfl, h3, h4, rfl⟩
def ti114 : TI := ⟨.pointer 109, 1, 8, [.pointer none]⟩
theorem tok114 : TOk Tryz.prog 114 ti114 := by
  obtain ⟨inf, h1, h2, h3, h4⟩ := info_parts (show (Tryz.prog.info? 114).map (fun i => (i.zero, i.size, i.bytes)) = some (some (.pointer none), 1, 8) from by kernel_rfl)
  exact ⟨Tryz.underlying114, inf, _, h1, h2, rfl, h3, h4, rfl⟩
def ti116 : TI := ⟨.slice 114, 1, 24, [.slice none 0 0]⟩
theorem tok116 : TOk Tryz.prog 116 ti116 := by
  obtain ⟨inf, h1, h2, h3, h4⟩ := info_parts (show (Tryz.prog.info? 116).map (fun i => (i.zero, i.size, i.bytes)) = some (some (.slice none 0 0), 1, 24) from by kernel_rfl)
  exact ⟨Tryz.underlying116, inf, _, h1, h2, rfl, h3, h4, rfl⟩
def ti121 : TI := ⟨.struct #[{ name := "s", type := 9, offset := 0, embedded := false, tag := "", pkgPath := "doorstep/stream", byteOffset := 0 }, { name := "at", type := 3, offset := 1, embedded := false, tag := "", pkgPath := "doorstep/stream", byteOffset := 16 }, { name := "limit", type := 3, offset := 2, embedded := false, tag := "", pkgPath := "doorstep/stream", byteOffset := 24 }, { name := "ended", type := 4, offset := 3, embedded := false, tag := "", pkgPath := "doorstep/stream", byteOffset := 32 }], 4, 40, [.string ⟨#[]⟩, .int .i64 0, .int .i64 0, .bool false]⟩
theorem tok121 : TOk Tryz.prog 121 ti121 := by
  obtain ⟨inf, h1, h2, h3, h4⟩ := info_parts (show (Tryz.prog.info? 121).map (fun i => (i.zero, i.size, i.bytes)) = some (some (.agg #[.string ⟨#[]⟩, .int .i64 0, .int .i64 0, .bool false]), 4, 40) from by kernel_rfl)
  exact ⟨Tryz.underlying121, inf, _, h1, h2, rfl, h3, h4, rfl⟩
def ti140 : TI := ⟨.pointer 225, 1, 8, [.pointer none]⟩
theorem tok140 : TOk Tryz.prog 140 ti140 := by
  obtain ⟨inf, h1, h2, h3, h4⟩ := info_parts (show (Tryz.prog.info? 140).map (fun i => (i.zero, i.size, i.bytes)) = some (some (.pointer none), 1, 8) from by kernel_rfl)
  exact ⟨Tryz.underlying140, inf, _, h1, h2, rfl, h3, h4, rfl⟩
def ti143 : TI := ⟨.pointer 230, 1, 8, [.pointer none]⟩
theorem tok143 : TOk Tryz.prog 143 ti143 := by
  obtain ⟨inf, h1, h2, h3, h4⟩ := info_parts (show (Tryz.prog.info? 143).map (fun i => (i.zero, i.size, i.bytes)) = some (some (.pointer none), 1, 8) from by kernel_rfl)
  exact ⟨Tryz.underlying143, inf, _, h1, h2, rfl, h3, h4, rfl⟩
def ti149 : TI := ⟨.struct #[{ name := "From", type := 9, offset := 0, embedded := false, tag := "", pkgPath := "", byteOffset := 0 }, { name := "To", type := 9, offset := 1, embedded := false, tag := "", pkgPath := "", byteOffset := 16 }], 2, 32, [.string ⟨#[]⟩, .string ⟨#[]⟩]⟩
theorem tok149 : TOk Tryz.prog 149 ti149 := by
  obtain ⟨inf, h1, h2, h3, h4⟩ := info_parts (show (Tryz.prog.info? 149).map (fun i => (i.zero, i.size, i.bytes)) = some (some (.agg #[.string ⟨#[]⟩, .string ⟨#[]⟩]), 2, 32) from by kernel_rfl)
  exact ⟨Tryz.underlying149, inf, _, h1, h2, rfl, h3, h4, rfl⟩
def ti150 : TI := ⟨.pointer 239, 1, 8, [.pointer none]⟩
theorem tok150 : TOk Tryz.prog 150 ti150 := by
  obtain ⟨inf, h1, h2, h3, h4⟩ := info_parts (show (Tryz.prog.info? 150).map (fun i => (i.zero, i.size, i.bytes)) = some (some (.pointer none), 1, 8) from by kernel_rfl)
  exact ⟨Tryz.underlying150, inf, _, h1, h2, rfl, h3, h4, rfl⟩
def ti151 : TI := ⟨.pointer 284, 1, 8, [.pointer none]⟩
theorem tok151 : TOk Tryz.prog 151 ti151 := by
  obtain ⟨inf, h1, h2, h3, h4⟩ := info_parts (show (Tryz.prog.info? 151).map (fun i => (i.zero, i.size, i.bytes)) = some (some (.pointer none), 1, 8) from by kernel_rfl)
  exact ⟨Tryz.underlying151, inf, _, h1, h2, rfl, h3, h4, rfl⟩
def ti153 : TI := ⟨.struct #[{ name := "Accum", type := 24, offset := 0, embedded := true, tag := "", pkgPath := "", byteOffset := 0 }, { name := "in", type := 150, offset := 1, embedded := false, tag := "", pkgPath := "doorstep/gateway", byteOffset := 8 }, { name := "out", type := 151, offset := 2, embedded := false, tag := "", pkgPath := "doorstep/gateway", byteOffset := 16 }], 3, 24, [.pointer none, .pointer none, .pointer none]⟩
theorem tok153 : TOk Tryz.prog 153 ti153 := by
  obtain ⟨inf, h1, h2, h3, h4⟩ := info_parts (show (Tryz.prog.info? 153).map (fun i => (i.zero, i.size, i.bytes)) = some (some (.agg #[.pointer none, .pointer none, .pointer none]), 3, 24) from by kernel_rfl)
  exact ⟨Tryz.underlying153, inf, _, h1, h2, rfl, h3, h4, rfl⟩
def ti155 : TI := ⟨.struct #[{ name := "Queue", type := 143, offset := 0, embedded := true, tag := "", pkgPath := "", byteOffset := 0 }, { name := "env", type := 48, offset := 1, embedded := false, tag := "", pkgPath := "doorstep/gateway", byteOffset := 8 }, { name := "caps", type := 50, offset := 7, embedded := false, tag := "", pkgPath := "doorstep/gateway", byteOffset := 120 }, { name := "rules", type := 51, offset := 10, embedded := false, tag := "", pkgPath := "doorstep/gateway", byteOffset := 144 }, { name := "client", type := 153, offset := 11, embedded := false, tag := "", pkgPath := "doorstep/gateway", byteOffset := 168 }, { name := "upstream", type := 153, offset := 14, embedded := false, tag := "", pkgPath := "doorstep/gateway", byteOffset := 192 }, { name := "toClient", type := 59, offset := 17, embedded := false, tag := "", pkgPath := "doorstep/gateway", byteOffset := 216 }, { name := "toUp", type := 59, offset := 18, embedded := false, tag := "", pkgPath := "doorstep/gateway", byteOffset := 240 }, { name := "code", type := 3, offset := 19, embedded := false, tag := "", pkgPath := "doorstep/gateway", byteOffset := 264 }, { name := "stopped", type := 4, offset := 20, embedded := false, tag := "", pkgPath := "doorstep/gateway", byteOffset := 272 }, { name := "gone", type := 4, offset := 21, embedded := false, tag := "", pkgPath := "doorstep/gateway", byteOffset := 273 }, { name := "dry", type := 4, offset := 22, embedded := false, tag := "", pkgPath := "doorstep/gateway", byteOffset := 274 }, { name := "begun", type := 4, offset := 23, embedded := false, tag := "", pkgPath := "doorstep/gateway", byteOffset := 275 }, { name := "last", type := 4, offset := 24, embedded := false, tag := "", pkgPath := "doorstep/gateway", byteOffset := 276 }, { name := "drying", type := 4, offset := 25, embedded := false, tag := "", pkgPath := "doorstep/gateway", byteOffset := 277 }, { name := "closed", type := 4, offset := 26, embedded := false, tag := "", pkgPath := "doorstep/gateway", byteOffset := 278 }], 27, 280, [.pointer none, .string ⟨#[]⟩, .string ⟨#[]⟩, .string ⟨#[]⟩, .string ⟨#[]⟩, .slice none 0 0, .slice none 0 0, .int .i64 0, .int .i64 0, .int .i64 0, .slice none 0 0, .pointer none, .pointer none, .pointer none, .pointer none, .pointer none, .pointer none, .slice none 0 0, .slice none 0 0, .int .i64 0, .bool false, .bool false, .bool false, .bool false, .bool false, .bool false, .bool false]⟩
theorem tok155 : TOk Tryz.prog 155 ti155 := by
  obtain ⟨inf, h1, h2, h3, h4⟩ := info_parts (show (Tryz.prog.info? 155).map (fun i => (i.zero, i.size, i.bytes)) = some (some (.agg #[.pointer none, .string ⟨#[]⟩, .string ⟨#[]⟩, .string ⟨#[]⟩, .string ⟨#[]⟩, .slice none 0 0, .slice none 0 0, .int .i64 0, .int .i64 0, .int .i64 0, .slice none 0 0, .pointer none, .pointer none, .pointer none, .pointer none, .pointer none, .pointer none, .slice none 0 0, .slice none 0 0, .int .i64 0, .bool false, .bool false, .bool false, .bool false, .bool false, .bool false, .bool false]), 27, 280) from by kernel_rfl)
  exact ⟨Tryz.underlying155, inf, _, h1, h2, rfl, h3, h4, rfl⟩
def ti156 : TI := ⟨.int .i64, 1, 8, [.int .i64 0]⟩
theorem tok156 : TOk Tryz.prog 156 ti156 := by
  obtain ⟨inf, h1, h2, h3, h4⟩ := info_parts (show (Tryz.prog.info? 156).map (fun i => (i.zero, i.size, i.bytes)) = some (some (.int .i64 0), 1, 8) from by kernel_rfl)
  exact ⟨Tryz.underlying156, inf, _, h1, h2, rfl, h3, h4, rfl⟩
def ti158 : TI := ⟨.struct #[{ name := "Kind", type := 156, offset := 0, embedded := false, tag := "", pkgPath := "", byteOffset := 0 }, { name := "Name", type := 9, offset := 1, embedded := false, tag := "", pkgPath := "", byteOffset := 8 }, { name := "Value", type := 9, offset := 2, embedded := false, tag := "", pkgPath := "", byteOffset := 24 }], 3, 40, [.int .i64 0, .string ⟨#[]⟩, .string ⟨#[]⟩]⟩
theorem tok158 : TOk Tryz.prog 158 ti158 := by
  obtain ⟨inf, h1, h2, h3, h4⟩ := info_parts (show (Tryz.prog.info? 158).map (fun i => (i.zero, i.size, i.bytes)) = some (some (.agg #[.int .i64 0, .string ⟨#[]⟩, .string ⟨#[]⟩]), 3, 40) from by kernel_rfl)
  exact ⟨Tryz.underlying158, inf, _, h1, h2, rfl, h3, h4, rfl⟩
def ti159 : TI := ⟨.int .i64, 1, 8, [.int .i64 0]⟩
theorem tok159 : TOk Tryz.prog 159 ti159 := by
  obtain ⟨inf, h1, h2, h3, h4⟩ := info_parts (show (Tryz.prog.info? 159).map (fun i => (i.zero, i.size, i.bytes)) = some (some (.int .i64 0), 1, 8) from by kernel_rfl)
  exact ⟨Tryz.underlying159, inf, _, h1, h2, rfl, h3, h4, rfl⟩
def ti160 : TI := ⟨.slice 166, 1, 24, [.slice none 0 0]⟩
theorem tok160 : TOk Tryz.prog 160 ti160 := by
  obtain ⟨inf, h1, h2, h3, h4⟩ := info_parts (show (Tryz.prog.info? 160).map (fun i => (i.zero, i.size, i.bytes)) = some (some (.slice none 0 0), 1, 24) from by kernel_rfl)
  exact ⟨Tryz.underlying160, inf, _, h1, h2, rfl, h3, h4, rfl⟩
def ti162 : TI := ⟨.struct #[{ name := "Side", type := 22, offset := 0, embedded := false, tag := "", pkgPath := "", byteOffset := 0 }, { name := "Guard", type := 158, offset := 1, embedded := false, tag := "", pkgPath := "", byteOffset := 8 }, { name := "Kind", type := 159, offset := 4, embedded := false, tag := "", pkgPath := "", byteOffset := 48 }, { name := "Name", type := 9, offset := 5, embedded := false, tag := "", pkgPath := "", byteOffset := 56 }, { name := "To", type := 9, offset := 6, embedded := false, tag := "", pkgPath := "", byteOffset := 72 }, { name := "Parts", type := 160, offset := 7, embedded := false, tag := "", pkgPath := "", byteOffset := 88 }], 8, 112, [.int .i64 0, .int .i64 0, .string ⟨#[]⟩, .string ⟨#[]⟩, .int .i64 0, .string ⟨#[]⟩, .string ⟨#[]⟩, .slice none 0 0]⟩
theorem tok162 : TOk Tryz.prog 162 ti162 := by
  obtain ⟨inf, h1, h2, h3, h4⟩ := info_parts (show (Tryz.prog.info? 162).map (fun i => (i.zero, i.size, i.bytes)) = some (some (.agg #[.int .i64 0, .int .i64 0, .string ⟨#[]⟩, .string ⟨#[]⟩, .int .i64 0, .string ⟨#[]⟩, .string ⟨#[]⟩, .slice none 0 0]), 8, 112) from by kernel_rfl)
  exact ⟨Tryz.underlying162, inf, _, h1, h2, rfl, h3, h4, rfl⟩
def ti164 : TI := ⟨.int .i64, 1, 8, [.int .i64 0]⟩
theorem tok164 : TOk Tryz.prog 164 ti164 := by
  obtain ⟨inf, h1, h2, h3, h4⟩ := info_parts (show (Tryz.prog.info? 164).map (fun i => (i.zero, i.size, i.bytes)) = some (some (.int .i64 0), 1, 8) from by kernel_rfl)
  exact ⟨Tryz.underlying164, inf, _, h1, h2, rfl, h3, h4, rfl⟩
def ti166 : TI := ⟨.struct #[{ name := "Kind", type := 164, offset := 0, embedded := false, tag := "", pkgPath := "", byteOffset := 0 }, { name := "Text", type := 9, offset := 1, embedded := false, tag := "", pkgPath := "", byteOffset := 8 }], 2, 24, [.int .i64 0, .string ⟨#[]⟩]⟩
theorem tok166 : TOk Tryz.prog 166 ti166 := by
  obtain ⟨inf, h1, h2, h3, h4⟩ := info_parts (show (Tryz.prog.info? 166).map (fun i => (i.zero, i.size, i.bytes)) = some (some (.agg #[.int .i64 0, .string ⟨#[]⟩]), 2, 24) from by kernel_rfl)
  exact ⟨Tryz.underlying166, inf, _, h1, h2, rfl, h3, h4, rfl⟩
def ti170 : TI := ⟨.int .i64, 1, 8, [.int .i64 0]⟩
theorem tok170 : TOk Tryz.prog 170 ti170 := by
  obtain ⟨inf, h1, h2, h3, h4⟩ := info_parts (show (Tryz.prog.info? 170).map (fun i => (i.zero, i.size, i.bytes)) = some (some (.int .i64 0), 1, 8) from by kernel_rfl)
  exact ⟨Tryz.underlying170, inf, _, h1, h2, rfl, h3, h4, rfl⟩
def ti172 : TI := ⟨.struct #[{ name := "Kind", type := 170, offset := 0, embedded := false, tag := "", pkgPath := "", byteOffset := 0 }, { name := "N", type := 3, offset := 1, embedded := false, tag := "", pkgPath := "", byteOffset := 8 }], 2, 16, [.int .i64 0, .int .i64 0]⟩
theorem tok172 : TOk Tryz.prog 172 ti172 := by
  obtain ⟨inf, h1, h2, h3, h4⟩ := info_parts (show (Tryz.prog.info? 172).map (fun i => (i.zero, i.size, i.bytes)) = some (some (.agg #[.int .i64 0, .int .i64 0]), 2, 16) from by kernel_rfl)
  exact ⟨Tryz.underlying172, inf, _, h1, h2, rfl, h3, h4, rfl⟩
def ti174 : TI := ⟨.struct #[{ name := "Head", type := 32, offset := 0, embedded := false, tag := "", pkgPath := "", byteOffset := 0 }, { name := "Frame", type := 172, offset := 7, embedded := false, tag := "", pkgPath := "", byteOffset := 96 }, { name := "Body", type := 9, offset := 9, embedded := false, tag := "", pkgPath := "", byteOffset := 112 }, { name := "Trailers", type := 30, offset := 10, embedded := false, tag := "", pkgPath := "", byteOffset := 128 }], 11, 152, [.int .i64 0, .string ⟨#[]⟩, .string ⟨#[]⟩, .int .i64 0, .string ⟨#[]⟩, .int .i64 0, .slice none 0 0, .int .i64 0, .int .i64 0, .string ⟨#[]⟩, .slice none 0 0]⟩
theorem tok174 : TOk Tryz.prog 174 ti174 := by
  obtain ⟨inf, h1, h2, h3, h4⟩ := info_parts (show (Tryz.prog.info? 174).map (fun i => (i.zero, i.size, i.bytes)) = some (some (.agg #[.int .i64 0, .string ⟨#[]⟩, .string ⟨#[]⟩, .int .i64 0, .string ⟨#[]⟩, .int .i64 0, .slice none 0 0, .int .i64 0, .int .i64 0, .string ⟨#[]⟩, .slice none 0 0]), 11, 152) from by kernel_rfl)
  exact ⟨Tryz.underlying174, inf, _, h1, h2, rfl, h3, h4, rfl⟩
def ti177 : TI := ⟨.pointer 246, 1, 8, [.pointer none]⟩
theorem tok177 : TOk Tryz.prog 177 ti177 := by
  obtain ⟨inf, h1, h2, h3, h4⟩ := info_parts (show (Tryz.prog.info? 177).map (fun i => (i.zero, i.size, i.bytes)) = some (some (.pointer none), 1, 8) from by kernel_rfl)
  exact ⟨Tryz.underlying177, inf, _, h1, h2, rfl, h3, h4, rfl⟩
def ti190 : TI := ⟨.pointer 256, 1, 8, [.pointer none]⟩
theorem tok190 : TOk Tryz.prog 190 ti190 := by
  obtain ⟨inf, h1, h2, h3, h4⟩ := info_parts (show (Tryz.prog.info? 190).map (fun i => (i.zero, i.size, i.bytes)) = some (some (.pointer none), 1, 8) from by kernel_rfl)
  exact ⟨Tryz.underlying190, inf, _, h1, h2, rfl, h3, h4, rfl⟩
def ti193 : TI := ⟨.int .i64, 1, 8, [.int .i64 0]⟩
theorem tok193 : TOk Tryz.prog 193 ti193 := by
  obtain ⟨inf, h1, h2, h3, h4⟩ := info_parts (show (Tryz.prog.info? 193).map (fun i => (i.zero, i.size, i.bytes)) = some (some (.int .i64 0), 1, 8) from by kernel_rfl)
  exact ⟨Tryz.underlying193, inf, _, h1, h2, rfl, h3, h4, rfl⟩
def ti195 : TI := ⟨.struct #[{ name := "Kind", type := 193, offset := 0, embedded := false, tag := "", pkgPath := "", byteOffset := 0 }, { name := "Name", type := 9, offset := 1, embedded := false, tag := "", pkgPath := "", byteOffset := 8 }, { name := "Port", type := 3, offset := 2, embedded := false, tag := "", pkgPath := "", byteOffset := 24 }], 3, 32, [.int .i64 0, .string ⟨#[]⟩, .int .i64 0]⟩
theorem tok195 : TOk Tryz.prog 195 ti195 := by
  obtain ⟨inf, h1, h2, h3, h4⟩ := info_parts (show (Tryz.prog.info? 195).map (fun i => (i.zero, i.size, i.bytes)) = some (some (.agg #[.int .i64 0, .string ⟨#[]⟩, .int .i64 0]), 3, 32) from by kernel_rfl)
  exact ⟨Tryz.underlying195, inf, _, h1, h2, rfl, h3, h4, rfl⟩
def ti209 : TI := ⟨.struct #[{ name := "Scanner", type := 177, offset := 0, embedded := true, tag := "", pkgPath := "", byteOffset := 0 }], 1, 8, [.pointer none]⟩
theorem tok209 : TOk Tryz.prog 209 ti209 := by
  obtain ⟨inf, h1, h2, h3, h4⟩ := info_parts (show (Tryz.prog.info? 209).map (fun i => (i.zero, i.size, i.bytes)) = some (some (.agg #[.pointer none]), 1, 8) from by kernel_rfl)
  exact ⟨Tryz.underlying209, inf, _, h1, h2, rfl, h3, h4, rfl⟩
def ti212 : TI := ⟨.int .i64, 1, 8, [.int .i64 0]⟩
theorem tok212 : TOk Tryz.prog 212 ti212 := by
  obtain ⟨inf, h1, h2, h3, h4⟩ := info_parts (show (Tryz.prog.info? 212).map (fun i => (i.zero, i.size, i.bytes)) = some (some (.int .i64 0), 1, 8) from by kernel_rfl)
  exact ⟨Tryz.underlying212, inf, _, h1, h2, rfl, h3, h4, rfl⟩
def ti214 : TI := ⟨.struct #[{ name := "Kind", type := 212, offset := 0, embedded := false, tag := "", pkgPath := "", byteOffset := 0 }, { name := "Scheme", type := 9, offset := 1, embedded := false, tag := "", pkgPath := "", byteOffset := 8 }, { name := "Host", type := 195, offset := 2, embedded := false, tag := "", pkgPath := "", byteOffset := 24 }, { name := "Path", type := 9, offset := 5, embedded := false, tag := "", pkgPath := "", byteOffset := 56 }, { name := "Query", type := 9, offset := 6, embedded := false, tag := "", pkgPath := "", byteOffset := 72 }, { name := "HasQuery", type := 4, offset := 7, embedded := false, tag := "", pkgPath := "", byteOffset := 88 }], 8, 96, [.int .i64 0, .string ⟨#[]⟩, .int .i64 0, .string ⟨#[]⟩, .int .i64 0, .string ⟨#[]⟩, .string ⟨#[]⟩, .bool false]⟩
theorem tok214 : TOk Tryz.prog 214 ti214 := by
  obtain ⟨inf, h1, h2, h3, h4⟩ := info_parts (show (Tryz.prog.info? 214).map (fun i => (i.zero, i.size, i.bytes)) = some (some (.agg #[.int .i64 0, .string ⟨#[]⟩, .int .i64 0, .string ⟨#[]⟩, .int .i64 0, .string ⟨#[]⟩, .string ⟨#[]⟩, .bool false]), 8, 96) from by kernel_rfl)
  exact ⟨Tryz.underlying214, inf, _, h1, h2, rfl, h3, h4, rfl⟩
def ti222 : TI := ⟨.struct #[{ name := "Proto", type := 9, offset := 0, embedded := false, tag := "", pkgPath := "", byteOffset := 0 }, { name := "Version", type := 9, offset := 1, embedded := false, tag := "", pkgPath := "", byteOffset := 16 }, { name := "By", type := 9, offset := 2, embedded := false, tag := "", pkgPath := "", byteOffset := 32 }, { name := "Comment", type := 9, offset := 3, embedded := false, tag := "", pkgPath := "", byteOffset := 48 }], 4, 64, [.string ⟨#[]⟩, .string ⟨#[]⟩, .string ⟨#[]⟩, .string ⟨#[]⟩]⟩
theorem tok222 : TOk Tryz.prog 222 ti222 := by
  obtain ⟨inf, h1, h2, h3, h4⟩ := info_parts (show (Tryz.prog.info? 222).map (fun i => (i.zero, i.size, i.bytes)) = some (some (.agg #[.string ⟨#[]⟩, .string ⟨#[]⟩, .string ⟨#[]⟩, .string ⟨#[]⟩]), 4, 64) from by kernel_rfl)
  exact ⟨Tryz.underlying222, inf, _, h1, h2, rfl, h3, h4, rfl⟩
def ti225 : TI := ⟨.struct #[{ name := "size", type := 3, offset := 0, embedded := false, tag := "", pkgPath := "doorstep/enchunk", byteOffset := 0 }, { name := "buf", type := 9, offset := 1, embedded := false, tag := "", pkgPath := "doorstep/enchunk", byteOffset := 8 }, { name := "done", type := 4, offset := 2, embedded := false, tag := "", pkgPath := "doorstep/enchunk", byteOffset := 24 }], 3, 32, [.int .i64 0, .string ⟨#[]⟩, .bool false]⟩
theorem tok225 : TOk Tryz.prog 225 ti225 := by
  obtain ⟨inf, h1, h2, h3, h4⟩ := info_parts (show (Tryz.prog.info? 225).map (fun i => (i.zero, i.size, i.bytes)) = some (some (.agg #[.int .i64 0, .string ⟨#[]⟩, .bool false]), 3, 32) from by kernel_rfl)
  exact ⟨Tryz.underlying225, inf, _, h1, h2, rfl, h3, h4, rfl⟩
def ti226 : TI := ⟨.slice 275, 1, 24, [.slice none 0 0]⟩
theorem tok226 : TOk Tryz.prog 226 ti226 := by
  obtain ⟨inf, h1, h2, h3, h4⟩ := info_parts (show (Tryz.prog.info? 226).map (fun i => (i.zero, i.size, i.bytes)) = some (some (.slice none 0 0), 1, 24) from by kernel_rfl)
  exact ⟨Tryz.underlying226, inf, _, h1, h2, rfl, h3, h4, rfl⟩
def ti228 : TI := ⟨.struct #[{ name := "l", type := 226, offset := 0, embedded := false, tag := "", pkgPath := "doorstep/pairing", byteOffset := 0 }, { name := "most", type := 3, offset := 1, embedded := false, tag := "", pkgPath := "doorstep/pairing", byteOffset := 24 }], 2, 32, [.slice none 0 0, .int .i64 0]⟩
theorem tok228 : TOk Tryz.prog 228 ti228 := by
  obtain ⟨inf, h1, h2, h3, h4⟩ := info_parts (show (Tryz.prog.info? 228).map (fun i => (i.zero, i.size, i.bytes)) = some (some (.agg #[.slice none 0 0, .int .i64 0]), 2, 32) from by kernel_rfl)
  exact ⟨Tryz.underlying228, inf, _, h1, h2, rfl, h3, h4, rfl⟩
def ti230 : TI := ⟨.struct #[{ name := "row", type := 228, offset := 0, embedded := true, tag := "", pkgPath := "doorstep/pairing", byteOffset := 0 }, { name := "last", type := 4, offset := 2, embedded := false, tag := "", pkgPath := "doorstep/pairing", byteOffset := 32 }], 3, 40, [.slice none 0 0, .int .i64 0, .bool false]⟩
theorem tok230 : TOk Tryz.prog 230 ti230 := by
  obtain ⟨inf, h1, h2, h3, h4⟩ := info_parts (show (Tryz.prog.info? 230).map (fun i => (i.zero, i.size, i.bytes)) = some (some (.agg #[.slice none 0 0, .int .i64 0, .bool false]), 3, 40) from by kernel_rfl)
  exact ⟨Tryz.underlying230, inf, _, h1, h2, rfl, h3, h4, rfl⟩
def ti237 : TI := ⟨.pointer 328, 1, 8, [.pointer none]⟩
theorem tok237 : TOk Tryz.prog 237 ti237 := by
  obtain ⟨inf, h1, h2, h3, h4⟩ := info_parts (show (Tryz.prog.info? 237).map (fun i => (i.zero, i.size, i.bytes)) = some (some (.pointer none), 1, 8) from by kernel_rfl)
  exact ⟨Tryz.underlying237, inf, _, h1, h2, rfl, h3, h4, rfl⟩
def ti239 : TI := ⟨.struct #[{ name := "Decoder", type := 237, offset := 0, embedded := true, tag := "", pkgPath := "", byteOffset := 0 }, { name := "frame", type := 172, offset := 1, embedded := false, tag := "", pkgPath := "doorstep/body", byteOffset := 8 }, { name := "left", type := 3, offset := 3, embedded := false, tag := "", pkgPath := "doorstep/body", byteOffset := 24 }, { name := "done", type := 4, offset := 4, embedded := false, tag := "", pkgPath := "doorstep/body", byteOffset := 32 }, { name := "bad", type := 4, offset := 5, embedded := false, tag := "", pkgPath := "doorstep/body", byteOffset := 33 }], 6, 40, [.pointer none, .int .i64 0, .int .i64 0, .int .i64 0, .bool false, .bool false]⟩
theorem tok239 : TOk Tryz.prog 239 ti239 := by
  obtain ⟨inf, h1, h2, h3, h4⟩ := info_parts (show (Tryz.prog.info? 239).map (fun i => (i.zero, i.size, i.bytes)) = some (some (.agg #[.pointer none, .int .i64 0, .int .i64 0, .int .i64 0, .bool false, .bool false]), 6, 40) from by kernel_rfl)
  exact ⟨Tryz.underlying239, inf, _, h1, h2, rfl, h3, h4, rfl⟩
def ti246 : TI := ⟨.struct #[{ name := "s", type := 9, offset := 0, embedded := false, tag := "", pkgPath := "doorstep/scan", byteOffset := 0 }, { name := "at", type := 3, offset := 1, embedded := false, tag := "", pkgPath := "doorstep/scan", byteOffset := 16 }], 2, 24, [.string ⟨#[]⟩, .int .i64 0]⟩
theorem tok246 : TOk Tryz.prog 246 ti246 := by
  obtain ⟨inf, h1, h2, h3, h4⟩ := info_parts (show (Tryz.prog.info? 246).map (fun i => (i.zero, i.size, i.bytes)) = some (some (.agg #[.string ⟨#[]⟩, .int .i64 0]), 2, 24) from by kernel_rfl)
  exact ⟨Tryz.underlying246, inf, _, h1, h2, rfl, h3, h4, rfl⟩
def ti256 : TI := ⟨.struct #[{ name := "l", type := 30, offset := 0, embedded := false, tag := "", pkgPath := "doorstep/bag", byteOffset := 0 }], 1, 24, [.slice none 0 0]⟩
theorem tok256 : TOk Tryz.prog 256 ti256 := by
  obtain ⟨inf, h1, h2, h3, h4⟩ := info_parts (show (Tryz.prog.info? 256).map (fun i => (i.zero, i.size, i.bytes)) = some (some (.agg #[.slice none 0 0]), 1, 24) from by kernel_rfl)
  exact ⟨Tryz.underlying256, inf, _, h1, h2, rfl, h3, h4, rfl⟩
def ti275 : TI := ⟨.struct #[{ name := "Method", type := 9, offset := 0, embedded := false, tag := "", pkgPath := "", byteOffset := 0 }, { name := "Minor", type := 3, offset := 1, embedded := false, tag := "", pkgPath := "", byteOffset := 16 }, { name := "Close", type := 4, offset := 2, embedded := false, tag := "", pkgPath := "", byteOffset := 24 }], 3, 32, [.string ⟨#[]⟩, .int .i64 0, .bool false]⟩
theorem tok275 : TOk Tryz.prog 275 ti275 := by
  obtain ⟨inf, h1, h2, h3, h4⟩ := info_parts (show (Tryz.prog.info? 275).map (fun i => (i.zero, i.size, i.bytes)) = some (some (.agg #[.string ⟨#[]⟩, .int .i64 0, .bool false]), 3, 32) from by kernel_rfl)
  exact ⟨Tryz.underlying275, inf, _, h1, h2, rfl, h3, h4, rfl⟩
def ti284 : TI := ⟨.struct #[{ name := "Encoder", type := 140, offset := 0, embedded := true, tag := "", pkgPath := "", byteOffset := 0 }, { name := "frame", type := 172, offset := 1, embedded := false, tag := "", pkgPath := "doorstep/reframe", byteOffset := 8 }, { name := "left", type := 3, offset := 3, embedded := false, tag := "", pkgPath := "doorstep/reframe", byteOffset := 24 }, { name := "done", type := 4, offset := 4, embedded := false, tag := "", pkgPath := "doorstep/reframe", byteOffset := 32 }], 5, 40, [.pointer none, .int .i64 0, .int .i64 0, .int .i64 0, .bool false]⟩
theorem tok284 : TOk Tryz.prog 284 ti284 := by
  obtain ⟨inf, h1, h2, h3, h4⟩ := info_parts (show (Tryz.prog.info? 284).map (fun i => (i.zero, i.size, i.bytes)) = some (some (.agg #[.pointer none, .int .i64 0, .int .i64 0, .int .i64 0, .bool false]), 5, 40) from by kernel_rfl)
  exact ⟨Tryz.underlying284, inf, _, h1, h2, rfl, h3, h4, rfl⟩
def ti294 : TI := ⟨.struct #[{ name := "Body", type := 150, offset := 0, embedded := true, tag := "", pkgPath := "", byteOffset := 0 }, { name := "m", type := 174, offset := 1, embedded := false, tag := "", pkgPath := "doorstep/message", byteOffset := 8 }], 12, 160, [.pointer none, .int .i64 0, .string ⟨#[]⟩, .string ⟨#[]⟩, .int .i64 0, .string ⟨#[]⟩, .int .i64 0, .slice none 0 0, .int .i64 0, .int .i64 0, .string ⟨#[]⟩, .slice none 0 0]⟩
theorem tok294 : TOk Tryz.prog 294 ti294 := by
  obtain ⟨inf, h1, h2, h3, h4⟩ := info_parts (show (Tryz.prog.info? 294).map (fun i => (i.zero, i.size, i.bytes)) = some (some (.agg #[.pointer none, .int .i64 0, .string ⟨#[]⟩, .string ⟨#[]⟩, .int .i64 0, .string ⟨#[]⟩, .int .i64 0, .slice none 0 0, .int .i64 0, .int .i64 0, .string ⟨#[]⟩, .slice none 0 0]), 12, 160) from by kernel_rfl)
  exact ⟨Tryz.underlying294, inf, _, h1, h2, rfl, h3, h4, rfl⟩
def ti297 : TI := ⟨.int .u64, 1, 8, [.int .u64 0]⟩
theorem tok297 : TOk Tryz.prog 297 ti297 := by
  obtain ⟨inf, h1, h2, h3, h4⟩ := info_parts (show (Tryz.prog.info? 297).map (fun i => (i.zero, i.size, i.bytes)) = some (some (.int .u64 0), 1, 8) from by kernel_rfl)
  exact ⟨Tryz.underlying297, inf, _, h1, h2, rfl, h3, h4, rfl⟩
def ti300 : TI := ⟨.array 24 5, 24, 24, [.int .u8 0, .int .u8 0, .int .u8 0, .int .u8 0, .int .u8 0, .int .u8 0, .int .u8 0, .int .u8 0, .int .u8 0, .int .u8 0, .int .u8 0, .int .u8 0, .int .u8 0, .int .u8 0, .int .u8 0, .int .u8 0, .int .u8 0, .int .u8 0, .int .u8 0, .int .u8 0, .int .u8 0, .int .u8 0, .int .u8 0, .int .u8 0]⟩
theorem tok300 : TOk Tryz.prog 300 ti300 := by
  obtain ⟨inf, h1, h2, h3, h4⟩ := info_parts (show (Tryz.prog.info? 300).map (fun i => (i.zero, i.size, i.bytes)) = some (some (.agg #[.int .u8 0, .int .u8 0, .int .u8 0, .int .u8 0, .int .u8 0, .int .u8 0, .int .u8 0, .int .u8 0, .int .u8 0, .int .u8 0, .int .u8 0, .int .u8 0, .int .u8 0, .int .u8 0, .int .u8 0, .int .u8 0, .int .u8 0, .int .u8 0, .int .u8 0, .int .u8 0, .int .u8 0, .int .u8 0, .int .u8 0, .int .u8 0]), 24, 24) from by kernel_rfl)
  exact ⟨Tryz.underlying300, inf, _, h1, h2, rfl, h3, h4, rfl⟩
def ti301 : TI := ⟨.int .u64, 1, 8, [.int .u64 0]⟩
theorem tok301 : TOk Tryz.prog 301 ti301 := by
  obtain ⟨inf, h1, h2, h3, h4⟩ := info_parts (show (Tryz.prog.info? 301).map (fun i => (i.zero, i.size, i.bytes)) = some (some (.int .u64 0), 1, 8) from by kernel_rfl)
  exact ⟨Tryz.underlying301, inf, _, h1, h2, rfl, h3, h4, rfl⟩
def ti313 : TI := ⟨.struct #[{ name := "Scanner", type := 177, offset := 0, embedded := true, tag := "", pkgPath := "", byteOffset := 0 }], 1, 8, [.pointer none]⟩
theorem tok313 : TOk Tryz.prog 313 ti313 := by
  obtain ⟨inf, h1, h2, h3, h4⟩ := info_parts (show (Tryz.prog.info? 313).map (fun i => (i.zero, i.size, i.bytes)) = some (some (.agg #[.pointer none]), 1, 8) from by kernel_rfl)
  exact ⟨Tryz.underlying313, inf, _, h1, h2, rfl, h3, h4, rfl⟩
def ti317 : TI := ⟨.struct #[{ name := "Scheme", type := 9, offset := 0, embedded := false, tag := "", pkgPath := "", byteOffset := 0 }, { name := "Auth", type := 9, offset := 1, embedded := false, tag := "", pkgPath := "", byteOffset := 16 }, { name := "Path", type := 9, offset := 2, embedded := false, tag := "", pkgPath := "", byteOffset := 32 }, { name := "Query", type := 9, offset := 3, embedded := false, tag := "", pkgPath := "", byteOffset := 48 }, { name := "Frag", type := 9, offset := 4, embedded := false, tag := "", pkgPath := "", byteOffset := 64 }, { name := "HasAuth", type := 4, offset := 5, embedded := false, tag := "", pkgPath := "", byteOffset := 80 }, { name := "HasQuery", type := 4, offset := 6, embedded := false, tag := "", pkgPath := "", byteOffset := 81 }, { name := "HasFrag", type := 4, offset := 7, embedded := false, tag := "", pkgPath := "", byteOffset := 82 }], 8, 88, [.string ⟨#[]⟩, .string ⟨#[]⟩, .string ⟨#[]⟩, .string ⟨#[]⟩, .string ⟨#[]⟩, .bool false, .bool false, .bool false]⟩
theorem tok317 : TOk Tryz.prog 317 ti317 := by
  obtain ⟨inf, h1, h2, h3, h4⟩ := info_parts (show (Tryz.prog.info? 317).map (fun i => (i.zero, i.size, i.bytes)) = some (some (.agg #[.string ⟨#[]⟩, .string ⟨#[]⟩, .string ⟨#[]⟩, .string ⟨#[]⟩, .string ⟨#[]⟩, .bool false, .bool false, .bool false]), 8, 88) from by kernel_rfl)
  exact ⟨Tryz.underlying317, inf, _, h1, h2, rfl, h3, h4, rfl⟩
def ti326 : TI := ⟨.int .i64, 1, 8, [.int .i64 0]⟩
theorem tok326 : TOk Tryz.prog 326 ti326 := by
  obtain ⟨inf, h1, h2, h3, h4⟩ := info_parts (show (Tryz.prog.info? 326).map (fun i => (i.zero, i.size, i.bytes)) = some (some (.int .i64 0), 1, 8) from by kernel_rfl)
  exact ⟨Tryz.underlying326, inf, _, h1, h2, rfl, h3, h4, rfl⟩
def ti328 : TI := ⟨.struct #[{ name := "limit", type := 3, offset := 0, embedded := false, tag := "", pkgPath := "doorstep/dechunk", byteOffset := 0 }, { name := "at", type := 326, offset := 1, embedded := false, tag := "", pkgPath := "doorstep/dechunk", byteOffset := 8 }, { name := "line", type := 59, offset := 2, embedded := false, tag := "", pkgPath := "doorstep/dechunk", byteOffset := 16 }, { name := "left", type := 3, offset := 3, embedded := false, tag := "", pkgPath := "doorstep/dechunk", byteOffset := 40 }, { name := "sum", type := 3, offset := 4, embedded := false, tag := "", pkgPath := "doorstep/dechunk", byteOffset := 48 }, { name := "spent", type := 3, offset := 5, embedded := false, tag := "", pkgPath := "doorstep/dechunk", byteOffset := 56 }, { name := "trailers", type := 30, offset := 6, embedded := false, tag := "", pkgPath := "doorstep/dechunk", byteOffset := 64 }], 7, 88, [.int .i64 0, .int .i64 0, .slice none 0 0, .int .i64 0, .int .i64 0, .int .i64 0, .slice none 0 0]⟩
theorem tok328 : TOk Tryz.prog 328 ti328 := by
  obtain ⟨inf, h1, h2, h3, h4⟩ := info_parts (show (Tryz.prog.info? 328).map (fun i => (i.zero, i.size, i.bytes)) = some (some (.agg #[.int .i64 0, .int .i64 0, .slice none 0 0, .int .i64 0, .int .i64 0, .int .i64 0, .slice none 0 0]), 7, 88) from by kernel_rfl)
  exact ⟨Tryz.underlying328, inf, _, h1, h2, rfl, h3, h4, rfl⟩
def ti336 : TI := ⟨.int .u32, 1, 4, [.int .u32 0]⟩
theorem tok336 : TOk Tryz.prog 336 ti336 := by
  obtain ⟨inf, h1, h2, h3, h4⟩ := info_parts (show (Tryz.prog.info? 336).map (fun i => (i.zero, i.size, i.bytes)) = some (some (.int .u32 0), 1, 4) from by kernel_rfl)
  exact ⟨Tryz.underlying336, inf, _, h1, h2, rfl, h3, h4, rfl⟩
def ti349 : TI := ⟨.array 65 5, 65, 65, [.int .u8 0, .int .u8 0, .int .u8 0, .int .u8 0, .int .u8 0, .int .u8 0, .int .u8 0, .int .u8 0, .int .u8 0, .int .u8 0, .int .u8 0, .int .u8 0, .int .u8 0, .int .u8 0, .int .u8 0, .int .u8 0, .int .u8 0, .int .u8 0, .int .u8 0, .int .u8 0, .int .u8 0, .int .u8 0, .int .u8 0, .int .u8 0, .int .u8 0, .int .u8 0, .int .u8 0, .int .u8 0, .int .u8 0, .int .u8 0, .int .u8 0, .int .u8 0, .int .u8 0, .int .u8 0, .int .u8 0, .int .u8 0, .int .u8 0, .int .u8 0, .int .u8 0, .int .u8 0, .int .u8 0, .int .u8 0, .int .u8 0, .int .u8 0, .int .u8 0, .int .u8 0, .int .u8 0, .int .u8 0, .int .u8 0, .int .u8 0, .int .u8 0, .int .u8 0, .int .u8 0, .int .u8 0, .int .u8 0, .int .u8 0, .int .u8 0, .int .u8 0, .int .u8 0, .int .u8 0, .int .u8 0, .int .u8 0, .int .u8 0, .int .u8 0, .int .u8 0]⟩
theorem tok349 : TOk Tryz.prog 349 ti349 := by
  obtain ⟨inf, h1, h2, h3, h4⟩ := info_parts (show (Tryz.prog.info? 349).map (fun i => (i.zero, i.size, i.bytes)) = some (some (.agg #[.int .u8 0, .int .u8 0, .int .u8 0, .int .u8 0, .int .u8 0, .int .u8 0, .int .u8 0, .int .u8 0, .int .u8 0, .int .u8 0, .int .u8 0, .int .u8 0, .int .u8 0, .int .u8 0, .int .u8 0, .int .u8 0, .int .u8 0, .int .u8 0, .int .u8 0, .int .u8 0, .int .u8 0, .int .u8 0, .int .u8 0, .int .u8 0, .int .u8 0, .int .u8 0, .int .u8 0, .int .u8 0, .int .u8 0, .int .u8 0, .int .u8 0, .int .u8 0, .int .u8 0, .int .u8 0, .int .u8 0, .int .u8 0, .int .u8 0, .int .u8 0, .int .u8 0, .int .u8 0, .int .u8 0, .int .u8 0, .int .u8 0, .int .u8 0, .int .u8 0, .int .u8 0, .int .u8 0, .int .u8 0, .int .u8 0, .int .u8 0, .int .u8 0, .int .u8 0, .int .u8 0, .int .u8 0, .int .u8 0, .int .u8 0, .int .u8 0, .int .u8 0, .int .u8 0, .int .u8 0, .int .u8 0, .int .u8 0, .int .u8 0, .int .u8 0, .int .u8 0]), 65, 65) from by kernel_rfl)
  exact ⟨Tryz.underlying349, inf, _, h1, h2, rfl, h3, h4, rfl⟩
def ti363 : TI := ⟨.slice 400, 1, 24, [.slice none 0 0]⟩
theorem tok363 : TOk Tryz.prog 363 ti363 := by
  obtain ⟨inf, h1, h2, h3, h4⟩ := info_parts (show (Tryz.prog.info? 363).map (fun i => (i.zero, i.size, i.bytes)) = some (some (.slice none 0 0), 1, 24) from by kernel_rfl)
  exact ⟨Tryz.underlying363, inf, _, h1, h2, rfl, h3, h4, rfl⟩
def ti386 : TI := ⟨.struct #[{ name := "Bag", type := 190, offset := 0, embedded := true, tag := "", pkgPath := "", byteOffset := 0 }, { name := "minor", type := 3, offset := 1, embedded := false, tag := "", pkgPath := "doorstep/length", byteOffset := 8 }], 2, 16, [.pointer none, .int .i64 0]⟩
theorem tok386 : TOk Tryz.prog 386 ti386 := by
  obtain ⟨inf, h1, h2, h3, h4⟩ := info_parts (show (Tryz.prog.info? 386).map (fun i => (i.zero, i.size, i.bytes)) = some (some (.agg #[.pointer none, .int .i64 0]), 2, 16) from by kernel_rfl)
  exact ⟨Tryz.underlying386, inf, _, h1, h2, rfl, h3, h4, rfl⟩
def ti391 : TI := ⟨.struct #[{ name := "Bag", type := 190, offset := 0, embedded := true, tag := "", pkgPath := "", byteOffset := 0 }, { name := "h", type := 32, offset := 1, embedded := false, tag := "", pkgPath := "doorstep/stage", byteOffset := 8 }], 8, 104, [.pointer none, .int .i64 0, .string ⟨#[]⟩, .string ⟨#[]⟩, .int .i64 0, .string ⟨#[]⟩, .int .i64 0, .slice none 0 0]⟩
theorem tok391 : TOk Tryz.prog 391 ti391 := by
  obtain ⟨inf, h1, h2, h3, h4⟩ := info_parts (show (Tryz.prog.info? 391).map (fun i => (i.zero, i.size, i.bytes)) = some (some (.agg #[.pointer none, .int .i64 0, .string ⟨#[]⟩, .string ⟨#[]⟩, .int .i64 0, .string ⟨#[]⟩, .int .i64 0, .slice none 0 0]), 8, 104) from by kernel_rfl)
  exact ⟨Tryz.underlying391, inf, _, h1, h2, rfl, h3, h4, rfl⟩
def ti396 : TI := ⟨.slice 456, 1, 24, [.slice none 0 0]⟩
theorem tok396 : TOk Tryz.prog 396 ti396 := by
  obtain ⟨inf, h1, h2, h3, h4⟩ := info_parts (show (Tryz.prog.info? 396).map (fun i => (i.zero, i.size, i.bytes)) = some (some (.slice none 0 0), 1, 24) from by kernel_rfl)
  exact ⟨Tryz.underlying396, inf, _, h1, h2, rfl, h3, h4, rfl⟩
def ti400 : TI := ⟨.struct #[{ name := "Name", type := 9, offset := 0, embedded := false, tag := "", pkgPath := "", byteOffset := 0 }, { name := "Value", type := 9, offset := 1, embedded := false, tag := "", pkgPath := "", byteOffset := 16 }], 2, 32, [.string ⟨#[]⟩, .string ⟨#[]⟩]⟩
theorem tok400 : TOk Tryz.prog 400 ti400 := by
  obtain ⟨inf, h1, h2, h3, h4⟩ := info_parts (show (Tryz.prog.info? 400).map (fun i => (i.zero, i.size, i.bytes)) = some (some (.agg #[.string ⟨#[]⟩, .string ⟨#[]⟩]), 2, 32) from by kernel_rfl)
  exact ⟨Tryz.underlying400, inf, _, h1, h2, rfl, h3, h4, rfl⟩
def ti414 : TI := ⟨.struct #[{ name := "Scanner", type := 177, offset := 0, embedded := true, tag := "", pkgPath := "", byteOffset := 0 }, { name := "out", type := 160, offset := 1, embedded := false, tag := "", pkgPath := "doorstep/tmpl", byteOffset := 8 }], 2, 32, [.pointer none, .slice none 0 0]⟩
theorem tok414 : TOk Tryz.prog 414 ti414 := by
  obtain ⟨inf, h1, h2, h3, h4⟩ := info_parts (show (Tryz.prog.info? 414).map (fun i => (i.zero, i.size, i.bytes)) = some (some (.agg #[.pointer none, .slice none 0 0]), 2, 32) from by kernel_rfl)
  exact ⟨Tryz.underlying414, inf, _, h1, h2, rfl, h3, h4, rfl⟩
def ti426 : TI := ⟨.struct #[{ name := "out", type := 396, offset := 0, embedded := false, tag := "", pkgPath := "doorstep/compile", byteOffset := 0 }], 1, 24, [.slice none 0 0]⟩
theorem tok426 : TOk Tryz.prog 426 ti426 := by
  obtain ⟨inf, h1, h2, h3, h4⟩ := info_parts (show (Tryz.prog.info? 426).map (fun i => (i.zero, i.size, i.bytes)) = some (some (.agg #[.slice none 0 0]), 1, 24) from by kernel_rfl)
  exact ⟨Tryz.underlying426, inf, _, h1, h2, rfl, h3, h4, rfl⟩
def ti430 : TI := ⟨.struct #[{ name := "Bag", type := 190, offset := 0, embedded := true, tag := "", pkgPath := "", byteOffset := 0 }, { name := "known", type := 363, offset := 1, embedded := false, tag := "", pkgPath := "doorstep/machine", byteOffset := 8 }, { name := "steps", type := 3, offset := 2, embedded := false, tag := "", pkgPath := "doorstep/machine", byteOffset := 32 }], 3, 40, [.pointer none, .slice none 0 0, .int .i64 0]⟩
theorem tok430 : TOk Tryz.prog 430 ti430 := by
  obtain ⟨inf, h1, h2, h3, h4⟩ := info_parts (show (Tryz.prog.info? 430).map (fun i => (i.zero, i.size, i.bytes)) = some (some (.agg #[.pointer none, .slice none 0 0, .int .i64 0]), 3, 40) from by kernel_rfl)
  exact ⟨Tryz.underlying430, inf, _, h1, h2, rfl, h3, h4, rfl⟩
def ti434 : TI := ⟨.slice 463, 1, 24, [.slice none 0 0]⟩
theorem tok434 : TOk Tryz.prog 434 ti434 := by
  obtain ⟨inf, h1, h2, h3, h4⟩ := info_parts (show (Tryz.prog.info? 434).map (fun i => (i.zero, i.size, i.bytes)) = some (some (.slice none 0 0), 1, 24) from by kernel_rfl)
  exact ⟨Tryz.underlying434, inf, _, h1, h2, rfl, h3, h4, rfl⟩
def ti439 : TI := ⟨.struct #[{ name := "Scanner", type := 177, offset := 0, embedded := true, tag := "", pkgPath := "", byteOffset := 0 }, { name := "out", type := 90, offset := 1, embedded := false, tag := "", pkgPath := "doorstep/commas", byteOffset := 8 }, { name := "from", type := 3, offset := 2, embedded := false, tag := "", pkgPath := "doorstep/commas", byteOffset := 32 }, { name := "s", type := 9, offset := 3, embedded := false, tag := "", pkgPath := "doorstep/commas", byteOffset := 40 }], 4, 56, [.pointer none, .slice none 0 0, .int .i64 0, .string ⟨#[]⟩]⟩
theorem tok439 : TOk Tryz.prog 439 ti439 := by
  obtain ⟨inf, h1, h2, h3, h4⟩ := info_parts (show (Tryz.prog.info? 439).map (fun i => (i.zero, i.size, i.bytes)) = some (some (.agg #[.pointer none, .slice none 0 0, .int .i64 0, .string ⟨#[]⟩]), 4, 56) from by kernel_rfl)
  exact ⟨Tryz.underlying439, inf, _, h1, h2, rfl, h3, h4, rfl⟩
def ti447 : TI := ⟨.struct #[{ name := "Name", type := 9, offset := 0, embedded := false, tag := "", pkgPath := "", byteOffset := 0 }, { name := "Value", type := 9, offset := 1, embedded := false, tag := "", pkgPath := "", byteOffset := 16 }, { name := "Attrs", type := 434, offset := 2, embedded := false, tag := "", pkgPath := "", byteOffset := 32 }], 3, 56, [.string ⟨#[]⟩, .string ⟨#[]⟩, .slice none 0 0]⟩
theorem tok447 : TOk Tryz.prog 447 ti447 := by
  obtain ⟨inf, h1, h2, h3, h4⟩ := info_parts (show (Tryz.prog.info? 447).map (fun i => (i.zero, i.size, i.bytes)) = some (some (.agg #[.string ⟨#[]⟩, .string ⟨#[]⟩, .slice none 0 0]), 3, 56) from by kernel_rfl)
  exact ⟨Tryz.underlying447, inf, _, h1, h2, rfl, h3, h4, rfl⟩
def ti454 : TI := ⟨.int .i64, 1, 8, [.int .i64 0]⟩
theorem tok454 : TOk Tryz.prog 454 ti454 := by
  obtain ⟨inf, h1, h2, h3, h4⟩ := info_parts (show (Tryz.prog.info? 454).map (fun i => (i.zero, i.size, i.bytes)) = some (some (.int .i64 0), 1, 8) from by kernel_rfl)
  exact ⟨Tryz.underlying454, inf, _, h1, h2, rfl, h3, h4, rfl⟩
def ti456 : TI := ⟨.struct #[{ name := "Kind", type := 454, offset := 0, embedded := false, tag := "", pkgPath := "", byteOffset := 0 }, { name := "Name", type := 9, offset := 1, embedded := false, tag := "", pkgPath := "", byteOffset := 8 }, { name := "Text", type := 9, offset := 2, embedded := false, tag := "", pkgPath := "", byteOffset := 24 }, { name := "Parts", type := 160, offset := 3, embedded := false, tag := "", pkgPath := "", byteOffset := 40 }, { name := "N", type := 3, offset := 4, embedded := false, tag := "", pkgPath := "", byteOffset := 64 }], 5, 72, [.int .i64 0, .string ⟨#[]⟩, .string ⟨#[]⟩, .slice none 0 0, .int .i64 0]⟩
theorem tok456 : TOk Tryz.prog 456 ti456 := by
  obtain ⟨inf, h1, h2, h3, h4⟩ := info_parts (show (Tryz.prog.info? 456).map (fun i => (i.zero, i.size, i.bytes)) = some (some (.agg #[.int .i64 0, .string ⟨#[]⟩, .string ⟨#[]⟩, .slice none 0 0, .int .i64 0]), 5, 72) from by kernel_rfl)
  exact ⟨Tryz.underlying456, inf, _, h1, h2, rfl, h3, h4, rfl⟩
def ti461 : TI := ⟨.struct #[{ name := "Scanner", type := 177, offset := 0, embedded := true, tag := "", pkgPath := "", byteOffset := 0 }], 1, 8, [.pointer none]⟩
theorem tok461 : TOk Tryz.prog 461 ti461 := by
  obtain ⟨inf, h1, h2, h3, h4⟩ := info_parts (show (Tryz.prog.info? 461).map (fun i => (i.zero, i.size, i.bytes)) = some (some (.agg #[.pointer none]), 1, 8) from by kernel_rfl)
  exact ⟨Tryz.underlying461, inf, _, h1, h2, rfl, h3, h4, rfl⟩
def ti463 : TI := ⟨.struct #[{ name := "Name", type := 9, offset := 0, embedded := false, tag := "", pkgPath := "", byteOffset := 0 }, { name := "Value", type := 9, offset := 1, embedded := false, tag := "", pkgPath := "", byteOffset := 16 }, { name := "Has", type := 4, offset := 2, embedded := false, tag := "", pkgPath := "", byteOffset := 32 }], 3, 40, [.string ⟨#[]⟩, .string ⟨#[]⟩, .bool false]⟩
theorem tok463 : TOk Tryz.prog 463 ti463 := by
  obtain ⟨inf, h1, h2, h3, h4⟩ := info_parts (show (Tryz.prog.info? 463).map (fun i => (i.zero, i.size, i.bytes)) = some (some (.agg #[.string ⟨#[]⟩, .string ⟨#[]⟩, .bool false]), 3, 40) from by kernel_rfl)
  exact ⟨Tryz.underlying463, inf, _, h1, h2, rfl, h3, h4, rfl⟩
def ti478 : TI := ⟨.struct #[{ name := "Scanner", type := 177, offset := 0, embedded := true, tag := "", pkgPath := "", byteOffset := 0 }, { name := "out", type := 59, offset := 1, embedded := false, tag := "", pkgPath := "doorstep/quoted", byteOffset := 8 }], 2, 32, [.pointer none, .slice none 0 0]⟩
theorem tok478 : TOk Tryz.prog 478 ti478 := by
  obtain ⟨inf, h1, h2, h3, h4⟩ := info_parts (show (Tryz.prog.info? 478).map (fun i => (i.zero, i.size, i.bytes)) = some (some (.agg #[.pointer none, .slice none 0 0]), 2, 32) from by kernel_rfl)
  exact ⟨Tryz.underlying478, inf, _, h1, h2, rfl, h3, h4, rfl⟩
def T : Tab := findT [(2, ti2), (3, ti3), (4, ti4), (5, ti5), (9, ti9), (22, ti22), (24, ti24), (25, ti25), (30, ti30), (32, ti32), (41, ti41), (43, ti43), (46, ti46), (48, ti48), (50, ti50), (51, ti51), (52, ti52), (54, ti54), (57, ti57), (59, ti59), (61, ti61), (66, ti66), (69, ti69), (73, ti73), (77, ti77), (80, ti80), (82, ti82), (87, ti87), (90, ti90), (92, ti92), (97, ti97), (103, ti103), (106, ti106), (107, ti107), (109, ti109), (111, ti111), (114, ti114), (116, ti116), (121, ti121), (140, ti140), (143, ti143), (149, ti149), (150, ti150), (151, ti151), (153, ti153), (155, ti155), (156, ti156), (158, ti158), (159, ti159), (160, ti160), (162, ti162), (164, ti164), (166, ti166), (170, ti170), (172, ti172), (174, ti174), (177, ti177), (190, ti190), (193, ti193), (195, ti195), (209, ti209), (212, ti212), (214, ti214), (222, ti222), (225, ti225), (226, ti226), (228, ti228), (230, ti230), (237, ti237), (239, ti239), (246, ti246), (256, ti256), (275, ti275), (284, ti284), (294, ti294), (297, ti297), (300, ti300), (301, ti301), (313, ti313), (317, ti317), (326, ti326), (328, ti328), (336, ti336), (349, ti349), (363, ti363), (386, ti386), (391, ti391), (396, ti396), (400, ti400), (414, ti414), (426, ti426), (430, ti430), (434, ti434), (439, ti439), (447, ti447), (454, ti454), (456, ti456), (461, ti461), (463, ti463), (478, ti478)]
theorem T_ok : T.Ok Tryz.prog := findT_ok (.cons tok2 (.cons tok3 (.cons tok4 (.cons tok5 (.cons tok9 (.cons tok22 (.cons tok24 (.cons tok25 (.cons tok30 (.cons tok32 (.cons tok41 (.cons tok43 (.cons tok46 (.cons tok48 (.cons tok50 (.cons tok51 (.cons tok52 (.cons tok54 (.cons tok57 (.cons tok59 (.cons tok61 (.cons tok66 (.cons tok69 (.cons tok73 (.cons tok77 (.cons tok80 (.cons tok82 (.cons tok87 (.cons tok90 (.cons tok92 (.cons tok97 (.cons tok103 (.cons tok106 (.cons tok107 (.cons tok109 (.cons tok111 (.cons tok114 (.cons tok116 (.cons tok121 (.cons tok140 (.cons tok143 (.cons tok149 (.cons tok150 (.cons tok151 (.cons tok153 (.cons tok155 (.cons tok156 (.cons tok158 (.cons tok159 (.cons tok160 (.cons tok162 (.cons tok164 (.cons tok166 (.cons tok170 (.cons tok172 (.cons tok174 (.cons tok177 (.cons tok190 (.cons tok193 (.cons tok195 (.cons tok209 (.cons tok212 (.cons tok214 (.cons tok222 (.cons tok225 (.cons tok226 (.cons tok228 (.cons tok230 (.cons tok237 (.cons tok239 (.cons tok246 (.cons tok256 (.cons tok275 (.cons tok284 (.cons tok294 (.cons tok297 (.cons tok300 (.cons tok301 (.cons tok313 (.cons tok317 (.cons tok326 (.cons tok328 (.cons tok336 (.cons tok349 (.cons tok363 (.cons tok386 (.cons tok391 (.cons tok396 (.cons tok400 (.cons tok414 (.cons tok426 (.cons tok430 (.cons tok434 (.cons tok439 (.cons tok447 (.cons tok454 (.cons tok456 (.cons tok461 (.cons tok463 (.cons tok478 (.nil)))))))))))))))))))))))))))))))))))))))))))))))))))))))))))))))))))))))))))))))))))))))))))))))))))))
end Go.Proofs.YthnmbfiandpedaaGreatDoor
