/- The types that the functions use, in a table; each row is proved. No statement of its own. -/
import Derived.Test.YticbonkojpabnaaGreatDoorProg
import Derived.Test.YticbonkojpabnaaGreatDoorSVz
set_option linter.unusedSimpArgs false
set_option linter.unusedVariables false
set_option maxRecDepth 100000
namespace Go.Proofs.YticbonkojpabnaaGreatDoor
open Go.RowKit

def ti2:TI:=⟨.int .i64,1,8,[.int .i64 0]⟩
theorem tok2:TOk Tryz.prog 2 ti2:=by
 obtain ⟨inf,h1,h2,h3,h4⟩:=info_parts (show (Tryz.prog.info? 2).map (fun i=>(i.zero,i.size,i.bytes))=some (some (.int .i64 0),1,8) from by kernel_rfl)
 exact ⟨Tryz.underlying2,inf,_,h1,h2,rfl,h3,h4,rfl⟩
def ti3:TI:=⟨.int .i64,1,8,[.int .i64 0]⟩
theorem tok3:TOk Tryz.prog 3 ti3:=by
 obtain ⟨inf,h1,h2,h3,h4⟩:=info_parts (show (Tryz.prog.info? 3).map (fun i=>(i.zero,i.size,i.bytes))=some (some (.int .i64 0),1,8) from by kernel_rfl)
 exact ⟨Tryz.underlying3,inf,_,h1,h2,rfl,h3,h4,rfl⟩
def ti4:TI:=⟨.bool,1,1,[.bool false]⟩
theorem tok4:TOk Tryz.prog 4 ti4:=by
 obtain ⟨inf,h1,h2,h3,h4⟩:=info_parts (show (Tryz.prog.info? 4).map (fun i=>(i.zero,i.size,i.bytes))=some (some (.bool false),1,1) from by kernel_rfl)
 exact ⟨Tryz.underlying4,inf,_,h1,h2,rfl,h3,h4,rfl⟩
def ti5:TI:=⟨.int .u8,1,1,[.int .u8 0]⟩
theorem tok5:TOk Tryz.prog 5 ti5:=by
 obtain ⟨inf,h1,h2,h3,h4⟩:=info_parts (show (Tryz.prog.info? 5).map (fun i=>(i.zero,i.size,i.bytes))=some (some (.int .u8 0),1,1) from by kernel_rfl)
 exact ⟨Tryz.underlying5,inf,_,h1,h2,rfl,h3,h4,rfl⟩
def ti9:TI:=⟨.string,1,16,[.string ⟨#[]⟩]⟩
theorem tok9:TOk Tryz.prog 9 ti9:=by
 obtain ⟨inf,h1,h2,h3,h4⟩:=info_parts (show (Tryz.prog.info? 9).map (fun i=>(i.zero,i.size,i.bytes))=some (some (.string ⟨#[]⟩),1,16) from by kernel_rfl)
 exact ⟨Tryz.underlying9,inf,_,h1,h2,rfl,h3,h4,rfl⟩
def ti24:TI:=⟨.int .i64,1,8,[.int .i64 0]⟩
theorem tok24:TOk Tryz.prog 24 ti24:=by
 obtain ⟨inf,h1,h2,h3,h4⟩:=info_parts (show (Tryz.prog.info? 24).map (fun i=>(i.zero,i.size,i.bytes))=some (some (.int .i64 0),1,8) from by kernel_rfl)
 exact ⟨Tryz.underlying24,inf,_,h1,h2,rfl,h3,h4,rfl⟩
def ti30:TI:=⟨.slice 97,1,24,[.slice none 0 0]⟩
theorem tok30:TOk Tryz.prog 30 ti30:=by
 obtain ⟨inf,h1,h2,h3,h4⟩:=info_parts (show (Tryz.prog.info? 30).map (fun i=>(i.zero,i.size,i.bytes))=some (some (.slice none 0 0),1,24) from by kernel_rfl)
 exact ⟨Tryz.underlying30,inf,_,h1,h2,rfl,h3,h4,rfl⟩
def ti32:TI:=⟨.struct #[{ name:= "Client",type:=9,offset:=0,embedded:=false,tag:= "",pkgPath:= "",byteOffset:=0 },{ name:= "Host",type:=9,offset:=1,embedded:=false,tag:= "",pkgPath:= "",byteOffset:=16 },{ name:= "Scheme",type:=9,offset:=2,embedded:=false,tag:= "",pkgPath:= "",byteOffset:=32 },{ name:= "By",type:=9,offset:=3,embedded:=false,tag:= "",pkgPath:= "",byteOffset:=48 },{ name:= "Domains",type:=30,offset:=4,embedded:=false,tag:= "",pkgPath:= "",byteOffset:=64 },{ name:= "Locations",type:=30,offset:=5,embedded:=false,tag:= "",pkgPath:= "",byteOffset:=88 }],6,112,[.string ⟨#[]⟩,.string ⟨#[]⟩,.string ⟨#[]⟩,.string ⟨#[]⟩,.slice none 0 0,.slice none 0 0]⟩
theorem tok32:TOk Tryz.prog 32 ti32:=by
 obtain ⟨inf,h1,h2,h3,h4⟩:=info_parts (show (Tryz.prog.info? 32).map (fun i=>(i.zero,i.size,i.bytes))=some (some (.agg #[.string ⟨#[]⟩,.string ⟨#[]⟩,.string ⟨#[]⟩,.string ⟨#[]⟩,.slice none 0 0,.slice none 0 0]),6,112) from by kernel_rfl)
 exact ⟨Tryz.underlying32,inf,_,h1,h2,rfl,h3,h4,rfl⟩
def ti34:TI:=⟨.struct #[{ name:= "Head",type:=3,offset:=0,embedded:=false,tag:= "",pkgPath:= "",byteOffset:=0 },{ name:= "Chunk",type:=3,offset:=1,embedded:=false,tag:= "",pkgPath:= "",byteOffset:=8 },{ name:= "Queue",type:=3,offset:=2,embedded:=false,tag:= "",pkgPath:= "",byteOffset:=16 }],3,24,[.int .i64 0,.int .i64 0,.int .i64 0]⟩
theorem tok34:TOk Tryz.prog 34 ti34:=by
 obtain ⟨inf,h1,h2,h3,h4⟩:=info_parts (show (Tryz.prog.info? 34).map (fun i=>(i.zero,i.size,i.bytes))=some (some (.agg #[.int .i64 0,.int .i64 0,.int .i64 0]),3,24) from by kernel_rfl)
 exact ⟨Tryz.underlying34,inf,_,h1,h2,rfl,h3,h4,rfl⟩
def ti35:TI:=⟨.slice 78,1,24,[.slice none 0 0]⟩
theorem tok35:TOk Tryz.prog 35 ti35:=by
 obtain ⟨inf,h1,h2,h3,h4⟩:=info_parts (show (Tryz.prog.info? 35).map (fun i=>(i.zero,i.size,i.bytes))=some (some (.slice none 0 0),1,24) from by kernel_rfl)
 exact ⟨Tryz.underlying35,inf,_,h1,h2,rfl,h3,h4,rfl⟩
def ti36:TI:=⟨.slice 88,1,24,[.slice none 0 0]⟩
theorem tok36:TOk Tryz.prog 36 ti36:=by
 obtain ⟨inf,h1,h2,h3,h4⟩:=info_parts (show (Tryz.prog.info? 36).map (fun i=>(i.zero,i.size,i.bytes))=some (some (.slice none 0 0),1,24) from by kernel_rfl)
 exact ⟨Tryz.underlying36,inf,_,h1,h2,rfl,h3,h4,rfl⟩
def ti38:TI:=⟨.struct #[{ name:= "Env",type:=32,offset:=0,embedded:=false,tag:= "",pkgPath:= "",byteOffset:=0 },{ name:= "Caps",type:=34,offset:=6,embedded:=false,tag:= "",pkgPath:= "",byteOffset:=112 },{ name:= "Rules",type:=35,offset:=9,embedded:=false,tag:= "",pkgPath:= "",byteOffset:=136 },{ name:= "Client",type:=9,offset:=10,embedded:=false,tag:= "",pkgPath:= "",byteOffset:=160 },{ name:= "Upstream",type:=9,offset:=11,embedded:=false,tag:= "",pkgPath:= "",byteOffset:=176 },{ name:= "ClientEnds",type:=4,offset:=12,embedded:=false,tag:= "",pkgPath:= "",byteOffset:=192 },{ name:= "UpstreamEnds",type:=4,offset:=13,embedded:=false,tag:= "",pkgPath:= "",byteOffset:=193 },{ name:= "Events",type:=36,offset:=14,embedded:=false,tag:= "",pkgPath:= "",byteOffset:=200 }],15,224,[.string ⟨#[]⟩,.string ⟨#[]⟩,.string ⟨#[]⟩,.string ⟨#[]⟩,.slice none 0 0,.slice none 0 0,.int .i64 0,.int .i64 0,.int .i64 0,.slice none 0 0,.string ⟨#[]⟩,.string ⟨#[]⟩,.bool false,.bool false,.slice none 0 0]⟩
theorem tok38:TOk Tryz.prog 38 ti38:=by
 obtain ⟨inf,h1,h2,h3,h4⟩:=info_parts (show (Tryz.prog.info? 38).map (fun i=>(i.zero,i.size,i.bytes))=some (some (.agg #[.string ⟨#[]⟩,.string ⟨#[]⟩,.string ⟨#[]⟩,.string ⟨#[]⟩,.slice none 0 0,.slice none 0 0,.int .i64 0,.int .i64 0,.int .i64 0,.slice none 0 0,.string ⟨#[]⟩,.string ⟨#[]⟩,.bool false,.bool false,.slice none 0 0]),15,224) from by kernel_rfl)
 exact ⟨Tryz.underlying38,inf,_,h1,h2,rfl,h3,h4,rfl⟩
def ti47:TI:=⟨.struct #[{ name:= "S",type:=38,offset:=0,embedded:=false,tag:= "",pkgPath:= "",byteOffset:=0 },{ name:= "Line",type:=3,offset:=15,embedded:=false,tag:= "",pkgPath:= "",byteOffset:=224 },{ name:= "Err",type:=3,offset:=16,embedded:=false,tag:= "",pkgPath:= "",byteOffset:=232 }],17,240,[.string ⟨#[]⟩,.string ⟨#[]⟩,.string ⟨#[]⟩,.string ⟨#[]⟩,.slice none 0 0,.slice none 0 0,.int .i64 0,.int .i64 0,.int .i64 0,.slice none 0 0,.string ⟨#[]⟩,.string ⟨#[]⟩,.bool false,.bool false,.slice none 0 0,.int .i64 0,.int .i64 0]⟩
theorem tok47:TOk Tryz.prog 47 ti47:=by
 obtain ⟨inf,h1,h2,h3,h4⟩:=info_parts (show (Tryz.prog.info? 47).map (fun i=>(i.zero,i.size,i.bytes))=some (some (.agg #[.string ⟨#[]⟩,.string ⟨#[]⟩,.string ⟨#[]⟩,.string ⟨#[]⟩,.slice none 0 0,.slice none 0 0,.int .i64 0,.int .i64 0,.int .i64 0,.slice none 0 0,.string ⟨#[]⟩,.string ⟨#[]⟩,.bool false,.bool false,.slice none 0 0,.int .i64 0,.int .i64 0]),17,240) from by kernel_rfl)
 exact ⟨Tryz.underlying47,inf,_,h1,h2,rfl,h3,h4,rfl⟩
def ti50:TI:=⟨.slice 5,1,24,[.slice none 0 0]⟩
theorem tok50:TOk Tryz.prog 50 ti50:=by
 obtain ⟨inf,h1,h2,h3,h4⟩:=info_parts (show (Tryz.prog.info? 50).map (fun i=>(i.zero,i.size,i.bytes))=some (some (.slice none 0 0),1,24) from by kernel_rfl)
 exact ⟨Tryz.underlying50,inf,_,h1,h2,rfl,h3,h4,rfl⟩
def ti52:TI:=⟨.int .u64,1,8,[.int .u64 0]⟩
theorem tok52:TOk Tryz.prog 52 ti52:=by
 obtain ⟨inf,h1,h2,h3,h4⟩:=info_parts (show (Tryz.prog.info? 52).map (fun i=>(i.zero,i.size,i.bytes))=some (some (.int .u64 0),1,8) from by kernel_rfl)
 exact ⟨Tryz.underlying52,inf,_,h1,h2,rfl,h3,h4,rfl⟩
def ti53:TI:=⟨.pointer 104,1,8,[.pointer none]⟩
theorem tok53:TOk Tryz.prog 53 ti53:=by
 obtain ⟨inf,h1,h2,h3,h4⟩:=info_parts (show (Tryz.prog.info? 53).map (fun i=>(i.zero,i.size,i.bytes))=some (some (.pointer none),1,8) from by kernel_rfl)
 exact ⟨Tryz.underlying53,inf,_,h1,h2,rfl,h3,h4,rfl⟩
def ti56:TI:=⟨.struct #[{ name:= "Scanner",type:=53,offset:=0,embedded:=true,tag:= "",pkgPath:= "",byteOffset:=0 }],1,8,[.pointer none]⟩
theorem tok56:TOk Tryz.prog 56 ti56:=by
 obtain ⟨inf,h1,h2,h3,h4⟩:=info_parts (show (Tryz.prog.info? 56).map (fun i=>(i.zero,i.size,i.bytes))=some (some (.agg #[.pointer none]),1,8) from by kernel_rfl)
 exact ⟨Tryz.underlying56,inf,_,h1,h2,rfl,h3,h4,rfl⟩
def ti61:TI:=⟨.pointer 108,1,8,[.pointer none]⟩
theorem tok61:TOk Tryz.prog 61 ti61:=by
 obtain ⟨inf,h1,h2,h3,h4⟩:=info_parts (show (Tryz.prog.info? 61).map (fun i=>(i.zero,i.size,i.bytes))=some (some (.pointer none),1,8) from by kernel_rfl)
 exact ⟨Tryz.underlying61,inf,_,h1,h2,rfl,h3,h4,rfl⟩
def ti64:TI:=⟨.struct #[{ name:= "Quill",type:=61,offset:=0,embedded:=true,tag:= "",pkgPath:= "",byteOffset:=0 }],1,8,[.pointer none]⟩
theorem tok64:TOk Tryz.prog 64 ti64:=by
 obtain ⟨inf,h1,h2,h3,h4⟩:=info_parts (show (Tryz.prog.info? 64).map (fun i=>(i.zero,i.size,i.bytes))=some (some (.agg #[.pointer none]),1,8) from by kernel_rfl)
 exact ⟨Tryz.underlying64,inf,_,h1,h2,rfl,h3,h4,rfl⟩
def ti68:TI:=⟨.slice 9,1,24,[.slice none 0 0]⟩
theorem tok68:TOk Tryz.prog 68 ti68:=by
 obtain ⟨inf,h1,h2,h3,h4⟩:=info_parts (show (Tryz.prog.info? 68).map (fun i=>(i.zero,i.size,i.bytes))=some (some (.slice none 0 0),1,24) from by kernel_rfl)
 exact ⟨Tryz.underlying68,inf,_,h1,h2,rfl,h3,h4,rfl⟩
def ti71:TI:=⟨.int .i64,1,8,[.int .i64 0]⟩
theorem tok71:TOk Tryz.prog 71 ti71:=by
 obtain ⟨inf,h1,h2,h3,h4⟩:=info_parts (show (Tryz.prog.info? 71).map (fun i=>(i.zero,i.size,i.bytes))=some (some (.int .i64 0),1,8) from by kernel_rfl)
 exact ⟨Tryz.underlying71,inf,_,h1,h2,rfl,h3,h4,rfl⟩
def ti72:TI:=⟨.int .i64,1,8,[.int .i64 0]⟩
theorem tok72:TOk Tryz.prog 72 ti72:=by
 obtain ⟨inf,h1,h2,h3,h4⟩:=info_parts (show (Tryz.prog.info? 72).map (fun i=>(i.zero,i.size,i.bytes))=some (some (.int .i64 0),1,8) from by kernel_rfl)
 exact ⟨Tryz.underlying72,inf,_,h1,h2,rfl,h3,h4,rfl⟩
def ti74:TI:=⟨.struct #[{ name:= "Kind",type:=72,offset:=0,embedded:=false,tag:= "",pkgPath:= "",byteOffset:=0 },{ name:= "Name",type:=9,offset:=1,embedded:=false,tag:= "",pkgPath:= "",byteOffset:=8 },{ name:= "Value",type:=9,offset:=2,embedded:=false,tag:= "",pkgPath:= "",byteOffset:=24 }],3,40,[.int .i64 0,.string ⟨#[]⟩,.string ⟨#[]⟩]⟩
theorem tok74:TOk Tryz.prog 74 ti74:=by
 obtain ⟨inf,h1,h2,h3,h4⟩:=info_parts (show (Tryz.prog.info? 74).map (fun i=>(i.zero,i.size,i.bytes))=some (some (.agg #[.int .i64 0,.string ⟨#[]⟩,.string ⟨#[]⟩]),3,40) from by kernel_rfl)
 exact ⟨Tryz.underlying74,inf,_,h1,h2,rfl,h3,h4,rfl⟩
def ti75:TI:=⟨.int .i64,1,8,[.int .i64 0]⟩
theorem tok75:TOk Tryz.prog 75 ti75:=by
 obtain ⟨inf,h1,h2,h3,h4⟩:=info_parts (show (Tryz.prog.info? 75).map (fun i=>(i.zero,i.size,i.bytes))=some (some (.int .i64 0),1,8) from by kernel_rfl)
 exact ⟨Tryz.underlying75,inf,_,h1,h2,rfl,h3,h4,rfl⟩
def ti76:TI:=⟨.slice 157,1,24,[.slice none 0 0]⟩
theorem tok76:TOk Tryz.prog 76 ti76:=by
 obtain ⟨inf,h1,h2,h3,h4⟩:=info_parts (show (Tryz.prog.info? 76).map (fun i=>(i.zero,i.size,i.bytes))=some (some (.slice none 0 0),1,24) from by kernel_rfl)
 exact ⟨Tryz.underlying76,inf,_,h1,h2,rfl,h3,h4,rfl⟩
def ti78:TI:=⟨.struct #[{ name:= "Side",type:=71,offset:=0,embedded:=false,tag:= "",pkgPath:= "",byteOffset:=0 },{ name:= "Guard",type:=74,offset:=1,embedded:=false,tag:= "",pkgPath:= "",byteOffset:=8 },{ name:= "Kind",type:=75,offset:=4,embedded:=false,tag:= "",pkgPath:= "",byteOffset:=48 },{ name:= "Name",type:=9,offset:=5,embedded:=false,tag:= "",pkgPath:= "",byteOffset:=56 },{ name:= "To",type:=9,offset:=6,embedded:=false,tag:= "",pkgPath:= "",byteOffset:=72 },{ name:= "Parts",type:=76,offset:=7,embedded:=false,tag:= "",pkgPath:= "",byteOffset:=88 }],8,112,[.int .i64 0,.int .i64 0,.string ⟨#[]⟩,.string ⟨#[]⟩,.int .i64 0,.string ⟨#[]⟩,.string ⟨#[]⟩,.slice none 0 0]⟩
theorem tok78:TOk Tryz.prog 78 ti78:=by
 obtain ⟨inf,h1,h2,h3,h4⟩:=info_parts (show (Tryz.prog.info? 78).map (fun i=>(i.zero,i.size,i.bytes))=some (some (.agg #[.int .i64 0,.int .i64 0,.string ⟨#[]⟩,.string ⟨#[]⟩,.int .i64 0,.string ⟨#[]⟩,.string ⟨#[]⟩,.slice none 0 0]),8,112) from by kernel_rfl)
 exact ⟨Tryz.underlying78,inf,_,h1,h2,rfl,h3,h4,rfl⟩
def ti86:TI:=⟨.int .i64,1,8,[.int .i64 0]⟩
theorem tok86:TOk Tryz.prog 86 ti86:=by
 obtain ⟨inf,h1,h2,h3,h4⟩:=info_parts (show (Tryz.prog.info? 86).map (fun i=>(i.zero,i.size,i.bytes))=some (some (.int .i64 0),1,8) from by kernel_rfl)
 exact ⟨Tryz.underlying86,inf,_,h1,h2,rfl,h3,h4,rfl⟩
def ti88:TI:=⟨.struct #[{ name:= "Kind",type:=86,offset:=0,embedded:=false,tag:= "",pkgPath:= "",byteOffset:=0 },{ name:= "N",type:=3,offset:=1,embedded:=false,tag:= "",pkgPath:= "",byteOffset:=8 }],2,16,[.int .i64 0,.int .i64 0]⟩
theorem tok88:TOk Tryz.prog 88 ti88:=by
 obtain ⟨inf,h1,h2,h3,h4⟩:=info_parts (show (Tryz.prog.info? 88).map (fun i=>(i.zero,i.size,i.bytes))=some (some (.agg #[.int .i64 0,.int .i64 0]),2,16) from by kernel_rfl)
 exact ⟨Tryz.underlying88,inf,_,h1,h2,rfl,h3,h4,rfl⟩
def ti90:TI:=⟨.int .i64,1,8,[.int .i64 0]⟩
theorem tok90:TOk Tryz.prog 90 ti90:=by
 obtain ⟨inf,h1,h2,h3,h4⟩:=info_parts (show (Tryz.prog.info? 90).map (fun i=>(i.zero,i.size,i.bytes))=some (some (.int .i64 0),1,8) from by kernel_rfl)
 exact ⟨Tryz.underlying90,inf,_,h1,h2,rfl,h3,h4,rfl⟩
def ti92:TI:=⟨.struct #[{ name:= "s",type:=38,offset:=0,embedded:=false,tag:= "",pkgPath:= "doorstep/lines",byteOffset:=0 },{ name:= "next",type:=90,offset:=15,embedded:=false,tag:= "",pkgPath:= "doorstep/lines",byteOffset:=224 }],16,232,[.string ⟨#[]⟩,.string ⟨#[]⟩,.string ⟨#[]⟩,.string ⟨#[]⟩,.slice none 0 0,.slice none 0 0,.int .i64 0,.int .i64 0,.int .i64 0,.slice none 0 0,.string ⟨#[]⟩,.string ⟨#[]⟩,.bool false,.bool false,.slice none 0 0,.int .i64 0]⟩
theorem tok92:TOk Tryz.prog 92 ti92:=by
 obtain ⟨inf,h1,h2,h3,h4⟩:=info_parts (show (Tryz.prog.info? 92).map (fun i=>(i.zero,i.size,i.bytes))=some (some (.agg #[.string ⟨#[]⟩,.string ⟨#[]⟩,.string ⟨#[]⟩,.string ⟨#[]⟩,.slice none 0 0,.slice none 0 0,.int .i64 0,.int .i64 0,.int .i64 0,.slice none 0 0,.string ⟨#[]⟩,.string ⟨#[]⟩,.bool false,.bool false,.slice none 0 0,.int .i64 0]),16,232) from by kernel_rfl)
 exact ⟨Tryz.underlying92,inf,_,h1,h2,rfl,h3,h4,rfl⟩
def ti97:TI:=⟨.struct #[{ name:= "From",type:=9,offset:=0,embedded:=false,tag:= "",pkgPath:= "",byteOffset:=0 },{ name:= "To",type:=9,offset:=1,embedded:=false,tag:= "",pkgPath:= "",byteOffset:=16 }],2,32,[.string ⟨#[]⟩,.string ⟨#[]⟩]⟩
theorem tok97:TOk Tryz.prog 97 ti97:=by
 obtain ⟨inf,h1,h2,h3,h4⟩:=info_parts (show (Tryz.prog.info? 97).map (fun i=>(i.zero,i.size,i.bytes))=some (some (.agg #[.string ⟨#[]⟩,.string ⟨#[]⟩]),2,32) from by kernel_rfl)
 exact ⟨Tryz.underlying97,inf,_,h1,h2,rfl,h3,h4,rfl⟩
def ti104:TI:=⟨.struct #[{ name:= "s",type:=9,offset:=0,embedded:=false,tag:= "",pkgPath:= "doorstep/scan",byteOffset:=0 },{ name:= "at",type:=3,offset:=1,embedded:=false,tag:= "",pkgPath:= "doorstep/scan",byteOffset:=16 }],2,24,[.string ⟨#[]⟩,.int .i64 0]⟩
theorem tok104:TOk Tryz.prog 104 ti104:=by
 obtain ⟨inf,h1,h2,h3,h4⟩:=info_parts (show (Tryz.prog.info? 104).map (fun i=>(i.zero,i.size,i.bytes))=some (some (.agg #[.string ⟨#[]⟩,.int .i64 0]),2,24) from by kernel_rfl)
 exact ⟨Tryz.underlying104,inf,_,h1,h2,rfl,h3,h4,rfl⟩
def ti108:TI:=⟨.struct #[{ name:= "b",type:=50,offset:=0,embedded:=false,tag:= "",pkgPath:= "doorstep/quill",byteOffset:=0 },{ name:= "most",type:=3,offset:=1,embedded:=false,tag:= "",pkgPath:= "doorstep/quill",byteOffset:=24 }],2,32,[.slice none 0 0,.int .i64 0]⟩
theorem tok108:TOk Tryz.prog 108 ti108:=by
 obtain ⟨inf,h1,h2,h3,h4⟩:=info_parts (show (Tryz.prog.info? 108).map (fun i=>(i.zero,i.size,i.bytes))=some (some (.agg #[.slice none 0 0,.int .i64 0]),2,32) from by kernel_rfl)
 exact ⟨Tryz.underlying108,inf,_,h1,h2,rfl,h3,h4,rfl⟩
def ti113:TI:=⟨.struct #[{ name:= "words",type:=68,offset:=0,embedded:=false,tag:= "",pkgPath:= "doorstep/ruleprint",byteOffset:=0 }],1,24,[.slice none 0 0]⟩
theorem tok113:TOk Tryz.prog 113 ti113:=by
 obtain ⟨inf,h1,h2,h3,h4⟩:=info_parts (show (Tryz.prog.info? 113).map (fun i=>(i.zero,i.size,i.bytes))=some (some (.agg #[.slice none 0 0]),1,24) from by kernel_rfl)
 exact ⟨Tryz.underlying113,inf,_,h1,h2,rfl,h3,h4,rfl⟩
def ti121:TI:=⟨.array 5 9,5,80,[.string ⟨#[]⟩,.string ⟨#[]⟩,.string ⟨#[]⟩,.string ⟨#[]⟩,.string ⟨#[]⟩]⟩
theorem tok121:TOk Tryz.prog 121 ti121:=by
 obtain ⟨inf,h1,h2,h3,h4⟩:=info_parts (show (Tryz.prog.info? 121).map (fun i=>(i.zero,i.size,i.bytes))=some (some (.agg #[.string ⟨#[]⟩,.string ⟨#[]⟩,.string ⟨#[]⟩,.string ⟨#[]⟩,.string ⟨#[]⟩]),5,80) from by kernel_rfl)
 exact ⟨Tryz.underlying121,inf,_,h1,h2,rfl,h3,h4,rfl⟩
def ti135:TI:=⟨.array 4 9,4,64,[.string ⟨#[]⟩,.string ⟨#[]⟩,.string ⟨#[]⟩,.string ⟨#[]⟩]⟩
theorem tok135:TOk Tryz.prog 135 ti135:=by
 obtain ⟨inf,h1,h2,h3,h4⟩:=info_parts (show (Tryz.prog.info? 135).map (fun i=>(i.zero,i.size,i.bytes))=some (some (.agg #[.string ⟨#[]⟩,.string ⟨#[]⟩,.string ⟨#[]⟩,.string ⟨#[]⟩]),4,64) from by kernel_rfl)
 exact ⟨Tryz.underlying135,inf,_,h1,h2,rfl,h3,h4,rfl⟩
def ti155:TI:=⟨.int .i64,1,8,[.int .i64 0]⟩
theorem tok155:TOk Tryz.prog 155 ti155:=by
 obtain ⟨inf,h1,h2,h3,h4⟩:=info_parts (show (Tryz.prog.info? 155).map (fun i=>(i.zero,i.size,i.bytes))=some (some (.int .i64 0),1,8) from by kernel_rfl)
 exact ⟨Tryz.underlying155,inf,_,h1,h2,rfl,h3,h4,rfl⟩
def ZFa:TI:=⟨.struct #[{ name:= "Kind",type:=155,offset:=0,embedded:=false,tag:= "",pkgPath:= "",byteOffset:=0 },{ name:= "Text",type:=9,offset:=1,embedded:=false,tag:= "",pkgPath:= "",byteOffset:=8 }],2,24,[.int .i64 0,.string ⟨#[]⟩]⟩
theorem tok157:TOk Tryz.prog 157 ZFa:=by
 obtain ⟨inf,h1,h2,h3,h4⟩:=info_parts (show (Tryz.prog.info? 157).map (fun i=>(i.zero,i.size,i.bytes))=some (some (.agg #[.int .i64 0,.string ⟨#[]⟩]),2,24) from by kernel_rfl)
 exact ⟨Tryz.underlying157,inf,_,h1,h2,rfl,h3,h4,rfl⟩
def ti174:TI:=⟨.array 3 3,3,24,[.int .i64 0,.int .i64 0,.int .i64 0]⟩
theorem tok174:TOk Tryz.prog 174 ti174:=by
 obtain ⟨inf,h1,h2,h3,h4⟩:=info_parts (show (Tryz.prog.info? 174).map (fun i=>(i.zero,i.size,i.bytes))=some (some (.agg #[.int .i64 0,.int .i64 0,.int .i64 0]),3,24) from by kernel_rfl)
 exact ⟨Tryz.underlying174,inf,_,h1,h2,rfl,h3,h4,rfl⟩
def ti182:TI:=⟨.array 24 5,24,24,[.int .u8 0,.int .u8 0,.int .u8 0,.int .u8 0,.int .u8 0,.int .u8 0,.int .u8 0,.int .u8 0,.int .u8 0,.int .u8 0,.int .u8 0,.int .u8 0,.int .u8 0,.int .u8 0,.int .u8 0,.int .u8 0,.int .u8 0,.int .u8 0,.int .u8 0,.int .u8 0,.int .u8 0,.int .u8 0,.int .u8 0,.int .u8 0]⟩
theorem tok182:TOk Tryz.prog 182 ti182:=by
 obtain ⟨inf,h1,h2,h3,h4⟩:=info_parts (show (Tryz.prog.info? 182).map (fun i=>(i.zero,i.size,i.bytes))=some (some (.agg #[.int .u8 0,.int .u8 0,.int .u8 0,.int .u8 0,.int .u8 0,.int .u8 0,.int .u8 0,.int .u8 0,.int .u8 0,.int .u8 0,.int .u8 0,.int .u8 0,.int .u8 0,.int .u8 0,.int .u8 0,.int .u8 0,.int .u8 0,.int .u8 0,.int .u8 0,.int .u8 0,.int .u8 0,.int .u8 0,.int .u8 0,.int .u8 0]),24,24) from by kernel_rfl)
 exact ⟨Tryz.underlying182,inf,_,h1,h2,rfl,h3,h4,rfl⟩
def ti183:TI:=⟨.int .u64,1,8,[.int .u64 0]⟩
theorem tok183:TOk Tryz.prog 183 ti183:=by
 obtain ⟨inf,h1,h2,h3,h4⟩:=info_parts (show (Tryz.prog.info? 183).map (fun i=>(i.zero,i.size,i.bytes))=some (some (.int .u64 0),1,8) from by kernel_rfl)
 exact ⟨Tryz.underlying183,inf,_,h1,h2,rfl,h3,h4,rfl⟩
def ti191:TI:=⟨.struct #[{ name:= "Name",type:=9,offset:=0,embedded:=false,tag:= "",pkgPath:= "",byteOffset:=0 },{ name:= "Value",type:=9,offset:=1,embedded:=false,tag:= "",pkgPath:= "",byteOffset:=16 }],2,32,[.string ⟨#[]⟩,.string ⟨#[]⟩]⟩
theorem tok191:TOk Tryz.prog 191 ti191:=by
 obtain ⟨inf,h1,h2,h3,h4⟩:=info_parts (show (Tryz.prog.info? 191).map (fun i=>(i.zero,i.size,i.bytes))=some (some (.agg #[.string ⟨#[]⟩,.string ⟨#[]⟩]),2,32) from by kernel_rfl)
 exact ⟨Tryz.underlying191,inf,_,h1,h2,rfl,h3,h4,rfl⟩
def ti203:TI:=⟨.struct #[{ name:= "e",type:=24,offset:=0,embedded:=false,tag:= "",pkgPath:= "doorstep/ruletext",byteOffset:=0 }],1,8,[.int .i64 0]⟩
theorem tok203:TOk Tryz.prog 203 ti203:=by
 obtain ⟨inf,h1,h2,h3,h4⟩:=info_parts (show (Tryz.prog.info? 203).map (fun i=>(i.zero,i.size,i.bytes))=some (some (.agg #[.int .i64 0]),1,8) from by kernel_rfl)
 exact ⟨Tryz.underlying203,inf,_,h1,h2,rfl,h3,h4,rfl⟩
def ti206:TI:=⟨.struct #[{ name:= "Scanner",type:=53,offset:=0,embedded:=true,tag:= "",pkgPath:= "",byteOffset:=0 },{ name:= "long",type:=4,offset:=1,embedded:=false,tag:= "",pkgPath:= "doorstep/ruletext",byteOffset:=8 }],2,16,[.pointer none,.bool false]⟩
theorem tok206:TOk Tryz.prog 206 ti206:=by
 obtain ⟨inf,h1,h2,h3,h4⟩:=info_parts (show (Tryz.prog.info? 206).map (fun i=>(i.zero,i.size,i.bytes))=some (some (.agg #[.pointer none,.bool false]),2,16) from by kernel_rfl)
 exact ⟨Tryz.underlying206,inf,_,h1,h2,rfl,h3,h4,rfl⟩
def ti210:TI:=⟨.slice 214,1,24,[.slice none 0 0]⟩
theorem tok210:TOk Tryz.prog 210 ti210:=by
 obtain ⟨inf,h1,h2,h3,h4⟩:=info_parts (show (Tryz.prog.info? 210).map (fun i=>(i.zero,i.size,i.bytes))=some (some (.slice none 0 0),1,24) from by kernel_rfl)
 exact ⟨Tryz.underlying210,inf,_,h1,h2,rfl,h3,h4,rfl⟩
def ZNb:TI:=⟨.struct #[{ name:= "Text",type:=9,offset:=0,embedded:=false,tag:= "",pkgPath:= "",byteOffset:=0 },{ name:= "Quoted",type:=4,offset:=1,embedded:=false,tag:= "",pkgPath:= "",byteOffset:=16 }],2,24,[.string ⟨#[]⟩,.bool false]⟩
theorem tok214:TOk Tryz.prog 214 ZNb:=by
 obtain ⟨inf,h1,h2,h3,h4⟩:=info_parts (show (Tryz.prog.info? 214).map (fun i=>(i.zero,i.size,i.bytes))=some (some (.agg #[.string ⟨#[]⟩,.bool false]),2,24) from by kernel_rfl)
 exact ⟨Tryz.underlying214,inf,_,h1,h2,rfl,h3,h4,rfl⟩
def ti221:TI:=⟨.int .u32,1,4,[.int .u32 0]⟩
theorem tok221:TOk Tryz.prog 221 ti221:=by
 obtain ⟨inf,h1,h2,h3,h4⟩:=info_parts (show (Tryz.prog.info? 221).map (fun i=>(i.zero,i.size,i.bytes))=some (some (.int .u32 0),1,4) from by kernel_rfl)
 exact ⟨Tryz.underlying221,inf,_,h1,h2,rfl,h3,h4,rfl⟩
def ti222:TI:=⟨.array 65 5,65,65,[.int .u8 0,.int .u8 0,.int .u8 0,.int .u8 0,.int .u8 0,.int .u8 0,.int .u8 0,.int .u8 0,.int .u8 0,.int .u8 0,.int .u8 0,.int .u8 0,.int .u8 0,.int .u8 0,.int .u8 0,.int .u8 0,.int .u8 0,.int .u8 0,.int .u8 0,.int .u8 0,.int .u8 0,.int .u8 0,.int .u8 0,.int .u8 0,.int .u8 0,.int .u8 0,.int .u8 0,.int .u8 0,.int .u8 0,.int .u8 0,.int .u8 0,.int .u8 0,.int .u8 0,.int .u8 0,.int .u8 0,.int .u8 0,.int .u8 0,.int .u8 0,.int .u8 0,.int .u8 0,.int .u8 0,.int .u8 0,.int .u8 0,.int .u8 0,.int .u8 0,.int .u8 0,.int .u8 0,.int .u8 0,.int .u8 0,.int .u8 0,.int .u8 0,.int .u8 0,.int .u8 0,.int .u8 0,.int .u8 0,.int .u8 0,.int .u8 0,.int .u8 0,.int .u8 0,.int .u8 0,.int .u8 0,.int .u8 0,.int .u8 0,.int .u8 0,.int .u8 0]⟩
theorem tok222:TOk Tryz.prog 222 ti222:=by
 obtain ⟨inf,h1,h2,h3,h4⟩:=info_parts (show (Tryz.prog.info? 222).map (fun i=>(i.zero,i.size,i.bytes))=some (some (.agg #[.int .u8 0,.int .u8 0,.int .u8 0,.int .u8 0,.int .u8 0,.int .u8 0,.int .u8 0,.int .u8 0,.int .u8 0,.int .u8 0,.int .u8 0,.int .u8 0,.int .u8 0,.int .u8 0,.int .u8 0,.int .u8 0,.int .u8 0,.int .u8 0,.int .u8 0,.int .u8 0,.int .u8 0,.int .u8 0,.int .u8 0,.int .u8 0,.int .u8 0,.int .u8 0,.int .u8 0,.int .u8 0,.int .u8 0,.int .u8 0,.int .u8 0,.int .u8 0,.int .u8 0,.int .u8 0,.int .u8 0,.int .u8 0,.int .u8 0,.int .u8 0,.int .u8 0,.int .u8 0,.int .u8 0,.int .u8 0,.int .u8 0,.int .u8 0,.int .u8 0,.int .u8 0,.int .u8 0,.int .u8 0,.int .u8 0,.int .u8 0,.int .u8 0,.int .u8 0,.int .u8 0,.int .u8 0,.int .u8 0,.int .u8 0,.int .u8 0,.int .u8 0,.int .u8 0,.int .u8 0,.int .u8 0,.int .u8 0,.int .u8 0,.int .u8 0,.int .u8 0]),65,65) from by kernel_rfl)
 exact ⟨Tryz.underlying222,inf,_,h1,h2,rfl,h3,h4,rfl⟩
def ti234:TI:=⟨.struct #[{ name:= "Scanner",type:=53,offset:=0,embedded:=true,tag:= "",pkgPath:= "",byteOffset:=0 },{ name:= "out",type:=76,offset:=1,embedded:=false,tag:= "",pkgPath:= "doorstep/tmpl",byteOffset:=8 }],2,32,[.pointer none,.slice none 0 0]⟩
theorem tok234:TOk Tryz.prog 234 ti234:=by
 obtain ⟨inf,h1,h2,h3,h4⟩:=info_parts (show (Tryz.prog.info? 234).map (fun i=>(i.zero,i.size,i.bytes))=some (some (.agg #[.pointer none,.slice none 0 0]),2,32) from by kernel_rfl)
 exact ⟨Tryz.underlying234,inf,_,h1,h2,rfl,h3,h4,rfl⟩
def ti290:TI:=⟨.struct #[{ name:= "Scanner",type:=53,offset:=0,embedded:=true,tag:= "",pkgPath:= "",byteOffset:=0 },{ name:= "out",type:=50,offset:=1,embedded:=false,tag:= "",pkgPath:= "doorstep/quoted",byteOffset:=8 }],2,32,[.pointer none,.slice none 0 0]⟩
theorem tok290:TOk Tryz.prog 290 ti290:=by
 obtain ⟨inf,h1,h2,h3,h4⟩:=info_parts (show (Tryz.prog.info? 290).map (fun i=>(i.zero,i.size,i.bytes))=some (some (.agg #[.pointer none,.slice none 0 0]),2,32) from by kernel_rfl)
 exact ⟨Tryz.underlying290,inf,_,h1,h2,rfl,h3,h4,rfl⟩
def T:Tab:=findT [(2,ti2),(3,ti3),(4,ti4),(5,ti5),(9,ti9),(24,ti24),(30,ti30),(32,ti32),(34,ti34),(35,ti35),(36,ti36),(38,ti38),(47,ti47),(50,ti50),(52,ti52),(53,ti53),(56,ti56),(61,ti61),(64,ti64),(68,ti68),(71,ti71),(72,ti72),(74,ti74),(75,ti75),(76,ti76),(78,ti78),(86,ti86),(88,ti88),(90,ti90),(92,ti92),(97,ti97),(104,ti104),(108,ti108),(113,ti113),(121,ti121),(135,ti135),(155,ti155),(157,ZFa),(174,ti174),(182,ti182),(183,ti183),(191,ti191),(203,ti203),(206,ti206),(210,ti210),(214,ZNb),(221,ti221),(222,ti222),(234,ti234),(290,ti290)]
theorem T_ok:T.Ok Tryz.prog:=findT_ok (.cons tok2 (.cons tok3 (.cons tok4 (.cons tok5 (.cons tok9 (.cons tok24 (.cons tok30 (.cons tok32 (.cons tok34 (.cons tok35 (.cons tok36 (.cons tok38 (.cons tok47 (.cons tok50 (.cons tok52 (.cons tok53 (.cons tok56 (.cons tok61 (.cons tok64 (.cons tok68 (.cons tok71 (.cons tok72 (.cons tok74 (.cons tok75 (.cons tok76 (.cons tok78 (.cons tok86 (.cons tok88 (.cons tok90 (.cons tok92 (.cons tok97 (.cons tok104 (.cons tok108 (.cons tok113 (.cons tok121 (.cons tok135 (.cons tok155 (.cons tok157 (.cons tok174 (.cons tok182 (.cons tok183 (.cons tok191 (.cons tok203 (.cons tok206 (.cons tok210 (.cons tok214 (.cons tok221 (.cons tok222 (.cons tok234 (.cons tok290 (.nil)))))))))))))))))))))))))))))))))))))))))))))))))))
end Go.Proofs.YticbonkojpabnaaGreatDoor
