/-
  NARROWER THAN 'FOR EVERY INPUT', by the rows' own cells (each row's printed sentence says how): ChunkLasts: laid · EnchunkPlays: laid · EnchunkNone: laid · ReframePlays: laid · ReframeOut: laid · DechunkBack: laid · DechunkNone: laid · BodyLengths: laid · BodyPlays: laid · BodyNone: laid.
  DERIVED. THE GIVEN ROWS OF THIS SEAT. 10 by the template 'for every input the law returns true; each argument reads behind the call as it read before'; 0 by the template 'total and deterministic' (their statements: YthcjiflmhjagiaaDoorTotals.lean).
  GIVEN WITH THE SEED: the statements are not yours to turn. If you find one false, say at which input.
  Laid BY PROGRAM, IN A SANDBOX (cutbox-rows.mjs): the forced cells as the released guide's own fill.sh prints them over the translation 63e0d0878dccd26e… (all of the seat's roots in one cut). By AI agents, Wed Nov 11 2026. No macro, syntax, notation, axiom, sorry.
-/
import Derived.Test.YthcjiflmhjagiaaDoorChecked
import GoSem.PinnedTables
import GoSem.Claim
import GoSem.ClaimJoined
import GoSem.ClaimMapViews
import Derived.JoinedTies
import Derived.KernelRfl
namespace Go.Proofs.YthcjiflmhjagiaaDoor
/- THE CELL 'sum', in the pinned program and in every row, IS THE sha256 OF THE DUMP (.gsa) THAT YthcjiflmhjagiaaDoorProg.lean LOADS. Nothing in Lean hashes anything: it is a label: what it is worth is what the hold of that sum in a sandbox is worth. -/
noncomputable def Tryd.pinned : Pinned := { name := "ythcjiflmhjagiaadoor", sum := "63e0d0878dccd26ec17f23a8b2a7b915245b18d6754605832bbc7760032aae71", checked := Tryd.checked }
namespace Rows
def none {H : Type} : Left H := { results := [], args := [] }

/- WHAT THE LISTED PACKAGE-LEVEL VARIABLES READ AS WHEN THE CALL BEGINS. Each datum BY PROGRAM (the guide's laid-datum.mjs) off the statement by which the dump's own 'gosem.cut.vars' lays the variable. In a bare row this is a premise. The card (YthcjiflmhjagiaaDoorCards.lean) ties it to the program's text. -/
def laid_math_bits_deBruijn32tab {H : Type} : DataW H := .agg [.lit (.int .u8 0), .lit (.int .u8 1), .lit (.int .u8 28), .lit (.int .u8 2), .lit (.int .u8 29), .lit (.int .u8 14), .lit (.int .u8 24), .lit (.int .u8 3), .lit (.int .u8 30), .lit (.int .u8 22), .lit (.int .u8 20), .lit (.int .u8 15), .lit (.int .u8 25), .lit (.int .u8 17), .lit (.int .u8 4), .lit (.int .u8 8), .lit (.int .u8 31), .lit (.int .u8 27), .lit (.int .u8 13), .lit (.int .u8 23), .lit (.int .u8 21), .lit (.int .u8 19), .lit (.int .u8 16), .lit (.int .u8 7), .lit (.int .u8 26), .lit (.int .u8 12), .lit (.int .u8 18), .lit (.int .u8 6), .lit (.int .u8 11), .lit (.int .u8 5), .lit (.int .u8 10), .lit (.int .u8 9)]
def laid_math_bits_deBruijn64tab {H : Type} : DataW H := .agg [.lit (.int .u8 0), .lit (.int .u8 1), .lit (.int .u8 56), .lit (.int .u8 2), .lit (.int .u8 57), .lit (.int .u8 49), .lit (.int .u8 28), .lit (.int .u8 3), .lit (.int .u8 61), .lit (.int .u8 58), .lit (.int .u8 42), .lit (.int .u8 50), .lit (.int .u8 38), .lit (.int .u8 29), .lit (.int .u8 17), .lit (.int .u8 4), .lit (.int .u8 62), .lit (.int .u8 47), .lit (.int .u8 59), .lit (.int .u8 36), .lit (.int .u8 45), .lit (.int .u8 43), .lit (.int .u8 51), .lit (.int .u8 22), .lit (.int .u8 53), .lit (.int .u8 39), .lit (.int .u8 33), .lit (.int .u8 30), .lit (.int .u8 24), .lit (.int .u8 18), .lit (.int .u8 12), .lit (.int .u8 5), .lit (.int .u8 63), .lit (.int .u8 55), .lit (.int .u8 48), .lit (.int .u8 27), .lit (.int .u8 60), .lit (.int .u8 41), .lit (.int .u8 37), .lit (.int .u8 16), .lit (.int .u8 46), .lit (.int .u8 35), .lit (.int .u8 44), .lit (.int .u8 21), .lit (.int .u8 52), .lit (.int .u8 32), .lit (.int .u8 23), .lit (.int .u8 11), .lit (.int .u8 54), .lit (.int .u8 26), .lit (.int .u8 40), .lit (.int .u8 15), .lit (.int .u8 34), .lit (.int .u8 20), .lit (.int .u8 31), .lit (.int .u8 10), .lit (.int .u8 25), .lit (.int .u8 14), .lit (.int .u8 19), .lit (.int .u8 9), .lit (.int .u8 13), .lit (.int .u8 8), .lit (.int .u8 7), .lit (.int .u8 6)]
def laid_internal_strconv_uint64pow10 {H : Type} : DataW H := .agg [.lit (.int .u64 1), .lit (.int .u64 10), .lit (.int .u64 100), .lit (.int .u64 1000), .lit (.int .u64 10000), .lit (.int .u64 100000), .lit (.int .u64 1000000), .lit (.int .u64 10000000), .lit (.int .u64 100000000), .lit (.int .u64 1000000000), .lit (.int .u64 10000000000), .lit (.int .u64 100000000000), .lit (.int .u64 1000000000000), .lit (.int .u64 10000000000000), .lit (.int .u64 100000000000000), .lit (.int .u64 1000000000000000), .lit (.int .u64 10000000000000000), .lit (.int .u64 100000000000000000), .lit (.int .u64 1000000000000000000), .lit (.int .u64 10000000000000000000)]
def laid_unicode_utf8_acceptRanges {H : Type} : DataW H := .agg [.agg [.lit (.int .u8 128), .lit (.int .u8 191)], .agg [.lit (.int .u8 160), .lit (.int .u8 191)], .agg [.lit (.int .u8 128), .lit (.int .u8 159)], .agg [.lit (.int .u8 144), .lit (.int .u8 191)], .agg [.lit (.int .u8 128), .lit (.int .u8 143)], .agg [.lit (.int .u8 0), .lit (.int .u8 0)], .agg [.lit (.int .u8 0), .lit (.int .u8 0)], .agg [.lit (.int .u8 0), .lit (.int .u8 0)], .agg [.lit (.int .u8 0), .lit (.int .u8 0)], .agg [.lit (.int .u8 0), .lit (.int .u8 0)], .agg [.lit (.int .u8 0), .lit (.int .u8 0)], .agg [.lit (.int .u8 0), .lit (.int .u8 0)], .agg [.lit (.int .u8 0), .lit (.int .u8 0)], .agg [.lit (.int .u8 0), .lit (.int .u8 0)], .agg [.lit (.int .u8 0), .lit (.int .u8 0)], .agg [.lit (.int .u8 0), .lit (.int .u8 0)]]
/-- One of Go's own tables, pinned by name: the form's constant. -/
def laid_unicode_utf8_first : DataW Unit := Go.Pinned.utf8First

/-- 'doorsteplaw18.ChunkLasts': WHATEVER THE INPUT: true; the input reads as it did. -/
def chunkLastsSpec : ChangeSpec := { name := "chunkLasts", fn := fun _ => fun
  | [d] => { results := [.lit (.bool true)], args := [d] }
  | _ => none }
def chunkLastsRow : OpenClaim := { program := "ythcjiflmhjagiaadoor", sum := "63e0d0878dccd26ec17f23a8b2a7b915245b18d6754605832bbc7760032aae71", func := "doorstep/doorsteplaw18.ChunkLasts", spec := "chunkLasts", inPlace := ["internal/bytealg.IndexByteString", "internal/abi.NoEscape", "internal/bytealg.MakeNoZero", "internal/bytealg.IndexString"], unfollowed := true, recurses := true, named := ["internal/strconv.uint64pow10", "math/bits.deBruijn32tab", "math/bits.deBruijn64tab", "unicode/utf8.first", "unicode/utf8.acceptRanges", "internal/bytealg.MaxLen"], apart := false, laid := [("math/bits.deBruijn32tab", laid_math_bits_deBruijn32tab), ("math/bits.deBruijn64tab", laid_math_bits_deBruijn64tab), ("internal/strconv.uint64pow10", laid_internal_strconv_uint64pow10), ("unicode/utf8.acceptRanges", laid_unicode_utf8_acceptRanges), ("unicode/utf8.first", laid_unicode_utf8_first)] }
def ChunkLastsSaid : Prop := chunkLastsRow.holds Tryd.pinned (OpenSpec.ofChange chunkLastsSpec)

/-- ITS FALSE NEIGHBOUR: 'it returns false'. Refute it at one input. -/
def chunkLastsWrong : ChangeSpec := { name := "chunkLasts", fn := fun _ => fun
  | [d] => { results := [.lit (.bool false)], args := [d] }
  | _ => none }
def ChunkLastsWrongFalsely : Prop := chunkLastsRow.holds Tryd.pinned (OpenSpec.ofChange chunkLastsWrong)

/-- 'doorsteplaw20.EnchunkPlays': WHATEVER THE INPUT: true; the input reads as it did. -/
def enchunkPlaysSpec : ChangeSpec := { name := "enchunkPlays", fn := fun _ => fun
  | [d1, d2, d3] => { results := [.lit (.bool true)], args := [d1, d2, d3] }
  | _ => none }
def enchunkPlaysRow : OpenClaim := { program := "ythcjiflmhjagiaadoor", sum := "63e0d0878dccd26ec17f23a8b2a7b915245b18d6754605832bbc7760032aae71", func := "doorstep/doorsteplaw20.EnchunkPlays", spec := "enchunkPlays", inPlace := ["internal/abi.NoEscape", "internal/bytealg.MakeNoZero", "internal/bytealg.IndexByteString", "internal/bytealg.IndexString"], unfollowed := true, recurses := true, named := ["internal/strconv.uint64pow10", "math/bits.deBruijn32tab", "math/bits.deBruijn64tab", "unicode/utf8.first", "unicode/utf8.acceptRanges", "internal/bytealg.MaxLen"], apart := false, laid := [("math/bits.deBruijn32tab", laid_math_bits_deBruijn32tab), ("math/bits.deBruijn64tab", laid_math_bits_deBruijn64tab), ("internal/strconv.uint64pow10", laid_internal_strconv_uint64pow10), ("unicode/utf8.acceptRanges", laid_unicode_utf8_acceptRanges), ("unicode/utf8.first", laid_unicode_utf8_first)] }
def EnchunkPlaysSaid : Prop := enchunkPlaysRow.holds Tryd.pinned (OpenSpec.ofChange enchunkPlaysSpec)

/-- ITS FALSE NEIGHBOUR: 'it returns false'. Refute it at one input. -/
def enchunkPlaysWrong : ChangeSpec := { name := "enchunkPlays", fn := fun _ => fun
  | [d1, d2, d3] => { results := [.lit (.bool false)], args := [d1, d2, d3] }
  | _ => none }
def EnchunkPlaysWrongFalsely : Prop := enchunkPlaysRow.holds Tryd.pinned (OpenSpec.ofChange enchunkPlaysWrong)

/-- 'doorsteplaw20.EnchunkNone': WHATEVER THE INPUT: true; the input reads as it did. -/
def enchunkNoneSpec : ChangeSpec := { name := "enchunkNone", fn := fun _ => fun
  | [d1, d2, d3] => { results := [.lit (.bool true)], args := [d1, d2, d3] }
  | _ => none }
def enchunkNoneRow : OpenClaim := { program := "ythcjiflmhjagiaadoor", sum := "63e0d0878dccd26ec17f23a8b2a7b915245b18d6754605832bbc7760032aae71", func := "doorstep/doorsteplaw20.EnchunkNone", spec := "enchunkNone", inPlace := ["internal/abi.NoEscape", "internal/bytealg.MakeNoZero", "internal/bytealg.IndexByteString", "internal/bytealg.IndexString"], unfollowed := true, recurses := true, named := ["internal/strconv.uint64pow10", "math/bits.deBruijn32tab", "math/bits.deBruijn64tab", "unicode/utf8.first", "unicode/utf8.acceptRanges", "internal/bytealg.MaxLen"], apart := false, laid := [("math/bits.deBruijn32tab", laid_math_bits_deBruijn32tab), ("math/bits.deBruijn64tab", laid_math_bits_deBruijn64tab), ("internal/strconv.uint64pow10", laid_internal_strconv_uint64pow10), ("unicode/utf8.acceptRanges", laid_unicode_utf8_acceptRanges), ("unicode/utf8.first", laid_unicode_utf8_first)] }
def EnchunkNoneSaid : Prop := enchunkNoneRow.holds Tryd.pinned (OpenSpec.ofChange enchunkNoneSpec)

/-- ITS FALSE NEIGHBOUR: 'it returns false'. Refute it at one input. -/
def enchunkNoneWrong : ChangeSpec := { name := "enchunkNone", fn := fun _ => fun
  | [d1, d2, d3] => { results := [.lit (.bool false)], args := [d1, d2, d3] }
  | _ => none }
def EnchunkNoneWrongFalsely : Prop := enchunkNoneRow.holds Tryd.pinned (OpenSpec.ofChange enchunkNoneWrong)

/-- 'doorsteplaw42.ReframePlays': WHATEVER THE INPUT: true; the input reads as it did. -/
def reframePlaysSpec : ChangeSpec := { name := "reframePlays", fn := fun _ => fun
  | [d1, d2, d3] => { results := [.lit (.bool true)], args := [d1, d2, d3] }
  | _ => none }
def reframePlaysRow : OpenClaim := { program := "ythcjiflmhjagiaadoor", sum := "63e0d0878dccd26ec17f23a8b2a7b915245b18d6754605832bbc7760032aae71", func := "doorstep/doorsteplaw42.ReframePlays", spec := "reframePlays", inPlace := ["internal/abi.NoEscape", "internal/bytealg.MakeNoZero", "internal/bytealg.IndexByteString", "internal/bytealg.IndexString"], unfollowed := true, recurses := true, named := ["internal/strconv.uint64pow10", "math/bits.deBruijn32tab", "math/bits.deBruijn64tab", "unicode/utf8.first", "unicode/utf8.acceptRanges", "internal/bytealg.MaxLen"], apart := false, laid := [("math/bits.deBruijn32tab", laid_math_bits_deBruijn32tab), ("math/bits.deBruijn64tab", laid_math_bits_deBruijn64tab), ("internal/strconv.uint64pow10", laid_internal_strconv_uint64pow10), ("unicode/utf8.acceptRanges", laid_unicode_utf8_acceptRanges), ("unicode/utf8.first", laid_unicode_utf8_first)] }
def ReframePlaysSaid : Prop := reframePlaysRow.holds Tryd.pinned (OpenSpec.ofChange reframePlaysSpec)

/-- ITS FALSE NEIGHBOUR: 'it returns false'. Refute it at one input. -/
def reframePlaysWrong : ChangeSpec := { name := "reframePlays", fn := fun _ => fun
  | [d1, d2, d3] => { results := [.lit (.bool false)], args := [d1, d2, d3] }
  | _ => none }
def ReframePlaysWrongFalsely : Prop := reframePlaysRow.holds Tryd.pinned (OpenSpec.ofChange reframePlaysWrong)

/-- 'doorsteplaw42.ReframeOut': WHATEVER THE INPUT: true; the input reads as it did. -/
def reframeOutSpec : ChangeSpec := { name := "reframeOut", fn := fun _ => fun
  | [d1, d2, d3] => { results := [.lit (.bool true)], args := [d1, d2, d3] }
  | _ => none }
def reframeOutRow : OpenClaim := { program := "ythcjiflmhjagiaadoor", sum := "63e0d0878dccd26ec17f23a8b2a7b915245b18d6754605832bbc7760032aae71", func := "doorstep/doorsteplaw42.ReframeOut", spec := "reframeOut", inPlace := ["internal/abi.NoEscape", "internal/bytealg.MakeNoZero", "internal/bytealg.IndexByteString", "internal/bytealg.IndexString"], unfollowed := true, recurses := true, named := ["internal/strconv.uint64pow10", "math/bits.deBruijn32tab", "math/bits.deBruijn64tab", "unicode/utf8.first", "unicode/utf8.acceptRanges", "internal/bytealg.MaxLen"], apart := false, laid := [("math/bits.deBruijn32tab", laid_math_bits_deBruijn32tab), ("math/bits.deBruijn64tab", laid_math_bits_deBruijn64tab), ("internal/strconv.uint64pow10", laid_internal_strconv_uint64pow10), ("unicode/utf8.acceptRanges", laid_unicode_utf8_acceptRanges), ("unicode/utf8.first", laid_unicode_utf8_first)] }
def ReframeOutSaid : Prop := reframeOutRow.holds Tryd.pinned (OpenSpec.ofChange reframeOutSpec)

/-- ITS FALSE NEIGHBOUR: 'it returns false'. Refute it at one input. -/
def reframeOutWrong : ChangeSpec := { name := "reframeOut", fn := fun _ => fun
  | [d1, d2, d3] => { results := [.lit (.bool false)], args := [d1, d2, d3] }
  | _ => none }
def ReframeOutWrongFalsely : Prop := reframeOutRow.holds Tryd.pinned (OpenSpec.ofChange reframeOutWrong)

/-- 'doorsteplaw19.DechunkBack': WHATEVER THE INPUT: true; the input reads as it did. -/
def dechunkBackSpec : ChangeSpec := { name := "dechunkBack", fn := fun _ => fun
  | [d1, d2, d3] => { results := [.lit (.bool true)], args := [d1, d2, d3] }
  | _ => none }
def dechunkBackRow : OpenClaim := { program := "ythcjiflmhjagiaadoor", sum := "63e0d0878dccd26ec17f23a8b2a7b915245b18d6754605832bbc7760032aae71", func := "doorstep/doorsteplaw19.DechunkBack", spec := "dechunkBack", inPlace := ["internal/bytealg.IndexByteString", "internal/bytealg.IndexString"], unfollowed := true, recurses := true, named := ["unicode/utf8.first", "unicode/utf8.acceptRanges", "internal/bytealg.MaxLen"], apart := false, laid := [("unicode/utf8.acceptRanges", laid_unicode_utf8_acceptRanges), ("unicode/utf8.first", laid_unicode_utf8_first)] }
def DechunkBackSaid : Prop := dechunkBackRow.holds Tryd.pinned (OpenSpec.ofChange dechunkBackSpec)

/-- ITS FALSE NEIGHBOUR: 'it returns false'. Refute it at one input. -/
def dechunkBackWrong : ChangeSpec := { name := "dechunkBack", fn := fun _ => fun
  | [d1, d2, d3] => { results := [.lit (.bool false)], args := [d1, d2, d3] }
  | _ => none }
def DechunkBackWrongFalsely : Prop := dechunkBackRow.holds Tryd.pinned (OpenSpec.ofChange dechunkBackWrong)

/-- 'doorsteplaw19.DechunkNone': WHATEVER THE INPUT: true; the input reads as it did. -/
def dechunkNoneSpec : ChangeSpec := { name := "dechunkNone", fn := fun _ => fun
  | [d1, d2] => { results := [.lit (.bool true)], args := [d1, d2] }
  | _ => none }
def dechunkNoneRow : OpenClaim := { program := "ythcjiflmhjagiaadoor", sum := "63e0d0878dccd26ec17f23a8b2a7b915245b18d6754605832bbc7760032aae71", func := "doorstep/doorsteplaw19.DechunkNone", spec := "dechunkNone", inPlace := ["internal/bytealg.IndexByteString", "internal/bytealg.IndexString"], unfollowed := true, recurses := true, named := ["unicode/utf8.first", "unicode/utf8.acceptRanges", "internal/bytealg.MaxLen"], apart := false, laid := [("unicode/utf8.acceptRanges", laid_unicode_utf8_acceptRanges), ("unicode/utf8.first", laid_unicode_utf8_first)] }
def DechunkNoneSaid : Prop := dechunkNoneRow.holds Tryd.pinned (OpenSpec.ofChange dechunkNoneSpec)

/-- ITS FALSE NEIGHBOUR: 'it returns false'. Refute it at one input. -/
def dechunkNoneWrong : ChangeSpec := { name := "dechunkNone", fn := fun _ => fun
  | [d1, d2] => { results := [.lit (.bool false)], args := [d1, d2] }
  | _ => none }
def DechunkNoneWrongFalsely : Prop := dechunkNoneRow.holds Tryd.pinned (OpenSpec.ofChange dechunkNoneWrong)

/-- 'doorsteplaw21.BodyLengths': WHATEVER THE INPUT: true; the input reads as it did. -/
def bodyLengthsSpec : ChangeSpec := { name := "bodyLengths", fn := fun _ => fun
  | [d1, d2, d3] => { results := [.lit (.bool true)], args := [d1, d2, d3] }
  | _ => none }
def bodyLengthsRow : OpenClaim := { program := "ythcjiflmhjagiaadoor", sum := "63e0d0878dccd26ec17f23a8b2a7b915245b18d6754605832bbc7760032aae71", func := "doorstep/doorsteplaw21.BodyLengths", spec := "bodyLengths", inPlace := ["internal/bytealg.IndexByteString", "internal/bytealg.IndexString"], unfollowed := true, recurses := true, named := ["unicode/utf8.first", "unicode/utf8.acceptRanges", "internal/bytealg.MaxLen"], apart := false, laid := [("unicode/utf8.acceptRanges", laid_unicode_utf8_acceptRanges), ("unicode/utf8.first", laid_unicode_utf8_first)] }
def BodyLengthsSaid : Prop := bodyLengthsRow.holds Tryd.pinned (OpenSpec.ofChange bodyLengthsSpec)

/-- ITS FALSE NEIGHBOUR: 'it returns false'. Refute it at one input. -/
def bodyLengthsWrong : ChangeSpec := { name := "bodyLengths", fn := fun _ => fun
  | [d1, d2, d3] => { results := [.lit (.bool false)], args := [d1, d2, d3] }
  | _ => none }
def BodyLengthsWrongFalsely : Prop := bodyLengthsRow.holds Tryd.pinned (OpenSpec.ofChange bodyLengthsWrong)

/-- 'doorsteplaw21.BodyPlays': WHATEVER THE INPUT: true; the input reads as it did. -/
def bodyPlaysSpec : ChangeSpec := { name := "bodyPlays", fn := fun _ => fun
  | [d1, d2, d3] => { results := [.lit (.bool true)], args := [d1, d2, d3] }
  | _ => none }
def bodyPlaysRow : OpenClaim := { program := "ythcjiflmhjagiaadoor", sum := "63e0d0878dccd26ec17f23a8b2a7b915245b18d6754605832bbc7760032aae71", func := "doorstep/doorsteplaw21.BodyPlays", spec := "bodyPlays", inPlace := ["internal/bytealg.IndexByteString", "internal/bytealg.IndexString"], unfollowed := true, recurses := true, named := ["unicode/utf8.first", "unicode/utf8.acceptRanges", "internal/bytealg.MaxLen"], apart := false, laid := [("unicode/utf8.acceptRanges", laid_unicode_utf8_acceptRanges), ("unicode/utf8.first", laid_unicode_utf8_first)] }
def BodyPlaysSaid : Prop := bodyPlaysRow.holds Tryd.pinned (OpenSpec.ofChange bodyPlaysSpec)

/-- ITS FALSE NEIGHBOUR: 'it returns false'. Refute it at one input. -/
def bodyPlaysWrong : ChangeSpec := { name := "bodyPlays", fn := fun _ => fun
  | [d1, d2, d3] => { results := [.lit (.bool false)], args := [d1, d2, d3] }
  | _ => none }
def BodyPlaysWrongFalsely : Prop := bodyPlaysRow.holds Tryd.pinned (OpenSpec.ofChange bodyPlaysWrong)

/-- 'doorsteplaw21.BodyNone': WHATEVER THE INPUT: true; the input reads as it did. -/
def bodyNoneSpec : ChangeSpec := { name := "bodyNone", fn := fun _ => fun
  | [d1, d2, d3] => { results := [.lit (.bool true)], args := [d1, d2, d3] }
  | _ => none }
def bodyNoneRow : OpenClaim := { program := "ythcjiflmhjagiaadoor", sum := "63e0d0878dccd26ec17f23a8b2a7b915245b18d6754605832bbc7760032aae71", func := "doorstep/doorsteplaw21.BodyNone", spec := "bodyNone", inPlace := ["internal/bytealg.IndexByteString", "internal/bytealg.IndexString"], unfollowed := true, recurses := true, named := ["unicode/utf8.first", "unicode/utf8.acceptRanges", "internal/bytealg.MaxLen"], apart := false, laid := [("unicode/utf8.acceptRanges", laid_unicode_utf8_acceptRanges), ("unicode/utf8.first", laid_unicode_utf8_first)] }
def BodyNoneSaid : Prop := bodyNoneRow.holds Tryd.pinned (OpenSpec.ofChange bodyNoneSpec)

/-- ITS FALSE NEIGHBOUR: 'it returns false'. Refute it at one input. -/
def bodyNoneWrong : ChangeSpec := { name := "bodyNone", fn := fun _ => fun
  | [d1, d2, d3] => { results := [.lit (.bool false)], args := [d1, d2, d3] }
  | _ => none }
def BodyNoneWrongFalsely : Prop := bodyNoneRow.holds Tryd.pinned (OpenSpec.ofChange bodyNoneWrong)

/- THE SECOND FORM. 'bulk': how many values and letters a reading holds, each counted each time it is reached (what is shared counts as often as it is met; a slice's spare places count too). A statement '..UptoSaid' is the law's where the arguments, and the package variables that the reading takes, are together of bulk at most 1048576: NARROWER than '..Said'. Prove '..Said' where nothing that the law and all that it calls make is longer than what came in: it says more and counts as full. Else prove '..UptoSaid'. A law counts once. -/
mutual
def uptoBulk {H : Type} : DataW H → Nat
  | .lit (.string bytes) => bytes.length + 1
  | .lit _ => 1
  | .nil => 1
  | .ptr d => uptoBulk d + 1
  | .slice elems spare => uptoBulkAll elems + uptoBulkAll spare + 1
  | .agg parts => uptoBulkAll parts + 1
  | .iface _ d => uptoBulk d + 1
  | .map entries => uptoBulkEntries entries + 1
  | .held _ => 1
def uptoBulkAll {H : Type} : List (DataW H) → Nat
  | [] => 0
  | d :: r => uptoBulk d + uptoBulkAll r
def uptoBulkEntries {H : Type} : List (Lit × DataW H) → Nat
  | [] => 0
  | x :: r => uptoBulkEntry x + uptoBulkEntries r
def uptoBulkEntry {H : Type} : Lit × DataW H → Nat
  | (.string bytes, d) => bytes.length + uptoBulk d + 1
  | (_, d) => uptoBulk d + 1
 end
def uptoSmall : (H : Type) → List (DataW H) → Bool := fun _ ds => decide (uptoBulkAll ds ≤ 1048576)
def OpenSpec.upto (s : _root_.Go.ChangeSpec) : _root_.Go.OpenSpec := { _root_.Go.OpenSpec.ofChange s with cond := some uptoSmall }

/-- 'doorsteplaw18.ChunkLasts', WHERE WHAT IT READS IS OF BULK AT MOST 1048576: true; the input reads as it did. -/
def chunkLastsUptoRow : OpenClaim := { program := "ythcjiflmhjagiaadoor", sum := "63e0d0878dccd26ec17f23a8b2a7b915245b18d6754605832bbc7760032aae71", func := "doorstep/doorsteplaw18.ChunkLasts", spec := "chunkLasts", inPlace := ["internal/bytealg.IndexByteString", "internal/abi.NoEscape", "internal/bytealg.MakeNoZero", "internal/bytealg.IndexString"], unfollowed := true, recurses := true, named := ["internal/strconv.uint64pow10", "math/bits.deBruijn32tab", "math/bits.deBruijn64tab", "unicode/utf8.first", "unicode/utf8.acceptRanges", "internal/bytealg.MaxLen"], apart := false, laid := [("math/bits.deBruijn32tab", laid_math_bits_deBruijn32tab), ("math/bits.deBruijn64tab", laid_math_bits_deBruijn64tab), ("internal/strconv.uint64pow10", laid_internal_strconv_uint64pow10), ("unicode/utf8.acceptRanges", laid_unicode_utf8_acceptRanges), ("unicode/utf8.first", laid_unicode_utf8_first)], narrowed := true }
def ChunkLastsUptoSaid : Prop := chunkLastsUptoRow.holds Tryd.pinned (OpenSpec.upto chunkLastsSpec)

/-- 'doorsteplaw20.EnchunkPlays', WHERE WHAT IT READS IS OF BULK AT MOST 1048576: true; the input reads as it did. -/
def enchunkPlaysUptoRow : OpenClaim := { program := "ythcjiflmhjagiaadoor", sum := "63e0d0878dccd26ec17f23a8b2a7b915245b18d6754605832bbc7760032aae71", func := "doorstep/doorsteplaw20.EnchunkPlays", spec := "enchunkPlays", inPlace := ["internal/abi.NoEscape", "internal/bytealg.MakeNoZero", "internal/bytealg.IndexByteString", "internal/bytealg.IndexString"], unfollowed := true, recurses := true, named := ["internal/strconv.uint64pow10", "math/bits.deBruijn32tab", "math/bits.deBruijn64tab", "unicode/utf8.first", "unicode/utf8.acceptRanges", "internal/bytealg.MaxLen"], apart := false, laid := [("math/bits.deBruijn32tab", laid_math_bits_deBruijn32tab), ("math/bits.deBruijn64tab", laid_math_bits_deBruijn64tab), ("internal/strconv.uint64pow10", laid_internal_strconv_uint64pow10), ("unicode/utf8.acceptRanges", laid_unicode_utf8_acceptRanges), ("unicode/utf8.first", laid_unicode_utf8_first)], narrowed := true }
def EnchunkPlaysUptoSaid : Prop := enchunkPlaysUptoRow.holds Tryd.pinned (OpenSpec.upto enchunkPlaysSpec)

/-- 'doorsteplaw20.EnchunkNone', WHERE WHAT IT READS IS OF BULK AT MOST 1048576: true; the input reads as it did. -/
def enchunkNoneUptoRow : OpenClaim := { program := "ythcjiflmhjagiaadoor", sum := "63e0d0878dccd26ec17f23a8b2a7b915245b18d6754605832bbc7760032aae71", func := "doorstep/doorsteplaw20.EnchunkNone", spec := "enchunkNone", inPlace := ["internal/abi.NoEscape", "internal/bytealg.MakeNoZero", "internal/bytealg.IndexByteString", "internal/bytealg.IndexString"], unfollowed := true, recurses := true, named := ["internal/strconv.uint64pow10", "math/bits.deBruijn32tab", "math/bits.deBruijn64tab", "unicode/utf8.first", "unicode/utf8.acceptRanges", "internal/bytealg.MaxLen"], apart := false, laid := [("math/bits.deBruijn32tab", laid_math_bits_deBruijn32tab), ("math/bits.deBruijn64tab", laid_math_bits_deBruijn64tab), ("internal/strconv.uint64pow10", laid_internal_strconv_uint64pow10), ("unicode/utf8.acceptRanges", laid_unicode_utf8_acceptRanges), ("unicode/utf8.first", laid_unicode_utf8_first)], narrowed := true }
def EnchunkNoneUptoSaid : Prop := enchunkNoneUptoRow.holds Tryd.pinned (OpenSpec.upto enchunkNoneSpec)

/-- 'doorsteplaw42.ReframePlays', WHERE WHAT IT READS IS OF BULK AT MOST 1048576: true; the input reads as it did. -/
def reframePlaysUptoRow : OpenClaim := { program := "ythcjiflmhjagiaadoor", sum := "63e0d0878dccd26ec17f23a8b2a7b915245b18d6754605832bbc7760032aae71", func := "doorstep/doorsteplaw42.ReframePlays", spec := "reframePlays", inPlace := ["internal/abi.NoEscape", "internal/bytealg.MakeNoZero", "internal/bytealg.IndexByteString", "internal/bytealg.IndexString"], unfollowed := true, recurses := true, named := ["internal/strconv.uint64pow10", "math/bits.deBruijn32tab", "math/bits.deBruijn64tab", "unicode/utf8.first", "unicode/utf8.acceptRanges", "internal/bytealg.MaxLen"], apart := false, laid := [("math/bits.deBruijn32tab", laid_math_bits_deBruijn32tab), ("math/bits.deBruijn64tab", laid_math_bits_deBruijn64tab), ("internal/strconv.uint64pow10", laid_internal_strconv_uint64pow10), ("unicode/utf8.acceptRanges", laid_unicode_utf8_acceptRanges), ("unicode/utf8.first", laid_unicode_utf8_first)], narrowed := true }
def ReframePlaysUptoSaid : Prop := reframePlaysUptoRow.holds Tryd.pinned (OpenSpec.upto reframePlaysSpec)

/-- 'doorsteplaw42.ReframeOut', WHERE WHAT IT READS IS OF BULK AT MOST 1048576: true; the input reads as it did. -/
def reframeOutUptoRow : OpenClaim := { program := "ythcjiflmhjagiaadoor", sum := "63e0d0878dccd26ec17f23a8b2a7b915245b18d6754605832bbc7760032aae71", func := "doorstep/doorsteplaw42.ReframeOut", spec := "reframeOut", inPlace := ["internal/abi.NoEscape", "internal/bytealg.MakeNoZero", "internal/bytealg.IndexByteString", "internal/bytealg.IndexString"], unfollowed := true, recurses := true, named := ["internal/strconv.uint64pow10", "math/bits.deBruijn32tab", "math/bits.deBruijn64tab", "unicode/utf8.first", "unicode/utf8.acceptRanges", "internal/bytealg.MaxLen"], apart := false, laid := [("math/bits.deBruijn32tab", laid_math_bits_deBruijn32tab), ("math/bits.deBruijn64tab", laid_math_bits_deBruijn64tab), ("internal/strconv.uint64pow10", laid_internal_strconv_uint64pow10), ("unicode/utf8.acceptRanges", laid_unicode_utf8_acceptRanges), ("unicode/utf8.first", laid_unicode_utf8_first)], narrowed := true }
def ReframeOutUptoSaid : Prop := reframeOutUptoRow.holds Tryd.pinned (OpenSpec.upto reframeOutSpec)

/-- 'doorsteplaw19.DechunkBack', WHERE WHAT IT READS IS OF BULK AT MOST 1048576: true; the input reads as it did. -/
def dechunkBackUptoRow : OpenClaim := { program := "ythcjiflmhjagiaadoor", sum := "63e0d0878dccd26ec17f23a8b2a7b915245b18d6754605832bbc7760032aae71", func := "doorstep/doorsteplaw19.DechunkBack", spec := "dechunkBack", inPlace := ["internal/bytealg.IndexByteString", "internal/bytealg.IndexString"], unfollowed := true, recurses := true, named := ["unicode/utf8.first", "unicode/utf8.acceptRanges", "internal/bytealg.MaxLen"], apart := false, laid := [("unicode/utf8.acceptRanges", laid_unicode_utf8_acceptRanges), ("unicode/utf8.first", laid_unicode_utf8_first)], narrowed := true }
def DechunkBackUptoSaid : Prop := dechunkBackUptoRow.holds Tryd.pinned (OpenSpec.upto dechunkBackSpec)

/-- 'doorsteplaw19.DechunkNone', WHERE WHAT IT READS IS OF BULK AT MOST 1048576: true; the input reads as it did. -/
def dechunkNoneUptoRow : OpenClaim := { program := "ythcjiflmhjagiaadoor", sum := "63e0d0878dccd26ec17f23a8b2a7b915245b18d6754605832bbc7760032aae71", func := "doorstep/doorsteplaw19.DechunkNone", spec := "dechunkNone", inPlace := ["internal/bytealg.IndexByteString", "internal/bytealg.IndexString"], unfollowed := true, recurses := true, named := ["unicode/utf8.first", "unicode/utf8.acceptRanges", "internal/bytealg.MaxLen"], apart := false, laid := [("unicode/utf8.acceptRanges", laid_unicode_utf8_acceptRanges), ("unicode/utf8.first", laid_unicode_utf8_first)], narrowed := true }
def DechunkNoneUptoSaid : Prop := dechunkNoneUptoRow.holds Tryd.pinned (OpenSpec.upto dechunkNoneSpec)

/-- 'doorsteplaw21.BodyLengths', WHERE WHAT IT READS IS OF BULK AT MOST 1048576: true; the input reads as it did. -/
def bodyLengthsUptoRow : OpenClaim := { program := "ythcjiflmhjagiaadoor", sum := "63e0d0878dccd26ec17f23a8b2a7b915245b18d6754605832bbc7760032aae71", func := "doorstep/doorsteplaw21.BodyLengths", spec := "bodyLengths", inPlace := ["internal/bytealg.IndexByteString", "internal/bytealg.IndexString"], unfollowed := true, recurses := true, named := ["unicode/utf8.first", "unicode/utf8.acceptRanges", "internal/bytealg.MaxLen"], apart := false, laid := [("unicode/utf8.acceptRanges", laid_unicode_utf8_acceptRanges), ("unicode/utf8.first", laid_unicode_utf8_first)], narrowed := true }
def BodyLengthsUptoSaid : Prop := bodyLengthsUptoRow.holds Tryd.pinned (OpenSpec.upto bodyLengthsSpec)

/-- 'doorsteplaw21.BodyPlays', WHERE WHAT IT READS IS OF BULK AT MOST 1048576: true; the input reads as it did. -/
def bodyPlaysUptoRow : OpenClaim := { program := "ythcjiflmhjagiaadoor", sum := "63e0d0878dccd26ec17f23a8b2a7b915245b18d6754605832bbc7760032aae71", func := "doorstep/doorsteplaw21.BodyPlays", spec := "bodyPlays", inPlace := ["internal/bytealg.IndexByteString", "internal/bytealg.IndexString"], unfollowed := true, recurses := true, named := ["unicode/utf8.first", "unicode/utf8.acceptRanges", "internal/bytealg.MaxLen"], apart := false, laid := [("unicode/utf8.acceptRanges", laid_unicode_utf8_acceptRanges), ("unicode/utf8.first", laid_unicode_utf8_first)], narrowed := true }
def BodyPlaysUptoSaid : Prop := bodyPlaysUptoRow.holds Tryd.pinned (OpenSpec.upto bodyPlaysSpec)

/-- 'doorsteplaw21.BodyNone', WHERE WHAT IT READS IS OF BULK AT MOST 1048576: true; the input reads as it did. -/
def bodyNoneUptoRow : OpenClaim := { program := "ythcjiflmhjagiaadoor", sum := "63e0d0878dccd26ec17f23a8b2a7b915245b18d6754605832bbc7760032aae71", func := "doorstep/doorsteplaw21.BodyNone", spec := "bodyNone", inPlace := ["internal/bytealg.IndexByteString", "internal/bytealg.IndexString"], unfollowed := true, recurses := true, named := ["unicode/utf8.first", "unicode/utf8.acceptRanges", "internal/bytealg.MaxLen"], apart := false, laid := [("unicode/utf8.acceptRanges", laid_unicode_utf8_acceptRanges), ("unicode/utf8.first", laid_unicode_utf8_first)], narrowed := true }
def BodyNoneUptoSaid : Prop := bodyNoneUptoRow.holds Tryd.pinned (OpenSpec.upto bodyNoneSpec)

end Rows
end Go.Proofs.YthcjiflmhjagiaaDoor
