/-
  NARROWER THAN 'FOR EVERY INPUT', by the rows' own cells (each row's printed sentence says how): ChestFaulty: laid · ChestBests: laid · ChestFewest: laid · ChestKnowns: laid · ChestTrue: laid · ChestOuts: laid · ChestAbove: laid · ChestEases: laid · ChestLeast: laid · ChestLaters: laid · ChestMoved: laid · ChestChests: laid · ChestSplit: laid · ChestClashes: laid · ChestProven: laid · ChestEnough: laid · ChestMore: laid · ChestWrongs: laid · ChestPrints: laid · ChestReads: laid · ChestSpoilt: laid.
  DERIVED. THE GIVEN ROWS OF THIS SEAT. 21 by the template 'for every input the law returns true; each argument reads behind the call as it read before'; 0 by the template 'total and deterministic' (their statements: YtoeigapilcgelaaGreatDoorTotals.lean).
  GIVEN WITH THE SEED: the statements are not yours to turn. If you find one false, say at which input.
  Laid BY PROGRAM, IN A SANDBOX (cutbox-rows.mjs): the forced cells as the released guide's own fill.sh prints them over the translation 24da5345fb031427… (all of the seat's roots in one cut). By AI agents, Wed Nov 11 2026. No macro, syntax, notation, axiom, sorry.
-/
import Derived.Test.YtoeigapilcgelaaGreatDoorChecked
import GoSem.PinnedTables
import GoSem.Claim
import GoSem.ClaimJoined
import GoSem.ClaimMapViews
import Derived.JoinedTies
import Derived.KernelRfl
namespace Go.Proofs.YtoeigapilcgelaaGreatDoor
/- THE CELL 'sum', in the pinned program and in every row, IS THE sha256 OF THE DUMP (.gsa) THAT YtoeigapilcgelaaGreatDoorProg.lean LOADS. Nothing in Lean hashes anything: it is a label: what it is worth is what the hold of that sum in a sandbox is worth. -/
noncomputable def Tryz.pinned : Pinned := { name := "ytoeigapilcgelaagreatdoor", sum := "24da5345fb031427fd02693760e0c1d2394500a6e0c709ab15aa6dd06f381927", checked := Tryz.checked }
namespace Rows
def none {H : Type} : Left H := { results := [], args := [] }

/- WHAT THE LISTED PACKAGE-LEVEL VARIABLES READ AS WHEN THE CALL BEGINS. Each datum BY PROGRAM (the guide's laid-datum.mjs) off the statement by which the dump's own 'gosem.cut.vars' lays the variable. In a bare row this is a premise. The card (YtoeigapilcgelaaGreatDoorCards.lean) ties it to the program's text. -/
def laid_math_bits_deBruijn32tab {H : Type} : DataW H := .agg [.lit (.int .u8 0), .lit (.int .u8 1), .lit (.int .u8 28), .lit (.int .u8 2), .lit (.int .u8 29), .lit (.int .u8 14), .lit (.int .u8 24), .lit (.int .u8 3), .lit (.int .u8 30), .lit (.int .u8 22), .lit (.int .u8 20), .lit (.int .u8 15), .lit (.int .u8 25), .lit (.int .u8 17), .lit (.int .u8 4), .lit (.int .u8 8), .lit (.int .u8 31), .lit (.int .u8 27), .lit (.int .u8 13), .lit (.int .u8 23), .lit (.int .u8 21), .lit (.int .u8 19), .lit (.int .u8 16), .lit (.int .u8 7), .lit (.int .u8 26), .lit (.int .u8 12), .lit (.int .u8 18), .lit (.int .u8 6), .lit (.int .u8 11), .lit (.int .u8 5), .lit (.int .u8 10), .lit (.int .u8 9)]
def laid_math_bits_deBruijn64tab {H : Type} : DataW H := .agg [.lit (.int .u8 0), .lit (.int .u8 1), .lit (.int .u8 56), .lit (.int .u8 2), .lit (.int .u8 57), .lit (.int .u8 49), .lit (.int .u8 28), .lit (.int .u8 3), .lit (.int .u8 61), .lit (.int .u8 58), .lit (.int .u8 42), .lit (.int .u8 50), .lit (.int .u8 38), .lit (.int .u8 29), .lit (.int .u8 17), .lit (.int .u8 4), .lit (.int .u8 62), .lit (.int .u8 47), .lit (.int .u8 59), .lit (.int .u8 36), .lit (.int .u8 45), .lit (.int .u8 43), .lit (.int .u8 51), .lit (.int .u8 22), .lit (.int .u8 53), .lit (.int .u8 39), .lit (.int .u8 33), .lit (.int .u8 30), .lit (.int .u8 24), .lit (.int .u8 18), .lit (.int .u8 12), .lit (.int .u8 5), .lit (.int .u8 63), .lit (.int .u8 55), .lit (.int .u8 48), .lit (.int .u8 27), .lit (.int .u8 60), .lit (.int .u8 41), .lit (.int .u8 37), .lit (.int .u8 16), .lit (.int .u8 46), .lit (.int .u8 35), .lit (.int .u8 44), .lit (.int .u8 21), .lit (.int .u8 52), .lit (.int .u8 32), .lit (.int .u8 23), .lit (.int .u8 11), .lit (.int .u8 54), .lit (.int .u8 26), .lit (.int .u8 40), .lit (.int .u8 15), .lit (.int .u8 34), .lit (.int .u8 20), .lit (.int .u8 31), .lit (.int .u8 10), .lit (.int .u8 25), .lit (.int .u8 14), .lit (.int .u8 19), .lit (.int .u8 9), .lit (.int .u8 13), .lit (.int .u8 8), .lit (.int .u8 7), .lit (.int .u8 6)]
def laid_internal_strconv_uint64pow10 {H : Type} : DataW H := .agg [.lit (.int .u64 1), .lit (.int .u64 10), .lit (.int .u64 100), .lit (.int .u64 1000), .lit (.int .u64 10000), .lit (.int .u64 100000), .lit (.int .u64 1000000), .lit (.int .u64 10000000), .lit (.int .u64 100000000), .lit (.int .u64 1000000000), .lit (.int .u64 10000000000), .lit (.int .u64 100000000000), .lit (.int .u64 1000000000000), .lit (.int .u64 10000000000000), .lit (.int .u64 100000000000000), .lit (.int .u64 1000000000000000), .lit (.int .u64 10000000000000000), .lit (.int .u64 100000000000000000), .lit (.int .u64 1000000000000000000), .lit (.int .u64 10000000000000000000)]
def laid_unicode_utf8_acceptRanges {H : Type} : DataW H := .agg [.agg [.lit (.int .u8 128), .lit (.int .u8 191)], .agg [.lit (.int .u8 160), .lit (.int .u8 191)], .agg [.lit (.int .u8 128), .lit (.int .u8 159)], .agg [.lit (.int .u8 144), .lit (.int .u8 191)], .agg [.lit (.int .u8 128), .lit (.int .u8 143)], .agg [.lit (.int .u8 0), .lit (.int .u8 0)], .agg [.lit (.int .u8 0), .lit (.int .u8 0)], .agg [.lit (.int .u8 0), .lit (.int .u8 0)], .agg [.lit (.int .u8 0), .lit (.int .u8 0)], .agg [.lit (.int .u8 0), .lit (.int .u8 0)], .agg [.lit (.int .u8 0), .lit (.int .u8 0)], .agg [.lit (.int .u8 0), .lit (.int .u8 0)], .agg [.lit (.int .u8 0), .lit (.int .u8 0)], .agg [.lit (.int .u8 0), .lit (.int .u8 0)], .agg [.lit (.int .u8 0), .lit (.int .u8 0)], .agg [.lit (.int .u8 0), .lit (.int .u8 0)]]
/-- One of Go's own tables, pinned by name: the form's constant. -/
def laid_unicode_utf8_first : DataW Unit := Go.Pinned.utf8First

/-- 'kelirlaw08.ChestFaulty': WHATEVER THE INPUT: true; the input reads as it did. -/
def chestFaultySpec : ChangeSpec := { name := "chestFaulty", fn := fun _ => fun
  | [d1, d2, d3, d4, d5] => { results := [.lit (.bool true)], args := [d1, d2, d3, d4, d5] }
  | _ => none }
def chestFaultyRow : OpenClaim := { program := "ytoeigapilcgelaagreatdoor", sum := "24da5345fb031427fd02693760e0c1d2394500a6e0c709ab15aa6dd06f381927", func := "kelir/kelirlaw08.ChestFaulty", spec := "chestFaulty", inPlace := ["internal/bytealg.CountString", "internal/bytealg.IndexByteString", "internal/bytealg.IndexString", "internal/abi.NoEscape", "internal/bytealg.MakeNoZero"], unfollowed := true, recurses := true, named := ["unicode/utf8.first", "unicode/utf8.acceptRanges", "internal/bytealg.MaxLen", "internal/strconv.uint64pow10", "math/bits.deBruijn32tab", "math/bits.deBruijn64tab"], plainKeys := false, apart := false, laid := [("math/bits.deBruijn32tab", laid_math_bits_deBruijn32tab), ("math/bits.deBruijn64tab", laid_math_bits_deBruijn64tab), ("internal/strconv.uint64pow10", laid_internal_strconv_uint64pow10), ("unicode/utf8.acceptRanges", laid_unicode_utf8_acceptRanges), ("unicode/utf8.first", laid_unicode_utf8_first)] }
def ChestFaultySaid : Prop := chestFaultyRow.holds Tryz.pinned (OpenSpec.ofChange chestFaultySpec)

/-- ITS FALSE NEIGHBOUR: 'it returns false'. Refute it at one input. -/
def chestFaultyWrong : ChangeSpec := { name := "chestFaulty", fn := fun _ => fun
  | [d1, d2, d3, d4, d5] => { results := [.lit (.bool false)], args := [d1, d2, d3, d4, d5] }
  | _ => none }
def ChestFaultyWrongFalsely : Prop := chestFaultyRow.holds Tryz.pinned (OpenSpec.ofChange chestFaultyWrong)

/-- 'kelirlaw08.ChestBests': WHATEVER THE INPUT: true; the input reads as it did. -/
def chestBestsSpec : ChangeSpec := { name := "chestBests", fn := fun _ => fun
  | [d] => { results := [.lit (.bool true)], args := [d] }
  | _ => none }
def chestBestsRow : OpenClaim := { program := "ytoeigapilcgelaagreatdoor", sum := "24da5345fb031427fd02693760e0c1d2394500a6e0c709ab15aa6dd06f381927", func := "kelir/kelirlaw08.ChestBests", spec := "chestBests", inPlace := ["internal/bytealg.CountString", "internal/bytealg.IndexByteString", "internal/bytealg.IndexString", "internal/abi.NoEscape", "internal/bytealg.MakeNoZero"], unfollowed := true, recurses := true, named := ["unicode/utf8.first", "unicode/utf8.acceptRanges", "internal/bytealg.MaxLen", "internal/strconv.uint64pow10", "math/bits.deBruijn32tab", "math/bits.deBruijn64tab"], plainKeys := false, apart := false, laid := [("math/bits.deBruijn32tab", laid_math_bits_deBruijn32tab), ("math/bits.deBruijn64tab", laid_math_bits_deBruijn64tab), ("internal/strconv.uint64pow10", laid_internal_strconv_uint64pow10), ("unicode/utf8.acceptRanges", laid_unicode_utf8_acceptRanges), ("unicode/utf8.first", laid_unicode_utf8_first)] }
def ChestBestsSaid : Prop := chestBestsRow.holds Tryz.pinned (OpenSpec.ofChange chestBestsSpec)

/-- ITS FALSE NEIGHBOUR: 'it returns false'. Refute it at one input. -/
def chestBestsWrong : ChangeSpec := { name := "chestBests", fn := fun _ => fun
  | [d] => { results := [.lit (.bool false)], args := [d] }
  | _ => none }
def ChestBestsWrongFalsely : Prop := chestBestsRow.holds Tryz.pinned (OpenSpec.ofChange chestBestsWrong)

/-- 'kelirlaw08.ChestFewest': WHATEVER THE INPUT: true; the input reads as it did. -/
def chestFewestSpec : ChangeSpec := { name := "chestFewest", fn := fun _ => fun
  | [d1, d2] => { results := [.lit (.bool true)], args := [d1, d2] }
  | _ => none }
def chestFewestRow : OpenClaim := { program := "ytoeigapilcgelaagreatdoor", sum := "24da5345fb031427fd02693760e0c1d2394500a6e0c709ab15aa6dd06f381927", func := "kelir/kelirlaw08.ChestFewest", spec := "chestFewest", inPlace := ["internal/bytealg.CountString", "internal/bytealg.IndexByteString", "internal/bytealg.IndexString", "internal/abi.NoEscape", "internal/bytealg.MakeNoZero"], unfollowed := true, recurses := true, named := ["unicode/utf8.first", "unicode/utf8.acceptRanges", "internal/bytealg.MaxLen", "internal/strconv.uint64pow10", "math/bits.deBruijn32tab", "math/bits.deBruijn64tab"], plainKeys := false, apart := false, laid := [("math/bits.deBruijn32tab", laid_math_bits_deBruijn32tab), ("math/bits.deBruijn64tab", laid_math_bits_deBruijn64tab), ("internal/strconv.uint64pow10", laid_internal_strconv_uint64pow10), ("unicode/utf8.acceptRanges", laid_unicode_utf8_acceptRanges), ("unicode/utf8.first", laid_unicode_utf8_first)] }
def ChestFewestSaid : Prop := chestFewestRow.holds Tryz.pinned (OpenSpec.ofChange chestFewestSpec)

/-- ITS FALSE NEIGHBOUR: 'it returns false'. Refute it at one input. -/
def chestFewestWrong : ChangeSpec := { name := "chestFewest", fn := fun _ => fun
  | [d1, d2] => { results := [.lit (.bool false)], args := [d1, d2] }
  | _ => none }
def ChestFewestWrongFalsely : Prop := chestFewestRow.holds Tryz.pinned (OpenSpec.ofChange chestFewestWrong)

/-- 'kelirlaw08.ChestKnowns': WHATEVER THE INPUT: true; the input reads as it did. -/
def chestKnownsSpec : ChangeSpec := { name := "chestKnowns", fn := fun _ => fun
  | [d] => { results := [.lit (.bool true)], args := [d] }
  | _ => none }
def chestKnownsRow : OpenClaim := { program := "ytoeigapilcgelaagreatdoor", sum := "24da5345fb031427fd02693760e0c1d2394500a6e0c709ab15aa6dd06f381927", func := "kelir/kelirlaw08.ChestKnowns", spec := "chestKnowns", inPlace := ["internal/bytealg.CountString", "internal/bytealg.IndexByteString", "internal/bytealg.IndexString", "internal/abi.NoEscape", "internal/bytealg.MakeNoZero"], unfollowed := true, recurses := true, named := ["unicode/utf8.first", "unicode/utf8.acceptRanges", "internal/bytealg.MaxLen", "internal/strconv.uint64pow10", "math/bits.deBruijn32tab", "math/bits.deBruijn64tab"], plainKeys := false, apart := false, laid := [("math/bits.deBruijn32tab", laid_math_bits_deBruijn32tab), ("math/bits.deBruijn64tab", laid_math_bits_deBruijn64tab), ("internal/strconv.uint64pow10", laid_internal_strconv_uint64pow10), ("unicode/utf8.acceptRanges", laid_unicode_utf8_acceptRanges), ("unicode/utf8.first", laid_unicode_utf8_first)] }
def ChestKnownsSaid : Prop := chestKnownsRow.holds Tryz.pinned (OpenSpec.ofChange chestKnownsSpec)

/-- ITS FALSE NEIGHBOUR: 'it returns false'. Refute it at one input. -/
def chestKnownsWrong : ChangeSpec := { name := "chestKnowns", fn := fun _ => fun
  | [d] => { results := [.lit (.bool false)], args := [d] }
  | _ => none }
def ChestKnownsWrongFalsely : Prop := chestKnownsRow.holds Tryz.pinned (OpenSpec.ofChange chestKnownsWrong)

/-- 'kelirlaw08.ChestTrue': WHATEVER THE INPUT: true; the input reads as it did. -/
def chestTrueSpec : ChangeSpec := { name := "chestTrue", fn := fun _ => fun
  | [d1, d2] => { results := [.lit (.bool true)], args := [d1, d2] }
  | _ => none }
def chestTrueRow : OpenClaim := { program := "ytoeigapilcgelaagreatdoor", sum := "24da5345fb031427fd02693760e0c1d2394500a6e0c709ab15aa6dd06f381927", func := "kelir/kelirlaw08.ChestTrue", spec := "chestTrue", inPlace := ["internal/bytealg.CountString", "internal/bytealg.IndexByteString", "internal/bytealg.IndexString", "internal/abi.NoEscape", "internal/bytealg.MakeNoZero"], unfollowed := true, recurses := true, named := ["unicode/utf8.first", "unicode/utf8.acceptRanges", "internal/bytealg.MaxLen", "internal/strconv.uint64pow10", "math/bits.deBruijn32tab", "math/bits.deBruijn64tab"], plainKeys := false, apart := false, laid := [("math/bits.deBruijn32tab", laid_math_bits_deBruijn32tab), ("math/bits.deBruijn64tab", laid_math_bits_deBruijn64tab), ("internal/strconv.uint64pow10", laid_internal_strconv_uint64pow10), ("unicode/utf8.acceptRanges", laid_unicode_utf8_acceptRanges), ("unicode/utf8.first", laid_unicode_utf8_first)] }
def ChestTrueSaid : Prop := chestTrueRow.holds Tryz.pinned (OpenSpec.ofChange chestTrueSpec)

/-- ITS FALSE NEIGHBOUR: 'it returns false'. Refute it at one input. -/
def chestTrueWrong : ChangeSpec := { name := "chestTrue", fn := fun _ => fun
  | [d1, d2] => { results := [.lit (.bool false)], args := [d1, d2] }
  | _ => none }
def ChestTrueWrongFalsely : Prop := chestTrueRow.holds Tryz.pinned (OpenSpec.ofChange chestTrueWrong)

/-- 'kelirlaw08.ChestOuts': WHATEVER THE INPUT: true; the input reads as it did. -/
def chestOutsSpec : ChangeSpec := { name := "chestOuts", fn := fun _ => fun
  | [d1, d2, d3] => { results := [.lit (.bool true)], args := [d1, d2, d3] }
  | _ => none }
def chestOutsRow : OpenClaim := { program := "ytoeigapilcgelaagreatdoor", sum := "24da5345fb031427fd02693760e0c1d2394500a6e0c709ab15aa6dd06f381927", func := "kelir/kelirlaw08.ChestOuts", spec := "chestOuts", inPlace := ["internal/bytealg.CountString", "internal/bytealg.IndexByteString", "internal/bytealg.IndexString", "internal/abi.NoEscape", "internal/bytealg.MakeNoZero"], unfollowed := true, recurses := true, named := ["unicode/utf8.first", "unicode/utf8.acceptRanges", "internal/bytealg.MaxLen", "internal/strconv.uint64pow10", "math/bits.deBruijn32tab", "math/bits.deBruijn64tab"], plainKeys := false, apart := false, laid := [("math/bits.deBruijn32tab", laid_math_bits_deBruijn32tab), ("math/bits.deBruijn64tab", laid_math_bits_deBruijn64tab), ("internal/strconv.uint64pow10", laid_internal_strconv_uint64pow10), ("unicode/utf8.acceptRanges", laid_unicode_utf8_acceptRanges), ("unicode/utf8.first", laid_unicode_utf8_first)] }
def ChestOutsSaid : Prop := chestOutsRow.holds Tryz.pinned (OpenSpec.ofChange chestOutsSpec)

/-- ITS FALSE NEIGHBOUR: 'it returns false'. Refute it at one input. -/
def chestOutsWrong : ChangeSpec := { name := "chestOuts", fn := fun _ => fun
  | [d1, d2, d3] => { results := [.lit (.bool false)], args := [d1, d2, d3] }
  | _ => none }
def ChestOutsWrongFalsely : Prop := chestOutsRow.holds Tryz.pinned (OpenSpec.ofChange chestOutsWrong)

/-- 'kelirlaw08.ChestAbove': WHATEVER THE INPUT: true; the input reads as it did. -/
def chestAboveSpec : ChangeSpec := { name := "chestAbove", fn := fun _ => fun
  | [d1, d2, d3] => { results := [.lit (.bool true)], args := [d1, d2, d3] }
  | _ => none }
def chestAboveRow : OpenClaim := { program := "ytoeigapilcgelaagreatdoor", sum := "24da5345fb031427fd02693760e0c1d2394500a6e0c709ab15aa6dd06f381927", func := "kelir/kelirlaw08.ChestAbove", spec := "chestAbove", inPlace := ["internal/bytealg.CountString", "internal/bytealg.IndexByteString", "internal/bytealg.IndexString", "internal/abi.NoEscape", "internal/bytealg.MakeNoZero"], unfollowed := true, recurses := true, named := ["unicode/utf8.first", "unicode/utf8.acceptRanges", "internal/bytealg.MaxLen", "internal/strconv.uint64pow10", "math/bits.deBruijn32tab", "math/bits.deBruijn64tab"], plainKeys := false, apart := false, laid := [("math/bits.deBruijn32tab", laid_math_bits_deBruijn32tab), ("math/bits.deBruijn64tab", laid_math_bits_deBruijn64tab), ("internal/strconv.uint64pow10", laid_internal_strconv_uint64pow10), ("unicode/utf8.acceptRanges", laid_unicode_utf8_acceptRanges), ("unicode/utf8.first", laid_unicode_utf8_first)] }
def ChestAboveSaid : Prop := chestAboveRow.holds Tryz.pinned (OpenSpec.ofChange chestAboveSpec)

/-- ITS FALSE NEIGHBOUR: 'it returns false'. Refute it at one input. -/
def chestAboveWrong : ChangeSpec := { name := "chestAbove", fn := fun _ => fun
  | [d1, d2, d3] => { results := [.lit (.bool false)], args := [d1, d2, d3] }
  | _ => none }
def ChestAboveWrongFalsely : Prop := chestAboveRow.holds Tryz.pinned (OpenSpec.ofChange chestAboveWrong)

/-- 'kelirlaw08.ChestEases': WHATEVER THE INPUT: true; the input reads as it did. -/
def chestEasesSpec : ChangeSpec := { name := "chestEases", fn := fun _ => fun
  | [d] => { results := [.lit (.bool true)], args := [d] }
  | _ => none }
def chestEasesRow : OpenClaim := { program := "ytoeigapilcgelaagreatdoor", sum := "24da5345fb031427fd02693760e0c1d2394500a6e0c709ab15aa6dd06f381927", func := "kelir/kelirlaw08.ChestEases", spec := "chestEases", inPlace := ["internal/bytealg.CountString", "internal/bytealg.IndexByteString", "internal/bytealg.IndexString", "internal/abi.NoEscape", "internal/bytealg.MakeNoZero"], unfollowed := true, recurses := true, named := ["unicode/utf8.first", "unicode/utf8.acceptRanges", "internal/bytealg.MaxLen", "internal/strconv.uint64pow10", "math/bits.deBruijn32tab", "math/bits.deBruijn64tab"], plainKeys := false, apart := false, laid := [("math/bits.deBruijn32tab", laid_math_bits_deBruijn32tab), ("math/bits.deBruijn64tab", laid_math_bits_deBruijn64tab), ("internal/strconv.uint64pow10", laid_internal_strconv_uint64pow10), ("unicode/utf8.acceptRanges", laid_unicode_utf8_acceptRanges), ("unicode/utf8.first", laid_unicode_utf8_first)] }
def ChestEasesSaid : Prop := chestEasesRow.holds Tryz.pinned (OpenSpec.ofChange chestEasesSpec)

/-- ITS FALSE NEIGHBOUR: 'it returns false'. Refute it at one input. -/
def chestEasesWrong : ChangeSpec := { name := "chestEases", fn := fun _ => fun
  | [d] => { results := [.lit (.bool false)], args := [d] }
  | _ => none }
def ChestEasesWrongFalsely : Prop := chestEasesRow.holds Tryz.pinned (OpenSpec.ofChange chestEasesWrong)

/-- 'kelirlaw08.ChestLeast': WHATEVER THE INPUT: true; the input reads as it did. -/
def chestLeastSpec : ChangeSpec := { name := "chestLeast", fn := fun _ => fun
  | [d1, d2] => { results := [.lit (.bool true)], args := [d1, d2] }
  | _ => none }
def chestLeastRow : OpenClaim := { program := "ytoeigapilcgelaagreatdoor", sum := "24da5345fb031427fd02693760e0c1d2394500a6e0c709ab15aa6dd06f381927", func := "kelir/kelirlaw08.ChestLeast", spec := "chestLeast", inPlace := ["internal/bytealg.CountString", "internal/bytealg.IndexByteString", "internal/bytealg.IndexString", "internal/abi.NoEscape", "internal/bytealg.MakeNoZero"], unfollowed := true, recurses := true, named := ["unicode/utf8.first", "unicode/utf8.acceptRanges", "internal/bytealg.MaxLen", "internal/strconv.uint64pow10", "math/bits.deBruijn32tab", "math/bits.deBruijn64tab"], plainKeys := false, apart := false, laid := [("math/bits.deBruijn32tab", laid_math_bits_deBruijn32tab), ("math/bits.deBruijn64tab", laid_math_bits_deBruijn64tab), ("internal/strconv.uint64pow10", laid_internal_strconv_uint64pow10), ("unicode/utf8.acceptRanges", laid_unicode_utf8_acceptRanges), ("unicode/utf8.first", laid_unicode_utf8_first)] }
def ChestLeastSaid : Prop := chestLeastRow.holds Tryz.pinned (OpenSpec.ofChange chestLeastSpec)

/-- ITS FALSE NEIGHBOUR: 'it returns false'. Refute it at one input. -/
def chestLeastWrong : ChangeSpec := { name := "chestLeast", fn := fun _ => fun
  | [d1, d2] => { results := [.lit (.bool false)], args := [d1, d2] }
  | _ => none }
def ChestLeastWrongFalsely : Prop := chestLeastRow.holds Tryz.pinned (OpenSpec.ofChange chestLeastWrong)

/-- 'kelirlaw08.ChestLaters': WHATEVER THE INPUT: true; the input reads as it did. -/
def chestLatersSpec : ChangeSpec := { name := "chestLaters", fn := fun _ => fun
  | [d1, d2, d3] => { results := [.lit (.bool true)], args := [d1, d2, d3] }
  | _ => none }
def chestLatersRow : OpenClaim := { program := "ytoeigapilcgelaagreatdoor", sum := "24da5345fb031427fd02693760e0c1d2394500a6e0c709ab15aa6dd06f381927", func := "kelir/kelirlaw08.ChestLaters", spec := "chestLaters", inPlace := ["internal/bytealg.CountString", "internal/bytealg.IndexByteString", "internal/bytealg.IndexString", "internal/abi.NoEscape", "internal/bytealg.MakeNoZero"], unfollowed := true, recurses := true, named := ["unicode/utf8.first", "unicode/utf8.acceptRanges", "internal/bytealg.MaxLen", "internal/strconv.uint64pow10", "math/bits.deBruijn32tab", "math/bits.deBruijn64tab"], plainKeys := false, apart := false, laid := [("math/bits.deBruijn32tab", laid_math_bits_deBruijn32tab), ("math/bits.deBruijn64tab", laid_math_bits_deBruijn64tab), ("internal/strconv.uint64pow10", laid_internal_strconv_uint64pow10), ("unicode/utf8.acceptRanges", laid_unicode_utf8_acceptRanges), ("unicode/utf8.first", laid_unicode_utf8_first)] }
def ChestLatersSaid : Prop := chestLatersRow.holds Tryz.pinned (OpenSpec.ofChange chestLatersSpec)

/-- ITS FALSE NEIGHBOUR: 'it returns false'. Refute it at one input. -/
def chestLatersWrong : ChangeSpec := { name := "chestLaters", fn := fun _ => fun
  | [d1, d2, d3] => { results := [.lit (.bool false)], args := [d1, d2, d3] }
  | _ => none }
def ChestLatersWrongFalsely : Prop := chestLatersRow.holds Tryz.pinned (OpenSpec.ofChange chestLatersWrong)

/-- 'kelirlaw08.ChestMoved': WHATEVER THE INPUT: true; the input reads as it did. -/
def chestMovedSpec : ChangeSpec := { name := "chestMoved", fn := fun _ => fun
  | [d1, d2, d3, d4] => { results := [.lit (.bool true)], args := [d1, d2, d3, d4] }
  | _ => none }
def chestMovedRow : OpenClaim := { program := "ytoeigapilcgelaagreatdoor", sum := "24da5345fb031427fd02693760e0c1d2394500a6e0c709ab15aa6dd06f381927", func := "kelir/kelirlaw08.ChestMoved", spec := "chestMoved", inPlace := ["internal/bytealg.CountString", "internal/bytealg.IndexByteString", "internal/bytealg.IndexString", "internal/abi.NoEscape", "internal/bytealg.MakeNoZero"], unfollowed := true, recurses := true, named := ["unicode/utf8.first", "unicode/utf8.acceptRanges", "internal/bytealg.MaxLen", "internal/strconv.uint64pow10", "math/bits.deBruijn32tab", "math/bits.deBruijn64tab"], plainKeys := false, apart := false, laid := [("math/bits.deBruijn32tab", laid_math_bits_deBruijn32tab), ("math/bits.deBruijn64tab", laid_math_bits_deBruijn64tab), ("internal/strconv.uint64pow10", laid_internal_strconv_uint64pow10), ("unicode/utf8.acceptRanges", laid_unicode_utf8_acceptRanges), ("unicode/utf8.first", laid_unicode_utf8_first)] }
def ChestMovedSaid : Prop := chestMovedRow.holds Tryz.pinned (OpenSpec.ofChange chestMovedSpec)

/-- ITS FALSE NEIGHBOUR: 'it returns false'. Refute it at one input. -/
def chestMovedWrong : ChangeSpec := { name := "chestMoved", fn := fun _ => fun
  | [d1, d2, d3, d4] => { results := [.lit (.bool false)], args := [d1, d2, d3, d4] }
  | _ => none }
def ChestMovedWrongFalsely : Prop := chestMovedRow.holds Tryz.pinned (OpenSpec.ofChange chestMovedWrong)

/-- 'kelirlaw08.ChestChests': WHATEVER THE INPUT: true; the input reads as it did. -/
def chestChestsSpec : ChangeSpec := { name := "chestChests", fn := fun _ => fun
  | [d] => { results := [.lit (.bool true)], args := [d] }
  | _ => none }
def chestChestsRow : OpenClaim := { program := "ytoeigapilcgelaagreatdoor", sum := "24da5345fb031427fd02693760e0c1d2394500a6e0c709ab15aa6dd06f381927", func := "kelir/kelirlaw08.ChestChests", spec := "chestChests", inPlace := ["internal/bytealg.CountString", "internal/bytealg.IndexByteString", "internal/bytealg.IndexString", "internal/abi.NoEscape", "internal/bytealg.MakeNoZero"], unfollowed := true, recurses := true, named := ["unicode/utf8.first", "unicode/utf8.acceptRanges", "internal/bytealg.MaxLen", "internal/strconv.uint64pow10", "math/bits.deBruijn32tab", "math/bits.deBruijn64tab"], plainKeys := false, apart := false, laid := [("math/bits.deBruijn32tab", laid_math_bits_deBruijn32tab), ("math/bits.deBruijn64tab", laid_math_bits_deBruijn64tab), ("internal/strconv.uint64pow10", laid_internal_strconv_uint64pow10), ("unicode/utf8.acceptRanges", laid_unicode_utf8_acceptRanges), ("unicode/utf8.first", laid_unicode_utf8_first)] }
def ChestChestsSaid : Prop := chestChestsRow.holds Tryz.pinned (OpenSpec.ofChange chestChestsSpec)

/-- ITS FALSE NEIGHBOUR: 'it returns false'. Refute it at one input. -/
def chestChestsWrong : ChangeSpec := { name := "chestChests", fn := fun _ => fun
  | [d] => { results := [.lit (.bool false)], args := [d] }
  | _ => none }
def ChestChestsWrongFalsely : Prop := chestChestsRow.holds Tryz.pinned (OpenSpec.ofChange chestChestsWrong)

/-- 'kelirlaw08.ChestSplit': WHATEVER THE INPUT: true; the input reads as it did. -/
def chestSplitSpec : ChangeSpec := { name := "chestSplit", fn := fun _ => fun
  | [d1, d2] => { results := [.lit (.bool true)], args := [d1, d2] }
  | _ => none }
def chestSplitRow : OpenClaim := { program := "ytoeigapilcgelaagreatdoor", sum := "24da5345fb031427fd02693760e0c1d2394500a6e0c709ab15aa6dd06f381927", func := "kelir/kelirlaw08.ChestSplit", spec := "chestSplit", inPlace := ["internal/bytealg.CountString", "internal/bytealg.IndexByteString", "internal/bytealg.IndexString", "internal/abi.NoEscape", "internal/bytealg.MakeNoZero"], unfollowed := true, recurses := true, named := ["unicode/utf8.first", "unicode/utf8.acceptRanges", "internal/bytealg.MaxLen", "internal/strconv.uint64pow10", "math/bits.deBruijn32tab", "math/bits.deBruijn64tab"], plainKeys := false, apart := false, laid := [("math/bits.deBruijn32tab", laid_math_bits_deBruijn32tab), ("math/bits.deBruijn64tab", laid_math_bits_deBruijn64tab), ("internal/strconv.uint64pow10", laid_internal_strconv_uint64pow10), ("unicode/utf8.acceptRanges", laid_unicode_utf8_acceptRanges), ("unicode/utf8.first", laid_unicode_utf8_first)] }
def ChestSplitSaid : Prop := chestSplitRow.holds Tryz.pinned (OpenSpec.ofChange chestSplitSpec)

/-- ITS FALSE NEIGHBOUR: 'it returns false'. Refute it at one input. -/
def chestSplitWrong : ChangeSpec := { name := "chestSplit", fn := fun _ => fun
  | [d1, d2] => { results := [.lit (.bool false)], args := [d1, d2] }
  | _ => none }
def ChestSplitWrongFalsely : Prop := chestSplitRow.holds Tryz.pinned (OpenSpec.ofChange chestSplitWrong)

/-- 'kelirlaw08.ChestClashes': WHATEVER THE INPUT: true; the input reads as it did. -/
def chestClashesSpec : ChangeSpec := { name := "chestClashes", fn := fun _ => fun
  | [d] => { results := [.lit (.bool true)], args := [d] }
  | _ => none }
def chestClashesRow : OpenClaim := { program := "ytoeigapilcgelaagreatdoor", sum := "24da5345fb031427fd02693760e0c1d2394500a6e0c709ab15aa6dd06f381927", func := "kelir/kelirlaw08.ChestClashes", spec := "chestClashes", inPlace := ["internal/bytealg.CountString", "internal/bytealg.IndexByteString", "internal/bytealg.IndexString", "internal/abi.NoEscape", "internal/bytealg.MakeNoZero"], unfollowed := true, recurses := true, named := ["unicode/utf8.first", "unicode/utf8.acceptRanges", "internal/bytealg.MaxLen", "internal/strconv.uint64pow10", "math/bits.deBruijn32tab", "math/bits.deBruijn64tab"], plainKeys := false, apart := false, laid := [("math/bits.deBruijn32tab", laid_math_bits_deBruijn32tab), ("math/bits.deBruijn64tab", laid_math_bits_deBruijn64tab), ("internal/strconv.uint64pow10", laid_internal_strconv_uint64pow10), ("unicode/utf8.acceptRanges", laid_unicode_utf8_acceptRanges), ("unicode/utf8.first", laid_unicode_utf8_first)] }
def ChestClashesSaid : Prop := chestClashesRow.holds Tryz.pinned (OpenSpec.ofChange chestClashesSpec)

/-- ITS FALSE NEIGHBOUR: 'it returns false'. Refute it at one input. -/
def chestClashesWrong : ChangeSpec := { name := "chestClashes", fn := fun _ => fun
  | [d] => { results := [.lit (.bool false)], args := [d] }
  | _ => none }
def ChestClashesWrongFalsely : Prop := chestClashesRow.holds Tryz.pinned (OpenSpec.ofChange chestClashesWrong)

/-- 'kelirlaw08.ChestProven': WHATEVER THE INPUT: true; the input reads as it did. -/
def chestProvenSpec : ChangeSpec := { name := "chestProven", fn := fun _ => fun
  | [d1, d2] => { results := [.lit (.bool true)], args := [d1, d2] }
  | _ => none }
def chestProvenRow : OpenClaim := { program := "ytoeigapilcgelaagreatdoor", sum := "24da5345fb031427fd02693760e0c1d2394500a6e0c709ab15aa6dd06f381927", func := "kelir/kelirlaw08.ChestProven", spec := "chestProven", inPlace := ["internal/bytealg.CountString", "internal/bytealg.IndexByteString", "internal/bytealg.IndexString", "internal/abi.NoEscape", "internal/bytealg.MakeNoZero"], unfollowed := true, recurses := true, named := ["unicode/utf8.first", "unicode/utf8.acceptRanges", "internal/bytealg.MaxLen", "internal/strconv.uint64pow10", "math/bits.deBruijn32tab", "math/bits.deBruijn64tab"], plainKeys := false, apart := false, laid := [("math/bits.deBruijn32tab", laid_math_bits_deBruijn32tab), ("math/bits.deBruijn64tab", laid_math_bits_deBruijn64tab), ("internal/strconv.uint64pow10", laid_internal_strconv_uint64pow10), ("unicode/utf8.acceptRanges", laid_unicode_utf8_acceptRanges), ("unicode/utf8.first", laid_unicode_utf8_first)] }
def ChestProvenSaid : Prop := chestProvenRow.holds Tryz.pinned (OpenSpec.ofChange chestProvenSpec)

/-- ITS FALSE NEIGHBOUR: 'it returns false'. Refute it at one input. -/
def chestProvenWrong : ChangeSpec := { name := "chestProven", fn := fun _ => fun
  | [d1, d2] => { results := [.lit (.bool false)], args := [d1, d2] }
  | _ => none }
def ChestProvenWrongFalsely : Prop := chestProvenRow.holds Tryz.pinned (OpenSpec.ofChange chestProvenWrong)

/-- 'kelirlaw08.ChestEnough': WHATEVER THE INPUT: true; the input reads as it did. -/
def chestEnoughSpec : ChangeSpec := { name := "chestEnough", fn := fun _ => fun
  | [d1, d2] => { results := [.lit (.bool true)], args := [d1, d2] }
  | _ => none }
def chestEnoughRow : OpenClaim := { program := "ytoeigapilcgelaagreatdoor", sum := "24da5345fb031427fd02693760e0c1d2394500a6e0c709ab15aa6dd06f381927", func := "kelir/kelirlaw08.ChestEnough", spec := "chestEnough", inPlace := ["internal/bytealg.CountString", "internal/bytealg.IndexByteString", "internal/bytealg.IndexString", "internal/abi.NoEscape", "internal/bytealg.MakeNoZero"], unfollowed := true, recurses := true, named := ["unicode/utf8.first", "unicode/utf8.acceptRanges", "internal/bytealg.MaxLen", "internal/strconv.uint64pow10", "math/bits.deBruijn32tab", "math/bits.deBruijn64tab"], plainKeys := false, apart := false, laid := [("math/bits.deBruijn32tab", laid_math_bits_deBruijn32tab), ("math/bits.deBruijn64tab", laid_math_bits_deBruijn64tab), ("internal/strconv.uint64pow10", laid_internal_strconv_uint64pow10), ("unicode/utf8.acceptRanges", laid_unicode_utf8_acceptRanges), ("unicode/utf8.first", laid_unicode_utf8_first)] }
def ChestEnoughSaid : Prop := chestEnoughRow.holds Tryz.pinned (OpenSpec.ofChange chestEnoughSpec)

/-- ITS FALSE NEIGHBOUR: 'it returns false'. Refute it at one input. -/
def chestEnoughWrong : ChangeSpec := { name := "chestEnough", fn := fun _ => fun
  | [d1, d2] => { results := [.lit (.bool false)], args := [d1, d2] }
  | _ => none }
def ChestEnoughWrongFalsely : Prop := chestEnoughRow.holds Tryz.pinned (OpenSpec.ofChange chestEnoughWrong)

/-- 'kelirlaw08.ChestMore': WHATEVER THE INPUT: true; the input reads as it did. -/
def chestMoreSpec : ChangeSpec := { name := "chestMore", fn := fun _ => fun
  | [d1, d2, d3, d4, d5] => { results := [.lit (.bool true)], args := [d1, d2, d3, d4, d5] }
  | _ => none }
def chestMoreRow : OpenClaim := { program := "ytoeigapilcgelaagreatdoor", sum := "24da5345fb031427fd02693760e0c1d2394500a6e0c709ab15aa6dd06f381927", func := "kelir/kelirlaw08.ChestMore", spec := "chestMore", inPlace := ["internal/bytealg.CountString", "internal/bytealg.IndexByteString", "internal/bytealg.IndexString", "internal/abi.NoEscape", "internal/bytealg.MakeNoZero"], unfollowed := true, recurses := true, named := ["unicode/utf8.first", "unicode/utf8.acceptRanges", "internal/bytealg.MaxLen", "internal/strconv.uint64pow10", "math/bits.deBruijn32tab", "math/bits.deBruijn64tab"], plainKeys := false, apart := false, laid := [("math/bits.deBruijn32tab", laid_math_bits_deBruijn32tab), ("math/bits.deBruijn64tab", laid_math_bits_deBruijn64tab), ("internal/strconv.uint64pow10", laid_internal_strconv_uint64pow10), ("unicode/utf8.acceptRanges", laid_unicode_utf8_acceptRanges), ("unicode/utf8.first", laid_unicode_utf8_first)] }
def ChestMoreSaid : Prop := chestMoreRow.holds Tryz.pinned (OpenSpec.ofChange chestMoreSpec)

/-- ITS FALSE NEIGHBOUR: 'it returns false'. Refute it at one input. -/
def chestMoreWrong : ChangeSpec := { name := "chestMore", fn := fun _ => fun
  | [d1, d2, d3, d4, d5] => { results := [.lit (.bool false)], args := [d1, d2, d3, d4, d5] }
  | _ => none }
def ChestMoreWrongFalsely : Prop := chestMoreRow.holds Tryz.pinned (OpenSpec.ofChange chestMoreWrong)

/-- 'kelirlaw08.ChestWrongs': WHATEVER THE INPUT: true; the input reads as it did. -/
def chestWrongsSpec : ChangeSpec := { name := "chestWrongs", fn := fun _ => fun
  | [d1, d2] => { results := [.lit (.bool true)], args := [d1, d2] }
  | _ => none }
def chestWrongsRow : OpenClaim := { program := "ytoeigapilcgelaagreatdoor", sum := "24da5345fb031427fd02693760e0c1d2394500a6e0c709ab15aa6dd06f381927", func := "kelir/kelirlaw08.ChestWrongs", spec := "chestWrongs", inPlace := ["internal/bytealg.CountString", "internal/bytealg.IndexByteString", "internal/bytealg.IndexString", "internal/abi.NoEscape", "internal/bytealg.MakeNoZero"], unfollowed := true, recurses := true, named := ["unicode/utf8.first", "unicode/utf8.acceptRanges", "internal/bytealg.MaxLen", "internal/strconv.uint64pow10", "math/bits.deBruijn32tab", "math/bits.deBruijn64tab"], plainKeys := false, apart := false, laid := [("math/bits.deBruijn32tab", laid_math_bits_deBruijn32tab), ("math/bits.deBruijn64tab", laid_math_bits_deBruijn64tab), ("internal/strconv.uint64pow10", laid_internal_strconv_uint64pow10), ("unicode/utf8.acceptRanges", laid_unicode_utf8_acceptRanges), ("unicode/utf8.first", laid_unicode_utf8_first)] }
def ChestWrongsSaid : Prop := chestWrongsRow.holds Tryz.pinned (OpenSpec.ofChange chestWrongsSpec)

/-- ITS FALSE NEIGHBOUR: 'it returns false'. Refute it at one input. -/
def chestWrongsWrong : ChangeSpec := { name := "chestWrongs", fn := fun _ => fun
  | [d1, d2] => { results := [.lit (.bool false)], args := [d1, d2] }
  | _ => none }
def ChestWrongsWrongFalsely : Prop := chestWrongsRow.holds Tryz.pinned (OpenSpec.ofChange chestWrongsWrong)

/-- 'kelirlaw08.ChestPrints': WHATEVER THE INPUT: true; the input reads as it did. -/
def chestPrintsSpec : ChangeSpec := { name := "chestPrints", fn := fun _ => fun
  | [d] => { results := [.lit (.bool true)], args := [d] }
  | _ => none }
def chestPrintsRow : OpenClaim := { program := "ytoeigapilcgelaagreatdoor", sum := "24da5345fb031427fd02693760e0c1d2394500a6e0c709ab15aa6dd06f381927", func := "kelir/kelirlaw08.ChestPrints", spec := "chestPrints", inPlace := ["internal/bytealg.CountString", "internal/bytealg.IndexByteString", "internal/bytealg.IndexString", "internal/abi.NoEscape", "internal/bytealg.MakeNoZero"], unfollowed := true, recurses := true, named := ["unicode/utf8.first", "unicode/utf8.acceptRanges", "internal/bytealg.MaxLen", "internal/strconv.uint64pow10", "math/bits.deBruijn32tab", "math/bits.deBruijn64tab"], plainKeys := false, apart := false, laid := [("math/bits.deBruijn32tab", laid_math_bits_deBruijn32tab), ("math/bits.deBruijn64tab", laid_math_bits_deBruijn64tab), ("internal/strconv.uint64pow10", laid_internal_strconv_uint64pow10), ("unicode/utf8.acceptRanges", laid_unicode_utf8_acceptRanges), ("unicode/utf8.first", laid_unicode_utf8_first)] }
def ChestPrintsSaid : Prop := chestPrintsRow.holds Tryz.pinned (OpenSpec.ofChange chestPrintsSpec)

/-- ITS FALSE NEIGHBOUR: 'it returns false'. Refute it at one input. -/
def chestPrintsWrong : ChangeSpec := { name := "chestPrints", fn := fun _ => fun
  | [d] => { results := [.lit (.bool false)], args := [d] }
  | _ => none }
def ChestPrintsWrongFalsely : Prop := chestPrintsRow.holds Tryz.pinned (OpenSpec.ofChange chestPrintsWrong)

/-- 'kelirlaw08.ChestReads': WHATEVER THE INPUT: true; the input reads as it did. -/
def chestReadsSpec : ChangeSpec := { name := "chestReads", fn := fun _ => fun
  | [d] => { results := [.lit (.bool true)], args := [d] }
  | _ => none }
def chestReadsRow : OpenClaim := { program := "ytoeigapilcgelaagreatdoor", sum := "24da5345fb031427fd02693760e0c1d2394500a6e0c709ab15aa6dd06f381927", func := "kelir/kelirlaw08.ChestReads", spec := "chestReads", inPlace := ["internal/bytealg.CountString", "internal/bytealg.IndexByteString", "internal/bytealg.IndexString", "internal/abi.NoEscape", "internal/bytealg.MakeNoZero"], unfollowed := true, recurses := true, named := ["unicode/utf8.first", "unicode/utf8.acceptRanges", "internal/bytealg.MaxLen", "internal/strconv.uint64pow10", "math/bits.deBruijn32tab", "math/bits.deBruijn64tab"], plainKeys := false, apart := false, laid := [("math/bits.deBruijn32tab", laid_math_bits_deBruijn32tab), ("math/bits.deBruijn64tab", laid_math_bits_deBruijn64tab), ("internal/strconv.uint64pow10", laid_internal_strconv_uint64pow10), ("unicode/utf8.acceptRanges", laid_unicode_utf8_acceptRanges), ("unicode/utf8.first", laid_unicode_utf8_first)] }
def ChestReadsSaid : Prop := chestReadsRow.holds Tryz.pinned (OpenSpec.ofChange chestReadsSpec)

/-- ITS FALSE NEIGHBOUR: 'it returns false'. Refute it at one input. -/
def chestReadsWrong : ChangeSpec := { name := "chestReads", fn := fun _ => fun
  | [d] => { results := [.lit (.bool false)], args := [d] }
  | _ => none }
def ChestReadsWrongFalsely : Prop := chestReadsRow.holds Tryz.pinned (OpenSpec.ofChange chestReadsWrong)

/-- 'kelirlaw08.ChestSpoilt': WHATEVER THE INPUT: true; the input reads as it did. -/
def chestSpoiltSpec : ChangeSpec := { name := "chestSpoilt", fn := fun _ => fun
  | [d1, d2, d3] => { results := [.lit (.bool true)], args := [d1, d2, d3] }
  | _ => none }
def chestSpoiltRow : OpenClaim := { program := "ytoeigapilcgelaagreatdoor", sum := "24da5345fb031427fd02693760e0c1d2394500a6e0c709ab15aa6dd06f381927", func := "kelir/kelirlaw08.ChestSpoilt", spec := "chestSpoilt", inPlace := ["internal/bytealg.CountString", "internal/bytealg.IndexByteString", "internal/bytealg.IndexString", "internal/abi.NoEscape", "internal/bytealg.MakeNoZero"], unfollowed := true, recurses := true, named := ["unicode/utf8.first", "unicode/utf8.acceptRanges", "internal/bytealg.MaxLen", "internal/strconv.uint64pow10", "math/bits.deBruijn32tab", "math/bits.deBruijn64tab"], plainKeys := false, apart := false, laid := [("math/bits.deBruijn32tab", laid_math_bits_deBruijn32tab), ("math/bits.deBruijn64tab", laid_math_bits_deBruijn64tab), ("internal/strconv.uint64pow10", laid_internal_strconv_uint64pow10), ("unicode/utf8.acceptRanges", laid_unicode_utf8_acceptRanges), ("unicode/utf8.first", laid_unicode_utf8_first)] }
def ChestSpoiltSaid : Prop := chestSpoiltRow.holds Tryz.pinned (OpenSpec.ofChange chestSpoiltSpec)

/-- ITS FALSE NEIGHBOUR: 'it returns false'. Refute it at one input. -/
def chestSpoiltWrong : ChangeSpec := { name := "chestSpoilt", fn := fun _ => fun
  | [d1, d2, d3] => { results := [.lit (.bool false)], args := [d1, d2, d3] }
  | _ => none }
def ChestSpoiltWrongFalsely : Prop := chestSpoiltRow.holds Tryz.pinned (OpenSpec.ofChange chestSpoiltWrong)

/- THE SECOND FORM. 'bulk': how many values and letters a reading holds, each counted each time it is reached (what is shared counts as often as it is met; a slice's spare places count too). A statement '..UptoSaid' is the law's where the arguments, and the package variables that the reading takes, are together of bulk at most 1048576: NARROWER than '..Said'. Prove '..Said' where nothing that the law and all that it calls make is longer than what came in: it says more and counts as full. Else prove '..UptoSaid'. A law counts once. -/
mutual
def uptoBulk {H : Type} : DataW H → Nat
  | .lit (.string bytes) => bytes.length + 1
  | .lit _ => 1
  | .nil => 1
  | .ptr d => uptoBulk d + 1
  | .slice elems spare => uptoBulkAll elems + uptoBulkAll spare + 1
  | .agg parts => uptoBulkAll parts + 1
  | .iface _ d => uptoBulk d + 1
  | .map entries => uptoBulkEntries entries + 1
  | .held _ => 1
def uptoBulkAll {H : Type} : List (DataW H) → Nat
  | [] => 0
  | d :: r => uptoBulk d + uptoBulkAll r
def uptoBulkEntries {H : Type} : List (Lit × DataW H) → Nat
  | [] => 0
  | x :: r => uptoBulkEntry x + uptoBulkEntries r
def uptoBulkEntry {H : Type} : Lit × DataW H → Nat
  | (.string bytes, d) => bytes.length + uptoBulk d + 1
  | (_, d) => uptoBulk d + 1
 end
def uptoSmall : (H : Type) → List (DataW H) → Bool := fun _ ds => decide (uptoBulkAll ds ≤ 1048576)
def OpenSpec.upto (s : _root_.Go.ChangeSpec) : _root_.Go.OpenSpec := { _root_.Go.OpenSpec.ofChange s with cond := some uptoSmall }

/-- 'kelirlaw08.ChestFaulty', WHERE WHAT IT READS IS OF BULK AT MOST 1048576: true; the input reads as it did. -/
def chestFaultyUptoRow : OpenClaim := { program := "ytoeigapilcgelaagreatdoor", sum := "24da5345fb031427fd02693760e0c1d2394500a6e0c709ab15aa6dd06f381927", func := "kelir/kelirlaw08.ChestFaulty", spec := "chestFaulty", inPlace := ["internal/bytealg.CountString", "internal/bytealg.IndexByteString", "internal/bytealg.IndexString", "internal/abi.NoEscape", "internal/bytealg.MakeNoZero"], unfollowed := true, recurses := true, named := ["unicode/utf8.first", "unicode/utf8.acceptRanges", "internal/bytealg.MaxLen", "internal/strconv.uint64pow10", "math/bits.deBruijn32tab", "math/bits.deBruijn64tab"], plainKeys := false, apart := false, laid := [("math/bits.deBruijn32tab", laid_math_bits_deBruijn32tab), ("math/bits.deBruijn64tab", laid_math_bits_deBruijn64tab), ("internal/strconv.uint64pow10", laid_internal_strconv_uint64pow10), ("unicode/utf8.acceptRanges", laid_unicode_utf8_acceptRanges), ("unicode/utf8.first", laid_unicode_utf8_first)], narrowed := true }
def ChestFaultyUptoSaid : Prop := chestFaultyUptoRow.holds Tryz.pinned (OpenSpec.upto chestFaultySpec)

/-- 'kelirlaw08.ChestBests', WHERE WHAT IT READS IS OF BULK AT MOST 1048576: true; the input reads as it did. -/
def chestBestsUptoRow : OpenClaim := { program := "ytoeigapilcgelaagreatdoor", sum := "24da5345fb031427fd02693760e0c1d2394500a6e0c709ab15aa6dd06f381927", func := "kelir/kelirlaw08.ChestBests", spec := "chestBests", inPlace := ["internal/bytealg.CountString", "internal/bytealg.IndexByteString", "internal/bytealg.IndexString", "internal/abi.NoEscape", "internal/bytealg.MakeNoZero"], unfollowed := true, recurses := true, named := ["unicode/utf8.first", "unicode/utf8.acceptRanges", "internal/bytealg.MaxLen", "internal/strconv.uint64pow10", "math/bits.deBruijn32tab", "math/bits.deBruijn64tab"], plainKeys := false, apart := false, laid := [("math/bits.deBruijn32tab", laid_math_bits_deBruijn32tab), ("math/bits.deBruijn64tab", laid_math_bits_deBruijn64tab), ("internal/strconv.uint64pow10", laid_internal_strconv_uint64pow10), ("unicode/utf8.acceptRanges", laid_unicode_utf8_acceptRanges), ("unicode/utf8.first", laid_unicode_utf8_first)], narrowed := true }
def ChestBestsUptoSaid : Prop := chestBestsUptoRow.holds Tryz.pinned (OpenSpec.upto chestBestsSpec)

/-- 'kelirlaw08.ChestFewest', WHERE WHAT IT READS IS OF BULK AT MOST 1048576: true; the input reads as it did. -/
def chestFewestUptoRow : OpenClaim := { program := "ytoeigapilcgelaagreatdoor", sum := "24da5345fb031427fd02693760e0c1d2394500a6e0c709ab15aa6dd06f381927", func := "kelir/kelirlaw08.ChestFewest", spec := "chestFewest", inPlace := ["internal/bytealg.CountString", "internal/bytealg.IndexByteString", "internal/bytealg.IndexString", "internal/abi.NoEscape", "internal/bytealg.MakeNoZero"], unfollowed := true, recurses := true, named := ["unicode/utf8.first", "unicode/utf8.acceptRanges", "internal/bytealg.MaxLen", "internal/strconv.uint64pow10", "math/bits.deBruijn32tab", "math/bits.deBruijn64tab"], plainKeys := false, apart := false, laid := [("math/bits.deBruijn32tab", laid_math_bits_deBruijn32tab), ("math/bits.deBruijn64tab", laid_math_bits_deBruijn64tab), ("internal/strconv.uint64pow10", laid_internal_strconv_uint64pow10), ("unicode/utf8.acceptRanges", laid_unicode_utf8_acceptRanges), ("unicode/utf8.first", laid_unicode_utf8_first)], narrowed := true }
def ChestFewestUptoSaid : Prop := chestFewestUptoRow.holds Tryz.pinned (OpenSpec.upto chestFewestSpec)

/-- 'kelirlaw08.ChestKnowns', WHERE WHAT IT READS IS OF BULK AT MOST 1048576: true; the input reads as it did. -/
def chestKnownsUptoRow : OpenClaim := { program := "ytoeigapilcgelaagreatdoor", sum := "24da5345fb031427fd02693760e0c1d2394500a6e0c709ab15aa6dd06f381927", func := "kelir/kelirlaw08.ChestKnowns", spec := "chestKnowns", inPlace := ["internal/bytealg.CountString", "internal/bytealg.IndexByteString", "internal/bytealg.IndexString", "internal/abi.NoEscape", "internal/bytealg.MakeNoZero"], unfollowed := true, recurses := true, named := ["unicode/utf8.first", "unicode/utf8.acceptRanges", "internal/bytealg.MaxLen", "internal/strconv.uint64pow10", "math/bits.deBruijn32tab", "math/bits.deBruijn64tab"], plainKeys := false, apart := false, laid := [("math/bits.deBruijn32tab", laid_math_bits_deBruijn32tab), ("math/bits.deBruijn64tab", laid_math_bits_deBruijn64tab), ("internal/strconv.uint64pow10", laid_internal_strconv_uint64pow10), ("unicode/utf8.acceptRanges", laid_unicode_utf8_acceptRanges), ("unicode/utf8.first", laid_unicode_utf8_first)], narrowed := true }
def ChestKnownsUptoSaid : Prop := chestKnownsUptoRow.holds Tryz.pinned (OpenSpec.upto chestKnownsSpec)

/-- 'kelirlaw08.ChestTrue', WHERE WHAT IT READS IS OF BULK AT MOST 1048576: true; the input reads as it did. -/
def chestTrueUptoRow : OpenClaim := { program := "ytoeigapilcgelaagreatdoor", sum := "24da5345fb031427fd02693760e0c1d2394500a6e0c709ab15aa6dd06f381927", func := "kelir/kelirlaw08.ChestTrue", spec := "chestTrue", inPlace := ["internal/bytealg.CountString", "internal/bytealg.IndexByteString", "internal/bytealg.IndexString", "internal/abi.NoEscape", "internal/bytealg.MakeNoZero"], unfollowed := true, recurses := true, named := ["unicode/utf8.first", "unicode/utf8.acceptRanges", "internal/bytealg.MaxLen", "internal/strconv.uint64pow10", "math/bits.deBruijn32tab", "math/bits.deBruijn64tab"], plainKeys := false, apart := false, laid := [("math/bits.deBruijn32tab", laid_math_bits_deBruijn32tab), ("math/bits.deBruijn64tab", laid_math_bits_deBruijn64tab), ("internal/strconv.uint64pow10", laid_internal_strconv_uint64pow10), ("unicode/utf8.acceptRanges", laid_unicode_utf8_acceptRanges), ("unicode/utf8.first", laid_unicode_utf8_first)], narrowed := true }
def ChestTrueUptoSaid : Prop := chestTrueUptoRow.holds Tryz.pinned (OpenSpec.upto chestTrueSpec)

/-- 'kelirlaw08.ChestOuts', WHERE WHAT IT READS IS OF BULK AT MOST 1048576: true; the input reads as it did. -/
def chestOutsUptoRow : OpenClaim := { program := "ytoeigapilcgelaagreatdoor", sum := "24da5345fb031427fd02693760e0c1d2394500a6e0c709ab15aa6dd06f381927", func := "kelir/kelirlaw08.ChestOuts", spec := "chestOuts", inPlace := ["internal/bytealg.CountString", "internal/bytealg.IndexByteString", "internal/bytealg.IndexString", "internal/abi.NoEscape", "internal/bytealg.MakeNoZero"], unfollowed := true, recurses := true, named := ["unicode/utf8.first", "unicode/utf8.acceptRanges", "internal/bytealg.MaxLen", "internal/strconv.uint64pow10", "math/bits.deBruijn32tab", "math/bits.deBruijn64tab"], plainKeys := false, apart := false, laid := [("math/bits.deBruijn32tab", laid_math_bits_deBruijn32tab), ("math/bits.deBruijn64tab", laid_math_bits_deBruijn64tab), ("internal/strconv.uint64pow10", laid_internal_strconv_uint64pow10), ("unicode/utf8.acceptRanges", laid_unicode_utf8_acceptRanges), ("unicode/utf8.first", laid_unicode_utf8_first)], narrowed := true }
def ChestOutsUptoSaid : Prop := chestOutsUptoRow.holds Tryz.pinned (OpenSpec.upto chestOutsSpec)

/-- 'kelirlaw08.ChestAbove', WHERE WHAT IT READS IS OF BULK AT MOST 1048576: true; the input reads as it did. -/
def chestAboveUptoRow : OpenClaim := { program := "ytoeigapilcgelaagreatdoor", sum := "24da5345fb031427fd02693760e0c1d2394500a6e0c709ab15aa6dd06f381927", func := "kelir/kelirlaw08.ChestAbove", spec := "chestAbove", inPlace := ["internal/bytealg.CountString", "internal/bytealg.IndexByteString", "internal/bytealg.IndexString", "internal/abi.NoEscape", "internal/bytealg.MakeNoZero"], unfollowed := true, recurses := true, named := ["unicode/utf8.first", "unicode/utf8.acceptRanges", "internal/bytealg.MaxLen", "internal/strconv.uint64pow10", "math/bits.deBruijn32tab", "math/bits.deBruijn64tab"], plainKeys := false, apart := false, laid := [("math/bits.deBruijn32tab", laid_math_bits_deBruijn32tab), ("math/bits.deBruijn64tab", laid_math_bits_deBruijn64tab), ("internal/strconv.uint64pow10", laid_internal_strconv_uint64pow10), ("unicode/utf8.acceptRanges", laid_unicode_utf8_acceptRanges), ("unicode/utf8.first", laid_unicode_utf8_first)], narrowed := true }
def ChestAboveUptoSaid : Prop := chestAboveUptoRow.holds Tryz.pinned (OpenSpec.upto chestAboveSpec)

/-- 'kelirlaw08.ChestEases', WHERE WHAT IT READS IS OF BULK AT MOST 1048576: true; the input reads as it did. -/
def chestEasesUptoRow : OpenClaim := { program := "ytoeigapilcgelaagreatdoor", sum := "24da5345fb031427fd02693760e0c1d2394500a6e0c709ab15aa6dd06f381927", func := "kelir/kelirlaw08.ChestEases", spec := "chestEases", inPlace := ["internal/bytealg.CountString", "internal/bytealg.IndexByteString", "internal/bytealg.IndexString", "internal/abi.NoEscape", "internal/bytealg.MakeNoZero"], unfollowed := true, recurses := true, named := ["unicode/utf8.first", "unicode/utf8.acceptRanges", "internal/bytealg.MaxLen", "internal/strconv.uint64pow10", "math/bits.deBruijn32tab", "math/bits.deBruijn64tab"], plainKeys := false, apart := false, laid := [("math/bits.deBruijn32tab", laid_math_bits_deBruijn32tab), ("math/bits.deBruijn64tab", laid_math_bits_deBruijn64tab), ("internal/strconv.uint64pow10", laid_internal_strconv_uint64pow10), ("unicode/utf8.acceptRanges", laid_unicode_utf8_acceptRanges), ("unicode/utf8.first", laid_unicode_utf8_first)], narrowed := true }
def ChestEasesUptoSaid : Prop := chestEasesUptoRow.holds Tryz.pinned (OpenSpec.upto chestEasesSpec)

/-- 'kelirlaw08.ChestLeast', WHERE WHAT IT READS IS OF BULK AT MOST 1048576: true; the input reads as it did. -/
def chestLeastUptoRow : OpenClaim := { program := "ytoeigapilcgelaagreatdoor", sum := "24da5345fb031427fd02693760e0c1d2394500a6e0c709ab15aa6dd06f381927", func := "kelir/kelirlaw08.ChestLeast", spec := "chestLeast", inPlace := ["internal/bytealg.CountString", "internal/bytealg.IndexByteString", "internal/bytealg.IndexString", "internal/abi.NoEscape", "internal/bytealg.MakeNoZero"], unfollowed := true, recurses := true, named := ["unicode/utf8.first", "unicode/utf8.acceptRanges", "internal/bytealg.MaxLen", "internal/strconv.uint64pow10", "math/bits.deBruijn32tab", "math/bits.deBruijn64tab"], plainKeys := false, apart := false, laid := [("math/bits.deBruijn32tab", laid_math_bits_deBruijn32tab), ("math/bits.deBruijn64tab", laid_math_bits_deBruijn64tab), ("internal/strconv.uint64pow10", laid_internal_strconv_uint64pow10), ("unicode/utf8.acceptRanges", laid_unicode_utf8_acceptRanges), ("unicode/utf8.first", laid_unicode_utf8_first)], narrowed := true }
def ChestLeastUptoSaid : Prop := chestLeastUptoRow.holds Tryz.pinned (OpenSpec.upto chestLeastSpec)

/-- 'kelirlaw08.ChestLaters', WHERE WHAT IT READS IS OF BULK AT MOST 1048576: true; the input reads as it did. -/
def chestLatersUptoRow : OpenClaim := { program := "ytoeigapilcgelaagreatdoor", sum := "24da5345fb031427fd02693760e0c1d2394500a6e0c709ab15aa6dd06f381927", func := "kelir/kelirlaw08.ChestLaters", spec := "chestLaters", inPlace := ["internal/bytealg.CountString", "internal/bytealg.IndexByteString", "internal/bytealg.IndexString", "internal/abi.NoEscape", "internal/bytealg.MakeNoZero"], unfollowed := true, recurses := true, named := ["unicode/utf8.first", "unicode/utf8.acceptRanges", "internal/bytealg.MaxLen", "internal/strconv.uint64pow10", "math/bits.deBruijn32tab", "math/bits.deBruijn64tab"], plainKeys := false, apart := false, laid := [("math/bits.deBruijn32tab", laid_math_bits_deBruijn32tab), ("math/bits.deBruijn64tab", laid_math_bits_deBruijn64tab), ("internal/strconv.uint64pow10", laid_internal_strconv_uint64pow10), ("unicode/utf8.acceptRanges", laid_unicode_utf8_acceptRanges), ("unicode/utf8.first", laid_unicode_utf8_first)], narrowed := true }
def ChestLatersUptoSaid : Prop := chestLatersUptoRow.holds Tryz.pinned (OpenSpec.upto chestLatersSpec)

/-- 'kelirlaw08.ChestMoved', WHERE WHAT IT READS IS OF BULK AT MOST 1048576: true; the input reads as it did. -/
def chestMovedUptoRow : OpenClaim := { program := "ytoeigapilcgelaagreatdoor", sum := "24da5345fb031427fd02693760e0c1d2394500a6e0c709ab15aa6dd06f381927", func := "kelir/kelirlaw08.ChestMoved", spec := "chestMoved", inPlace := ["internal/bytealg.CountString", "internal/bytealg.IndexByteString", "internal/bytealg.IndexString", "internal/abi.NoEscape", "internal/bytealg.MakeNoZero"], unfollowed := true, recurses := true, named := ["unicode/utf8.first", "unicode/utf8.acceptRanges", "internal/bytealg.MaxLen", "internal/strconv.uint64pow10", "math/bits.deBruijn32tab", "math/bits.deBruijn64tab"], plainKeys := false, apart := false, laid := [("math/bits.deBruijn32tab", laid_math_bits_deBruijn32tab), ("math/bits.deBruijn64tab", laid_math_bits_deBruijn64tab), ("internal/strconv.uint64pow10", laid_internal_strconv_uint64pow10), ("unicode/utf8.acceptRanges", laid_unicode_utf8_acceptRanges), ("unicode/utf8.first", laid_unicode_utf8_first)], narrowed := true }
def ChestMovedUptoSaid : Prop := chestMovedUptoRow.holds Tryz.pinned (OpenSpec.upto chestMovedSpec)

/-- 'kelirlaw08.ChestChests', WHERE WHAT IT READS IS OF BULK AT MOST 1048576: true; the input reads as it did. -/
def chestChestsUptoRow : OpenClaim := { program := "ytoeigapilcgelaagreatdoor", sum := "24da5345fb031427fd02693760e0c1d2394500a6e0c709ab15aa6dd06f381927", func := "kelir/kelirlaw08.ChestChests", spec := "chestChests", inPlace := ["internal/bytealg.CountString", "internal/bytealg.IndexByteString", "internal/bytealg.IndexString", "internal/abi.NoEscape", "internal/bytealg.MakeNoZero"], unfollowed := true, recurses := true, named := ["unicode/utf8.first", "unicode/utf8.acceptRanges", "internal/bytealg.MaxLen", "internal/strconv.uint64pow10", "math/bits.deBruijn32tab", "math/bits.deBruijn64tab"], plainKeys := false, apart := false, laid := [("math/bits.deBruijn32tab", laid_math_bits_deBruijn32tab), ("math/bits.deBruijn64tab", laid_math_bits_deBruijn64tab), ("internal/strconv.uint64pow10", laid_internal_strconv_uint64pow10), ("unicode/utf8.acceptRanges", laid_unicode_utf8_acceptRanges), ("unicode/utf8.first", laid_unicode_utf8_first)], narrowed := true }
def ChestChestsUptoSaid : Prop := chestChestsUptoRow.holds Tryz.pinned (OpenSpec.upto chestChestsSpec)

/-- 'kelirlaw08.ChestSplit', WHERE WHAT IT READS IS OF BULK AT MOST 1048576: true; the input reads as it did. -/
def chestSplitUptoRow : OpenClaim := { program := "ytoeigapilcgelaagreatdoor", sum := "24da5345fb031427fd02693760e0c1d2394500a6e0c709ab15aa6dd06f381927", func := "kelir/kelirlaw08.ChestSplit", spec := "chestSplit", inPlace := ["internal/bytealg.CountString", "internal/bytealg.IndexByteString", "internal/bytealg.IndexString", "internal/abi.NoEscape", "internal/bytealg.MakeNoZero"], unfollowed := true, recurses := true, named := ["unicode/utf8.first", "unicode/utf8.acceptRanges", "internal/bytealg.MaxLen", "internal/strconv.uint64pow10", "math/bits.deBruijn32tab", "math/bits.deBruijn64tab"], plainKeys := false, apart := false, laid := [("math/bits.deBruijn32tab", laid_math_bits_deBruijn32tab), ("math/bits.deBruijn64tab", laid_math_bits_deBruijn64tab), ("internal/strconv.uint64pow10", laid_internal_strconv_uint64pow10), ("unicode/utf8.acceptRanges", laid_unicode_utf8_acceptRanges), ("unicode/utf8.first", laid_unicode_utf8_first)], narrowed := true }
def ChestSplitUptoSaid : Prop := chestSplitUptoRow.holds Tryz.pinned (OpenSpec.upto chestSplitSpec)

/-- 'kelirlaw08.ChestClashes', WHERE WHAT IT READS IS OF BULK AT MOST 1048576: true; the input reads as it did. -/
def chestClashesUptoRow : OpenClaim := { program := "ytoeigapilcgelaagreatdoor", sum := "24da5345fb031427fd02693760e0c1d2394500a6e0c709ab15aa6dd06f381927", func := "kelir/kelirlaw08.ChestClashes", spec := "chestClashes", inPlace := ["internal/bytealg.CountString", "internal/bytealg.IndexByteString", "internal/bytealg.IndexString", "internal/abi.NoEscape", "internal/bytealg.MakeNoZero"], unfollowed := true, recurses := true, named := ["unicode/utf8.first", "unicode/utf8.acceptRanges", "internal/bytealg.MaxLen", "internal/strconv.uint64pow10", "math/bits.deBruijn32tab", "math/bits.deBruijn64tab"], plainKeys := false, apart := false, laid := [("math/bits.deBruijn32tab", laid_math_bits_deBruijn32tab), ("math/bits.deBruijn64tab", laid_math_bits_deBruijn64tab), ("internal/strconv.uint64pow10", laid_internal_strconv_uint64pow10), ("unicode/utf8.acceptRanges", laid_unicode_utf8_acceptRanges), ("unicode/utf8.first", laid_unicode_utf8_first)], narrowed := true }
def ChestClashesUptoSaid : Prop := chestClashesUptoRow.holds Tryz.pinned (OpenSpec.upto chestClashesSpec)

/-- 'kelirlaw08.ChestProven', WHERE WHAT IT READS IS OF BULK AT MOST 1048576: true; the input reads as it did. -/
def chestProvenUptoRow : OpenClaim := { program := "ytoeigapilcgelaagreatdoor", sum := "24da5345fb031427fd02693760e0c1d2394500a6e0c709ab15aa6dd06f381927", func := "kelir/kelirlaw08.ChestProven", spec := "chestProven", inPlace := ["internal/bytealg.CountString", "internal/bytealg.IndexByteString", "internal/bytealg.IndexString", "internal/abi.NoEscape", "internal/bytealg.MakeNoZero"], unfollowed := true, recurses := true, named := ["unicode/utf8.first", "unicode/utf8.acceptRanges", "internal/bytealg.MaxLen", "internal/strconv.uint64pow10", "math/bits.deBruijn32tab", "math/bits.deBruijn64tab"], plainKeys := false, apart := false, laid := [("math/bits.deBruijn32tab", laid_math_bits_deBruijn32tab), ("math/bits.deBruijn64tab", laid_math_bits_deBruijn64tab), ("internal/strconv.uint64pow10", laid_internal_strconv_uint64pow10), ("unicode/utf8.acceptRanges", laid_unicode_utf8_acceptRanges), ("unicode/utf8.first", laid_unicode_utf8_first)], narrowed := true }
def ChestProvenUptoSaid : Prop := chestProvenUptoRow.holds Tryz.pinned (OpenSpec.upto chestProvenSpec)

/-- 'kelirlaw08.ChestEnough', WHERE WHAT IT READS IS OF BULK AT MOST 1048576: true; the input reads as it did. -/
def chestEnoughUptoRow : OpenClaim := { program := "ytoeigapilcgelaagreatdoor", sum := "24da5345fb031427fd02693760e0c1d2394500a6e0c709ab15aa6dd06f381927", func := "kelir/kelirlaw08.ChestEnough", spec := "chestEnough", inPlace := ["internal/bytealg.CountString", "internal/bytealg.IndexByteString", "internal/bytealg.IndexString", "internal/abi.NoEscape", "internal/bytealg.MakeNoZero"], unfollowed := true, recurses := true, named := ["unicode/utf8.first", "unicode/utf8.acceptRanges", "internal/bytealg.MaxLen", "internal/strconv.uint64pow10", "math/bits.deBruijn32tab", "math/bits.deBruijn64tab"], plainKeys := false, apart := false, laid := [("math/bits.deBruijn32tab", laid_math_bits_deBruijn32tab), ("math/bits.deBruijn64tab", laid_math_bits_deBruijn64tab), ("internal/strconv.uint64pow10", laid_internal_strconv_uint64pow10), ("unicode/utf8.acceptRanges", laid_unicode_utf8_acceptRanges), ("unicode/utf8.first", laid_unicode_utf8_first)], narrowed := true }
def ChestEnoughUptoSaid : Prop := chestEnoughUptoRow.holds Tryz.pinned (OpenSpec.upto chestEnoughSpec)

/-- 'kelirlaw08.ChestMore', WHERE WHAT IT READS IS OF BULK AT MOST 1048576: true; the input reads as it did. -/
def chestMoreUptoRow : OpenClaim := { program := "ytoeigapilcgelaagreatdoor", sum := "24da5345fb031427fd02693760e0c1d2394500a6e0c709ab15aa6dd06f381927", func := "kelir/kelirlaw08.ChestMore", spec := "chestMore", inPlace := ["internal/bytealg.CountString", "internal/bytealg.IndexByteString", "internal/bytealg.IndexString", "internal/abi.NoEscape", "internal/bytealg.MakeNoZero"], unfollowed := true, recurses := true, named := ["unicode/utf8.first", "unicode/utf8.acceptRanges", "internal/bytealg.MaxLen", "internal/strconv.uint64pow10", "math/bits.deBruijn32tab", "math/bits.deBruijn64tab"], plainKeys := false, apart := false, laid := [("math/bits.deBruijn32tab", laid_math_bits_deBruijn32tab), ("math/bits.deBruijn64tab", laid_math_bits_deBruijn64tab), ("internal/strconv.uint64pow10", laid_internal_strconv_uint64pow10), ("unicode/utf8.acceptRanges", laid_unicode_utf8_acceptRanges), ("unicode/utf8.first", laid_unicode_utf8_first)], narrowed := true }
def ChestMoreUptoSaid : Prop := chestMoreUptoRow.holds Tryz.pinned (OpenSpec.upto chestMoreSpec)

/-- 'kelirlaw08.ChestWrongs', WHERE WHAT IT READS IS OF BULK AT MOST 1048576: true; the input reads as it did. -/
def chestWrongsUptoRow : OpenClaim := { program := "ytoeigapilcgelaagreatdoor", sum := "24da5345fb031427fd02693760e0c1d2394500a6e0c709ab15aa6dd06f381927", func := "kelir/kelirlaw08.ChestWrongs", spec := "chestWrongs", inPlace := ["internal/bytealg.CountString", "internal/bytealg.IndexByteString", "internal/bytealg.IndexString", "internal/abi.NoEscape", "internal/bytealg.MakeNoZero"], unfollowed := true, recurses := true, named := ["unicode/utf8.first", "unicode/utf8.acceptRanges", "internal/bytealg.MaxLen", "internal/strconv.uint64pow10", "math/bits.deBruijn32tab", "math/bits.deBruijn64tab"], plainKeys := false, apart := false, laid := [("math/bits.deBruijn32tab", laid_math_bits_deBruijn32tab), ("math/bits.deBruijn64tab", laid_math_bits_deBruijn64tab), ("internal/strconv.uint64pow10", laid_internal_strconv_uint64pow10), ("unicode/utf8.acceptRanges", laid_unicode_utf8_acceptRanges), ("unicode/utf8.first", laid_unicode_utf8_first)], narrowed := true }
def ChestWrongsUptoSaid : Prop := chestWrongsUptoRow.holds Tryz.pinned (OpenSpec.upto chestWrongsSpec)

/-- 'kelirlaw08.ChestPrints', WHERE WHAT IT READS IS OF BULK AT MOST 1048576: true; the input reads as it did. -/
def chestPrintsUptoRow : OpenClaim := { program := "ytoeigapilcgelaagreatdoor", sum := "24da5345fb031427fd02693760e0c1d2394500a6e0c709ab15aa6dd06f381927", func := "kelir/kelirlaw08.ChestPrints", spec := "chestPrints", inPlace := ["internal/bytealg.CountString", "internal/bytealg.IndexByteString", "internal/bytealg.IndexString", "internal/abi.NoEscape", "internal/bytealg.MakeNoZero"], unfollowed := true, recurses := true, named := ["unicode/utf8.first", "unicode/utf8.acceptRanges", "internal/bytealg.MaxLen", "internal/strconv.uint64pow10", "math/bits.deBruijn32tab", "math/bits.deBruijn64tab"], plainKeys := false, apart := false, laid := [("math/bits.deBruijn32tab", laid_math_bits_deBruijn32tab), ("math/bits.deBruijn64tab", laid_math_bits_deBruijn64tab), ("internal/strconv.uint64pow10", laid_internal_strconv_uint64pow10), ("unicode/utf8.acceptRanges", laid_unicode_utf8_acceptRanges), ("unicode/utf8.first", laid_unicode_utf8_first)], narrowed := true }
def ChestPrintsUptoSaid : Prop := chestPrintsUptoRow.holds Tryz.pinned (OpenSpec.upto chestPrintsSpec)

/-- 'kelirlaw08.ChestReads', WHERE WHAT IT READS IS OF BULK AT MOST 1048576: true; the input reads as it did. -/
def chestReadsUptoRow : OpenClaim := { program := "ytoeigapilcgelaagreatdoor", sum := "24da5345fb031427fd02693760e0c1d2394500a6e0c709ab15aa6dd06f381927", func := "kelir/kelirlaw08.ChestReads", spec := "chestReads", inPlace := ["internal/bytealg.CountString", "internal/bytealg.IndexByteString", "internal/bytealg.IndexString", "internal/abi.NoEscape", "internal/bytealg.MakeNoZero"], unfollowed := true, recurses := true, named := ["unicode/utf8.first", "unicode/utf8.acceptRanges", "internal/bytealg.MaxLen", "internal/strconv.uint64pow10", "math/bits.deBruijn32tab", "math/bits.deBruijn64tab"], plainKeys := false, apart := false, laid := [("math/bits.deBruijn32tab", laid_math_bits_deBruijn32tab), ("math/bits.deBruijn64tab", laid_math_bits_deBruijn64tab), ("internal/strconv.uint64pow10", laid_internal_strconv_uint64pow10), ("unicode/utf8.acceptRanges", laid_unicode_utf8_acceptRanges), ("unicode/utf8.first", laid_unicode_utf8_first)], narrowed := true }
def ChestReadsUptoSaid : Prop := chestReadsUptoRow.holds Tryz.pinned (OpenSpec.upto chestReadsSpec)

/-- 'kelirlaw08.ChestSpoilt', WHERE WHAT IT READS IS OF BULK AT MOST 1048576: true; the input reads as it did. -/
def chestSpoiltUptoRow : OpenClaim := { program := "ytoeigapilcgelaagreatdoor", sum := "24da5345fb031427fd02693760e0c1d2394500a6e0c709ab15aa6dd06f381927", func := "kelir/kelirlaw08.ChestSpoilt", spec := "chestSpoilt", inPlace := ["internal/bytealg.CountString", "internal/bytealg.IndexByteString", "internal/bytealg.IndexString", "internal/abi.NoEscape", "internal/bytealg.MakeNoZero"], unfollowed := true, recurses := true, named := ["unicode/utf8.first", "unicode/utf8.acceptRanges", "internal/bytealg.MaxLen", "internal/strconv.uint64pow10", "math/bits.deBruijn32tab", "math/bits.deBruijn64tab"], plainKeys := false, apart := false, laid := [("math/bits.deBruijn32tab", laid_math_bits_deBruijn32tab), ("math/bits.deBruijn64tab", laid_math_bits_deBruijn64tab), ("internal/strconv.uint64pow10", laid_internal_strconv_uint64pow10), ("unicode/utf8.acceptRanges", laid_unicode_utf8_acceptRanges), ("unicode/utf8.first", laid_unicode_utf8_first)], narrowed := true }
def ChestSpoiltUptoSaid : Prop := chestSpoiltUptoRow.holds Tryz.pinned (OpenSpec.upto chestSpoiltSpec)

end Rows
end Go.Proofs.YtoeigapilcgelaaGreatDoor
