/-
  NARROWER THAN 'FOR EVERY INPUT', by the rows' own cells (each row's printed sentence says how): DeltaValid: laid · DeltaDiffs: laid · DeltaApplies: laid · DeltaWays: laid · DeltaPlain: laid · DeltaThere: laid · DeltaNothing: laid · DeltaByWay: laid · DeltaLines: laid · DeltaLeast: laid · DeltaOwn: laid.
  DERIVED. THE GIVEN ROWS OF THIS SEAT. 11 by the template 'for every input the law returns true; each argument reads behind the call as it read before'; 0 by the template 'total and deterministic' (their statements: YtaepllhjnbencaaGreatDoorTotals.lean).
  GIVEN WITH THE SEED: the statements are not yours to turn. If you find one false, say at which input.
  Laid BY PROGRAM, IN A SANDBOX (cutbox-rows.mjs): the forced cells as the released guide's own fill.sh prints them over the translation 42f88be8b9eef71e… (all of the seat's roots in one cut). By AI agents, Wed Nov 11 2026. No macro, syntax, notation, axiom, sorry.
-/
import Derived.Test.YtaepllhjnbencaaGreatDoorChecked
import GoSem.Claim
import GoSem.ClaimJoined
import GoSem.ClaimMapViews
import Derived.JoinedTies
import Derived.KernelRfl
namespace Go.Proofs.YtaepllhjnbencaaGreatDoor
/- THE CELL 'sum', in the pinned program and in every row, IS THE sha256 OF THE DUMP (.gsa) THAT YtaepllhjnbencaaGreatDoorProg.lean LOADS. Nothing in Lean hashes anything: it is a label: what it is worth is what the hold of that sum in a sandbox is worth. -/
noncomputable def Tryz.pinned : Pinned := { name := "ytaepllhjnbencaagreatdoor", sum := "42f88be8b9eef71e9f738c4516ecf7c7a00d89c53ee717dde5d5ef17f62bb5ee", checked := Tryz.checked }
namespace Rows
def none {H : Type} : Left H := { results := [], args := [] }

/- WHAT THE LISTED PACKAGE-LEVEL VARIABLES READ AS WHEN THE CALL BEGINS. Each datum BY PROGRAM (the guide's laid-datum.mjs) off the statement by which the dump's own 'gosem.cut.vars' lays the variable. In a bare row this is a premise. The card (YtaepllhjnbencaaGreatDoorCards.lean) ties it to the program's text. -/
def laid_math_bits_deBruijn32tab {H : Type} : DataW H := .agg [.lit (.int .u8 0), .lit (.int .u8 1), .lit (.int .u8 28), .lit (.int .u8 2), .lit (.int .u8 29), .lit (.int .u8 14), .lit (.int .u8 24), .lit (.int .u8 3), .lit (.int .u8 30), .lit (.int .u8 22), .lit (.int .u8 20), .lit (.int .u8 15), .lit (.int .u8 25), .lit (.int .u8 17), .lit (.int .u8 4), .lit (.int .u8 8), .lit (.int .u8 31), .lit (.int .u8 27), .lit (.int .u8 13), .lit (.int .u8 23), .lit (.int .u8 21), .lit (.int .u8 19), .lit (.int .u8 16), .lit (.int .u8 7), .lit (.int .u8 26), .lit (.int .u8 12), .lit (.int .u8 18), .lit (.int .u8 6), .lit (.int .u8 11), .lit (.int .u8 5), .lit (.int .u8 10), .lit (.int .u8 9)]
def laid_math_bits_deBruijn64tab {H : Type} : DataW H := .agg [.lit (.int .u8 0), .lit (.int .u8 1), .lit (.int .u8 56), .lit (.int .u8 2), .lit (.int .u8 57), .lit (.int .u8 49), .lit (.int .u8 28), .lit (.int .u8 3), .lit (.int .u8 61), .lit (.int .u8 58), .lit (.int .u8 42), .lit (.int .u8 50), .lit (.int .u8 38), .lit (.int .u8 29), .lit (.int .u8 17), .lit (.int .u8 4), .lit (.int .u8 62), .lit (.int .u8 47), .lit (.int .u8 59), .lit (.int .u8 36), .lit (.int .u8 45), .lit (.int .u8 43), .lit (.int .u8 51), .lit (.int .u8 22), .lit (.int .u8 53), .lit (.int .u8 39), .lit (.int .u8 33), .lit (.int .u8 30), .lit (.int .u8 24), .lit (.int .u8 18), .lit (.int .u8 12), .lit (.int .u8 5), .lit (.int .u8 63), .lit (.int .u8 55), .lit (.int .u8 48), .lit (.int .u8 27), .lit (.int .u8 60), .lit (.int .u8 41), .lit (.int .u8 37), .lit (.int .u8 16), .lit (.int .u8 46), .lit (.int .u8 35), .lit (.int .u8 44), .lit (.int .u8 21), .lit (.int .u8 52), .lit (.int .u8 32), .lit (.int .u8 23), .lit (.int .u8 11), .lit (.int .u8 54), .lit (.int .u8 26), .lit (.int .u8 40), .lit (.int .u8 15), .lit (.int .u8 34), .lit (.int .u8 20), .lit (.int .u8 31), .lit (.int .u8 10), .lit (.int .u8 25), .lit (.int .u8 14), .lit (.int .u8 19), .lit (.int .u8 9), .lit (.int .u8 13), .lit (.int .u8 8), .lit (.int .u8 7), .lit (.int .u8 6)]
def laid_internal_strconv_uint64pow10 {H : Type} : DataW H := .agg [.lit (.int .u64 1), .lit (.int .u64 10), .lit (.int .u64 100), .lit (.int .u64 1000), .lit (.int .u64 10000), .lit (.int .u64 100000), .lit (.int .u64 1000000), .lit (.int .u64 10000000), .lit (.int .u64 100000000), .lit (.int .u64 1000000000), .lit (.int .u64 10000000000), .lit (.int .u64 100000000000), .lit (.int .u64 1000000000000), .lit (.int .u64 10000000000000), .lit (.int .u64 100000000000000), .lit (.int .u64 1000000000000000), .lit (.int .u64 10000000000000000), .lit (.int .u64 100000000000000000), .lit (.int .u64 1000000000000000000), .lit (.int .u64 10000000000000000000)]
def laid_strconv_ErrRange {H : Type} : DataW H := .iface "*errors.errorString" (.ptr (.agg [.lit (.string [118, 97, 108, 117, 101, 32, 111, 117, 116, 32, 111, 102, 32, 114, 97, 110, 103, 101])]))
def laid_strconv_ErrSyntax {H : Type} : DataW H := .iface "*errors.errorString" (.ptr (.agg [.lit (.string [105, 110, 118, 97, 108, 105, 100, 32, 115, 121, 110, 116, 97, 120])]))

/-- 'mullionlaw08.DeltaValid': WHATEVER THE INPUT: true; the input reads as it did. -/
def deltaValidSpec : ChangeSpec := { name := "deltaValid", fn := fun _ => fun
  | [d] => { results := [.lit (.bool true)], args := [d] }
  | _ => none }
def deltaValidRow : OpenClaim := { program := "ytaepllhjnbencaagreatdoor", sum := "42f88be8b9eef71e9f738c4516ecf7c7a00d89c53ee717dde5d5ef17f62bb5ee", func := "mullion/mullionlaw08.DeltaValid", spec := "deltaValid", inPlace := ["internal/bytealg.IndexByteString", "internal/abi.NoEscape", "slices.overlaps[mullion/api.Window]", "slices.overlaps[mullion/api.Session]", "slices.overlaps[mullion/api.Link]"], unfollowed := true, recurses := true, named := ["internal/strconv.uint64pow10", "math/bits.deBruijn32tab", "math/bits.deBruijn64tab", "strconv.ErrSyntax", "strconv.ErrRange"], apart := false, laid := [("math/bits.deBruijn32tab", laid_math_bits_deBruijn32tab), ("math/bits.deBruijn64tab", laid_math_bits_deBruijn64tab), ("internal/strconv.uint64pow10", laid_internal_strconv_uint64pow10), ("strconv.ErrRange", laid_strconv_ErrRange), ("strconv.ErrSyntax", laid_strconv_ErrSyntax)] }
def DeltaValidSaid : Prop := deltaValidRow.holds Tryz.pinned (OpenSpec.ofChange deltaValidSpec)

/-- ITS FALSE NEIGHBOUR: 'it returns false'. Refute it at one input. -/
def deltaValidWrong : ChangeSpec := { name := "deltaValid", fn := fun _ => fun
  | [d] => { results := [.lit (.bool false)], args := [d] }
  | _ => none }
def DeltaValidWrongFalsely : Prop := deltaValidRow.holds Tryz.pinned (OpenSpec.ofChange deltaValidWrong)

/-- 'mullionlaw08.DeltaDiffs': WHATEVER THE INPUT: true; the input reads as it did. -/
def deltaDiffsSpec : ChangeSpec := { name := "deltaDiffs", fn := fun _ => fun
  | [d1, d2] => { results := [.lit (.bool true)], args := [d1, d2] }
  | _ => none }
def deltaDiffsRow : OpenClaim := { program := "ytaepllhjnbencaagreatdoor", sum := "42f88be8b9eef71e9f738c4516ecf7c7a00d89c53ee717dde5d5ef17f62bb5ee", func := "mullion/mullionlaw08.DeltaDiffs", spec := "deltaDiffs", inPlace := ["internal/bytealg.IndexByteString", "internal/abi.NoEscape", "slices.overlaps[mullion/api.Window]", "slices.overlaps[mullion/api.Session]", "slices.overlaps[mullion/api.Link]"], unfollowed := true, recurses := true, named := ["internal/strconv.uint64pow10", "math/bits.deBruijn32tab", "math/bits.deBruijn64tab", "strconv.ErrSyntax", "strconv.ErrRange"], apart := false, laid := [("math/bits.deBruijn32tab", laid_math_bits_deBruijn32tab), ("math/bits.deBruijn64tab", laid_math_bits_deBruijn64tab), ("internal/strconv.uint64pow10", laid_internal_strconv_uint64pow10), ("strconv.ErrRange", laid_strconv_ErrRange), ("strconv.ErrSyntax", laid_strconv_ErrSyntax)] }
def DeltaDiffsSaid : Prop := deltaDiffsRow.holds Tryz.pinned (OpenSpec.ofChange deltaDiffsSpec)

/-- ITS FALSE NEIGHBOUR: 'it returns false'. Refute it at one input. -/
def deltaDiffsWrong : ChangeSpec := { name := "deltaDiffs", fn := fun _ => fun
  | [d1, d2] => { results := [.lit (.bool false)], args := [d1, d2] }
  | _ => none }
def DeltaDiffsWrongFalsely : Prop := deltaDiffsRow.holds Tryz.pinned (OpenSpec.ofChange deltaDiffsWrong)

/-- 'mullionlaw08.DeltaApplies': WHATEVER THE INPUT: true; the input reads as it did. -/
def deltaAppliesSpec : ChangeSpec := { name := "deltaApplies", fn := fun _ => fun
  | [d1, d2] => { results := [.lit (.bool true)], args := [d1, d2] }
  | _ => none }
def deltaAppliesRow : OpenClaim := { program := "ytaepllhjnbencaagreatdoor", sum := "42f88be8b9eef71e9f738c4516ecf7c7a00d89c53ee717dde5d5ef17f62bb5ee", func := "mullion/mullionlaw08.DeltaApplies", spec := "deltaApplies", inPlace := ["internal/bytealg.IndexByteString", "slices.overlaps[mullion/api.Window]", "slices.overlaps[mullion/api.Session]", "slices.overlaps[mullion/api.Link]", "internal/abi.NoEscape"], unfollowed := true, recurses := true, named := ["strconv.ErrSyntax", "strconv.ErrRange", "internal/strconv.uint64pow10", "math/bits.deBruijn32tab", "math/bits.deBruijn64tab"], apart := false, laid := [("math/bits.deBruijn32tab", laid_math_bits_deBruijn32tab), ("math/bits.deBruijn64tab", laid_math_bits_deBruijn64tab), ("internal/strconv.uint64pow10", laid_internal_strconv_uint64pow10), ("strconv.ErrRange", laid_strconv_ErrRange), ("strconv.ErrSyntax", laid_strconv_ErrSyntax)] }
def DeltaAppliesSaid : Prop := deltaAppliesRow.holds Tryz.pinned (OpenSpec.ofChange deltaAppliesSpec)

/-- ITS FALSE NEIGHBOUR: 'it returns false'. Refute it at one input. -/
def deltaAppliesWrong : ChangeSpec := { name := "deltaApplies", fn := fun _ => fun
  | [d1, d2] => { results := [.lit (.bool false)], args := [d1, d2] }
  | _ => none }
def DeltaAppliesWrongFalsely : Prop := deltaAppliesRow.holds Tryz.pinned (OpenSpec.ofChange deltaAppliesWrong)

/-- 'mullionlaw08.DeltaWays': WHATEVER THE INPUT: true; the input reads as it did. -/
def deltaWaysSpec : ChangeSpec := { name := "deltaWays", fn := fun _ => fun
  | [d1, d2] => { results := [.lit (.bool true)], args := [d1, d2] }
  | _ => none }
def deltaWaysRow : OpenClaim := { program := "ytaepllhjnbencaagreatdoor", sum := "42f88be8b9eef71e9f738c4516ecf7c7a00d89c53ee717dde5d5ef17f62bb5ee", func := "mullion/mullionlaw08.DeltaWays", spec := "deltaWays", inPlace := ["internal/bytealg.IndexByteString", "internal/abi.NoEscape", "slices.overlaps[mullion/api.Window]", "slices.overlaps[mullion/api.Session]", "slices.overlaps[mullion/api.Link]"], unfollowed := true, recurses := true, named := ["internal/strconv.uint64pow10", "math/bits.deBruijn32tab", "math/bits.deBruijn64tab", "strconv.ErrSyntax", "strconv.ErrRange"], apart := false, laid := [("math/bits.deBruijn32tab", laid_math_bits_deBruijn32tab), ("math/bits.deBruijn64tab", laid_math_bits_deBruijn64tab), ("internal/strconv.uint64pow10", laid_internal_strconv_uint64pow10), ("strconv.ErrRange", laid_strconv_ErrRange), ("strconv.ErrSyntax", laid_strconv_ErrSyntax)] }
def DeltaWaysSaid : Prop := deltaWaysRow.holds Tryz.pinned (OpenSpec.ofChange deltaWaysSpec)

/-- ITS FALSE NEIGHBOUR: 'it returns false'. Refute it at one input. -/
def deltaWaysWrong : ChangeSpec := { name := "deltaWays", fn := fun _ => fun
  | [d1, d2] => { results := [.lit (.bool false)], args := [d1, d2] }
  | _ => none }
def DeltaWaysWrongFalsely : Prop := deltaWaysRow.holds Tryz.pinned (OpenSpec.ofChange deltaWaysWrong)

/-- 'mullionlaw08.DeltaPlain': WHATEVER THE INPUT: true; the input reads as it did. -/
def deltaPlainSpec : ChangeSpec := { name := "deltaPlain", fn := fun _ => fun
  | [d] => { results := [.lit (.bool true)], args := [d] }
  | _ => none }
def deltaPlainRow : OpenClaim := { program := "ytaepllhjnbencaagreatdoor", sum := "42f88be8b9eef71e9f738c4516ecf7c7a00d89c53ee717dde5d5ef17f62bb5ee", func := "mullion/mullionlaw08.DeltaPlain", spec := "deltaPlain", inPlace := ["internal/bytealg.IndexByteString", "internal/abi.NoEscape", "slices.overlaps[mullion/api.Window]", "slices.overlaps[mullion/api.Session]", "slices.overlaps[mullion/api.Link]"], unfollowed := true, recurses := true, named := ["internal/strconv.uint64pow10", "math/bits.deBruijn32tab", "math/bits.deBruijn64tab", "strconv.ErrSyntax", "strconv.ErrRange"], apart := false, laid := [("math/bits.deBruijn32tab", laid_math_bits_deBruijn32tab), ("math/bits.deBruijn64tab", laid_math_bits_deBruijn64tab), ("internal/strconv.uint64pow10", laid_internal_strconv_uint64pow10), ("strconv.ErrRange", laid_strconv_ErrRange), ("strconv.ErrSyntax", laid_strconv_ErrSyntax)] }
def DeltaPlainSaid : Prop := deltaPlainRow.holds Tryz.pinned (OpenSpec.ofChange deltaPlainSpec)

/-- ITS FALSE NEIGHBOUR: 'it returns false'. Refute it at one input. -/
def deltaPlainWrong : ChangeSpec := { name := "deltaPlain", fn := fun _ => fun
  | [d] => { results := [.lit (.bool false)], args := [d] }
  | _ => none }
def DeltaPlainWrongFalsely : Prop := deltaPlainRow.holds Tryz.pinned (OpenSpec.ofChange deltaPlainWrong)

/-- 'mullionlaw08.DeltaThere': WHATEVER THE INPUT: true; the input reads as it did. -/
def deltaThereSpec : ChangeSpec := { name := "deltaThere", fn := fun _ => fun
  | [d1, d2] => { results := [.lit (.bool true)], args := [d1, d2] }
  | _ => none }
def deltaThereRow : OpenClaim := { program := "ytaepllhjnbencaagreatdoor", sum := "42f88be8b9eef71e9f738c4516ecf7c7a00d89c53ee717dde5d5ef17f62bb5ee", func := "mullion/mullionlaw08.DeltaThere", spec := "deltaThere", inPlace := ["internal/bytealg.IndexByteString", "internal/abi.NoEscape", "slices.overlaps[mullion/api.Window]", "slices.overlaps[mullion/api.Session]", "slices.overlaps[mullion/api.Link]"], unfollowed := true, recurses := true, named := ["internal/strconv.uint64pow10", "math/bits.deBruijn32tab", "math/bits.deBruijn64tab", "strconv.ErrSyntax", "strconv.ErrRange"], apart := false, laid := [("math/bits.deBruijn32tab", laid_math_bits_deBruijn32tab), ("math/bits.deBruijn64tab", laid_math_bits_deBruijn64tab), ("internal/strconv.uint64pow10", laid_internal_strconv_uint64pow10), ("strconv.ErrRange", laid_strconv_ErrRange), ("strconv.ErrSyntax", laid_strconv_ErrSyntax)] }
def DeltaThereSaid : Prop := deltaThereRow.holds Tryz.pinned (OpenSpec.ofChange deltaThereSpec)

/-- ITS FALSE NEIGHBOUR: 'it returns false'. Refute it at one input. -/
def deltaThereWrong : ChangeSpec := { name := "deltaThere", fn := fun _ => fun
  | [d1, d2] => { results := [.lit (.bool false)], args := [d1, d2] }
  | _ => none }
def DeltaThereWrongFalsely : Prop := deltaThereRow.holds Tryz.pinned (OpenSpec.ofChange deltaThereWrong)

/-- 'mullionlaw08.DeltaNothing': WHATEVER THE INPUT: true; the input reads as it did. -/
def deltaNothingSpec : ChangeSpec := { name := "deltaNothing", fn := fun _ => fun
  | [d1, d2] => { results := [.lit (.bool true)], args := [d1, d2] }
  | _ => none }
def deltaNothingRow : OpenClaim := { program := "ytaepllhjnbencaagreatdoor", sum := "42f88be8b9eef71e9f738c4516ecf7c7a00d89c53ee717dde5d5ef17f62bb5ee", func := "mullion/mullionlaw08.DeltaNothing", spec := "deltaNothing", inPlace := ["internal/bytealg.IndexByteString", "internal/abi.NoEscape", "slices.overlaps[mullion/api.Window]", "slices.overlaps[mullion/api.Session]", "slices.overlaps[mullion/api.Link]"], unfollowed := true, recurses := true, named := ["internal/strconv.uint64pow10", "math/bits.deBruijn32tab", "math/bits.deBruijn64tab", "strconv.ErrSyntax", "strconv.ErrRange"], apart := false, laid := [("math/bits.deBruijn32tab", laid_math_bits_deBruijn32tab), ("math/bits.deBruijn64tab", laid_math_bits_deBruijn64tab), ("internal/strconv.uint64pow10", laid_internal_strconv_uint64pow10), ("strconv.ErrRange", laid_strconv_ErrRange), ("strconv.ErrSyntax", laid_strconv_ErrSyntax)] }
def DeltaNothingSaid : Prop := deltaNothingRow.holds Tryz.pinned (OpenSpec.ofChange deltaNothingSpec)

/-- ITS FALSE NEIGHBOUR: 'it returns false'. Refute it at one input. -/
def deltaNothingWrong : ChangeSpec := { name := "deltaNothing", fn := fun _ => fun
  | [d1, d2] => { results := [.lit (.bool false)], args := [d1, d2] }
  | _ => none }
def DeltaNothingWrongFalsely : Prop := deltaNothingRow.holds Tryz.pinned (OpenSpec.ofChange deltaNothingWrong)

/-- 'mullionlaw08.DeltaByWay': WHATEVER THE INPUT: true; the input reads as it did. -/
def deltaByWaySpec : ChangeSpec := { name := "deltaByWay", fn := fun _ => fun
  | [d1, d2, d3] => { results := [.lit (.bool true)], args := [d1, d2, d3] }
  | _ => none }
def deltaByWayRow : OpenClaim := { program := "ytaepllhjnbencaagreatdoor", sum := "42f88be8b9eef71e9f738c4516ecf7c7a00d89c53ee717dde5d5ef17f62bb5ee", func := "mullion/mullionlaw08.DeltaByWay", spec := "deltaByWay", inPlace := ["internal/bytealg.IndexByteString", "internal/abi.NoEscape", "slices.overlaps[mullion/api.Window]", "slices.overlaps[mullion/api.Session]", "slices.overlaps[mullion/api.Link]"], unfollowed := true, recurses := true, named := ["internal/strconv.uint64pow10", "math/bits.deBruijn32tab", "math/bits.deBruijn64tab", "strconv.ErrSyntax", "strconv.ErrRange"], apart := false, laid := [("math/bits.deBruijn32tab", laid_math_bits_deBruijn32tab), ("math/bits.deBruijn64tab", laid_math_bits_deBruijn64tab), ("internal/strconv.uint64pow10", laid_internal_strconv_uint64pow10), ("strconv.ErrRange", laid_strconv_ErrRange), ("strconv.ErrSyntax", laid_strconv_ErrSyntax)] }
def DeltaByWaySaid : Prop := deltaByWayRow.holds Tryz.pinned (OpenSpec.ofChange deltaByWaySpec)

/-- ITS FALSE NEIGHBOUR: 'it returns false'. Refute it at one input. -/
def deltaByWayWrong : ChangeSpec := { name := "deltaByWay", fn := fun _ => fun
  | [d1, d2, d3] => { results := [.lit (.bool false)], args := [d1, d2, d3] }
  | _ => none }
def DeltaByWayWrongFalsely : Prop := deltaByWayRow.holds Tryz.pinned (OpenSpec.ofChange deltaByWayWrong)

/-- 'mullionlaw08.DeltaLines': WHATEVER THE INPUT: true; the input reads as it did. -/
def deltaLinesSpec : ChangeSpec := { name := "deltaLines", fn := fun _ => fun
  | [d1, d2] => { results := [.lit (.bool true)], args := [d1, d2] }
  | _ => none }
def deltaLinesRow : OpenClaim := { program := "ytaepllhjnbencaagreatdoor", sum := "42f88be8b9eef71e9f738c4516ecf7c7a00d89c53ee717dde5d5ef17f62bb5ee", func := "mullion/mullionlaw08.DeltaLines", spec := "deltaLines", inPlace := ["internal/bytealg.IndexByteString", "internal/abi.NoEscape", "slices.overlaps[mullion/api.Window]", "slices.overlaps[mullion/api.Session]", "slices.overlaps[mullion/api.Link]"], unfollowed := true, recurses := true, named := ["internal/strconv.uint64pow10", "math/bits.deBruijn32tab", "math/bits.deBruijn64tab", "strconv.ErrSyntax", "strconv.ErrRange"], apart := false, laid := [("math/bits.deBruijn32tab", laid_math_bits_deBruijn32tab), ("math/bits.deBruijn64tab", laid_math_bits_deBruijn64tab), ("internal/strconv.uint64pow10", laid_internal_strconv_uint64pow10), ("strconv.ErrRange", laid_strconv_ErrRange), ("strconv.ErrSyntax", laid_strconv_ErrSyntax)] }
def DeltaLinesSaid : Prop := deltaLinesRow.holds Tryz.pinned (OpenSpec.ofChange deltaLinesSpec)

/-- ITS FALSE NEIGHBOUR: 'it returns false'. Refute it at one input. -/
def deltaLinesWrong : ChangeSpec := { name := "deltaLines", fn := fun _ => fun
  | [d1, d2] => { results := [.lit (.bool false)], args := [d1, d2] }
  | _ => none }
def DeltaLinesWrongFalsely : Prop := deltaLinesRow.holds Tryz.pinned (OpenSpec.ofChange deltaLinesWrong)

/-- 'mullionlaw08.DeltaLeast': WHATEVER THE INPUT: true; the input reads as it did. -/
def deltaLeastSpec : ChangeSpec := { name := "deltaLeast", fn := fun _ => fun
  | [d1, d2, d3] => { results := [.lit (.bool true)], args := [d1, d2, d3] }
  | _ => none }
def deltaLeastRow : OpenClaim := { program := "ytaepllhjnbencaagreatdoor", sum := "42f88be8b9eef71e9f738c4516ecf7c7a00d89c53ee717dde5d5ef17f62bb5ee", func := "mullion/mullionlaw08.DeltaLeast", spec := "deltaLeast", inPlace := ["internal/bytealg.IndexByteString", "internal/abi.NoEscape", "slices.overlaps[mullion/api.Window]", "slices.overlaps[mullion/api.Session]", "slices.overlaps[mullion/api.Link]"], unfollowed := true, recurses := true, named := ["internal/strconv.uint64pow10", "math/bits.deBruijn32tab", "math/bits.deBruijn64tab", "strconv.ErrSyntax", "strconv.ErrRange"], apart := false, laid := [("math/bits.deBruijn32tab", laid_math_bits_deBruijn32tab), ("math/bits.deBruijn64tab", laid_math_bits_deBruijn64tab), ("internal/strconv.uint64pow10", laid_internal_strconv_uint64pow10), ("strconv.ErrRange", laid_strconv_ErrRange), ("strconv.ErrSyntax", laid_strconv_ErrSyntax)] }
def DeltaLeastSaid : Prop := deltaLeastRow.holds Tryz.pinned (OpenSpec.ofChange deltaLeastSpec)

/-- ITS FALSE NEIGHBOUR: 'it returns false'. Refute it at one input. -/
def deltaLeastWrong : ChangeSpec := { name := "deltaLeast", fn := fun _ => fun
  | [d1, d2, d3] => { results := [.lit (.bool false)], args := [d1, d2, d3] }
  | _ => none }
def DeltaLeastWrongFalsely : Prop := deltaLeastRow.holds Tryz.pinned (OpenSpec.ofChange deltaLeastWrong)

/-- 'mullionlaw08.DeltaOwn': WHATEVER THE INPUT: true; the input reads as it did. -/
def deltaOwnSpec : ChangeSpec := { name := "deltaOwn", fn := fun _ => fun
  | [d1, d2, d3] => { results := [.lit (.bool true)], args := [d1, d2, d3] }
  | _ => none }
def deltaOwnRow : OpenClaim := { program := "ytaepllhjnbencaagreatdoor", sum := "42f88be8b9eef71e9f738c4516ecf7c7a00d89c53ee717dde5d5ef17f62bb5ee", func := "mullion/mullionlaw08.DeltaOwn", spec := "deltaOwn", inPlace := ["internal/bytealg.IndexByteString", "slices.overlaps[mullion/api.Window]", "slices.overlaps[mullion/api.Session]", "slices.overlaps[mullion/api.Link]", "internal/abi.NoEscape"], unfollowed := true, recurses := true, named := ["strconv.ErrSyntax", "strconv.ErrRange", "internal/strconv.uint64pow10", "math/bits.deBruijn32tab", "math/bits.deBruijn64tab"], apart := false, laid := [("math/bits.deBruijn32tab", laid_math_bits_deBruijn32tab), ("math/bits.deBruijn64tab", laid_math_bits_deBruijn64tab), ("internal/strconv.uint64pow10", laid_internal_strconv_uint64pow10), ("strconv.ErrRange", laid_strconv_ErrRange), ("strconv.ErrSyntax", laid_strconv_ErrSyntax)] }
def DeltaOwnSaid : Prop := deltaOwnRow.holds Tryz.pinned (OpenSpec.ofChange deltaOwnSpec)

/-- ITS FALSE NEIGHBOUR: 'it returns false'. Refute it at one input. -/
def deltaOwnWrong : ChangeSpec := { name := "deltaOwn", fn := fun _ => fun
  | [d1, d2, d3] => { results := [.lit (.bool false)], args := [d1, d2, d3] }
  | _ => none }
def DeltaOwnWrongFalsely : Prop := deltaOwnRow.holds Tryz.pinned (OpenSpec.ofChange deltaOwnWrong)

/- THE SECOND FORM. 'bulk': how many values and letters a reading holds, each counted each time it is reached (what is shared counts as often as it is met; a slice's spare places count too). A statement '..UptoSaid' is the law's where the arguments, and the package variables that the reading takes, are together of bulk at most 1048576: NARROWER than '..Said'. Prove '..Said' where nothing that the law and all that it calls make is longer than what came in: it says more and counts as full. Else prove '..UptoSaid'. A law counts once. -/
mutual
def uptoBulk {H : Type} : DataW H → Nat
  | .lit (.string bytes) => bytes.length + 1
  | .lit _ => 1
  | .nil => 1
  | .ptr d => uptoBulk d + 1
  | .slice elems spare => uptoBulkAll elems + uptoBulkAll spare + 1
  | .agg parts => uptoBulkAll parts + 1
  | .iface _ d => uptoBulk d + 1
  | .map entries => uptoBulkEntries entries + 1
  | .held _ => 1
def uptoBulkAll {H : Type} : List (DataW H) → Nat
  | [] => 0
  | d :: r => uptoBulk d + uptoBulkAll r
def uptoBulkEntries {H : Type} : List (Lit × DataW H) → Nat
  | [] => 0
  | x :: r => uptoBulkEntry x + uptoBulkEntries r
def uptoBulkEntry {H : Type} : Lit × DataW H → Nat
  | (.string bytes, d) => bytes.length + uptoBulk d + 1
  | (_, d) => uptoBulk d + 1
 end
def uptoSmall : (H : Type) → List (DataW H) → Bool := fun _ ds => decide (uptoBulkAll ds ≤ 1048576)
def OpenSpec.upto (s : _root_.Go.ChangeSpec) : _root_.Go.OpenSpec := { _root_.Go.OpenSpec.ofChange s with cond := some uptoSmall }

/-- 'mullionlaw08.DeltaValid', WHERE WHAT IT READS IS OF BULK AT MOST 1048576: true; the input reads as it did. -/
def deltaValidUptoRow : OpenClaim := { program := "ytaepllhjnbencaagreatdoor", sum := "42f88be8b9eef71e9f738c4516ecf7c7a00d89c53ee717dde5d5ef17f62bb5ee", func := "mullion/mullionlaw08.DeltaValid", spec := "deltaValid", inPlace := ["internal/bytealg.IndexByteString", "internal/abi.NoEscape", "slices.overlaps[mullion/api.Window]", "slices.overlaps[mullion/api.Session]", "slices.overlaps[mullion/api.Link]"], unfollowed := true, recurses := true, named := ["internal/strconv.uint64pow10", "math/bits.deBruijn32tab", "math/bits.deBruijn64tab", "strconv.ErrSyntax", "strconv.ErrRange"], apart := false, laid := [("math/bits.deBruijn32tab", laid_math_bits_deBruijn32tab), ("math/bits.deBruijn64tab", laid_math_bits_deBruijn64tab), ("internal/strconv.uint64pow10", laid_internal_strconv_uint64pow10), ("strconv.ErrRange", laid_strconv_ErrRange), ("strconv.ErrSyntax", laid_strconv_ErrSyntax)], narrowed := true }
def DeltaValidUptoSaid : Prop := deltaValidUptoRow.holds Tryz.pinned (OpenSpec.upto deltaValidSpec)

/-- 'mullionlaw08.DeltaDiffs', WHERE WHAT IT READS IS OF BULK AT MOST 1048576: true; the input reads as it did. -/
def deltaDiffsUptoRow : OpenClaim := { program := "ytaepllhjnbencaagreatdoor", sum := "42f88be8b9eef71e9f738c4516ecf7c7a00d89c53ee717dde5d5ef17f62bb5ee", func := "mullion/mullionlaw08.DeltaDiffs", spec := "deltaDiffs", inPlace := ["internal/bytealg.IndexByteString", "internal/abi.NoEscape", "slices.overlaps[mullion/api.Window]", "slices.overlaps[mullion/api.Session]", "slices.overlaps[mullion/api.Link]"], unfollowed := true, recurses := true, named := ["internal/strconv.uint64pow10", "math/bits.deBruijn32tab", "math/bits.deBruijn64tab", "strconv.ErrSyntax", "strconv.ErrRange"], apart := false, laid := [("math/bits.deBruijn32tab", laid_math_bits_deBruijn32tab), ("math/bits.deBruijn64tab", laid_math_bits_deBruijn64tab), ("internal/strconv.uint64pow10", laid_internal_strconv_uint64pow10), ("strconv.ErrRange", laid_strconv_ErrRange), ("strconv.ErrSyntax", laid_strconv_ErrSyntax)], narrowed := true }
def DeltaDiffsUptoSaid : Prop := deltaDiffsUptoRow.holds Tryz.pinned (OpenSpec.upto deltaDiffsSpec)

/-- 'mullionlaw08.DeltaApplies', WHERE WHAT IT READS IS OF BULK AT MOST 1048576: true; the input reads as it did. -/
def deltaAppliesUptoRow : OpenClaim := { program := "ytaepllhjnbencaagreatdoor", sum := "42f88be8b9eef71e9f738c4516ecf7c7a00d89c53ee717dde5d5ef17f62bb5ee", func := "mullion/mullionlaw08.DeltaApplies", spec := "deltaApplies", inPlace := ["internal/bytealg.IndexByteString", "slices.overlaps[mullion/api.Window]", "slices.overlaps[mullion/api.Session]", "slices.overlaps[mullion/api.Link]", "internal/abi.NoEscape"], unfollowed := true, recurses := true, named := ["strconv.ErrSyntax", "strconv.ErrRange", "internal/strconv.uint64pow10", "math/bits.deBruijn32tab", "math/bits.deBruijn64tab"], apart := false, laid := [("math/bits.deBruijn32tab", laid_math_bits_deBruijn32tab), ("math/bits.deBruijn64tab", laid_math_bits_deBruijn64tab), ("internal/strconv.uint64pow10", laid_internal_strconv_uint64pow10), ("strconv.ErrRange", laid_strconv_ErrRange), ("strconv.ErrSyntax", laid_strconv_ErrSyntax)], narrowed := true }
def DeltaAppliesUptoSaid : Prop := deltaAppliesUptoRow.holds Tryz.pinned (OpenSpec.upto deltaAppliesSpec)

/-- 'mullionlaw08.DeltaWays', WHERE WHAT IT READS IS OF BULK AT MOST 1048576: true; the input reads as it did. -/
def deltaWaysUptoRow : OpenClaim := { program := "ytaepllhjnbencaagreatdoor", sum := "42f88be8b9eef71e9f738c4516ecf7c7a00d89c53ee717dde5d5ef17f62bb5ee", func := "mullion/mullionlaw08.DeltaWays", spec := "deltaWays", inPlace := ["internal/bytealg.IndexByteString", "internal/abi.NoEscape", "slices.overlaps[mullion/api.Window]", "slices.overlaps[mullion/api.Session]", "slices.overlaps[mullion/api.Link]"], unfollowed := true, recurses := true, named := ["internal/strconv.uint64pow10", "math/bits.deBruijn32tab", "math/bits.deBruijn64tab", "strconv.ErrSyntax", "strconv.ErrRange"], apart := false, laid := [("math/bits.deBruijn32tab", laid_math_bits_deBruijn32tab), ("math/bits.deBruijn64tab", laid_math_bits_deBruijn64tab), ("internal/strconv.uint64pow10", laid_internal_strconv_uint64pow10), ("strconv.ErrRange", laid_strconv_ErrRange), ("strconv.ErrSyntax", laid_strconv_ErrSyntax)], narrowed := true }
def DeltaWaysUptoSaid : Prop := deltaWaysUptoRow.holds Tryz.pinned (OpenSpec.upto deltaWaysSpec)

/-- 'mullionlaw08.DeltaPlain', WHERE WHAT IT READS IS OF BULK AT MOST 1048576: true; the input reads as it did. -/
def deltaPlainUptoRow : OpenClaim := { program := "ytaepllhjnbencaagreatdoor", sum := "42f88be8b9eef71e9f738c4516ecf7c7a00d89c53ee717dde5d5ef17f62bb5ee", func := "mullion/mullionlaw08.DeltaPlain", spec := "deltaPlain", inPlace := ["internal/bytealg.IndexByteString", "internal/abi.NoEscape", "slices.overlaps[mullion/api.Window]", "slices.overlaps[mullion/api.Session]", "slices.overlaps[mullion/api.Link]"], unfollowed := true, recurses := true, named := ["internal/strconv.uint64pow10", "math/bits.deBruijn32tab", "math/bits.deBruijn64tab", "strconv.ErrSyntax", "strconv.ErrRange"], apart := false, laid := [("math/bits.deBruijn32tab", laid_math_bits_deBruijn32tab), ("math/bits.deBruijn64tab", laid_math_bits_deBruijn64tab), ("internal/strconv.uint64pow10", laid_internal_strconv_uint64pow10), ("strconv.ErrRange", laid_strconv_ErrRange), ("strconv.ErrSyntax", laid_strconv_ErrSyntax)], narrowed := true }
def DeltaPlainUptoSaid : Prop := deltaPlainUptoRow.holds Tryz.pinned (OpenSpec.upto deltaPlainSpec)

/-- 'mullionlaw08.DeltaThere', WHERE WHAT IT READS IS OF BULK AT MOST 1048576: true; the input reads as it did. -/
def deltaThereUptoRow : OpenClaim := { program := "ytaepllhjnbencaagreatdoor", sum := "42f88be8b9eef71e9f738c4516ecf7c7a00d89c53ee717dde5d5ef17f62bb5ee", func := "mullion/mullionlaw08.DeltaThere", spec := "deltaThere", inPlace := ["internal/bytealg.IndexByteString", "internal/abi.NoEscape", "slices.overlaps[mullion/api.Window]", "slices.overlaps[mullion/api.Session]", "slices.overlaps[mullion/api.Link]"], unfollowed := true, recurses := true, named := ["internal/strconv.uint64pow10", "math/bits.deBruijn32tab", "math/bits.deBruijn64tab", "strconv.ErrSyntax", "strconv.ErrRange"], apart := false, laid := [("math/bits.deBruijn32tab", laid_math_bits_deBruijn32tab), ("math/bits.deBruijn64tab", laid_math_bits_deBruijn64tab), ("internal/strconv.uint64pow10", laid_internal_strconv_uint64pow10), ("strconv.ErrRange", laid_strconv_ErrRange), ("strconv.ErrSyntax", laid_strconv_ErrSyntax)], narrowed := true }
def DeltaThereUptoSaid : Prop := deltaThereUptoRow.holds Tryz.pinned (OpenSpec.upto deltaThereSpec)

/-- 'mullionlaw08.DeltaNothing', WHERE WHAT IT READS IS OF BULK AT MOST 1048576: true; the input reads as it did. -/
def deltaNothingUptoRow : OpenClaim := { program := "ytaepllhjnbencaagreatdoor", sum := "42f88be8b9eef71e9f738c4516ecf7c7a00d89c53ee717dde5d5ef17f62bb5ee", func := "mullion/mullionlaw08.DeltaNothing", spec := "deltaNothing", inPlace := ["internal/bytealg.IndexByteString", "internal/abi.NoEscape", "slices.overlaps[mullion/api.Window]", "slices.overlaps[mullion/api.Session]", "slices.overlaps[mullion/api.Link]"], unfollowed := true, recurses := true, named := ["internal/strconv.uint64pow10", "math/bits.deBruijn32tab", "math/bits.deBruijn64tab", "strconv.ErrSyntax", "strconv.ErrRange"], apart := false, laid := [("math/bits.deBruijn32tab", laid_math_bits_deBruijn32tab), ("math/bits.deBruijn64tab", laid_math_bits_deBruijn64tab), ("internal/strconv.uint64pow10", laid_internal_strconv_uint64pow10), ("strconv.ErrRange", laid_strconv_ErrRange), ("strconv.ErrSyntax", laid_strconv_ErrSyntax)], narrowed := true }
def DeltaNothingUptoSaid : Prop := deltaNothingUptoRow.holds Tryz.pinned (OpenSpec.upto deltaNothingSpec)

/-- 'mullionlaw08.DeltaByWay', WHERE WHAT IT READS IS OF BULK AT MOST 1048576: true; the input reads as it did. -/
def deltaByWayUptoRow : OpenClaim := { program := "ytaepllhjnbencaagreatdoor", sum := "42f88be8b9eef71e9f738c4516ecf7c7a00d89c53ee717dde5d5ef17f62bb5ee", func := "mullion/mullionlaw08.DeltaByWay", spec := "deltaByWay", inPlace := ["internal/bytealg.IndexByteString", "internal/abi.NoEscape", "slices.overlaps[mullion/api.Window]", "slices.overlaps[mullion/api.Session]", "slices.overlaps[mullion/api.Link]"], unfollowed := true, recurses := true, named := ["internal/strconv.uint64pow10", "math/bits.deBruijn32tab", "math/bits.deBruijn64tab", "strconv.ErrSyntax", "strconv.ErrRange"], apart := false, laid := [("math/bits.deBruijn32tab", laid_math_bits_deBruijn32tab), ("math/bits.deBruijn64tab", laid_math_bits_deBruijn64tab), ("internal/strconv.uint64pow10", laid_internal_strconv_uint64pow10), ("strconv.ErrRange", laid_strconv_ErrRange), ("strconv.ErrSyntax", laid_strconv_ErrSyntax)], narrowed := true }
def DeltaByWayUptoSaid : Prop := deltaByWayUptoRow.holds Tryz.pinned (OpenSpec.upto deltaByWaySpec)

/-- 'mullionlaw08.DeltaLines', WHERE WHAT IT READS IS OF BULK AT MOST 1048576: true; the input reads as it did. -/
def deltaLinesUptoRow : OpenClaim := { program := "ytaepllhjnbencaagreatdoor", sum := "42f88be8b9eef71e9f738c4516ecf7c7a00d89c53ee717dde5d5ef17f62bb5ee", func := "mullion/mullionlaw08.DeltaLines", spec := "deltaLines", inPlace := ["internal/bytealg.IndexByteString", "internal/abi.NoEscape", "slices.overlaps[mullion/api.Window]", "slices.overlaps[mullion/api.Session]", "slices.overlaps[mullion/api.Link]"], unfollowed := true, recurses := true, named := ["internal/strconv.uint64pow10", "math/bits.deBruijn32tab", "math/bits.deBruijn64tab", "strconv.ErrSyntax", "strconv.ErrRange"], apart := false, laid := [("math/bits.deBruijn32tab", laid_math_bits_deBruijn32tab), ("math/bits.deBruijn64tab", laid_math_bits_deBruijn64tab), ("internal/strconv.uint64pow10", laid_internal_strconv_uint64pow10), ("strconv.ErrRange", laid_strconv_ErrRange), ("strconv.ErrSyntax", laid_strconv_ErrSyntax)], narrowed := true }
def DeltaLinesUptoSaid : Prop := deltaLinesUptoRow.holds Tryz.pinned (OpenSpec.upto deltaLinesSpec)

/-- 'mullionlaw08.DeltaLeast', WHERE WHAT IT READS IS OF BULK AT MOST 1048576: true; the input reads as it did. -/
def deltaLeastUptoRow : OpenClaim := { program := "ytaepllhjnbencaagreatdoor", sum := "42f88be8b9eef71e9f738c4516ecf7c7a00d89c53ee717dde5d5ef17f62bb5ee", func := "mullion/mullionlaw08.DeltaLeast", spec := "deltaLeast", inPlace := ["internal/bytealg.IndexByteString", "internal/abi.NoEscape", "slices.overlaps[mullion/api.Window]", "slices.overlaps[mullion/api.Session]", "slices.overlaps[mullion/api.Link]"], unfollowed := true, recurses := true, named := ["internal/strconv.uint64pow10", "math/bits.deBruijn32tab", "math/bits.deBruijn64tab", "strconv.ErrSyntax", "strconv.ErrRange"], apart := false, laid := [("math/bits.deBruijn32tab", laid_math_bits_deBruijn32tab), ("math/bits.deBruijn64tab", laid_math_bits_deBruijn64tab), ("internal/strconv.uint64pow10", laid_internal_strconv_uint64pow10), ("strconv.ErrRange", laid_strconv_ErrRange), ("strconv.ErrSyntax", laid_strconv_ErrSyntax)], narrowed := true }
def DeltaLeastUptoSaid : Prop := deltaLeastUptoRow.holds Tryz.pinned (OpenSpec.upto deltaLeastSpec)

/-- 'mullionlaw08.DeltaOwn', WHERE WHAT IT READS IS OF BULK AT MOST 1048576: true; the input reads as it did. -/
def deltaOwnUptoRow : OpenClaim := { program := "ytaepllhjnbencaagreatdoor", sum := "42f88be8b9eef71e9f738c4516ecf7c7a00d89c53ee717dde5d5ef17f62bb5ee", func := "mullion/mullionlaw08.DeltaOwn", spec := "deltaOwn", inPlace := ["internal/bytealg.IndexByteString", "slices.overlaps[mullion/api.Window]", "slices.overlaps[mullion/api.Session]", "slices.overlaps[mullion/api.Link]", "internal/abi.NoEscape"], unfollowed := true, recurses := true, named := ["strconv.ErrSyntax", "strconv.ErrRange", "internal/strconv.uint64pow10", "math/bits.deBruijn32tab", "math/bits.deBruijn64tab"], apart := false, laid := [("math/bits.deBruijn32tab", laid_math_bits_deBruijn32tab), ("math/bits.deBruijn64tab", laid_math_bits_deBruijn64tab), ("internal/strconv.uint64pow10", laid_internal_strconv_uint64pow10), ("strconv.ErrRange", laid_strconv_ErrRange), ("strconv.ErrSyntax", laid_strconv_ErrSyntax)], narrowed := true }
def DeltaOwnUptoSaid : Prop := deltaOwnUptoRow.holds Tryz.pinned (OpenSpec.upto deltaOwnSpec)

end Rows
end Go.Proofs.YtaepllhjnbencaaGreatDoor
