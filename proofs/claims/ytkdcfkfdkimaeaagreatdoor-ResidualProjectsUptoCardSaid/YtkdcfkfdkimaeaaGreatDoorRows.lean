/-
  NARROWER THAN 'FOR EVERY INPUT', by the rows' own cells (each row's printed sentence says how): ResidualCube: loops, laid · ResidualDivides: loops, laid · ResidualDiamond: loops, laid · ResidualProjects: loops, laid · ResidualFull: loops, laid · ResidualTriangle: loops, laid · ResidualSame: loops, laid · ResidualJoins: loops, laid.
  DERIVED. THE GIVEN ROWS OF THIS SEAT. 8 by the template 'for every input the law returns true; each argument reads behind the call as it read before'; 0 by the template 'total and deterministic' (their statements: YtkdcfkfdkimaeaaGreatDoorTotals.lean).
  GIVEN WITH THE SEED: the statements are not yours to turn. If you find one false, say at which input.
  Laid BY PROGRAM, IN A SANDBOX (cutbox-rows.mjs): the forced cells as the released guide's own fill.sh prints them over the translation 2f73d6af8ea61cd5… (all of the seat's roots in one cut). By AI agents, Wed Nov 11 2026. No macro, syntax, notation, axiom, sorry.
-/
import Derived.Test.YtkdcfkfdkimaeaaGreatDoorChecked
import GoSem.Claim
import GoSem.ClaimJoined
import GoSem.ClaimMapViews
import Derived.JoinedTies
import Derived.KernelRfl
namespace Go.Proofs.YtkdcfkfdkimaeaaGreatDoor
/- THE CELL 'sum', in the pinned program and in every row, IS THE sha256 OF THE DUMP (.gsa) THAT YtkdcfkfdkimaeaaGreatDoorProg.lean LOADS. Nothing in Lean hashes anything: it is a label: what it is worth is what the hold of that sum in a sandbox is worth. -/
noncomputable def Tryz.pinned : Pinned := { name := "ytkdcfkfdkimaeaagreatdoor", sum := "2f73d6af8ea61cd5ab8f888c43a3db3ce2ecb16878115bde67619b4173de218d", checked := Tryz.checked }
namespace Rows
def none {H : Type} : Left H := { results := [], args := [] }

/- WHAT THE LISTED PACKAGE-LEVEL VARIABLES READ AS WHEN THE CALL BEGINS. Each datum BY PROGRAM (the guide's laid-datum.mjs) off the statement by which the dump's own 'gosem.cut.vars' lays the variable. In a bare row this is a premise. The card (YtkdcfkfdkimaeaaGreatDoorCards.lean) ties it to the program's text. -/
def laid_math_bits_deBruijn32tab {H : Type} : DataW H := .agg [.lit (.int .u8 0), .lit (.int .u8 1), .lit (.int .u8 28), .lit (.int .u8 2), .lit (.int .u8 29), .lit (.int .u8 14), .lit (.int .u8 24), .lit (.int .u8 3), .lit (.int .u8 30), .lit (.int .u8 22), .lit (.int .u8 20), .lit (.int .u8 15), .lit (.int .u8 25), .lit (.int .u8 17), .lit (.int .u8 4), .lit (.int .u8 8), .lit (.int .u8 31), .lit (.int .u8 27), .lit (.int .u8 13), .lit (.int .u8 23), .lit (.int .u8 21), .lit (.int .u8 19), .lit (.int .u8 16), .lit (.int .u8 7), .lit (.int .u8 26), .lit (.int .u8 12), .lit (.int .u8 18), .lit (.int .u8 6), .lit (.int .u8 11), .lit (.int .u8 5), .lit (.int .u8 10), .lit (.int .u8 9)]
def laid_math_bits_deBruijn64tab {H : Type} : DataW H := .agg [.lit (.int .u8 0), .lit (.int .u8 1), .lit (.int .u8 56), .lit (.int .u8 2), .lit (.int .u8 57), .lit (.int .u8 49), .lit (.int .u8 28), .lit (.int .u8 3), .lit (.int .u8 61), .lit (.int .u8 58), .lit (.int .u8 42), .lit (.int .u8 50), .lit (.int .u8 38), .lit (.int .u8 29), .lit (.int .u8 17), .lit (.int .u8 4), .lit (.int .u8 62), .lit (.int .u8 47), .lit (.int .u8 59), .lit (.int .u8 36), .lit (.int .u8 45), .lit (.int .u8 43), .lit (.int .u8 51), .lit (.int .u8 22), .lit (.int .u8 53), .lit (.int .u8 39), .lit (.int .u8 33), .lit (.int .u8 30), .lit (.int .u8 24), .lit (.int .u8 18), .lit (.int .u8 12), .lit (.int .u8 5), .lit (.int .u8 63), .lit (.int .u8 55), .lit (.int .u8 48), .lit (.int .u8 27), .lit (.int .u8 60), .lit (.int .u8 41), .lit (.int .u8 37), .lit (.int .u8 16), .lit (.int .u8 46), .lit (.int .u8 35), .lit (.int .u8 44), .lit (.int .u8 21), .lit (.int .u8 52), .lit (.int .u8 32), .lit (.int .u8 23), .lit (.int .u8 11), .lit (.int .u8 54), .lit (.int .u8 26), .lit (.int .u8 40), .lit (.int .u8 15), .lit (.int .u8 34), .lit (.int .u8 20), .lit (.int .u8 31), .lit (.int .u8 10), .lit (.int .u8 25), .lit (.int .u8 14), .lit (.int .u8 19), .lit (.int .u8 9), .lit (.int .u8 13), .lit (.int .u8 8), .lit (.int .u8 7), .lit (.int .u8 6)]
def laid_internal_strconv_uint64pow10 {H : Type} : DataW H := .agg [.lit (.int .u64 1), .lit (.int .u64 10), .lit (.int .u64 100), .lit (.int .u64 1000), .lit (.int .u64 10000), .lit (.int .u64 100000), .lit (.int .u64 1000000), .lit (.int .u64 10000000), .lit (.int .u64 100000000), .lit (.int .u64 1000000000), .lit (.int .u64 10000000000), .lit (.int .u64 100000000000), .lit (.int .u64 1000000000000), .lit (.int .u64 10000000000000), .lit (.int .u64 100000000000000), .lit (.int .u64 1000000000000000), .lit (.int .u64 10000000000000000), .lit (.int .u64 100000000000000000), .lit (.int .u64 1000000000000000000), .lit (.int .u64 10000000000000000000)]

/-- 'dwindlelaw18.ResidualCube': WHATEVER THE INPUT: true; the input reads as it did. -/
def residualCubeSpec : ChangeSpec := { name := "residualCube", fn := fun _ => fun
  | [d1, d2, d3, d4] => { results := [.lit (.bool true)], args := [d1, d2, d3, d4] }
  | _ => none }
def residualCubeRow : OpenClaim := { program := "ytkdcfkfdkimaeaagreatdoor", sum := "2f73d6af8ea61cd5ab8f888c43a3db3ce2ecb16878115bde67619b4173de218d", func := "dwindle/dwindlelaw18.ResidualCube", spec := "residualCube", inPlace := ["internal/bytealg.abigen_runtime_cmpstring", "slices.overlaps[dwindle/api.Bind]"], unfollowed := true, recurses := true, named := ["internal/strconv.uint64pow10", "math/bits.deBruijn32tab", "math/bits.deBruijn64tab"], loops := true, plainKeys := false, apart := false, laid := [("math/bits.deBruijn32tab", laid_math_bits_deBruijn32tab), ("math/bits.deBruijn64tab", laid_math_bits_deBruijn64tab), ("internal/strconv.uint64pow10", laid_internal_strconv_uint64pow10)] }
def ResidualCubeSaid : Prop := residualCubeRow.holds Tryz.pinned (OpenSpec.ofChange residualCubeSpec)

/-- ITS FALSE NEIGHBOUR: 'it returns false'. Refute it at one input. -/
def residualCubeWrong : ChangeSpec := { name := "residualCube", fn := fun _ => fun
  | [d1, d2, d3, d4] => { results := [.lit (.bool false)], args := [d1, d2, d3, d4] }
  | _ => none }
def ResidualCubeWrongFalsely : Prop := residualCubeRow.holds Tryz.pinned (OpenSpec.ofChange residualCubeWrong)

/-- 'dwindlelaw18.ResidualDivides': WHATEVER THE INPUT: true; the input reads as it did. -/
def residualDividesSpec : ChangeSpec := { name := "residualDivides", fn := fun _ => fun
  | [d1, d2, d3] => { results := [.lit (.bool true)], args := [d1, d2, d3] }
  | _ => none }
def residualDividesRow : OpenClaim := { program := "ytkdcfkfdkimaeaagreatdoor", sum := "2f73d6af8ea61cd5ab8f888c43a3db3ce2ecb16878115bde67619b4173de218d", func := "dwindle/dwindlelaw18.ResidualDivides", spec := "residualDivides", inPlace := ["internal/bytealg.abigen_runtime_cmpstring", "slices.overlaps[dwindle/api.Bind]"], unfollowed := true, recurses := true, named := ["internal/strconv.uint64pow10", "math/bits.deBruijn32tab", "math/bits.deBruijn64tab"], loops := true, plainKeys := false, apart := false, laid := [("math/bits.deBruijn32tab", laid_math_bits_deBruijn32tab), ("math/bits.deBruijn64tab", laid_math_bits_deBruijn64tab), ("internal/strconv.uint64pow10", laid_internal_strconv_uint64pow10)] }
def ResidualDividesSaid : Prop := residualDividesRow.holds Tryz.pinned (OpenSpec.ofChange residualDividesSpec)

/-- ITS FALSE NEIGHBOUR: 'it returns false'. Refute it at one input. -/
def residualDividesWrong : ChangeSpec := { name := "residualDivides", fn := fun _ => fun
  | [d1, d2, d3] => { results := [.lit (.bool false)], args := [d1, d2, d3] }
  | _ => none }
def ResidualDividesWrongFalsely : Prop := residualDividesRow.holds Tryz.pinned (OpenSpec.ofChange residualDividesWrong)

/-- 'dwindlelaw18.ResidualDiamond': WHATEVER THE INPUT: true; the input reads as it did. -/
def residualDiamondSpec : ChangeSpec := { name := "residualDiamond", fn := fun _ => fun
  | [d1, d2, d3] => { results := [.lit (.bool true)], args := [d1, d2, d3] }
  | _ => none }
def residualDiamondRow : OpenClaim := { program := "ytkdcfkfdkimaeaagreatdoor", sum := "2f73d6af8ea61cd5ab8f888c43a3db3ce2ecb16878115bde67619b4173de218d", func := "dwindle/dwindlelaw18.ResidualDiamond", spec := "residualDiamond", inPlace := ["internal/bytealg.abigen_runtime_cmpstring", "slices.overlaps[dwindle/api.Bind]"], unfollowed := true, recurses := true, named := ["internal/strconv.uint64pow10", "math/bits.deBruijn32tab", "math/bits.deBruijn64tab"], loops := true, plainKeys := false, apart := false, laid := [("math/bits.deBruijn32tab", laid_math_bits_deBruijn32tab), ("math/bits.deBruijn64tab", laid_math_bits_deBruijn64tab), ("internal/strconv.uint64pow10", laid_internal_strconv_uint64pow10)] }
def ResidualDiamondSaid : Prop := residualDiamondRow.holds Tryz.pinned (OpenSpec.ofChange residualDiamondSpec)

/-- ITS FALSE NEIGHBOUR: 'it returns false'. Refute it at one input. -/
def residualDiamondWrong : ChangeSpec := { name := "residualDiamond", fn := fun _ => fun
  | [d1, d2, d3] => { results := [.lit (.bool false)], args := [d1, d2, d3] }
  | _ => none }
def ResidualDiamondWrongFalsely : Prop := residualDiamondRow.holds Tryz.pinned (OpenSpec.ofChange residualDiamondWrong)

/-- 'dwindlelaw18.ResidualProjects': WHATEVER THE INPUT: true; the input reads as it did. -/
def residualProjectsSpec : ChangeSpec := { name := "residualProjects", fn := fun _ => fun
  | [d1, d2, d3] => { results := [.lit (.bool true)], args := [d1, d2, d3] }
  | _ => none }
def residualProjectsRow : OpenClaim := { program := "ytkdcfkfdkimaeaagreatdoor", sum := "2f73d6af8ea61cd5ab8f888c43a3db3ce2ecb16878115bde67619b4173de218d", func := "dwindle/dwindlelaw18.ResidualProjects", spec := "residualProjects", inPlace := ["internal/bytealg.abigen_runtime_cmpstring", "slices.overlaps[dwindle/api.Bind]"], unfollowed := true, recurses := true, named := ["internal/strconv.uint64pow10", "math/bits.deBruijn32tab", "math/bits.deBruijn64tab"], loops := true, plainKeys := false, apart := false, laid := [("math/bits.deBruijn32tab", laid_math_bits_deBruijn32tab), ("math/bits.deBruijn64tab", laid_math_bits_deBruijn64tab), ("internal/strconv.uint64pow10", laid_internal_strconv_uint64pow10)] }
def ResidualProjectsSaid : Prop := residualProjectsRow.holds Tryz.pinned (OpenSpec.ofChange residualProjectsSpec)

/-- ITS FALSE NEIGHBOUR: 'it returns false'. Refute it at one input. -/
def residualProjectsWrong : ChangeSpec := { name := "residualProjects", fn := fun _ => fun
  | [d1, d2, d3] => { results := [.lit (.bool false)], args := [d1, d2, d3] }
  | _ => none }
def ResidualProjectsWrongFalsely : Prop := residualProjectsRow.holds Tryz.pinned (OpenSpec.ofChange residualProjectsWrong)

/-- 'dwindlelaw18.ResidualFull': WHATEVER THE INPUT: true; the input reads as it did. -/
def residualFullSpec : ChangeSpec := { name := "residualFull", fn := fun _ => fun
  | [d1, d2] => { results := [.lit (.bool true)], args := [d1, d2] }
  | _ => none }
def residualFullRow : OpenClaim := { program := "ytkdcfkfdkimaeaagreatdoor", sum := "2f73d6af8ea61cd5ab8f888c43a3db3ce2ecb16878115bde67619b4173de218d", func := "dwindle/dwindlelaw18.ResidualFull", spec := "residualFull", inPlace := ["internal/bytealg.abigen_runtime_cmpstring", "slices.overlaps[dwindle/api.Bind]"], unfollowed := true, recurses := true, named := ["internal/strconv.uint64pow10", "math/bits.deBruijn32tab", "math/bits.deBruijn64tab"], loops := true, plainKeys := false, apart := false, laid := [("math/bits.deBruijn32tab", laid_math_bits_deBruijn32tab), ("math/bits.deBruijn64tab", laid_math_bits_deBruijn64tab), ("internal/strconv.uint64pow10", laid_internal_strconv_uint64pow10)] }
def ResidualFullSaid : Prop := residualFullRow.holds Tryz.pinned (OpenSpec.ofChange residualFullSpec)

/-- ITS FALSE NEIGHBOUR: 'it returns false'. Refute it at one input. -/
def residualFullWrong : ChangeSpec := { name := "residualFull", fn := fun _ => fun
  | [d1, d2] => { results := [.lit (.bool false)], args := [d1, d2] }
  | _ => none }
def ResidualFullWrongFalsely : Prop := residualFullRow.holds Tryz.pinned (OpenSpec.ofChange residualFullWrong)

/-- 'dwindlelaw18.ResidualTriangle': WHATEVER THE INPUT: true; the input reads as it did. -/
def residualTriangleSpec : ChangeSpec := { name := "residualTriangle", fn := fun _ => fun
  | [d1, d2] => { results := [.lit (.bool true)], args := [d1, d2] }
  | _ => none }
def residualTriangleRow : OpenClaim := { program := "ytkdcfkfdkimaeaagreatdoor", sum := "2f73d6af8ea61cd5ab8f888c43a3db3ce2ecb16878115bde67619b4173de218d", func := "dwindle/dwindlelaw18.ResidualTriangle", spec := "residualTriangle", inPlace := ["internal/bytealg.abigen_runtime_cmpstring", "slices.overlaps[dwindle/api.Bind]"], unfollowed := true, recurses := true, named := ["internal/strconv.uint64pow10", "math/bits.deBruijn32tab", "math/bits.deBruijn64tab"], loops := true, plainKeys := false, apart := false, laid := [("math/bits.deBruijn32tab", laid_math_bits_deBruijn32tab), ("math/bits.deBruijn64tab", laid_math_bits_deBruijn64tab), ("internal/strconv.uint64pow10", laid_internal_strconv_uint64pow10)] }
def ResidualTriangleSaid : Prop := residualTriangleRow.holds Tryz.pinned (OpenSpec.ofChange residualTriangleSpec)

/-- ITS FALSE NEIGHBOUR: 'it returns false'. Refute it at one input. -/
def residualTriangleWrong : ChangeSpec := { name := "residualTriangle", fn := fun _ => fun
  | [d1, d2] => { results := [.lit (.bool false)], args := [d1, d2] }
  | _ => none }
def ResidualTriangleWrongFalsely : Prop := residualTriangleRow.holds Tryz.pinned (OpenSpec.ofChange residualTriangleWrong)

/-- 'dwindlelaw18.ResidualSame': WHATEVER THE INPUT: true; the input reads as it did. -/
def residualSameSpec : ChangeSpec := { name := "residualSame", fn := fun _ => fun
  | [d1, d2, d3, d4] => { results := [.lit (.bool true)], args := [d1, d2, d3, d4] }
  | _ => none }
def residualSameRow : OpenClaim := { program := "ytkdcfkfdkimaeaagreatdoor", sum := "2f73d6af8ea61cd5ab8f888c43a3db3ce2ecb16878115bde67619b4173de218d", func := "dwindle/dwindlelaw18.ResidualSame", spec := "residualSame", inPlace := ["internal/bytealg.abigen_runtime_cmpstring", "slices.overlaps[dwindle/api.Bind]"], unfollowed := true, recurses := true, named := ["internal/strconv.uint64pow10", "math/bits.deBruijn32tab", "math/bits.deBruijn64tab"], loops := true, plainKeys := false, apart := false, laid := [("math/bits.deBruijn32tab", laid_math_bits_deBruijn32tab), ("math/bits.deBruijn64tab", laid_math_bits_deBruijn64tab), ("internal/strconv.uint64pow10", laid_internal_strconv_uint64pow10)] }
def ResidualSameSaid : Prop := residualSameRow.holds Tryz.pinned (OpenSpec.ofChange residualSameSpec)

/-- ITS FALSE NEIGHBOUR: 'it returns false'. Refute it at one input. -/
def residualSameWrong : ChangeSpec := { name := "residualSame", fn := fun _ => fun
  | [d1, d2, d3, d4] => { results := [.lit (.bool false)], args := [d1, d2, d3, d4] }
  | _ => none }
def ResidualSameWrongFalsely : Prop := residualSameRow.holds Tryz.pinned (OpenSpec.ofChange residualSameWrong)

/-- 'dwindlelaw18.ResidualJoins': WHATEVER THE INPUT: true; the input reads as it did. -/
def residualJoinsSpec : ChangeSpec := { name := "residualJoins", fn := fun _ => fun
  | [d1, d2, d3] => { results := [.lit (.bool true)], args := [d1, d2, d3] }
  | _ => none }
def residualJoinsRow : OpenClaim := { program := "ytkdcfkfdkimaeaagreatdoor", sum := "2f73d6af8ea61cd5ab8f888c43a3db3ce2ecb16878115bde67619b4173de218d", func := "dwindle/dwindlelaw18.ResidualJoins", spec := "residualJoins", inPlace := ["internal/bytealg.abigen_runtime_cmpstring", "slices.overlaps[dwindle/api.Bind]"], unfollowed := true, recurses := true, named := ["internal/strconv.uint64pow10", "math/bits.deBruijn32tab", "math/bits.deBruijn64tab"], loops := true, plainKeys := false, apart := false, laid := [("math/bits.deBruijn32tab", laid_math_bits_deBruijn32tab), ("math/bits.deBruijn64tab", laid_math_bits_deBruijn64tab), ("internal/strconv.uint64pow10", laid_internal_strconv_uint64pow10)] }
def ResidualJoinsSaid : Prop := residualJoinsRow.holds Tryz.pinned (OpenSpec.ofChange residualJoinsSpec)

/-- ITS FALSE NEIGHBOUR: 'it returns false'. Refute it at one input. -/
def residualJoinsWrong : ChangeSpec := { name := "residualJoins", fn := fun _ => fun
  | [d1, d2, d3] => { results := [.lit (.bool false)], args := [d1, d2, d3] }
  | _ => none }
def ResidualJoinsWrongFalsely : Prop := residualJoinsRow.holds Tryz.pinned (OpenSpec.ofChange residualJoinsWrong)

/- THE SECOND FORM. 'bulk': how many values and letters a reading holds, each counted each time it is reached (what is shared counts as often as it is met; a slice's spare places count too). A statement '..UptoSaid' is the law's where the arguments, and the package variables that the reading takes, are together of bulk at most 1048576: NARROWER than '..Said'. Prove '..Said' where nothing that the law and all that it calls make is longer than what came in: it says more and counts as full. Else prove '..UptoSaid'. A law counts once. -/
mutual
def uptoBulk {H : Type} : DataW H → Nat
  | .lit (.string bytes) => bytes.length + 1
  | .lit _ => 1
  | .nil => 1
  | .ptr d => uptoBulk d + 1
  | .slice elems spare => uptoBulkAll elems + uptoBulkAll spare + 1
  | .agg parts => uptoBulkAll parts + 1
  | .iface _ d => uptoBulk d + 1
  | .map entries => uptoBulkEntries entries + 1
  | .held _ => 1
def uptoBulkAll {H : Type} : List (DataW H) → Nat
  | [] => 0
  | d :: r => uptoBulk d + uptoBulkAll r
def uptoBulkEntries {H : Type} : List (Lit × DataW H) → Nat
  | [] => 0
  | x :: r => uptoBulkEntry x + uptoBulkEntries r
def uptoBulkEntry {H : Type} : Lit × DataW H → Nat
  | (.string bytes, d) => bytes.length + uptoBulk d + 1
  | (_, d) => uptoBulk d + 1
 end
def uptoSmall : (H : Type) → List (DataW H) → Bool := fun _ ds => decide (uptoBulkAll ds ≤ 1048576)
def OpenSpec.upto (s : _root_.Go.ChangeSpec) : _root_.Go.OpenSpec := { _root_.Go.OpenSpec.ofChange s with cond := some uptoSmall }

/-- 'dwindlelaw18.ResidualCube', WHERE WHAT IT READS IS OF BULK AT MOST 1048576: true; the input reads as it did. -/
def residualCubeUptoRow : OpenClaim := { program := "ytkdcfkfdkimaeaagreatdoor", sum := "2f73d6af8ea61cd5ab8f888c43a3db3ce2ecb16878115bde67619b4173de218d", func := "dwindle/dwindlelaw18.ResidualCube", spec := "residualCube", inPlace := ["internal/bytealg.abigen_runtime_cmpstring", "slices.overlaps[dwindle/api.Bind]"], unfollowed := true, recurses := true, named := ["internal/strconv.uint64pow10", "math/bits.deBruijn32tab", "math/bits.deBruijn64tab"], loops := true, plainKeys := false, apart := false, laid := [("math/bits.deBruijn32tab", laid_math_bits_deBruijn32tab), ("math/bits.deBruijn64tab", laid_math_bits_deBruijn64tab), ("internal/strconv.uint64pow10", laid_internal_strconv_uint64pow10)], narrowed := true }
def ResidualCubeUptoSaid : Prop := residualCubeUptoRow.holds Tryz.pinned (OpenSpec.upto residualCubeSpec)

/-- 'dwindlelaw18.ResidualDivides', WHERE WHAT IT READS IS OF BULK AT MOST 1048576: true; the input reads as it did. -/
def residualDividesUptoRow : OpenClaim := { program := "ytkdcfkfdkimaeaagreatdoor", sum := "2f73d6af8ea61cd5ab8f888c43a3db3ce2ecb16878115bde67619b4173de218d", func := "dwindle/dwindlelaw18.ResidualDivides", spec := "residualDivides", inPlace := ["internal/bytealg.abigen_runtime_cmpstring", "slices.overlaps[dwindle/api.Bind]"], unfollowed := true, recurses := true, named := ["internal/strconv.uint64pow10", "math/bits.deBruijn32tab", "math/bits.deBruijn64tab"], loops := true, plainKeys := false, apart := false, laid := [("math/bits.deBruijn32tab", laid_math_bits_deBruijn32tab), ("math/bits.deBruijn64tab", laid_math_bits_deBruijn64tab), ("internal/strconv.uint64pow10", laid_internal_strconv_uint64pow10)], narrowed := true }
def ResidualDividesUptoSaid : Prop := residualDividesUptoRow.holds Tryz.pinned (OpenSpec.upto residualDividesSpec)

/-- 'dwindlelaw18.ResidualDiamond', WHERE WHAT IT READS IS OF BULK AT MOST 1048576: true; the input reads as it did. -/
def residualDiamondUptoRow : OpenClaim := { program := "ytkdcfkfdkimaeaagreatdoor", sum := "2f73d6af8ea61cd5ab8f888c43a3db3ce2ecb16878115bde67619b4173de218d", func := "dwindle/dwindlelaw18.ResidualDiamond", spec := "residualDiamond", inPlace := ["internal/bytealg.abigen_runtime_cmpstring", "slices.overlaps[dwindle/api.Bind]"], unfollowed := true, recurses := true, named := ["internal/strconv.uint64pow10", "math/bits.deBruijn32tab", "math/bits.deBruijn64tab"], loops := true, plainKeys := false, apart := false, laid := [("math/bits.deBruijn32tab", laid_math_bits_deBruijn32tab), ("math/bits.deBruijn64tab", laid_math_bits_deBruijn64tab), ("internal/strconv.uint64pow10", laid_internal_strconv_uint64pow10)], narrowed := true }
def ResidualDiamondUptoSaid : Prop := residualDiamondUptoRow.holds Tryz.pinned (OpenSpec.upto residualDiamondSpec)

/-- 'dwindlelaw18.ResidualProjects', WHERE WHAT IT READS IS OF BULK AT MOST 1048576: true; the input reads as it did. -/
def residualProjectsUptoRow : OpenClaim := { program := "ytkdcfkfdkimaeaagreatdoor", sum := "2f73d6af8ea61cd5ab8f888c43a3db3ce2ecb16878115bde67619b4173de218d", func := "dwindle/dwindlelaw18.ResidualProjects", spec := "residualProjects", inPlace := ["internal/bytealg.abigen_runtime_cmpstring", "slices.overlaps[dwindle/api.Bind]"], unfollowed := true, recurses := true, named := ["internal/strconv.uint64pow10", "math/bits.deBruijn32tab", "math/bits.deBruijn64tab"], loops := true, plainKeys := false, apart := false, laid := [("math/bits.deBruijn32tab", laid_math_bits_deBruijn32tab), ("math/bits.deBruijn64tab", laid_math_bits_deBruijn64tab), ("internal/strconv.uint64pow10", laid_internal_strconv_uint64pow10)], narrowed := true }
def ResidualProjectsUptoSaid : Prop := residualProjectsUptoRow.holds Tryz.pinned (OpenSpec.upto residualProjectsSpec)

/-- 'dwindlelaw18.ResidualFull', WHERE WHAT IT READS IS OF BULK AT MOST 1048576: true; the input reads as it did. -/
def residualFullUptoRow : OpenClaim := { program := "ytkdcfkfdkimaeaagreatdoor", sum := "2f73d6af8ea61cd5ab8f888c43a3db3ce2ecb16878115bde67619b4173de218d", func := "dwindle/dwindlelaw18.ResidualFull", spec := "residualFull", inPlace := ["internal/bytealg.abigen_runtime_cmpstring", "slices.overlaps[dwindle/api.Bind]"], unfollowed := true, recurses := true, named := ["internal/strconv.uint64pow10", "math/bits.deBruijn32tab", "math/bits.deBruijn64tab"], loops := true, plainKeys := false, apart := false, laid := [("math/bits.deBruijn32tab", laid_math_bits_deBruijn32tab), ("math/bits.deBruijn64tab", laid_math_bits_deBruijn64tab), ("internal/strconv.uint64pow10", laid_internal_strconv_uint64pow10)], narrowed := true }
def ResidualFullUptoSaid : Prop := residualFullUptoRow.holds Tryz.pinned (OpenSpec.upto residualFullSpec)

/-- 'dwindlelaw18.ResidualTriangle', WHERE WHAT IT READS IS OF BULK AT MOST 1048576: true; the input reads as it did. -/
def residualTriangleUptoRow : OpenClaim := { program := "ytkdcfkfdkimaeaagreatdoor", sum := "2f73d6af8ea61cd5ab8f888c43a3db3ce2ecb16878115bde67619b4173de218d", func := "dwindle/dwindlelaw18.ResidualTriangle", spec := "residualTriangle", inPlace := ["internal/bytealg.abigen_runtime_cmpstring", "slices.overlaps[dwindle/api.Bind]"], unfollowed := true, recurses := true, named := ["internal/strconv.uint64pow10", "math/bits.deBruijn32tab", "math/bits.deBruijn64tab"], loops := true, plainKeys := false, apart := false, laid := [("math/bits.deBruijn32tab", laid_math_bits_deBruijn32tab), ("math/bits.deBruijn64tab", laid_math_bits_deBruijn64tab), ("internal/strconv.uint64pow10", laid_internal_strconv_uint64pow10)], narrowed := true }
def ResidualTriangleUptoSaid : Prop := residualTriangleUptoRow.holds Tryz.pinned (OpenSpec.upto residualTriangleSpec)

/-- 'dwindlelaw18.ResidualSame', WHERE WHAT IT READS IS OF BULK AT MOST 1048576: true; the input reads as it did. -/
def residualSameUptoRow : OpenClaim := { program := "ytkdcfkfdkimaeaagreatdoor", sum := "2f73d6af8ea61cd5ab8f888c43a3db3ce2ecb16878115bde67619b4173de218d", func := "dwindle/dwindlelaw18.ResidualSame", spec := "residualSame", inPlace := ["internal/bytealg.abigen_runtime_cmpstring", "slices.overlaps[dwindle/api.Bind]"], unfollowed := true, recurses := true, named := ["internal/strconv.uint64pow10", "math/bits.deBruijn32tab", "math/bits.deBruijn64tab"], loops := true, plainKeys := false, apart := false, laid := [("math/bits.deBruijn32tab", laid_math_bits_deBruijn32tab), ("math/bits.deBruijn64tab", laid_math_bits_deBruijn64tab), ("internal/strconv.uint64pow10", laid_internal_strconv_uint64pow10)], narrowed := true }
def ResidualSameUptoSaid : Prop := residualSameUptoRow.holds Tryz.pinned (OpenSpec.upto residualSameSpec)

/-- 'dwindlelaw18.ResidualJoins', WHERE WHAT IT READS IS OF BULK AT MOST 1048576: true; the input reads as it did. -/
def residualJoinsUptoRow : OpenClaim := { program := "ytkdcfkfdkimaeaagreatdoor", sum := "2f73d6af8ea61cd5ab8f888c43a3db3ce2ecb16878115bde67619b4173de218d", func := "dwindle/dwindlelaw18.ResidualJoins", spec := "residualJoins", inPlace := ["internal/bytealg.abigen_runtime_cmpstring", "slices.overlaps[dwindle/api.Bind]"], unfollowed := true, recurses := true, named := ["internal/strconv.uint64pow10", "math/bits.deBruijn32tab", "math/bits.deBruijn64tab"], loops := true, plainKeys := false, apart := false, laid := [("math/bits.deBruijn32tab", laid_math_bits_deBruijn32tab), ("math/bits.deBruijn64tab", laid_math_bits_deBruijn64tab), ("internal/strconv.uint64pow10", laid_internal_strconv_uint64pow10)], narrowed := true }
def ResidualJoinsUptoSaid : Prop := residualJoinsUptoRow.holds Tryz.pinned (OpenSpec.upto residualJoinsSpec)

end Rows
end Go.Proofs.YtkdcfkfdkimaeaaGreatDoor
