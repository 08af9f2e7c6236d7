/-
  NARROWER THAN 'FOR EVERY INPUT', by the rows' own cells (each row's printed sentence says how): MultiChecks: loops · MultiEnds: loops · MultiChains: loops · MultiEmpty: loops · MultiDevelops: loops · BoundsLifts: loops · BoundsHeights: loops · BoundsEnds: loops · MultiSteps: loops · MultiOf: loops.
  DERIVED. THE GIVEN ROWS OF THIS SEAT. 10 by the template 'for every input the law returns true; each argument reads behind the call as it read before'; 0 by the template 'total and deterministic' (their statements: YtobangnijcppaaaGreatTotals.lean).
  GIVEN WITH THE SEED: the statements are not yours to turn. If you find one false, say at which input.
  Laid BY PROGRAM, IN A SANDBOX (cutbox-rows.mjs): the forced cells as the released guide's own fill.sh prints them over the translation f385eefcb4670d3f… (all of the seat's roots in one cut). By AI agents, Wed Nov 11 2026. No macro, syntax, notation, axiom, sorry.
-/
import Derived.Test.YtobangnijcppaaaGreatChecked
import GoSem.Claim
import GoSem.ClaimJoined
import GoSem.ClaimMapViews
import Derived.JoinedTies
import Derived.KernelRfl
namespace Go.Proofs.YtobangnijcppaaaGreat
/- THE CELL 'sum', in the pinned program and in every row, IS THE sha256 OF THE DUMP (.gsa) THAT YtobangnijcppaaaGreatProg.lean LOADS. Nothing in Lean hashes anything: it is a label: what it is worth is what the hold of that sum in a sandbox is worth. -/
noncomputable def Tryz.pinned : Pinned := { name := "ytobangnijcppaaagreat", sum := "f385eefcb4670d3f454da53b1fbbf914c024e22c7cb532e05aff7cadfa978297", checked := Tryz.checked }
namespace Rows
def none {H : Type} : Left H := { results := [], args := [] }

/-- 'dwindlelaw17.MultiChecks': WHATEVER THE INPUT: true; the input reads as it did. -/
def multiChecksSpec : ChangeSpec := { name := "multiChecks", fn := fun _ => fun
  | [d1, d2] => { results := [.lit (.bool true)], args := [d1, d2] }
  | _ => none }
def multiChecksRow : OpenClaim := { program := "ytobangnijcppaaagreat", sum := "f385eefcb4670d3f454da53b1fbbf914c024e22c7cb532e05aff7cadfa978297", func := "dwindle/dwindlelaw17.MultiChecks", spec := "multiChecks", inPlace := ["internal/bytealg.abigen_runtime_cmpstring", "slices.overlaps[dwindle/api.Bind]"], unfollowed := true, recurses := true, loops := true, plainKeys := false, apart := false }
def MultiChecksSaid : Prop := multiChecksRow.holds Tryz.pinned (OpenSpec.ofChange multiChecksSpec)

/-- ITS FALSE NEIGHBOUR: 'it returns false'. Refute it at one input. -/
def multiChecksWrong : ChangeSpec := { name := "multiChecks", fn := fun _ => fun
  | [d1, d2] => { results := [.lit (.bool false)], args := [d1, d2] }
  | _ => none }
def MultiChecksWrongFalsely : Prop := multiChecksRow.holds Tryz.pinned (OpenSpec.ofChange multiChecksWrong)

/-- 'dwindlelaw17.MultiEnds': WHATEVER THE INPUT: true; the input reads as it did. -/
def multiEndsSpec : ChangeSpec := { name := "multiEnds", fn := fun _ => fun
  | [d1, d2] => { results := [.lit (.bool true)], args := [d1, d2] }
  | _ => none }
def multiEndsRow : OpenClaim := { program := "ytobangnijcppaaagreat", sum := "f385eefcb4670d3f454da53b1fbbf914c024e22c7cb532e05aff7cadfa978297", func := "dwindle/dwindlelaw17.MultiEnds", spec := "multiEnds", inPlace := ["internal/bytealg.abigen_runtime_cmpstring", "slices.overlaps[dwindle/api.Bind]"], unfollowed := true, recurses := true, loops := true, plainKeys := false, apart := false }
def MultiEndsSaid : Prop := multiEndsRow.holds Tryz.pinned (OpenSpec.ofChange multiEndsSpec)

/-- ITS FALSE NEIGHBOUR: 'it returns false'. Refute it at one input. -/
def multiEndsWrong : ChangeSpec := { name := "multiEnds", fn := fun _ => fun
  | [d1, d2] => { results := [.lit (.bool false)], args := [d1, d2] }
  | _ => none }
def MultiEndsWrongFalsely : Prop := multiEndsRow.holds Tryz.pinned (OpenSpec.ofChange multiEndsWrong)

/-- 'dwindlelaw17.MultiChains': WHATEVER THE INPUT: true; the input reads as it did. -/
def multiChainsSpec : ChangeSpec := { name := "multiChains", fn := fun _ => fun
  | [d1, d2] => { results := [.lit (.bool true)], args := [d1, d2] }
  | _ => none }
def multiChainsRow : OpenClaim := { program := "ytobangnijcppaaagreat", sum := "f385eefcb4670d3f454da53b1fbbf914c024e22c7cb532e05aff7cadfa978297", func := "dwindle/dwindlelaw17.MultiChains", spec := "multiChains", inPlace := ["internal/bytealg.abigen_runtime_cmpstring", "slices.overlaps[dwindle/api.Bind]"], unfollowed := true, recurses := true, loops := true, plainKeys := false, apart := false }
def MultiChainsSaid : Prop := multiChainsRow.holds Tryz.pinned (OpenSpec.ofChange multiChainsSpec)

/-- ITS FALSE NEIGHBOUR: 'it returns false'. Refute it at one input. -/
def multiChainsWrong : ChangeSpec := { name := "multiChains", fn := fun _ => fun
  | [d1, d2] => { results := [.lit (.bool false)], args := [d1, d2] }
  | _ => none }
def MultiChainsWrongFalsely : Prop := multiChainsRow.holds Tryz.pinned (OpenSpec.ofChange multiChainsWrong)

/-- 'dwindlelaw17.MultiEmpty': WHATEVER THE INPUT: true; the input reads as it did. -/
def multiEmptySpec : ChangeSpec := { name := "multiEmpty", fn := fun _ => fun
  | [d] => { results := [.lit (.bool true)], args := [d] }
  | _ => none }
def multiEmptyRow : OpenClaim := { program := "ytobangnijcppaaagreat", sum := "f385eefcb4670d3f454da53b1fbbf914c024e22c7cb532e05aff7cadfa978297", func := "dwindle/dwindlelaw17.MultiEmpty", spec := "multiEmpty", inPlace := ["internal/bytealg.abigen_runtime_cmpstring", "slices.overlaps[dwindle/api.Bind]"], unfollowed := true, recurses := true, loops := true, plainKeys := false, apart := false }
def MultiEmptySaid : Prop := multiEmptyRow.holds Tryz.pinned (OpenSpec.ofChange multiEmptySpec)

/-- ITS FALSE NEIGHBOUR: 'it returns false'. Refute it at one input. -/
def multiEmptyWrong : ChangeSpec := { name := "multiEmpty", fn := fun _ => fun
  | [d] => { results := [.lit (.bool false)], args := [d] }
  | _ => none }
def MultiEmptyWrongFalsely : Prop := multiEmptyRow.holds Tryz.pinned (OpenSpec.ofChange multiEmptyWrong)

/-- 'dwindlelaw17.MultiDevelops': WHATEVER THE INPUT: true; the input reads as it did. -/
def multiDevelopsSpec : ChangeSpec := { name := "multiDevelops", fn := fun _ => fun
  | [d1, d2] => { results := [.lit (.bool true)], args := [d1, d2] }
  | _ => none }
def multiDevelopsRow : OpenClaim := { program := "ytobangnijcppaaagreat", sum := "f385eefcb4670d3f454da53b1fbbf914c024e22c7cb532e05aff7cadfa978297", func := "dwindle/dwindlelaw17.MultiDevelops", spec := "multiDevelops", inPlace := ["internal/bytealg.abigen_runtime_cmpstring", "slices.overlaps[dwindle/api.Bind]"], unfollowed := true, recurses := true, loops := true, plainKeys := false, apart := false }
def MultiDevelopsSaid : Prop := multiDevelopsRow.holds Tryz.pinned (OpenSpec.ofChange multiDevelopsSpec)

/-- ITS FALSE NEIGHBOUR: 'it returns false'. Refute it at one input. -/
def multiDevelopsWrong : ChangeSpec := { name := "multiDevelops", fn := fun _ => fun
  | [d1, d2] => { results := [.lit (.bool false)], args := [d1, d2] }
  | _ => none }
def MultiDevelopsWrongFalsely : Prop := multiDevelopsRow.holds Tryz.pinned (OpenSpec.ofChange multiDevelopsWrong)

/-- 'dwindlelaw24.BoundsLifts': WHATEVER THE INPUT: true; the input reads as it did. -/
def boundsLiftsSpec : ChangeSpec := { name := "boundsLifts", fn := fun _ => fun
  | [d1, d2] => { results := [.lit (.bool true)], args := [d1, d2] }
  | _ => none }
def boundsLiftsRow : OpenClaim := { program := "ytobangnijcppaaagreat", sum := "f385eefcb4670d3f454da53b1fbbf914c024e22c7cb532e05aff7cadfa978297", func := "dwindle/dwindlelaw24.BoundsLifts", spec := "boundsLifts", inPlace := ["internal/bytealg.abigen_runtime_cmpstring", "slices.overlaps[dwindle/api.Bind]", "slices.overlaps[dwindle/api.Move]"], unfollowed := true, recurses := true, loops := true, plainKeys := false, apart := false }
def BoundsLiftsSaid : Prop := boundsLiftsRow.holds Tryz.pinned (OpenSpec.ofChange boundsLiftsSpec)

/-- ITS FALSE NEIGHBOUR: 'it returns false'. Refute it at one input. -/
def boundsLiftsWrong : ChangeSpec := { name := "boundsLifts", fn := fun _ => fun
  | [d1, d2] => { results := [.lit (.bool false)], args := [d1, d2] }
  | _ => none }
def BoundsLiftsWrongFalsely : Prop := boundsLiftsRow.holds Tryz.pinned (OpenSpec.ofChange boundsLiftsWrong)

/-- 'dwindlelaw24.BoundsHeights': WHATEVER THE INPUT: true; the input reads as it did. -/
def boundsHeightsSpec : ChangeSpec := { name := "boundsHeights", fn := fun _ => fun
  | [d1, d2, d3] => { results := [.lit (.bool true)], args := [d1, d2, d3] }
  | _ => none }
def boundsHeightsRow : OpenClaim := { program := "ytobangnijcppaaagreat", sum := "f385eefcb4670d3f454da53b1fbbf914c024e22c7cb532e05aff7cadfa978297", func := "dwindle/dwindlelaw24.BoundsHeights", spec := "boundsHeights", inPlace := ["slices.overlaps[dwindle/api.Move]", "internal/bytealg.abigen_runtime_cmpstring", "slices.overlaps[dwindle/api.Bind]"], unfollowed := true, recurses := true, loops := true, plainKeys := false, apart := false }
def BoundsHeightsSaid : Prop := boundsHeightsRow.holds Tryz.pinned (OpenSpec.ofChange boundsHeightsSpec)

/-- ITS FALSE NEIGHBOUR: 'it returns false'. Refute it at one input. -/
def boundsHeightsWrong : ChangeSpec := { name := "boundsHeights", fn := fun _ => fun
  | [d1, d2, d3] => { results := [.lit (.bool false)], args := [d1, d2, d3] }
  | _ => none }
def BoundsHeightsWrongFalsely : Prop := boundsHeightsRow.holds Tryz.pinned (OpenSpec.ofChange boundsHeightsWrong)

/-- 'dwindlelaw24.BoundsEnds': WHATEVER THE INPUT: true; the input reads as it did. -/
def boundsEndsSpec : ChangeSpec := { name := "boundsEnds", fn := fun _ => fun
  | [d1, d2, d3, d4] => { results := [.lit (.bool true)], args := [d1, d2, d3, d4] }
  | _ => none }
def boundsEndsRow : OpenClaim := { program := "ytobangnijcppaaagreat", sum := "f385eefcb4670d3f454da53b1fbbf914c024e22c7cb532e05aff7cadfa978297", func := "dwindle/dwindlelaw24.BoundsEnds", spec := "boundsEnds", inPlace := ["slices.overlaps[dwindle/api.Move]", "internal/bytealg.abigen_runtime_cmpstring", "slices.overlaps[dwindle/api.Bind]"], unfollowed := true, recurses := true, loops := true, plainKeys := false, apart := false }
def BoundsEndsSaid : Prop := boundsEndsRow.holds Tryz.pinned (OpenSpec.ofChange boundsEndsSpec)

/-- ITS FALSE NEIGHBOUR: 'it returns false'. Refute it at one input. -/
def boundsEndsWrong : ChangeSpec := { name := "boundsEnds", fn := fun _ => fun
  | [d1, d2, d3, d4] => { results := [.lit (.bool false)], args := [d1, d2, d3, d4] }
  | _ => none }
def BoundsEndsWrongFalsely : Prop := boundsEndsRow.holds Tryz.pinned (OpenSpec.ofChange boundsEndsWrong)

/-- 'dwindlelaw17.MultiSteps': WHATEVER THE INPUT: true; the input reads as it did. -/
def multiStepsSpec : ChangeSpec := { name := "multiSteps", fn := fun _ => fun
  | [d1, d2, d3] => { results := [.lit (.bool true)], args := [d1, d2, d3] }
  | _ => none }
def multiStepsRow : OpenClaim := { program := "ytobangnijcppaaagreat", sum := "f385eefcb4670d3f454da53b1fbbf914c024e22c7cb532e05aff7cadfa978297", func := "dwindle/dwindlelaw17.MultiSteps", spec := "multiSteps", inPlace := ["internal/bytealg.abigen_runtime_cmpstring", "slices.overlaps[dwindle/api.Bind]"], unfollowed := true, recurses := true, loops := true, plainKeys := false, apart := false }
def MultiStepsSaid : Prop := multiStepsRow.holds Tryz.pinned (OpenSpec.ofChange multiStepsSpec)

/-- ITS FALSE NEIGHBOUR: 'it returns false'. Refute it at one input. -/
def multiStepsWrong : ChangeSpec := { name := "multiSteps", fn := fun _ => fun
  | [d1, d2, d3] => { results := [.lit (.bool false)], args := [d1, d2, d3] }
  | _ => none }
def MultiStepsWrongFalsely : Prop := multiStepsRow.holds Tryz.pinned (OpenSpec.ofChange multiStepsWrong)

/-- 'dwindlelaw17.MultiOf': WHATEVER THE INPUT: true; the input reads as it did. -/
def multiOfSpec : ChangeSpec := { name := "multiOf", fn := fun _ => fun
  | [d1, d2, d3] => { results := [.lit (.bool true)], args := [d1, d2, d3] }
  | _ => none }
def multiOfRow : OpenClaim := { program := "ytobangnijcppaaagreat", sum := "f385eefcb4670d3f454da53b1fbbf914c024e22c7cb532e05aff7cadfa978297", func := "dwindle/dwindlelaw17.MultiOf", spec := "multiOf", inPlace := ["internal/bytealg.abigen_runtime_cmpstring", "slices.overlaps[dwindle/api.Bind]"], unfollowed := true, recurses := true, loops := true, plainKeys := false, apart := false }
def MultiOfSaid : Prop := multiOfRow.holds Tryz.pinned (OpenSpec.ofChange multiOfSpec)

/-- ITS FALSE NEIGHBOUR: 'it returns false'. Refute it at one input. -/
def multiOfWrong : ChangeSpec := { name := "multiOf", fn := fun _ => fun
  | [d1, d2, d3] => { results := [.lit (.bool false)], args := [d1, d2, d3] }
  | _ => none }
def MultiOfWrongFalsely : Prop := multiOfRow.holds Tryz.pinned (OpenSpec.ofChange multiOfWrong)

/- THE SECOND FORM. 'bulk': how many values and letters a reading holds, each counted each time it is reached (what is shared counts as often as it is met; a slice's spare places count too). A statement '..UptoSaid' is the law's where the arguments, and the package variables that the reading takes, are together of bulk at most 1048576: NARROWER than '..Said'. Prove '..Said' where nothing that the law and all that it calls make is longer than what came in: it says more and counts as full. Else prove '..UptoSaid'. A law counts once. -/
mutual
def uptoBulk {H : Type} : DataW H → Nat
  | .lit (.string bytes) => bytes.length + 1
  | .lit _ => 1
  | .nil => 1
  | .ptr d => uptoBulk d + 1
  | .slice elems spare => uptoBulkAll elems + uptoBulkAll spare + 1
  | .agg parts => uptoBulkAll parts + 1
  | .iface _ d => uptoBulk d + 1
  | .map entries => uptoBulkEntries entries + 1
  | .held _ => 1
def uptoBulkAll {H : Type} : List (DataW H) → Nat
  | [] => 0
  | d :: r => uptoBulk d + uptoBulkAll r
def uptoBulkEntries {H : Type} : List (Lit × DataW H) → Nat
  | [] => 0
  | x :: r => uptoBulkEntry x + uptoBulkEntries r
def uptoBulkEntry {H : Type} : Lit × DataW H → Nat
  | (.string bytes, d) => bytes.length + uptoBulk d + 1
  | (_, d) => uptoBulk d + 1
 end
def uptoSmall : (H : Type) → List (DataW H) → Bool := fun _ ds => decide (uptoBulkAll ds ≤ 1048576)
def OpenSpec.upto (s : _root_.Go.ChangeSpec) : _root_.Go.OpenSpec := { _root_.Go.OpenSpec.ofChange s with cond := some uptoSmall }

/-- 'dwindlelaw17.MultiChecks', WHERE WHAT IT READS IS OF BULK AT MOST 1048576: true; the input reads as it did. -/
def multiChecksUptoRow : OpenClaim := { program := "ytobangnijcppaaagreat", sum := "f385eefcb4670d3f454da53b1fbbf914c024e22c7cb532e05aff7cadfa978297", func := "dwindle/dwindlelaw17.MultiChecks", spec := "multiChecks", inPlace := ["internal/bytealg.abigen_runtime_cmpstring", "slices.overlaps[dwindle/api.Bind]"], unfollowed := true, recurses := true, loops := true, plainKeys := false, apart := false, narrowed := true }
def MultiChecksUptoSaid : Prop := multiChecksUptoRow.holds Tryz.pinned (OpenSpec.upto multiChecksSpec)

/-- 'dwindlelaw17.MultiEnds', WHERE WHAT IT READS IS OF BULK AT MOST 1048576: true; the input reads as it did. -/
def multiEndsUptoRow : OpenClaim := { program := "ytobangnijcppaaagreat", sum := "f385eefcb4670d3f454da53b1fbbf914c024e22c7cb532e05aff7cadfa978297", func := "dwindle/dwindlelaw17.MultiEnds", spec := "multiEnds", inPlace := ["internal/bytealg.abigen_runtime_cmpstring", "slices.overlaps[dwindle/api.Bind]"], unfollowed := true, recurses := true, loops := true, plainKeys := false, apart := false, narrowed := true }
def MultiEndsUptoSaid : Prop := multiEndsUptoRow.holds Tryz.pinned (OpenSpec.upto multiEndsSpec)

/-- 'dwindlelaw17.MultiChains', WHERE WHAT IT READS IS OF BULK AT MOST 1048576: true; the input reads as it did. -/
def multiChainsUptoRow : OpenClaim := { program := "ytobangnijcppaaagreat", sum := "f385eefcb4670d3f454da53b1fbbf914c024e22c7cb532e05aff7cadfa978297", func := "dwindle/dwindlelaw17.MultiChains", spec := "multiChains", inPlace := ["internal/bytealg.abigen_runtime_cmpstring", "slices.overlaps[dwindle/api.Bind]"], unfollowed := true, recurses := true, loops := true, plainKeys := false, apart := false, narrowed := true }
def MultiChainsUptoSaid : Prop := multiChainsUptoRow.holds Tryz.pinned (OpenSpec.upto multiChainsSpec)

/-- 'dwindlelaw17.MultiEmpty', WHERE WHAT IT READS IS OF BULK AT MOST 1048576: true; the input reads as it did. -/
def multiEmptyUptoRow : OpenClaim := { program := "ytobangnijcppaaagreat", sum := "f385eefcb4670d3f454da53b1fbbf914c024e22c7cb532e05aff7cadfa978297", func := "dwindle/dwindlelaw17.MultiEmpty", spec := "multiEmpty", inPlace := ["internal/bytealg.abigen_runtime_cmpstring", "slices.overlaps[dwindle/api.Bind]"], unfollowed := true, recurses := true, loops := true, plainKeys := false, apart := false, narrowed := true }
def MultiEmptyUptoSaid : Prop := multiEmptyUptoRow.holds Tryz.pinned (OpenSpec.upto multiEmptySpec)

/-- 'dwindlelaw17.MultiDevelops', WHERE WHAT IT READS IS OF BULK AT MOST 1048576: true; the input reads as it did. -/
def multiDevelopsUptoRow : OpenClaim := { program := "ytobangnijcppaaagreat", sum := "f385eefcb4670d3f454da53b1fbbf914c024e22c7cb532e05aff7cadfa978297", func := "dwindle/dwindlelaw17.MultiDevelops", spec := "multiDevelops", inPlace := ["internal/bytealg.abigen_runtime_cmpstring", "slices.overlaps[dwindle/api.Bind]"], unfollowed := true, recurses := true, loops := true, plainKeys := false, apart := false, narrowed := true }
def MultiDevelopsUptoSaid : Prop := multiDevelopsUptoRow.holds Tryz.pinned (OpenSpec.upto multiDevelopsSpec)

/-- 'dwindlelaw24.BoundsLifts', WHERE WHAT IT READS IS OF BULK AT MOST 1048576: true; the input reads as it did. -/
def boundsLiftsUptoRow : OpenClaim := { program := "ytobangnijcppaaagreat", sum := "f385eefcb4670d3f454da53b1fbbf914c024e22c7cb532e05aff7cadfa978297", func := "dwindle/dwindlelaw24.BoundsLifts", spec := "boundsLifts", inPlace := ["internal/bytealg.abigen_runtime_cmpstring", "slices.overlaps[dwindle/api.Bind]", "slices.overlaps[dwindle/api.Move]"], unfollowed := true, recurses := true, loops := true, plainKeys := false, apart := false, narrowed := true }
def BoundsLiftsUptoSaid : Prop := boundsLiftsUptoRow.holds Tryz.pinned (OpenSpec.upto boundsLiftsSpec)

/-- 'dwindlelaw24.BoundsHeights', WHERE WHAT IT READS IS OF BULK AT MOST 1048576: true; the input reads as it did. -/
def boundsHeightsUptoRow : OpenClaim := { program := "ytobangnijcppaaagreat", sum := "f385eefcb4670d3f454da53b1fbbf914c024e22c7cb532e05aff7cadfa978297", func := "dwindle/dwindlelaw24.BoundsHeights", spec := "boundsHeights", inPlace := ["slices.overlaps[dwindle/api.Move]", "internal/bytealg.abigen_runtime_cmpstring", "slices.overlaps[dwindle/api.Bind]"], unfollowed := true, recurses := true, loops := true, plainKeys := false, apart := false, narrowed := true }
def BoundsHeightsUptoSaid : Prop := boundsHeightsUptoRow.holds Tryz.pinned (OpenSpec.upto boundsHeightsSpec)

/-- 'dwindlelaw24.BoundsEnds', WHERE WHAT IT READS IS OF BULK AT MOST 1048576: true; the input reads as it did. -/
def boundsEndsUptoRow : OpenClaim := { program := "ytobangnijcppaaagreat", sum := "f385eefcb4670d3f454da53b1fbbf914c024e22c7cb532e05aff7cadfa978297", func := "dwindle/dwindlelaw24.BoundsEnds", spec := "boundsEnds", inPlace := ["slices.overlaps[dwindle/api.Move]", "internal/bytealg.abigen_runtime_cmpstring", "slices.overlaps[dwindle/api.Bind]"], unfollowed := true, recurses := true, loops := true, plainKeys := false, apart := false, narrowed := true }
def BoundsEndsUptoSaid : Prop := boundsEndsUptoRow.holds Tryz.pinned (OpenSpec.upto boundsEndsSpec)

/-- 'dwindlelaw17.MultiSteps', WHERE WHAT IT READS IS OF BULK AT MOST 1048576: true; the input reads as it did. -/
def multiStepsUptoRow : OpenClaim := { program := "ytobangnijcppaaagreat", sum := "f385eefcb4670d3f454da53b1fbbf914c024e22c7cb532e05aff7cadfa978297", func := "dwindle/dwindlelaw17.MultiSteps", spec := "multiSteps", inPlace := ["internal/bytealg.abigen_runtime_cmpstring", "slices.overlaps[dwindle/api.Bind]"], unfollowed := true, recurses := true, loops := true, plainKeys := false, apart := false, narrowed := true }
def MultiStepsUptoSaid : Prop := multiStepsUptoRow.holds Tryz.pinned (OpenSpec.upto multiStepsSpec)

/-- 'dwindlelaw17.MultiOf', WHERE WHAT IT READS IS OF BULK AT MOST 1048576: true; the input reads as it did. -/
def multiOfUptoRow : OpenClaim := { program := "ytobangnijcppaaagreat", sum := "f385eefcb4670d3f454da53b1fbbf914c024e22c7cb532e05aff7cadfa978297", func := "dwindle/dwindlelaw17.MultiOf", spec := "multiOf", inPlace := ["internal/bytealg.abigen_runtime_cmpstring", "slices.overlaps[dwindle/api.Bind]"], unfollowed := true, recurses := true, loops := true, plainKeys := false, apart := false, narrowed := true }
def MultiOfUptoSaid : Prop := multiOfUptoRow.holds Tryz.pinned (OpenSpec.upto multiOfSpec)

end Rows
end Go.Proofs.YtobangnijcppaaaGreat
