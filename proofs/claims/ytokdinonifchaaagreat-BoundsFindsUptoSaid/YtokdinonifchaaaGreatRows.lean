/-
  NARROWER THAN 'FOR EVERY INPUT', by the rows' own cells (each row's printed sentence says how): LoopChecks: loops · LoopFinds: loops · BoundsChecks: loops · BoundsLengths: loops · BoundsFinds: loops · BoundsShort: loops · BoundsIs: loops.
  DERIVED. THE GIVEN ROWS OF THIS SEAT. 7 by the template 'for every input the law returns true; each argument reads behind the call as it read before'; 0 by the template 'total and deterministic' (their statements: YtokdinonifchaaaGreatTotals.lean).
  GIVEN WITH THE SEED: the statements are not yours to turn. If you find one false, say at which input.
  Laid BY PROGRAM, IN A SANDBOX (cutbox-rows.mjs): the forced cells as the released guide's own fill.sh prints them over the translation 083b5f2d70deab48… (all of the seat's roots in one cut). By AI agents, Wed Nov 11 2026. No macro, syntax, notation, axiom, sorry.
-/
import Derived.Test.YtokdinonifchaaaGreatChecked
import GoSem.Claim
import GoSem.ClaimJoined
import GoSem.ClaimMapViews
import Derived.JoinedTies
import Derived.KernelRfl
namespace Go.Proofs.YtokdinonifchaaaGreat
/- THE CELL 'sum', in the pinned program and in every row, IS THE sha256 OF THE DUMP (.gsa) THAT YtokdinonifchaaaGreatProg.lean LOADS. Nothing in Lean hashes anything: it is a label: what it is worth is what the hold of that sum in a sandbox is worth. -/
noncomputable def Tryz.pinned : Pinned := { name := "ytokdinonifchaaagreat", sum := "083b5f2d70deab48eefb305b2208275aecd2eb9c0ad768d74a010626d3f763c8", checked := Tryz.checked }
namespace Rows
def none {H : Type} : Left H := { results := [], args := [] }

/-- 'dwindlelaw14.LoopChecks': WHATEVER THE INPUT: true; the input reads as it did. -/
def loopChecksSpec : ChangeSpec := { name := "loopChecks", fn := fun _ => fun
  | [d1, d2, d3] => { results := [.lit (.bool true)], args := [d1, d2, d3] }
  | _ => none }
def loopChecksRow : OpenClaim := { program := "ytokdinonifchaaagreat", sum := "083b5f2d70deab48eefb305b2208275aecd2eb9c0ad768d74a010626d3f763c8", func := "dwindle/dwindlelaw14.LoopChecks", spec := "loopChecks", inPlace := ["internal/bytealg.abigen_runtime_cmpstring", "slices.overlaps[dwindle/api.Bind]"], unfollowed := true, recurses := true, loops := true, plainKeys := false, apart := false }
def LoopChecksSaid : Prop := loopChecksRow.holds Tryz.pinned (OpenSpec.ofChange loopChecksSpec)

/-- ITS FALSE NEIGHBOUR: 'it returns false'. Refute it at one input. -/
def loopChecksWrong : ChangeSpec := { name := "loopChecks", fn := fun _ => fun
  | [d1, d2, d3] => { results := [.lit (.bool false)], args := [d1, d2, d3] }
  | _ => none }
def LoopChecksWrongFalsely : Prop := loopChecksRow.holds Tryz.pinned (OpenSpec.ofChange loopChecksWrong)

/-- 'dwindlelaw14.LoopFinds': WHATEVER THE INPUT: true; the input reads as it did. -/
def loopFindsSpec : ChangeSpec := { name := "loopFinds", fn := fun _ => fun
  | [d1, d2, d3] => { results := [.lit (.bool true)], args := [d1, d2, d3] }
  | _ => none }
def loopFindsRow : OpenClaim := { program := "ytokdinonifchaaagreat", sum := "083b5f2d70deab48eefb305b2208275aecd2eb9c0ad768d74a010626d3f763c8", func := "dwindle/dwindlelaw14.LoopFinds", spec := "loopFinds", inPlace := ["internal/bytealg.abigen_runtime_cmpstring", "slices.overlaps[dwindle/api.Bind]"], unfollowed := true, recurses := true, loops := true, plainKeys := false, apart := false }
def LoopFindsSaid : Prop := loopFindsRow.holds Tryz.pinned (OpenSpec.ofChange loopFindsSpec)

/-- ITS FALSE NEIGHBOUR: 'it returns false'. Refute it at one input. -/
def loopFindsWrong : ChangeSpec := { name := "loopFinds", fn := fun _ => fun
  | [d1, d2, d3] => { results := [.lit (.bool false)], args := [d1, d2, d3] }
  | _ => none }
def LoopFindsWrongFalsely : Prop := loopFindsRow.holds Tryz.pinned (OpenSpec.ofChange loopFindsWrong)

/-- 'dwindlelaw24.BoundsChecks': WHATEVER THE INPUT: true; the input reads as it did. -/
def boundsChecksSpec : ChangeSpec := { name := "boundsChecks", fn := fun _ => fun
  | [d1, d2] => { results := [.lit (.bool true)], args := [d1, d2] }
  | _ => none }
def boundsChecksRow : OpenClaim := { program := "ytokdinonifchaaagreat", sum := "083b5f2d70deab48eefb305b2208275aecd2eb9c0ad768d74a010626d3f763c8", func := "dwindle/dwindlelaw24.BoundsChecks", spec := "boundsChecks", inPlace := ["slices.overlaps[dwindle/api.Move]"], unfollowed := true, recurses := true, loops := true, plainKeys := false, apart := false }
def BoundsChecksSaid : Prop := boundsChecksRow.holds Tryz.pinned (OpenSpec.ofChange boundsChecksSpec)

/-- ITS FALSE NEIGHBOUR: 'it returns false'. Refute it at one input. -/
def boundsChecksWrong : ChangeSpec := { name := "boundsChecks", fn := fun _ => fun
  | [d1, d2] => { results := [.lit (.bool false)], args := [d1, d2] }
  | _ => none }
def BoundsChecksWrongFalsely : Prop := boundsChecksRow.holds Tryz.pinned (OpenSpec.ofChange boundsChecksWrong)

/-- 'dwindlelaw24.BoundsLengths': WHATEVER THE INPUT: true; the input reads as it did. -/
def boundsLengthsSpec : ChangeSpec := { name := "boundsLengths", fn := fun _ => fun
  | [d1, d2, d3] => { results := [.lit (.bool true)], args := [d1, d2, d3] }
  | _ => none }
def boundsLengthsRow : OpenClaim := { program := "ytokdinonifchaaagreat", sum := "083b5f2d70deab48eefb305b2208275aecd2eb9c0ad768d74a010626d3f763c8", func := "dwindle/dwindlelaw24.BoundsLengths", spec := "boundsLengths", inPlace := ["slices.overlaps[dwindle/api.Move]"], unfollowed := true, recurses := true, loops := true, plainKeys := false, apart := false }
def BoundsLengthsSaid : Prop := boundsLengthsRow.holds Tryz.pinned (OpenSpec.ofChange boundsLengthsSpec)

/-- ITS FALSE NEIGHBOUR: 'it returns false'. Refute it at one input. -/
def boundsLengthsWrong : ChangeSpec := { name := "boundsLengths", fn := fun _ => fun
  | [d1, d2, d3] => { results := [.lit (.bool false)], args := [d1, d2, d3] }
  | _ => none }
def BoundsLengthsWrongFalsely : Prop := boundsLengthsRow.holds Tryz.pinned (OpenSpec.ofChange boundsLengthsWrong)

/-- 'dwindlelaw24.BoundsFinds': WHATEVER THE INPUT: true; the input reads as it did. -/
def boundsFindsSpec : ChangeSpec := { name := "boundsFinds", fn := fun _ => fun
  | [d1, d2, d3] => { results := [.lit (.bool true)], args := [d1, d2, d3] }
  | _ => none }
def boundsFindsRow : OpenClaim := { program := "ytokdinonifchaaagreat", sum := "083b5f2d70deab48eefb305b2208275aecd2eb9c0ad768d74a010626d3f763c8", func := "dwindle/dwindlelaw24.BoundsFinds", spec := "boundsFinds", inPlace := ["slices.overlaps[dwindle/api.Move]"], unfollowed := true, recurses := true, loops := true, plainKeys := false, apart := false }
def BoundsFindsSaid : Prop := boundsFindsRow.holds Tryz.pinned (OpenSpec.ofChange boundsFindsSpec)

/-- ITS FALSE NEIGHBOUR: 'it returns false'. Refute it at one input. -/
def boundsFindsWrong : ChangeSpec := { name := "boundsFinds", fn := fun _ => fun
  | [d1, d2, d3] => { results := [.lit (.bool false)], args := [d1, d2, d3] }
  | _ => none }
def BoundsFindsWrongFalsely : Prop := boundsFindsRow.holds Tryz.pinned (OpenSpec.ofChange boundsFindsWrong)

/-- 'dwindlelaw24.BoundsShort': WHATEVER THE INPUT: true; the input reads as it did. -/
def boundsShortSpec : ChangeSpec := { name := "boundsShort", fn := fun _ => fun
  | [d1, d2, d3] => { results := [.lit (.bool true)], args := [d1, d2, d3] }
  | _ => none }
def boundsShortRow : OpenClaim := { program := "ytokdinonifchaaagreat", sum := "083b5f2d70deab48eefb305b2208275aecd2eb9c0ad768d74a010626d3f763c8", func := "dwindle/dwindlelaw24.BoundsShort", spec := "boundsShort", inPlace := ["slices.overlaps[dwindle/api.Move]"], unfollowed := true, recurses := true, loops := true, plainKeys := false, apart := false }
def BoundsShortSaid : Prop := boundsShortRow.holds Tryz.pinned (OpenSpec.ofChange boundsShortSpec)

/-- ITS FALSE NEIGHBOUR: 'it returns false'. Refute it at one input. -/
def boundsShortWrong : ChangeSpec := { name := "boundsShort", fn := fun _ => fun
  | [d1, d2, d3] => { results := [.lit (.bool false)], args := [d1, d2, d3] }
  | _ => none }
def BoundsShortWrongFalsely : Prop := boundsShortRow.holds Tryz.pinned (OpenSpec.ofChange boundsShortWrong)

/-- 'dwindlelaw24.BoundsIs': WHATEVER THE INPUT: true; the input reads as it did. -/
def boundsIsSpec : ChangeSpec := { name := "boundsIs", fn := fun _ => fun
  | [d] => { results := [.lit (.bool true)], args := [d] }
  | _ => none }
def boundsIsRow : OpenClaim := { program := "ytokdinonifchaaagreat", sum := "083b5f2d70deab48eefb305b2208275aecd2eb9c0ad768d74a010626d3f763c8", func := "dwindle/dwindlelaw24.BoundsIs", spec := "boundsIs", inPlace := ["slices.overlaps[dwindle/api.Move]"], unfollowed := true, recurses := true, loops := true, plainKeys := false, apart := false }
def BoundsIsSaid : Prop := boundsIsRow.holds Tryz.pinned (OpenSpec.ofChange boundsIsSpec)

/-- ITS FALSE NEIGHBOUR: 'it returns false'. Refute it at one input. -/
def boundsIsWrong : ChangeSpec := { name := "boundsIs", fn := fun _ => fun
  | [d] => { results := [.lit (.bool false)], args := [d] }
  | _ => none }
def BoundsIsWrongFalsely : Prop := boundsIsRow.holds Tryz.pinned (OpenSpec.ofChange boundsIsWrong)

/- THE SECOND FORM. 'bulk': how many values and letters a reading holds, each counted each time it is reached (what is shared counts as often as it is met; a slice's spare places count too). A statement '..UptoSaid' is the law's where the arguments, and the package variables that the reading takes, are together of bulk at most 1048576: NARROWER than '..Said'. Prove '..Said' where nothing that the law and all that it calls make is longer than what came in: it says more and counts as full. Else prove '..UptoSaid'. A law counts once. -/
mutual
def uptoBulk {H : Type} : DataW H → Nat
  | .lit (.string bytes) => bytes.length + 1
  | .lit _ => 1
  | .nil => 1
  | .ptr d => uptoBulk d + 1
  | .slice elems spare => uptoBulkAll elems + uptoBulkAll spare + 1
  | .agg parts => uptoBulkAll parts + 1
  | .iface _ d => uptoBulk d + 1
  | .map entries => uptoBulkEntries entries + 1
  | .held _ => 1
def uptoBulkAll {H : Type} : List (DataW H) → Nat
  | [] => 0
  | d :: r => uptoBulk d + uptoBulkAll r
def uptoBulkEntries {H : Type} : List (Lit × DataW H) → Nat
  | [] => 0
  | x :: r => uptoBulkEntry x + uptoBulkEntries r
def uptoBulkEntry {H : Type} : Lit × DataW H → Nat
  | (.string bytes, d) => bytes.length + uptoBulk d + 1
  | (_, d) => uptoBulk d + 1
 end
def uptoSmall : (H : Type) → List (DataW H) → Bool := fun _ ds => decide (uptoBulkAll ds ≤ 1048576)
def OpenSpec.upto (s : _root_.Go.ChangeSpec) : _root_.Go.OpenSpec := { _root_.Go.OpenSpec.ofChange s with cond := some uptoSmall }

/-- 'dwindlelaw14.LoopChecks', WHERE WHAT IT READS IS OF BULK AT MOST 1048576: true; the input reads as it did. -/
def loopChecksUptoRow : OpenClaim := { program := "ytokdinonifchaaagreat", sum := "083b5f2d70deab48eefb305b2208275aecd2eb9c0ad768d74a010626d3f763c8", func := "dwindle/dwindlelaw14.LoopChecks", spec := "loopChecks", inPlace := ["internal/bytealg.abigen_runtime_cmpstring", "slices.overlaps[dwindle/api.Bind]"], unfollowed := true, recurses := true, loops := true, plainKeys := false, apart := false, narrowed := true }
def LoopChecksUptoSaid : Prop := loopChecksUptoRow.holds Tryz.pinned (OpenSpec.upto loopChecksSpec)

/-- 'dwindlelaw14.LoopFinds', WHERE WHAT IT READS IS OF BULK AT MOST 1048576: true; the input reads as it did. -/
def loopFindsUptoRow : OpenClaim := { program := "ytokdinonifchaaagreat", sum := "083b5f2d70deab48eefb305b2208275aecd2eb9c0ad768d74a010626d3f763c8", func := "dwindle/dwindlelaw14.LoopFinds", spec := "loopFinds", inPlace := ["internal/bytealg.abigen_runtime_cmpstring", "slices.overlaps[dwindle/api.Bind]"], unfollowed := true, recurses := true, loops := true, plainKeys := false, apart := false, narrowed := true }
def LoopFindsUptoSaid : Prop := loopFindsUptoRow.holds Tryz.pinned (OpenSpec.upto loopFindsSpec)

/-- 'dwindlelaw24.BoundsChecks', WHERE WHAT IT READS IS OF BULK AT MOST 1048576: true; the input reads as it did. -/
def boundsChecksUptoRow : OpenClaim := { program := "ytokdinonifchaaagreat", sum := "083b5f2d70deab48eefb305b2208275aecd2eb9c0ad768d74a010626d3f763c8", func := "dwindle/dwindlelaw24.BoundsChecks", spec := "boundsChecks", inPlace := ["slices.overlaps[dwindle/api.Move]"], unfollowed := true, recurses := true, loops := true, plainKeys := false, apart := false, narrowed := true }
def BoundsChecksUptoSaid : Prop := boundsChecksUptoRow.holds Tryz.pinned (OpenSpec.upto boundsChecksSpec)

/-- 'dwindlelaw24.BoundsLengths', WHERE WHAT IT READS IS OF BULK AT MOST 1048576: true; the input reads as it did. -/
def boundsLengthsUptoRow : OpenClaim := { program := "ytokdinonifchaaagreat", sum := "083b5f2d70deab48eefb305b2208275aecd2eb9c0ad768d74a010626d3f763c8", func := "dwindle/dwindlelaw24.BoundsLengths", spec := "boundsLengths", inPlace := ["slices.overlaps[dwindle/api.Move]"], unfollowed := true, recurses := true, loops := true, plainKeys := false, apart := false, narrowed := true }
def BoundsLengthsUptoSaid : Prop := boundsLengthsUptoRow.holds Tryz.pinned (OpenSpec.upto boundsLengthsSpec)

/-- 'dwindlelaw24.BoundsFinds', WHERE WHAT IT READS IS OF BULK AT MOST 1048576: true; the input reads as it did. -/
def boundsFindsUptoRow : OpenClaim := { program := "ytokdinonifchaaagreat", sum := "083b5f2d70deab48eefb305b2208275aecd2eb9c0ad768d74a010626d3f763c8", func := "dwindle/dwindlelaw24.BoundsFinds", spec := "boundsFinds", inPlace := ["slices.overlaps[dwindle/api.Move]"], unfollowed := true, recurses := true, loops := true, plainKeys := false, apart := false, narrowed := true }
def BoundsFindsUptoSaid : Prop := boundsFindsUptoRow.holds Tryz.pinned (OpenSpec.upto boundsFindsSpec)

/-- 'dwindlelaw24.BoundsShort', WHERE WHAT IT READS IS OF BULK AT MOST 1048576: true; the input reads as it did. -/
def boundsShortUptoRow : OpenClaim := { program := "ytokdinonifchaaagreat", sum := "083b5f2d70deab48eefb305b2208275aecd2eb9c0ad768d74a010626d3f763c8", func := "dwindle/dwindlelaw24.BoundsShort", spec := "boundsShort", inPlace := ["slices.overlaps[dwindle/api.Move]"], unfollowed := true, recurses := true, loops := true, plainKeys := false, apart := false, narrowed := true }
def BoundsShortUptoSaid : Prop := boundsShortUptoRow.holds Tryz.pinned (OpenSpec.upto boundsShortSpec)

/-- 'dwindlelaw24.BoundsIs', WHERE WHAT IT READS IS OF BULK AT MOST 1048576: true; the input reads as it did. -/
def boundsIsUptoRow : OpenClaim := { program := "ytokdinonifchaaagreat", sum := "083b5f2d70deab48eefb305b2208275aecd2eb9c0ad768d74a010626d3f763c8", func := "dwindle/dwindlelaw24.BoundsIs", spec := "boundsIs", inPlace := ["slices.overlaps[dwindle/api.Move]"], unfollowed := true, recurses := true, loops := true, plainKeys := false, apart := false, narrowed := true }
def BoundsIsUptoSaid : Prop := boundsIsUptoRow.holds Tryz.pinned (OpenSpec.upto boundsIsSpec)

end Rows
end Go.Proofs.YtokdinonifchaaaGreat
