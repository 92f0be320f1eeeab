/-
  No cell of these rows narrows 'for every input' (looked for: loops, veiled, ifaces, maps, wideKeys, modest, calm, conditions, laid).
  DERIVED. THE GIVEN ROWS OF THIS SEAT. 3 by the template 'for every input the law returns true; each argument reads behind the call as it read before'; 0 by the template 'total and deterministic' (their statements: YtpdjphpjejjkpaaTotals.lean).
  GIVEN WITH THE SEED: the statements are not yours to turn. If you find one false, say at which input.
  Laid BY PROGRAM, IN A SANDBOX (cutbox-rows.mjs): the forced cells as the released guide's own fill.sh prints them over the translation f70e8735f247a296… (all of the seat's roots in one cut). By AI agents, Wed Nov 11 2026. No macro, syntax, notation, axiom, sorry.
-/
import Derived.Test.YtpdjphpjejjkpaaChecked
import GoSem.Claim
import GoSem.ClaimJoined
import GoSem.ClaimMapViews
import Derived.JoinedTies
import Derived.KernelRfl
namespace Go.Proofs.Ytpdjphpjejjkpaa
/- THE CELL 'sum', in the pinned program and in every row, IS THE sha256 OF THE DUMP (.gsa) THAT YtpdjphpjejjkpaaProg.lean LOADS. Nothing in Lean hashes anything: it is a label: what it is worth is what the hold of that sum in a sandbox is worth. -/
noncomputable def Try.pinned : Pinned := { name := "ytpdjphpjejjkpaa", sum := "f70e8735f247a29611147de8b863699d82a93ac7d4dc9476c7a431e58d0ae695", checked := Try.checked }
namespace Rows
def none {H : Type} : Left H := { results := [], args := [] }

/-- 'clearwaylaw09.StrongComponents': WHATEVER THE INPUT: true; the input reads as it did. -/
def strongComponentsSpec : ChangeSpec := { name := "strongComponents", fn := fun _ => fun
  | [d1, d2, d3] => { results := [.lit (.bool true)], args := [d1, d2, d3] }
  | _ => none }
def strongComponentsRow : OpenClaim := { program := "ytpdjphpjejjkpaa", sum := "f70e8735f247a29611147de8b863699d82a93ac7d4dc9476c7a431e58d0ae695", func := "clearway/clearwaylaw09.StrongComponents", spec := "strongComponents", unfollowed := true, recurses := true, apart := false }
def StrongComponentsSaid : Prop := strongComponentsRow.holds Try.pinned (OpenSpec.ofChange strongComponentsSpec)

/-- ITS FALSE NEIGHBOUR: 'it returns false'. Refute it at one input. -/
def strongComponentsWrong : ChangeSpec := { name := "strongComponents", fn := fun _ => fun
  | [d1, d2, d3] => { results := [.lit (.bool false)], args := [d1, d2, d3] }
  | _ => none }
def StrongComponentsWrongFalsely : Prop := strongComponentsRow.holds Try.pinned (OpenSpec.ofChange strongComponentsWrong)

/-- 'clearwaylaw09.StrongRanks': WHATEVER THE INPUT: true; the input reads as it did. -/
def strongRanksSpec : ChangeSpec := { name := "strongRanks", fn := fun _ => fun
  | [d1, d2, d3] => { results := [.lit (.bool true)], args := [d1, d2, d3] }
  | _ => none }
def strongRanksRow : OpenClaim := { program := "ytpdjphpjejjkpaa", sum := "f70e8735f247a29611147de8b863699d82a93ac7d4dc9476c7a431e58d0ae695", func := "clearway/clearwaylaw09.StrongRanks", spec := "strongRanks", unfollowed := true, recurses := true, apart := false }
def StrongRanksSaid : Prop := strongRanksRow.holds Try.pinned (OpenSpec.ofChange strongRanksSpec)

/-- ITS FALSE NEIGHBOUR: 'it returns false'. Refute it at one input. -/
def strongRanksWrong : ChangeSpec := { name := "strongRanks", fn := fun _ => fun
  | [d1, d2, d3] => { results := [.lit (.bool false)], args := [d1, d2, d3] }
  | _ => none }
def StrongRanksWrongFalsely : Prop := strongRanksRow.holds Try.pinned (OpenSpec.ofChange strongRanksWrong)

/-- 'clearwaylaw09.StrongCounts': WHATEVER THE INPUT: true; the input reads as it did. -/
def strongCountsSpec : ChangeSpec := { name := "strongCounts", fn := fun _ => fun
  | [d1, d2, d3] => { results := [.lit (.bool true)], args := [d1, d2, d3] }
  | _ => none }
def strongCountsRow : OpenClaim := { program := "ytpdjphpjejjkpaa", sum := "f70e8735f247a29611147de8b863699d82a93ac7d4dc9476c7a431e58d0ae695", func := "clearway/clearwaylaw09.StrongCounts", spec := "strongCounts", unfollowed := true, recurses := true, apart := false }
def StrongCountsSaid : Prop := strongCountsRow.holds Try.pinned (OpenSpec.ofChange strongCountsSpec)

/-- ITS FALSE NEIGHBOUR: 'it returns false'. Refute it at one input. -/
def strongCountsWrong : ChangeSpec := { name := "strongCounts", fn := fun _ => fun
  | [d1, d2, d3] => { results := [.lit (.bool false)], args := [d1, d2, d3] }
  | _ => none }
def StrongCountsWrongFalsely : Prop := strongCountsRow.holds Try.pinned (OpenSpec.ofChange strongCountsWrong)

/- THE SECOND FORM. 'bulk': how many values and letters a reading holds, each counted each time it is reached (what is shared counts as often as it is met; a slice's spare places count too). A statement '..UptoSaid' is the law's where the arguments, and the package variables that the reading takes, are together of bulk at most 1048576: NARROWER than '..Said'. Prove '..Said' where nothing that the law and all that it calls make is longer than what came in: it says more and counts as full. Else prove '..UptoSaid'. A law counts once. -/
mutual
def uptoBulk {H : Type} : DataW H → Nat
  | .lit (.string bytes) => bytes.length + 1
  | .lit _ => 1
  | .nil => 1
  | .ptr d => uptoBulk d + 1
  | .slice elems spare => uptoBulkAll elems + uptoBulkAll spare + 1
  | .agg parts => uptoBulkAll parts + 1
  | .iface _ d => uptoBulk d + 1
  | .map entries => uptoBulkEntries entries + 1
  | .held _ => 1
def uptoBulkAll {H : Type} : List (DataW H) → Nat
  | [] => 0
  | d :: r => uptoBulk d + uptoBulkAll r
def uptoBulkEntries {H : Type} : List (Lit × DataW H) → Nat
  | [] => 0
  | x :: r => uptoBulkEntry x + uptoBulkEntries r
def uptoBulkEntry {H : Type} : Lit × DataW H → Nat
  | (.string bytes, d) => bytes.length + uptoBulk d + 1
  | (_, d) => uptoBulk d + 1
 end
def uptoSmall : (H : Type) → List (DataW H) → Bool := fun _ ds => decide (uptoBulkAll ds ≤ 1048576)
def OpenSpec.upto (s : _root_.Go.ChangeSpec) : _root_.Go.OpenSpec := { _root_.Go.OpenSpec.ofChange s with cond := some uptoSmall }

/-- 'clearwaylaw09.StrongComponents', WHERE WHAT IT READS IS OF BULK AT MOST 1048576: true; the input reads as it did. -/
def strongComponentsUptoRow : OpenClaim := { program := "ytpdjphpjejjkpaa", sum := "f70e8735f247a29611147de8b863699d82a93ac7d4dc9476c7a431e58d0ae695", func := "clearway/clearwaylaw09.StrongComponents", spec := "strongComponents", unfollowed := true, recurses := true, apart := false, narrowed := true }
def StrongComponentsUptoSaid : Prop := strongComponentsUptoRow.holds Try.pinned (OpenSpec.upto strongComponentsSpec)

/-- 'clearwaylaw09.StrongRanks', WHERE WHAT IT READS IS OF BULK AT MOST 1048576: true; the input reads as it did. -/
def strongRanksUptoRow : OpenClaim := { program := "ytpdjphpjejjkpaa", sum := "f70e8735f247a29611147de8b863699d82a93ac7d4dc9476c7a431e58d0ae695", func := "clearway/clearwaylaw09.StrongRanks", spec := "strongRanks", unfollowed := true, recurses := true, apart := false, narrowed := true }
def StrongRanksUptoSaid : Prop := strongRanksUptoRow.holds Try.pinned (OpenSpec.upto strongRanksSpec)

/-- 'clearwaylaw09.StrongCounts', WHERE WHAT IT READS IS OF BULK AT MOST 1048576: true; the input reads as it did. -/
def strongCountsUptoRow : OpenClaim := { program := "ytpdjphpjejjkpaa", sum := "f70e8735f247a29611147de8b863699d82a93ac7d4dc9476c7a431e58d0ae695", func := "clearway/clearwaylaw09.StrongCounts", spec := "strongCounts", unfollowed := true, recurses := true, apart := false, narrowed := true }
def StrongCountsUptoSaid : Prop := strongCountsUptoRow.holds Try.pinned (OpenSpec.upto strongCountsSpec)

end Rows
end Go.Proofs.Ytpdjphpjejjkpaa
