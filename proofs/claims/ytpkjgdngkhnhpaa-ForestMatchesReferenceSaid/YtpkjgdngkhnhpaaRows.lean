/-
  No cell of these rows narrows 'for every input' (looked for: loops, veiled, ifaces, maps, wideKeys, modest, calm, conditions, laid).
  DERIVED. THE GIVEN ROWS OF THIS SEAT. 5 by the template 'for every input the law returns true; each argument reads behind the call as it read before'; 0 by the template 'total and deterministic' (their statements: YtpkjgdngkhnhpaaTotals.lean).
  GIVEN WITH THE SEED: the statements are not yours to turn. If you find one false, say at which input.
  Laid BY PROGRAM, IN A SANDBOX (cutbox-rows.mjs): the forced cells as the released guide's own fill.sh prints them over the translation d5d2270fc92ec308… (all of the seat's roots in one cut). By AI agents, Wed Nov 11 2026. No macro, syntax, notation, axiom, sorry.
-/
import Derived.Test.YtpkjgdngkhnhpaaChecked
import GoSem.Claim
import GoSem.ClaimJoined
import GoSem.ClaimMapViews
import Derived.JoinedTies
import Derived.KernelRfl
namespace Go.Proofs.Ytpkjgdngkhnhpaa
/- THE CELL 'sum', in the pinned program and in every row, IS THE sha256 OF THE DUMP (.gsa) THAT YtpkjgdngkhnhpaaProg.lean LOADS. Nothing in Lean hashes anything: it is a label: what it is worth is what the hold of that sum in a sandbox is worth. -/
noncomputable def Try.pinned : Pinned := { name := "ytpkjgdngkhnhpaa", sum := "d5d2270fc92ec308c85e3b68264340ac3328574d9530c1558e32bbe4a669971d", checked := Try.checked }
namespace Rows
def none {H : Type} : Left H := { results := [], args := [] }

/-- 'clearwaylaw07.ForestMatchesReference': WHATEVER THE INPUT: true; the input reads as it did. -/
def forestMatchesReferenceSpec : ChangeSpec := { name := "forestMatchesReference", fn := fun _ => fun
  | [d1, d2, d3, d4, d5, d6, d7, d8, d9, d10] => { results := [.lit (.bool true)], args := [d1, d2, d3, d4, d5, d6, d7, d8, d9, d10] }
  | _ => none }
def forestMatchesReferenceRow : OpenClaim := { program := "ytpkjgdngkhnhpaa", sum := "d5d2270fc92ec308c85e3b68264340ac3328574d9530c1558e32bbe4a669971d", func := "clearway/clearwaylaw07.ForestMatchesReference", spec := "forestMatchesReference", unfollowed := true, recurses := true, apart := false }
def ForestMatchesReferenceSaid : Prop := forestMatchesReferenceRow.holds Try.pinned (OpenSpec.ofChange forestMatchesReferenceSpec)

/-- ITS FALSE NEIGHBOUR: 'it returns false'. Refute it at one input. -/
def forestMatchesReferenceWrong : ChangeSpec := { name := "forestMatchesReference", fn := fun _ => fun
  | [d1, d2, d3, d4, d5, d6, d7, d8, d9, d10] => { results := [.lit (.bool false)], args := [d1, d2, d3, d4, d5, d6, d7, d8, d9, d10] }
  | _ => none }
def ForestMatchesReferenceWrongFalsely : Prop := forestMatchesReferenceRow.holds Try.pinned (OpenSpec.ofChange forestMatchesReferenceWrong)

/-- 'clearwaylaw07.ForestProofs': WHATEVER THE INPUT: true; the input reads as it did. -/
def forestProofsSpec : ChangeSpec := { name := "forestProofs", fn := fun _ => fun
  | [d1, d2, d3, d4, d5, d6, d7] => { results := [.lit (.bool true)], args := [d1, d2, d3, d4, d5, d6, d7] }
  | _ => none }
def forestProofsRow : OpenClaim := { program := "ytpkjgdngkhnhpaa", sum := "d5d2270fc92ec308c85e3b68264340ac3328574d9530c1558e32bbe4a669971d", func := "clearway/clearwaylaw07.ForestProofs", spec := "forestProofs", unfollowed := true, recurses := true, apart := false }
def ForestProofsSaid : Prop := forestProofsRow.holds Try.pinned (OpenSpec.ofChange forestProofsSpec)

/-- ITS FALSE NEIGHBOUR: 'it returns false'. Refute it at one input. -/
def forestProofsWrong : ChangeSpec := { name := "forestProofs", fn := fun _ => fun
  | [d1, d2, d3, d4, d5, d6, d7] => { results := [.lit (.bool false)], args := [d1, d2, d3, d4, d5, d6, d7] }
  | _ => none }
def ForestProofsWrongFalsely : Prop := forestProofsRow.holds Try.pinned (OpenSpec.ofChange forestProofsWrong)

/-- 'clearwaylaw07.ForestCounts': WHATEVER THE INPUT: true; the input reads as it did. -/
def forestCountsSpec : ChangeSpec := { name := "forestCounts", fn := fun _ => fun
  | [d1, d2, d3] => { results := [.lit (.bool true)], args := [d1, d2, d3] }
  | _ => none }
def forestCountsRow : OpenClaim := { program := "ytpkjgdngkhnhpaa", sum := "d5d2270fc92ec308c85e3b68264340ac3328574d9530c1558e32bbe4a669971d", func := "clearway/clearwaylaw07.ForestCounts", spec := "forestCounts", unfollowed := true, recurses := true, apart := false }
def ForestCountsSaid : Prop := forestCountsRow.holds Try.pinned (OpenSpec.ofChange forestCountsSpec)

/-- ITS FALSE NEIGHBOUR: 'it returns false'. Refute it at one input. -/
def forestCountsWrong : ChangeSpec := { name := "forestCounts", fn := fun _ => fun
  | [d1, d2, d3] => { results := [.lit (.bool false)], args := [d1, d2, d3] }
  | _ => none }
def ForestCountsWrongFalsely : Prop := forestCountsRow.holds Try.pinned (OpenSpec.ofChange forestCountsWrong)

/-- 'clearwaylaw07.ForestEquivalence': WHATEVER THE INPUT: true; the input reads as it did. -/
def forestEquivalenceSpec : ChangeSpec := { name := "forestEquivalence", fn := fun _ => fun
  | [d1, d2, d3, d4, d5, d6] => { results := [.lit (.bool true)], args := [d1, d2, d3, d4, d5, d6] }
  | _ => none }
def forestEquivalenceRow : OpenClaim := { program := "ytpkjgdngkhnhpaa", sum := "d5d2270fc92ec308c85e3b68264340ac3328574d9530c1558e32bbe4a669971d", func := "clearway/clearwaylaw07.ForestEquivalence", spec := "forestEquivalence", unfollowed := true, recurses := true, apart := false }
def ForestEquivalenceSaid : Prop := forestEquivalenceRow.holds Try.pinned (OpenSpec.ofChange forestEquivalenceSpec)

/-- ITS FALSE NEIGHBOUR: 'it returns false'. Refute it at one input. -/
def forestEquivalenceWrong : ChangeSpec := { name := "forestEquivalence", fn := fun _ => fun
  | [d1, d2, d3, d4, d5, d6] => { results := [.lit (.bool false)], args := [d1, d2, d3, d4, d5, d6] }
  | _ => none }
def ForestEquivalenceWrongFalsely : Prop := forestEquivalenceRow.holds Try.pinned (OpenSpec.ofChange forestEquivalenceWrong)

/-- 'clearwaylaw07.ForestLocal': WHATEVER THE INPUT: true; the input reads as it did. -/
def forestLocalSpec : ChangeSpec := { name := "forestLocal", fn := fun _ => fun
  | [d1, d2, d3, d4, d5] => { results := [.lit (.bool true)], args := [d1, d2, d3, d4, d5] }
  | _ => none }
def forestLocalRow : OpenClaim := { program := "ytpkjgdngkhnhpaa", sum := "d5d2270fc92ec308c85e3b68264340ac3328574d9530c1558e32bbe4a669971d", func := "clearway/clearwaylaw07.ForestLocal", spec := "forestLocal", unfollowed := true, recurses := true, apart := false }
def ForestLocalSaid : Prop := forestLocalRow.holds Try.pinned (OpenSpec.ofChange forestLocalSpec)

/-- ITS FALSE NEIGHBOUR: 'it returns false'. Refute it at one input. -/
def forestLocalWrong : ChangeSpec := { name := "forestLocal", fn := fun _ => fun
  | [d1, d2, d3, d4, d5] => { results := [.lit (.bool false)], args := [d1, d2, d3, d4, d5] }
  | _ => none }
def ForestLocalWrongFalsely : Prop := forestLocalRow.holds Try.pinned (OpenSpec.ofChange forestLocalWrong)

/- THE SECOND FORM. 'bulk': how many values and letters a reading holds, each counted each time it is reached (what is shared counts as often as it is met; a slice's spare places count too). A statement '..UptoSaid' is the law's where the arguments, and the package variables that the reading takes, are together of bulk at most 1048576: NARROWER than '..Said'. Prove '..Said' where nothing that the law and all that it calls make is longer than what came in: it says more and counts as full. Else prove '..UptoSaid'. A law counts once. -/
mutual
def uptoBulk {H : Type} : DataW H → Nat
  | .lit (.string bytes) => bytes.length + 1
  | .lit _ => 1
  | .nil => 1
  | .ptr d => uptoBulk d + 1
  | .slice elems spare => uptoBulkAll elems + uptoBulkAll spare + 1
  | .agg parts => uptoBulkAll parts + 1
  | .iface _ d => uptoBulk d + 1
  | .map entries => uptoBulkEntries entries + 1
  | .held _ => 1
def uptoBulkAll {H : Type} : List (DataW H) → Nat
  | [] => 0
  | d :: r => uptoBulk d + uptoBulkAll r
def uptoBulkEntries {H : Type} : List (Lit × DataW H) → Nat
  | [] => 0
  | x :: r => uptoBulkEntry x + uptoBulkEntries r
def uptoBulkEntry {H : Type} : Lit × DataW H → Nat
  | (.string bytes, d) => bytes.length + uptoBulk d + 1
  | (_, d) => uptoBulk d + 1
 end
def uptoSmall : (H : Type) → List (DataW H) → Bool := fun _ ds => decide (uptoBulkAll ds ≤ 1048576)
def OpenSpec.upto (s : _root_.Go.ChangeSpec) : _root_.Go.OpenSpec := { _root_.Go.OpenSpec.ofChange s with cond := some uptoSmall }

/-- 'clearwaylaw07.ForestMatchesReference', WHERE WHAT IT READS IS OF BULK AT MOST 1048576: true; the input reads as it did. -/
def forestMatchesReferenceUptoRow : OpenClaim := { program := "ytpkjgdngkhnhpaa", sum := "d5d2270fc92ec308c85e3b68264340ac3328574d9530c1558e32bbe4a669971d", func := "clearway/clearwaylaw07.ForestMatchesReference", spec := "forestMatchesReference", unfollowed := true, recurses := true, apart := false, narrowed := true }
def ForestMatchesReferenceUptoSaid : Prop := forestMatchesReferenceUptoRow.holds Try.pinned (OpenSpec.upto forestMatchesReferenceSpec)

/-- 'clearwaylaw07.ForestProofs', WHERE WHAT IT READS IS OF BULK AT MOST 1048576: true; the input reads as it did. -/
def forestProofsUptoRow : OpenClaim := { program := "ytpkjgdngkhnhpaa", sum := "d5d2270fc92ec308c85e3b68264340ac3328574d9530c1558e32bbe4a669971d", func := "clearway/clearwaylaw07.ForestProofs", spec := "forestProofs", unfollowed := true, recurses := true, apart := false, narrowed := true }
def ForestProofsUptoSaid : Prop := forestProofsUptoRow.holds Try.pinned (OpenSpec.upto forestProofsSpec)

/-- 'clearwaylaw07.ForestCounts', WHERE WHAT IT READS IS OF BULK AT MOST 1048576: true; the input reads as it did. -/
def forestCountsUptoRow : OpenClaim := { program := "ytpkjgdngkhnhpaa", sum := "d5d2270fc92ec308c85e3b68264340ac3328574d9530c1558e32bbe4a669971d", func := "clearway/clearwaylaw07.ForestCounts", spec := "forestCounts", unfollowed := true, recurses := true, apart := false, narrowed := true }
def ForestCountsUptoSaid : Prop := forestCountsUptoRow.holds Try.pinned (OpenSpec.upto forestCountsSpec)

/-- 'clearwaylaw07.ForestEquivalence', WHERE WHAT IT READS IS OF BULK AT MOST 1048576: true; the input reads as it did. -/
def forestEquivalenceUptoRow : OpenClaim := { program := "ytpkjgdngkhnhpaa", sum := "d5d2270fc92ec308c85e3b68264340ac3328574d9530c1558e32bbe4a669971d", func := "clearway/clearwaylaw07.ForestEquivalence", spec := "forestEquivalence", unfollowed := true, recurses := true, apart := false, narrowed := true }
def ForestEquivalenceUptoSaid : Prop := forestEquivalenceUptoRow.holds Try.pinned (OpenSpec.upto forestEquivalenceSpec)

/-- 'clearwaylaw07.ForestLocal', WHERE WHAT IT READS IS OF BULK AT MOST 1048576: true; the input reads as it did. -/
def forestLocalUptoRow : OpenClaim := { program := "ytpkjgdngkhnhpaa", sum := "d5d2270fc92ec308c85e3b68264340ac3328574d9530c1558e32bbe4a669971d", func := "clearway/clearwaylaw07.ForestLocal", spec := "forestLocal", unfollowed := true, recurses := true, apart := false, narrowed := true }
def ForestLocalUptoSaid : Prop := forestLocalUptoRow.holds Try.pinned (OpenSpec.upto forestLocalSpec)

end Rows
end Go.Proofs.Ytpkjgdngkhnhpaa
