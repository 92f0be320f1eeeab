/-
  No cell of these rows narrows 'for every input' (looked for: loops, veiled, ifaces, maps, wideKeys, modest, calm, conditions, laid).
  DERIVED. THE GIVEN ROWS OF THIS SEAT. 3 by the template 'for every input the law returns true; each argument reads behind the call as it read before'; 0 by the template 'total and deterministic' (their statements: YtpdjphpjejjkpaaGreatTotals.lean).
  GIVEN WITH THE SEED: the statements are not yours to turn. If you find one false, say at which input.
  Laid BY PROGRAM, IN A SANDBOX (cutbox-rows.mjs): the forced cells as the released guide's own fill.sh prints them over the translation 5812c7dd672e8437… (all of the seat's roots in one cut). By AI agents, Wed Nov 11 2026. No macro, syntax, notation, axiom, sorry.
-/
import Derived.Test.YtpdjphpjejjkpaaGreatChecked
import GoSem.Claim
import GoSem.ClaimJoined
import GoSem.ClaimMapViews
import Derived.JoinedTies
import Derived.KernelRfl
namespace Go.Proofs.YtpdjphpjejjkpaaGreat
/- THE CELL 'sum', in the pinned program and in every row, IS THE sha256 OF THE DUMP (.gsa) THAT YtpdjphpjejjkpaaGreatProg.lean LOADS. Nothing in Lean hashes anything: it is a label: what it is worth is what the hold of that sum in a sandbox is worth. -/
noncomputable def Tryz.pinned : Pinned := { name := "ytpdjphpjejjkpaagreat", sum := "5812c7dd672e8437040b61abd79a4a4d27290c456fd4383aead8646e3810e28f", checked := Tryz.checked }
namespace Rows
def none {H : Type} : Left H := { results := [], args := [] }

/-- 'clearwaylaw09.StrongMatchesReference': WHATEVER THE INPUT: true; the input reads as it did. -/
def strongMatchesReferenceSpec : ChangeSpec := { name := "strongMatchesReference", fn := fun _ => fun
  | [d1, d2, d3, d4, d5, d6] => { results := [.lit (.bool true)], args := [d1, d2, d3, d4, d5, d6] }
  | _ => none }
def strongMatchesReferenceRow : OpenClaim := { program := "ytpdjphpjejjkpaagreat", sum := "5812c7dd672e8437040b61abd79a4a4d27290c456fd4383aead8646e3810e28f", func := "clearway/clearwaylaw09.StrongMatchesReference", spec := "strongMatchesReference", unfollowed := true, recurses := true, apart := false }
def StrongMatchesReferenceSaid : Prop := strongMatchesReferenceRow.holds Tryz.pinned (OpenSpec.ofChange strongMatchesReferenceSpec)

/-- ITS FALSE NEIGHBOUR: 'it returns false'. Refute it at one input. -/
def strongMatchesReferenceWrong : ChangeSpec := { name := "strongMatchesReference", fn := fun _ => fun
  | [d1, d2, d3, d4, d5, d6] => { results := [.lit (.bool false)], args := [d1, d2, d3, d4, d5, d6] }
  | _ => none }
def StrongMatchesReferenceWrongFalsely : Prop := strongMatchesReferenceRow.holds Tryz.pinned (OpenSpec.ofChange strongMatchesReferenceWrong)

/-- 'clearwaylaw09.StrongLocal': WHATEVER THE INPUT: true; the input reads as it did. -/
def strongLocalSpec : ChangeSpec := { name := "strongLocal", fn := fun _ => fun
  | [d1, d2, d3, d4, d5] => { results := [.lit (.bool true)], args := [d1, d2, d3, d4, d5] }
  | _ => none }
def strongLocalRow : OpenClaim := { program := "ytpdjphpjejjkpaagreat", sum := "5812c7dd672e8437040b61abd79a4a4d27290c456fd4383aead8646e3810e28f", func := "clearway/clearwaylaw09.StrongLocal", spec := "strongLocal", unfollowed := true, recurses := true, apart := false }
def StrongLocalSaid : Prop := strongLocalRow.holds Tryz.pinned (OpenSpec.ofChange strongLocalSpec)

/-- ITS FALSE NEIGHBOUR: 'it returns false'. Refute it at one input. -/
def strongLocalWrong : ChangeSpec := { name := "strongLocal", fn := fun _ => fun
  | [d1, d2, d3, d4, d5] => { results := [.lit (.bool false)], args := [d1, d2, d3, d4, d5] }
  | _ => none }
def StrongLocalWrongFalsely : Prop := strongLocalRow.holds Tryz.pinned (OpenSpec.ofChange strongLocalWrong)

/-- 'clearwaylaw09.StrongPaths': WHATEVER THE INPUT: true; the input reads as it did. -/
def strongPathsSpec : ChangeSpec := { name := "strongPaths", fn := fun _ => fun
  | [d1, d2, d3, d4] => { results := [.lit (.bool true)], args := [d1, d2, d3, d4] }
  | _ => none }
def strongPathsRow : OpenClaim := { program := "ytpdjphpjejjkpaagreat", sum := "5812c7dd672e8437040b61abd79a4a4d27290c456fd4383aead8646e3810e28f", func := "clearway/clearwaylaw09.StrongPaths", spec := "strongPaths", unfollowed := true, recurses := true, apart := false }
def StrongPathsSaid : Prop := strongPathsRow.holds Tryz.pinned (OpenSpec.ofChange strongPathsSpec)

/-- ITS FALSE NEIGHBOUR: 'it returns false'. Refute it at one input. -/
def strongPathsWrong : ChangeSpec := { name := "strongPaths", fn := fun _ => fun
  | [d1, d2, d3, d4] => { results := [.lit (.bool false)], args := [d1, d2, d3, d4] }
  | _ => none }
def StrongPathsWrongFalsely : Prop := strongPathsRow.holds Tryz.pinned (OpenSpec.ofChange strongPathsWrong)

/- THE SECOND FORM. 'bulk': how many values and letters a reading holds, each counted each time it is reached (what is shared counts as often as it is met; a slice's spare places count too). A statement '..UptoSaid' is the law's where the arguments, and the package variables that the reading takes, are together of bulk at most 1048576: NARROWER than '..Said'. Prove '..Said' where nothing that the law and all that it calls make is longer than what came in: it says more and counts as full. Else prove '..UptoSaid'. A law counts once. -/
mutual
def uptoBulk {H : Type} : DataW H → Nat
  | .lit (.string bytes) => bytes.length + 1
  | .lit _ => 1
  | .nil => 1
  | .ptr d => uptoBulk d + 1
  | .slice elems spare => uptoBulkAll elems + uptoBulkAll spare + 1
  | .agg parts => uptoBulkAll parts + 1
  | .iface _ d => uptoBulk d + 1
  | .map entries => uptoBulkEntries entries + 1
  | .held _ => 1
def uptoBulkAll {H : Type} : List (DataW H) → Nat
  | [] => 0
  | d :: r => uptoBulk d + uptoBulkAll r
def uptoBulkEntries {H : Type} : List (Lit × DataW H) → Nat
  | [] => 0
  | x :: r => uptoBulkEntry x + uptoBulkEntries r
def uptoBulkEntry {H : Type} : Lit × DataW H → Nat
  | (.string bytes, d) => bytes.length + uptoBulk d + 1
  | (_, d) => uptoBulk d + 1
 end
def uptoSmall : (H : Type) → List (DataW H) → Bool := fun _ ds => decide (uptoBulkAll ds ≤ 1048576)
def OpenSpec.upto (s : _root_.Go.ChangeSpec) : _root_.Go.OpenSpec := { _root_.Go.OpenSpec.ofChange s with cond := some uptoSmall }

/-- 'clearwaylaw09.StrongMatchesReference', WHERE WHAT IT READS IS OF BULK AT MOST 1048576: true; the input reads as it did. -/
def strongMatchesReferenceUptoRow : OpenClaim := { program := "ytpdjphpjejjkpaagreat", sum := "5812c7dd672e8437040b61abd79a4a4d27290c456fd4383aead8646e3810e28f", func := "clearway/clearwaylaw09.StrongMatchesReference", spec := "strongMatchesReference", unfollowed := true, recurses := true, apart := false, narrowed := true }
def StrongMatchesReferenceUptoSaid : Prop := strongMatchesReferenceUptoRow.holds Tryz.pinned (OpenSpec.upto strongMatchesReferenceSpec)

/-- 'clearwaylaw09.StrongLocal', WHERE WHAT IT READS IS OF BULK AT MOST 1048576: true; the input reads as it did. -/
def strongLocalUptoRow : OpenClaim := { program := "ytpdjphpjejjkpaagreat", sum := "5812c7dd672e8437040b61abd79a4a4d27290c456fd4383aead8646e3810e28f", func := "clearway/clearwaylaw09.StrongLocal", spec := "strongLocal", unfollowed := true, recurses := true, apart := false, narrowed := true }
def StrongLocalUptoSaid : Prop := strongLocalUptoRow.holds Tryz.pinned (OpenSpec.upto strongLocalSpec)

/-- 'clearwaylaw09.StrongPaths', WHERE WHAT IT READS IS OF BULK AT MOST 1048576: true; the input reads as it did. -/
def strongPathsUptoRow : OpenClaim := { program := "ytpdjphpjejjkpaagreat", sum := "5812c7dd672e8437040b61abd79a4a4d27290c456fd4383aead8646e3810e28f", func := "clearway/clearwaylaw09.StrongPaths", spec := "strongPaths", unfollowed := true, recurses := true, apart := false, narrowed := true }
def StrongPathsUptoSaid : Prop := strongPathsUptoRow.holds Tryz.pinned (OpenSpec.upto strongPathsSpec)

end Rows
end Go.Proofs.YtpdjphpjejjkpaaGreat
