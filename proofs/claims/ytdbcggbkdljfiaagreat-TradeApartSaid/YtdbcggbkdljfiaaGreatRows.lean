/-
  No cell of these rows narrows 'for every input' (looked for: loops, veiled, ifaces, maps, wideKeys, modest, calm, conditions, laid).
  DERIVED. THE GIVEN ROWS OF THIS SEAT. 3 by the template 'for every input the law returns true; each argument reads behind the call as it read before'; 0 by the template 'total and deterministic' (their statements: YtdbcggbkdljfiaaGreatTotals.lean).
  GIVEN WITH THE SEED: the statements are not yours to turn. If you find one false, say at which input.
  Laid BY PROGRAM, IN A SANDBOX (cutbox-rows.mjs): the forced cells as the released guide's own fill.sh prints them over the translation 18e8f1f5074f85d9… (all of the seat's roots in one cut). By AI agents, Wed Nov 11 2026. No macro, syntax, notation, axiom, sorry.
-/
import Derived.Test.YtdbcggbkdljfiaaGreatChecked
import GoSem.Claim
import GoSem.ClaimJoined
import GoSem.ClaimMapViews
import Derived.JoinedTies
import Derived.KernelRfl
namespace Go.Proofs.YtdbcggbkdljfiaaGreat
/- THE CELL 'sum', in the pinned program and in every row, IS THE sha256 OF THE DUMP (.gsa) THAT YtdbcggbkdljfiaaGreatProg.lean LOADS. Nothing in Lean hashes anything: it is a label: what it is worth is what the hold of that sum in a sandbox is worth. -/
noncomputable def Tryz.pinned : Pinned := { name := "ytdbcggbkdljfiaagreat", sum := "18e8f1f5074f85d90b4695ba6fe5910b89243208a36412d02964ae80662ba289", checked := Tryz.checked }
namespace Rows
def none {H : Type} : Left H := { results := [], args := [] }

/-- 'clearwaylaw14.TradeGoodMatchesReference': WHATEVER THE INPUT: true; the input reads as it did. -/
def tradeGoodMatchesReferenceSpec : ChangeSpec := { name := "tradeGoodMatchesReference", fn := fun _ => fun
  | [d1, d2, d3, d4, d5, d6, d7] => { results := [.lit (.bool true)], args := [d1, d2, d3, d4, d5, d6, d7] }
  | _ => none }
def tradeGoodMatchesReferenceRow : OpenClaim := { program := "ytdbcggbkdljfiaagreat", sum := "18e8f1f5074f85d90b4695ba6fe5910b89243208a36412d02964ae80662ba289", func := "clearway/clearwaylaw14.TradeGoodMatchesReference", spec := "tradeGoodMatchesReference", unfollowed := true, recurses := true, apart := false }
def TradeGoodMatchesReferenceSaid : Prop := tradeGoodMatchesReferenceRow.holds Tryz.pinned (OpenSpec.ofChange tradeGoodMatchesReferenceSpec)

/-- ITS FALSE NEIGHBOUR: 'it returns false'. Refute it at one input. -/
def tradeGoodMatchesReferenceWrong : ChangeSpec := { name := "tradeGoodMatchesReference", fn := fun _ => fun
  | [d1, d2, d3, d4, d5, d6, d7] => { results := [.lit (.bool false)], args := [d1, d2, d3, d4, d5, d6, d7] }
  | _ => none }
def TradeGoodMatchesReferenceWrongFalsely : Prop := tradeGoodMatchesReferenceRow.holds Tryz.pinned (OpenSpec.ofChange tradeGoodMatchesReferenceWrong)

/-- 'clearwaylaw14.TradeLocal': WHATEVER THE INPUT: true; the input reads as it did. -/
def tradeLocalSpec : ChangeSpec := { name := "tradeLocal", fn := fun _ => fun
  | [d1, d2, d3, d4, d5, d6, d7] => { results := [.lit (.bool true)], args := [d1, d2, d3, d4, d5, d6, d7] }
  | _ => none }
def tradeLocalRow : OpenClaim := { program := "ytdbcggbkdljfiaagreat", sum := "18e8f1f5074f85d90b4695ba6fe5910b89243208a36412d02964ae80662ba289", func := "clearway/clearwaylaw14.TradeLocal", spec := "tradeLocal", inPlace := ["slices.overlaps[clearway/api.Vertex]", "slices.overlaps[clearway/api.Edge]"], unfollowed := true, recurses := true, apart := false }
def TradeLocalSaid : Prop := tradeLocalRow.holds Tryz.pinned (OpenSpec.ofChange tradeLocalSpec)

/-- ITS FALSE NEIGHBOUR: 'it returns false'. Refute it at one input. -/
def tradeLocalWrong : ChangeSpec := { name := "tradeLocal", fn := fun _ => fun
  | [d1, d2, d3, d4, d5, d6, d7] => { results := [.lit (.bool false)], args := [d1, d2, d3, d4, d5, d6, d7] }
  | _ => none }
def TradeLocalWrongFalsely : Prop := tradeLocalRow.holds Tryz.pinned (OpenSpec.ofChange tradeLocalWrong)

/-- 'clearwaylaw14.TradeApart': WHATEVER THE INPUT: true; the input reads as it did. -/
def tradeApartSpec : ChangeSpec := { name := "tradeApart", fn := fun _ => fun
  | [d1, d2, d3, d4, d5, d6] => { results := [.lit (.bool true)], args := [d1, d2, d3, d4, d5, d6] }
  | _ => none }
def tradeApartRow : OpenClaim := { program := "ytdbcggbkdljfiaagreat", sum := "18e8f1f5074f85d90b4695ba6fe5910b89243208a36412d02964ae80662ba289", func := "clearway/clearwaylaw14.TradeApart", spec := "tradeApart", inPlace := ["slices.overlaps[clearway/api.Vertex]", "slices.overlaps[clearway/api.Edge]"], unfollowed := true, recurses := true, apart := false }
def TradeApartSaid : Prop := tradeApartRow.holds Tryz.pinned (OpenSpec.ofChange tradeApartSpec)

/-- ITS FALSE NEIGHBOUR: 'it returns false'. Refute it at one input. -/
def tradeApartWrong : ChangeSpec := { name := "tradeApart", fn := fun _ => fun
  | [d1, d2, d3, d4, d5, d6] => { results := [.lit (.bool false)], args := [d1, d2, d3, d4, d5, d6] }
  | _ => none }
def TradeApartWrongFalsely : Prop := tradeApartRow.holds Tryz.pinned (OpenSpec.ofChange tradeApartWrong)

/- THE SECOND FORM. 'bulk': how many values and letters a reading holds, each counted each time it is reached (what is shared counts as often as it is met; a slice's spare places count too). A statement '..UptoSaid' is the law's where the arguments, and the package variables that the reading takes, are together of bulk at most 1048576: NARROWER than '..Said'. Prove '..Said' where nothing that the law and all that it calls make is longer than what came in: it says more and counts as full. Else prove '..UptoSaid'. A law counts once. -/
mutual
def uptoBulk {H : Type} : DataW H → Nat
  | .lit (.string bytes) => bytes.length + 1
  | .lit _ => 1
  | .nil => 1
  | .ptr d => uptoBulk d + 1
  | .slice elems spare => uptoBulkAll elems + uptoBulkAll spare + 1
  | .agg parts => uptoBulkAll parts + 1
  | .iface _ d => uptoBulk d + 1
  | .map entries => uptoBulkEntries entries + 1
  | .held _ => 1
def uptoBulkAll {H : Type} : List (DataW H) → Nat
  | [] => 0
  | d :: r => uptoBulk d + uptoBulkAll r
def uptoBulkEntries {H : Type} : List (Lit × DataW H) → Nat
  | [] => 0
  | x :: r => uptoBulkEntry x + uptoBulkEntries r
def uptoBulkEntry {H : Type} : Lit × DataW H → Nat
  | (.string bytes, d) => bytes.length + uptoBulk d + 1
  | (_, d) => uptoBulk d + 1
 end
def uptoSmall : (H : Type) → List (DataW H) → Bool := fun _ ds => decide (uptoBulkAll ds ≤ 1048576)
def OpenSpec.upto (s : _root_.Go.ChangeSpec) : _root_.Go.OpenSpec := { _root_.Go.OpenSpec.ofChange s with cond := some uptoSmall }

/-- 'clearwaylaw14.TradeGoodMatchesReference', WHERE WHAT IT READS IS OF BULK AT MOST 1048576: true; the input reads as it did. -/
def tradeGoodMatchesReferenceUptoRow : OpenClaim := { program := "ytdbcggbkdljfiaagreat", sum := "18e8f1f5074f85d90b4695ba6fe5910b89243208a36412d02964ae80662ba289", func := "clearway/clearwaylaw14.TradeGoodMatchesReference", spec := "tradeGoodMatchesReference", unfollowed := true, recurses := true, apart := false, narrowed := true }
def TradeGoodMatchesReferenceUptoSaid : Prop := tradeGoodMatchesReferenceUptoRow.holds Tryz.pinned (OpenSpec.upto tradeGoodMatchesReferenceSpec)

/-- 'clearwaylaw14.TradeLocal', WHERE WHAT IT READS IS OF BULK AT MOST 1048576: true; the input reads as it did. -/
def tradeLocalUptoRow : OpenClaim := { program := "ytdbcggbkdljfiaagreat", sum := "18e8f1f5074f85d90b4695ba6fe5910b89243208a36412d02964ae80662ba289", func := "clearway/clearwaylaw14.TradeLocal", spec := "tradeLocal", inPlace := ["slices.overlaps[clearway/api.Vertex]", "slices.overlaps[clearway/api.Edge]"], unfollowed := true, recurses := true, apart := false, narrowed := true }
def TradeLocalUptoSaid : Prop := tradeLocalUptoRow.holds Tryz.pinned (OpenSpec.upto tradeLocalSpec)

/-- 'clearwaylaw14.TradeApart', WHERE WHAT IT READS IS OF BULK AT MOST 1048576: true; the input reads as it did. -/
def tradeApartUptoRow : OpenClaim := { program := "ytdbcggbkdljfiaagreat", sum := "18e8f1f5074f85d90b4695ba6fe5910b89243208a36412d02964ae80662ba289", func := "clearway/clearwaylaw14.TradeApart", spec := "tradeApart", inPlace := ["slices.overlaps[clearway/api.Vertex]", "slices.overlaps[clearway/api.Edge]"], unfollowed := true, recurses := true, apart := false, narrowed := true }
def TradeApartUptoSaid : Prop := tradeApartUptoRow.holds Tryz.pinned (OpenSpec.upto tradeApartSpec)

end Rows
end Go.Proofs.YtdbcggbkdljfiaaGreat
