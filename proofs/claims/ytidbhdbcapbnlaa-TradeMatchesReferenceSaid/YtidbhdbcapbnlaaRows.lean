/-
  No cell of these rows narrows 'for every input' (looked for: loops, veiled, ifaces, maps, wideKeys, modest, calm, conditions, laid).
  DERIVED. THE GIVEN ROWS OF THIS SEAT. 4 by the template 'for every input the law returns true; each argument reads behind the call as it read before'; 0 by the template 'total and deterministic' (their statements: YtidbhdbcapbnlaaTotals.lean).
  GIVEN WITH THE SEED: the statements are not yours to turn. If you find one false, say at which input.
  Laid BY PROGRAM, IN A SANDBOX (cutbox-rows.mjs): the forced cells as the released guide's own fill.sh prints them over the translation 5a8b557bd0f25ff4… (all of the seat's roots in one cut). By AI agents, Wed Nov 11 2026. No macro, syntax, notation, axiom, sorry.
-/
import Derived.Test.YtidbhdbcapbnlaaChecked
import GoSem.Claim
import GoSem.ClaimJoined
import GoSem.ClaimMapViews
import Derived.JoinedTies
import Derived.KernelRfl
namespace Go.Proofs.Ytidbhdbcapbnlaa
/- THE CELL 'sum', in the pinned program and in every row, IS THE sha256 OF THE DUMP (.gsa) THAT YtidbhdbcapbnlaaProg.lean LOADS. Nothing in Lean hashes anything: it is a label: what it is worth is what the hold of that sum in a sandbox is worth. -/
noncomputable def Try.pinned : Pinned := { name := "ytidbhdbcapbnlaa", sum := "5a8b557bd0f25ff41d1a13c97a4dad86661bf28a2b7c9859b82648f813a2a0a0", checked := Try.checked }
namespace Rows
def none {H : Type} : Left H := { results := [], args := [] }

/-- 'clearwaylaw14.TradeMatchesReference': WHATEVER THE INPUT: true; the input reads as it did. -/
def tradeMatchesReferenceSpec : ChangeSpec := { name := "tradeMatchesReference", fn := fun _ => fun
  | [d1, d2, d3, d4, d5, d6, d7, d8] => { results := [.lit (.bool true)], args := [d1, d2, d3, d4, d5, d6, d7, d8] }
  | _ => none }
def tradeMatchesReferenceRow : OpenClaim := { program := "ytidbhdbcapbnlaa", sum := "5a8b557bd0f25ff41d1a13c97a4dad86661bf28a2b7c9859b82648f813a2a0a0", func := "clearway/clearwaylaw14.TradeMatchesReference", spec := "tradeMatchesReference", unfollowed := true, recurses := true, apart := false }
def TradeMatchesReferenceSaid : Prop := tradeMatchesReferenceRow.holds Try.pinned (OpenSpec.ofChange tradeMatchesReferenceSpec)

/-- ITS FALSE NEIGHBOUR: 'it returns false'. Refute it at one input. -/
def tradeMatchesReferenceWrong : ChangeSpec := { name := "tradeMatchesReference", fn := fun _ => fun
  | [d1, d2, d3, d4, d5, d6, d7, d8] => { results := [.lit (.bool false)], args := [d1, d2, d3, d4, d5, d6, d7, d8] }
  | _ => none }
def TradeMatchesReferenceWrongFalsely : Prop := tradeMatchesReferenceRow.holds Try.pinned (OpenSpec.ofChange tradeMatchesReferenceWrong)

/-- 'clearwaylaw14.TradeCycles': WHATEVER THE INPUT: true; the input reads as it did. -/
def tradeCyclesSpec : ChangeSpec := { name := "tradeCycles", fn := fun _ => fun
  | [d1, d2, d3, d4] => { results := [.lit (.bool true)], args := [d1, d2, d3, d4] }
  | _ => none }
def tradeCyclesRow : OpenClaim := { program := "ytidbhdbcapbnlaa", sum := "5a8b557bd0f25ff41d1a13c97a4dad86661bf28a2b7c9859b82648f813a2a0a0", func := "clearway/clearwaylaw14.TradeCycles", spec := "tradeCycles", unfollowed := true, recurses := true, apart := false }
def TradeCyclesSaid : Prop := tradeCyclesRow.holds Try.pinned (OpenSpec.ofChange tradeCyclesSpec)

/-- ITS FALSE NEIGHBOUR: 'it returns false'. Refute it at one input. -/
def tradeCyclesWrong : ChangeSpec := { name := "tradeCycles", fn := fun _ => fun
  | [d1, d2, d3, d4] => { results := [.lit (.bool false)], args := [d1, d2, d3, d4] }
  | _ => none }
def TradeCyclesWrongFalsely : Prop := tradeCyclesRow.holds Try.pinned (OpenSpec.ofChange tradeCyclesWrong)

/-- 'clearwaylaw14.TradeCore': WHATEVER THE INPUT: true; the input reads as it did. -/
def tradeCoreSpec : ChangeSpec := { name := "tradeCore", fn := fun _ => fun
  | [d1, d2, d3, d4, d5] => { results := [.lit (.bool true)], args := [d1, d2, d3, d4, d5] }
  | _ => none }
def tradeCoreRow : OpenClaim := { program := "ytidbhdbcapbnlaa", sum := "5a8b557bd0f25ff41d1a13c97a4dad86661bf28a2b7c9859b82648f813a2a0a0", func := "clearway/clearwaylaw14.TradeCore", spec := "tradeCore", unfollowed := true, recurses := true, apart := false }
def TradeCoreSaid : Prop := tradeCoreRow.holds Try.pinned (OpenSpec.ofChange tradeCoreSpec)

/-- ITS FALSE NEIGHBOUR: 'it returns false'. Refute it at one input. -/
def tradeCoreWrong : ChangeSpec := { name := "tradeCore", fn := fun _ => fun
  | [d1, d2, d3, d4, d5] => { results := [.lit (.bool false)], args := [d1, d2, d3, d4, d5] }
  | _ => none }
def TradeCoreWrongFalsely : Prop := tradeCoreRow.holds Try.pinned (OpenSpec.ofChange tradeCoreWrong)

/-- 'clearwaylaw14.TradeTruthful': WHATEVER THE INPUT: true; the input reads as it did. -/
def tradeTruthfulSpec : ChangeSpec := { name := "tradeTruthful", fn := fun _ => fun
  | [d1, d2, d3, d4, d5, d6] => { results := [.lit (.bool true)], args := [d1, d2, d3, d4, d5, d6] }
  | _ => none }
def tradeTruthfulRow : OpenClaim := { program := "ytidbhdbcapbnlaa", sum := "5a8b557bd0f25ff41d1a13c97a4dad86661bf28a2b7c9859b82648f813a2a0a0", func := "clearway/clearwaylaw14.TradeTruthful", spec := "tradeTruthful", unfollowed := true, recurses := true, apart := false }
def TradeTruthfulSaid : Prop := tradeTruthfulRow.holds Try.pinned (OpenSpec.ofChange tradeTruthfulSpec)

/-- ITS FALSE NEIGHBOUR: 'it returns false'. Refute it at one input. -/
def tradeTruthfulWrong : ChangeSpec := { name := "tradeTruthful", fn := fun _ => fun
  | [d1, d2, d3, d4, d5, d6] => { results := [.lit (.bool false)], args := [d1, d2, d3, d4, d5, d6] }
  | _ => none }
def TradeTruthfulWrongFalsely : Prop := tradeTruthfulRow.holds Try.pinned (OpenSpec.ofChange tradeTruthfulWrong)

/- THE SECOND FORM. 'bulk': how many values and letters a reading holds, each counted each time it is reached (what is shared counts as often as it is met; a slice's spare places count too). A statement '..UptoSaid' is the law's where the arguments, and the package variables that the reading takes, are together of bulk at most 1048576: NARROWER than '..Said'. Prove '..Said' where nothing that the law and all that it calls make is longer than what came in: it says more and counts as full. Else prove '..UptoSaid'. A law counts once. -/
mutual
def uptoBulk {H : Type} : DataW H → Nat
  | .lit (.string bytes) => bytes.length + 1
  | .lit _ => 1
  | .nil => 1
  | .ptr d => uptoBulk d + 1
  | .slice elems spare => uptoBulkAll elems + uptoBulkAll spare + 1
  | .agg parts => uptoBulkAll parts + 1
  | .iface _ d => uptoBulk d + 1
  | .map entries => uptoBulkEntries entries + 1
  | .held _ => 1
def uptoBulkAll {H : Type} : List (DataW H) → Nat
  | [] => 0
  | d :: r => uptoBulk d + uptoBulkAll r
def uptoBulkEntries {H : Type} : List (Lit × DataW H) → Nat
  | [] => 0
  | x :: r => uptoBulkEntry x + uptoBulkEntries r
def uptoBulkEntry {H : Type} : Lit × DataW H → Nat
  | (.string bytes, d) => bytes.length + uptoBulk d + 1
  | (_, d) => uptoBulk d + 1
 end
def uptoSmall : (H : Type) → List (DataW H) → Bool := fun _ ds => decide (uptoBulkAll ds ≤ 1048576)
def OpenSpec.upto (s : _root_.Go.ChangeSpec) : _root_.Go.OpenSpec := { _root_.Go.OpenSpec.ofChange s with cond := some uptoSmall }

/-- 'clearwaylaw14.TradeMatchesReference', WHERE WHAT IT READS IS OF BULK AT MOST 1048576: true; the input reads as it did. -/
def tradeMatchesReferenceUptoRow : OpenClaim := { program := "ytidbhdbcapbnlaa", sum := "5a8b557bd0f25ff41d1a13c97a4dad86661bf28a2b7c9859b82648f813a2a0a0", func := "clearway/clearwaylaw14.TradeMatchesReference", spec := "tradeMatchesReference", unfollowed := true, recurses := true, apart := false, narrowed := true }
def TradeMatchesReferenceUptoSaid : Prop := tradeMatchesReferenceUptoRow.holds Try.pinned (OpenSpec.upto tradeMatchesReferenceSpec)

/-- 'clearwaylaw14.TradeCycles', WHERE WHAT IT READS IS OF BULK AT MOST 1048576: true; the input reads as it did. -/
def tradeCyclesUptoRow : OpenClaim := { program := "ytidbhdbcapbnlaa", sum := "5a8b557bd0f25ff41d1a13c97a4dad86661bf28a2b7c9859b82648f813a2a0a0", func := "clearway/clearwaylaw14.TradeCycles", spec := "tradeCycles", unfollowed := true, recurses := true, apart := false, narrowed := true }
def TradeCyclesUptoSaid : Prop := tradeCyclesUptoRow.holds Try.pinned (OpenSpec.upto tradeCyclesSpec)

/-- 'clearwaylaw14.TradeCore', WHERE WHAT IT READS IS OF BULK AT MOST 1048576: true; the input reads as it did. -/
def tradeCoreUptoRow : OpenClaim := { program := "ytidbhdbcapbnlaa", sum := "5a8b557bd0f25ff41d1a13c97a4dad86661bf28a2b7c9859b82648f813a2a0a0", func := "clearway/clearwaylaw14.TradeCore", spec := "tradeCore", unfollowed := true, recurses := true, apart := false, narrowed := true }
def TradeCoreUptoSaid : Prop := tradeCoreUptoRow.holds Try.pinned (OpenSpec.upto tradeCoreSpec)

/-- 'clearwaylaw14.TradeTruthful', WHERE WHAT IT READS IS OF BULK AT MOST 1048576: true; the input reads as it did. -/
def tradeTruthfulUptoRow : OpenClaim := { program := "ytidbhdbcapbnlaa", sum := "5a8b557bd0f25ff41d1a13c97a4dad86661bf28a2b7c9859b82648f813a2a0a0", func := "clearway/clearwaylaw14.TradeTruthful", spec := "tradeTruthful", unfollowed := true, recurses := true, apart := false, narrowed := true }
def TradeTruthfulUptoSaid : Prop := tradeTruthfulUptoRow.holds Try.pinned (OpenSpec.upto tradeTruthfulSpec)

end Rows
end Go.Proofs.Ytidbhdbcapbnlaa
