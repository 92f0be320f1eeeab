/- The law TradeCore, walked: whatever the arguments, the program answers true. -/
import Derived.Test.YtidbhdbcapbnlaaAF
import Derived.Test.YtidbhdbcapbnlaaTM
namespace Go.Fx.Gen
open Go.Fx Go.Proofs

abbrev shapes5 : List (Bool × List Cs) := [(false, [.int .i64]), (false, [.sl [.int .i64, .int .i64, .int .i64, .int .i64, .int .i64]]), (false, [.int .i64]), (false, [.int .i64]), (false, [.sl [.int .i64]])]

theorem walk5 {args : List AV} (h : ArgsOk shapes5 args) : Spec Try.prog 5 args [] (.pv (.bool true)) [] := by
  obtain ⟨n, a1, rfl, hn, h1⟩ := int_arg h
  obtain ⟨l, a2, rfl, _, hl, h2⟩ := sl_arg a5_row h1
  obtain ⟨m, a3, rfl, hm, h3⟩ := int_arg h2
  obtain ⟨s, a4, rfl, hs, h4⟩ := int_arg h3
  obtain ⟨c, a5, rfl, _, hc, h5⟩ := sl_arg int_row h4
  obtain rfl := argsOk_nil h5
  exact f5.ok n l m s c (Trd.core_true hn hm hs hl hc)

end Go.Fx.Gen
