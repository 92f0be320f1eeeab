/- The law TradeTruthful, walked: whatever the arguments, the program answers true. -/
import Derived.Test.YtidbhdbcapbnlaaAF
import Derived.Test.YtidbhdbcapbnlaaTO
namespace Go.Fx.Gen
open Go.Fx Go.Proofs

abbrev shapes6 : List (Bool × List Cs) := [(false, [.int .i64]), (false, [.sl [.int .i64, .int .i64, .int .i64, .int .i64, .int .i64]]), (false, [.bool]), (false, [.int .i64]), (false, [.int .i64]), (false, [.sl [.int .i64]])]

theorem walk6 {args : List AV} (h : ArgsOk shapes6 args) : Spec Try.prog 6 args [] (.pv (.bool true)) [] := by
  obtain ⟨n, a1, rfl, hn, h1⟩ := int_arg h
  obtain ⟨l, a2, rfl, _, hl, h2⟩ := sl_arg a5_row h1
  obtain ⟨b, a3, rfl, h3⟩ := bool_arg h2
  obtain ⟨m, a4, rfl, hm, h4⟩ := int_arg h3
  obtain ⟨s, a5, rfl, hs, h5⟩ := int_arg h4
  obtain ⟨c, a6, rfl, _, hc, h6⟩ := sl_arg int_row h5
  obtain rfl := argsOk_nil h6
  exact f6.ok n l b m s c (Trd.truthful_true hn hm hs hl hc)

end Go.Fx.Gen
