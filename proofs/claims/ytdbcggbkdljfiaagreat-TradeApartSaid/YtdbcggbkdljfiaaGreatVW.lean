/- The law TradeApart, walked: whatever the arguments, the program answers true. -/
import Derived.Test.YtdbcggbkdljfiaaGreatAF
import Derived.Test.YtdbcggbkdljfiaaGreatVC
namespace Go.Fx.Gen
open Go.Fx Go.Proofs

abbrev shapes5 : List (Bool × List Cs) := [(false, [.int .i64]), (false, [.sl [.int .i64, .int .i64, .int .i64, .int .i64, .int .i64]]), (false, [.int .i64]), (false, [.sl [.int .i64]]), (false, [.int .i64]), (false, [.int .i64])]

theorem walk5 {args : List AV} (h : ArgsOk shapes5 args) : Spec Tryz.prog 5 args [] (.pv (.bool true)) [] := by
  obtain ⟨n, a1, rfl, hn, h1⟩ := int_arg h
  obtain ⟨l, a2, rfl, _, hl, h2⟩ := sl_arg a5_row h1
  obtain ⟨m, a3, rfl, hm, h3⟩ := int_arg h2
  obtain ⟨o, a4, rfl, _, ho, h4⟩ := sl_arg int_row h3
  obtain ⟨p, a5, rfl, hp, h5⟩ := int_arg h4
  obtain ⟨q, a6, rfl, hq, h6⟩ := int_arg h5
  obtain rfl := argsOk_nil h6
  exact f5.ok n l m o p q (Trd.apart_true hn hm hl ho hp hq)

end Go.Fx.Gen
