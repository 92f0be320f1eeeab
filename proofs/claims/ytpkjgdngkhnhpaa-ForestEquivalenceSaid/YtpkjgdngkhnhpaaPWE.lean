/- The law of the equivalence, walked: whatever the arguments, the program answers true. -/
import Derived.Test.YtpkjgdngkhnhpaaPO
import Derived.Test.YtpkjgdngkhnhpaaPW
namespace Go.Fw.Gen
open Go.Fw Go.Proofs

abbrev shapes6 : List (Bool × List Cs) := [(false, [.int .i64]), (false, [.sl [.int .i64, .int .i64, .int .i64, .int .i64, .int .i64]]), (false, [.bool]), (false, [.int .i64]), (false, [.int .i64]), (false, [.int .i64])]

theorem walk6 {args : List AV} (h : ArgsOk shapes6 args) : Spec Try.prog 6 args [] (.pv (.bool true)) [] := by
  obtain ⟨n, a1, rfl, hn, h1⟩ := int_arg h
  obtain ⟨l, a2, rfl, _, hl, h2⟩ := sl_arg a5_row h1
  obtain ⟨w, a3, rfl, h3⟩ := bool_arg h2
  obtain ⟨a, a4, rfl, ha, h4⟩ := int_arg h3
  obtain ⟨b, a5, rfl, hb, h5⟩ := int_arg h4
  obtain ⟨c, a6, rfl, hc, h6⟩ := int_arg h5
  obtain rfl := argsOk_nil h6
  exact clearwaylaw07_ForestEquivalence.ok n l w a b c (Equiv_true n l w a b c hn hl ha hb hc)

end Go.Fw.Gen
