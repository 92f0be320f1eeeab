/- The law of the proofs, walked: whatever the arguments, the program answers true. -/
import Derived.Test.YtpkjgdngkhnhpaaPN
import Derived.Test.YtpkjgdngkhnhpaaPW
namespace Go.Fw.Gen
open Go.Fw Go.Proofs

abbrev shapes4 : List (Bool × List Cs) := [(false, [.int .i64]), (false, [.sl [.int .i64, .int .i64, .int .i64, .int .i64, .int .i64]]), (false, [.bool]), (false, [.int .i64]), (false, [.int .i64]), (false, [.sl [.int .i64]]), (false, [.int .i64])]

theorem walk4 {args : List AV} (h : ArgsOk shapes4 args) : Spec Try.prog 4 args [] (.pv (.bool true)) [] := by
  obtain ⟨n, a1, rfl, hn, h1⟩ := int_arg h
  obtain ⟨l, a2, rfl, _, hl, h2⟩ := sl_arg a5_row h1
  obtain ⟨w, a3, rfl, h3⟩ := bool_arg h2
  obtain ⟨a, a4, rfl, ha, h4⟩ := int_arg h3
  obtain ⟨b, a5, rfl, hb, h5⟩ := int_arg h4
  obtain ⟨p, a6, rfl, _, hp, h6⟩ := sl_arg i_row h5
  obtain ⟨s, a7, rfl, hs, h7⟩ := int_arg h6
  obtain rfl := argsOk_nil h7
  exact clearwaylaw07_ForestProofs.ok n l w a b p s (Proofs_true n l w a b p s hn hl ha hb hp hs)

end Go.Fw.Gen
