/- The law StrongRanks, walked: whatever the arguments, the program answers true. -/
import Derived.Test.YtpdjphpjejjkpaaAR
import Derived.Test.YtpdjphpjejjkpaaSR
namespace Go.Fx.Gen
open Go.Fx Go.Proofs
theorem a5_row (ps : List PV) (h : RowOk [.int .i64, .int .i64, .int .i64, .int .i64, .int .i64] ps) : ∃ a : A5_Int, ps = Cel.enc a ∧ Frs.A5ok a := by
 obtain ⟨p0, q0, rfl, h0, k0⟩ := h.cons
 obtain ⟨p1, q1, rfl, h1, k1⟩ := k0.cons
 obtain ⟨p2, q2, rfl, h2, k2⟩ := k1.cons
 obtain ⟨p3, q3, rfl, h3, k3⟩ := k2.cons
 obtain ⟨p4, q4, rfl, h4, k4⟩ := k3.cons
 obtain rfl := k4.nil
 obtain ⟨n0, rfl, i0⟩ := h0.toInt
 obtain ⟨n1, rfl, i1⟩ := h1.toInt
 obtain ⟨n2, rfl, i2⟩ := h2.toInt
 obtain ⟨n3, rfl, i3⟩ := h3.toInt
 obtain ⟨n4, rfl, i4⟩ := h4.toInt
 exact ⟨⟨n0, n1, n2, n3, n4⟩, rfl, i0, i1, i2, i3, i4⟩
abbrev shapes4 : List (Bool × List Cs) := [(false, [.int .i64]), (false, [.sl [.int .i64, .int .i64, .int .i64, .int .i64, .int .i64]]), (false, [.bool])]
theorem walk4 {args : List AV} (h : ArgsOk shapes4 args) : Spec Try.prog 4 args [] (.pv (.bool true)) [] := by
 obtain ⟨n, a1, rfl, hn, h1⟩ := int_arg h
 obtain ⟨l, a2, rfl, _, hl, h2⟩ := sl_arg a5_row h1
 obtain ⟨b, a3, rfl, h3⟩ := bool_arg h2
 obtain rfl := argsOk_nil h3
 exact f4.ok n l b (Str.ranks_law hn hl)
end Go.Fx.Gen
