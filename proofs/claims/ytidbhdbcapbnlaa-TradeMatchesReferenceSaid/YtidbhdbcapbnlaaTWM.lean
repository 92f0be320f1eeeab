/- The law TradeMatchesReference, walked: whatever the arguments, the program answers true. -/
import Derived.Test.YtidbhdbcapbnlaaAF
import Derived.Test.YtidbhdbcapbnlaaTU
namespace Go.Fx.Gen
open Go.Fx Go.Proofs

theorem vertex_row (ps : List PV) (h : RowOk [.int .i64, .int .i64] ps) : ∃ a : Vertex, ps = Cel.enc a ∧ True := by
  obtain ⟨p0, q0, rfl, h0, k0⟩ := h.cons
  obtain ⟨p1, q1, rfl, h1, k1⟩ := k0.cons
  obtain rfl := k1.nil
  obtain ⟨n0, rfl, i0⟩ := h0.toInt
  obtain ⟨n1, rfl, i1⟩ := h1.toInt
  exact ⟨⟨n0, n1⟩, rfl, trivial⟩
theorem edge_row (ps : List PV) (h : RowOk [.int .i64, .int .i64, .int .i64, .bool, .int .i64, .int .i64] ps) : ∃ a : Edge, ps = Cel.enc a ∧ True := by
  obtain ⟨p0, q0, rfl, h0, k0⟩ := h.cons
  obtain ⟨p1, q1, rfl, h1, k1⟩ := k0.cons
  obtain ⟨p2, q2, rfl, h2, k2⟩ := k1.cons
  obtain ⟨p3, q3, rfl, h3, k3⟩ := k2.cons
  obtain ⟨p4, q4, rfl, h4, k4⟩ := k3.cons
  obtain ⟨p5, q5, rfl, h5, k5⟩ := k4.cons
  obtain rfl := k5.nil
  obtain ⟨n0, rfl, i0⟩ := h0.toInt
  obtain ⟨n1, rfl, i1⟩ := h1.toInt
  obtain ⟨n2, rfl, i2⟩ := h2.toInt
  obtain ⟨n3, rfl⟩ := h3.toBool
  obtain ⟨n4, rfl, i4⟩ := h4.toInt
  obtain ⟨n5, rfl, i5⟩ := h5.toInt
  exact ⟨⟨n0, n1, n2, n3, n4, n5⟩, rfl, trivial⟩

abbrev graphSh : List Cs := [.sl [.int .i64, .int .i64], .sl [.int .i64, .int .i64, .int .i64, .bool, .int .i64, .int .i64], .sl [.int .i64]]

theorem graph_arg {r : List (Bool × List Cs)} {vs : List AV} (h : ArgsOk ((true, graphSh) :: r) vs) : ∃ (g : Graph) (vs' : List AV), vs = V g :: vs' ∧ ArgsOk r vs' := by
  obtain ⟨ps, vs', rfl, hr, h2⟩ := h.uncons
  obtain ⟨p0, q0, rfl, h0, k0⟩ := hr.cons
  obtain ⟨p1, q1, rfl, h1, k1⟩ := k0.cons
  obtain ⟨p2, q2, rfl, h3, k2⟩ := k1.cons
  obtain rfl := k2.nil
  obtain ⟨a, rfl, _⟩ := h0.toSl vertex_row
  obtain ⟨b, rfl, _⟩ := h1.toSl edge_row
  obtain ⟨c, rfl, _⟩ := h3.toSl int_row
  exact ⟨⟨a, b, c⟩, vs', rfl, h2⟩

abbrev shapes3 : List (Bool × List Cs) := [(true, graphSh), (false, [.int .i64]), (false, [.sl [.int .i64, .int .i64, .int .i64, .int .i64, .int .i64]]), (false, [.bool]), (false, [.int .i64]), (false, [.int .i64]), (false, [.int .i64]), (false, [.int .i64])]

theorem walk3 {args : List AV} (h : ArgsOk shapes3 args) : Spec Try.prog 3 args [] (.pv (.bool true)) [] := by
  obtain ⟨g, a0, rfl, h0⟩ := graph_arg h
  obtain ⟨n, a1, rfl, hn, h1⟩ := int_arg h0
  obtain ⟨l, a2, rfl, _, hl, h2⟩ := sl_arg a5_row h1
  obtain ⟨b, a3, rfl, h3⟩ := bool_arg h2
  obtain ⟨m, a4, rfl, hm, h4⟩ := int_arg h3
  obtain ⟨v, a5, rfl, hv, h5⟩ := int_arg h4
  obtain ⟨p, a6, rfl, hp, h6⟩ := int_arg h5
  obtain ⟨q, a7, rfl, hq, h7⟩ := int_arg h6
  obtain rfl := argsOk_nil h7
  exact f3.ok g n l b m v p q (Trd.matches_true hn hm hv hp hq hl)

end Go.Fx.Gen
