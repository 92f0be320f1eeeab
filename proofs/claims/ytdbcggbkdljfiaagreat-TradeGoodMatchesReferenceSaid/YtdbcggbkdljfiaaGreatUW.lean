/- The law TradeGoodMatchesReference, walked: whatever the arguments, the program answers true. -/
import Derived.Test.YtdbcggbkdljfiaaGreatAF
import Derived.Test.YtdbcggbkdljfiaaGreatUE
namespace Go.Fx.Gen
open Go.Fx Go.Proofs

theorem edge_row (ps : List PV) (h : RowOk [.int .i64, .int .i64, .int .i64, .bool, .int .i64, .int .i64] ps) : ∃ a : Edge, ps = Cel.enc a ∧ True := by
  obtain ⟨p0, q0, rfl, h0, k0⟩ := h.cons
  obtain ⟨p1, q1, rfl, h1, k1⟩ := k0.cons
  obtain ⟨p2, q2, rfl, h2, k2⟩ := k1.cons
  obtain ⟨p3, q3, rfl, h3, k3⟩ := k2.cons
  obtain ⟨p4, q4, rfl, h4, k4⟩ := k3.cons
  obtain ⟨p5, q5, rfl, h5, k5⟩ := k4.cons
  obtain rfl := k5.nil
  obtain ⟨n0, rfl, i0⟩ := h0.toInt
  obtain ⟨n1, rfl, i1⟩ := h1.toInt
  obtain ⟨n2, rfl, i2⟩ := h2.toInt
  obtain ⟨n3, rfl⟩ := h3.toBool
  obtain ⟨n4, rfl, i4⟩ := h4.toInt
  obtain ⟨n5, rfl, i5⟩ := h5.toInt
  exact ⟨⟨n0, n1, n2, n3, n4, n5⟩, rfl, trivial⟩
theorem named_row (ps : List PV) (h : RowOk [.int .i64, .sl [.int .i64]] ps) : ∃ a : Named, ps = Cel.enc a ∧ True := by
  obtain ⟨p0, q0, rfl, h0, k0⟩ := h.cons
  obtain ⟨p1, q1, rfl, h1, k1⟩ := k0.cons
  obtain rfl := k1.nil
  obtain ⟨n, rfl, _⟩ := h0.toInt
  obtain ⟨c, rfl, _⟩ := h1.toSl int_row
  exact ⟨⟨n, c⟩, rfl, trivial⟩

abbrev viewSh : List Cs := [.int .i64, .int .i64, .sl [.int .i64], .sl [.int .i64, .int .i64, .int .i64, .bool, .int .i64, .int .i64], .sl [.int .i64, .sl [.int .i64]]]

theorem view_arg {r : List (Bool × List Cs)} {vs : List AV} (h : ArgsOk ((true, viewSh) :: r) vs) : ∃ (v : View) (vs' : List AV), vs = V v :: vs' ∧ ArgsOk r vs' := by
  obtain ⟨ps, vs', rfl, hr, h2⟩ := h.uncons
  obtain ⟨p0, q0, rfl, h0, k0⟩ := hr.cons
  obtain ⟨p1, q1, rfl, h1, k1⟩ := k0.cons
  obtain ⟨p2, q2, rfl, h3, k2⟩ := k1.cons
  obtain ⟨p3, q3, rfl, h4, k3⟩ := k2.cons
  obtain ⟨p4, q4, rfl, h5, k4⟩ := k3.cons
  obtain rfl := k4.nil
  obtain ⟨a, rfl, _⟩ := h0.toInt
  obtain ⟨b, rfl, _⟩ := h1.toInt
  obtain ⟨c, rfl, _⟩ := h3.toSl int_row
  obtain ⟨d, rfl, _⟩ := h4.toSl edge_row
  obtain ⟨e, rfl, _⟩ := h5.toSl named_row
  exact ⟨⟨⟨a, b⟩, c, d, e⟩, vs', rfl, h2⟩

theorem a2_arg {r : List (Bool × List Cs)} {vs : List AV} (h : ArgsOk ((true, [.int .i64, .int .i64]) :: r) vs) : ∃ (v : A2_Int) (vs' : List AV), vs = V v :: vs' ∧ (inI64 v.x0 ∧ inI64 v.x1) ∧ ArgsOk r vs' := by
  obtain ⟨ps, vs', rfl, hr, h2⟩ := h.uncons
  obtain ⟨p0, q0, rfl, h0, k0⟩ := hr.cons
  obtain ⟨p1, q1, rfl, h1, k1⟩ := k0.cons
  obtain rfl := k1.nil
  obtain ⟨a, rfl, i0⟩ := h0.toInt
  obtain ⟨b, rfl, i1⟩ := h1.toInt
  exact ⟨⟨a, b⟩, vs', rfl, ⟨i0, i1⟩, h2⟩

abbrev shapes3 : List (Bool × List Cs) := [(true, viewSh), (false, [.int .i64]), (false, [.sl [.int .i64, .int .i64, .int .i64, .int .i64, .int .i64]]), (false, [.int .i64]), (true, [.int .i64, .int .i64]), (true, [.int .i64, .int .i64]), (true, [.int .i64, .int .i64])]

theorem walk3 {args : List AV} (h : ArgsOk shapes3 args) : Spec Tryz.prog 3 args [] (.pv (.bool true)) [] := by
  obtain ⟨v, a0, rfl, h0⟩ := view_arg h
  obtain ⟨n, a1, rfl, hn, h1⟩ := int_arg h0
  obtain ⟨l, a2, rfl, _, hl, h2⟩ := sl_arg a5_row h1
  obtain ⟨m, a3, rfl, hm, h3⟩ := int_arg h2
  obtain ⟨p, a4, rfl, hp, h4⟩ := a2_arg h3
  obtain ⟨q, a5, rfl, hq, h5⟩ := a2_arg h4
  obtain ⟨s, a6, rfl, hs, h6⟩ := a2_arg h5
  obtain rfl := argsOk_nil h6
  exact f3.ok v n l m p q s (Trd.good_true hn hm hl hp hq hs)

end Go.Fx.Gen
