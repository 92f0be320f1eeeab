/- The law of the reference, walked: whatever the arguments, the program answers true. -/
import Derived.Test.YtpkjgdngkhnhpaaPY
import Derived.Test.YtpkjgdngkhnhpaaG4
import Derived.Test.YtpkjgdngkhnhpaaPW
namespace Go.Fw.Gen
open Go.Fw Go.Proofs
abbrev shI : Cs := .int .i64
abbrev shV : List Cs := [shI, shI]
abbrev shE : List Cs := [shI, shI, shI, .bool, shI, shI]
abbrev shN : List Cs := [shI, .sl [shI]]
theorem v_row (ps : List PV) (h : RowOk shV ps) : ∃ a : Vertex, ps = Vertex.enc a ∧ True := by
 obtain ⟨p0, q0, rfl, h0, k0⟩ := h.cons
 obtain ⟨p1, q1, rfl, h1, k1⟩ := k0.cons
 obtain rfl := k1.nil
 obtain ⟨n0, rfl, _⟩ := h0.toInt
 obtain ⟨n1, rfl, _⟩ := h1.toInt
 exact ⟨⟨n0, n1⟩, rfl, trivial⟩
theorem e_row (ps : List PV) (h : RowOk shE ps) : ∃ a : Edge, ps = Edge.enc a ∧ True := by
 obtain ⟨p0, q0, rfl, h0, k0⟩ := h.cons
 obtain ⟨p1, q1, rfl, h1, k1⟩ := k0.cons
 obtain ⟨p2, q2, rfl, h2, k2⟩ := k1.cons
 obtain ⟨p3, q3, rfl, h3, k3⟩ := k2.cons
 obtain ⟨p4, q4, rfl, h4, k4⟩ := k3.cons
 obtain ⟨p5, q5, rfl, h5, k5⟩ := k4.cons
 obtain rfl := k5.nil
 obtain ⟨n0, rfl, _⟩ := h0.toInt
 obtain ⟨n1, rfl, _⟩ := h1.toInt
 obtain ⟨n2, rfl, _⟩ := h2.toInt
 obtain ⟨b3, rfl⟩ := h3.toBool
 obtain ⟨n4, rfl, _⟩ := h4.toInt
 obtain ⟨n5, rfl, _⟩ := h5.toInt
 exact ⟨⟨n0, n1, n2, b3, n4, n5⟩, rfl, trivial⟩
theorem n_row (ps : List PV) (h : RowOk shN ps) : ∃ a : Named, ps = Named.enc a ∧ True := by
 obtain ⟨p0, q0, rfl, h0, k0⟩ := h.cons
 obtain ⟨p1, q1, rfl, h1, k1⟩ := k0.cons
 obtain rfl := k1.nil
 obtain ⟨n0, rfl, _⟩ := h0.toInt
 obtain ⟨l, rfl, _, _⟩ := h1.toSl i_row
 exact ⟨⟨n0, l⟩, rfl, trivial⟩
theorem a3_row (ps : List PV) (h : RowOk [shI, shI, shI] ps) : ∃ a : A3_Int, ps = A3_Int.enc a ∧ A3ok a := by
 obtain ⟨p0, q0, rfl, h0, k0⟩ := h.cons
 obtain ⟨p1, q1, rfl, h1, k1⟩ := k0.cons
 obtain ⟨p2, q2, rfl, h2, k2⟩ := k1.cons
 obtain rfl := k2.nil
 obtain ⟨n0, rfl, i0⟩ := h0.toInt
 obtain ⟨n1, rfl, i1⟩ := h1.toInt
 obtain ⟨n2, rfl, i2⟩ := h2.toInt
 exact ⟨⟨n0, n1, n2⟩, rfl, i0, i1, i2⟩
abbrev shapes3 : List (Bool × List Cs) := [(false, [shI]), (false, [.sl [shI, shI, shI, shI, shI]]), (false, [.bool]), (true, [.sl shV, .sl shE, .sl [shI]]), (false, [shI]), (false, [shI]), (false, [.sl [shI]]), (false, [.sl [shI]]), (false, [.sl [shI, shI, shI]]), (true, [shI, shI, .sl [shI], .sl shE, .sl shN])]
theorem g_arg {r : List (Bool × List Cs)} {vs : List AV} (h : ArgsOk ((true, [.sl shV, .sl shE, .sl [shI]]) :: r) vs) : ∃ (g : Graph) (vs' : List AV), vs = .aggp (Graph.enc g) :: vs' ∧ ArgsOk r vs' := by
 obtain ⟨ps, vs', rfl, hh, h2⟩ := h.uncons
 obtain ⟨p0, q0, rfl, h0, k0⟩ := hh.cons
 obtain ⟨p1, q1, rfl, h1, k1⟩ := k0.cons
 obtain ⟨p2, q2, rfl, h3, k2⟩ := k1.cons
 obtain rfl := k2.nil
 obtain ⟨a, rfl, _, _⟩ := h0.toSl v_row
 obtain ⟨b, rfl, _, _⟩ := h1.toSl e_row
 obtain ⟨c, rfl, _, _⟩ := h3.toSl i_row
 exact ⟨⟨a, b, c⟩, vs', rfl, h2⟩
theorem w_arg {r : List (Bool × List Cs)} {vs : List AV} (h : ArgsOk ((true, [shI, shI, .sl [shI], .sl shE, .sl shN]) :: r) vs) : ∃ (g : View) (vs' : List AV), vs = .aggp (View.enc g) :: vs' ∧ ArgsOk r vs' := by
 obtain ⟨ps, vs', rfl, hh, h2⟩ := h.uncons
 obtain ⟨p0, q0, rfl, h0, k0⟩ := hh.cons
 obtain ⟨p1, q1, rfl, h1, k1⟩ := k0.cons
 obtain ⟨p2, q2, rfl, h3, k2⟩ := k1.cons
 obtain ⟨p3, q3, rfl, h4, k3⟩ := k2.cons
 obtain ⟨p4, q4, rfl, h5, k4⟩ := k3.cons
 obtain rfl := k4.nil
 obtain ⟨n0, rfl, _⟩ := h0.toInt
 obtain ⟨n1, rfl, _⟩ := h1.toInt
 obtain ⟨c, rfl, _, _⟩ := h3.toSl i_row
 obtain ⟨b, rfl, _, _⟩ := h4.toSl e_row
 obtain ⟨l, rfl, _, _⟩ := h5.toSl n_row
 exact ⟨⟨⟨n0, n1⟩, c, b, l⟩, vs', rfl, h2⟩
theorem walk3 {args : List AV} (h : ArgsOk shapes3 args) : Spec Try.prog 3 args [] (.pv (.bool true)) [] := by
 obtain ⟨n, a1, rfl, hn, h1⟩ := int_arg h
 obtain ⟨l, a2, rfl, _, hl, h2⟩ := sl_arg a5_row h1
 obtain ⟨w, a3, rfl, h3⟩ := bool_arg h2
 obtain ⟨g, a4, rfl, h4⟩ := g_arg h3
 obtain ⟨a, a5, rfl, ha, h5⟩ := int_arg h4
 obtain ⟨b, a6, rfl, hb, h6⟩ := int_arg h5
 obtain ⟨p, a7, rfl, _, _, h7⟩ := sl_arg i_row h6
 obtain ⟨s, a8, rfl, _, _, h8⟩ := sl_arg i_row h7
 obtain ⟨x, a9, rfl, _, hx, h9⟩ := sl_arg a3_row h8
 obtain ⟨v, a10, rfl, h10⟩ := w_arg h9
 obtain rfl := argsOk_nil h10
 exact w7ForestMatchesReference.ok n l w g a b p s x v (Matches_true n l w g a b p s x v hn hl ha hb hx)
end Go.Fw.Gen
