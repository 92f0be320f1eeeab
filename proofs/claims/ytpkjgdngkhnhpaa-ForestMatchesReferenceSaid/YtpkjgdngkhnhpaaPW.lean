/- The arguments of a law, told as plain data. -/
import Derived.Test.YtpkjgdngkhnhpaaPG
import Derived.Test.YtpkjgdngkhnhpaaFwM
namespace Go.Fw.Gen
open Go.Fw Go.Proofs
theorem a5_row (ps : List PV) (h : RowOk [.int .i64, .int .i64, .int .i64, .int .i64, .int .i64] ps) : ∃ a : A5_Int, ps = A5_Int.enc a ∧ A5ok a := by
 obtain ⟨p0, q0, rfl, h0, k0⟩ := h.cons
 obtain ⟨p1, q1, rfl, h1, k1⟩ := k0.cons
 obtain ⟨p2, q2, rfl, h2, k2⟩ := k1.cons
 obtain ⟨p3, q3, rfl, h3, k3⟩ := k2.cons
 obtain ⟨p4, q4, rfl, h4, k4⟩ := k3.cons
 obtain rfl := k4.nil
 obtain ⟨n0, rfl, i0⟩ := h0.toInt
 obtain ⟨n1, rfl, i1⟩ := h1.toInt
 obtain ⟨n2, rfl, i2⟩ := h2.toInt
 obtain ⟨n3, rfl, i3⟩ := h3.toInt
 obtain ⟨n4, rfl, i4⟩ := h4.toInt
 exact ⟨⟨n0, n1, n2, n3, n4⟩, rfl, i0, i1, i2, i3, i4⟩
theorem int_arg {r : List (Bool × List Cs)} {vs : List AV} (h : ArgsOk ((false, [.int .i64]) :: r) vs) : ∃ n vs', vs = .pv (.int .i64 n) :: vs' ∧ inI64 n ∧ ArgsOk r vs' := by
 obtain ⟨ps, vs', rfl, h1, h2⟩ := h.uncons
 obtain ⟨p, ps', rfl, h3, h4⟩ := h1.cons
 obtain rfl := h4.nil
 obtain ⟨n, rfl, hn⟩ := h3.toInt
 exact ⟨n, vs', rfl, hn, h2⟩
theorem bool_arg {r : List (Bool × List Cs)} {vs : List AV} (h : ArgsOk ((false, [.bool]) :: r) vs) : ∃ b vs', vs = .pv (.bool b) :: vs' ∧ ArgsOk r vs' := by
 obtain ⟨ps, vs', rfl, h1, h2⟩ := h.uncons
 obtain ⟨p, ps', rfl, h3, h4⟩ := h1.cons
 obtain rfl := h4.nil
 obtain ⟨b, rfl⟩ := h3.toBool
 exact ⟨b, vs', rfl, h2⟩
theorem sl_arg {α : Type} {enc : α → List PV} {ok : α → Prop} {sh : List Cs} (hr : ∀ ps, RowOk sh ps → ∃ a, ps = enc a ∧ ok a) {r : List (Bool × List Cs)} {vs : List AV} (h : ArgsOk ((false, [.sl sh]) :: r) vs) :
  ∃ (l : List α) (vs' : List AV), vs = .pv (.sl (l.map enc)) :: vs' ∧ l.length ≤ maxLen ∧ (∀ a ∈ l, ok a) ∧ ArgsOk r vs' := by
 obtain ⟨ps, vs', rfl, h1, h2⟩ := h.uncons
 obtain ⟨p, ps', rfl, h3, h4⟩ := h1.cons
 obtain rfl := h4.nil
 obtain ⟨l, rfl, h5, h6⟩ := h3.toSl hr
 exact ⟨l, vs', rfl, h5, h6, h2⟩
theorem i_row (ps : List PV) (h : RowOk [.int .i64] ps) : ∃ a : Int, ps = eInt a ∧ inI64 a := by
 obtain ⟨p0, q0, rfl, h0, k0⟩ := h.cons
 obtain rfl := k0.nil
 obtain ⟨n0, rfl, i0⟩ := h0.toInt
 exact ⟨n0, rfl, i0⟩
end Go.Fw.Gen
