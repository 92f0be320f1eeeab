/- A law's arguments, as data that came in. -/
import Derived.Test.YtpdjphpjejjkpaaFxM
import Derived.Test.YtpdjphpjejjkpaaFxP
namespace Go.Fx.Gen
open Go.Fx
theorem int_arg {r : List (Bool × List Cs)} {vs : List AV} (h : ArgsOk ((false, [.int .i64]) :: r) vs) : ∃ (n : Int) (vs' : List AV), vs = V n :: vs' ∧ inI64 n ∧ ArgsOk r vs' := by
 obtain ⟨ps, vs', rfl, h1, h2⟩ := h.uncons
 obtain ⟨p, ps', rfl, h3, h4⟩ := h1.cons
 obtain rfl := h4.nil
 obtain ⟨n, rfl, hn⟩ := h3.toInt
 exact ⟨n, vs', rfl, hn, h2⟩
theorem bool_arg {r : List (Bool × List Cs)} {vs : List AV} (h : ArgsOk ((false, [.bool]) :: r) vs) : ∃ (b : Bool) (vs' : List AV), vs = V b :: vs' ∧ ArgsOk r vs' := by
 obtain ⟨ps, vs', rfl, h1, h2⟩ := h.uncons
 obtain ⟨p, ps', rfl, h3, h4⟩ := h1.cons
 obtain rfl := h4.nil
 obtain ⟨b, rfl⟩ := h3.toBool
 exact ⟨b, vs', rfl, h2⟩
theorem sl_arg {α : Type} [Cel α] {ok : α → Prop} {sh : List Cs} (hr : ∀ ps, RowOk sh ps → ∃ a : α, ps = Cel.enc a ∧ ok a) {r : List (Bool × List Cs)} {vs : List AV} (h : ArgsOk ((false, [.sl sh]) :: r) vs) :
  ∃ (l : List α) (vs' : List AV), vs = V l :: vs' ∧ l.length ≤ maxLen ∧ (∀ a ∈ l, ok a) ∧ ArgsOk r vs' := by
 obtain ⟨ps, vs', rfl, h1, h2⟩ := h.uncons
 obtain ⟨p, ps', rfl, h3, h4⟩ := h1.cons
 obtain rfl := h4.nil
 obtain ⟨l, rfl, h5, h6⟩ := h3.toSl hr
 exact ⟨l, vs', rfl, h5, h6, h2⟩
theorem int_row (ps : List PV) (h : RowOk [.int .i64] ps) : ∃ n : Int, ps = Cel.enc n ∧ inI64 n := by
 obtain ⟨p, ps', rfl, h0, h1⟩ := h.cons
 obtain rfl := h1.nil
 obtain ⟨n, rfl, hn⟩ := h0.toInt
 exact ⟨n, rfl, hn⟩
end Go.Fx.Gen
