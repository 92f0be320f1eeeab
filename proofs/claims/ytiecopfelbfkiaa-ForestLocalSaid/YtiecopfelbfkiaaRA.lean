/- Package page: the neighbours of a vertex. -/
import Derived.Test.YtiecopfelbfkiaaQG
import Derived.Test.YtiecopfelbfkiaaXW
namespace Go.Fx.Gen
open Go.Fx Go.Proofs
set_option linter.unusedVariables false
namespace Frs
open Trd
variable {g : Graph}

theorem r_cutHiO {P : Program} {α β : Type} [Cel α] {l : List α} {b : Int} {k : List α → Prg P β} : (cutHiO l b k).run = bd (if 0 ≤ b ∧ b ≤ (l.length : Int) then some (l.take b.toNat) else none) fun y => (k y).run := rfl
theorem cast_ge {i : Nat} : decide ((i : Int) ≥ 0) = true := by simp

/-! slices.Sort -/
theorem less_run (x y : Int) : (f84 x y).run = some (decide (x < y)) := by
  simp only [f84, f77, r_cl, r_ret, bd_s, r_brr]
  rw [show (x != x) = false by simp, br_f]
theorem int_cmp : Srt.Cmp (fun _ : Int => True) (fun a b => decide (a < b)) where
  run := fun x y _ _ => by unfold Srt.cv; rw [less_run]; rfl
  dec := fun x y _ _ => by unfold Srt.cv; rw [less_run]; rfl
  swo := ⟨fun x => by simp, fun x y z h1 h2 => by simp at *; omega, fun x y z h1 h2 => by simp at *; omega⟩
theorem sort_ints {l : List Int} (hl : l.length < 65536) : ∃ l', (f67v1 l).run = some l' ∧ l'.Perm l := by
  obtain ⟨l', h1, h2, _⟩ := Srt.sort_run int_cmp l hl fun _ _ => trivial
  exact ⟨l', h1, h2⟩

/-! slices.Compact: the same numbers. -/
theorem mem_take_succ {l : List Int} {i : Nat} (h : i < l.length) (y : Int) : y ∈ l.take (i + 1) ↔ y ∈ l.take i ∨ y = l[i] := by
  rw [List.take_succ_eq_append_getElem h, List.mem_append, List.mem_singleton]

theorem squeeze_run {l : List Int} (hl : l.length < 65536) {K : Nat} (hK : 1 ≤ K) (hKl : K < l.length) (heq : l[K] = l[K - 1]) :
    ∃ (k : Nat) (m : List Int), loopN fuel (fun s : Int × Int × List Int => (f69v1.l1 l (K : Int) s.1 s.2.1 s.2.2).run) ((K : Int), (1 : Int), l) = some (.a ((k : Int), m)) ∧ k ≤ m.length ∧ m.length = l.length ∧ ∀ y, y ∈ m.take k ↔ y ∈ l := by
  have hw : (((L l) - ((K : Int)).toNat : Nat) : Int) = ((l.length - K : Nat) : Int) := by rw [L_eq, Int.toNat_natCast]
  obtain ⟨q, hq, k, m, rfl, h1, h2, h3⟩ := loop_of (f := fun s : Int × Int × List Int => (f69v1.l1 l (K : Int) s.1 s.2.1 s.2.2).run)
    (fun s => ∃ (k i : Nat) (m : List Int), s = ((k : Int), (i : Int), m) ∧ m.length = l.length ∧ 1 ≤ i ∧ K + i ≤ l.length ∧ K ≤ k ∧ k + 1 ≤ K + i ∧ (∀ j (h : j < l.length) (h' : j < m.length), K + i ≤ j + 1 → m[j] = l[j]) ∧ ∀ y, y ∈ m.take k ↔ y ∈ l.take (K + i))
    (fun q => ∃ (k : Nat) (m : List Int), q = .a ((k : Int), m) ∧ k ≤ m.length ∧ m.length = l.length ∧ ∀ y, y ∈ m.take k ↔ y ∈ l) (fun s => l.length - s.2.1.toNat)
    (by
      rintro _ ⟨k, i, m, rfl, h1, h2, h3, h4, h5, h6, h7⟩
      simp only [f69v1.l1, r_brr, hw]
      by_cases hlt : i < l.length - K
      · have hm1 : K + i < m.length := by omega
        have hm2 : K + i - 1 < m.length := by omega
        have e1 : (0 + ((K : Int)).toNat) + ((i : Int)).toNat = K + i := by omega
        have w1 : IntKind.i64.wrap ((i : Int) - 1) = ((i - 1 : Nat) : Int) := by rw [wr] <;> omega
        have e2 : (0 + ((K : Int)).toNat) + (((i - 1 : Nat) : Int)).toNat = K + i - 1 := by omega
        have g1 := h6 (K + i) (by omega) hm1 (by omega)
        have g2 := h6 (K + i - 1) (by omega) hm2 (by omega)
        have hx1 := List.getElem?_eq_getElem hm1
        have hx2 := List.getElem?_eq_getElem hm2
        rw [cast_lt_t hlt, br_t, w1]
        simp only [e1, e2]
        rw [ck_t (by rw [L_eq]; omega), rd_s hx1, ck_t (by rw [L_eq]; omega), rd_s hx2, r_brr]
        by_cases hne : m[K + i] = m[K + i - 1]
        · rw [show (m[K + i] != m[K + i - 1]) = false by simp [hne], br_f, r_ret, succ_wr hlt (by omega)]
          refine .inl ⟨_, rfl, ⟨k, i + 1, m, rfl, h1, by omega, by omega, h4, by omega, fun j h h' hj => h6 j h h' (by omega), fun y => ?_⟩, by simp; omega⟩
          rw [h7 y, ← Nat.add_assoc, mem_take_succ (by omega)]
          constructor
          · exact .inl
          · rintro (h | rfl)
            · exact h
            · have hK2 : K + i - 1 < l.length := by omega
              rw [← g1, hne, g2]
              exact List.mem_iff_getElem.2 ⟨K + i - 1, by rw [List.length_take]; omega, by rw [List.getElem_take]⟩
        · have hkm : k < m.length := by omega
          rw [show (m[K + i] != m[K + i - 1]) = true by simp [hne], br_t, ck_t (by rw [L_eq]; omega), rd_s hx1, ck_t (by rw [L_eq]; omega), at0_nat, st_s (List.getElem?_eq_getElem hkm), r_ret, succ_wr hlt (by omega), succ_wr hkm (by omega)]
          refine .inl ⟨_, rfl, ⟨k + 1, i + 1, m.set k m[K + i], rfl, by simp [h1], by omega, by omega, by omega, by omega, fun j h h' hj => ?_, fun y => ?_⟩, by simp; omega⟩
          · rw [List.getElem_set_ne (by omega)]
            exact h6 j h (by simpa using h') (by omega)
          · rw [mem_take_succ (by simpa using hkm), List.take_set_of_le (Nat.le_refl _), List.getElem_set_self, h7 y, ← Nat.add_assoc, mem_take_succ (by omega), g1]
      · rw [cast_lt_f hlt, br_f, r_ret]
        obtain rfl : i = l.length - K := by omega
        refine .inr ⟨_, rfl, k, m, rfl, by omega, h1, fun y => ?_⟩
        rw [h7 y, show K + (l.length - K) = l.length by omega, List.take_length])
    fuel ((K : Int), (1 : Int), l) ⟨K, 1, l, rfl, rfl, Nat.le_refl _, by omega, Nat.le_refl _, by omega, fun _ _ _ _ => rfl, fun y => by
      rw [mem_take_succ hKl]
      constructor
      · exact .inl
      · rintro (h | rfl)
        · exact h
        · rw [heq]; exact List.mem_iff_getElem.2 ⟨K - 1, by rw [List.length_take]; omega, by rw [List.getElem_take]⟩⟩ (by have := fuel_pos; simp; omega)
  exact ⟨k, m, hq, h1, h2, h3⟩

theorem clr_take {l : List Int} {k : Nat} (n : Nat) (hk : k ≤ l.length) : (l.take k ++ List.replicate n 0 ++ l.drop (k + n)).take k = l.take k := by
  rw [List.append_assoc, List.take_append_of_le_length (by rw [List.length_take]; omega), List.take_take, Nat.min_self]

theorem compact_run {l : List Int} (hl : l.length < 65536) : ∃ l', (f69v1 l).run = some l' ∧ l'.length ≤ l.length ∧ ∀ y, y ∈ l' ↔ y ∈ l := by
  simp only [f69v1, r_brr]
  by_cases h2 : l.length < 2
  · rw [show decide ((L l : Int) < 2) = true by rw [L_eq]; simp; omega, br_t, r_ret]
    exact ⟨l, rfl, Nat.le_refl _, fun _ => .rfl⟩
  · rw [show decide ((L l : Int) < 2) = false by rw [L_eq]; simp; omega, br_f]
    obtain ⟨r, hr, hr2⟩ := loop_of (f := fun s : Int => (f69v1.l2 l s).run)
      (fun s => ∃ i : Nat, s = (i : Int) ∧ 1 ≤ i ∧ i ≤ l.length)
      (fun q => q = .b () ∨ ∃ l', q = .a l' ∧ l'.length ≤ l.length ∧ ∀ y, y ∈ l' ↔ y ∈ l) (fun s => l.length - s.toNat)
      (by
        rintro _ ⟨i, rfl, h3, h4⟩
        simp only [f69v1.l2, r_brr]
        by_cases hlt : i < l.length
        · have hx1 := List.getElem?_eq_getElem hlt
          have hi2 : i - 1 < l.length := by omega
          have hx2 := List.getElem?_eq_getElem hi2
          have w1 : IntKind.i64.wrap ((i : Int) - 1) = ((i - 1 : Nat) : Int) := by rw [wr] <;> omega
          rw [show decide ((i : Int) < (L l : Int)) = true by rw [L_eq]; exact cast_lt_t hlt, br_t, ck_t (by rw [L_eq]; omega), at0_nat, rd_s hx1, w1, ck_t (by rw [L_eq]; omega), at0_nat, rd_s hx2, r_brr]
          by_cases he : l[i] = l[i - 1]
          · rw [show (l[i] == l[i - 1]) = true by simp [he], br_t, r_bLo, chk_t (by rw [L_eq]; omega), bd_s, r_loop1]
            obtain ⟨k, m, k1, k2, k3, k4⟩ := squeeze_run hl h3 hlt he
            rw [k1, bd_s, ex_a]
            dsimp only
            rw [r_bLo, chk_t (by rw [L_eq]; omega), bd_s]
            simp only [Nat.zero_add, L_eq, Int.toNat_natCast, r_clrN]
            rw [r_cutHiO, if_pos (by simp; omega), bd_s, r_ret, Int.toNat_natCast]
            refine .inr ⟨_, rfl, .inr ⟨_, rfl, ?_, ?_⟩⟩
            · rw [List.length_take]; omega
            · intro y
              rw [Nat.min_self, clr_take _ k2]; exact k4 y
          · rw [show (l[i] == l[i - 1]) = false by simp [he], br_f, r_ret, succ_wr hlt (by omega)]
            exact .inl ⟨_, rfl, ⟨i + 1, rfl, by omega, by omega⟩, by simp; omega⟩
        · rw [show decide ((i : Int) < (L l : Int)) = false by rw [L_eq]; exact cast_lt_f hlt, br_f, r_ret]
          exact .inr ⟨_, rfl, .inl rfl⟩)
      fuel (1 : Int) ⟨1, rfl, by omega, by omega⟩ (by have := fuel_pos; simp; omega)
    rw [r_loop2, hr, bd_s]
    rcases hr2 with rfl | ⟨l', rfl, g1, g2⟩
    · rw [ex_b, r_ret]; exact ⟨l, rfl, Nat.le_refl _, fun _ => .rfl⟩
    · rw [ex_a, r_ret]; exact ⟨l', rfl, g1, g2⟩
end Frs
end Go.Fx.Gen
