/- Package page: the view of a vertex. -/
import Derived.Test.YtiecopfelbfkiaaRA
namespace Go.Fx.Gen
open Go.Fx Go.Proofs
set_option linter.unusedVariables false
namespace Frs
open Trd
variable {g : Graph}

/-! slices.DeleteFunc: all but one number. -/
theorem index_run {l : List Int} (hl : l.length < 65536) (x : Int) : ((f71v5 l x).run = some (-1) ∧ x ∉ l) ∨ ∃ (i : Nat) (h : i < l.length), (f71v5 l x).run = some (i : Int) ∧ l[i] = x ∧ x ∉ l.take i := by
  have k1 := loop_find (f := fun s => (f71v5.l1 l x s).run) (l := l) (fun i : Nat => (i : Int)) (fun a => a == x) (fun i _ => (.a (i : Int) : Ex Int Unit Empty)) (.b ())
    (fun i a hi => by
      have hlt : i < l.length := (List.getElem?_eq_some_iff.1 hi).1
      simp only [f71v5.l1, r_brr, L_eq, cast_lt_t hlt, br_t]
      rw [ck_t (by omega), at0_nat, rd_s hi, r_cl, show (f70 a x).run = some () from rfl, bd_s, r_brr, succ_wr hlt (by omega), r_ret, r_ret, br_if])
    (by simp only [f71v5.l1, r_brr, L_eq, cast_lt_f (Nat.lt_irrefl _), br_f, r_ret]) (k := fuel) (by have := fuel_pos; omega)
  have k1 : loopN fuel (fun s => (f71v5.l1 l x s).run) (0 : Int) = _ := k1
  simp only [f71v5]
  rw [r_loop2, k1, bd_s]
  cases hf : l.findIdx? fun a => a == x with
  | none =>
    left
    rw [List.findIdx?_eq_none_iff] at hf
    refine ⟨rfl, fun h => ?_⟩
    have := hf x h
    simp at this
  | some i =>
    right
    rw [List.findIdx?_eq_some_iff_getElem] at hf
    obtain ⟨hi, h1, h2⟩ := hf
    refine ⟨i, hi, ?_, by simpa using h1, fun h => ?_⟩
    · simp only [List.getElem?_eq_getElem hi]
      rw [ex_a, r_ret]
    · obtain ⟨j, hj, e⟩ := List.mem_iff_getElem.1 h
      rw [List.getElem_take] at e
      rw [List.length_take] at hj
      have := h2 j (by omega)
      simp [e] at this

theorem delete_run {l : List Int} (hl : l.length < 65536) (x : Int) : ∃ l', (f68v1 l x).run = some l' ∧ l'.length ≤ l.length ∧ ∀ y, y ∈ l' ↔ y ∈ l ∧ y ≠ x := by
  simp only [f68v1]
  rcases index_run hl x with ⟨h1, h2⟩ | ⟨i, hi, h1, h2, h3⟩
  · rw [r_cl, h1, bd_s, r_brr, show ((-1 : Int) == -1) = true from rfl, br_t, r_ret]
    exact ⟨l, rfl, Nat.le_refl _, fun y => ⟨fun h => ⟨h, fun e => h2 (e ▸ h)⟩, fun h => h.1⟩⟩
  · rw [r_cl, h1, bd_s, r_brr, show ((i : Int) == -1) = false from beq_eq_false_iff_ne.2 (by omega), br_f, r_loop1, succ_wr hi (by omega)]
    obtain ⟨q, hq, k, m, rfl, g1, g2, g3⟩ := loop_of (f := fun s : Int × Int × List Int => (f68v1.l1 x s.1 s.2.1 s.2.2).run)
      (fun s => ∃ (k j : Nat) (m : List Int), s = ((k : Int), (j : Int), m) ∧ m.length = l.length ∧ k < j ∧ j ≤ l.length ∧ (∀ t (h : t < l.length) (h' : t < m.length), j ≤ t → m[t] = l[t]) ∧ ∀ y, y ∈ m.take k ↔ y ∈ l.take j ∧ y ≠ x)
      (fun q => ∃ (k : Nat) (m : List Int), q = .a ((k : Int), m) ∧ k ≤ m.length ∧ m.length = l.length ∧ ∀ y, y ∈ m.take k ↔ y ∈ l ∧ y ≠ x) (fun s => l.length - s.2.1.toNat)
      (by
        rintro _ ⟨k, j, m, rfl, k1, k2, k3, k4, k5⟩
        simp only [f68v1.l1, r_brr]
        by_cases hlt : j < l.length
        · have hm : j < m.length := by omega
          have hx1 := List.getElem?_eq_getElem hm
          have e1 := k4 j hlt hm (Nat.le_refl _)
          rw [show decide ((j : Int) < (L m : Int)) = true by rw [L_eq]; exact cast_lt_t hm, br_t, ck_t (by rw [L_eq]; omega), at0_nat, rd_s hx1, r_cl, show (f70 m[j] x).run = some () from rfl, bd_s, r_brr]
          by_cases he : m[j] = x
          · rw [show (!(m[j] == x)) = false by simp [he], br_f, r_ret, succ_wr hlt (by omega)]
            refine .inl ⟨_, rfl, ⟨k, j + 1, m, rfl, k1, by omega, by omega, fun t h h' ht => k4 t h h' (by omega), fun y => ?_⟩, by simp; omega⟩
            rw [k5 y, mem_take_succ hlt, ← e1, he]
            constructor
            · rintro ⟨h, h'⟩; exact ⟨.inl h, h'⟩
            · rintro ⟨h | h, h'⟩
              · exact ⟨h, h'⟩
              · exact absurd h h'
          · have hk : k < m.length := by omega
            rw [show (!(m[j] == x)) = true by simp [he], br_t, ck_t (by rw [L_eq]; omega), at0_nat, st_s (List.getElem?_eq_getElem hk), r_ret, succ_wr hlt (by omega), succ_wr hk (by omega)]
            refine .inl ⟨_, rfl, ⟨k + 1, j + 1, m.set k m[j], rfl, by simp [k1], by omega, by omega, fun t h h' ht => ?_, fun y => ?_⟩, by simp; omega⟩
            · rw [List.getElem_set_ne (by omega)]
              exact k4 t h (by simpa using h') (by omega)
            · rw [mem_take_succ (by simpa using hk), List.take_set_of_le (Nat.le_refl _), List.getElem_set_self, k5 y, mem_take_succ hlt, ← e1]
              constructor
              · rintro (⟨h, h'⟩ | rfl)
                · exact ⟨.inl h, h'⟩
                · exact ⟨.inr rfl, he⟩
              · rintro ⟨h | h, h'⟩
                · exact .inl ⟨h, h'⟩
                · exact .inr h
        · rw [show decide ((j : Int) < (L m : Int)) = false by rw [L_eq]; exact cast_lt_f (by omega), br_f, r_ret]
          refine .inr ⟨_, rfl, k, m, rfl, by omega, k1, fun y => ?_⟩
          rw [k5 y, show j = l.length by omega, List.take_length])
      fuel ((i : Int), ((i + 1 : Nat) : Int), l) ⟨i, i + 1, l, rfl, rfl, by omega, by omega, fun _ _ _ _ => rfl, fun y => by
        rw [mem_take_succ hi, h2]
        constructor
        · intro h; exact ⟨.inl h, fun e => h3 (e ▸ h)⟩
        · rintro ⟨h | h, h'⟩
          · exact h
          · exact absurd h h'⟩ (by have := fuel_pos; simp; omega)
    rw [hq, bd_s, ex_a]
    dsimp only
    rw [r_bLo, chk_t (by rw [L_eq]; omega), bd_s]
    simp only [Nat.zero_add, L_eq, Int.toNat_natCast, r_clrN]
    rw [r_cutHiO, if_pos (by simp; omega), bd_s, r_ret, Int.toNat_natCast]
    refine ⟨_, rfl, ?_, ?_⟩
    · rw [List.length_take]; simp; omega
    · intro y
      rw [Nat.min_self, clr_take _ g1]; exact g3 y

/-! Neighbours. -/
theorem next_run {es : List Edge} (he : es.length < 60000) (x : Int) : ∃ l, (f52v1 x es).run = some l ∧ l.length < 65000 ∧ ∀ y, y ∈ l ↔ (∃ e ∈ es, atB x e = true ∧ otherP e x = y) ∧ y ≠ x := by
  obtain ⟨q, hq, rfl⟩ := loop_ix (A := List Int) (f := fun s : Int × List Int => (f52v1.l1 x es s.1 s.2).run) (n := es.length) (fun i a => ((i : Int), a)) (fun i a => a = ((es.take i).filter (atB x)).map fun e => otherP e x) (fun q => q = .a ((es.filter (atB x)).map fun e => otherP e x))
    (fun i a hi ha => by
      have hx := List.getElem?_eq_getElem hi
      have htk := List.take_succ_eq_append_getElem hi
      have hal : a.length ≤ i := by rw [ha, List.length_map]; exact Nat.le_trans (List.length_filter_le ..) (by simp; omega)
      have e1 : br (es[i].From == x) (some (Ex.a true)) (some (Ex.a (es[i].To == x))) = some (Ex.a (atB x es[i]) : Ex Bool Empty Empty) := by unfold atB; cases (es[i].From == x) <;> rfl
      simp only [f52v1.l1, r_brr, L_eq, cast_lt_t hi, br_t, getR_s hx, r_join1, r_ret, e1, bd_s, ex_a, succ_wr hi (by omega)]
      have e2 : ((es.take (i + 1)).filter (atB x)).map (fun e => otherP e x) = a ++ if atB x es[i] = true then [otherP es[i] x] else [] := by
        rw [htk, List.filter_append, List.map_append, ← ha]
        by_cases h : atB x es[i] = true
        · rw [if_pos h, List.filter_cons_of_pos h]; rfl
        · rw [if_neg h, List.filter_cons_of_neg h]; rfl
      by_cases h : atB x es[i] = true
      · rw [h, br_t, r_cl, other_run, bd_s, ap_s (by simp; unfold bigLen; omega), r_ret]
        exact .inl ⟨_, rfl, by rw [e2, if_pos h]⟩
      · rw [show atB x es[i] = false by simpa using h, br_f]
        exact .inl ⟨_, rfl, by rw [e2, if_neg h, List.append_nil]⟩)
    (fun a ha => ⟨_, by simp only [f52v1.l1, r_brr, L_eq, cast_lt_f (Nat.lt_irrefl _), br_f, r_ret] <;> rfl, by rw [ha, List.take_length]⟩)
    (k := fuel) (by have := fuel_pos; omega) (a := ([] : List Int)) (by simp)
  have hq : loopN fuel (fun s : Int × List Int => (f52v1.l1 x es s.1 s.2).run) ((0 : Int), ([] : List Int)) = _ := hq
  have hlen : ((es.filter (atB x)).map fun e => otherP e x).length < 60000 := by rw [List.length_map]; exact Nat.lt_of_le_of_lt (List.length_filter_le ..) he
  have hmem : ∀ y, y ∈ ((es.filter (atB x)).map fun e => otherP e x) ↔ ∃ e ∈ es, atB x e = true ∧ otherP e x = y := by
    intro y
    rw [List.mem_map]
    constructor
    · rintro ⟨e, h, h2⟩; obtain ⟨h3, h4⟩ := List.mem_filter.1 h; exact ⟨e, h3, h4, h2⟩
    · rintro ⟨e, h3, h4, h2⟩; exact ⟨e, List.mem_filter.2 ⟨h3, h4⟩, h2⟩
  generalize ((es.filter (atB x)).map fun e => otherP e x) = l at hq hlen hmem
  obtain ⟨l1, s1, s2⟩ := sort_ints (l := l) (by omega)
  have s3 := s2.length_eq
  obtain ⟨l2, c1, c2, c3⟩ := compact_run (l := l1) (by omega)
  obtain ⟨l3, d1, d2, d3⟩ := delete_run (l := l2) (by omega) x
  simp only [f52v1]
  rw [r_loop1, hq, bd_s, ex_a, r_cl, s1, bd_s, r_cl, c1, bd_s, r_cl, d1, bd_s, r_ret]
  exact ⟨l3, rfl, by omega, fun y => by rw [d3, c3, s2.mem_iff, hmem]⟩

theorem contains_run {l : List Int} (hl : l.length < 1000000000) (x : Int) : (f31v1 l x).run = some (decide (x ∈ l)) := by
  have k1 := loop_find (f := fun s => (f56v1.l1 l x s).run) (l := l) (fun i : Nat => (i : Int)) (fun a => x == a) (fun i _ => (.a (i : Int) : Ex Int Unit Empty)) (.b ())
    (fun i a hi => by
      have hlt : i < l.length := (List.getElem?_eq_some_iff.1 hi).1
      simp only [f56v1.l1, r_brr, L_eq, cast_lt_t hlt, br_t, getR_s hi, succ_wr hlt (by omega), r_ret]
      rw [br_if])
    (by simp only [f56v1.l1, r_brr, L_eq, cast_lt_f (Nat.lt_irrefl _), br_f, r_ret]) (k := fuel) (by have := fuel_pos; omega)
  have k1 : loopN fuel (fun s => (f56v1.l1 l x s).run) (0 : Int) = _ := k1
  simp only [f31v1, f56v1]
  rw [r_cl, r_loop2, k1]
  cases hf : l.findIdx? fun a => x == a with
  | none =>
    rw [List.findIdx?_eq_none_iff] at hf
    simp only [bd_s, ex_b, r_ret]
    have : x ∉ l := fun h => by have := hf x h; simp at this
    rw [decide_eq_false this]; rfl
  | some i =>
    rw [List.findIdx?_eq_some_iff_getElem] at hf
    obtain ⟨hi, h1, _⟩ := hf
    simp only [bd_s, List.getElem?_eq_getElem hi, ex_a, r_ret]
    have h1 : x = l[i] := by simpa using h1
    have : x ∈ l := by rw [h1]; exact List.getElem_mem hi
    rw [decide_eq_true this, cast_ge]
end Frs
end Go.Fx.Gen
