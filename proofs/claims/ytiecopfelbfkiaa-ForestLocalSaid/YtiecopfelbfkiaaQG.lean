/- The forest's laws: an edge is added; views, and what is counted in them; connected vertices. -/
import Derived.Test.YtiecopfelbfkiaaQF
namespace Go.Fx.Gen
open Go.Fx Go.Proofs
set_option linter.unusedVariables false
namespace Frs
open Trd
variable {g : Graph}

/-! What a view has. -/
theorem mapGet_set {α : Type} : ∀ (m : List (Int × α)) (x : Int) (v : α) (y : Int), mapGet (mapSet m x v) y = if y = x then some v else mapGet m y
  | [], x, v, y => by
    by_cases e : y = x
    · subst e; simp [mapSet, mapGet]
    · simp only [mapSet, mapGet, if_neg e, if_neg (fun h : x = y => e h.symm)]
  | (k, u) :: r, x, v, y => by
    unfold mapSet
    by_cases e : k = x
    · subst e
      rw [if_pos rfl]
      by_cases e2 : y = k
      · subst e2; simp [mapGet]
      · simp only [mapGet, if_neg (fun h : k = y => e2 h.symm), if_neg e2]
    · rw [if_neg e]
      unfold mapGet
      by_cases e2 : k = y
      · rw [if_pos e2, if_pos e2, if_neg (by rw [← e2]; exact e)]
      · rw [if_neg e2, if_neg e2, mapGet_set r x v y]

/-- The first label of a vertex, if it is one of three numbers. -/
def firstL (l : List Named) (x : Int) : Option (List Int) := match l.find? fun n => n.ID == x with
  | some n => if n.Label.length = 3 then some n.Label else none
  | none => none

theorem firstL_snoc (l : List Named) (n : Named) (x : Int) : firstL (l ++ [n]) x = if l.any (fun m => m.ID == x) then firstL l x else if n.ID = x then (if n.Label.length = 3 then some n.Label else none) else none := by
  unfold firstL
  rw [List.find?_append]
  by_cases h : l.any (fun m => m.ID == x) = true
  · rw [if_pos h]
    obtain ⟨m, hm, he⟩ := List.any_eq_true.1 h
    cases hf : l.find? fun n => n.ID == x with
    | none => have := List.find?_eq_none.1 hf m hm; exact absurd he this
    | some a => rfl
  · rw [if_neg h]
    have : l.find? (fun n => n.ID == x) = none := List.find?_eq_none.2 fun m hm he => h (List.any_eq_true.2 ⟨m, hm, he⟩)
    rw [this, Option.none_or, List.find?_cons]
    by_cases e : n.ID = x
    · rw [if_pos e, beq_iff_eq.2 e]
    · rw [if_neg e, beq_eq_false_iff_ne.2 e]; rfl

theorem seen_run {w : View} (hl : w.Labels.length < 1000000000) : ∃ m, (f34 w).run = some m ∧ ∀ x, lookJ m x = firstL w.Labels x := by
  obtain ⟨q, hq, m, rfl, h2⟩ := loop_ix (A := List (Int × Option (List Int))) (f := fun s : Int × List (Int × Option (List Int)) => (f34.l1 w s.1 s.2).run) (n := w.Labels.length) (fun i a => ((i : Int), a))
    (fun i a => ∀ x, lookJ a x = firstL (w.Labels.take i) x ∧ (mapGet a x).isSome = (w.Labels.take i).any (fun n => n.ID == x)) (fun q => ∃ m, q = .a m ∧ ∀ x, lookJ m x = firstL w.Labels x)
    (fun i a hi ha => by
      have hx := List.getElem?_eq_getElem hi
      have htk := List.take_succ_eq_append_getElem hi
      rw [htk]
      generalize w.Labels[i] = n at hx
      have han := (ha n.ID).2
      simp only [f34.l1, r_brr, L_eq w.Labels, cast_lt_t hi, br_t, getR_s hx, r_lookK, succ_wr hi (by omega)]
      cases hany : (w.Labels.take i).any (fun m => m.ID == n.ID) with
      | true =>
        rw [hany] at han
        rw [han, br_t, r_ret]
        refine .inl ⟨a, rfl, fun x => ?_⟩
        rw [firstL_snoc, List.any_append]
        by_cases h : (w.Labels.take i).any (fun m => m.ID == x) = true
        · rw [if_pos h, h]; exact ⟨(ha x).1, by rw [(ha x).2, h]; rfl⟩
        · have hne : n.ID ≠ x := fun e => h (by rw [← e]; exact hany)
          rw [if_neg h, if_neg hne]
          refine ⟨?_, by rw [(ha x).2]; simp [hne]⟩
          have h1 := (ha x).2
          rw [show (w.Labels.take i).any (fun m => m.ID == x) = false by simpa using h] at h1
          unfold lookJ
          cases hm : mapGet a x with
          | none => rfl
          | some o => rw [hm] at h1; cases h1
      | false =>
        rw [hany] at han
        rw [han, br_f, r_msetO, r_brr]
        have hget : ∀ (o : Option (List Int)) (a' : List (Int × Option (List Int))), (∀ y, mapGet a' y = if y = n.ID then some o else mapGet a y) → o = (if n.Label.length = 3 then some n.Label else none) →
            ∀ x, lookJ a' x = firstL (w.Labels.take i ++ [n]) x ∧ (mapGet a' x).isSome = (w.Labels.take i ++ [n]).any (fun m => m.ID == x) := by
          intro o a' ha' ho x
          rw [firstL_snoc, List.any_append]
          unfold lookJ
          rw [ha' x]
          by_cases e : x = n.ID
          · subst e
            rw [if_pos rfl, hany]
            simp [ho]
          · rw [if_neg e]
            by_cases h : (w.Labels.take i).any (fun m => m.ID == x) = true
            · rw [if_pos h, h]; exact ⟨(ha x).1, by rw [(ha x).2, h]; rfl⟩
            · rw [if_neg h, if_neg (fun h => e h.symm)]
              have h1 := (ha x).2
              rw [show (w.Labels.take i).any (fun m => m.ID == x) = false by simpa using h] at h1
              refine ⟨?_, by rw [h1, show (w.Labels.take i).any (fun m => m.ID == x) = false by simpa using h]; simp; exact fun h2 => e h2.symm⟩
              cases hm : mapGet a x with
              | none => rfl
              | some o => rw [hm] at h1; cases h1
        by_cases h3 : n.Label.length = 3
        · rw [show (((L n.Label : Nat) : Int) == 3) = true by rw [L_eq, h3]; rfl, br_t, r_msetO, r_ret]
          refine .inl ⟨_, rfl, hget (some n.Label) _ (fun y => ?_) (by rw [if_pos h3])⟩
          rw [mapGet_set, mapGet_set]
          by_cases e : y = n.ID
          · rw [if_pos e, if_pos e]
          · rw [if_neg e, if_neg e, if_neg e]
        · rw [show (((L n.Label : Nat) : Int) == 3) = false by rw [L_eq]; exact beq_eq_false_iff_ne.2 (by omega), br_f, r_ret]
          exact .inl ⟨_, rfl, hget none _ (fun y => mapGet_set _ _ _ _) (by rw [if_neg h3])⟩)
    (fun a ha => ⟨_, by simp only [f34.l1, r_brr, L_eq, cast_lt_f (Nat.lt_irrefl _), br_f, r_ret] <;> rfl, a, rfl, fun x => by have := (ha x).1; rw [List.take_length] at this; exact this⟩)
    (k := fuel) (by have := fuel_pos; omega) (a := ([] : List (Int × Option (List Int)))) (fun x => ⟨rfl, rfl⟩)
  have hq : loopN fuel (fun s : Int × List (Int × Option (List Int)) => (f34.l1 w s.1 s.2).run) ((0 : Int), ([] : List (Int × Option (List Int)))) = _ := hq
  refine ⟨m, ?_, h2⟩
  simp only [f34]
  rw [r_loop1, hq, bd_s, ex_a, r_ret]

theorem firstL_len {l : List Named} {x : Int} {a : List Int} (h : firstL l x = some a) : a.length = 3 := by
  unfold firstL at h
  split at h
  · split at h
    · cases h; assumption
    · cases h
  · cases h

end Frs
end Go.Fx.Gen
