/- Good views have Labels' labels, and only these. -/
import Derived.Test.YtiecopfelbfkiaaRD
namespace Go.Fx.Gen
open Go.Fx Go.Proofs
set_option linter.unusedVariables false
namespace Frs
open Trd
variable {g : Graph}

/-! Labels held against each other. -/
theorem ints_run {l l' : List Int} (hl : l.length < 1000000000) : (f17 l l').run = some (decide (l = l')) := by
  simp only [f17, r_brr]
  by_cases hlen : l.length = l'.length
  · rw [show ((L l : Int) != (L l' : Int)) = false by rw [L_eq, L_eq, hlen]; simp, br_f]
    obtain ⟨q, hq, hq2⟩ := loop_ix (A := Unit) (f := fun s : Int => (f17.l1 l l' s).run) (n := l.length) (fun i _ => (i : Int)) (fun i _ => ∀ j (h : j < l.length) (h' : j < l'.length), j < i → l[j] = l'[j])
      (fun q => (q = .b () ∧ l = l') ∨ (q = .a false ∧ l ≠ l'))
      (fun i _ hi ha => by
        have hi' : i < l'.length := by omega
        have hx := List.getElem?_eq_getElem hi
        have hx' := List.getElem?_eq_getElem hi'
        simp only [f17.l1, r_brr, L_eq, cast_lt_t hi, br_t, getR_s hx, getR_s hx', succ_wr hi (by omega), r_ret]
        by_cases e : l[i] = l'[i]
        · rw [show (l[i] != l'[i]) = false by simp [e], br_f]
          refine .inl ⟨(), rfl, fun j h h' hj => ?_⟩
          by_cases ej : j = i
          · subst ej; exact e
          · exact ha j h h' (by omega)
        · rw [show (l[i] != l'[i]) = true by simp [e], br_t]
          exact .inr ⟨_, rfl, .inr ⟨rfl, fun h => e (by subst h; rfl)⟩⟩)
      (fun _ ha => ⟨.b (), by simp only [f17.l1, r_brr, L_eq, cast_lt_f (Nat.lt_irrefl _), br_f, r_ret], .inl ⟨rfl, List.ext_getElem hlen fun j h h' => ha j h h' h⟩⟩)
      (k := fuel) (by have := fuel_pos; omega) (a := ()) (fun j _ _ h => by omega)
    have hq : loopN fuel (fun s : Int => (f17.l1 l l' s).run) (0 : Int) = _ := hq
    rw [r_loop2, hq, bd_s]
    rcases hq2 with ⟨rfl, h⟩ | ⟨rfl, h⟩
    · rw [ex_b, r_ret, decide_eq_true h]
    · rw [ex_a, r_ret, decide_eq_false h]
  · rw [show ((L l : Int) != (L l' : Int)) = true by rw [L_eq, L_eq]; simp; omega, br_t, r_ret, decide_eq_false (fun h => hlen (by rw [h]))]

theorem same_run {l l' : List Named} (hl : l.length < 1000000000) (hx : ∀ x ∈ l, x.Label.length < 1000000000) : ∃ b, (f9 l l').run = some b ∧ (b = true ↔ l = l') := by
  simp only [f9, r_brr]
  by_cases hlen : l.length = l'.length
  · rw [show ((L l : Int) != (L l' : Int)) = false by rw [L_eq, L_eq, hlen]; simp, br_f]
    obtain ⟨q, hq, hq2⟩ := loop_ix (A := Unit) (f := fun s : Int => (f9.l1 l l' s).run) (n := l.length) (fun i _ => (i : Int)) (fun i _ => ∀ j (h : j < l.length) (h' : j < l'.length), j < i → l[j] = l'[j])
      (fun q => (q = .b () ∧ l = l') ∨ (q = .a false ∧ l ≠ l'))
      (fun i _ hi ha => by
        have hi' : i < l'.length := by omega
        have hm := hx _ (List.getElem_mem hi)
        have hx := List.getElem?_eq_getElem hi
        have hx' := List.getElem?_eq_getElem hi'
        have inj : ∀ (h : l[i].ID = l'[i].ID) (h2 : l[i].Label = l'[i].Label), l[i] = l'[i] := by
          intro h h2
          generalize l[i] = a at *
          generalize l'[i] = b at *
          cases a; cases b; simp at h h2; rw [h, h2]
        simp only [f9.l1, r_brr, L_eq, cast_lt_t hi, br_t, getR_s hx, getR_s hx', succ_wr hi (by omega), r_ret, r_cl, ints_run hm, bd_s]
        by_cases e : l[i].ID = l'[i].ID
        · rw [show (l[i].ID != l'[i].ID) = false by simp [e], br_f]
          by_cases e2 : l[i].Label = l'[i].Label
          · rw [decide_eq_true e2, Bool.not_true, br_f]
            refine .inl ⟨(), rfl, fun j h h' hj => ?_⟩
            by_cases ej : j = i
            · subst ej; exact inj e e2
            · exact ha j h h' (by omega)
          · rw [decide_eq_false e2, Bool.not_false, br_t]
            exact .inr ⟨_, rfl, .inr ⟨rfl, fun h => e2 (by subst h; rfl)⟩⟩
        · rw [show (l[i].ID != l'[i].ID) = true by simp [e], br_t]
          exact .inr ⟨_, rfl, .inr ⟨rfl, fun h => e (by subst h; rfl)⟩⟩)
      (fun _ ha => ⟨.b (), by simp only [f9.l1, r_brr, L_eq, cast_lt_f (Nat.lt_irrefl _), br_f, r_ret], .inl ⟨rfl, List.ext_getElem hlen fun j h h' => ha j h h' h⟩⟩)
      (k := fuel) (by have := fuel_pos; omega) (a := ()) (fun j _ _ h => by omega)
    have hq : loopN fuel (fun s : Int => (f9.l1 l l' s).run) (0 : Int) = _ := hq
    rw [r_loop2, hq, bd_s]
    rcases hq2 with ⟨rfl, h⟩ | ⟨rfl, h⟩
    · rw [ex_b, r_ret]; exact ⟨true, rfl, by simp [h]⟩
    · rw [ex_a, r_ret]; exact ⟨false, rfl, by simp [h]⟩
  · rw [show ((L l : Int) != (L l' : Int)) = true by rw [L_eq, L_eq]; simp; omega, br_t, r_ret]
    exact ⟨false, rfl, by simp only [Bool.false_eq_true, false_iff]; intro h; exact hlen (by rw [h])⟩

theorem firstL_filter {l : List Named} {near : Named → Bool} {x : Int} (h : ∀ n : Named, n.ID = x → near n = true) : firstL (l.filter near) x = firstL l x := by
  unfold firstL
  rw [List.find?_filter]
  have : (fun a : Named => decide (near a = true ∧ (a.ID == x) = true)) = fun a => a.ID == x := by
    funext a
    by_cases e : a.ID = x
    · simp [h a e, e]
    · simp [e]
  rw [this]
theorem firstL_labs (hg : VG g) {x : Int} (hx : hasV g x = true) : firstL (labs g) x = some (lb g x) := by
  unfold firstL labs
  rw [List.find?_map]
  obtain ⟨v, hv, e⟩ := hasV_iff.1 hx
  have : g.Vertices.find? ((fun n : Named => n.ID == x) ∘ fun v => ⟨v.ID, lb g v.ID⟩) ≠ none := fun hn => by
    have := List.find?_eq_none.1 hn v hv
    simp [e] at this
  cases hf : g.Vertices.find? ((fun n : Named => n.ID == x) ∘ fun v => ⟨v.ID, lb g v.ID⟩) with
  | none => exact absurd hf this
  | some u =>
    have hu : u.ID = x := by have := List.find?_some hf; simpa using this
    simp only [Option.map_some, hu]
    exact if_pos rfl

theorem fitAll_congr {T T' : Int → Option (List Int)} {n : Int} {es : List Edge} (h0 : T n = T' n) (h : ∀ e ∈ es, T (otherP e n) = T' (otherP e n)) : FitAll T n es ↔ FitAll T' n es := by
  have key : ∀ {T T' : Int → Option (List Int)}, T n = T' n → (∀ e ∈ es, T (otherP e n) = T' (otherP e n)) → FitAll T n es → FitAll T' n es := by
    rintro T T' h0 h ⟨a0, a1, a2, k0, k1, k2, k3, k4, k5, k6⟩
    refine ⟨a0, a1, a2, h0 ▸ k0, k1, k2, k3, k4, fun e he => ?_, ?_⟩
    · obtain ⟨l0, l1, l2, m0, m1, m2⟩ := k5 e he
      exact ⟨l0, l1, l2, h e he ▸ m0, m1, m2⟩
    · have : downE T' a1 n es = downE T a1 n es := by
        unfold downE depT
        have : ∀ l : List Edge, (∀ e ∈ l, T (otherP e n) = T' (otherP e n)) → l.find? (fun e => (T' (otherP e n)).bind (fun l => l[1]?) == some (wr1 a1)) = l.find? (fun e => (T (otherP e n)).bind (fun l => l[1]?) == some (wr1 a1)) := by
          intro l
          induction l with
          | nil => intro _; rfl
          | cons a l ih =>
            intro hl
            rw [List.find?_cons, List.find?_cons, hl a (.head _), ih fun e he => hl e (.tail _ he)]
        exact this es h
      rw [this]; exact k6
  exact ⟨key h0 h, key h0.symm fun e he => (h e he).symm⟩

/-- All views of a graph are good. -/
theorem all_run (hs : Small g) (hv : GV g) (he : g.Edges.length < 60000) {ls : List Named} (hl : Labs g ls) :
    ∃ b, (f7 g ls).run = some b ∧ (b = true ↔ ∀ v ∈ g.Vertices, FitAll (firstL ls) v.ID (atP g v.ID)) := by
  have hg := vg_of hv
  have hsv := hs.v
  have hln : ls.length = g.Vertices.length := by have := congrArg List.length hl.ids; simpa using this
  obtain ⟨q, hq, hq2⟩ := loop_ix (A := Unit) (f := fun s : Int => (f7.l1 g ls s).run) (n := g.Vertices.length) (fun i _ => (i : Int)) (fun i _ => ∀ v ∈ g.Vertices.take i, FitAll (firstL ls) v.ID (atP g v.ID))
    (fun q => (q = .b () ∧ ∀ v ∈ g.Vertices, FitAll (firstL ls) v.ID (atP g v.ID)) ∨ (q = .a false ∧ ¬ ∀ v ∈ g.Vertices, FitAll (firstL ls) v.ID (atP g v.ID)))
    (fun i _ hi ha => by
      have hx := List.getElem?_eq_getElem hi
      have hm := List.getElem_mem hi
      have htk := List.take_succ_eq_append_getElem hi
      obtain ⟨w, near, w1, w2, w3, w4, w5⟩ := view_run hs hv he hl (x := g.Vertices[i].ID) ⟨_, hm, rfl⟩
      have hwl : w.Edges.length < 1000000000 := by rw [w3]; exact Nat.lt_of_le_of_lt (List.length_filter_le ..) (by omega)
      obtain ⟨b, b1, b2⟩ := good_run hv (w := w) (by rw [w3, w2]) (by rw [w2]; exact hg.vid _ hm) hwl (by rw [w4]; exact Nat.lt_of_le_of_lt (List.length_filter_le ..) (by omega))
      rw [w2, w3, w4, fitAll_congr (T' := firstL ls) (firstL_filter fun n hn => (w5 n).2 (.inl hn)) (fun e he' => firstL_filter fun n hn => (w5 n).2 (.inr ⟨e, he', hn.symm⟩))] at b2
      simp only [f7.l1, r_brr, L_eq, cast_lt_t hi, br_t, getR_s hx, r_cl, w1, bd_s, b1, succ_wr hi (by omega), r_ret]
      rw [show ((0 : Int) != 0) = false from rfl, br_f]
      cases b with
      | true =>
        rw [Bool.not_true, br_f]
        refine .inl ⟨(), rfl, fun v hv' => ?_⟩
        rw [htk, List.mem_append, List.mem_singleton] at hv'
        rcases hv' with h | rfl
        · exact ha v h
        · exact b2.1 rfl
      | false =>
        rw [Bool.not_false, br_t]
        refine .inr ⟨_, rfl, .inr ⟨rfl, fun h => ?_⟩⟩
        have := b2.2 (h _ hm)
        cases this)
    (fun _ ha => ⟨.b (), by simp only [f7.l1, r_brr, L_eq, cast_lt_f (Nat.lt_irrefl _), br_f, r_ret], .inl ⟨rfl, by rw [List.take_length] at ha; exact ha⟩⟩)
    (k := fuel) (by have := fuel_pos; omega) (a := ()) (by simp)
  have hq : loopN fuel (fun s : Int => (f7.l1 g ls s).run) (0 : Int) = _ := hq
  simp only [f7]
  rw [r_loop2, hq, bd_s]
  rcases hq2 with ⟨rfl, h⟩ | ⟨rfl, h⟩
  · rw [ex_b, r_ret]; exact ⟨true, rfl, by simp only [true_iff]; exact h⟩
  · rw [ex_a, r_ret]; exact ⟨false, rfl, by simp only [Bool.false_eq_true, false_iff]; exact h⟩
end Frs
end Go.Fx.Gen
