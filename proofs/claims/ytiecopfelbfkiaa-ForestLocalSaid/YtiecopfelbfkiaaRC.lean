/- Package page: the view of a vertex; package forest: good views. -/
import Derived.Test.YtiecopfelbfkiaaRB
import Derived.Test.YtiecopfelbfkiaaQD
namespace Go.Fx.Gen
open Go.Fx Go.Proofs
set_option linter.unusedVariables false
namespace Frs
open Trd
variable {g : Graph}

theorem clone_ints {l : List Int} (hl : l.length < 1000000000) : (f51 l).run = some l := by
  simp only [f51]
  refine bothN_s (by rw [ap_s (by simp; unfold bigLen; omega), r_ret]; rfl) (fun h => h)

theorem find_run (hs : Small g) (hv : GV g) {x : Int} (h : InV g x) : ∃ v, v ∈ g.Vertices ∧ v.ID = x ∧ (f49 g x).run = some (v, true) := by
  have hsv := hs.v
  obtain ⟨b, b1, b2⟩ := valid_run hs
  have hb : b = true := b2.2 hv
  subst hb
  have k1 := loop_find (f := fun s => (f62v2.l1 g.Vertices x s).run) (l := g.Vertices) (fun i : Nat => (i : Int)) (fun a => a.ID == x) (fun i _ => (.a (i : Int) : Ex Int Unit Empty)) (.b ())
    (fun i a hi => by
      have hlt : i < g.Vertices.length := (List.getElem?_eq_some_iff.1 hi).1
      simp only [f62v2.l1, r_brr, L_eq, cast_lt_t hlt, br_t, getR_s hi, r_cl, show (f66 a x).run = some () from rfl, bd_s, succ_wr hlt (by omega), r_ret]
      rw [br_if])
    (by simp only [f62v2.l1, r_brr, L_eq, cast_lt_f (Nat.lt_irrefl _), br_f, r_ret]) (k := fuel) (by have := fuel_pos; omega)
  have k1 : loopN fuel (fun s => (f62v2.l1 g.Vertices x s).run) (0 : Int) = _ := k1
  simp only [f49, f62v2]
  rw [r_cl, r_loop2, k1, bd_s]
  cases hf : g.Vertices.findIdx? fun a => a.ID == x with
  | none =>
    rw [List.findIdx?_eq_none_iff] at hf
    obtain ⟨v, h1, h2⟩ := h
    have := hf v h1
    simp [h2] at this
  | some i =>
    rw [List.findIdx?_eq_some_iff_getElem] at hf
    obtain ⟨hi, h1, _⟩ := hf
    refine ⟨g.Vertices[i], List.getElem_mem hi, by simpa using h1, ?_⟩
    simp only [List.getElem?_eq_getElem hi]
    rw [ex_a, r_ret, bd_s, r_join1, r_brr, show decide ((i : Int) < 0) = false by simp, br_f, r_cl, b1, bd_s, r_ret, bd_s, ex_a, Bool.not_true, r_brr, br_f, getR_s (List.getElem?_eq_getElem hi), r_ret]

theorem arelab_run {ls : List Named} (hl : ls.length < 1000000000) (hA : (ls.map (·.ID)).Pairwise (· < ·)) (h : ∀ n ∈ ls, (0 ≤ n.ID ∧ n.ID ≤ 23) ∧ n.Label.length ≤ 64) : (f50 ls).run = some true := by
  obtain ⟨q, hq, rfl⟩ := loop_ix (A := Int) (f := fun s : Int × Int => (f50.l1 ls s.1 s.2).run) (n := ls.length) (fun i a => (a, (i : Int))) (fun i a => ∀ (j : Nat) (hj : j < ls.length), i ≤ j → a < ls[j].ID) (fun q => q = .b ())
    (fun i a hi ha => by
      have hx := List.getElem?_eq_getElem hi
      obtain ⟨h1, h2⟩ := h _ (List.getElem_mem hi)
      have h3 := ha i hi (Nat.le_refl _)
      simp only [f50.l1, r_brr, L_eq ls, cast_lt_t hi, br_t, getR_s hx, succ_wr hi (by omega)]
      rw [show decide (ls[i].ID ≤ a) = false by simp; omega, br_f, show decide (ls[i].ID ≥ 24) = false by simp; omega, br_f, show decide ((L ls[i].Label : Int) > 64) = false by rw [L_eq]; simp; omega, br_f, r_ret]
      refine .inl ⟨_, rfl, fun j hj hij => ?_⟩
      rw [List.pairwise_iff_getElem] at hA
      have := hA i j (by simpa using hi) (by simpa using hj) (by omega)
      simpa using this)
    (fun a ha => ⟨_, by simp only [f50.l1, r_brr, L_eq ls, cast_lt_f (Nat.lt_irrefl _), br_f, r_ret] <;> rfl, rfl⟩)
    (k := fuel) (by have := fuel_pos; omega) (a := (-1 : Int)) (fun j hj _ => by have := (h _ (List.getElem_mem hj)).1; omega)
  have hq : loopN fuel (fun s : Int × Int => (f50.l1 ls s.1 s.2).run) ((-1 : Int), (0 : Int)) = _ := hq
  simp only [f50]
  rw [r_loop2, hq, bd_s, ex_b, r_ret]

theorem atv2 (g : Graph) (x : Int) : (f48v2 g x).run = (f48 g.Vertices g.Edges x).run := by kernel_rfl

structure Labs (g : Graph) (ls : List Named) : Prop where
  ids : ls.map (·.ID) = g.Vertices.map (·.ID)
  len : ∀ n ∈ ls, n.Label.length ≤ 3
  rng : ∀ n ∈ ls, ∀ a ∈ n.Label, inI64 a

/-- A vertex that the view of another one tells of. -/
def NearV (g : Graph) (x y : Int) : Prop := y = x ∨ ∃ e ∈ atP g x, otherP e x = y

theorem view_run (hs : Small g) (hv : GV g) (he : g.Edges.length < 60000) {ls : List Named} (hl : Labs g ls) {x : Int} (h : InV g x) :
    ∃ w near, (f23 g ls x).run = some (w, 0) ∧ w.Vertex.ID = x ∧ w.Edges = atP g x ∧ w.Labels = ls.filter near ∧ ∀ n : Named, near n = true ↔ NearV g x n.ID := by
  have hg := vg_of hv
  have hse := hs.e
  have hsd := hs.d
  have hsv := hs.v
  have hln : ls.length = g.Vertices.length := by have := congrArg List.length hl.ids; simpa using this
  have hal := arelab_run (ls := ls) (by omega) (by rw [hl.ids]; exact hg.asc) (fun n hn => by
    have : n.ID ∈ g.Vertices.map (·.ID) := by rw [← hl.ids]; exact List.mem_map.2 ⟨n, hn, rfl⟩
    obtain ⟨v, hv', e⟩ := List.mem_map.1 this
    rw [← e]
    have := hl.len n hn
    exact ⟨hg.vid v hv', by omega⟩)
  obtain ⟨v, v1, v2, v3⟩ := find_run hs hv h
  have hat : (f48v2 g x).run = some (atP g x) := by rw [atv2, at_run hse]; rfl
  have hatl : (atP g x).length < 60000 := Nat.lt_of_le_of_lt (List.length_filter_le ..) he
  obtain ⟨nb, n1, n2, n3⟩ := next_run hatl x
  have hmem : ∀ y, y ∈ nb ++ [x] ↔ NearV g x y := by
    intro y
    rw [List.mem_append, n3, List.mem_singleton]
    unfold NearV
    constructor
    · rintro (⟨⟨e, h1, _, h2⟩, _⟩ | rfl)
      · exact .inr ⟨e, h1, h2⟩
      · exact .inl rfl
    · rintro (rfl | ⟨e, h1, h2⟩)
      · exact .inr rfl
      · by_cases hy : y = x
        · exact .inr hy
        · exact .inl ⟨⟨e, h1, (List.mem_filter.1 h1).2, h2⟩, hy⟩
  have hlen : (nb ++ [x]).length < 1000000000 := by simp; omega
  simp only [f23]
  rw [r_cl, v3, bd_s, r_join1, Bool.not_true, r_brr, br_f, r_cl, hal, bd_s, r_ret, bd_s, ex_a, Bool.not_true, r_brr, br_f, r_cl, clone_ints hsd, bd_s, r_cl, hat, bd_s, r_cl, n1, bd_s, ap_s (by simp; unfold bigLen; omega)]
  generalize nb ++ [x] = near at hmem hlen
  obtain ⟨q, hq, rfl⟩ := loop_ix (A := List Named) (f := fun s : Int × List Named => (f23.l1 ls near s.1 s.2).run) (n := ls.length) (fun i a => ((i : Int), a)) (fun i a => a = (ls.take i).filter fun n => decide (n.ID ∈ near)) (fun q => q = .a (ls.filter fun n => decide (n.ID ∈ near)))
    (fun i a hi ha => by
      have hx := List.getElem?_eq_getElem hi
      have htk := List.take_succ_eq_append_getElem hi
      have hal : a.length ≤ i := by rw [ha]; exact Nat.le_trans (List.length_filter_le ..) (by simp; omega)
      have hll := hl.len _ (List.getElem_mem hi)
      simp only [f23.l1, r_brr, L_eq, cast_lt_t hi, br_t, getR_s hx, r_cl, contains_run hlen, bd_s, succ_wr hi (by omega)]
      have e2 : ((ls.take (i + 1)).filter fun n => decide (n.ID ∈ near)) = a ++ if ls[i].ID ∈ near then [ls[i]] else [] := by
        rw [htk, List.filter_append, ← ha]
        by_cases h : ls[i].ID ∈ near
        · rw [if_pos h, List.filter_cons_of_pos (by simpa using h)]; rfl
        · rw [if_neg h, List.filter_cons_of_neg (by simpa using h)]; rfl
      by_cases h : ls[i].ID ∈ near
      · rw [decide_eq_true h, br_t, clone_ints (by omega), bd_s, ap_s (by simp; unfold bigLen; omega), r_ret]
        exact .inl ⟨_, rfl, by rw [e2, if_pos h]⟩
      · rw [decide_eq_false h, br_f, r_ret]
        exact .inl ⟨_, rfl, by rw [e2, if_neg h, List.append_nil]⟩)
    (fun a ha => ⟨_, by simp only [f23.l1, r_brr, L_eq, cast_lt_f (Nat.lt_irrefl _), br_f, r_ret] <;> rfl, by rw [ha, List.take_length]⟩)
    (k := fuel) (by have := fuel_pos; omega) (a := ([] : List Named)) (by simp)
  have hq : loopN fuel (fun s : Int × List Named => (f23.l1 ls near s.1 s.2).run) ((0 : Int), ([] : List Named)) = _ := hq
  rw [r_loop1, hq, bd_s, ex_a, r_ret]
  exact ⟨_, _, rfl, v2, rfl, rfl, fun n => by simpa using hmem n.ID⟩
end Frs
end Go.Fx.Gen
