/- The forest's laws: an edge is added; views, and what is counted in them; connected vertices. -/
import Derived.Test.YtiecopfelbfkiaaGreatQF
namespace Go.Fx.Gen
open Go.Fx Go.Proofs
set_option linter.unusedVariables false
namespace Frs
open Trd
variable {g : Graph}

/-! An edge is added, the last one. -/
theorem clone_v {l : List Vertex} (hl : l.length < 1000000000) : (f27 l).run = some l := by
  simp only [f27]
  refine bothN_s (by rw [ap_s (by simp; unfold bigLen; omega), r_ret]; rfl) (fun h => h)
theorem clone_e {l : List Edge} (hl : l.length < 1000000000) : (f28v1 l).run = some l := by
  simp only [f28v1]
  refine bothN_s (by rw [ap_s (by simp; unfold bigLen; omega), r_ret]; rfl) (fun h => h)
theorem clone_d {l : List Int} (hl : l.length < 1000000000) : (f29 l).run = some l := by
  simp only [f29]
  refine bothN_s (by rw [ap_s (by simp; unfold bigLen; omega), r_ret]; rfl) (fun h => h)
theorem chg_run (p q : Int) : (f26 3 0 0 39 p q false 0 0 0 0).run = some true := by kernel_rfl
theorem cmp_run2 (a b : Int) : (f95v1 a b).run = some (if a < b then -1 else if a > b then 1 else 0) := by
  have : (f95v1 a b).run = (f95 a b).run := by kernel_rfl
  rw [this, cmp_run]
theorem has_run {l : List Vertex} (hl : l.length < 1000000000) (hA : Asc Vertex.ID l) (ds : List Int) (es : List Edge) {x : Int} (h : ∃ v ∈ l, v.ID = x) : (f52v3 x l ds es).run = some true := by
  obtain ⟨p, b, h1, h2⟩ := search_run hl hA x
  have hb : b = true := h2.2 h
  subst hb
  simp only [f52v3, f79v3, r_cl, h1, bd_s, r_ret]
theorem last_run {l : List Edge} (hl : l.length < 1000000000) {x : Int} (h : ∀ e ∈ l, e.ID < x) : (f93v1 x l).run = some ((l.length : Int), false) := by
  obtain ⟨r, h1, rfl⟩ := loop_of (f := fun s : Int × Int => (f93v1.l1 x l s.1 s.2).run)
    (fun s => ∃ i : Nat, s = ((i : Int), (l.length : Int)) ∧ i ≤ l.length) (fun r => r = .a (l.length : Int)) (fun s => (s.2 - s.1).toNat)
    (by
      rintro _ ⟨i, rfl, h1⟩
      simp only [f93v1.l1, r_brr]
      by_cases hij : i < l.length
      · have hm : (i + l.length) / 2 < l.length := by omega
        have hx : l[(i + l.length) / 2]? = some l[(i + l.length) / 2] := by simp [hm]
        have hlt := h _ (List.getElem_mem hm)
        have w : IntKind.i64.wrap ((((i + l.length) / 2 : Nat) : Int) + 1) = (((i + l.length) / 2 + 1 : Nat) : Int) := by rw [wr]; omega
        rw [cast_lt_t hij, br_t]
        simp only [mid_wr (show i < 1000000000 by omega) (show l.length < 1000000000 by omega)]
        rw [ck_t (by rw [L_eq]; omega), at0_nat, rd_s hx]
        simp only [w, f94, r_cl, cmp_run2, bd_s, r_ret]
        rw [if_pos hlt]
        refine .inl ⟨_, by rw [show decide ((-1 : Int) < 0) = true from rfl, r_brr, br_t, r_ret], ⟨(i + l.length) / 2 + 1, rfl, by omega⟩, by simp; omega⟩
      · obtain rfl : i = l.length := by omega
        exact .inr ⟨_, by simp only [cast_lt_f hij, br_f, r_ret] <;> rfl, rfl⟩)
    fuel ((0 : Int), (l.length : Int)) ⟨0, rfl, Nat.zero_le _⟩ (by have := fuel_pos; simp; omega)
  simp only [f93v1, L_eq]
  rw [r_loop1, h1, bd_s, ex_a, r_brr, cast_lt_f (Nat.lt_irrefl _), br_f, r_ret]

/-- The edge that the law adds. -/
abbrev newE (p q : Int) : Edge := ⟨39, p, q, false, 0, 0⟩
def addE (g : Graph) (p q : Int) : Graph := ⟨g.Vertices, g.Edges ++ [newE p q], g.Depots⟩

theorem ids39 (hv : GV g) (hn : ∀ e ∈ g.Edges, e.ID ≠ 39) : ∀ e ∈ g.Edges, e.ID < 39 := fun e he => by
  have := (hv.e e he).1.id
  have := hn e he
  omega

theorem asc_snoc {α : Type} {key : α → Int} {l : List α} {x : α} (h : Asc key l) (hx : ∀ e ∈ l, key e < key x) : Asc key (l ++ [x]) := by
  intro i j hi hj hij
  have hj' : j < l.length + 1 := by simpa using hj
  have hi' : i < l.length := by omega
  rw [List.getElem_append_left hi']
  by_cases h' : j < l.length
  · rw [List.getElem_append_left h']; exact h i j hi' h' hij
  · rw [List.getElem_append_right (by omega)]
    simp only [List.getElem_singleton]
    exact hx _ (List.getElem_mem hi')
theorem gv_add (hv : GV g) (hn : ∀ e ∈ g.Edges, e.ID ≠ 39) {p q : Int} (hp : InV g p) (hq : InV g q) : GV (addE g p q) := by
  have h39 := ids39 hv hn
  have rng : ∀ x, InV g x → 0 ≤ x ∧ x ≤ 23 := by
    rintro x ⟨v, hv', rfl⟩
    exact (hv.v v hv').id
  refine ⟨hv.va, asc_snoc hv.ea h39, hv.da, hv.v, ?_, hv.d, hv.dn⟩
  · intro e he
    have he : e ∈ g.Edges ++ [newE p q] := he
    rw [List.mem_append, List.mem_singleton] at he
    rcases he with he | rfl
    · exact hv.e e he
    · exact ⟨⟨by show (0 : Int) ≤ 39 ∧ (39 : Int) ≤ 39; decide, rng p hp, rng q hq, by show (-1000 : Int) ≤ 0 ∧ (0 : Int) ≤ 1000; decide, by show (0 : Int) ≤ 0 ∧ (0 : Int) ≤ 1000; decide⟩, hp, hq⟩

theorem add_run (hs : Small g) (hv : GV g) (hn : ∀ e ∈ g.Edges, e.ID ≠ 39) {p q : Int} (hp : InV g p) (hq : InV g q) : (f11 g 3 0 0 39 p q false 0 0 0 0).run = some (addE g p q, 0) := by
  obtain ⟨b, b1, b2⟩ := valid_run hs
  have hb : b = true := b2.2 hv
  subst hb
  have hsv := hs.v
  have hse := hs.e
  have hsd := hs.d
  have rng : ∀ x, InV g x → 0 ≤ x ∧ x ≤ 23 := by
    rintro x ⟨v, hv', rfl⟩
    exact (hv.v v hv').id
  have rp := rng p hp
  have rq := rng q hq
  have hacts : ∃ m, f32.run = some m ∧ mapGet m 3 = some ⟨64⟩ := ⟨_, rfl, rfl⟩
  obtain ⟨m, m1, m2⟩ := hacts
  have hok : (f51v1 (newE p q)).run = some true := by
    simp only [f51v1, f70, r_cl, r_ret, bd_s, r_brr]
    have e1 : ((decide ((0 : Int) ≤ p)) && (decide (p ≤ (23 : Int)))) = true := by simp; omega
    have e2 : ((decide ((0 : Int) ≤ q)) && (decide (q ≤ (23 : Int)))) = true := by simp; omega
    rw [e1, e2]
    rfl
  have hins : (f66v1 (g.Edges.length : Int) [newE p q] g.Edges).run = some (g.Edges ++ [newE p q]) := by
    simp only [f66v1, L_eq]
    rw [r_bLo, chk_t (by omega), bd_s, r_brr, show (((([newE p q] : List Edge).length : Nat) : Int) == 0) = false from rfl, br_f, r_brr, show (((g.Edges.length : Nat) : Int) == (g.Edges.length : Int)) = true by simp, br_t, ap_s (by simp; unfold bigLen; omega), r_ret]
  have hact : (f30v1 3 0 0 39 p q false 0 0 0 0 g.Vertices g.Depots g.Edges).run = some ⟨addE g p q⟩ := by
    simp only [f30v1, f31v1]
    rw [r_cl, m1, bd_s]
    show bd (chk (mapGet m 3 = some ⟨64⟩)) _ = _
    rw [chk_t m2, bd_s]
    simp only [f64v1, f65v1]
    rw [r_cl, r_cl, r_cl, last_run hse (ids39 hv hn), bd_s, r_ret, bd_s, r_join1, r_brr, Bool.not_false, br_t, r_cl, hok, bd_s, r_brr, br_t, r_cl, has_run hsv hv.va _ _ hp, bd_s, r_brr, br_t, r_cl, has_run hsv hv.va _ _ hq, bd_s]
    rw [r_cl, show (f62 true).run = some () from rfl, bd_s, r_ret, bd_s, ex_a, r_cl, hins, bd_s, r_ret, bd_s, r_ret]
    rfl
  simp only [f11]
  rw [r_join1, r_cl, b1, bd_s, r_brr, Bool.not_true, br_f, r_cl, chg_run, bd_s, r_ret, bd_s, ex_a, Bool.not_true, r_brr, br_f, r_cl, clone_v hsv, bd_s, r_cl, clone_e hse, bd_s, r_cl, clone_d hsd, bd_s, r_cl, hact, bd_s]
  rfl
theorem more_add (p q : Int) : More g (addE g p q) (newE p q) := ⟨rfl, rfl⟩

/-! What a view has. -/
theorem mapGet_set {α : Type} : ∀ (m : List (Int × α)) (x : Int) (v : α) (y : Int), mapGet (mapSet m x v) y = if y = x then some v else mapGet m y
  | [], x, v, y => by
    by_cases e : y = x
    · subst e; simp [mapSet, mapGet]
    · simp only [mapSet, mapGet, if_neg e, if_neg (fun h : x = y => e h.symm)]
  | (k, u) :: r, x, v, y => by
    unfold mapSet
    by_cases e : k = x
    · subst e
      rw [if_pos rfl]
      by_cases e2 : y = k
      · subst e2; simp [mapGet]
      · simp only [mapGet, if_neg (fun h : k = y => e2 h.symm), if_neg e2]
    · rw [if_neg e]
      unfold mapGet
      by_cases e2 : k = y
      · rw [if_pos e2, if_pos e2, if_neg (by rw [← e2]; exact e)]
      · rw [if_neg e2, if_neg e2, mapGet_set r x v y]

/-- The first label of a vertex, if it is one of three numbers. -/
def firstL (l : List Named) (x : Int) : Option (List Int) := match l.find? fun n => n.ID == x with
  | some n => if n.Label.length = 3 then some n.Label else none
  | none => none

theorem firstL_snoc (l : List Named) (n : Named) (x : Int) : firstL (l ++ [n]) x = if l.any (fun m => m.ID == x) then firstL l x else if n.ID = x then (if n.Label.length = 3 then some n.Label else none) else none := by
  unfold firstL
  rw [List.find?_append]
  by_cases h : l.any (fun m => m.ID == x) = true
  · rw [if_pos h]
    obtain ⟨m, hm, he⟩ := List.any_eq_true.1 h
    cases hf : l.find? fun n => n.ID == x with
    | none => have := List.find?_eq_none.1 hf m hm; exact absurd he this
    | some a => rfl
  · rw [if_neg h]
    have : l.find? (fun n => n.ID == x) = none := List.find?_eq_none.2 fun m hm he => h (List.any_eq_true.2 ⟨m, hm, he⟩)
    rw [this, Option.none_or, List.find?_cons]
    by_cases e : n.ID = x
    · rw [if_pos e, beq_iff_eq.2 e]
    · rw [if_neg e, beq_eq_false_iff_ne.2 e]; rfl

theorem seen_run {w : View} (hl : w.Labels.length < 1000000000) : ∃ m, (f34 w).run = some m ∧ ∀ x, lookJ m x = firstL w.Labels x := by
  obtain ⟨q, hq, m, rfl, h2⟩ := loop_ix (A := List (Int × Option (List Int))) (f := fun s : Int × List (Int × Option (List Int)) => (f34.l1 w s.1 s.2).run) (n := w.Labels.length) (fun i a => ((i : Int), a))
    (fun i a => ∀ x, lookJ a x = firstL (w.Labels.take i) x ∧ (mapGet a x).isSome = (w.Labels.take i).any (fun n => n.ID == x)) (fun q => ∃ m, q = .a m ∧ ∀ x, lookJ m x = firstL w.Labels x)
    (fun i a hi ha => by
      have hx := List.getElem?_eq_getElem hi
      have htk := List.take_succ_eq_append_getElem hi
      rw [htk]
      generalize w.Labels[i] = n at hx
      have han := (ha n.ID).2
      simp only [f34.l1, r_brr, L_eq w.Labels, cast_lt_t hi, br_t, getR_s hx, r_lookK, succ_wr hi (by omega)]
      cases hany : (w.Labels.take i).any (fun m => m.ID == n.ID) with
      | true =>
        rw [hany] at han
        rw [han, br_t, r_ret]
        refine .inl ⟨a, rfl, fun x => ?_⟩
        rw [firstL_snoc, List.any_append]
        by_cases h : (w.Labels.take i).any (fun m => m.ID == x) = true
        · rw [if_pos h, h]; exact ⟨(ha x).1, by rw [(ha x).2, h]; rfl⟩
        · have hne : n.ID ≠ x := fun e => h (by rw [← e]; exact hany)
          rw [if_neg h, if_neg hne]
          refine ⟨?_, by rw [(ha x).2]; simp [hne]⟩
          have h1 := (ha x).2
          rw [show (w.Labels.take i).any (fun m => m.ID == x) = false by simpa using h] at h1
          unfold lookJ
          cases hm : mapGet a x with
          | none => rfl
          | some o => rw [hm] at h1; cases h1
      | false =>
        rw [hany] at han
        rw [han, br_f, r_msetO, r_brr]
        have hget : ∀ (o : Option (List Int)) (a' : List (Int × Option (List Int))), (∀ y, mapGet a' y = if y = n.ID then some o else mapGet a y) → o = (if n.Label.length = 3 then some n.Label else none) →
            ∀ x, lookJ a' x = firstL (w.Labels.take i ++ [n]) x ∧ (mapGet a' x).isSome = (w.Labels.take i ++ [n]).any (fun m => m.ID == x) := by
          intro o a' ha' ho x
          rw [firstL_snoc, List.any_append]
          unfold lookJ
          rw [ha' x]
          by_cases e : x = n.ID
          · subst e
            rw [if_pos rfl, hany]
            simp [ho]
          · rw [if_neg e]
            by_cases h : (w.Labels.take i).any (fun m => m.ID == x) = true
            · rw [if_pos h, h]; exact ⟨(ha x).1, by rw [(ha x).2, h]; rfl⟩
            · rw [if_neg h, if_neg (fun h => e h.symm)]
              have h1 := (ha x).2
              rw [show (w.Labels.take i).any (fun m => m.ID == x) = false by simpa using h] at h1
              refine ⟨?_, by rw [h1, show (w.Labels.take i).any (fun m => m.ID == x) = false by simpa using h]; simp; exact fun h2 => e h2.symm⟩
              cases hm : mapGet a x with
              | none => rfl
              | some o => rw [hm] at h1; cases h1
        by_cases h3 : n.Label.length = 3
        · rw [show (((L n.Label : Nat) : Int) == 3) = true by rw [L_eq, h3]; rfl, br_t, r_msetO, r_ret]
          refine .inl ⟨_, rfl, hget (some n.Label) _ (fun y => ?_) (by rw [if_pos h3])⟩
          rw [mapGet_set, mapGet_set]
          by_cases e : y = n.ID
          · rw [if_pos e, if_pos e]
          · rw [if_neg e, if_neg e, if_neg e]
        · rw [show (((L n.Label : Nat) : Int) == 3) = false by rw [L_eq]; exact beq_eq_false_iff_ne.2 (by omega), br_f, r_ret]
          exact .inl ⟨_, rfl, hget none _ (fun y => mapGet_set _ _ _ _) (by rw [if_neg h3])⟩)
    (fun a ha => ⟨_, by simp only [f34.l1, r_brr, L_eq, cast_lt_f (Nat.lt_irrefl _), br_f, r_ret] <;> rfl, a, rfl, fun x => by have := (ha x).1; rw [List.take_length] at this; exact this⟩)
    (k := fuel) (by have := fuel_pos; omega) (a := ([] : List (Int × Option (List Int)))) (fun x => ⟨rfl, rfl⟩)
  have hq : loopN fuel (fun s : Int × List (Int × Option (List Int)) => (f34.l1 w s.1 s.2).run) ((0 : Int), ([] : List (Int × Option (List Int)))) = _ := hq
  refine ⟨m, ?_, h2⟩
  simp only [f34]
  rw [r_loop1, hq, bd_s, ex_a, r_ret]

theorem firstL_len {l : List Named} {x : Int} {a : List Int} (h : firstL l x = some a) : a.length = 3 := by
  unfold firstL at h
  split at h
  · split at h
    · cases h; assumption
    · cases h
  · cases h

theorem count_run {w : View} (hl : w.Labels.length < 1000000000) {a b c : Int} (h : firstL w.Labels w.Vertex.ID = some [a, b, c]) : (f13 w).run = some (if b = 0 then 1 else 0) := by
  obtain ⟨m, m1, m2⟩ := seen_run hl
  have hj := m2 w.Vertex.ID
  rw [h] at hj
  simp only [f13]
  rw [r_cl, m1, bd_s, r_ask, hj, Option.isSome_some, br_t, r_lookL, hj, bd_s]
  show bd (chk (([a, b, c] : List Int).isEmpty = false)) _ = _
  rw [chk_t (show ([a, b, c] : List Int).isEmpty = false from rfl), bd_s, r_brr, br_t, r_getR, show gi [a, b, c] (1 : Int) = some b from rfl, bd_s, r_brr, r_ret, r_ret, br_if]
  by_cases e : b = 0 <;> simp [e]

/-! Views. -/
def otherQ (e : Edge) (x : Int) : Int := if e.From = x then e.To else if e.To = x then e.From else -1
theorem otherQ_run (e : Edge) (x : Int) : (f37v1 e x).run = some (otherQ e x) := by
  simp only [f37v1, r_brr, r_ret, br_if, beq_iff_eq]
  unfold otherQ
  split
  · rfl
  · split <;> rfl
def nearB (es : List Edge) (x : Int) (n : Named) : Bool := n.ID == x || es.any fun e => otherQ e x == n.ID

theorem near_run {es : List Edge} (he : es.length < 1000000000) {l : List Named} {i : Nat} {n : Named} (hx : l[i]? = some n) (x : Int) :
    loopN fuel (fun s : Bool × Int => (f14v1.l1 l x es (i : Int) s.1 s.2).run) (n.ID == x, (0 : Int)) = some (.a (nearB es x n)) := by
  obtain ⟨q, hq, rfl⟩ := loop_ix (A := Bool) (f := fun s : Bool × Int => (f14v1.l1 l x es (i : Int) s.1 s.2).run) (n := es.length) (fun j b => (b, (j : Int))) (fun j b => b = (n.ID == x || (es.take j).any fun e => otherQ e x == n.ID)) (fun q => q = .a (nearB es x n))
    (fun j b hj hb => by
      have hy := List.getElem?_eq_getElem hj
      have htk : (es.take (j + 1)).any (fun e => otherQ e x == n.ID) = ((es.take j).any (fun e => otherQ e x == n.ID) || (otherQ es[j] x == n.ID)) := by
        rw [List.take_succ_eq_append_getElem hj, List.any_append]; simp
      simp only [f14v1.l1, r_brr, L_eq, cast_lt_t hj, br_t, succ_wr hj (by omega)]
      cases b with
      | true => rw [br_t, r_ret]; exact .inl ⟨_, rfl, by rw [htk, ← Bool.or_assoc, ← hb]; rfl⟩
      | false =>
        rw [br_f, getR_s hy, r_cl, otherQ_run, bd_s, getR_s hx, r_ret]
        exact .inl ⟨_, rfl, by rw [htk, ← Bool.or_assoc, ← hb]; simp⟩)
    (fun b hb => ⟨_, by simp only [f14v1.l1, r_brr, L_eq, cast_lt_f (Nat.lt_irrefl _), br_f, r_ret] <;> rfl, by rw [hb, List.take_length]; rfl⟩)
    (k := fuel) (by have := fuel_pos; omega) (a := (n.ID == x)) (by simp)
  exact hq

theorem atv_run (hs : Small g) (x : Int) : ∃ es, (f36v1 g x).run = some es ∧ es.length ≤ g.Edges.length := by
  have hse := hs.e
  obtain ⟨q, hq, es, rfl, h2⟩ := loop_ix (A := List Edge) (f := fun s : Int × List Edge => (f36v1.l1 g x s.1 s.2).run) (n := g.Edges.length) (fun i a => ((i : Int), a)) (fun i a => a.length ≤ i) (fun q => ∃ es, q = .a es ∧ es.length ≤ g.Edges.length)
    (fun i a hi ha => by
      have hx := List.getElem?_eq_getElem hi
      have e1 : br (g.Edges[i].From == x) (some (Ex.a true)) (some (Ex.a (g.Edges[i].To == x))) = some (Ex.a (atB x g.Edges[i]) : Ex Bool Empty Empty) := by unfold atB; cases (g.Edges[i].From == x) <;> rfl
      simp only [f36v1.l1, r_brr, L_eq, cast_lt_t hi, br_t, getR_s hx, r_join1, r_ret, e1, bd_s, ex_a, succ_wr hi (by omega)]
      cases atB x g.Edges[i] with
      | true => rw [br_t, ap_s (by simp; unfold bigLen; omega), r_ret]; exact .inl ⟨_, rfl, by simp; omega⟩
      | false => rw [br_f]; exact .inl ⟨_, rfl, by omega⟩)
    (fun a ha => ⟨_, by simp only [f36v1.l1, r_brr, L_eq, cast_lt_f (Nat.lt_irrefl _), br_f, r_ret] <;> rfl, a, rfl, ha⟩)
    (k := fuel) (by have := fuel_pos; omega) (a := ([] : List Edge)) (by simp)
  have hq : loopN fuel (fun s : Int × List Edge => (f36v1.l1 g x s.1 s.2).run) ((0 : Int), ([] : List Edge)) = _ := hq
  refine ⟨es, ?_, h2⟩
  simp only [f36v1]
  rw [r_loop1, hq, bd_s, ex_a, r_ret]

theorem place_run (hs : Small g) {x : Int} (h : InV g x) : ∃ (i : Nat) (v : Vertex), (f35v1 g x).run = some (i : Int) ∧ g.Vertices[i]? = some v ∧ v.ID = x := by
  have hl := hs.v
  have key : loopN fuel (fun s => (f35v1.l1 g x s).run) (0 : Int) = _ := loop_find (l := g.Vertices) (fun i : Nat => (i : Int)) (fun v => v.ID == x) (fun i _ => (.a (i : Int) : Ex Int Unit Empty)) (.b ())
    (fun i v hi => by
      have hlt : i < g.Vertices.length := (List.getElem?_eq_some_iff.1 hi).1
      simp only [f35v1.l1, r_brr, L_eq, cast_lt_t hlt, br_t, getR_s hi, succ_wr hlt (by omega), r_ret]
      rw [br_if])
    (by simp only [f35v1.l1, r_brr, L_eq, cast_lt_f (Nat.lt_irrefl _), br_f, r_ret]) (k := fuel) (by have := fuel_pos; omega)
  simp only [f35v1]
  cases hf : g.Vertices.findIdx? fun v => v.ID == x with
  | none =>
    obtain ⟨v, hv, e⟩ := h
    have := List.findIdx?_eq_none_iff.1 hf v hv
    simp [e] at this
  | some i =>
    obtain ⟨h1, h2, _⟩ := List.findIdx?_eq_some_iff_getElem.1 hf
    have hx := List.getElem?_eq_getElem h1
    refine ⟨i, _, ?_, hx, by simpa using h2⟩
    rw [r_loop2, key, bd_s, hf]
    simp only [hx, ex_a, r_ret]

theorem view_run (hs : Small g) {l : List Named} (hl : l.length < 1000000000) (hll : ∀ n ∈ l, n.Label.length < 1000000000) {x : Int} (h : InV g x) :
    ∃ (w : View) (near : Named → Bool), (f14v1 g l x).run = some w ∧ w.Vertex.ID = x ∧ w.Labels = l.filter near ∧ ∀ n, n.ID = x → near n = true := by
  have hsd := hs.d
  have hse := hs.e
  obtain ⟨i, v, p1, p2, p3⟩ := place_run hs h
  obtain ⟨es, a1, a2⟩ := atv_run hs x
  obtain ⟨q, hq, rfl⟩ := loop_ix (A := List Named) (f := fun s : Int × List Named => (f14v1.l2 l x g.Depots es (v.ID, v.Side) s.1 s.2).run) (n := l.length) (fun i a => ((i : Int), a)) (fun i a => a = (l.take i).filter (nearB es x)) (fun q => q = .a (l.filter (nearB es x)))
    (fun i a hi ha => by
      have hx := List.getElem?_eq_getElem hi
      have hlab := hll _ (List.getElem_mem hi)
      have htk := List.take_succ_eq_append_getElem hi
      have hal : a.length ≤ i := by rw [ha]; exact Nat.le_trans (List.length_filter_le ..) (by simp; omega)
      rw [htk, List.filter_append, ← ha]
      generalize l[i] = n at hx hlab
      simp only [f14v1.l2, r_brr, L_eq, cast_lt_t hi, br_t, getR_s hx, r_loop1, near_run (show es.length < 1000000000 by omega) hx, bd_s, ex_a, succ_wr hi (by omega)]
      cases hn : nearB es x n with
      | true =>
        rw [br_t, ap_s (by simp; unfold bigLen; omega), ap_s (by simp; unfold bigLen; omega), r_ret]
        exact .inl ⟨_, rfl, by rw [List.filter_cons_of_pos hn]; rfl⟩
      | false =>
        rw [br_f]
        exact .inl ⟨_, rfl, by rw [List.filter_cons_of_neg (by simp [hn])]; simp⟩)
    (fun a ha => ⟨_, by simp only [f14v1.l2, r_brr, L_eq, cast_lt_f (Nat.lt_irrefl _), br_f, r_ret] <;> rfl, by rw [ha, List.take_length]⟩)
    (k := fuel) (by have := fuel_pos; omega) (a := ([] : List Named)) (by simp)
  have hq : loopN fuel (fun s : Int × List Named => (f14v1.l2 l x g.Depots es (v.ID, v.Side) s.1 s.2).run) ((0 : Int), ([] : List Named)) = _ := hq
  refine ⟨⟨⟨v.ID, v.Side⟩, g.Depots, es, l.filter (nearB es x)⟩, nearB es x, ?_, p3, rfl, fun n hn => by unfold nearB; simp [hn]⟩
  simp only [f14v1]
  rw [r_cl, p1, bd_s, ap_s (by simp; unfold bigLen; omega), List.nil_append, r_cl, a1, bd_s, r_join1, r_brr, show decide ((i : Int) ≥ 0) = true from decide_eq_true (by omega), br_t, getR_s p2, r_ret, bd_s, ex_a, r_loop1, hq, bd_s, ex_a, r_ret]

theorem firstL_filter {l : List Named} {near : Named → Bool} {x : Int} (h : ∀ n, n.ID = x → near n = true) : firstL (l.filter near) x = firstL l x := by
  unfold firstL
  rw [List.find?_filter]
  have : (fun a : Named => decide (near a = true ∧ (a.ID == x) = true)) = fun a => a.ID == x := by
    funext a
    by_cases e : a.ID = x
    · simp [h a e, e]
    · simp [e]
  rw [this]
theorem firstL_labs (hg : VG g) {x : Int} (hx : hasV g x = true) : firstL (labs g) x = some (lb g x) := by
  unfold firstL labs
  rw [List.find?_map]
  obtain ⟨v, hv, e⟩ := hasV_iff.1 hx
  have : g.Vertices.find? ((fun n : Named => n.ID == x) ∘ fun v => ⟨v.ID, lb g v.ID⟩) ≠ none := fun hn => by
    have := List.find?_eq_none.1 hn v hv
    simp [e] at this
  cases hf : g.Vertices.find? ((fun n : Named => n.ID == x) ∘ fun v => ⟨v.ID, lb g v.ID⟩) with
  | none => exact absurd hf this
  | some u =>
    have hu : u.ID = x := by have := List.find?_some hf; simpa using this
    simp only [Option.map_some, hu]
    exact if_pos rfl

theorem cv_run (hs : Small g) (hv : GV g) {x : Int} (h : InV g x) : ∃ w, (f14v1 g (labs g) x).run = some w ∧ (f13 w).run = some (if dp g x = 0 then 1 else 0) := by
  have hg := vg_of hv
  have hsv := hs.v
  have hll : (labs g).length = g.Vertices.length := labs_len g
  obtain ⟨w, near, w1, w2, w3, w4⟩ := view_run hs (l := labs g) (by omega) (fun n hn => by unfold labs at hn; obtain ⟨v, _, rfl⟩ := List.mem_map.1 hn; simp [lb]) h
  refine ⟨w, w1, ?_⟩
  have hlen : w.Labels.length < 1000000000 := by rw [w3]; exact Nat.lt_of_le_of_lt (List.length_filter_le ..) (by omega)
  exact count_run hlen (a := rt g x) (c := ed g x) (by rw [w2, w3, firstL_filter w4]; exact firstL_labs hg (hasV_iff.2 h))

/-! Connected vertices. -/
theorem contains_run {l : List Vertex} (hl : l.length < 1000000000) {x : Int} (h : ∃ v ∈ l, v.ID = x) : (f53v1 l x).run = some true := by
  have key : loopN fuel (fun s => (f88v1.l1 l x s).run) (0 : Int) = _ := loop_find (l := l) (fun i : Nat => (i : Int)) (fun v => v.ID == x) (fun i _ => (.a (i : Int) : Ex Int Unit Empty)) (.b ())
    (fun i v hi => by
      have hlt : i < l.length := (List.getElem?_eq_some_iff.1 hi).1
      simp only [f88v1.l1, r_brr, L_eq, cast_lt_t hlt, br_t, getR_s hi, r_cl, f82, succ_wr hlt (by omega), r_ret, bd_s]
      rw [br_if])
    (by simp only [f88v1.l1, r_brr, L_eq, cast_lt_f (Nat.lt_irrefl _), br_f, r_ret]) (k := fuel) (by have := fuel_pos; omega)
  have : (f88v1 l x).run = some (((l.findIdx? fun v => v.ID == x).getD 0 : Nat) : Int) := by
    simp only [f88v1]
    rw [r_loop2, key, bd_s]
    cases hf : l.findIdx? fun v => v.ID == x with
    | none =>
      obtain ⟨v, hv, e⟩ := h
      have := List.findIdx?_eq_none_iff.1 hf v hv
      simp [e] at this
    | some i =>
      obtain ⟨h1, h2, _⟩ := List.findIdx?_eq_some_iff_getElem.1 hf
      have hx := List.getElem?_eq_getElem h1
      simp only [hx, ex_a, r_ret, Option.getD_some]
  simp only [f53v1]
  rw [r_cl, this, bd_s, r_ret, show decide ((((l.findIdx? fun v => v.ID == x).getD 0 : Nat) : Int) ≥ 0) = true from decide_eq_true (by omega)]

theorem known_run (hs : Small g) (hv : GV g) {p q : Int} (hp : InV g p) (hq : InV g q) : (f33v1 g [p, q]).run = some true := by
  obtain ⟨b, b1, b2⟩ := valid_run hs
  have hb : b = true := b2.2 hv
  subst hb
  have h81 : ∀ x, InV g x → (f81v1 x g).run = some false := fun x hx => by
    simp only [f81v1]
    rw [r_cl, contains_run hs.v hx, bd_s, r_ret]; rfl
  obtain ⟨r, hr, rfl⟩ := loop_ix (A := Unit) (f := fun s => (f100v4.l1 [p, q] g s).run) (n := 2) (fun i _ => (i : Int)) (fun _ _ => True) (fun r => r = .b ())
    (fun i _ hi _ => by
      have hx : ∃ y, ([p, q] : List Int)[i]? = some y ∧ InV g y := by
        match i, hi with
        | 0, _ => exact ⟨p, rfl, hp⟩
        | 1, _ => exact ⟨q, rfl, hq⟩
      obtain ⟨y, y1, y2⟩ := hx
      simp only [f100v4.l1, r_brr, L_eq]
      rw [show decide ((i : Int) < ((([p, q] : List Int).length : Nat) : Int)) = true from decide_eq_true (by simp; omega), br_t, getR_s y1, r_cl, h81 y y2, bd_s, r_brr, br_f, r_ret, succ_wr hi (by omega)]
      exact .inl ⟨(), rfl, trivial⟩)
    (fun _ _ => ⟨.b (), by simp only [f100v4.l1, r_brr, L_eq]; rfl, rfl⟩)
    (k := fuel) (by have := fuel_pos; omega) (a := ()) trivial
  have hr : loopN fuel (fun s => (f100v4.l1 [p, q] g s).run) (0 : Int) = _ := hr
  simp only [f33v1, f83v4, f100v4]
  rw [r_cl, b1, bd_s, r_brr, br_t, r_cl, r_cl, r_loop2, hr, bd_s, ex_b, r_ret, bd_s, r_ret, bd_s, r_ret]
  rfl

theorem connected_run (hs : Small g) (hv : GV g) {p q : Int} (hp : InV g p) (hq : InV g q) : (f12v1 g p q).run = some (rt g p == rt g q, 0) := by
  have hg := vg_of hv
  simp only [f12v1]
  rw [r_cl, known_run hs hv hp hq, bd_s, r_brr, Bool.not_true, br_f, r_cl, growG_run hg, bd_s, r_look, tree_get hg (hasV_iff.2 hp), Option.getD_some, r_getR, show gi (lb g p) (0 : Int) = some (rt g p) from rfl, bd_s, r_look, tree_get hg (hasV_iff.2 hq), Option.getD_some, r_getR, show gi (lb g q) (0 : Int) = some (rt g q) from rfl, bd_s, r_ret]
end Frs
end Go.Fx.Gen
