/- Plain laws of graphs: validity, the edges at a vertex, search. -/
import Derived.Test.YtpkjgdngkhnhpaaPA
namespace Go.Fw.Gen
open Go.Fw
def ascB : List Int → Bool
 | a :: b :: r => decide (a < b) && ascB (b :: r)
 | _ => true
theorem ascB_iff : ∀ {l : List Int}, ascB l = true ↔ l.Pairwise (· < ·)
 | [] => by simp [ascB]
 | [a] => by simp [ascB]
 | a :: b :: r => by
  simp only [ascB, Bool.and_eq_true, decide_eq_true_eq, ascB_iff (l := b :: r)]
  constructor
  ·rintro ⟨h1, h2⟩
   refine List.Pairwise.cons ?_ h2
   intro x hx
   cases hx with
   | head => exact h1
   | tail _ hx => exact Int.lt_trans h1 (List.rel_of_pairwise_cons h2 hx)
  ·intro h
   exact ⟨List.rel_of_pairwise_cons h (.head _), (List.pairwise_cons.1 h).2⟩
theorem asc_loop {α : Type} (id : α → Int) (l : List α) (hl : l.length < 4611686018427387904) (f : Int → Option (Nx Int (Unit ⊕ Unit)))
  (hf : ∀ s : Int, f s = br (decide (s < ((l.length : Nat) : Int))) (getR l (IntKind.i64.wrap (s - 1)) fun a4 => bd (some (id a4)) fun y7 => getR l s fun a9 => bd (some (id a9)) fun y12 =>
   br (decide (y7 ≥ y12)) (some (.done (.inl ()))) (some (.cont (IntKind.i64.wrap (s + 1))))) (some (.done (.inr ())))) :
  loopN fuel f 1 = some (if ascB (l.map id) then .inr () else .inl ()) := by
 have key : ∀ (m i k : Nat), i + 1 + m = l.length → m < k → loopN k f ((i : Int) + 1) = some (if ascB ((l.drop i).map id) then .inr () else .inl ()) := by
  intro m
  induction m with
  | zero =>
   intro i k hi hk
   cases k with
   | zero => omega
   | succ k =>
    have hd : l.drop i = [l[i]'(by omega)] := by
     rw [List.drop_eq_getElem_cons (by omega), List.drop_eq_nil_of_le (by omega)]
    have : ¬ ((i : Int) + 1 < ((l.length : Nat) : Int)) := by omega
    simp [loopN, hf, this, br, hd, ascB]
  | succ m ih =>
   intro i k hi hk
   cases k with
   | zero => omega
   | succ k =>
    have h1 : (i : Int) + 1 < ((l.length : Nat) : Int) := by omega
    have e1 : IntKind.i64.wrap ((i : Int) + 1 - 1) = (i : Int) := by rw [wr]; omega
    have e2 : IntKind.i64.wrap ((i : Int) + 1 + 1) = ((i + 1 : Nat) : Int) + 1 := by rw [wr]; omega
    have e3 : ((i : Int) + 1) = ((i + 1 : Nat) : Int) := by omega
    have g0 : l[i]? = some (l[i]'(by omega)) := by simp
    have g1 : l[i + 1]? = some (l[i + 1]'(by omega)) := by simp
    have hd : l.drop i = l[i]'(by omega) :: l[i + 1]'(by omega) :: l.drop (i + 2) := by
     rw [List.drop_eq_getElem_cons (by omega), List.drop_eq_getElem_cons (by omega)]
    have hd1 : l.drop (i + 1) = l[i + 1]'(by omega) :: l.drop (i + 2) := List.drop_eq_getElem_cons (by omega)
    have hs : f ((i : Int) + 1) = if id (l[i]'(by omega)) < id (l[i + 1]'(by omega)) then some (.cont (((i + 1 : Nat) : Int) + 1)) else some (.done (.inl ())) := by
     rw [hf, br_dec, if_pos h1, e1, getR_s g0, e2]
     conv => lhs; rw [show ∀ k, bd (some (id (l[i]'(by omega)))) k = k (id (l[i]'(by omega))) from fun _ => rfl]
     rw [e3, getR_s g1]
     show br (decide (id (l[i]'(by omega)) ≥ id (l[i + 1]'(by omega)))) _ _ = _
     rw [br_dec]
     by_cases h : id (l[i]'(by omega)) < id (l[i + 1]'(by omega))
     ·rw [if_neg (by omega), if_pos h]
     ·rw [if_pos (by omega), if_neg h]
    simp only [loopN, hs]
    by_cases h : id (l[i]'(by omega)) < id (l[i + 1]'(by omega))
    ·rw [if_pos h]
     show loopN k f (((i + 1 : Nat) : Int) + 1) = _
     rw [ih (i + 1) k (by omega) (by omega), hd1, hd]
     simp only [List.map_cons, ascB, h, decide_true, Bool.true_and]
    ·rw [if_neg h, hd]
     simp only [List.map_cons, ascB, h, decide_false, Bool.false_and, Bool.false_eq_true, if_false]
 by_cases h0 : l.length = 0
 ·have : l = [] := List.eq_nil_of_length_eq_zero h0
  subst this
  have : fuel = (fuel - 1) + 1 := by have := fuel_pos; omega
  rw [this]
  simp [loopN, hf, br, ascB]
 ·have := key (l.length - 1) 0 fuel (by omega) (by have := fuel_pos; omega)
  simpa using this
theorem idx_loop {α : Type} (l : List α) (n : Int) (hn : n = ((l.length : Nat) : Int)) (hl : l.length < 4611686018427387904) (P : α → Option Bool) (p : α → Bool) (hp : ∀ a ∈ l, P a = some (p a)) (f : Int → Option (Nx Int (Int ⊕ Unit)))
  (hf : ∀ s : Int, f s = br (decide (s < n)) (getR l s fun a => bd (P a) fun y => br y (some (.done (.inl s))) (some (.cont (IntKind.i64.wrap (s + 1))))) (some (.done (.inr ())))) :
  (∃ i : Nat, loopN fuel f 0 = some (.inl (i : Int)) ∧ l.any p = true ∧ ∃ a, l[i]? = some a ∧ p a = true ∧ ∀ j b, j < i → l[j]? = some b → p b = false) ∨ (loopN fuel f 0 = some (.inr ()) ∧ l.any p = false) := by
 subst hn
 have key : ∀ (m i k : Nat), i + m = l.length → m < k → (∀ j b, j < i → l[j]? = some b → p b = false) →
   (∃ i' : Nat, loopN k f (i : Int) = some (.inl (i' : Int)) ∧ l.any p = true ∧ ∃ a, l[i']? = some a ∧ p a = true ∧ ∀ j b, j < i' → l[j]? = some b → p b = false) ∨ (loopN k f (i : Int) = some (.inr ()) ∧ l.any p = false) := by
  intro m
  induction m with
  | zero =>
   intro i k hi hk hb
   right
   cases k with
   | zero => omega
   | succ k =>
    have : ¬ ((i : Int) < ((l.length : Nat) : Int)) := by omega
    refine ⟨by simp [loopN, hf, this, br], ?_⟩
    rw [List.any_eq_false]
    intro a ha
    obtain ⟨j, hj⟩ := List.getElem?_of_mem ha
    have := (List.getElem?_eq_some_iff.1 hj).1
    simp [hb j a (by omega) hj]
  | succ m ih =>
   intro i k hi hk hb
   cases k with
   | zero => omega
   | succ k =>
    have h1 : (i : Int) < ((l.length : Nat) : Int) := by omega
    have g0 : l[i]? = some (l[i]'(by omega)) := by simp
    have e1 : IntKind.i64.wrap ((i : Int) + 1) = ((i + 1 : Nat) : Int) := by rw [wr]; omega
    have hs : f (i : Int) = if p (l[i]'(by omega)) then some (.done (.inl (i : Int))) else some (.cont ((i + 1 : Nat) : Int)) := by
     rw [hf, br_dec, if_pos h1, getR_s g0, hp _ (List.getElem_mem _), bd_s, br_if, e1]
    cases hpa : p (l[i]'(by omega)) with
    | true =>
     left
     rw [hpa] at hs
     refine ⟨i, by simp [loopN, hs], List.any_eq_true.2 ⟨_, List.getElem_mem _, hpa⟩, _, g0, hpa, hb⟩
    | false =>
     rw [hpa] at hs
     have hs : f (i : Int) = some (.cont ((i + 1 : Nat) : Int)) := hs
     have := ih (i + 1) k (by omega) (by omega) (by
      intro j b hj hb'
      by_cases e : j = i
      ·subst e; rw [g0] at hb'; cases hb'; exact hpa
      ·exact hb j b (by omega) hb')
     simp only [loopN, hs]
     exact this
 have := key l.length 0 fuel (by omega) (by have := fuel_pos; omega) (by intro j b hj; omega)
 simpa using this
theorem any_loop {α : Type} (l : List α) (n : Int) (hn : n = ((l.length : Nat) : Int)) (hl : l.length < 4611686018427387904) (P : α → Option Bool) (p : α → Bool) (hp : ∀ a ∈ l, P a = some (p a)) (f : Int → Option (Nx Int (Int ⊕ Unit)))
  (hf : ∀ s : Int, f s = br (decide (s < n)) (getR l s fun a => bd (P a) fun y => br y (some (.done (.inl s))) (some (.cont (IntKind.i64.wrap (s + 1))))) (some (.done (.inr ())))) :
  (bd (bd (loopN fuel f 0) fun q => match q with | .inl q => some q | .inr _ => some (-1)) fun y => some (decide (y ≥ 0))) = some (l.any p) := by
 rcases idx_loop l n hn hl P p hp f hf with ⟨i, h1, h2, _⟩ | ⟨h1, h2⟩
 ·rw [h1, h2]; simp [bd]
 ·rw [h1, h2]; rfl
structure SmallG (g : Graph) : Prop where
 v : g.Vertices.length ≤ 1000
 e : g.Edges.length ≤ 1000
 d : g.Depots.length ≤ 1000
def okV (v : Vertex) : Bool := (decide (0 ≤ v.ID) && decide (v.ID ≤ 23)) && (decide (0 ≤ v.Side) && decide (v.Side ≤ 3))
def okE (e : Edge) : Bool := (decide (0 ≤ e.ID) && decide (e.ID ≤ 39)) && ((decide (0 ≤ e.From) && decide (e.From ≤ 23)) && ((decide (0 ≤ e.To) && decide (e.To ≤ 23)) && ((decide (-1000 ≤ e.Weight) && decide (e.Weight ≤ 1000)) && (decide (0 ≤ e.Cap) && decide (e.Cap ≤ 1000)))))
def hasV (g : Graph) (id : Int) : Bool := g.Vertices.any fun v => v.ID == id
def validP (g : Graph) : Bool :=
 ascB (g.Vertices.map (·.ID)) && (ascB (g.Edges.map (·.ID)) && (g.Vertices.all okV && (g.Edges.all (fun e => okE e && (hasV g e.From && hasV g e.To)) &&
  (decide (g.Depots.length ≤ 3) && (ascB g.Depots && g.Depots.all (hasV g))))))
theorem isIn_eq (a b c : Int) : graph_isIn a b c = some (decide (b ≤ a) && decide (a ≤ c)) := by
 unfold graph_isIn; rw [br_if]; by_cases h : b ≤ a <;> simp [h]
theorem isVertex_eq (v : Vertex) : graph_isVertex v = some (okV v) := by
 unfold graph_isVertex
 simp only [isIn_eq, bd_s, br_if]
 unfold okV
 cases (decide (0 ≤ v.ID) && decide (v.ID ≤ 23)) <;> simp
theorem isEdge_eq (e : Edge) : graph_isEdge e = some (okE e) := by
 unfold graph_isEdge
 simp only [isIn_eq, bd_s, br_if]
 unfold okE
 cases (decide (0 ≤ e.ID) && decide (e.ID ≤ 39)) <;> cases (decide (0 ≤ e.From) && decide (e.From ≤ 23)) <;> cases (decide (0 ≤ e.To) && decide (e.To ≤ 23)) <;>
  cases (decide (-1000 ≤ e.Weight) && decide (e.Weight ≤ 1000)) <;> simp
theorem compare_eq (a b : Int) : cmp_Compare_int a b = some (if a < b then -1 else if a > b then 1 else 0) := by
 unfold cmp_Compare_int cmp_isNaN_int
 have e1 : (a != a) = false := by simp
 have e2 : (b != b) = false := by simp
 simp only [e1, e2, bd_s, br_f, br_dec]
 by_cases h : a < b
 ·rw [if_pos h, if_pos h]
 ·rw [if_neg h, if_neg h]
  by_cases h' : a > b
  ·rw [if_pos h', if_pos h']
  ·rw [if_neg h', if_neg h']
theorem search_eq (vs : List Vertex) (id : Int) (hl : vs.length ≤ 1000) (ha : (vs.map (·.ID)).Pairwise (· < ·)) :
  ∃ i : Nat, sBinarySearchFuncVV_int vs id = some ((i : Int), vs.any fun v => v.ID == id) ∧ i ≤ vs.length ∧ (∀ (j : Nat) (v : Vertex), vs[j]? = some v → (j < i ↔ v.ID < id)) := by
 have mono : ∀ (i j : Nat) (a b : Vertex), i < j → vs[i]? = some a → vs[j]? = some b → a.ID < b.ID := by
  intro i j a b hij h1 h2
  have hj := (List.getElem?_eq_some_iff.1 h2).1
  have := (List.pairwise_iff_getElem.1 ha) i j (by simp; omega) (by simpa using hj) hij
  simp only [List.getElem_map] at this
  have e1 := (List.getElem?_eq_some_iff.1 h1).2
  have e2 := (List.getElem?_eq_some_iff.1 h2).2
  rw [e1, e2] at this; exact this
 have hloop := loopN_of (f := sBinarySearchFuncVV_int.l0 vs id ((vs.length : Nat) : Int))
  (fun s => ∃ i j : Nat, s = ((i : Int), (j : Int)) ∧ i ≤ j ∧ j ≤ vs.length ∧ (∀ (k : Nat) (v : Vertex), k < i → vs[k]? = some v → v.ID < id) ∧ (∀ (k : Nat) (v : Vertex), j ≤ k → vs[k]? = some v → id ≤ v.ID))
  (fun r => ∃ i : Nat, r = (i : Int) ∧ i ≤ vs.length ∧ (∀ (k : Nat) (v : Vertex), k < i → vs[k]? = some v → v.ID < id) ∧ (∀ (k : Nat) (v : Vertex), i ≤ k → vs[k]? = some v → id ≤ v.ID))
  (fun s => (s.2 - s.1).toNat) (by
   rintro s ⟨i, j, rfl, hij, hj, h1, h2⟩
   unfold sBinarySearchFuncVV_int.l0
   rw [br_dec]
   by_cases hlt : (i : Int) < (j : Int)
   ·left
    rw [if_pos hlt]
    have e1 : (IntKind.i64.wrap ((IntKind.u64.wrap (IntKind.i64.wrap ((i : Int) + (j : Int)))).fdiv (2 ^ (min (1 : Int).toNat IntKind.u64.bits)))) = (((i + j) / 2 : Nat) : Int) := by
     have e0 : IntKind.i64.wrap ((i : Int) + (j : Int)) = (i : Int) + (j : Int) := wr
     have this : (2 : Int) ^ (min (1 : Int).toNat IntKind.u64.bits) = 2 := by decide
     rw [e0, IntWalk.u64_in _ (by omega), this, Int.fdiv_eq_ediv_of_nonneg _ (by omega)]
     have : ((i : Int) + (j : Int)) / 2 = (((i + j) / 2 : Nat) : Int) := by omega
     rw [this, wr]
    rw [show ((i : Int), (j : Int)).1 = (i : Int) from rfl, show ((i : Int), (j : Int)).2 = (j : Int) from rfl, e1]
    have g0 : vs[(i + j) / 2]? = some (vs[(i + j) / 2]'(by omega)) := by simp
    rw [getR_s g0]
    unfold graph_change_vertex_1
    rw [compare_eq]
    simp only [bd_s, br_dec]
    have e2 : IntKind.i64.wrap ((((i + j) / 2 : Nat) : Int) + 1) = (((i + j) / 2 + 1 : Nat) : Int) := by rw [wr]; omega
    by_cases hc : (vs[(i + j) / 2]'(by omega)).ID < id
    ·rw [if_pos hc, if_pos (by decide : (-1 : Int) < 0), e2]
     refine ⟨_, rfl, ⟨(i + j) / 2 + 1, j, rfl, by omega, hj, ?_, h2⟩, ?_⟩
     ·intro k v hk hv
      by_cases e : k = (i + j) / 2
      ·subst e; rw [g0] at hv; cases hv; exact hc
      ·exact Int.lt_trans (mono k _ v _ (by omega) hv g0) hc
     ·simp only; omega
    ·rw [if_neg hc]
     have : ¬ ((if (vs[(i + j) / 2]'(by omega)).ID > id then (1 : Int) else 0) < 0) := by split <;> omega
     rw [if_neg this]
     refine ⟨_, rfl, ⟨i, (i + j) / 2, rfl, by omega, by omega, h1, ?_⟩, ?_⟩
     ·intro k v hk hv
      by_cases e : k = (i + j) / 2
      ·subst e; rw [g0] at hv; cases hv; omega
      ·have := mono _ k _ v (by omega) g0 hv; omega
     ·simp only; omega
   ·right
    rw [if_neg hlt]
    exact ⟨_, rfl, i, rfl, by omega, h1, fun k v hk hv => h2 k v (by omega) hv⟩)
  fuel (0, ((vs.length : Nat) : Int)) ⟨0, vs.length, rfl, by omega, by omega, by intro k v hk; omega, by intro k v hk hv; have := (List.getElem?_eq_some_iff.1 hv).1; omega⟩ (by have := fuel_pos; simp only; omega)
 obtain ⟨r, hr, i, rfl, hi, h1, h2⟩ := hloop
 refine ⟨i, ?_, hi, ?_⟩
 ·unfold sBinarySearchFuncVV_int
  rw [hr, bd_s, br_dec]
  by_cases hlt : (i : Int) < ((vs.length : Nat) : Int)
  ·rw [if_pos hlt]
   have g0 : vs[i]? = some (vs[i]'(by omega)) := by simp
   rw [getR_s g0]
   unfold graph_change_vertex_1
   rw [compare_eq]
   simp only [bd_s, Option.some.injEq, Prod.mk.injEq, true_and]
   have hge := h2 i _ (Nat.le_refl _) g0
   by_cases he : (vs[i]'(by omega)).ID = id
   ·have : (vs.any fun v => v.ID == id) = true := List.any_eq_true.2 ⟨vs[i]'(by omega), List.getElem_mem _, by simpa using he⟩
    rw [this]; simp [he]
   ·have : (vs.any fun v => v.ID == id) = false := by
     rw [List.any_eq_false]
     intro v hv
     obtain ⟨k, hk⟩ := List.getElem?_of_mem hv
     rcases Nat.lt_trichotomy k i with h | h | h
     ·have := h1 k v h hk; simp; omega
     ·subst h; rw [g0] at hk; cases hk; simpa using he
     ·have := mono i k _ v h g0 hk; simp; omega
    rw [this]
    have : ¬ ((vs[i]'(by omega)).ID < id) := by omega
    have h' : (vs[i]'(by omega)).ID > id := by omega
    simp [this, h']
  ·rw [if_neg hlt]
   have : (vs.any fun v => v.ID == id) = false := by
    rw [List.any_eq_false]
    intro v hv
    obtain ⟨k, hk⟩ := List.getElem?_of_mem hv
    have := (List.getElem?_eq_some_iff.1 hk).1
    have := h1 k v (by omega) hk; simp; omega
   rw [this]
 ·intro j v hv
  constructor
  ·intro h; exact h1 j v h hv
  ·intro h
   rcases Nat.lt_or_ge j i with h' | h'
   ·exact h'
   ·have := h2 j v h' hv; omega
theorem has_eq (vs : List Vertex) (es : List Edge) (ds : List Int) (id : Int) (hl : vs.length ≤ 1000) (ha : (vs.map (·.ID)).Pairwise (· < ·)) :
  graph_change_has id vs es ds = some (vs.any fun v => v.ID == id) := by
 obtain ⟨i, h, _⟩ := search_eq vs id hl ha
 unfold graph_change_has graph_change_vertex
 rw [h]; rfl
theorem Valid_eq (g : Graph) (h : SmallG g) : graph_Valid g = some (validP g) := by
 unfold graph_Valid validP
 have e1 : graph_ascendV g.Vertices = some (ascB (g.Vertices.map (·.ID))) := by
  unfold graph_ascendV
  rw [asc_loop (·.ID) g.Vertices (by have := h.v; omega) (graph_ascendV.l0 g.Vertices) (fun _ => rfl), bd_s]
  cases ascB (g.Vertices.map (·.ID)) <;> rfl
 have e2 : graph_ascendE g.Edges = some (ascB (g.Edges.map (·.ID))) := by
  unfold graph_ascendE
  rw [asc_loop (·.ID) g.Edges (by have := h.e; omega) (graph_ascendE.l0 g.Edges) (fun _ => rfl), bd_s]
  cases ascB (g.Edges.map (·.ID)) <;> rfl
 rw [e1, bd_s, br_if]
 cases ha : ascB (g.Vertices.map (·.ID)) with
 | false => simp
 | true =>
  have hp := ascB_iff.1 ha
  rw [e2, bd_s, br_if]
  cases hb : ascB (g.Edges.map (·.ID)) with
  | false => simp
  | true =>
   have e3 : sContainsFuncVV g.Vertices = some (g.Vertices.any fun v => !okV v) := by
    unfold sContainsFuncVV sIndexFuncVV
    exact any_loop g.Vertices _ rfl (by have := h.v; omega) graph_Valid_2 _ (fun a _ => by unfold graph_Valid_2; rw [isVertex_eq]; rfl) _ (fun _ => rfl)
   have e4 : sContainsFuncEE g.Edges g.Vertices g.Edges g.Depots = some (g.Edges.any fun e => !(okE e && (hasV g e.From && hasV g e.To))) := by
    unfold sContainsFuncEE sIndexFuncEE
    refine any_loop g.Edges _ rfl (by have := h.e; omega) (fun e => graph_Valid_1 e g.Vertices g.Edges g.Depots) _ (fun a _ => ?_) _ (fun _ => rfl)
    unfold graph_Valid_1
    rw [isEdge_eq, has_eq _ _ _ _ h.v hp, has_eq _ _ _ _ h.v hp]
    simp only [bd_s, br_if, hasV]
    cases okE a <;> cases (g.Vertices.any fun v => v.ID == a.From) <;> simp
   rw [e3, e4]
   simp only [bd_s, br_if, if_true, Bool.not_true, Bool.false_eq_true, if_false, Bool.true_and]
   have n1 : (g.Vertices.any fun v => !okV v) = !g.Vertices.all okV := by rw [List.not_all_eq_any_not]
   have n2 : (g.Edges.any fun e => !(okE e && (hasV g e.From && hasV g e.To))) = !g.Edges.all fun e => okE e && (hasV g e.From && hasV g e.To) := by rw [List.not_all_eq_any_not]
   rw [n1, n2]
   cases g.Vertices.all okV with
   | false => simp
   | true =>
    cases (g.Edges.all fun e => okE e && (hasV g e.From && hasV g e.To)) with
    | false => simp
    | true =>
     simp only [Bool.not_true, Bool.not_false, Bool.false_eq_true, if_false, if_true, Bool.true_and]
     unfold graph_change_areDepots
     have e5 : graph_ascend_int g.Depots = some (ascB g.Depots) := by
      unfold graph_ascend_int
      rw [asc_loop (fun n => n) g.Depots (by have := h.d; omega) (graph_ascend_int.l0 g.Depots) (fun _ => rfl), bd_s]
      simp only [List.map_id']
      cases ascB g.Depots <;> rfl
     have e6 : sContainsFunc_int_int g.Depots g.Vertices g.Edges g.Depots = some (g.Depots.any fun d => !hasV g d) := by
      unfold sContainsFunc_int_int sIndexFunc_int_int
      refine any_loop g.Depots _ rfl (by have := h.d; omega) (fun e => graph_change_areDepots_1 e g.Vertices g.Edges g.Depots) _ (fun a _ => ?_) _ (fun _ => rfl)
      unfold graph_change_areDepots_1
      rw [has_eq _ _ _ _ h.v hp]; rfl
     have n3 : (g.Depots.any fun d => !hasV g d) = !g.Depots.all (hasV g) := by rw [List.not_all_eq_any_not]
     rw [e5, e6, n3]
     simp only [bd_s, br_if]
     by_cases hd : g.Depots.length ≤ 3
     ·have : ((g.Depots.length : Nat) : Int) ≤ 3 := by omega
      simp only [this, hd, decide_true, if_true, Bool.true_and]
      cases ascB g.Depots <;> simp [bd]
     ·have : ¬ ((g.Depots.length : Nat) : Int) ≤ 3 := by omega
      simp [this, hd, bd]
end Go.Fw.Gen
