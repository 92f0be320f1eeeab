
/- Trade, the reference: Valid, Ints, Better, points. -/
import Derived.Test.YtdbcggbkdljfiaaGreatTK
namespace Go.Fx.Gen
open Go.Fx Go.Proofs
set_option linter.unusedVariables false
namespace Trd
open Go.TT
variable {g : Graph} {α : Type}

/-! clearwayref03.Ints, clearwayref11.SameLabels, lists: a list is equal to itself. -/
theorem ints_same {l : List Int} (hl : l.length < 1000000000) : (f20 l l).run = some true := by
  obtain ⟨q, hq, rfl⟩ := loop_ix (A := Unit) (f := fun s : Int => (f20.l1 l l s).run) (n := l.length) (fun i _ => (i : Int)) (fun _ _ => True) (fun q => q = .b ())
    (fun i _ hi _ => by
      have hx := List.getElem?_eq_getElem hi
      simp only [f20.l1, r_brr, L_eq, cast_lt_t hi, br_t, getR_s hx, succ_wr hi (by omega), bne_self_eq_false, br_f, r_ret]
      exact .inl ⟨(), by trivial, trivial⟩)
    (fun _ _ => ⟨.b (), by simp only [f20.l1, r_brr, L_eq, cast_lt_f (Nat.lt_irrefl _), br_f, r_ret], rfl⟩)
    (k := fuel) (by have := fuel_pos; omega) (a := ()) trivial
  have hq : loopN fuel (fun s : Int => (f20.l1 l l s).run) (0 : Int) = _ := hq
  simp only [f20, r_brr, bne_self_eq_false, br_f]
  rw [r_loop2, hq, bd_s, ex_b, r_ret]

theorem labels_same {l : List Named} (hl : l.length < 1000000000) (hx : ∀ x ∈ l, x.Label.length < 1000000000) : (f24 l l).run = some true := by
  obtain ⟨q, hq, rfl⟩ := loop_ix (A := Unit) (f := fun s : Int => (f24.l1 l l s).run) (n := l.length) (fun i _ => (i : Int)) (fun _ _ => True) (fun q => q = .b ())
    (fun i _ hi _ => by
      have h2 := hx _ (List.getElem_mem hi)
      have hx := List.getElem?_eq_getElem hi
      simp only [f24.l1, r_brr, L_eq, cast_lt_t hi, br_t, getR_s hx, succ_wr hi (by omega), bne_self_eq_false, br_f, r_ret, r_cl, ints_same h2, bd_s, Bool.not_true]
      exact .inl ⟨(), by trivial, trivial⟩)
    (fun _ _ => ⟨.b (), by simp only [f24.l1, r_brr, L_eq, cast_lt_f (Nat.lt_irrefl _), br_f, r_ret], rfl⟩)
    (k := fuel) (by have := fuel_pos; omega) (a := ()) trivial
  have hq : loopN fuel (fun s : Int => (f24.l1 l l s).run) (0 : Int) = _ := hq
  simp only [f24, r_brr, bne_self_eq_false, br_f]
  rw [r_loop2, hq, bd_s, ex_b, r_ret]

theorem lists_same {l : List (List Int)} (hl : l.length < 1000000000) (hx : ∀ x ∈ l, x.length < 1000000000) : (f30 l l).run = some true := by
  obtain ⟨q, hq, rfl⟩ := loop_ix (A := Unit) (f := fun s : Int => (f30.l1 l l s).run) (n := l.length) (fun i _ => (i : Int)) (fun _ _ => True) (fun q => q = .b ())
    (fun i _ hi _ => by
      have h2 := hx _ (List.getElem_mem hi)
      have hx := List.getElem?_eq_getElem hi
      simp only [f30.l1, r_brr, L_eq, cast_lt_t hi, br_t, getR_s hx, succ_wr hi (by omega), r_ret, r_cl, ints_same h2, bd_s, Bool.not_true, br_f]
      exact .inl ⟨(), by trivial, trivial⟩)
    (fun _ _ => ⟨.b (), by simp only [f30.l1, r_brr, L_eq, cast_lt_f (Nat.lt_irrefl _), br_f, r_ret], rfl⟩)
    (k := fuel) (by have := fuel_pos; omega) (a := ()) trivial
  have hq : loopN fuel (fun s : Int => (f30.l1 l l s).run) (0 : Int) = _ := hq
  simp only [f30, r_brr, bne_self_eq_false, br_f]
  rw [r_loop2, hq, bd_s, ex_b, r_ret]

/-! clearwayref03.Valid -/
theorem chk_loop (key : α → Int) (ok : α → Prop) {l : List α} {f : Int → Option (Nx Int (Ex Bool Unit Empty))} (hl : l.length < 1000000000)
    (hf : ∀ (i : Nat) (x : α), l[i]? = some x → ∃ c : Prop, ((c ∧ f (i : Int) = some (.cont ((i + 1 : Nat) : Int))) ∨ (¬ c ∧ f (i : Int) = some (.done (.a false)))) ∧ (c ↔ (ok x ∧ ∀ j y, i = j + 1 → l[j]? = some y → key y < key x)))
    (he : f (l.length : Int) = some (.done (.b ()))) :
    (loopN fuel f (0 : Int) = some (.b ()) ∧ Asc key l ∧ ∀ x ∈ l, ok x) ∨ (loopN fuel f (0 : Int) = some (.a false) ∧ ¬ (Asc key l ∧ ∀ x ∈ l, ok x)) := by
  obtain ⟨q, h1, h2⟩ := loop_ix (A := Unit) (f := f) (n := l.length) (fun i _ => (i : Int))
    (fun i _ => (∀ a b (ha : a < l.length) (hb : b < l.length), a < b → b < i → key l[a] < key l[b]) ∧ ∀ a (ha : a < l.length), a < i → ok l[a])
    (fun q => (q = .b () ∧ Asc key l ∧ ∀ x ∈ l, ok x) ∨ (q = .a false ∧ ¬ (Asc key l ∧ ∀ x ∈ l, ok x)))
    (fun i _ hi ⟨h1, h2⟩ => by
      have hx := List.getElem?_eq_getElem hi
      obtain ⟨c, hc, hiff⟩ := hf i _ hx
      rcases hc with ⟨hc, e⟩ | ⟨hc, e⟩
      · obtain ⟨o1, o2⟩ := hiff.1 hc
        refine .inl ⟨(), e, ?_, ?_⟩
        · intro a b ha hb hab hbi
          by_cases e : b = i
          · subst e
            obtain ⟨j, rfl⟩ : ∃ j, b = j + 1 := ⟨b - 1, by omega⟩
            have := o2 j _ rfl (List.getElem?_eq_getElem (by omega))
            by_cases e2 : a = j
            · subst e2; exact this
            · have := h1 a j ha (by omega) (by omega) (by omega); omega
          · exact h1 a b ha hb hab (by omega)
        · intro a ha hai
          by_cases e : a = i
          · subst e; exact o1
          · exact h2 a ha (by omega)
      · refine .inr ⟨_, e, .inr ⟨rfl, fun ⟨hA, hO⟩ => hc (hiff.2 ⟨hO _ (List.getElem_mem hi), fun j y hj hy => ?_⟩)⟩⟩
        subst hj
        rw [List.getElem?_eq_some_iff] at hy
        obtain ⟨hj, rfl⟩ := hy
        exact hA j (j + 1) hj hi (by omega))
    (fun _ ⟨h1, h2⟩ => ⟨_, he, .inl ⟨rfl, fun i j hi hj hij => h1 i j hi hj hij hj, fun x hx => by
      obtain ⟨i, hi, rfl⟩ := List.getElem_of_mem hx; exact h2 i hi hi⟩⟩)
    (k := fuel) (by have := fuel_pos; omega) (a := ()) ⟨by intro a b _ _ _ h; omega, by intro a _ h; omega⟩
  rcases h2 with ⟨rfl, h⟩ | ⟨rfl, h⟩
  · exact .inl ⟨h1, h⟩
  · exact .inr ⟨h1, h⟩

theorem rvok_run (v : Vertex) : ∃ b, (f65 v).run = some b ∧ (b = true ↔ VOk v) := by
  simp only [f65, r_cl, f115, r_ret, bd_s, r_brr, br_if]
  refine ⟨(decide (v.ID ≥ (0 : Int)) && decide (v.ID ≤ (23 : Int))) && (decide (v.Side ≥ (0 : Int)) && decide (v.Side ≤ (3 : Int))), by cases (decide (v.ID ≥ (0 : Int)) && decide (v.ID ≤ (23 : Int))) <;> rfl, ?_⟩
  simp only [Bool.and_eq_true, decide_eq_true_eq]
  exact ⟨fun h => ⟨⟨h.1.1, h.1.2⟩, ⟨h.2.1, h.2.2⟩⟩, fun h => ⟨⟨h.id.1, h.id.2⟩, ⟨h.side.1, h.side.2⟩⟩⟩

theorem reok_run (e : Edge) : ∃ b, (f66 e).run = some b ∧ (b = true ↔ EOk e) := by
  simp only [f66, r_cl, f115, r_ret, bd_s, r_brr, br_if]
  refine ⟨(decide (e.ID ≥ (0 : Int)) && decide (e.ID ≤ (39 : Int))) && ((decide (e.From ≥ (0 : Int)) && decide (e.From ≤ (23 : Int))) && ((decide (e.To ≥ (0 : Int)) && decide (e.To ≤ (23 : Int))) &&
    ((decide (e.Weight ≥ (-1000 : Int)) && decide (e.Weight ≤ (1000 : Int))) && (decide (e.Cap ≥ (0 : Int)) && decide (e.Cap ≤ (1000 : Int)))))), ?_, ?_⟩
  · cases (decide (e.ID ≥ (0 : Int)) && decide (e.ID ≤ (39 : Int))) <;> cases (decide (e.From ≥ (0 : Int)) && decide (e.From ≤ (23 : Int))) <;> cases (decide (e.To ≥ (0 : Int)) && decide (e.To ≤ (23 : Int))) <;>
      cases (decide (e.Weight ≥ (-1000 : Int)) && decide (e.Weight ≤ (1000 : Int))) <;> rfl
  · simp only [Bool.and_eq_true, decide_eq_true_eq]
    exact ⟨fun ⟨h1, h2, h3, h4, h5⟩ => ⟨⟨h1.1, h1.2⟩, ⟨h2.1, h2.2⟩, ⟨h3.1, h3.2⟩, ⟨h4.1, h4.2⟩, ⟨h5.1, h5.2⟩⟩, fun h => ⟨⟨h.id.1, h.id.2⟩, ⟨h.fr.1, h.fr.2⟩, ⟨h.to.1, h.to.2⟩, ⟨h.wt.1, h.wt.2⟩, ⟨h.cap.1, h.cap.2⟩⟩⟩

theorem place_neg (hs : Small g) (x : Int) : ∃ r, (f45v1 g x).run = some r ∧ (decide (r < 0) = false ↔ InV g x) := by
  obtain ⟨r, h1, h2⟩ := place_run hs x
  refine ⟨r, h1, ?_⟩
  rcases h2 with ⟨i, rfl, v, hv, e⟩ | ⟨rfl, hn⟩
  · simp only [decide_eq_false_iff_not]
    exact ⟨fun _ => ⟨v, List.mem_of_getElem? hv, e⟩, fun _ => by omega⟩
  · simp only [decide_eq_false_iff_not]
    exact ⟨fun h => absurd (show (-1 : Int) < 0 by decide) h, fun h => absurd h hn⟩

theorem pos_d {i : Nat} : decide (((i + 1 : Nat) : Int) > 0) = true := decide_eq_true (by omega)
theorem pos_0 : decide (((0 : Nat) : Int) > 0) = false := rfl

theorem rvalid_run (hs : Small g) : ∃ b, (f33 g).run = some b ∧ (b = true ↔ GV g) := by
  have hsv := hs.v
  have hse := hs.e
  have hsd := hs.d
  have k1 := chk_loop Vertex.ID VOk (f := fun s => (f33.l1 g s).run) hsv
    (fun i x hi => by
      have hlt : i < g.Vertices.length := (List.getElem?_eq_some_iff.1 hi).1
      obtain ⟨b, b1, b2⟩ := rvok_run x
      simp only [f33.l1, r_brr, L_eq, cast_lt_t hlt, br_t, getR_s hi, succ_wr hlt (by omega), r_cl, b1, bd_s, r_ret]
      cases b with
      | false => exact ⟨False, .inr ⟨id, by rw [Bool.not_false, br_t]⟩, ⟨False.elim, fun h => by have := b2.2 h.1; cases this⟩⟩
      | true =>
        have hok := b2.1 rfl
        rw [Bool.not_true, br_f]
        cases i with
        | zero => rw [pos_0, br_f]; exact ⟨True, .inl ⟨trivial, rfl⟩, ⟨fun _ => ⟨hok, fun j y h => by omega⟩, fun _ => trivial⟩⟩
        | succ i =>
          have hy : g.Vertices[i]? = some g.Vertices[i] := List.getElem?_eq_getElem (by omega)
          rw [pos_d, br_t, pred_wr (show i < 1000000000 by omega), getR_s hy, r_brr, br_dec, r_ret, r_ret]
          refine ⟨¬ x.ID ≤ g.Vertices[i].ID, ?_, fun h => ⟨hok, fun j y hj hjy => ?_⟩, fun h => ?_⟩
          · by_cases h : x.ID ≤ g.Vertices[i].ID
            · rw [if_pos h]; exact .inr ⟨by simpa using h, rfl⟩
            · rw [if_neg h]; exact .inl ⟨h, rfl⟩
          · obtain rfl : i = j := by omega
            rw [hy] at hjy; cases hjy; omega
          · have := h.2 i _ rfl hy; omega)
    (by simp only [f33.l1, r_brr, L_eq, cast_lt_f (Nat.lt_irrefl _), br_f, r_ret])
  have k2 := chk_loop Edge.ID (fun e => EOk e ∧ InV g e.From ∧ InV g e.To) (f := fun s => (f33.l2 g s).run) hse
    (fun i x hi => by
      have hlt : i < g.Edges.length := (List.getElem?_eq_some_iff.1 hi).1
      obtain ⟨b, b1, b2⟩ := reok_run x
      obtain ⟨p, p1, p2⟩ := place_neg hs x.From
      obtain ⟨q, q1, q2⟩ := place_neg hs x.To
      simp only [f33.l2, r_brr, L_eq, cast_lt_t hlt, br_t, getR_s hi, succ_wr hlt (by omega), r_cl, b1, p1, q1, bd_s, r_ret]
      cases b with
      | false => exact ⟨False, .inr ⟨id, by rw [Bool.not_false, br_t]⟩, ⟨False.elim, fun h => by have := b2.2 h.1.1; cases this⟩⟩
      | true =>
        have hok := b2.1 rfl
        rw [Bool.not_true, br_f]
        have hpq : ∃ c : Prop, ((c ∧ br (decide (p < 0)) (some (.done (.a false)) : Option (Nx Int (Ex Bool Unit Empty))) (br (decide (q < 0)) (some (.done (.a false))) (some (.cont ((i + 1 : Nat) : Int)))) = some (.cont ((i + 1 : Nat) : Int))) ∨
            (¬ c ∧ br (decide (p < 0)) (some (.done (.a false)) : Option (Nx Int (Ex Bool Unit Empty))) (br (decide (q < 0)) (some (.done (.a false))) (some (.cont ((i + 1 : Nat) : Int)))) = some (.done (.a false)))) ∧ (c ↔ InV g x.From ∧ InV g x.To) := by
          refine ⟨InV g x.From ∧ InV g x.To, ?_, Iff.rfl⟩
          cases hp : decide (p < 0) with
          | true => exact .inr ⟨fun h => (by have := p2.2 h.1; rw [hp] at this; cases this), rfl⟩
          | false =>
            cases hq : decide (q < 0) with
            | true => exact .inr ⟨fun h => (by have := q2.2 h.2; rw [hq] at this; cases this), rfl⟩
            | false => exact .inl ⟨⟨p2.1 hp, q2.1 hq⟩, rfl⟩
        obtain ⟨c, hc, hciff⟩ := hpq
        cases i with
        | zero =>
          rw [pos_0, br_f]
          exact ⟨c, hc, hciff.trans ⟨fun h => ⟨⟨hok, h⟩, fun j y h => by omega⟩, fun h => h.1.2⟩⟩
        | succ i =>
          have hy : g.Edges[i]? = some g.Edges[i] := List.getElem?_eq_getElem (by omega)
          rw [pos_d, br_t, pred_wr (show i < 1000000000 by omega), getR_s hy, r_brr, br_dec]
          simp only [r_ret, r_brr, r_cl, p1, q1, bd_s]
          by_cases h : x.ID ≤ g.Edges[i].ID
          · rw [if_pos h]
            exact ⟨False, .inr ⟨id, rfl⟩, ⟨False.elim, fun hh => by have := hh.2 i _ rfl hy; omega⟩⟩
          · rw [if_neg h]
            refine ⟨c, hc, hciff.trans ⟨fun hh => ⟨⟨hok, hh⟩, fun j y hj hjy => ?_⟩, fun hh => hh.1.2⟩⟩
            obtain rfl : i = j := by omega
            rw [hy] at hjy; cases hjy; omega)
    (by simp only [f33.l2, r_brr, L_eq, cast_lt_f (Nat.lt_irrefl _), br_f, r_ret])
  have k3 := chk_loop (id : Int → Int) (InV g) (f := fun s => (f33.l3 g s).run) hsd
    (fun i x hi => by
      have hlt : i < g.Depots.length := (List.getElem?_eq_some_iff.1 hi).1
      obtain ⟨p, p1, p2⟩ := place_neg hs x
      simp only [f33.l3, r_brr, L_eq, cast_lt_t hlt, br_t, getR_s hi, succ_wr hlt (by omega), r_cl, p1, bd_s, r_ret]
      cases hp : decide (p < 0) with
      | true => exact ⟨False, .inr ⟨id, by rw [br_t]⟩, ⟨False.elim, fun h => by have := p2.2 h.1; rw [hp] at this; cases this⟩⟩
      | false =>
        have hok := p2.1 hp
        rw [br_f]
        cases i with
        | zero => rw [pos_0, br_f]; exact ⟨True, .inl ⟨trivial, rfl⟩, ⟨fun _ => ⟨hok, fun j y h => by omega⟩, fun _ => trivial⟩⟩
        | succ i =>
          have hy : g.Depots[i]? = some g.Depots[i] := List.getElem?_eq_getElem (by omega)
          rw [pos_d, br_t, pred_wr (show i < 1000000000 by omega), getR_s hy, r_brr, br_dec, r_ret, r_ret]
          refine ⟨¬ x ≤ g.Depots[i], ?_, fun h => ⟨hok, fun j y hj hjy => ?_⟩, fun h => ?_⟩
          · by_cases h : x ≤ g.Depots[i]
            · rw [if_pos h]; exact .inr ⟨by simpa using h, rfl⟩
            · rw [if_neg h]; exact .inl ⟨h, rfl⟩
          · obtain rfl : i = j := by omega
            rw [hy] at hjy; cases hjy; simp only [id]; omega
          · have := h.2 i _ rfl hy; simp only [id] at this; omega)
    (by simp only [f33.l3, r_brr, L_eq, cast_lt_f (Nat.lt_irrefl _), br_f, r_ret])
  simp only [f33]
  rw [r_loop2]
  rcases k1 with ⟨e1, a1, v1⟩ | ⟨e1, n1⟩
  · rw [e1, bd_s, ex_b, r_loop2]
    rcases k2 with ⟨e2, a2, v2⟩ | ⟨e2, n2⟩
    · rw [e2, bd_s, ex_b, r_loop2]
      rcases k3 with ⟨e3, a3, v3⟩ | ⟨e3, n3⟩
      · rw [e3, bd_s, ex_b, r_ret, L_eq]
        refine ⟨_, rfl, ?_⟩
        rw [decide_eq_true_eq]
        exact ⟨fun h => ⟨a1, a2, a3, v1, v2, v3, by omega⟩, fun h => by have := h.dn; omega⟩
      · rw [e3, bd_s, ex_a, r_ret]
        exact ⟨false, rfl, by simp, fun h => absurd ⟨h.da, h.d⟩ n3⟩
    · rw [e2, bd_s, ex_a, r_ret]
      exact ⟨false, rfl, by simp, fun h => absurd ⟨h.ea, h.e⟩ n2⟩
  · rw [e1, bd_s, ex_a, r_ret]
    exact ⟨false, rfl, by simp, fun h => absurd ⟨h.va, h.v⟩ n1⟩

/-! Any graph: wishes end. -/
theorem trader_any (hs : Small g) (x : Int) : ∃ b, (f23 g x).run = some b := by
  obtain ⟨r, h1, h2⟩ := place_run hs x
  simp only [f23, r_cl, h1, bd_s, r_brr]
  rcases h2 with ⟨i, rfl, v, hv, rfl⟩ | ⟨rfl, hn⟩
  · rw [nneg, br_t, getR_s hv, r_ret]; exact ⟨_, rfl⟩
  · exact ⟨false, rfl⟩

theorem refw_any (hs : Small g) (v : Int) : ∃ l, (f25 g v).run = some l ∧ l.length ≤ g.Edges.length := by
  have hse := hs.e
  obtain ⟨r, h1, l, rfl, hl⟩ := loop_ix (A := List Edge) (f := fun s : Int × List Edge => (f25.l1 g v s.1 s.2).run) (n := g.Edges.length) (fun i a => ((i : Int), a)) (fun i a => a.length ≤ i) (fun r => ∃ l, r = .a l ∧ l.length ≤ g.Edges.length)
    (fun i a hi ha => by
      have hx := List.getElem?_eq_getElem hi
      simp only [f25.l1, r_brr, L_eq, cast_lt_t hi, br_t, getR_s hx, succ_wr hi (by omega), r_join1]
      generalize g.Edges[i] = x
      obtain ⟨t, ht⟩ := trader_any hs x.To
      have hb : ∃ b, (br x.Directed (br (x.From == v) (br (x.To != v) ((cl (f23.ok g x.To) fun y17 => (retA' y17 : Pg (Ex Bool Empty Empty))).run) ((retA' false : Pg (Ex Bool Empty Empty)).run)) ((retA' false : Pg (Ex Bool Empty Empty)).run)) ((retA' false : Pg (Ex Bool Empty Empty)).run)) = some (.a b) := by
        simp only [r_cl, ht, bd_s, r_ret]
        cases x.Directed <;> cases (x.From == v) <;> cases (x.To != v) <;> exact ⟨_, rfl⟩
      obtain ⟨b, hb⟩ := hb
      rw [hb, bd_s, ex_a]
      cases b with
      | true => rw [br_t, ap_s (by rw [List.length_append]; simp; unfold bigLen; omega), r_ret]; exact .inl ⟨a ++ [x], rfl, by simp; omega⟩
      | false => rw [br_f, r_ret]; exact .inl ⟨a, rfl, by omega⟩)
    (fun a ha => ⟨.a a, by simp only [f25.l1, r_brr, L_eq, cast_lt_f (Nat.lt_irrefl _), br_f, r_ret], a, rfl, ha⟩)
    (k := fuel) (by have := fuel_pos; omega) (a := []) (by simp)
  have h1 : loopN fuel (fun s : Int × List Edge => (f25.l1 g v s.1 s.2).run) ((0 : Int), ([] : List Edge)) = _ := h1
  simp only [f25]
  rw [r_loop1, h1, bd_s, ex_a, r_ret]
  exact ⟨l, rfl, hl⟩

/-! Better -/
def bet (a b : Edge) : Bool := if a.ID < 0 ∨ b.ID < 0 then decide (a.ID ≥ 0 ∧ b.ID < 0) else elt a b

theorem better_run (a b : Edge) : (f42 a b).run = some (bet a b) := by
  unfold bet
  simp only [f42, r_join1, r_brr, br_dec, r_ret]
  by_cases h1 : a.ID < 0
  · rw [if_pos h1, bd_s, ex_a, br_t, if_neg (by omega), if_pos (.inl h1)]
    congr 1; symm; rw [decide_eq_false_iff_not]; omega
  · rw [if_neg h1, bd_s, ex_a]
    by_cases h2 : b.ID < 0
    · rw [decide_eq_true h2, br_t, if_pos (by omega), if_pos (.inr h2)]
      congr 1; symm; rw [decide_eq_true_eq]; omega
    · have h0 : ¬ (a.ID < 0 ∨ b.ID < 0) := by omega
      rw [decide_eq_false h2, br_f, if_neg h0]
      unfold elt
      by_cases h3 : a.Weight > b.Weight
      · rw [if_pos h3, decide_eq_true (show b.Weight < a.Weight from h3), Bool.true_or]
      · rw [if_neg h3, decide_eq_false (show ¬ b.Weight < a.Weight from h3), Bool.false_or]
        by_cases h4 : a.Weight = b.Weight
        · rw [show (a.Weight == b.Weight) = true by simp [h4], br_t, decide_eq_true h4, Bool.true_and]
        · rw [show (a.Weight == b.Weight) = false by simp [h4], br_f, decide_eq_false h4, Bool.false_and]

theorem bet_elt {a b : Edge} (h1 : 0 ≤ a.ID) (h2 : 0 ≤ b.ID) : bet a b = elt a b := by unfold bet; rw [if_neg (by omega)]
theorem bet_alone {a b : Edge} (h1 : 0 ≤ a.ID) (h2 : b.ID < 0) : bet a b = true := by unfold bet; rw [if_pos (.inr h2)]; exact decide_eq_true ⟨h1, h2⟩

/-! points -/
abbrev lone (v : Int) : Edge := Edge.mk (-1) v v false 0 0

theorem rw_nn (H : Ready g) {v : Int} {e : Edge} (he : e ∈ rw_ g v) : 0 ≤ e.ID := (H.gv.e e (mem_rw.1 he).1).1.id.1

theorem best_run (H : Ready g) (v : Int) (lf : Nat → Int) : ∃ b, (f68 g v (tab24 lf)).run = some b ∧
    ((b = lone v ∧ ∀ e ∈ rw_ g v, lf e.To.toNat ≠ 0) ∨ (b ∈ rw_ g v ∧ lf b.To.toNat = 0 ∧ ∀ e ∈ rw_ g v, lf e.To.toNat = 0 → elt e b = false)) := by
  have hlen : (rw_ g v).length ≤ 65536 := Nat.le_trans (List.length_filter_le ..) (by have := H.e; omega)
  obtain ⟨q, hq, b, rfl, hb⟩ := loop_ix (A := Edge) (f := fun s : Int × Edge => (f68.l1 (tab24 lf) (rw_ g v) s.1 s.2).run) (n := (rw_ g v).length) (fun i a => ((i : Int), a))
    (fun i b => (b = lone v ∧ ∀ e ∈ (rw_ g v).take i, lf e.To.toNat ≠ 0) ∨ (b ∈ rw_ g v ∧ lf b.To.toNat = 0 ∧ ∀ e ∈ (rw_ g v).take i, lf e.To.toNat = 0 → elt e b = false))
    (fun q => ∃ b, q = .a b ∧ ((b = lone v ∧ ∀ e ∈ rw_ g v, lf e.To.toNat ≠ 0) ∨ (b ∈ rw_ g v ∧ lf b.To.toNat = 0 ∧ ∀ e ∈ rw_ g v, lf e.To.toNat = 0 → elt e b = false)))
    (fun i a hi ha => by
      have hx := List.getElem?_eq_getElem hi
      have htk := List.take_succ_eq_append_getElem hi
      have hm : (rw_ g v)[i] ∈ rw_ g v := List.getElem_mem hi
      rw [htk]
      generalize (rw_ g v)[i] = e at hx hm
      have hto := trd_range H.gv (mem_rw.1 hm).2.2.2.2
      have gl : (tab24 lf)[e.To.toNat]? = some (lf e.To.toNat) := tab_get _ (by omega)
      have mem2 : ∀ e', e' ∈ (rw_ g v).take i ++ [e] → e' ∈ (rw_ g v).take i ∨ e' = e := fun e' h => by simpa using h
      simp only [f68.l1, r_join1, r_brr, L_eq, cast_lt_t hi, br_t, getR_s hx, succ_wr hi (by omega)]
      rw [ck_t (by omega), rd_s gl, r_brr]
      by_cases h0 : lf e.To.toNat = 0
      · rw [show (lf e.To.toNat == 0) = true by simp [h0], br_t, getR_s hx, r_cl, better_run, bd_s, r_ret, bd_s, ex_a]
        have hen := rw_nn H hm
        rcases ha with ⟨rfl, ha⟩ | ⟨a1, a2, a3⟩
        · rw [bet_alone hen (show (lone v).ID < 0 from (by decide : (-1 : Int) < 0)), br_t, r_ret]
          refine .inl ⟨e, rfl, .inr ⟨hm, h0, fun e' h' h0' => ?_⟩⟩
          rcases mem2 e' h' with h | rfl
          · exact absurd h0' (ha e' h)
          · rw [elt_not]; omega
        · rw [bet_elt hen (rw_nn H a1)]
          cases hb : elt e a with
          | true =>
            rw [br_t, r_ret]
            refine .inl ⟨e, rfl, .inr ⟨hm, h0, fun e' h' h0' => ?_⟩⟩
            rcases mem2 e' h' with h | rfl
            · have := a3 e' h h0'
              rw [elt_not] at this ⊢; rw [elt_iff] at hb; omega
            · rw [elt_not]; omega
          | false =>
            rw [br_f, r_ret]
            refine .inl ⟨a, rfl, .inr ⟨a1, a2, fun e' h' h0' => ?_⟩⟩
            rcases mem2 e' h' with h | rfl
            · exact a3 e' h h0'
            · exact hb
      · rw [show (lf e.To.toNat == 0) = false by simp [h0], br_f, r_ret, bd_s, ex_a, br_f, r_ret]
        refine .inl ⟨a, rfl, ?_⟩
        rcases ha with ⟨rfl, ha⟩ | ⟨a1, a2, a3⟩
        · refine .inl ⟨rfl, fun e' h' => ?_⟩
          rcases mem2 e' h' with h | rfl
          · exact ha e' h
          · exact h0
        · refine .inr ⟨a1, a2, fun e' h' h0' => ?_⟩
          rcases mem2 e' h' with h | rfl
          · exact a3 e' h h0'
          · exact absurd h0' h0)
    (fun a ha => by
      rw [List.take_length] at ha
      exact ⟨.a a, by simp only [f68.l1, r_brr, L_eq, cast_lt_f (Nat.lt_irrefl _), br_f, r_ret], a, rfl, ha⟩)
    (k := fuel) (by have := fuel_pos; omega) (a := lone v) (.inl ⟨rfl, by simp⟩)
  refine ⟨b, ?_, hb⟩
  have hq : loopN fuel (fun s : Int × Edge => (f68.l1 (tab24 lf) (rw_ g v) s.1 s.2).run) ((0 : Int), Edge.mk (-1) v v false 0 0) = _ := hq
  simp only [f68]
  rw [r_cl, refw_run H.small H.gv.va, bd_s, r_loop1, hq, bd_s, ex_a, r_ret]

/-- The wish along which one points. -/
def bst (g : Graph) (A : List Int) (v : Int) : Edge := match fst_ g A v with
  | some e => e
  | none => lone v

theorem bst_to (A : List Int) (v : Int) : (bst g A v).To = nx (wsh g) A v := by
  rw [nx_fst]; unfold bst; cases fst_ g A v <;> rfl
theorem bst_id (A : List Int) (v : Int) : (bst g A v).ID = (pt (wsh g) A v).2 := by
  rw [pt_row]; unfold bst fst_; cases (row (wsh g) v).find? fun e => decide (e.To ∈ A) <;> rfl

theorem row_sorted (H : Ready g) {v : Int} (hv : v ∈ trd g) : (row (wsh g) v).Pairwise (fun x y => elt y x = false) := by
  rw [row_wsh (trd_range H.gv hv), if_pos hv]; exact wish_sorted H.e (eok_of H.gv)

theorem row_lt (H : Ready g) {v : Int} (hv : v ∈ trd g) {i j : Nat} (hi : i < (row (wsh g) v).length) (hj : j < (row (wsh g) v).length) (h : i < j) : elt (row (wsh g) v)[i] (row (wsh g) v)[j] = true := by
  have h1 := List.pairwise_iff_getElem.1 (row_sorted H hv) i j hi hj h
  have hne : (row (wsh g) v)[i].ID ≠ (row (wsh g) v)[j].ID := by
    have W := more H
    obtain ⟨_, hm⟩ := row_mem W.toWsOk (trd_range H.gv hv)
    have hn := W.ids _ hm
    rw [List.nodup_iff_pairwise_ne, List.pairwise_map, List.pairwise_iff_getElem] at hn
    exact hn i j hi hj h
  rw [elt_not] at h1
  rw [elt_iff]; omega

theorem row_lt_iff (H : Ready g) {v : Int} (hv : v ∈ trd g) {i j : Nat} (hi : i < (row (wsh g) v).length) (hj : j < (row (wsh g) v).length) : elt (row (wsh g) v)[i] (row (wsh g) v)[j] = true ↔ i < j := by
  refine ⟨fun h => ?_, row_lt H hv hi hj⟩
  rcases Nat.lt_trichotomy i j with hh | hh | hh
  · exact hh
  · subst hh; rw [elt_iff] at h; omega
  · have := row_lt H hv hj hi hh
    rw [elt_iff] at h this; omega

theorem rpoints_run (H : Ready g) {v : Int} (hv : v ∈ trd g) {lf : Nat → Int} {A : List Int} (hA : ∀ x ∈ trd g, x ∈ A ↔ lf x.toNat = 0) : (f68 g v (tab24 lf)).run = some (bst g A v) := by
  obtain ⟨b, h1, h2⟩ := best_run H v lf
  rw [h1]
  congr 1
  unfold bst
  cases hf : fst_ g A v with
  | none =>
    rcases h2 with ⟨rfl, _⟩ | ⟨b1, b2, _⟩
    · rfl
    · have := List.find?_eq_none.1 hf b ((mem_rw_row H hv).1 b1)
      exact absurd (decide_eq_true ((hA _ (mem_rw.1 b1).2.2.2.2).2 b2)) this
  | some e =>
    have he := fst_mem hf
    have herw := (mem_rw_row H hv).2 he.1
    have he0 := (hA _ (mem_rw.1 herw).2.2.2.2).1 he.2
    rcases h2 with ⟨_, h⟩ | ⟨b1, b2, b3⟩
    · exact absurd he0 (h e herw)
    · have hb := (mem_rw_row H hv).1 b1
      have hbA := (hA _ (mem_rw.1 b1).2.2.2.2).2 b2
      have h3 := b3 e herw he0
      unfold fst_ at hf
      rw [List.find?_eq_some_iff_getElem] at hf
      obtain ⟨_, i, hi, rfl, hi2⟩ := hf
      obtain ⟨j, hj, rfl⟩ := List.getElem_of_mem hb
      rcases Nat.lt_trichotomy i j with hh | hh | hh
      · rw [row_lt H hv hi hj hh] at h3; cases h3
      · subst hh; rfl
      · have := hi2 j hh
        rw [decide_eq_true hbA] at this; cases this
end Trd
end Go.Fx.Gen
