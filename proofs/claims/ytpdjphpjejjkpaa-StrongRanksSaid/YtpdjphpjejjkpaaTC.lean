
/- Which graphs are valid, by the package and by the reference. -/
import Derived.Test.YtpdjphpjejjkpaaXB
import Derived.Test.YtpdjphpjejjkpaaG2
namespace Go.Fx.Gen
open Go.Fx Go.Proofs
set_option linter.unusedVariables false
namespace Trd
variable {α : Type}
def Asc (key : α → Int) (l : List α) : Prop := ∀ i j (hi : i < l.length) (hj : j < l.length), i < j → key l[i] < key l[j]
structure VOk (v : Vertex) : Prop where
 id : 0 ≤ v.ID ∧ v.ID ≤ 23
 side : 0 ≤ v.Side ∧ v.Side ≤ 3
structure EOk (e : Edge) : Prop where
 id : 0 ≤ e.ID ∧ e.ID ≤ 39
 fr : 0 ≤ e.From ∧ e.From ≤ 23
 to : 0 ≤ e.To ∧ e.To ≤ 23
 wt : -1000 ≤ e.Weight ∧ e.Weight ≤ 1000
 cap : 0 ≤ e.Cap ∧ e.Cap ≤ 1000
def InV (g : Graph) (id : Int) : Prop := ∃ v ∈ g.Vertices, v.ID = id
structure GV (g : Graph) : Prop where
 va : Asc Vertex.ID g.Vertices
 ea : Asc Edge.ID g.Edges
 da : Asc id g.Depots
 v : ∀ v ∈ g.Vertices, VOk v
 e : ∀ e ∈ g.Edges, EOk e ∧ InV g e.From ∧ InV g e.To
 d : ∀ x ∈ g.Depots, InV g x
 dn : g.Depots.length ≤ 3
structure Small (g : Graph) : Prop where
 v : g.Vertices.length < 1000000000
 e : g.Edges.length < 1000000000
 d : g.Depots.length < 1000000000
theorem asc_loop (key : α → Int) {l : List α} (hl : l.length < 1000000000) {f : Int → Option (Nx Int (Ex Bool Unit Empty))}
  (hf : ∀ (i : Nat) (x y : α), l[i]? = some x → l[i + 1]? = some y → f ((i + 1 : Nat) : Int) = if key x ≥ key y then some (.done (.a false)) else some (.cont ((i + 1 + 1 : Nat) : Int)))
  (he : ∀ n : Nat, l.length ≤ n → f (n : Int) = some (.done (.b ()))) :
  (Asc key l ∧ loopN fuel f (1 : Int) = some (.b ())) ∨ (¬ Asc key l ∧ loopN fuel f (1 : Int) = some (.a false)) := by
 by_cases h0 : l.length ≤ 1
 ·refine .inl ⟨fun i j hi hj hij => by omega, ?_⟩
  obtain ⟨m, hm⟩ : ∃ m, fuel = m + 1 := ⟨fuel - 1, by have := fuel_pos; omega⟩
  have := he 1 h0
  rw [hm, loopN_succ]
  have e1 : f (1 : Int) = some (.done (.b ())) := this
  rw [e1, stp_d]
 ·obtain ⟨r, h1, h2⟩ := loop_ix (A := Unit) (f := f) (n := l.length - 1) (fun i _ => ((i + 1 : Nat) : Int)) (fun i _ => ∀ a b (ha : a < l.length) (hb : b < l.length), a < b → b ≤ i → key l[a] < key l[b])
   (fun r => (Asc key l ∧ r = .b ()) ∨ (¬ Asc key l ∧ r = .a false))
   (fun i _ hi hI => by
    have hx : l[i]? = some l[i] := List.getElem?_eq_getElem (by omega)
    have hy : l[i + 1]? = some l[i + 1] := List.getElem?_eq_getElem (by omega)
    have := hf i _ _ hx hy
    by_cases hk : key l[i] ≥ key l[i + 1]
    ·rw [if_pos hk] at this
     exact .inr ⟨_, this, .inr ⟨fun hA => by have := hA i (i + 1) (by omega) (by omega) (by omega); omega, rfl⟩⟩
    ·rw [if_neg hk] at this
     refine .inl ⟨(), this, ?_⟩
     intro a b ha hb hab hbi
     by_cases e : b = i + 1
     ·subst e
      by_cases e2 : a = i
      ·subst e2; omega
      ·have := hI a i (by omega) (by omega) (by omega) (Nat.le_refl _); omega
     ·exact hI a b ha hb hab (by omega))
   (fun _ hI => ⟨_, he _ (by omega), .inl ⟨fun i j hi hj hij => hI i j hi hj hij (by omega), rfl⟩⟩)
   (k := fuel) (by have := fuel_pos; omega) (a := ()) (by intro a b _ _ h1 h2; omega)
  rcases h2 with ⟨h2, rfl⟩ | ⟨h2, rfl⟩
  ·exact .inl ⟨h2, h1⟩
  ·exact .inr ⟨h2, h1⟩
theorem pred_wr {i : Nat} (hi : i < 1000000000) : IntKind.i64.wrap (((i + 1 : Nat) : Int) - 1) = (i : Int) := by rw [wr]; omega
theorem asc_v {l : List Vertex} (hl : l.length < 1000000000) : ∃ b, (f50 l).run = some b ∧ (b = true ↔ Asc Vertex.ID l) := by
 have := asc_loop Vertex.ID hl (f := fun s => (f50.l1 l s).run) (fun i x y hx hy => by
   have hlt : i + 1 < l.length := (List.getElem?_eq_some_iff.1 hy).1
   simp only [f50.l1, r_brr, L_eq, cast_lt_t hlt, br_t, pred_wr (show i < 1000000000 by omega), getR_s hx, getR_s hy, r_cl, f51, r_ret, bd_s, succ_wr hlt (by omega), br_dec])
  (fun n hn => by simp only [f50.l1, r_brr, L_eq, cast_lt_f (show ¬ n < l.length by omega), br_f, r_ret])
 simp only [f50, r_loop2]
 rcases this with ⟨h1, h2⟩ | ⟨h1, h2⟩
 ·rw [h2]; exact ⟨true, rfl, by simp [h1]⟩
 ·rw [h2]; exact ⟨false, rfl, by simp [h1]⟩
theorem asc_e {l : List Edge} (hl : l.length < 1000000000) : ∃ b, (f52 l).run = some b ∧ (b = true ↔ Asc Edge.ID l) := by
 have := asc_loop Edge.ID hl (f := fun s => (f52.l1 l s).run) (fun i x y hx hy => by
   have hlt : i + 1 < l.length := (List.getElem?_eq_some_iff.1 hy).1
   simp only [f52.l1, r_brr, L_eq, cast_lt_t hlt, br_t, pred_wr (show i < 1000000000 by omega), getR_s hx, getR_s hy, r_cl, f53, r_ret, bd_s, succ_wr hlt (by omega), br_dec])
  (fun n hn => by simp only [f52.l1, r_brr, L_eq, cast_lt_f (show ¬ n < l.length by omega), br_f, r_ret])
 simp only [f52, r_loop2]
 rcases this with ⟨h1, h2⟩ | ⟨h1, h2⟩
 ·rw [h2]; exact ⟨true, rfl, by simp [h1]⟩
 ·rw [h2]; exact ⟨false, rfl, by simp [h1]⟩
theorem asc_d {l : List Int} (hl : l.length < 1000000000) : ∃ b, (f77 l).run = some b ∧ (b = true ↔ Asc id l) := by
 have := asc_loop id hl (f := fun s => (f77.l1 l s).run) (fun i x y hx hy => by
   have hlt : i + 1 < l.length := (List.getElem?_eq_some_iff.1 hy).1
   simp only [f77.l1, r_brr, L_eq, cast_lt_t hlt, br_t, pred_wr (show i < 1000000000 by omega), getR_s hx, getR_s hy, r_cl, f78, r_ret, bd_s, succ_wr hlt (by omega), br_dec, id])
  (fun n hn => by simp only [f77.l1, r_brr, L_eq, cast_lt_f (show ¬ n < l.length by omega), br_f, r_ret])
 simp only [f77, r_loop2]
 rcases this with ⟨h1, h2⟩ | ⟨h1, h2⟩
 ·rw [h2]; exact ⟨true, rfl, by simp [h1]⟩
 ·rw [h2]; exact ⟨false, rfl, by simp [h1]⟩
theorem cmp_run (a b : Int) : (f37 a b).run = some (if a < b then -1 else if a > b then 1 else 0) := by
 have e1 : (a != a) = false := by simp
 have e2 : (b != b) = false := by simp
 simp only [f37, r_cl, f78, r_ret, bd_s, r_brr, e1, e2, br_f, br_dec]
 split
 ·rfl
 ·split <;> rfl
theorem mid_wr {i j : Nat} (hi : i < 1000000000) (hj : j < 1000000000) : IntKind.i64.wrap ((IntKind.u64.wrap (IntKind.i64.wrap ((i : Int) + (j : Int)))).fdiv (2 ^ (min (1 : Int).toNat IntKind.u64.bits))) = (((i + j) / 2 : Nat) : Int) := by
 have e0 : IntKind.i64.wrap ((i : Int) + (j : Int)) = ((i + j : Nat) : Int) := by rw [wr]; omega
 have e1 : IntKind.u64.wrap ((i + j : Nat) : Int) = ((i + j : Nat) : Int) := by rw [IntKind.wrap_u64]; omega
 have e2 : (2 : Int) ^ (min (1 : Int).toNat IntKind.u64.bits) = 2 := by decide
 rw [e0, e1, e2, Int.fdiv_eq_ediv_of_nonneg _ (by omega), wr] <;> omega
theorem search_run {l : List Vertex} (hl : l.length < 1000000000) (hA : Asc Vertex.ID l) (id : Int) : ∃ p b, (f86 l id).run = some (p, b) ∧ (b = true ↔ ∃ v ∈ l, v.ID = id) := by
 obtain ⟨r, h1, q, rfl, h2, h3, h4⟩ := loop_of (f := fun s : Int × Int => (f86.l1 l id s.1 s.2).run)
  (fun s => ∃ i j : Nat, s = ((i : Int), (j : Int)) ∧ i ≤ j ∧ j ≤ l.length ∧ (∀ k (h : k < l.length), k < i → l[k].ID < id) ∧ ∀ k (h : k < l.length), j ≤ k → id ≤ l[k].ID)
  (fun r => ∃ q : Nat, r = .a (q : Int) ∧ q ≤ l.length ∧ (∀ k (h : k < l.length), k < q → l[k].ID < id) ∧ ∀ k (h : k < l.length), q ≤ k → id ≤ l[k].ID) (fun s => (s.2 - s.1).toNat)
  (by
   rintro _ ⟨i, j, rfl, h1, h2, h3, h4⟩
   simp only [f86.l1, r_brr]
   by_cases hij : i < j
   ·have hm : (i + j) / 2 < l.length := by omega
    have hx : l[(i + j) / 2]? = some l[(i + j) / 2] := by simp [hm]
    have w : IntKind.i64.wrap ((((i + j) / 2 : Nat) : Int) + 1) = (((i + j) / 2 + 1 : Nat) : Int) := by rw [wr]; omega
    simp only [cast_lt_t hij, br_t, mid_wr (show i < 1000000000 by omega) (show j < 1000000000 by omega), getR_s hx, w, f87, r_cl, cmp_run, bd_s, r_ret]
    by_cases hlt : l[(i + j) / 2].ID < id
    ·have e : decide ((if l[(i + j) / 2].ID < id then (-1 : Int) else if l[(i + j) / 2].ID > id then 1 else 0) < 0) = true := by simp [hlt]
     refine .inl ⟨_, by rw [e, r_brr, br_t, r_ret], ⟨(i + j) / 2 + 1, j, rfl, by omega, h2, ?_, h4⟩, by simp; omega⟩
     intro k h hk
     by_cases e : k = (i + j) / 2
     ·subst e; exact hlt
     ·have := hA k ((i + j) / 2) h hm (by omega); omega
    ·have e : decide ((if l[(i + j) / 2].ID < id then (-1 : Int) else if l[(i + j) / 2].ID > id then 1 else 0) < 0) = false := by
      simp only [hlt, if_false]; split <;> simp
     refine .inl ⟨_, by rw [e, r_brr, br_f, r_ret], ⟨i, (i + j) / 2, rfl, by omega, by omega, h3, ?_⟩, by simp; omega⟩
     intro k h hk
     by_cases e : k = (i + j) / 2
     ·subst e; omega
     ·have := hA ((i + j) / 2) k hm h (by omega); omega
   ·obtain rfl : i = j := by omega
    exact .inr ⟨_, by simp only [cast_lt_f hij, br_f, r_ret], i, rfl, h2, h3, h4⟩)
  fuel ((0 : Int), (l.length : Int)) ⟨0, l.length, rfl, Nat.zero_le _, Nat.le_refl _, by intro k _ h; omega, by intro k h1 h2; omega⟩ (by have := fuel_pos; simp; omega)
 simp only [f86, L_eq]
 rw [r_loop1, h1, bd_s, ex_a, r_brr]
 by_cases hq : q < l.length
 ·have hx : l[q]? = some l[q] := by simp [hq]
  simp only [cast_lt_t hq, br_t, getR_s hx, f87, r_cl, cmp_run, bd_s, r_ret]
  refine ⟨_, _, rfl, ?_⟩
  have hge := h4 q hq (Nat.le_refl _)
  have : ((if l[q].ID < id then (-1 : Int) else if l[q].ID > id then 1 else 0) == 0) = decide (l[q].ID = id) := by
   rw [if_neg (by omega)]
   by_cases e : l[q].ID = id
   ·rw [if_neg (by omega)]; simp [e]
   ·rw [if_pos (by omega)]; simp [e]
  rw [this, decide_eq_true_eq]
  constructor
  ·intro e; exact ⟨_, List.getElem_mem hq, e⟩
  ·rintro ⟨v, hv, rfl⟩
   obtain ⟨k, hk, rfl⟩ := List.getElem_of_mem hv
   rcases Nat.lt_trichotomy k q with h | h | h
   ·have := h3 k hk h; omega
   ·subst h; rfl
   ·have := hA q k hq hk h; omega
 ·simp only [cast_lt_f hq, br_f, r_ret]
  refine ⟨_, _, rfl, ?_⟩
  constructor
  ·intro h; cases h
  ·rintro ⟨v, hv, rfl⟩
   obtain ⟨k, hk, rfl⟩ := List.getElem_of_mem hv
   have := h3 k hk (by omega); omega
/-! The whole. -/
theorem any_loop {l : List α} (hl : l.length < 1000000000) {p : α → Bool} {f : Int → Option (Nx Int (Ex Int Unit Empty))}
  (hf : ∀ (i : Nat) (x : α), l[i]? = some x → f (i : Int) = if p x then some (.done (.a (i : Int))) else some (.cont ((i + 1 : Nat) : Int))) (he : f (l.length : Int) = some (.done (.b ()))) :
  (l.any p = false ∧ loopN fuel f (0 : Int) = some (.b ())) ∨ ∃ i : Nat, l.any p = true ∧ loopN fuel f (0 : Int) = some (.a (i : Int)) := by
 have key : loopN fuel f (0 : Int) = _ := loop_find (l := l) (fun i : Nat => (i : Int)) p (fun i _ => (.a (i : Int) : Ex Int Unit Empty)) (.b ()) hf he (k := fuel) (by have := fuel_pos; omega)
 rw [key]
 cases h : l.findIdx? p with
 | none =>
  refine .inl ⟨?_, rfl⟩
  rw [List.any_eq_false]; intro x hx; simp [List.findIdx?_eq_none_iff.1 h x hx]
 | some i =>
  obtain ⟨h1, h2, _⟩ := List.findIdx?_eq_some_iff_getElem.1 h
  have hx : l[i]? = some l[i] := by simp [h1]
  refine .inr ⟨i, List.any_eq_true.2 ⟨_, List.getElem_mem h1, h2⟩, ?_⟩
  simp only [hx]
theorem nneg (i : Nat) : decide ((i : Int) ≥ 0) = true := by simp
theorem vok_run (v : Vertex) : ∃ b, (f58 v).run = some b ∧ (b = true ↔ VOk v) := by
 simp only [f58, r_cl, f75, r_ret, bd_s, r_brr]
 have iff : VOk v ↔ (0 ≤ v.ID ∧ v.ID ≤ 23) ∧ (0 ≤ v.Side ∧ v.Side ≤ 3) := ⟨fun h => ⟨h.id, h.side⟩, fun h => ⟨h.1, h.2⟩⟩
 by_cases h : 0 ≤ v.ID ∧ v.ID ≤ 23
 ·have e : (decide ((0 : Int) ≤ v.ID) && decide (v.ID ≤ (23 : Int))) = true := by simp [h.1, h.2]
  rw [e, br_t]; exact ⟨_, rfl, by rw [iff]; simp [h]⟩
 ·have e : (decide ((0 : Int) ≤ v.ID) && decide (v.ID ≤ (23 : Int))) = false := by simp; omega
  rw [e, br_f]; exact ⟨_, rfl, by rw [iff]; simp [h]⟩
theorem rng (x lo hi : Int) : (decide (lo ≤ x) && decide (x ≤ hi)) = decide (lo ≤ x ∧ x ≤ hi) := by simp
theorem eok_run (v : Edge) : ∃ b, (f55 v).run = some b ∧ (b = true ↔ EOk v) := by
 simp only [f55, r_cl, f75, r_ret, bd_s, r_brr, rng, br_dec]
 have iff : EOk v ↔ (0 ≤ v.ID ∧ v.ID ≤ 39) ∧ (0 ≤ v.From ∧ v.From ≤ 23) ∧ (0 ≤ v.To ∧ v.To ≤ 23) ∧ (-1000 ≤ v.Weight ∧ v.Weight ≤ 1000) ∧ (0 ≤ v.Cap ∧ v.Cap ≤ 1000) := ⟨fun h => ⟨h.id, h.fr, h.to, h.wt, h.cap⟩, fun h => ⟨h.1, h.2.1, h.2.2.1, h.2.2.2.1, h.2.2.2.2⟩⟩
 rw [iff]
 by_cases h1 : 0 ≤ v.ID ∧ v.ID ≤ 39
 ·rw [if_pos h1]
  by_cases h2 : 0 ≤ v.From ∧ v.From ≤ 23
  ·rw [if_pos h2]
   by_cases h3 : 0 ≤ v.To ∧ v.To ≤ 23
   ·rw [if_pos h3]
    by_cases h4 : -1000 ≤ v.Weight ∧ v.Weight ≤ 1000
    ·rw [if_pos h4]; exact ⟨_, rfl, by rw [decide_eq_true_eq]; exact ⟨fun h => ⟨h1, h2, h3, h4, h⟩, fun h => h.2.2.2.2⟩⟩
    ·rw [if_neg h4]; exact ⟨_, rfl, ⟨fun h => (by cases h), fun h => absurd h.2.2.2.1 h4⟩⟩
   ·rw [if_neg h3]; exact ⟨_, rfl, ⟨fun h => (by cases h), fun h => absurd h.2.2.1 h3⟩⟩
  ·rw [if_neg h2]; exact ⟨_, rfl, ⟨fun h => (by cases h), fun h => absurd h.2.1 h2⟩⟩
 ·rw [if_neg h1]; exact ⟨_, rfl, ⟨fun h => (by cases h), fun h => absurd h.1 h1⟩⟩
theorem inV_run {g : Graph} (hg : g.Vertices.length < 1000000000) (hA : Asc Vertex.ID g.Vertices) (x : Int) : ∃ b, (f56v1 x (Graph_change.mk g)).run = some b ∧ (b = true ↔ InV g x) := by
 obtain ⟨p, b, h1, h2⟩ := search_run hg hA x
 simp only [f56v1, f76v1, r_cl, h1, bd_s, r_ret]
 exact ⟨b, rfl, h2⟩
theorem anyv_run {l : List Vertex} (hl : l.length < 1000000000) : ∃ b, (f30 l).run = some b ∧ (b = false ↔ ∀ v ∈ l, VOk v) := by
 have hv : ∀ v : Vertex, (f57 v).run = some (!((f58 v).run.getD false)) := by
  intro v
  obtain ⟨b, h1, h2⟩ := vok_run v
  simp only [f57, r_cl, h1, bd_s, r_ret]; rfl
 have key := any_loop hl (p := fun v => !((f58 v).run.getD false)) (f := fun s => (f62.l1 l s).run) (fun i x hx => by
   have hlt : i < l.length := (List.getElem?_eq_some_iff.1 hx).1
   simp only [f62.l1, r_brr, L_eq, cast_lt_t hlt, br_t, getR_s hx, r_cl, hv, bd_s, r_ret, succ_wr hlt (by omega)]
   rw [br_if])
  (by simp only [f62.l1, r_brr, L_eq, cast_lt_f (Nat.lt_irrefl _), br_f, r_ret])
 refine ⟨l.any fun v => !((f58 v).run.getD false), ?_, ?_⟩
 ·simp only [f30, f62, r_cl]
  rcases key with ⟨k1, k2⟩ | ⟨i, k1, k2⟩
  ·rw [r_loop2, k2, bd_s, ex_b, r_ret, bd_s, r_ret, k1]; rfl
  ·rw [r_loop2, k2, bd_s, ex_a, r_ret, bd_s, r_ret, k1, nneg]
 ·rw [List.any_eq_false]
  constructor
  ·intro h v hv
   obtain ⟨b, h1, h2⟩ := vok_run v
   have := h v hv
   rw [h1] at this
   exact h2.1 (by simpa using this)
  ·intro h v hv
   obtain ⟨b, h1, h2⟩ := vok_run v
   rw [h1]; simp [h2.2 (h v hv)]
theorem anye_run {g : Graph} (hv : g.Vertices.length < 1000000000) (he : g.Edges.length < 1000000000) (hA : Asc Vertex.ID g.Vertices) : ∃ b, (f47v2 g.Edges (Graph_change.mk g)).run = some b ∧ (b = false ↔ ∀ e ∈ g.Edges, EOk e ∧ InV g e.From ∧ InV g e.To) := by
 have hb : ∀ e : Edge, ∃ b, (f54v1 e (Graph_change.mk g)).run = some b ∧ (b = false ↔ EOk e ∧ InV g e.From ∧ InV g e.To) := by
  intro e
  obtain ⟨b1, h1, k1⟩ := eok_run e
  obtain ⟨b2, h2, k2⟩ := inV_run hv hA e.From
  obtain ⟨b3, h3, k3⟩ := inV_run hv hA e.To
  simp only [f54v1, r_cl, h1, h2, h3, bd_s, r_brr, r_ret]
  cases b1 with
  | false => exact ⟨true, rfl, by simp [← k1]⟩
  | true => cases b2 with
   | false => exact ⟨true, rfl, by simp [← k2]⟩
   | true => exact ⟨!b3, rfl, by simp [← k1, ← k2, ← k3]⟩
 have hp : ∀ e : Edge, (f54v1 e (Graph_change.mk g)).run = some ((f54v1 e (Graph_change.mk g)).run.getD false) := by
  intro e; obtain ⟨b, h, _⟩ := hb e; rw [h]; rfl
 have key := any_loop he (p := fun e => (f54v1 e (Graph_change.mk g)).run.getD false) (f := fun s => (f74v2.l1 g.Edges (Graph_change.mk g) s).run) (fun i x hx => by
   have hlt : i < g.Edges.length := (List.getElem?_eq_some_iff.1 hx).1
   simp only [f74v2.l1, r_brr, L_eq, cast_lt_t hlt, br_t, getR_s hx, r_cl, r_ret, succ_wr hlt (by omega)]
   rw [hp x, bd_s, br_if]; rfl)
  (by simp only [f74v2.l1, r_brr, L_eq, cast_lt_f (Nat.lt_irrefl _), br_f, r_ret])
 refine ⟨g.Edges.any fun e => (f54v1 e (Graph_change.mk g)).run.getD false, ?_, ?_⟩
 ·simp only [f47v2, f74v2, r_cl]
  rcases key with ⟨k1, k2⟩ | ⟨i, k1, k2⟩
  ·rw [r_loop2, k2, bd_s, ex_b, r_ret, bd_s, r_ret, k1]; rfl
  ·rw [r_loop2, k2, bd_s, ex_a, r_ret, bd_s, r_ret, k1, nneg]
 ·rw [List.any_eq_false]
  constructor
  ·intro h e he
   obtain ⟨b, h1, h2⟩ := hb e
   have := h e he
   rw [h1] at this
   exact h2.1 (by simpa using this)
  ·intro h e he
   obtain ⟨b, h1, h2⟩ := hb e
   rw [h1]; simp [h2.2 (h e he)]
theorem anyd_run {g : Graph} (hv : g.Vertices.length < 1000000000) (hd : g.Depots.length < 1000000000) (hA : Asc Vertex.ID g.Vertices) : ∃ b, (f79v1 g.Depots (Graph_change.mk g)).run = some b ∧ (b = false ↔ ∀ x ∈ g.Depots, InV g x) := by
 have hb : ∀ x : Int, ∃ b, (f80v1 x (Graph_change.mk g)).run = some b ∧ (b = false ↔ InV g x) := by
  intro x
  obtain ⟨b, h1, h2⟩ := inV_run hv hA x
  simp only [f80v1, r_cl, h1, bd_s, r_ret]
  exact ⟨!b, rfl, by simp [← h2]⟩
 have hp : ∀ x : Int, (f80v1 x (Graph_change.mk g)).run = some ((f80v1 x (Graph_change.mk g)).run.getD false) := by
  intro e; obtain ⟨b, h, _⟩ := hb e; rw [h]; rfl
 have key := any_loop hd (p := fun e => (f80v1 e (Graph_change.mk g)).run.getD false) (f := fun s => (f85v5.l1 g.Depots (Graph_change.mk g) s).run) (fun i x hx => by
   have hlt : i < g.Depots.length := (List.getElem?_eq_some_iff.1 hx).1
   simp only [f85v5.l1, r_brr, L_eq, cast_lt_t hlt, br_t, getR_s hx, r_cl, r_ret, succ_wr hlt (by omega)]
   rw [hp x, bd_s, br_if]; rfl)
  (by simp only [f85v5.l1, r_brr, L_eq, cast_lt_f (Nat.lt_irrefl _), br_f, r_ret])
 refine ⟨g.Depots.any fun e => (f80v1 e (Graph_change.mk g)).run.getD false, ?_, ?_⟩
 ·simp only [f79v1, f85v5, r_cl]
  rcases key with ⟨k1, k2⟩ | ⟨i, k1, k2⟩
  ·rw [r_loop2, k2, bd_s, ex_b, r_ret, bd_s, r_ret, k1]; rfl
  ·rw [r_loop2, k2, bd_s, ex_a, r_ret, bd_s, r_ret, k1, nneg]
 ·rw [List.any_eq_false]
  constructor
  ·intro h e he
   obtain ⟨b, h1, h2⟩ := hb e
   have := h e he
   rw [h1] at this
   exact h2.1 (by simpa using this)
  ·intro h e he
   obtain ⟨b, h1, h2⟩ := hb e
   rw [h1]; simp [h2.2 (h e he)]
theorem valid_run {g : Graph} (hs : Small g) : ∃ b, (f21v1 g).run = some b ∧ (b = true ↔ GV g) := by
 obtain ⟨b1, h1, k1⟩ := asc_v hs.v
 obtain ⟨b2, h2, k2⟩ := asc_e hs.e
 simp only [f21v1, r_join1, r_brr, r_cl, h1, h2, bd_s, r_ret]
 cases b1 with
 | false => exact ⟨false, rfl, by simp; intro h; simpa using k1.2 h.va⟩
 | true =>
  have hA := k1.1 rfl
  cases b2 with
  | false => exact ⟨false, rfl, by simp; intro h; simpa using k2.2 h.ea⟩
  | true =>
   obtain ⟨b3, h3, k3⟩ := anyv_run hs.v
   obtain ⟨b4, h4, k4⟩ := anye_run hs.v hs.e hA
   simp only [Bool.not_true, br_f, br_t, r_ret, bd_s, ex_a, h3]
   cases b3 with
   | true => exact ⟨false, rfl, by simp; intro h; simpa using k3.2 h.v⟩
   | false =>
    simp only [Bool.not_false, br_t, h4, bd_s]
    cases b4 with
    | true => exact ⟨false, rfl, by simp; intro h; simpa using k4.2 h.e⟩
    | false =>
     simp only [Bool.not_false, br_t, f59v1, r_brr, L_eq]
     by_cases hn : g.Depots.length ≤ 3
     ·obtain ⟨b5, h5, k5⟩ := asc_d hs.d
      obtain ⟨b6, h6, k6⟩ := anyd_run hs.v hs.d hA
      have e : decide ((g.Depots.length : Int) ≤ 3) = true := by simp; omega
      simp only [e, br_t, r_cl, h5, bd_s, r_brr]
      cases b5 with
      | false => exact ⟨false, rfl, by simp; intro h; simpa using k5.2 h.da⟩
      | true =>
       simp only [br_t, h6, bd_s, r_ret]
       refine ⟨!b6, rfl, ?_⟩
       constructor
       ·intro h; exact ⟨hA, k2.1 rfl, k5.1 rfl, k3.1 rfl, k4.1 rfl, k6.1 (by simpa using h), hn⟩
       ·intro h; simpa using k6.2 h.d
     ·have e : decide ((g.Depots.length : Int) ≤ 3) = false := by simp; omega
      simp only [e, br_f, r_ret, bd_s]
      exact ⟨false, rfl, by simp; intro h; exact hn h.dn⟩
end Trd
end Go.Fx.Gen
