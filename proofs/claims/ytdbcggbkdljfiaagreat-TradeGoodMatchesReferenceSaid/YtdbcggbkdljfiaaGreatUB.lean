/- Trade: both checks of a view say the same. -/
import Derived.Test.YtdbcggbkdljfiaaGreatUA
namespace Go.Fx.Gen
open Go.Fx Go.Proofs
set_option linter.unusedVariables false
namespace Trd
open Go.TT

/-- The label of a vertex in a view. -/
def tb (v : View) (id : Int) : A3_Int := (thr v.Labels id).getD ⟨0, 0, 0⟩
def ow (v : View) : A3_Int := tb v v.Vertex.ID
/-- Wishes of the vertex of a view. -/
def vw (v : View) (e : Edge) : Bool := e.Directed && (e.From == v.Vertex.ID && (e.To != v.Vertex.ID && decide ((tb v e.To).x0 ≥ 1)))
/-- Edges with which it is given something. -/
def gv (v : View) (e : Edge) : Bool := e.Directed && (e.To == v.Vertex.ID && (e.From != v.Vertex.ID && (decide ((tb v e.From).x0 ≥ 1) && (tb v e.From).x1 == e.ID)))
def cnt (v : View) : Nat := (v.Edges.filter (gv v)).length
/-- Wishes that are preferred to its edge. -/
def Bt (v : View) (e : Edge) : Prop := (e ∈ v.Edges ∧ vw v e = true) ∧ ∀ e' ∈ v.Edges, vw v e' = true → e'.ID = (ow v).x1 → elt e e' = true
def Own (v : View) (e : Edge) : Prop := (e ∈ v.Edges ∧ vw v e = true) ∧ e.ID = (ow v).x1
def Waits (v : View) : Prop := ∃ e, Bt v e ∧ (tb v e.To).x0 = (ow v).x0 - 1
def First (v : View) : Prop := (ow v).x0 = 1 ∨ Waits v

/-- What both checks ask of the label of a trader. -/
structure GoodI (v : View) : Prop where
  r0 : 1 ≤ (ow v).x0 ∧ (ow v).x0 ≤ 24
  r2 : 0 ≤ (ow v).x2 ∧ (ow v).x2 ≤ 23
  lt : ∀ e, Bt v e → (tb v e.To).x0 < (ow v).x0
  nx : ((ow v).x1 = -1 ∧ cnt v = 0 ∧ (ow v).x2 = 0 ∧ First v) ∨
    ∃ e, Own v e ∧ (tb v e.To).x0 = (ow v).x0 ∧ cnt v = 1 ∧ (First v → (ow v).x2 = 0) ∧ (¬ First v → (ow v).x2 = IntKind.i64.wrap ((tb v e.To).x2 + 1))
structure GoodV (v : View) : Prop where
  sn : SeenOk v
  no : v.Vertex.Side ≠ 3 → ow v = ⟨0, -1, 0⟩
  tr : v.Vertex.Side = 3 → GoodI v

theorem own_thr {v : View} (h : SeenOk v) : thr v.Labels v.Vertex.ID = some (ow v) := by obtain ⟨x, h1, _⟩ := h.own; unfold ow tb; rw [h1]; rfl
theorem own_bnd {v : View} (h : SeenOk v) : bnd (ow v) := by obtain ⟨x, h1, h2⟩ := h.own; unfold ow tb; rw [h1]; exact h2
theorem from_thr {v : View} (h : SeenOk v) {e : Edge} (he : e ∈ v.Edges) : thr v.Labels e.From = some (tb v e.From) := by obtain ⟨x, h1, _⟩ := (h.ends e he).1; unfold tb; rw [h1]; rfl
theorem to_thr {v : View} (h : SeenOk v) {e : Edge} (he : e ∈ v.Edges) : thr v.Labels e.To = some (tb v e.To) := by obtain ⟨x, h1, _⟩ := (h.ends e he).2; unfold tb; rw [h1]; rfl
theorem to_bnd {v : View} (h : SeenOk v) {e : Edge} (he : e ∈ v.Edges) : bnd (tb v e.To) := by obtain ⟨x, h1, h2⟩ := (h.ends e he).2; unfold tb; rw [h1]; exact h2

theorem vw_iff {v : View} {e : Edge} : vw v e = true ↔ e.Directed = true ∧ e.From = v.Vertex.ID ∧ e.To ≠ v.Vertex.ID ∧ 1 ≤ (tb v e.To).x0 := by unfold vw; simp [and_assoc]

theorem id_inj {v : View} (h : SeenOk v) {a b : Edge} (ha : a ∈ v.Edges) (hb : b ∈ v.Edges) (he : a.ID = b.ID) : a = b := by
  obtain ⟨i, hi, rfl⟩ := List.getElem_of_mem ha
  obtain ⟨j, hj, rfl⟩ := List.getElem_of_mem hb
  rcases Nat.lt_trichotomy i j with h1 | h1 | h1
  · exact absurd he (h.d i j hi hj h1)
  · subst h1; rfl
  · exact absurd he.symm (h.d j i hj hi h1)

theorem veok_of {v : View} (h : SeenOk v) {e : Edge} (he : e ∈ v.Edges) : eok e := by
  obtain ⟨⟨a, b⟩, _, _, _, c, d⟩ := h.p e he
  exact ⟨c, d, a, by omega⟩

theorem dist_nodup {l : List Edge} (h : Dist l) : l.Nodup := by
  rw [List.Nodup, List.pairwise_iff_getElem]
  intro i j hi hj hij e
  exact h i j hi hj hij (by rw [e])

/-! The wishes in their order. -/
def ows (v : View) : List Edge := srt (v.Edges.filter (vw v))
theorem ows_all {v : View} (hs : SmallV v) (h : SeenOk v) : (f73v1 (v.Edges.filter (vw v))).run = some (ows v) ∧ (ows v).Perm (v.Edges.filter (vw v)) ∧ (ows v).Pairwise fun x y => elt y x = false :=
  srt_ok (Nat.lt_of_le_of_lt (List.length_filter_le ..) hs.e) (fun x hx => veok_of h (List.mem_filter.1 hx).1)
theorem mem_ows {v : View} (hs : SmallV v) (h : SeenOk v) {e : Edge} : e ∈ ows v ↔ e ∈ v.Edges ∧ vw v e = true := by rw [(ows_all hs h).2.1.mem_iff, List.mem_filter]
theorem ows_len {v : View} (hs : SmallV v) (h : SeenOk v) : (ows v).length < 65536 := by
  rw [(ows_all hs h).2.1.length_eq]; exact Nat.lt_of_le_of_lt (List.length_filter_le ..) hs.e
theorem ows_lt {v : View} (hs : SmallV v) (h : SeenOk v) {i j : Nat} (hi : i < (ows v).length) (hj : j < (ows v).length) (hij : i < j) : elt (ows v)[i] (ows v)[j] = true := by
  have h1 := (List.pairwise_iff_getElem.1 (ows_all hs h).2.2) i j hi hj hij
  have nd : (ows v).Nodup := (ows_all hs h).2.1.nodup_iff.2 ((dist_nodup h.d).filter _)
  have h2 : (ows v)[i] ≠ (ows v)[j] := (List.pairwise_iff_getElem.1 nd) i j hi hj hij
  have h3 : (ows v)[i].ID ≠ (ows v)[j].ID := fun e => h2 (id_inj h ((mem_ows hs h).1 (List.getElem_mem hi)).1 ((mem_ows hs h).1 (List.getElem_mem hj)).1 e)
  rw [elt_not] at h1; rw [elt_iff]; omega

theorem vtrader_run {v : View} {m : List (Int × A3_Int)} (hm : ∀ id, mapGet m id = thr v.Labels id) (id : Int) : (f37 m id).run = some (decide ((tb v id).x0 ≥ 1)) := by
  simp only [f37, r_look, r_ret, hm]; rfl

theorem ows_run {v : View} (hs : SmallV v) (h : SeenOk v) {m : List (Int × A3_Int)} (hm : ∀ id, mapGet m id = thr v.Labels id) : (f38v1 v.Edges v.Vertex.ID m).run = some (ows v) := by
  have hse := hs.e
  have key : loopN fuel (fun s : Int × List Edge => (f38v1.l1 v.Edges v.Vertex.ID m s.1 s.2).run) ((0 : Int), ([] : List Edge)) = some (.a (v.Edges.filter (vw v))) := by
    obtain ⟨r, h1, rfl⟩ := loop_ix (A := List Edge) (f := fun s : Int × List Edge => (f38v1.l1 v.Edges v.Vertex.ID m s.1 s.2).run) (n := v.Edges.length) (fun i a => ((i : Int), a)) (fun i a => a = (v.Edges.take i).filter (vw v)) (fun r => r = .a (v.Edges.filter (vw v)))
      (fun i a hi ha => by
        have hx := List.getElem?_eq_getElem hi
        have ht : (v.Edges.take (i + 1)).filter (vw v) = if vw v v.Edges[i] = true then a ++ [v.Edges[i]] else a := by
          rw [List.take_succ_eq_append_getElem hi, List.filter_append, ← ha]
          by_cases h : vw v v.Edges[i] = true <;> simp [h]
        have hlen : a.length ≤ i := by rw [ha]; exact Nat.le_trans (List.length_filter_le ..) (by simp; omega)
        refine .inl ⟨_, ?_, ht.symm⟩
        simp only [f38v1.l1, r_brr, L_eq, cast_lt_t hi, br_t, getR_s hx, succ_wr hi (by omega), r_join1]
        generalize v.Edges[i] = x
        simp only [r_cl, vtrader_run hm, bd_s, r_ret]
        have hb : (br x.Directed (br (x.From == v.Vertex.ID) (br (x.To != v.Vertex.ID) (some (.a (decide ((tb v x.To).x0 ≥ 1)))) (some (.a false))) (some (.a false))) (some (.a false)) : Option (Ex Bool Empty Empty)) = some (.a (vw v x)) := by
          unfold vw
          cases x.Directed <;> cases (x.From == v.Vertex.ID) <;> cases (x.To != v.Vertex.ID) <;> simp [br]
        rw [hb, bd_s, ex_a]
        by_cases h : vw v x = true
        · rw [h, br_t, ap_s (by rw [List.length_append]; simp; unfold bigLen; omega), if_pos rfl]; rfl
        · have h : vw v x = false := by simpa using h
          rw [h, br_f, if_neg (by simp)])
      (fun a ha => by
        rw [List.take_length] at ha
        subst ha
        exact ⟨_, by simp only [f38v1.l1, r_brr, L_eq, cast_lt_f (Nat.lt_irrefl _), br_f, r_ret], rfl⟩)
      (k := fuel) (by have := fuel_pos; omega) (a := []) (by simp)
    exact h1
  simp only [f38v1]
  rw [r_loop1, key, bd_s, ex_a, r_cl, (ows_all hs h).1, bd_s, r_ret]

/-! The program's walk through the wishes. -/
theorem scan9 {v : View} (hs : SmallV v) (h : SeenOk v) (hr : 1 ≤ (ow v).x0 ∧ (ow v).x0 ≤ 24) {m : List (Int × A3_Int)} {b : Bool} (hm : ∀ id, mapGet m id = thr v.Labels id) :
    ∃ q, loopN fuel (fun s : Bool × Int => (f9.l1 (m, b) (ow v) (ows v) s.1 s.2).run) (false, (0 : Int)) = some q ∧
      ((q = .a false ∧ ∃ e, Bt v e ∧ (ow v).x0 ≤ (tb v e.To).x0) ∨
       ∃ n w, q = .b (n, w) ∧ (∀ e, Bt v e → (tb v e.To).x0 < (ow v).x0) ∧ (w = true ↔ Waits v) ∧ ((∃ e, Own v e ∧ n = e.To) ∨ (n = -1 ∧ ¬ ∃ e, Own v e))) := by
  have hl := ows_len hs h
  have btj : ∀ j (hj : j < (ows v).length), (∀ k (hk : k < (ows v).length), k ≤ j → (ows v)[k].ID ≠ (ow v).x1) → Bt v (ows v)[j] := by
    intro j hj hh
    refine ⟨(mem_ows hs h).1 (List.getElem_mem hj), fun e' he' hv' hi' => ?_⟩
    obtain ⟨k, hk, rfl⟩ := List.getElem_of_mem ((mem_ows hs h).2 ⟨he', hv'⟩)
    refine ows_lt hs h hj hk ?_
    apply Classical.byContradiction
    intro hn
    exact hh k hk (by omega) hi'
  refine loop_ix (A := Bool) (f := fun s : Bool × Int => (f9.l1 (m, b) (ow v) (ows v) s.1 s.2).run) (n := (ows v).length) (fun i w => (w, (i : Int)))
    (fun i w => (∀ j (hj : j < (ows v).length), j < i → (ows v)[j].ID ≠ (ow v).x1 ∧ (tb v (ows v)[j].To).x0 < (ow v).x0) ∧ (w = true ↔ ∃ j, ∃ hj : j < (ows v).length, j < i ∧ (tb v (ows v)[j].To).x0 = (ow v).x0 - 1)) _
    (fun i w hi ⟨h1, h2⟩ => ?_) (fun w ⟨h1, h2⟩ => ?_) (k := fuel) (by have := fuel_pos; omega) (a := false) ⟨by intro j _ h; omega, by simp⟩
  · have hx := List.getElem?_eq_getElem hi
    simp only [f9.l1, r_brr, L_eq, cast_lt_t hi, br_t, getR_s hx, succ_wr hi (by omega)]
    by_cases e1 : (ows v)[i].ID = (ow v).x1
    · rw [show ((ows v)[i].ID == (ow v).x1) = true by simp [e1], br_t, r_ret]
      have bt_lt : ∀ e, Bt v e → ∃ j, ∃ hj : j < (ows v).length, j < i ∧ e = (ows v)[j] := by
        intro e he
        obtain ⟨j, hj, rfl⟩ := List.getElem_of_mem ((mem_ows hs h).2 he.1)
        have := he.2 _ ((mem_ows hs h).1 (List.getElem_mem hi)).1 ((mem_ows hs h).1 (List.getElem_mem hi)).2 e1
        refine ⟨j, hj, ?_, rfl⟩
        rcases Nat.lt_trichotomy j i with h3 | h3 | h3
        · exact h3
        · subst h3; rw [elt_iff] at this; omega
        · have h4 := ows_lt hs h hi hj h3
          rw [elt_iff] at this h4; omega
      refine .inr ⟨_, rfl, .inr ⟨_, _, rfl, fun e he => ?_, h2.trans ⟨?_, ?_⟩, .inl ⟨_, ⟨(mem_ows hs h).1 (List.getElem_mem hi), e1⟩, rfl⟩⟩⟩
      · obtain ⟨j, hj, hji, rfl⟩ := bt_lt e he
        exact (h1 j hj hji).2
      · rintro ⟨j, hj, hji, e⟩
        exact ⟨_, btj j hj (fun k hk hkj => (h1 k hk (by omega)).1), e⟩
      · rintro ⟨e, he, e2⟩
        obtain ⟨j, hj, hji, rfl⟩ := bt_lt e he
        exact ⟨j, hj, hji, e2⟩
    · have bti : Bt v (ows v)[i] := btj i hi fun k hk hki => by
        by_cases e : k = i
        · subst e; exact e1
        · exact (h1 k hk (by omega)).1
      have hb := to_bnd h ((mem_ows hs h).1 (List.getElem_mem hi)).1
      have ho := own_bnd h
      rw [show ((ows v)[i].ID == (ow v).x1) = false by simp [e1], br_f, r_look, hm]
      show _ ∨ _
      rw [show ((thr v.Labels (ows v)[i].To).getD (A3_Int.mk 0 0 0)) = tb v (ows v)[i].To from rfl, r_brr]
      by_cases e2 : (tb v (ows v)[i].To).x0 ≥ (ow v).x0
      · rw [decide_eq_true e2, br_t, r_ret]
        exact .inr ⟨_, rfl, .inl ⟨rfl, _, bti, e2⟩⟩
      · rw [decide_eq_false e2, br_f, r_brr]
        have nx : ∀ j (hj : j < (ows v).length), j < i + 1 → (ows v)[j].ID ≠ (ow v).x1 ∧ (tb v (ows v)[j].To).x0 < (ow v).x0 := by
          intro j hj hji
          by_cases e : j = i
          · subst e; exact ⟨e1, by omega⟩
          · exact h1 j hj (by omega)
        cases w with
        | true =>
          rw [br_t, r_ret]
          refine .inl ⟨true, rfl, nx, ⟨fun _ => ?_, fun _ => rfl⟩⟩
          obtain ⟨j, hj, hji, e⟩ := h2.1 rfl
          exact ⟨j, hj, by omega, e⟩
        | false =>
          rw [br_f, r_look, hm, r_ret]
          refine .inl ⟨_, rfl, nx, ?_⟩
          rw [show ((thr v.Labels (ows v)[i].To).getD (A3_Int.mk 0 0 0)) = tb v (ows v)[i].To from rfl, beq_iff_eq, wr (by unfold bnd at ho; omega)]
          constructor
          · intro e; exact ⟨i, hi, by omega, e⟩
          · rintro ⟨j, hj, hji, e⟩
            by_cases e3 : j = i
            · subst e3; exact e
            · have := h2.2 ⟨j, hj, by omega, e⟩; cases this
  · refine ⟨_, by simp only [f9.l1, r_brr, L_eq, cast_lt_f (Nat.lt_irrefl _), br_f, r_ret], .inr ⟨_, _, rfl, fun e he => ?_, h2.trans ⟨?_, ?_⟩, .inr ⟨rfl, ?_⟩⟩⟩
    · obtain ⟨j, hj, rfl⟩ := List.getElem_of_mem ((mem_ows hs h).2 he.1)
      exact (h1 j hj hj).2
    · rintro ⟨j, hj, _, e⟩
      exact ⟨_, btj j hj (fun k hk _ => (h1 k hk hk).1), e⟩
    · rintro ⟨e, he, e2⟩
      obtain ⟨j, hj, rfl⟩ := List.getElem_of_mem ((mem_ows hs h).2 he.1)
      exact ⟨j, hj, hj, e2⟩
    · rintro ⟨e, he, e2⟩
      obtain ⟨j, hj, rfl⟩ := List.getElem_of_mem ((mem_ows hs h).2 he)
      exact (h1 j hj hj).1 e2

theorem cnt_run {v : View} (hs : SmallV v) {m : List (Int × A3_Int)} {b : Bool} (hm : ∀ id, mapGet m id = thr v.Labels id) :
    loopN fuel (fun s : Int × Int => (f9.l2 v (m, b) s.1 s.2).run) ((0 : Int), (0 : Int)) = some (.a (cnt v : Int)) := by
  have hse := hs.e
  obtain ⟨r, h1, rfl⟩ := loop_ix (A := Int) (f := fun s : Int × Int => (f9.l2 v (m, b) s.1 s.2).run) (n := v.Edges.length) (fun i a => (a, (i : Int))) (fun i a => a = (((v.Edges.take i).filter (gv v)).length : Int)) (fun r => r = .a (cnt v : Int))
    (fun i a hi ha => by
      have hx := List.getElem?_eq_getElem hi
      have ht : ((((v.Edges.take (i + 1)).filter (gv v)).length : Nat) : Int) = if gv v v.Edges[i] = true then a + 1 else a := by
        rw [List.take_succ_eq_append_getElem hi, List.filter_append, List.length_append, ha]
        by_cases h : gv v v.Edges[i] = true <;> simp [h]
      have hlen : 0 ≤ a ∧ a ≤ i := by rw [ha]; exact ⟨by omega, Int.ofNat_le.2 (Nat.le_trans (List.length_filter_le ..) (by simp; omega))⟩
      refine .inl ⟨_, ?_, ht.symm⟩
      simp only [f9.l2, r_brr, L_eq, cast_lt_t hi, br_t, getR_s hx, succ_wr hi (by omega)]
      generalize v.Edges[i] = x
      simp only [r_cl, vtrader_run hm, bd_s, r_ret, r_look, hm, r_brr, wr (show -9223372036854775808 ≤ a + 1 ∧ a + 1 ≤ 9223372036854775807 by omega)]
      rw [show ((thr v.Labels x.From).getD (A3_Int.mk 0 0 0)) = tb v x.From from rfl]
      unfold gv
      cases x.Directed <;> cases (x.To == v.Vertex.ID) <;> cases (x.From != v.Vertex.ID) <;> cases decide ((tb v x.From).x0 ≥ 1) <;> cases ((tb v x.From).x1 == x.ID) <;> simp [br])
    (fun a ha => by
      rw [List.take_length] at ha
      subst ha
      exact ⟨_, by simp only [f9.l2, r_brr, L_eq, cast_lt_f (Nat.lt_irrefl _), br_f, r_ret]; rfl, rfl⟩)
    (k := fuel) (by have := fuel_pos; omega) (a := 0) (by simp)
  exact h1
end Trd
end Go.Fx.Gen
