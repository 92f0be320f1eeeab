/- Package forest: a view is good exactly if its labels fit. -/
import Derived.Test.YtiecopfelbfkiaaRC
namespace Go.Fx.Gen
open Go.Fx Go.Proofs
set_option linter.unusedVariables false
namespace Frs
open Trd
variable {g : Graph}

theorem r_neN {P : Program} {α β : Type} [Cel α] {l : List α} {k : Prg P β} (h : l ≠ []) : (neN l k).run = k.run := by
  have : (neN l k).run = bd (chk (l.isEmpty = false)) fun _ => k.run := rfl
  rw [this, chk_t (by cases l with | nil => exact absurd rfl h | cons => rfl), bd_s]

/-! Its edges are in their limits. -/
theorem wrong_run (hv : GV g) {e : Edge} {w : View} (he : e ∈ g.Edges) (hx : atB w.Vertex.ID e = true) {last : Int} (hl : last < e.ID) : (f59 e last w).run = some false := by
  obtain ⟨ho, _, _⟩ := hv.e e he
  have h1 := ho.id
  have h2 := ho.fr
  have h3 := ho.to
  have h4 := ho.wt
  simp only [f59]
  rw [r_join1, r_brr, show decide (e.ID > last) = true by simp; omega, br_t, r_brr, show decide (e.ID < 40) = true by simp; omega, br_t, r_brr, show decide (e.Weight ≥ -1000) = true by simp; omega, br_t, r_ret, bd_s, ex_a,
    show decide (e.Weight ≤ 1000) = true by simp; omega, Bool.not_true, r_brr, br_f, r_cl, show (f58 e.From).run = some () from rfl, bd_s, r_brr, show (!((decide (e.From ≥ 0)) && (decide (e.From < 24)))) = false by simp; omega, br_f,
    r_cl, show (f58 e.To).run = some () from rfl, bd_s, r_brr, show (!((decide (e.To ≥ 0)) && (decide (e.To < 24)))) = false by simp; omega, br_f, r_brr]
  unfold atB at hx
  by_cases h5 : e.From = w.Vertex.ID
  · rw [show (e.From != w.Vertex.ID) = false by simp [h5], br_f, r_ret]
  · rw [show (e.From != w.Vertex.ID) = true by simp [h5], br_t, r_ret]
    have : e.To = w.Vertex.ID := by simpa [h5] using hx
    simp [this]

theorem around_run (hv : GV g) {w : View} (hw : w.Edges = atP g w.Vertex.ID) (hn : 0 ≤ w.Vertex.ID ∧ w.Vertex.ID ≤ 23) (hl : w.Edges.length < 1000000000) : (f35 w).run = some true := by
  have hasc : (w.Edges.map (·.ID)).Pairwise (· < ·) := by
    rw [hw]
    exact (vg_of hv).easc.sublist (List.filter_sublist.map _)
  have hm : ∀ e ∈ w.Edges, e ∈ g.Edges ∧ atB w.Vertex.ID e = true := fun e he => by rw [hw] at he; exact List.mem_filter.1 he
  obtain ⟨q, hq, x, rfl⟩ := loop_ix (A := Int) (f := fun s : Int × Int => (f57v3.l1 w.Edges w s.1 s.2).run) (n := w.Edges.length) (fun i a => ((i : Int), a)) (fun i a => ∀ (j : Nat) (hj : j < w.Edges.length), i ≤ j → a < w.Edges[j].ID) (fun q => ∃ x, q = .b x)
    (fun i a hi ha => by
      have hx := List.getElem?_eq_getElem hi
      obtain ⟨m1, m2⟩ := hm _ (List.getElem_mem hi)
      simp only [f57v3.l1, r_brr, L_eq, cast_lt_t hi, br_t, getR_s hx, succ_wr hi (by omega), r_cl, wrong_run hv m1 m2 (ha i hi (Nat.le_refl _)), bd_s, br_f, r_ret]
      refine .inl ⟨_, rfl, fun j hj hij => ?_⟩
      rw [List.pairwise_iff_getElem] at hasc
      have := hasc i j (by simpa using hi) (by simpa using hj) (by omega)
      simpa using this)
    (fun a ha => ⟨_, by simp only [f57v3.l1, r_brr, L_eq, cast_lt_f (Nat.lt_irrefl _), br_f, r_ret] <;> rfl, a, rfl⟩)
    (k := fuel) (by have := fuel_pos; omega) (a := (-1 : Int)) (fun j hj _ => by have := (vg_of hv).eid _ (hm _ (List.getElem_mem hj)).1; omega)
  have hq : loopN fuel (fun s : Int × Int => (f57v3.l1 w.Edges w s.1 s.2).run) ((0 : Int), (-1 : Int)) = _ := hq
  simp only [f35, f33v3, f57v3]
  rw [r_cl, show (f58 w.Vertex.ID).run = some () from rfl, bd_s, r_brr, show ((decide (w.Vertex.ID ≥ 0)) && (decide (w.Vertex.ID < 24))) = true by simp; omega, br_t, r_cl, r_cl, r_loop2, hq, bd_s, ex_b, r_ret, bd_s, r_ret, bd_s, r_ret]
  rfl

theorem three {l : List Int} (h : l.length = 3) : ∃ a b c, l = [a, b, c] := by
  match l, h with
  | [a, b, c], _ => exact ⟨a, b, c, rfl⟩

def wr1 (a : Int) : Int := IntKind.i64.wrap (a - 1)
/-- An edge's other end has a label that fits. -/
def Fits1 (T : Int → Option (List Int)) (a0 a1 y : Int) : Prop := ∃ l0 l1 l2, T y = some [l0, l1, l2] ∧ l0 = a0 ∧ wr1 a1 ≤ l1
def depT (T : Int → Option (List Int)) (y : Int) : Option Int := (T y).bind fun l => l[1]?
/-- The first edge to a lesser depth. -/
def downE (T : Int → Option (List Int)) (a1 n : Int) (es : List Edge) : Option Edge := es.find? fun e => depT T (otherP e n) == some (wr1 a1)

def FitAll (T : Int → Option (List Int)) (n : Int) (es : List Edge) : Prop :=
  ∃ a0 a1 a2, T n = some [a0, a1, a2] ∧ 0 ≤ a0 ∧ a0 ≤ n ∧ 0 ≤ a1 ∧ (a1 = 0 ↔ a0 = n) ∧ (∀ e ∈ es, Fits1 T a0 a1 (otherP e n)) ∧ (if a1 = 0 then a2 = -1 else ∃ e, downE T a1 n es = some e ∧ a2 = e.ID)

theorem fits_run {w : View} {m : List (Int × Option (List Int))} {T : Int → Option (List Int)} (hT : ∀ x, lookJ m x = T x) (h3 : ∀ {x l}, T x = some l → l.length = 3) (hl : w.Edges.length < 1000000000) (hid : ∀ e ∈ w.Edges, 0 ≤ e.ID) (a0 a1 a2 : Int) :
    ∃ q, loopN fuel (fun s : Int × Int => (f18.l1 w m [a0, a1, a2] s.1 s.2).run) ((-1 : Int), (0 : Int)) = some q ∧
      ((q = .a false ∧ ¬ ∀ e ∈ w.Edges, Fits1 T a0 a1 (otherP e w.Vertex.ID)) ∨ ((∀ e ∈ w.Edges, Fits1 T a0 a1 (otherP e w.Vertex.ID)) ∧ q = .b (((downE T a1 w.Vertex.ID w.Edges).map (·.ID)).getD (-1)))) := by
  refine loop_ix (A := Int) (f := fun s : Int × Int => (f18.l1 w m [a0, a1, a2] s.1 s.2).run) (n := w.Edges.length) (fun i a => (a, (i : Int)))
    (fun i a => (∀ e ∈ w.Edges.take i, Fits1 T a0 a1 (otherP e w.Vertex.ID)) ∧ a = (((downE T a1 w.Vertex.ID (w.Edges.take i)).map (·.ID)).getD (-1)))
    (fun q => ((q = .a false ∧ ¬ ∀ e ∈ w.Edges, Fits1 T a0 a1 (otherP e w.Vertex.ID)) ∨ ((∀ e ∈ w.Edges, Fits1 T a0 a1 (otherP e w.Vertex.ID)) ∧ q = .b (((downE T a1 w.Vertex.ID w.Edges).map (·.ID)).getD (-1)))))
    (fun i a hi ⟨h1, h2⟩ => ?_) (fun a ⟨h1, h2⟩ => ?_) (k := fuel) (by have := fuel_pos; omega) (a := (-1 : Int)) ⟨by simp, by simp [downE]⟩
  · have hx := List.getElem?_eq_getElem hi
    have htk := List.take_succ_eq_append_getElem hi
    have hmem := List.getElem_mem hi
    have hids := hid _ hmem
    have hall : ∀ e ∈ w.Edges.take i, e ∈ w.Edges := fun e he => List.mem_of_mem_take he
    have hstep : downE T a1 w.Vertex.ID (w.Edges.take (i + 1)) = (downE T a1 w.Vertex.ID (w.Edges.take i)).or (if depT T (otherP w.Edges[i] w.Vertex.ID) == some (wr1 a1) then some w.Edges[i] else none) := by
      unfold downE
      rw [htk, List.find?_append]
      congr 1
      rw [List.find?_cons]
      cases (depT T (otherP w.Edges[i] w.Vertex.ID) == some (wr1 a1)) <;> rfl
    have hfit : ∀ e ∈ w.Edges.take (i + 1), e ∈ w.Edges.take i ∨ e = w.Edges[i] := fun e he => by
      rw [htk, List.mem_append, List.mem_singleton] at he; exact he
    generalize w.Edges[i] = e at hx hmem hids hstep hfit
    have bad : ¬ Fits1 T a0 a1 (otherP e w.Vertex.ID) → ¬ ∀ e ∈ w.Edges, Fits1 T a0 a1 (otherP e w.Vertex.ID) := fun h k => h (k e hmem)
    simp only [f18.l1, r_brr, L_eq, cast_lt_t hi, br_t, getR_s hx, r_cl, other_run, bd_s, succ_wr hi (by omega), r_ask, hT]
    cases hTe : T (otherP e w.Vertex.ID) with
    | none =>
      refine .inr ⟨_, ?_, .inl ⟨rfl, bad ?_⟩⟩
      · rw [show (none : Option (List Int)).isSome = false from rfl, br_f, r_lookNo, hT, hTe, chk_t (show (none : Option (List Int)).isSome = false from rfl), bd_s, r_join1, r_brr, br_t, r_ret, bd_s, ex_a, r_brr, br_t, r_ret]
      · rintro ⟨_, _, _, h, _⟩; rw [hTe] at h; cases h
    | some l =>
      obtain ⟨l0, l1, l2, rfl⟩ := three (h3 hTe)
      have hd : depT T (otherP e w.Vertex.ID) = some l1 := by unfold depT; rw [hTe]; rfl
      have G0 : ∀ {β : Type} {a b c : Int} {k : Int → Pg β}, (getR [a, b, c] (0 : Int) k).run = (k a).run := fun {β a b c k} => getR_s (i := 0) rfl
      have G1 : ∀ {β : Type} {a b c : Int} {k : Int → Pg β}, (getR [a, b, c] (1 : Int) k).run = (k b).run := fun {β a b c k} => getR_s (i := 1) rfl
      rw [show (some [l0, l1, l2] : Option (List Int)).isSome = true from rfl, br_t, r_lookL, hT, hTe, bd_s, r_join1, r_neN (by simp), r_brr, br_f, G0, G0, r_brr]
      by_cases c0 : l0 = a0
      · rw [show (l0 != a0) = false by simp [c0], br_f, G1, G1, r_ret, bd_s, ex_a, r_brr]
        by_cases c1 : l1 < wr1 a1
        · rw [show decide (l1 < IntKind.i64.wrap (a1 - 1)) = true from decide_eq_true c1, br_t, r_ret]
          refine .inr ⟨_, rfl, .inl ⟨rfl, bad ?_⟩⟩
          rintro ⟨k0, k1, k2, h, _, h'⟩
          rw [hTe] at h; cases h; omega
        · rw [show decide (l1 < IntKind.i64.wrap (a1 - 1)) = false from decide_eq_false c1, br_f, G1, G1, r_brr]
          have hF : ∀ e ∈ w.Edges.take (i + 1), Fits1 T a0 a1 (otherP e w.Vertex.ID) := fun e' he' => by
            rcases hfit e' he' with h | rfl
            · exact h1 e' h
            · exact ⟨l0, l1, l2, hTe, c0, by omega⟩
          refine .inl ?_
          rw [hd] at hstep
          by_cases c2 : l1 = wr1 a1
          · rw [if_pos (by rw [c2]; exact beq_iff_eq.2 rfl)] at hstep
            rw [show (l1 == IntKind.i64.wrap (a1 - 1)) = true from beq_iff_eq.2 c2, Bool.true_and]
            cases hdn : downE T a1 w.Vertex.ID (w.Edges.take i) with
            | none =>
              rw [hdn] at h2 hstep
              subst h2
              refine ⟨_, ?_, hF, by rw [hstep]⟩
              rw [show decide (((((none : Option Edge).map (·.ID)).getD (-1)) : Int) < 0) = true from rfl, br_t, r_ret]
              rfl
            | some e' =>
              rw [hdn] at h2 hstep
              have : 0 ≤ e'.ID := hid _ (hall _ (List.mem_of_find?_eq_some hdn))
              subst h2
              refine ⟨_, ?_, hF, by rw [hstep]⟩
              rw [show decide ((((some e' : Option Edge).map (·.ID)).getD (-1) : Int) < 0) = false from decide_eq_false (by simp; omega), br_f, r_ret]
              rfl
          · rw [if_neg (by simpa using c2), Option.or_none] at hstep
            rw [show (l1 == IntKind.i64.wrap (a1 - 1)) = false from beq_eq_false_iff_ne.2 c2, Bool.false_and, br_f, r_ret]
            exact ⟨_, rfl, hF, by rw [hstep]; exact h2⟩
      · rw [show (l0 != a0) = true by simp [c0], br_t, r_ret, bd_s, ex_a, r_brr, br_t, r_ret]
        refine .inr ⟨_, rfl, .inl ⟨rfl, bad ?_⟩⟩
        rintro ⟨k0, k1, k2, h, h', _⟩
        rw [hTe] at h; cases h; exact c0 h'
  · refine ⟨_, by simp only [f18.l1, r_brr, L_eq, cast_lt_f (Nat.lt_irrefl _), br_f, r_ret] <;> rfl, .inr ?_⟩
    rw [List.take_length] at h1 h2
    exact ⟨h1, by rw [h2]⟩

/-- A view of a valid graph's vertex is good exactly if its labels fit. -/
theorem good_run (hv : GV g) {w : View} (hw : w.Edges = atP g w.Vertex.ID) (hn : 0 ≤ w.Vertex.ID ∧ w.Vertex.ID ≤ 23) (hl : w.Edges.length < 1000000000) (hll : w.Labels.length < 1000000000) :
    ∃ b, (f18 w).run = some b ∧ (b = true ↔ FitAll (firstL w.Labels) w.Vertex.ID w.Edges) := by
  obtain ⟨m, hm, hT⟩ := seen_run (w := w) hll
  have hid : ∀ e ∈ w.Edges, 0 ≤ e.ID := fun e he => by rw [hw] at he; exact ((vg_of hv).eid e (List.mem_filter.1 he).1).1
  have har := around_run hv hw hn hl
  simp only [f18]
  rw [r_cl, hm, bd_s, r_ask, hT]
  cases hTn : firstL w.Labels w.Vertex.ID with
  | none =>
    refine ⟨false, ?_, by simp only [Bool.false_eq_true, false_iff]; rintro ⟨_, _, _, h, _⟩; rw [hTn] at h; cases h⟩
    rw [show (none : Option (List Int)).isSome = false from rfl, br_f, r_lookNo, hT, hTn, chk_t (show (none : Option (List Int)).isSome = false from rfl), bd_s, r_join1, r_cl, har, bd_s, Bool.not_true, r_brr, br_f, r_brr, br_t, r_ret, bd_s, ex_a, r_brr, br_t, r_ret]
  | some l =>
    obtain ⟨a0, a1, a2, rfl⟩ := three (firstL_len hTn)
    have G0 : ∀ {β : Type} {a b c : Int} {k : Int → Pg β}, (getR [a, b, c] (0 : Int) k).run = (k a).run := fun {β a b c k} => getR_s (i := 0) rfl
    have G1 : ∀ {β : Type} {a b c : Int} {k : Int → Pg β}, (getR [a, b, c] (1 : Int) k).run = (k b).run := fun {β a b c k} => getR_s (i := 1) rfl
    have G2 : ∀ {β : Type} {a b c : Int} {k : Int → Pg β}, (getR [a, b, c] (2 : Int) k).run = (k c).run := fun {β a b c k} => getR_s (i := 2) rfl
    have hA : ∀ P : Prop, (FitAll (firstL w.Labels) w.Vertex.ID w.Edges ↔ P) ↔ ((0 ≤ a0 ∧ a0 ≤ w.Vertex.ID ∧ 0 ≤ a1 ∧ (a1 = 0 ↔ a0 = w.Vertex.ID) ∧ (∀ e ∈ w.Edges, Fits1 (firstL w.Labels) a0 a1 (otherP e w.Vertex.ID)) ∧ (if a1 = 0 then a2 = -1 else ∃ e, downE (firstL w.Labels) a1 w.Vertex.ID w.Edges = some e ∧ a2 = e.ID)) ↔ P) := by
      intro P
      have : FitAll (firstL w.Labels) w.Vertex.ID w.Edges ↔ (0 ≤ a0 ∧ a0 ≤ w.Vertex.ID ∧ 0 ≤ a1 ∧ (a1 = 0 ↔ a0 = w.Vertex.ID) ∧ (∀ e ∈ w.Edges, Fits1 (firstL w.Labels) a0 a1 (otherP e w.Vertex.ID)) ∧ (if a1 = 0 then a2 = -1 else ∃ e, downE (firstL w.Labels) a1 w.Vertex.ID w.Edges = some e ∧ a2 = e.ID)) := by
        constructor
        · rintro ⟨b0, b1, b2, h, h'⟩; rw [hTn] at h; cases h; exact h'
        · intro h; exact ⟨a0, a1, a2, hTn, h⟩
      rw [this]
    have bad : ¬ (0 ≤ a0 ∧ a0 ≤ w.Vertex.ID ∧ 0 ≤ a1 ∧ (a1 = 0 ↔ a0 = w.Vertex.ID)) → (false = true ↔ FitAll (firstL w.Labels) w.Vertex.ID w.Edges) := fun f => by
      rw [Iff.comm, hA]
      simp only [Bool.false_eq_true, iff_false]
      rintro ⟨h1, h2, h3, h4, _⟩; exact f ⟨h1, h2, h3, h4⟩
    rw [show (some [a0, a1, a2] : Option (List Int)).isSome = true from rfl, br_t, r_lookL, hT, hTn, bd_s, r_join1, r_cl, har, bd_s, Bool.not_true, r_brr, br_f, r_neN (by simp), r_brr, br_f, G0, r_brr]
    by_cases c1 : a0 < 0
    · rw [decide_eq_true c1, br_t, r_ret, bd_s, ex_a, r_brr, br_t, r_ret]
      exact ⟨false, rfl, bad fun h => by omega⟩
    rw [decide_eq_false c1, br_f, G0, r_brr]
    by_cases c2 : a0 > w.Vertex.ID
    · rw [decide_eq_true c2, br_t, r_ret, bd_s, ex_a, r_brr, br_t, r_ret]
      exact ⟨false, rfl, bad fun h => by omega⟩
    rw [decide_eq_false c2, br_f, G1, r_brr]
    by_cases c3 : a1 < 0
    · rw [decide_eq_true c3, br_t, r_ret, bd_s, ex_a, r_brr, br_t, r_ret]
      exact ⟨false, rfl, bad fun h => by omega⟩
    rw [decide_eq_false c3, br_f, G1, G0, r_ret, bd_s, ex_a, r_brr]
    by_cases c4 : a1 = 0 ↔ a0 = w.Vertex.ID
    · have e4 : ((a1 == 0) == (a0 == w.Vertex.ID)) = true := by
        rw [beq_iff_eq, Bool.eq_iff_iff, beq_iff_eq, beq_iff_eq]; exact c4
      rw [e4, Bool.not_true, br_f]
      obtain ⟨q, hq, hq2⟩ := fits_run (m := m) hT (fun h => firstL_len h) hl hid a0 a1 a2
      rw [r_loop2, hq, bd_s]
      rcases hq2 with ⟨rfl, hF⟩ | ⟨hF, rfl⟩
      · rw [ex_a, r_ret]
        refine ⟨false, rfl, ?_⟩
        rw [Iff.comm, hA]
        simp only [Bool.false_eq_true, iff_false]
        rintro ⟨_, _, _, _, h, _⟩; exact hF h
      · rw [ex_b, G1, r_brr]
        have hrest : ∀ {b : Bool}, (b = true ↔ (if a1 = 0 then a2 = -1 else ∃ e, downE (firstL w.Labels) a1 w.Vertex.ID w.Edges = some e ∧ a2 = e.ID)) → (b = true ↔ FitAll (firstL w.Labels) w.Vertex.ID w.Edges) := fun h => by
          rw [Iff.comm, hA, h]
          exact ⟨fun h => h.2.2.2.2.2, fun h => ⟨by omega, by omega, by omega, c4, hF, h⟩⟩
        by_cases c5 : a1 = 0
        · rw [beq_iff_eq.2 c5, br_t, G2, r_ret]
          exact ⟨_, rfl, hrest (by rw [if_pos c5, beq_iff_eq])⟩
        · rw [beq_eq_false_iff_ne.2 c5, br_f, r_brr]
          cases hd : downE (firstL w.Labels) a1 w.Vertex.ID w.Edges with
          | none =>
            rw [show decide ((((none : Option Edge).map (·.ID)).getD (-1) : Int) ≥ 0) = false from rfl, br_f, r_ret]
            refine ⟨_, rfl, hrest ?_⟩
            rw [if_neg c5, hd]; simp
          | some e =>
            have : 0 ≤ e.ID := hid _ (List.mem_of_find?_eq_some hd)
            rw [show decide ((((some e : Option Edge).map (·.ID)).getD (-1) : Int) ≥ 0) = true from decide_eq_true (by simpa using this), br_t, G2, r_ret]
            refine ⟨_, rfl, hrest ?_⟩
            rw [if_neg c5, hd]; simp
    · have e4 : ((a1 == 0) == (a0 == w.Vertex.ID)) = false := by
        rw [beq_eq_false_iff_ne]
        intro h
        rw [Bool.eq_iff_iff, beq_iff_eq, beq_iff_eq] at h
        exact c4 h
      rw [e4, Bool.not_false, br_t, r_ret]
      exact ⟨false, rfl, bad fun h => c4 h.2.2.2⟩
end Frs
end Go.Fx.Gen
