
/- Trade, walked: the market opens, and all rounds are played. -/
import Derived.Test.YtdbcggbkdljfiaaGreatTC
namespace Go.Fx.Gen
open Go.Fx Go.Proofs
set_option linter.unusedVariables false
namespace Trd
open Go.TT

def trs (l : List Vertex) : List Int := (l.filter fun v => v.Side == 3).map Vertex.ID
abbrev trd (g : Graph) : List Int := trs g.Vertices

theorem mem_trs {l : List Vertex} {x : Int} : x ∈ trs l ↔ ∃ v ∈ l, v.Side = 3 ∧ v.ID = x := by
  unfold trs
  simp only [List.mem_map, List.mem_filter, beq_iff_eq]
  exact ⟨fun ⟨v, ⟨h1, h2⟩, h3⟩ => ⟨v, h1, h2, h3⟩, fun ⟨v, h1, h2, h3⟩ => ⟨v, ⟨h1, h2⟩, h3⟩⟩

theorem asc_nodup {α : Type} {key : α → Int} {l : List α} (h : Asc key l) : (l.map key).Nodup := by
  rw [List.nodup_iff_pairwise_ne, List.pairwise_map, List.pairwise_iff_getElem]
  intro i j hi hj hij e
  have := h i j hi hj hij; omega

theorem trd_nodup {g : Graph} (h : GV g) : (trd g).Nodup := by
  unfold trd trs
  have := asc_nodup h.va
  exact this.sublist ((List.filter_sublist ..).map _)

theorem trd_range {g : Graph} (h : GV g) {x : Int} (hx : x ∈ trd g) : 0 ≤ x ∧ x < 24 := by
  obtain ⟨v, hv, _, rfl⟩ := mem_trs.1 hx
  have := (h.v v hv).id; omega

theorem eok_of {g : Graph} (h : GV g) : ∀ x ∈ g.Edges, eok x := fun x hx => by
  have := (h.e x hx).1
  exact ⟨this.wt.1, this.wt.2, this.id.1, by have := this.id.2; omega⟩

theorem set_mk {S : List Int} {x : Int} (h : x ∉ S) : mapSet (mk S) x true = mk (S ++ [x]) := by
  unfold mk
  induction S with
  | nil => rfl
  | cons y S ih =>
    simp only [List.mem_cons, not_or] at h
    have : ¬ y = x := fun e => h.1 e.symm
    simp only [List.map_cons, mapSet, this, if_false, ih h.2, List.cons_append]

/-- Rows by numbers. -/
def tab24 {α : Type} (f : Nat → α) : List α := (List.range 24).map f
theorem tab_len {α : Type} (f : Nat → α) : (tab24 f).length = 24 := by simp [tab24]
theorem tab_get {α : Type} (f : Nat → α) {i : Nat} (h : i < 24) : (tab24 f)[i]? = some (f i) := by simp [tab24, h]
theorem tab_set {α : Type} {f g : Nat → α} {i : Nat} {x : α} (hg : ∀ j, j < 24 → g j = if j = i then x else f j) : (tab24 f).set i x = tab24 g := by
  apply List.ext_getElem?
  intro j
  rw [List.getElem?_set]
  by_cases hj : j < 24
  · rw [tab_get g hj, hg j hj, tab_get f hj, tab_len]
    by_cases e : i = j
    · subst e; simp [hj]
    · have : ¬ j = i := fun h => e h.symm
      simp [e, this]
  · have : (tab24 g)[j]? = none := by simp [tab24]; omega
    have h2 : (tab24 f)[j]? = none := by simp [tab24]; omega
    rw [this, h2, tab_len]
    by_cases e : i = j
    · subst e; simp [hj]
    · simp [e]
theorem tab_rep {α : Type} (x : α) : List.replicate 24 x = tab24 fun _ => x := by
  unfold tab24
  rw [List.map_const', List.length_range]

def labf (l : List Vertex) (x : Nat) : A3_Int := if l.any (fun v => v.ID == (x : Int)) then ⟨0, -1, 0⟩ else ⟨0, 0, 0⟩
def wsf (es : List Edge) (S T : List Int) (x : Nat) : List Edge := if (x : Int) ∈ T then wish es S x else []
/-- The wishes of all. -/
abbrev wsh (g : Graph) : List (List Edge) := tab24 (wsf g.Edges (trd g) (trd g))
abbrev lab0 (g : Graph) : List A3_Int := tab24 (labf g.Vertices)

theorem trs_snoc (l : List Vertex) (v : Vertex) : trs (l ++ [v]) = if v.Side = 3 then trs l ++ [v.ID] else trs l := by
  unfold trs
  by_cases h : v.Side = 3 <;> simp [h]

theorem open_run {g : Graph} (hs : Small g) (he : g.Edges.length < 65536) (h : GV g) : (f47v1 g).run = some (wsh g, lab0 g, mk (trd g)) := by
  have key1 : loopN fuel (fun s : Int × List A3_Int × List (Int × Bool) => (f47v1.l1 g s.1 s.2.1 s.2.2).run) ((0 : Int), (List.replicate 24 (A3_Int.mk 0 0 0)), ([] : List (Int × Bool))) = some (.a (lab0 g, mk (trd g))) := by
    obtain ⟨r, h1, rfl⟩ := loop_ix (A := List A3_Int × List (Int × Bool)) (f := fun s : Int × List A3_Int × List (Int × Bool) => (f47v1.l1 g s.1 s.2.1 s.2.2).run) (n := g.Vertices.length) (fun i a => ((i : Int), a.1, a.2))
      (fun i a => a = (tab24 (labf (g.Vertices.take i)), mk (trs (g.Vertices.take i)))) (fun r => r = .a (lab0 g, mk (trd g)))
      (fun i a hi ha => by
        have hx : g.Vertices[i]? = some g.Vertices[i] := by simp [hi]
        have htk := List.take_succ_eq_append_getElem hi
        have hv := h.v _ (List.getElem_mem hi)
        have hid : ((g.Vertices[i].ID.toNat : Nat) : Int) = g.Vertices[i].ID := by have := hv.id; omega
        have hnot : g.Vertices[i].ID ∉ trs (g.Vertices.take i) := by
          intro hm
          obtain ⟨v, hv, _, e⟩ := mem_trs.1 hm
          obtain ⟨j, hj, rfl⟩ := List.getElem_of_mem hv
          rw [List.length_take] at hj
          rw [List.getElem_take] at e
          have := h.va j i (by omega) hi (by omega); omega
        have hset : (tab24 (labf (g.Vertices.take i))).set g.Vertices[i].ID.toNat ⟨0, -1, 0⟩ = tab24 (labf (g.Vertices.take (i + 1))) := by
          apply tab_set
          intro j hj
          unfold labf
          rw [htk, List.any_append]
          by_cases e : j = g.Vertices[i].ID.toNat
          · have : (g.Vertices[i].ID == (j : Int)) = true := by simp; omega
            simp only [List.any_cons, this, Bool.true_or, Bool.or_true, if_true, if_pos e]
          · have : (g.Vertices[i].ID == (j : Int)) = false := by simp; omega
            simp [e, this]
        rw [ha]
        have hg : (tab24 (labf (g.Vertices.take i)))[g.Vertices[i].ID.toNat]? = some _ := tab_get _ (by have := hv.id; omega)
        simp only [f47v1.l1, r_brr, L_eq, cast_lt_t hi, br_t, getR_s hx, succ_wr hi (by have := hs.v; omega)]
        rw [ck_t (by have := hv.id; omega), st_s hg, hset, r_brr, htk, trs_snoc]
        by_cases h3 : g.Vertices[i].Side = 3
        · have e : (g.Vertices[i].Side == 3) = true := by simp [h3]
          rw [e, br_t, r_mset, r_ret, set_mk hnot, if_pos h3]
          exact .inl ⟨_, rfl, rfl⟩
        · have e : (g.Vertices[i].Side == 3) = false := by simp [h3]
          rw [e, br_f, r_ret, if_neg h3]
          exact .inl ⟨_, rfl, rfl⟩)
      (fun a ha => by
        rw [List.take_length] at ha
        subst ha
        exact ⟨_, by simp only [f47v1.l1, r_brr, L_eq, cast_lt_f (Nat.lt_irrefl _), br_f, r_ret], rfl⟩)
      (k := fuel) (by have := fuel_pos; have := hs.v; omega) (a := ((List.replicate 24 (A3_Int.mk 0 0 0)), ([] : List (Int × Bool)))) (by rw [tab_rep]; rfl)
    exact h1
  have key2 : loopN fuel (fun s : Int × List (List Edge) => (f47v1.l2 g (lab0 g, mk (trd g)) s.1 s.2).run) ((0 : Int), (List.replicate 24 ([] : List Edge))) = some (.a (wsh g)) := by
    obtain ⟨r, h1, rfl⟩ := loop_ix (A := List (List Edge)) (f := fun s : Int × List (List Edge) => (f47v1.l2 g (lab0 g, mk (trd g)) s.1 s.2).run) (n := g.Vertices.length) (fun i a => ((i : Int), a))
      (fun i a => a = tab24 (wsf g.Edges (trd g) (trs (g.Vertices.take i)))) (fun r => r = .a (wsh g))
      (fun i a hi ha => by
        have hx : g.Vertices[i]? = some g.Vertices[i] := by simp [hi]
        have htk := List.take_succ_eq_append_getElem hi
        have hv := h.v _ (List.getElem_mem hi)
        rw [ha]
        simp only [f47v1.l2, r_brr, L_eq, cast_lt_t hi, br_t, getR_s hx, r_look, succ_wr hi (by have := hs.v; omega)]
        have hin : ((mapGet (mk (trd g)) g.Vertices[i].ID).getD false) = decide (g.Vertices[i].Side = 3) := by
          have := inL_mk (trd g) g.Vertices[i].ID
          unfold inL at this
          rw [this, decide_eq_decide, mem_trs]
          constructor
          · rintro ⟨v, hv, h3, e⟩
            obtain ⟨j, hj, rfl⟩ := List.getElem_of_mem hv
            have : j = i := by
              rcases Nat.lt_trichotomy i j with hh | hh | hh
              · have := h.va i j hi hj hh; omega
              · exact hh.symm
              · have := h.va j i hj hi hh; omega
            subst this; exact h3
          · intro h3; exact ⟨_, List.getElem_mem hi, h3, rfl⟩
        rw [hin, htk, trs_snoc]
        by_cases h3 : g.Vertices[i].Side = 3
        · have hg : (tab24 (wsf g.Edges (trd g) (trs (g.Vertices.take i))))[g.Vertices[i].ID.toNat]? = some _ := tab_get _ (by have := hv.id; omega)
          simp only [h3, decide_true, br_t, if_true, r_cl, wishes_run g.Edges _ _ he (eok_of h), bd_s]
          rw [ck_t (by have := hv.id; omega), st_s hg, r_ret]
          refine .inl ⟨_, rfl, ?_⟩
          apply tab_set
          intro j hj
          unfold wsf
          by_cases e : j = g.Vertices[i].ID.toNat
          · have e' : (j : Int) = g.Vertices[i].ID := by have := hv.id; omega
            rw [if_pos e, if_pos (by rw [e']; simp), e']
          · have e' : ¬ (j : Int) = g.Vertices[i].ID := by omega
            simp [e, e']
        · simp only [h3, decide_false, br_f, r_ret, if_false]
          exact .inl ⟨_, rfl, rfl⟩)
      (fun a ha => by
        rw [List.take_length] at ha
        subst ha
        exact ⟨_, by simp only [f47v1.l2, r_brr, L_eq, cast_lt_f (Nat.lt_irrefl _), br_f, r_ret], rfl⟩)
      (k := fuel) (by have := fuel_pos; have := hs.v; omega) (a := List.replicate 24 ([] : List Edge)) (by rw [tab_rep]; rfl)
    exact h1
  simp only [f47v1]
  rw [r_loop1, key1, bd_s, ex_a, r_loop1, key2, bd_s, ex_a, r_ret]
end Trd
end Go.Fx.Gen
