/- The law ForestOnlyEdges: whatever the arguments, the program answers true. -/
import Derived.Test.YtiecopfelbfkiaaGreatQE
import Derived.Test.YtiecopfelbfkiaaGreatQG
namespace Go.Fx.Gen
open Go.Fx Go.Proofs
set_option linter.unusedVariables false
namespace Frs
open Trd
variable {g : Graph}

def cntr (g : Graph) (l : List Vertex) : Nat := (l.map (·.ID)).countP fun x => dp g x == 0
theorem cntr_succ (g : Graph) {l : List Vertex} {i : Nat} (h : i < l.length) : cntr g (l.take (i + 1)) = cntr g (l.take i) + if dp g l[i].ID = 0 then 1 else 0 := by
  unfold cntr
  rw [List.take_succ_eq_append_getElem h, List.map_append, List.countP_append]
  congr 1
  by_cases e : dp g l[i].ID = 0 <;> simp [e, List.countP_cons]
theorem cntr_le (g : Graph) (l : List Vertex) : cntr g l ≤ l.length := by
  unfold cntr
  refine Nat.le_trans List.countP_le_length (by simp)

theorem sum_run (hs : Small g) (hv : GV g) {g' : Graph} (hs' : Small g') (hv' : GV g') (hvs : g'.Vertices = g.Vertices) (z1 z2 : Int) :
    loopN fuel (fun s : Int × Int × Int => (f3.l3 g (labs g, z1) (g', 0) (labs g', z2) s.1 s.2.1 s.2.2).run) ((0 : Int), (0 : Int), (0 : Int)) = some (.a ((roots g : Int), (roots g' : Int))) := by
  have hsv := hs.v
  obtain ⟨q, hq, hq2⟩ := loop_ix (A := Int × Int) (f := fun s : Int × Int × Int => (f3.l3 g (labs g, z1) (g', 0) (labs g', z2) s.1 s.2.1 s.2.2).run) (n := g.Vertices.length) (fun i m => (m.1, m.2, (i : Int)))
    (fun i m => m = ((cntr g (g.Vertices.take i) : Int), (cntr g' (g.Vertices.take i) : Int)))
    (fun q => q = .a ((roots g : Int), (roots g' : Int)))
    (fun i m hi hm => by
      subst hm
      have hx := List.getElem?_eq_getElem hi
      have hin : InV g g.Vertices[i].ID := ⟨_, List.getElem_mem hi, rfl⟩
      have hin' : InV g' g.Vertices[i].ID := ⟨_, by rw [hvs]; exact List.getElem_mem hi, rfl⟩
      obtain ⟨w, w1, w2⟩ := cv_run hs hv hin
      obtain ⟨w', w1', w2'⟩ := cv_run hs' hv' hin'
      have c1 := cntr_le g (g.Vertices.take i)
      have c2 := cntr_le g' (g.Vertices.take i)
      have c3 : (g.Vertices.take i).length ≤ 1000000000 := by rw [List.length_take]; omega
      refine .inl ⟨((cntr g (g.Vertices.take (i + 1)) : Int), (cntr g' (g.Vertices.take (i + 1)) : Int)), ?_, rfl⟩
      simp only [f3.l3, r_brr, L_eq (labs g), labs_len, cast_lt_t hi, br_t]
      rw [getR_s hx, r_cl, w1, bd_s, r_cl, w2, bd_s, getR_s hx, r_cl, w1', bd_s, r_cl, w2', bd_s, r_ret, cntr_succ g hi, cntr_succ g' hi, succ_wr hi (by omega)]
      have e1 : IntKind.i64.wrap ((cntr g (g.Vertices.take i) : Int) + (if dp g g.Vertices[i].ID = 0 then 1 else 0)) = ((cntr g (g.Vertices.take i) + (if dp g g.Vertices[i].ID = 0 then 1 else 0) : Nat) : Int) := by
        split <;> rw [wr] <;> omega
      have e2 : IntKind.i64.wrap ((cntr g' (g.Vertices.take i) : Int) + (if dp g' g.Vertices[i].ID = 0 then 1 else 0)) = ((cntr g' (g.Vertices.take i) + (if dp g' g.Vertices[i].ID = 0 then 1 else 0) : Nat) : Int) := by
        split <;> rw [wr] <;> omega
      rw [e1, e2])
    (fun m hm => by
      subst hm
      refine ⟨_, by simp only [f3.l3, r_brr, L_eq (labs g), labs_len, cast_lt_f (Nat.lt_irrefl _), br_f, r_ret] <;> rfl, ?_⟩
      have h1 : cntr g (g.Vertices.take g.Vertices.length) = roots g := by rw [List.take_length]; rfl
      have h2 : cntr g' (g.Vertices.take g.Vertices.length) = roots g' := by rw [List.take_length, ← hvs]; rfl
      rw [h1, h2])
    (k := fuel) (by have := fuel_pos; omega) (a := ((0 : Int), (0 : Int))) (by simp [cntr])
  rw [hq2] at hq
  exact hq

theorem asc_like {α : Type} {key : α → Int} {l l' : List α} (h : Asc key l) (hl : l'.length = l.length) (he : ∀ i (h : i < l.length) (h' : i < l'.length), key l'[i] = key l[i]) : Asc key l' := by
  intro i j hi hj hij
  rw [he i (by omega) hi, he j (by omega) hj]
  exact h i j _ _ hij

theorem phi_turned {a b : Edge} (ht : Turned a b) : phi b = phi a := by
  unfold phi
  refine Prod.ext ht.id (Prod.ext ?_ ?_)
  · funext x
    show otherP b x = otherP a x
    unfold otherP
    rw [ht.fr, ht.to]
    by_cases h1 : x = a.To <;> by_cases h2 : x = a.From
    · rw [if_pos h1, if_pos h2, ← h1, ← h2]
    · rw [if_pos h1, if_neg h2, if_pos h1]
    · rw [if_neg h1, if_pos h2, if_pos h2]
    · rw [if_neg h1, if_neg h2, if_neg h2, if_neg h1]
  · funext x
    show atB x b = atB x a
    unfold atB
    rw [ht.fr, ht.to, Bool.or_comm]

theorem turned_like {vs' : List Vertex} {es' : List Edge} (hv : GV g) (v1 : vs'.length = g.Vertices.length)
    (v2 : ∀ i (h : i < g.Vertices.length) (h' : i < vs'.length), vs'[i].ID = g.Vertices[i].ID ∧ ((0 ≤ g.Vertices[i].Side ∧ g.Vertices[i].Side ≤ 3) → 0 ≤ vs'[i].Side ∧ vs'[i].Side ≤ 3))
    (e1 : es'.length = g.Edges.length) (e2 : ∀ i (h : i < g.Edges.length) (h' : i < es'.length), Turned g.Edges[i] es'[i]) :
    GV ⟨vs', es', []⟩ ∧ Like g ⟨vs', es', []⟩ := by
  have hin : ∀ x, InV g x → InV ⟨vs', es', []⟩ x := by
    rintro x ⟨v, hv', rfl⟩
    obtain ⟨i, hi, rfl⟩ := List.getElem_of_mem hv'
    have hi' : i < vs'.length := by omega
    exact ⟨vs'[i], List.getElem_mem hi', (v2 i hi hi').1⟩
  have hvo : ∀ v ∈ vs', VOk v := by
    intro v hv'
    obtain ⟨i, hi, rfl⟩ := List.getElem_of_mem hv'
    have h0 := hv.v _ (List.getElem_mem (show i < g.Vertices.length by omega))
    obtain ⟨h1, h2⟩ := v2 i (by omega) hi
    exact ⟨by rw [h1]; exact h0.id, h2 h0.side⟩
  have heo : ∀ e ∈ es', EOk e ∧ InV ⟨vs', es', []⟩ e.From ∧ InV ⟨vs', es', []⟩ e.To := by
    intro e he'
    obtain ⟨i, hi, rfl⟩ := List.getElem_of_mem he'
    obtain ⟨h0, h1, h2⟩ := hv.e _ (List.getElem_mem (show i < g.Edges.length by omega))
    have ht := e2 i (by omega) hi
    refine ⟨⟨by rw [ht.id]; exact h0.id, by rw [ht.fr]; exact h0.to, by rw [ht.to]; exact h0.fr, ht.wt, ht.cap⟩, ?_, ?_⟩
    · rw [ht.fr]; exact hin _ h2
    · rw [ht.to]; exact hin _ h1
  refine ⟨⟨asc_like hv.va v1 fun i h h' => (v2 i h h').1, asc_like hv.ea e1 fun i h h' => (e2 i h h').id, fun i j hi hj => absurd hi (Nat.not_lt_zero _), hvo, heo, fun x hx => (nomatch hx), Nat.zero_le _⟩, ⟨?_, ?_⟩⟩
  · show vs'.map (·.ID) = g.Vertices.map (·.ID)
    refine List.ext_getElem (by simp [v1]) fun i h h' => ?_
    rw [List.getElem_map, List.getElem_map]
    exact (v2 i (by simpa using h') (by simpa using h)).1
  · show es'.map phi = g.Edges.map phi
    refine List.ext_getElem (by simp [e1]) fun i h h' => ?_
    rw [List.getElem_map, List.getElem_map]
    exact phi_turned (e2 i (by simpa using h') (by simpa using h))

theorem bd_of {α β : Type} {o : Option α} {k : α → Option β} {x : α} {r : Option β} (h : o = some x) (hk : k x = r) : bd o k = r := by rw [h]; exact hk

theorem lab_len (g : Graph) : ∀ n ∈ labs g, n.Label.length < 1000000000 := by
  intro n hn
  obtain ⟨v, _, rfl⟩ := List.mem_map.1 hn
  show (3 : Nat) < 1000000000
  omega

theorem pick_vert (hne : g.Vertices ≠ []) {c : Int} (hc : inI64 c) : ∃ (i : Nat) (v : Vertex), pk c (L g.Vertices : Int) = (i : Int) ∧ g.Vertices[i]? = some v ∧ (L g.Vertices : Int) ≠ 0 := by
  have h0 : 1 ≤ (g.Vertices.length : Int) := by
    have := List.length_pos_iff.2 hne; omega
  have hr := pk_range hc h0
  rw [L_eq]
  refine ⟨(pk c g.Vertices.length).toNat, _, by omega, List.getElem?_eq_getElem (by omega), by omega⟩

theorem small_add (hs : Small g) (h : g.Edges.length < 999999999) (p q : Int) : Small (addE g p q) := ⟨hs.v, by show (g.Edges ++ [newE p q]).length < _; simp; omega, hs.d⟩

theorem gv_len (hv : GV g) : g.Edges.length ≤ 40 ∧ g.Vertices.length ≤ 24 := by
  have hg := vg_of hv
  constructor
  · have := asc_len (g.Edges.map (·.ID)) 0 39 hg.easc (fun x hx => by
      obtain ⟨e, he, rfl⟩ := List.mem_map.1 hx
      exact hg.eid e he)
    simp at this; omega
  · have := asc_len (g.Vertices.map (·.ID)) 0 23 hg.asc (fun x hx => by
      obtain ⟨e, he, rfl⟩ := List.mem_map.1 hx
      exact hg.vid e he)
    simp at this; omega

theorem only_true {p1 : Int} {p2 : List A5_Int} {p3 : Bool} {p4 p5 : Int} (h1 : inI64 p1) (h2 : ∀ a ∈ p2, A5ok a) (h4 : inI64 p4) (h5 : inI64 p5) : (f3 p1 p2 p3 p4 p5).run = some true := by
  obtain ⟨g, hm, hs, hv, hne⟩ := made_run (p3 := p3) h1 h2
  have hg := vg_of hv
  have hlen := gv_len hv
  have hsv := hs.v
  have hse := hs.e
  obtain ⟨vs', lv, v1, v2⟩ := sides_run hsv p4
  obtain ⟨es', le, e1, e2⟩ := turn_run hse p4 p5
  obtain ⟨gv', like⟩ := turned_like hv v1 v2 e1 e2
  have hs' : Small ⟨vs', es', []⟩ := ⟨by show vs'.length < 1000000000; omega, by show es'.length < 1000000000; omega, by show (0 : Nat) < 1000000000; omega⟩
  have hlab := labelsN_run hs' gv'
  rw [like.labs] at hlab
  have hsame := labels_same (l := labs g) (by rw [labs_len]; omega) (lab_len g)
  obtain ⟨r, hr, hr2⟩ := find_run hs 39
  simp only [f3]
  rw [r_cl, sane_run, bd_s, Bool.not_true, r_brr, br_f, r_cl, hm, bd_s, r_cl, labels_run hs hv, bd_s, r_cl, copy_run hs, bd_s]
  rw [r_loop1, lv, bd_s, ex_a, r_loop1, le, bd_s, ex_a, r_cl, hlab, bd_s]
  rw [r_join1, r_brr, show (((0 : Int) != 0) || ((0 : Int) != 0)) = false from rfl, br_f, r_cl, hsame, bd_s, r_ret, bd_s, ex_a, Bool.not_true, r_brr, br_f, r_cl, hr, bd_s, r_brr]
  by_cases h0 : r < 0
  · rw [show decide (r ≥ 0) = false by simp; omega, br_f]
    have hn := hr2 h0
    obtain ⟨i, vp, hi, hvp, hL⟩ := pick_vert hne h4
    obtain ⟨j, vq, hj, hvq, _⟩ := pick_vert hne h5
    have hp : InV g vp.ID := ⟨vp, List.mem_of_getElem? hvp, rfl⟩
    have hq : InV g vq.ID := ⟨vq, List.mem_of_getElem? hvq, rfl⟩
    have hsA : ∀ p q, Small (addE g p q) := fun p q => small_add hs (by omega) p q
    have hlA : ∀ {p q : Int}, InV g p → InV g q → (f6v2 (addE g p q)).run = some (labs (addE g p q), 0) := fun hp hq => labels_run (hsA _ _) (gv_add hv hn hp hq)
    have hloop : labs (addE g vp.ID vp.ID) = labs g := (more_add vp.ID vp.ID).labs idle_loop hg
    rw [r_cl, pick8 hL, bd_s, hi, getR_s hvp, r_cl, pick8 hL, bd_s, hj, getR_s hvq, r_cl, add_run hs hv hn hp hp, bd_s, r_cl, hlA hp hp, bd_s, hloop]
    rw [r_join1, r_brr, show (((0 : Int) != 0) || ((0 : Int) != 0)) = false from rfl, br_f, r_cl, hsame, bd_s, r_ret, bd_s, ex_a, Bool.not_true, r_brr, br_f]
    rw [r_join2]
    refine bd_of (x := .b ()) ?_ ?_
    · rw [r_brr]
      by_cases hE : 0 < g.Edges.length
      · rw [show decide ((L g.Edges : Int) > 0) = true by rw [L_eq]; simp; omega, br_t]
        have hre := pk_range h4 (n := (g.Edges.length : Int)) (by omega)
        obtain ⟨k, hk⟩ : ∃ k : Nat, pk p4 (L g.Edges : Int) = (k : Int) := ⟨(pk p4 (g.Edges.length : Int)).toNat, by rw [L_eq]; omega⟩
        have hk' : k < g.Edges.length := by rw [L_eq] at hk; omega
        have hy := List.getElem?_eq_getElem hk'
        have hmem := List.mem_of_getElem? hy
        generalize g.Edges[k] = y at hy hmem
        obtain ⟨_, hyf, hyt⟩ := hv.e _ hmem
        have hpar : labs (addE g y.To y.From) = labs g := (more_add y.To y.From).labs (idle_par hmem) hg
        rw [r_cl, pick8 (by rw [L_eq]; omega), bd_s, hk, getR_s hy, r_cl, add_run hs hv hn hyt hyf, bd_s, r_cl, hlA hyt hyf, bd_s, hpar]
        rw [r_join1, r_brr, show (((0 : Int) != 0) || ((0 : Int) != 0)) = false from rfl, br_f, r_cl, hsame, bd_s, r_ret, bd_s, ex_a, Bool.not_true, r_brr, br_f, r_ret]
      · rw [show decide ((L g.Edges : Int) > 0) = false from decide_eq_false (by rw [L_eq]; omega), br_f, r_ret]
    · rw [ex_b, r_cl, connected_run hs hv hp hq, bd_s, r_cl, add_run hs hv hn hp hq, bd_s, r_cl, hlA hp hq, bd_s, r_brr]
      have hll : ((L (labs (addE g vp.ID vq.ID)) : Int) != (L (labs g) : Int)) = false := by rw [L_eq, L_eq, labs_len, labs_len]; simp [addE]
      simp only [hll]
      rw [show ((((0 : Int) != 0) || ((0 : Int) != 0)) || ((0 : Int) != 0)) = false from rfl, Bool.or_false, br_f]
      rw [r_loop1, sum_run hs hv (hsA _ _) (gv_add hv hn hp hq) rfl, bd_s, ex_a, r_ret]
      have hj := joined hg (vg_of (gv_add hv hn hp hq)) (more_add vp.ID vq.ID)
      have hrl : roots g ≤ 24 := Nat.le_trans (cntr_le g g.Vertices) hlen.2
      by_cases hc : rt g vp.ID = rt g vq.ID
      · have := hj.1 hc
        rw [beq_iff_eq.2 hc]
        simp [this]
      · have := hj.2 hc
        have hw : IntKind.i64.wrap ((roots g : Int) - 1) = (roots (addE g vp.ID vq.ID) : Int) := by rw [wr] <;> omega
        rw [beq_eq_false_iff_ne.2 hc, hw]
        simp
  · rw [show decide (r ≥ 0) = true by simp; omega, br_t, r_ret]
end Frs
end Go.Fx.Gen
