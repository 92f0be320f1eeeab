/- Labels of the forest: roots, depths, edges. -/
import Derived.Test.YtiecopfelbfkiaaQB
namespace Go.Fx.Gen
open Go.Fx Go.Proofs
set_option linter.unusedVariables false
namespace Frs

def look (g : Graph) (x : Int) : Tr := ((allT g).find? fun t => t.1 == x).getD (x, x, 0)
def rt (g : Graph) (x : Int) : Int := (look g x).2.1
def dp (g : Graph) (x : Int) : Int := (look g x).2.2
def ed (g : Graph) (x : Int) : Int := edgeOf g (allT g) (look g x)
def lb (g : Graph) (x : Int) : List Int := [rt g x, dp g x, ed g x]

theorem look_of {g : Graph} (hg : VG g) {t : Tr} (ht : t ∈ allT g) : look g t.1 = t := by
  unfold look; rw [find_ids (allT_J hg).1.nd ht]; rfl
theorem look_mem {g : Graph} (hg : VG g) {x : Int} (hx : hasV g x = true) : look g x ∈ allT g ∧ (look g x).1 = x := by
  obtain ⟨v, hv, rfl⟩ := hasV_iff.1 hx
  obtain ⟨t, ht, e⟩ := List.mem_map.1 ((allT_J hg).2 v hv)
  rw [← e, look_of hg ht]; exact ⟨ht, rfl⟩

theorem mapGet_find {α : Type} (f : Tr → α) (x : Int) : ∀ (l : List Tr), mapGet (l.map fun t => (t.1, f t)) x = (l.find? fun t => t.1 == x).map f
  | [] => rfl
  | t :: l => by
    simp only [List.map_cons, mapGet, List.find?_cons]
    by_cases h : t.1 = x
    · rw [if_pos h, beq_iff_eq.2 h]; rfl
    · rw [if_neg h, mapGet_find f x l, beq_eq_false_iff_ne.2 h]

theorem tree_get {g : Graph} (hg : VG g) {x : Int} (hx : hasV g x = true) : mapGet (tree g) x = some (lb g x) := by
  obtain ⟨h1, h2⟩ := look_mem hg hx
  unfold tree
  rw [mapGet_find (fun t => fin1 g (allT g) t) x]
  have := find_ids (allT_J hg).1.nd h1
  rw [h2] at this
  rw [this]; rfl

theorem dp_range {g : Graph} (hg : VG g) {x : Int} (hx : hasV g x = true) : 0 ≤ dp g x ∧ dp g x ≤ 23 := by
  have hJ := (allT_J hg).1
  have := hJ.dn _ (look_mem hg hx).1
  have := hJ.len hg
  unfold dp; omega

theorem rt_root {g : Graph} (hg : VG g) {x : Int} (hx : hasV g x = true) : hasV g (rt g x) = true ∧ rt g (rt g x) = rt g x ∧ dp g (rt g x) = 0 := by
  have hJ := (allT_J hg).1
  obtain ⟨i, hi⟩ := List.getElem?_of_mem (look_mem hg hx).1
  obtain ⟨u, hu, h1, h2, h3⟩ := hJ.rootIn i _ hi
  have := look_of hg hu
  refine ⟨?_, ?_, ?_⟩
  · have h := hJ.hv u hu; rw [h1] at h; exact h
  · show (look g (look g x).2.1).2.1 = _; rw [← h1, this, h3]; rfl
  · show (look g (look g x).2.1).2.2 = _; rw [← h1, this, h2]

theorem dp_zero {g : Graph} (hg : VG g) {x : Int} (hx : hasV g x = true) : dp g x = 0 ↔ rt g x = x := by
  constructor
  · intro h
    have hJ := (allT_J hg).1
    obtain ⟨i, hi⟩ := List.getElem?_of_mem (look_mem hg hx).1
    rcases hJ.par i _ hi with ⟨_, h2⟩ | ⟨j, u, e, _, hu, _, _, _, _, h3⟩
    · show (look g x).2.1 = x; rw [h2, (look_mem hg hx).2]
    · have := hJ.dn u (List.mem_of_getElem? hu)
      have h' : (look g x).2.2 = 0 := h
      omega
  · intro h
    have := (rt_root hg hx).2.2
    rwa [h] at this

theorem edge_rt {g : Graph} (hg : VG g) {x : Int} (hx : hasV g x = true) {e : Edge} (he : e ∈ g.Edges) (ha : atB x e = true) : rt g (otherP e x) = rt g x ∧ dp g (otherP e x) ≤ dp g x + 1 ∧ dp g x ≤ dp g (otherP e x) + 1 := by
  have hJ := (allT_J hg).1
  obtain ⟨h1, h2⟩ := look_mem hg hx
  obtain ⟨i, hi⟩ := List.getElem?_of_mem h1
  obtain ⟨u, hu, u1, u2, u3, u4⟩ := hJ.edge i _ e (List.getElem?_eq_some_iff.1 hi).1 hi he (by rw [h2]; exact ha)
  rw [h2] at u1
  have := look_of hg hu
  rw [u1] at this
  unfold rt dp
  rw [this]
  exact ⟨u2, u3, u4⟩

theorem par_edge {g : Graph} (hg : VG g) {x : Int} (hx : hasV g x = true) (h0 : dp g x ≠ 0) : ∃ e ∈ atP g x, dp g (otherP e x) = dp g x - 1 := by
  have hJ := (allT_J hg).1
  obtain ⟨h1, h2⟩ := look_mem hg hx
  obtain ⟨i, hi⟩ := List.getElem?_of_mem h1
  rcases hJ.par i _ hi with ⟨h, _⟩ | ⟨j, u, e, _, hu, he, ha, ho, _, h3⟩
  · exact absurd h h0
  · rw [h2] at ha ho
    have := look_of hg (List.mem_of_getElem? hu)
    refine ⟨e, List.mem_filter.2 ⟨he, ha⟩, ?_⟩
    unfold dp
    rw [ho, this]; omega

theorem dep_dp {g : Graph} (hg : VG g) {x : Int} (hx : hasV g x = true) : dep? (allT g) x = some (dp g x) := by
  obtain ⟨h1, h2⟩ := look_mem hg hx
  have := dep_of (allT_J hg).1.nd h1
  rw [h2] at this; exact this

theorem ed_spec {g : Graph} (hg : VG g) {x : Int} (hx : hasV g x = true) :
    (dp g x = 0 ∧ ed g x = -1) ∨ (dp g x ≠ 0 ∧ ∃ e ∈ atP g x, e.ID = ed g x ∧ dp g (otherP e x) = dp g x - 1) := by
  obtain ⟨h1, h2⟩ := look_mem hg hx
  unfold ed edgeOf
  rw [h2]
  have hat : ∀ e ∈ atP g x, dep? (allT g) (otherP e x) = some (dp g (otherP e x)) := fun e he => by
    obtain ⟨a, b⟩ := List.mem_filter.1 he
    exact dep_dp hg (hg.other a b)
  cases hf : (atP g x).find? (fun e => dep? (allT g) (otherP e x) == some ((look g x).2.2 - 1)) with
  | none =>
    left
    rw [List.find?_eq_none] at hf
    refine ⟨?_, rfl⟩
    rcases Classical.em (dp g x = 0) with h | h
    · exact h
    · obtain ⟨e, he, h3⟩ := par_edge hg hx h
      have := hf e he
      rw [hat e he, h3] at this
      exact absurd (beq_iff_eq.2 rfl) this
  | some e =>
    right
    have hm := List.mem_of_find?_eq_some hf
    have := List.find?_some hf
    rw [hat e hm] at this
    have h3 : dp g (otherP e x) = dp g x - 1 := by simpa [dp] using this
    obtain ⟨a, b⟩ := List.mem_filter.1 hm
    have := (dp_range hg (hg.other a b)).1
    exact ⟨by omega, e, hm, rfl, h3⟩

theorem edge_uniq {g : Graph} (hg : VG g) {e f : Edge} (he : e ∈ g.Edges) (hf : f ∈ g.Edges) (h : e.ID = f.ID) : e = f := by
  obtain ⟨i, hi, rfl⟩ := List.mem_iff_getElem.1 he
  obtain ⟨j, hj, rfl⟩ := List.mem_iff_getElem.1 hf
  have key := List.pairwise_iff_getElem.1 hg.easc
  rcases Nat.lt_trichotomy i j with h1 | h1 | h1
  · have := key i j (by simpa using hi) (by simpa using hj) h1
    simp at this; omega
  · subst h1; rfl
  · have := key j i (by simpa using hj) (by simpa using hi) h1
    simp at this; omega
theorem vert_uniq {g : Graph} (hg : VG g) {i j : Nat} {v u : Vertex} (hi : g.Vertices[i]? = some v) (hj : g.Vertices[j]? = some u) (h : v.ID = u.ID) : i = j := by
  obtain ⟨li, rfl⟩ := List.getElem?_eq_some_iff.1 hi
  obtain ⟨lj, rfl⟩ := List.getElem?_eq_some_iff.1 hj
  have key := List.pairwise_iff_getElem.1 hg.asc
  rcases Nat.lt_trichotomy i j with h1 | h1 | h1
  · have := key i j (by simpa using li) (by simpa using lj) h1
    simp at this; omega
  · exact h1
  · have := key j i (by simpa using lj) (by simpa using li) h1
    simp at this; omega

theorem hasV_of {g : Graph} {i : Nat} {v : Vertex} (h : g.Vertices[i]? = some v) : hasV g v.ID = true := hasV_iff.2 ⟨v, List.mem_of_getElem? h, rfl⟩

/-- The labels, in the vertices' order. -/
def labs (g : Graph) : List Named := g.Vertices.map fun v => ⟨v.ID, lb g v.ID⟩
theorem labs_get {g : Graph} {i : Nat} {v : Vertex} (h : g.Vertices[i]? = some v) : (labs g)[i]? = some ⟨v.ID, lb g v.ID⟩ := by simp [labs, h]
theorem labs_len (g : Graph) : (labs g).length = g.Vertices.length := by simp [labs]

/-! The variants. -/
theorem at2 (g : Graph) (x : Int) : (f48v1 g x).run = (f48 g.Vertices g.Edges x).run := by kernel_rfl
theorem grow2 [Fm] (g : Graph) : (f22v2.fm g).run = (f22.fm g.Vertices g.Edges).run := by kernel_rfl
theorem valid2 (l : List Vertex) (e : List Edge) : (f21 l e).run = (f21v2 ⟨l, e, []⟩).run := by kernel_rfl

theorem grow_run {g : Graph} (hg : VG g) : (f22 g.Vertices g.Edges).run = some (tree g) := @growF_run ⟨0⟩ _ hg
theorem growG_run {g : Graph} (hg : VG g) : (f22v2 g).run = some (tree g) := (@grow2 ⟨0⟩ g).trans (@growF_run ⟨0⟩ _ hg)

/-! Labels. -/
theorem out_run {g : Graph} (hg : VG g) :
    loopN fuel (fun s : Int × List Named => (f6.l1 g.Vertices (tree g) s.1 s.2).run) ((0 : Int), ([] : List Named)) = some (.a (labs g)) := by
  have hvl := hg.vlen
  obtain ⟨q, hq, rfl⟩ := loop_ix (A := List Named) (f := fun s : Int × List Named => (f6.l1 g.Vertices (tree g) s.1 s.2).run) (n := g.Vertices.length) (fun i a => ((i : Int), a)) (fun i a => a = (g.Vertices.take i).map fun v => ⟨v.ID, lb g v.ID⟩) (fun q => q = .a (labs g))
    (fun i a hi ha => by
      have hx := List.getElem?_eq_getElem hi
      have htk := List.take_succ_eq_append_getElem hi
      have hal : a.length = i := by rw [ha]; simp; omega
      have ht := tree_get hg (hasV_of hx)
      simp only [f6.l1, r_brr, L_eq, cast_lt_t hi, br_t, getR_s hx, r_look, ht, Option.getD_some, succ_wr hi (by omega)]
      rw [ap_s (by simp; unfold bigLen; omega), r_ret]
      exact .inl ⟨_, rfl, by rw [htk, List.map_append, ← ha]; rfl⟩)
    (fun a ha => ⟨_, by simp only [f6.l1, r_brr, L_eq, cast_lt_f (Nat.lt_irrefl _), br_f, r_ret] <;> rfl, by rw [ha, List.take_length]; rfl⟩)
    (k := fuel) (by have := fuel_pos; omega) (a := ([] : List Named)) (by simp)
  exact hq

theorem labels_run {g : Graph} (hs : Trd.Small g) (hv : Trd.GV g) : (f6v2 g).run = some (labs g, 0) := by
  obtain ⟨b, b1, b2⟩ := Trd.valid_run hs
  have hb : b = true := b2.2 hv
  subst hb
  have hg := vg_of hv
  simp only [f6v2]
  rw [r_cl, b1, bd_s, r_brr, Bool.not_true, br_f, r_cl, growG_run hg, bd_s, r_loop1]
  have : loopN fuel (fun s : Int × List Named => (f6v2.l1 g (tree g) s.1 s.2).run) ((0 : Int), ([] : List Named)) = _ := out_run hg
  rw [this, bd_s, ex_a, r_ret]
theorem labelsN_run {l : List Vertex} {e : List Edge} (hs : Trd.Small ⟨l, e, []⟩) (hv : Trd.GV ⟨l, e, []⟩) : (f6 l e).run = some (labs ⟨l, e, []⟩, 0) := by
  obtain ⟨b, b1, b2⟩ := Trd.valid_run hs
  have hb : b = true := b2.2 hv
  subst hb
  have hg := vg_of hv
  have hgr : (f22 l e).run = some (tree ⟨l, e, []⟩) := grow_run hg
  simp only [f6]
  rw [r_cl, valid2, b1, bd_s, r_brr, Bool.not_true, br_f, r_cl, hgr, bd_s, r_loop1]
  have : loopN fuel (fun s : Int × List Named => (f6.l1 l (tree ⟨l, e, []⟩) s.1 s.2).run) ((0 : Int), ([] : List Named)) = _ := out_run hg
  rw [this, bd_s, ex_a, r_ret]
end Frs
end Go.Fx.Gen
