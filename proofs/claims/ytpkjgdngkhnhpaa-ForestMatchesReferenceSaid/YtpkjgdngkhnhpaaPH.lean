/- What the forest's labels are, vertex by vertex, in plain words. -/
import Derived.Test.YtpkjgdngkhnhpaaPG
namespace Go.Fw.Gen
open Go.Fw
def look (g : Graph) (x : Int) : Tr := ((allT g).find? fun t => t.1 == x).getD (x, x, 0)
def rt (g : Graph) (x : Int) : Int := (look g x).2.1
def dp (g : Graph) (x : Int) : Int := (look g x).2.2
def ed (g : Graph) (x : Int) : Int := edgeOf g (allT g) (look g x)
def lb (g : Graph) (x : Int) : List Int := [rt g x, dp g x, ed g x]
theorem look_of {g : Graph} (hg : VG g) {t : Tr} (ht : t ∈ allT g) : look g t.1 = t := by
 unfold look; rw [find_ids (allT_J hg).1.nd ht]; rfl
theorem look_mem {g : Graph} (hg : VG g) {x : Int} (hx : hasV g x = true) : look g x ∈ allT g ∧ (look g x).1 = x := by
 obtain ⟨v, hv, rfl⟩ := hasV_iff.1 hx
 obtain ⟨t, ht, e⟩ := List.mem_map.1 ((allT_J hg).2 v hv)
 rw [← e, look_of hg ht]; exact ⟨ht, rfl⟩
theorem mapGet_find {α : Type} (f : Tr → α) (x : Int) : ∀ (l : List Tr), mapGet (l.map fun t => (t.1, f t)) x = (l.find? fun t => t.1 == x).map f
 | [] => rfl
 | t :: l => by
  simp only [List.map_cons, mapGet, List.find?_cons]
  by_cases h : t.1 = x
  ·rw [if_pos h, beq_iff_eq.2 h]; rfl
  ·rw [if_neg h, mapGet_find f x l, beq_eq_false_iff_ne.2 h]
theorem tree_get {g : Graph} (hg : VG g) {x : Int} (hx : hasV g x = true) : mapGet (tree g) x = some (some (lb g x)) := by
 obtain ⟨h1, h2⟩ := look_mem hg hx
 unfold tree
 rw [mapGet_find (fun t => some (fin1 g (allT g) t)) x]
 have := find_ids (allT_J hg).1.nd h1
 rw [h2] at this
 rw [this]; rfl
theorem dp_range {g : Graph} (hg : VG g) {x : Int} (hx : hasV g x = true) : 0 ≤ dp g x ∧ dp g x ≤ 23 := by
 have hJ := (allT_J hg).1
 have := hJ.dn _ (look_mem hg hx).1
 have := hJ.len hg
 unfold dp; omega
theorem rt_root {g : Graph} (hg : VG g) {x : Int} (hx : hasV g x = true) : hasV g (rt g x) = true ∧ rt g (rt g x) = rt g x ∧ dp g (rt g x) = 0 := by
 have hJ := (allT_J hg).1
 obtain ⟨i, hi⟩ := List.getElem?_of_mem (look_mem hg hx).1
 obtain ⟨u, hu, h1, h2, h3⟩ := hJ.rootIn i _ hi
 have := look_of hg hu
 refine ⟨?_, ?_, ?_⟩
 ·have h := hJ.hv u hu; rw [h1] at h; exact h
 ·show (look g (look g x).2.1).2.1 = _; rw [← h1, this, h3]; rfl
 ·show (look g (look g x).2.1).2.2 = _; rw [← h1, this, h2]
theorem dp_zero {g : Graph} (hg : VG g) {x : Int} (hx : hasV g x = true) : dp g x = 0 ↔ rt g x = x := by
 constructor
 ·intro h
  have hJ := (allT_J hg).1
  obtain ⟨i, hi⟩ := List.getElem?_of_mem (look_mem hg hx).1
  rcases hJ.par i _ hi with ⟨_, h2⟩ | ⟨j, u, e, _, hu, _, _, _, _, h3⟩
  ·show (look g x).2.1 = x; rw [h2, (look_mem hg hx).2]
  ·have := hJ.dn u (List.mem_of_getElem? hu)
   have h' : (look g x).2.2 = 0 := h
   omega
 ·intro h
  have := (rt_root hg hx).2.2
  rwa [h] at this
theorem edge_rt {g : Graph} (hg : VG g) {x : Int} (hx : hasV g x = true) {e : Edge} (he : e ∈ g.Edges) (ha : atB x e = true) : rt g (otherP e x) = rt g x ∧ dp g (otherP e x) ≤ dp g x + 1 ∧ dp g x ≤ dp g (otherP e x) + 1 := by
 have hJ := (allT_J hg).1
 obtain ⟨h1, h2⟩ := look_mem hg hx
 obtain ⟨i, hi⟩ := List.getElem?_of_mem h1
 obtain ⟨u, hu, u1, u2, u3, u4⟩ := hJ.edge i _ e (List.getElem?_eq_some_iff.1 hi).1 hi he (by rw [h2]; exact ha)
 rw [h2] at u1
 have := look_of hg hu
 rw [u1] at this
 unfold rt dp
 rw [this]
 exact ⟨u2, u3, u4⟩
theorem par_edge {g : Graph} (hg : VG g) {x : Int} (hx : hasV g x = true) (h0 : dp g x ≠ 0) : ∃ e ∈ atP g x, dp g (otherP e x) = dp g x - 1 := by
 have hJ := (allT_J hg).1
 obtain ⟨h1, h2⟩ := look_mem hg hx
 obtain ⟨i, hi⟩ := List.getElem?_of_mem h1
 rcases hJ.par i _ hi with ⟨h, _⟩ | ⟨j, u, e, _, hu, he, ha, ho, _, h3⟩
 ·exact absurd h h0
 ·rw [h2] at ha ho
  have := look_of hg (List.mem_of_getElem? hu)
  refine ⟨e, List.mem_filter.2 ⟨he, ha⟩, ?_⟩
  unfold dp
  rw [ho, this]; omega
theorem dep_dp {g : Graph} (hg : VG g) {x : Int} (hx : hasV g x = true) : dep? (allT g) x = some (dp g x) := by
 obtain ⟨h1, h2⟩ := look_mem hg hx
 have := dep_of (allT_J hg).1.nd h1
 rw [h2] at this; exact this
theorem ed_spec {g : Graph} (hg : VG g) {x : Int} (hx : hasV g x = true) :
  (dp g x = 0 ∧ ed g x = -1) ∨ (dp g x ≠ 0 ∧ ∃ e ∈ atP g x, e.ID = ed g x ∧ dp g (otherP e x) = dp g x - 1) := by
 obtain ⟨h1, h2⟩ := look_mem hg hx
 unfold ed edgeOf
 rw [h2]
 have hat : ∀ e ∈ atP g x, dep? (allT g) (otherP e x) = some (dp g (otherP e x)) := fun e he => by
  obtain ⟨a, b⟩ := List.mem_filter.1 he
  exact dep_dp hg (hg.other a b)
 cases hf : (atP g x).find? (fun e => dep? (allT g) (otherP e x) == some ((look g x).2.2 - 1)) with
 | none =>
  left
  rw [List.find?_eq_none] at hf
  refine ⟨?_, rfl⟩
  rcases Classical.em (dp g x = 0) with h | h
  ·exact h
  ·obtain ⟨e, he, h3⟩ := par_edge hg hx h
   have := hf e he
   rw [hat e he, h3] at this
   exact absurd (beq_iff_eq.2 rfl) this
 | some e =>
  right
  have hm := List.mem_of_find?_eq_some hf
  have := List.find?_some hf
  rw [hat e hm] at this
  have h3 : dp g (otherP e x) = dp g x - 1 := by simpa [dp] using this
  obtain ⟨a, b⟩ := List.mem_filter.1 hm
  have := (dp_range hg (hg.other a b)).1
  exact ⟨by omega, e, hm, rfl, h3⟩
theorem edge_uniq {g : Graph} (hg : VG g) {e f : Edge} (he : e ∈ g.Edges) (hf : f ∈ g.Edges) (h : e.ID = f.ID) : e = f := by
 obtain ⟨i, hi, rfl⟩ := List.mem_iff_getElem.1 he
 obtain ⟨j, hj, rfl⟩ := List.mem_iff_getElem.1 hf
 have key := List.pairwise_iff_getElem.1 hg.easc
 rcases Nat.lt_trichotomy i j with h1 | h1 | h1
 ·have := key i j (by simpa using hi) (by simpa using hj) h1
  simp at this; omega
 ·subst h1; rfl
 ·have := key j i (by simpa using hj) (by simpa using hi) h1
  simp at this; omega
theorem vert_uniq {g : Graph} (hg : VG g) {i j : Nat} {v u : Vertex} (hi : g.Vertices[i]? = some v) (hj : g.Vertices[j]? = some u) (h : v.ID = u.ID) : i = j := by
 obtain ⟨li, rfl⟩ := List.getElem?_eq_some_iff.1 hi
 obtain ⟨lj, rfl⟩ := List.getElem?_eq_some_iff.1 hj
 have key := List.pairwise_iff_getElem.1 hg.asc
 rcases Nat.lt_trichotomy i j with h1 | h1 | h1
 ·have := key i j (by simpa using li) (by simpa using lj) h1
  simp at this; omega
 ·exact h1
 ·have := key j i (by simpa using lj) (by simpa using li) h1
  simp at this; omega
theorem hasV_of {g : Graph} {i : Nat} {v : Vertex} (h : g.Vertices[i]? = some v) : hasV g v.ID = true := hasV_iff.2 ⟨v, List.mem_of_getElem? h, rfl⟩
def labs (g : Graph) : List Named := g.Vertices.map fun v => ⟨v.ID, lb g v.ID⟩
theorem labs_get {g : Graph} {i : Nat} {v : Vertex} (h : g.Vertices[i]? = some v) : (labs g)[i]? = some ⟨v.ID, lb g v.ID⟩ := by simp [labs, h]
theorem labs_len (g : Graph) : (labs g).length = g.Vertices.length := by simp [labs]
theorem Labels_eq {g : Graph} (hg : VG g) (hs : SmallG g) (hv : validP g = true) : forest_Labels g = some (labs g, 0) := by
 have hl := hg.vlen
 unfold forest_Labels
 rw [Valid_eq g hs, bd_s, hv]
 rw [show (!true) = false from rfl, br_f, grow_eq hg hs, bd_s]
 have main := loop_foldO (forest_Labels.l0 (tree g) g.Vertices ((g.Vertices.length : Nat) : Int)) g.Vertices (fun i (a : List Named) => ((i : Int), a)) (fun a v => a ++ [⟨v.ID, lb g v.ID⟩])
  (fun i a => a.length = i) (0, []) [] (labs g) rfl (by omega) rfl
  (by
   intro i v a hi hx ha
   have e1 : IntKind.i64.wrap ((i : Int) + 1) = ((i + 1 : Nat) : Int) := by rw [wr]; omega
   unfold forest_Labels.l0
   rw [br_dec, if_pos (by simp only; omega)]
   simp only
   rw [getR_s hx, tree_get hg (hasV_of hx), oc_s, oc_s, gd_t (by rw [List.length_append, List.length_singleton]; unfold bigLen; omega), e1]
   exact ⟨rfl, by simp [ha]⟩)
  (by
   intro _
   unfold forest_Labels.l0
   rw [br_dec, if_neg (by simp only; omega)]
   simp only [foldl_app]
   rfl)
 rw [main]; rfl
theorem known11_eq (v : Vertex) (x : Int) : forest_known_1_1 v x = some (v.ID == x) := rfl
theorem known1_eq (x : Int) (vs : List Vertex) (es : List Edge) (ds : List Int) (hl : vs.length ≤ 1000) : forest_known_1 x vs es ds = some (!(vs.any fun v => v.ID == x)) := by
 unfold forest_known_1 sContainsFuncVV_1 sIndexFuncVV_1
 rcases idx_loop vs _ rfl (by omega) (fun v => forest_known_1_1 v x) (fun v => v.ID == x) (fun _ _ => rfl) (sIndexFuncVV_1.l0 vs ((vs.length : Nat) : Int) x) (fun _ => rfl) with ⟨i, h1, h2, _⟩ | ⟨h1, h2⟩
 ·rw [h1, h2]; simp [bd]
 ·rw [h1, h2]; rfl
theorem known_eq (g : Graph) (hs : SmallG g) (l : List Int) (hl : l.length ≤ 1000) : forest_known g l = some (validP g && l.all (hasV g)) := by
 unfold forest_known
 rw [Valid_eq g hs, bd_s, br_if]
 have := any_loop l _ rfl (by omega) (fun x => forest_known_1 x g.Vertices g.Edges g.Depots) (fun x => !(hasV g x)) (fun x _ => known1_eq x _ _ _ hs.v) (sIndexFunc_int_int_1.l0 l ((l.length : Nat) : Int) g.Vertices g.Edges g.Depots) (fun _ => rfl)
 have h2 : sContainsFunc_int_int_1 l g.Vertices g.Edges g.Depots = some (l.any fun x => !(hasV g x)) := by
  rw [← this]; unfold sContainsFunc_int_int_1 sIndexFunc_int_int_1; rfl
 rw [h2, bd_s]
 cases validP g with
 | false => rfl
 | true =>
  rw [if_pos rfl, Bool.true_and]
  rw [show (!(l.any fun x => !hasV g x)) = l.all (hasV g) by clear this h2 hl; induction l with
   | nil => rfl
   | cons x l ih => simp only [List.any_cons, List.all_cons, Bool.not_or, Bool.not_not, ih]]
theorem Connected_eq {g : Graph} (hg : VG g) (hs : SmallG g) (hv : validP g = true) {a b : Int} (ha : hasV g a = true) (hb : hasV g b = true) : forest_Connected g a b = some (rt g a == rt g b, 0) := by
 unfold forest_Connected
 rw [known_eq g hs _ (by simp), bd_s, hv]
 simp only [List.all_cons, List.all_nil, ha, hb, Bool.and_self, Bool.not_true, br_f]
 rw [grow_eq hg hs, bd_s, tree_get hg ha, oc_s, oc_s, tree_get hg hb]
 rfl
theorem Place_eq {g : Graph} (hs : SmallG g) (x : Int) : (∃ (i : Nat) (v : Vertex), r3Place g x = some (i : Int) ∧ g.Vertices[i]? = some v ∧ v.ID = x) ∨ (r3Place g x = some (-1) ∧ hasV g x = false) := by
 unfold r3Place
 have hl := hs.v
 rcases idx_loop g.Vertices _ rfl (by omega) (fun v => some (v.ID == x)) (fun v => v.ID == x) (fun _ _ => rfl) (r3Place.l0 x g.Vertices g.Edges g.Depots) (fun _ => rfl) with ⟨i, h1, _, v, h2, h3, _⟩ | ⟨h1, h2⟩
 ·left; rw [h1]; exact ⟨i, v, rfl, h2, by simpa using h3⟩
 ·right; rw [h1]; exact ⟨rfl, h2⟩
theorem Place_of {g : Graph} (hg : VG g) (hs : SmallG g) {i : Nat} {v : Vertex} (h : g.Vertices[i]? = some v) : r3Place g v.ID = some (i : Int) := by
 rcases Place_eq hs v.ID with ⟨j, u, h1, h2, h3⟩ | ⟨_, h2⟩
 ·rw [h1, vert_uniq hg h2 h h3]
 ·rw [hasV_of h] at h2; cases h2
end Go.Fw.Gen
