/- The view of a vertex, and what a view counts, in plain words. -/
import Derived.Test.YtpkjgdngkhnhpaaPH
namespace Go.Fw.Gen
open Go.Fw
theorem foldl_or {α : Type} (p : α → Bool) : ∀ (l : List α) (b : Bool), l.foldl (fun a x => a || p x) b = (b || l.any p)
 | [], b => by simp
 | x :: l, b => by simp only [List.foldl, foldl_or p l, List.any_cons, Bool.or_assoc]
theorem br_or {α : Type} (a b : Bool) (s t : Option α) : br a s (br b s t) = br (a || b) s t := by cases a <;> rfl
theorem Other3_eq (e : Edge) (id : Int) : r3Other e id = some (otherP e id) := by
 unfold r3Other otherP
 simp only [br_if, beq_iff_eq]
 by_cases h : e.From = id
 ·rw [if_pos h, if_pos h.symm]
 ·by_cases h' : e.To = id
  ·rw [if_neg h, if_pos h', if_neg (fun c => h c.symm), if_pos h'.symm]
  ·rw [if_neg h, if_neg h', if_neg (fun c => h c.symm), if_neg (fun c => h' c.symm)]
theorem At3_eq {g : Graph} (hg : VG g) (id : Int) : r3At g id = some (atP g id) := by
 unfold r3At
 have hl := hg.elen
 rw [loop_foldO (r3At.l0 id g.Vertices g.Edges g.Depots) g.Edges (fun i (a : List Edge) => ((i : Int), a)) (fun a x => if atB id x then a ++ [x] else a) (fun i a => a.length ≤ i) (0, []) [] (atP g id) rfl (by omega) (by simp)
  (by
   intro i x a hi hx ha
   unfold r3At.l0
   have e1 : IntKind.i64.wrap ((i : Int) + 1) = ((i + 1 : Nat) : Int) := by rw [wr]; omega
   have hgd : (a ++ [x]).length ≤ bigLen := by rw [List.length_append, List.length_singleton]; unfold bigLen; omega
   rw [br_dec, if_pos (by simp only; omega), getR_s hx]
   simp only [e1, getR_s hx, gd_t hgd, br_or]
   show br (atB id x) _ _ = _ ∧ _
   cases atB id x
   ·exact ⟨rfl, by simp; omega⟩
   ·exact ⟨rfl, by simp; omega⟩)
  (by
   intro _
   unfold r3At.l0
   rw [br_dec, if_neg (by simp only; omega)]
   simp only [foldl_filter, List.nil_append]; rfl)]
 rfl
def nearB (g : Graph) (x y : Int) : Bool := y == x || (atP g x).any fun e => otherP e x == y
theorem atP_len {g : Graph} (hg : VG g) (x : Int) : (atP g x).length ≤ 40 := Nat.le_trans (List.length_filter_le ..) hg.elen
theorem View_l1 {g : Graph} (hg : VG g) (L : List Named) (hL : L.length ≤ 1000) (hn : ∀ l ∈ L, l.Label.length ≤ 1000) (x c15 c16 : Int) (ds : List Int) :
  loopN fuel (r7View.l1 L x c15 c16 (atP g x) ds) (0, []) = some (L.filter fun l => nearB g x l.ID) := by
 have hal := atP_len hg x
 refine loop_foldO _ L (fun i (a : List Named) => ((i : Int), a)) (fun a l => if nearB g x l.ID then a ++ [l] else a) (fun i a => a.length ≤ i) (0, []) [] _ rfl (by omega) (by simp)
  (by
   intro i l a hi hx ha
   unfold r7View.l1
   have e1 : IntKind.i64.wrap ((i : Int) + 1) = ((i + 1 : Nat) : Int) := by rw [wr]; omega
   have hgd : (a ++ [l]).length ≤ bigLen := by rw [List.length_append, List.length_singleton]; unfold bigLen; omega
   rw [br_dec, if_pos (by simp only; omega)]
   simp only
   rw [getR_s hx, loop_foldO (r7View.l0 L x (i : Int) c15 c16 (atP g x) ds a) (atP g x) (fun m (b : Bool) => (b, (m : Int))) (fun b e => b || otherP e x == l.ID) (fun _ _ => True) (l.ID == x, 0) (l.ID == x) (nearB g x l.ID) rfl (by omega) trivial
    (by
     intro m e b hm he _
     have e2 : IntKind.i64.wrap ((m : Int) + 1) = ((m + 1 : Nat) : Int) := by rw [wr]; omega
     unfold r7View.l0
     rw [br_dec, if_pos (by simp only; omega)]
     simp only [e2]
     cases b with
     | true => exact ⟨rfl, trivial⟩
     | false => rw [br_f, getR_s he, Other3_eq, bd_s, getR_s hx]; exact ⟨rfl, trivial⟩)
    (by
     intro _
     unfold r7View.l0
     rw [br_dec, if_neg (by simp only; omega)]
     simp only [foldl_or]; rfl), bd_s, e1]
   have hll := hn l (List.mem_of_getElem? hx)
   cases nearB g x l.ID with
   | true =>
    rw [br_t, getR_s hx, getR_s hx, gd_t (by unfold bigLen; omega), gd_t hgd, if_pos rfl]
    exact ⟨rfl, by simp; omega⟩
   | false => exact ⟨rfl, Nat.le_succ_of_le ha⟩)
  (by
   intro _
   unfold r7View.l1
   rw [br_dec, if_neg (by simp only; omega)]
   simp only [foldl_filter, List.nil_append])
theorem View_eq {g : Graph} (hg : VG g) (hs : SmallG g) (L : List Named) (hL : L.length ≤ 1000) (hn : ∀ l ∈ L, l.Label.length ≤ 1000) {i : Nat} {v : Vertex} (hi : g.Vertices[i]? = some v) :
  r7View g L v.ID = some ⟨v, g.Depots, atP g v.ID, L.filter fun l => nearB g v.ID l.ID⟩ := by
 unfold r7View
 have hd := hs.d
 rw [Place_of hg hs hi, bd_s, gd_t (by unfold bigLen; omega), At3_eq hg, bd_s, br_dec, if_pos (by omega), getR_s hi, View_l1 hg L hL hn, bd_s]
def sees (L : List Named) (x : Int) : Option (Option (List Int)) := (L.find? fun l => l.ID == x).map fun l => if l.Label.length = 3 then some l.Label else none
theorem mapGet_set {α : Type} : ∀ (l : List (Int × α)) (x y : Int) (v : α), mapGet (mapSet l x v) y = if y = x then some v else mapGet l y
 | [], x, y, v => by
  simp only [mapSet, mapGet]
  by_cases h : x = y
  ·rw [if_pos h, if_pos h.symm]
  ·rw [if_neg h, if_neg (fun c => h c.symm)]
 | (k, u) :: l, x, y, v => by
  unfold mapSet
  by_cases h : k = x
  ·rw [if_pos h]
   unfold mapGet
   by_cases h2 : k = y
   ·rw [if_pos h2, if_pos (h2 ▸ h)]
   ·rw [if_neg h2, if_neg h2, if_neg (fun c => h2 (h.trans c.symm))]
  ·rw [if_neg h]
   unfold mapGet
   by_cases h2 : k = y
   ·rw [if_pos h2, if_pos h2, if_neg (fun c => h (h2.trans c))]
   ·rw [if_neg h2, if_neg h2]; exact mapGet_set l x y v
theorem seen_eq (v : View) (hL : v.Labels.length ≤ 1000) : ∃ M, forest_seen v = some M ∧ ∀ x, mapGet M x = sees v.Labels x := by
 unfold forest_seen
 have main : ∃ M, loopN fuel (forest_seen.l0 v.Labels ((v.Labels.length : Nat) : Int)) (0, ([] : List (Int × (Option (List Int))))) = some M ∧ ∀ x, mapGet M x = sees v.Labels x := by
  refine loopN_of (f := forest_seen.l0 v.Labels ((v.Labels.length : Nat) : Int)) (fun s => ∃ (i : Nat), s.1 = (i : Int) ∧ i ≤ v.Labels.length ∧ ∀ x, mapGet s.2 x = sees (v.Labels.take i) x) (fun M => ∀ x, mapGet M x = sees v.Labels x) (fun s => v.Labels.length - s.1.toNat) ?_ fuel (0, []) ⟨0, rfl, by omega, fun x => rfl⟩ (by have := fuel_pos; simp only; omega)
  rintro ⟨s1, M⟩ ⟨i, h1, hi, hM⟩
  simp only at h1 hM
  subst h1
  by_cases h : i = v.Labels.length
  ·right
   refine ⟨M, ?_, ?_⟩
   ·unfold forest_seen.l0
    rw [br_dec, if_neg (by simp only; omega)]
   ·rw [h, List.take_length] at hM; exact hM
  ·left
   have e1 : IntKind.i64.wrap ((i : Int) + 1) = ((i + 1 : Nat) : Int) := by rw [wr]; omega
   have hx : v.Labels[i]? = some (v.Labels[i]'(by omega)) := by simp
   generalize v.Labels[i]'(by omega) = l at hx
   have htake : v.Labels.take (i + 1) = v.Labels.take i ++ [l] := by rw [List.take_add_one, hx]; rfl
   have hsee : ∀ x, sees (v.Labels.take (i + 1)) x = (sees (v.Labels.take i) x).or (if l.ID = x then some (if l.Label.length = 3 then some l.Label else none) else none) := by
    intro x
    unfold sees
    rw [htake, List.find?_append]
    cases List.find? (fun l => l.ID == x) (v.Labels.take i) with
    | some _ => rfl
    | none =>
     simp only [Option.none_or, Option.map_none, List.find?_cons]
     by_cases h : l.ID = x
     ·rw [if_pos h, beq_iff_eq.2 h]; rfl
     ·rw [if_neg h, beq_eq_false_iff_ne.2 h]; rfl
   suffices hh : ∃ M', forest_seen.l0 v.Labels ((v.Labels.length : Nat) : Int) ((i : Int), M) = some (.cont (((i + 1 : Nat) : Int), M')) ∧ ∀ x, mapGet M' x = sees (v.Labels.take (i + 1)) x by
    obtain ⟨M', a, b⟩ := hh
    exact ⟨_, a, ⟨i + 1, rfl, by omega, b⟩, by simp only; omega⟩
   unfold forest_seen.l0
   rw [br_dec, if_pos (by simp only; omega)]
   simp only
   rw [getR_s hx, e1]
   cases hm : mapGet M l.ID with
   | some o =>
    have hq : ∀ x, mapGet M x = sees (v.Labels.take (i + 1)) x := by
     intro x
     rw [hsee x, ← hM x]
     by_cases h : l.ID = x
     ·rw [← h, hm]; rfl
     ·rw [if_neg h, Option.or_none]
    cases o with
    | none => exact ⟨M, rfl, hq⟩
    | some o => exact ⟨M, rfl, hq⟩
   | none =>
    rw [oc_n, br_if]
    by_cases h3 : l.Label.length = 3
    ·rw [if_pos (by simp [h3])]
     refine ⟨_, rfl, fun x => ?_⟩
     rw [mapGet_set, mapGet_set, hsee x, ← hM x, if_pos h3]
     by_cases h : l.ID = x
     ·rw [if_pos h.symm, if_pos h, ← h, hm]; rfl
     ·rw [if_neg (fun c => h c.symm), if_neg (fun c => h c.symm), if_neg h, Option.or_none]
    ·rw [if_neg (by simp only [beq_iff_eq]; omega)]
     refine ⟨_, rfl, fun x => ?_⟩
     rw [mapGet_set, hsee x, ← hM x, if_neg h3]
     by_cases h : l.ID = x
     ·rw [if_pos h.symm, if_pos h, ← h, hm]; rfl
     ·rw [if_neg (fun c => h c.symm), if_neg h, Option.or_none]
 obtain ⟨M, h1, h2⟩ := main
 rw [h1]; exact ⟨M, rfl, h2⟩
theorem Count_eq (v : View) (hL : v.Labels.length ≤ 1000) {a b c : Int} (h : sees v.Labels v.Vertex.ID = some (some [a, b, c])) : forest_Count v = some (if b = 0 then 1 else 0) := by
 unfold forest_Count
 obtain ⟨M, h1, h2⟩ := seen_eq v hL
 rw [h1, bd_s, h2, h, oc_s, oc_s, gd_t (show [a, b, c].isEmpty = false from rfl)]
 show br (b == 0) _ _ = _
 rw [br_if]
 by_cases hb : b = 0
 ·rw [if_pos hb, if_pos (beq_iff_eq.2 hb)]
 ·rw [if_neg hb, if_neg (by simpa using hb)]
theorem sees_labs {g : Graph} (hg : VG g) {i : Nat} {v : Vertex} (hi : g.Vertices[i]? = some v) (p : Named → Bool) (hp : p ⟨v.ID, lb g v.ID⟩ = true) : sees ((labs g).filter p) v.ID = some (some (lb g v.ID)) := by
 unfold sees
 have hm : (⟨v.ID, lb g v.ID⟩ : Named) ∈ (labs g).filter p := List.mem_filter.2 ⟨List.mem_of_getElem? (labs_get hi), hp⟩
 cases hf : ((labs g).filter p).find? (fun l => l.ID == v.ID) with
 | none =>
  rw [List.find?_eq_none] at hf
  exact absurd (beq_self_eq_true _) (hf _ hm)
 | some l =>
  have h1 := List.mem_of_find?_eq_some hf
  have h2 := List.find?_some hf
  obtain ⟨u, hu, rfl⟩ := List.mem_map.1 (List.mem_filter.1 h1).1
  have h3 : u.ID = v.ID := by simpa using h2
  simp only [Option.map_some, h3]
  rfl
theorem CountView {g : Graph} (hg : VG g) (hs : SmallG g) {i : Nat} {v : Vertex} (hi : g.Vertices[i]? = some v) :
  (bd (r7View g (labs g) v.ID) fun w => forest_Count w) = some (if dp g v.ID = 0 then 1 else 0) := by
 have hl := hg.vlen
 rw [View_eq hg hs (labs g) (by rw [labs_len]; omega) (by intro l hl; obtain ⟨u, _, rfl⟩ := List.mem_map.1 hl; simp [lb]) hi, bd_s]
 exact Count_eq _ (by have := List.length_filter_le (fun l => nearB g v.ID l.ID) (labs g); rw [labs_len] at this; simp only; omega)
  (sees_labs hg hi _ (by simp [nearB]))
end Go.Fw.Gen
