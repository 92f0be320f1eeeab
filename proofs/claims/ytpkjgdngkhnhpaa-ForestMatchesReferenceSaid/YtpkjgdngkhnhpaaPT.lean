/- The reference's ways, sides and paths, in plain words: they are the forest's. -/
import Derived.Test.YtpkjgdngkhnhpaaPS
import Derived.Test.YtpkjgdngkhnhpaaG4
namespace Go.Fw.Gen
open Go.Fw
theorem Connected3_eq {g : Graph} (hg : VG g) (hs : SmallG g) (hv : validP g = true) {a b : Int} (ha : hasV g a = true) (hb : hasV g b = true) : r7Connected g a b = some (rt g a == rt g b, 0) := by
 obtain ⟨u, hu, rfl⟩ := hasV_iff.1 hb
 obtain ⟨j, hj⟩ := List.getElem?_of_mem hu
 unfold r7Connected
 rw [ends_eq hs, bd_s, hv, ha, hb, show (!(true && (true && true))) = false from rfl, br_f, part_eq hg hs ha, bd_s, Place_of hg hs hj, bd_s]
 rw [getR_s (a := rt g u.ID == rt g a) (by rw [List.getElem?_map, hj]; rfl)]
 congr 2
 rw [Bool.eq_iff_iff, beq_iff_eq, beq_iff_eq]
 exact eq_comm
theorem Connected3_no {g : Graph} (hs : SmallG g) {a b : Int} (h : (validP g && (hasV g a && hasV g b)) = false) : r7Connected g a b = some (false, 70) := by
 unfold r7Connected
 rw [ends_eq hs, bd_s, h]; rfl
theorem Connected_no {g : Graph} (hs : SmallG g) {a b : Int} (h : (validP g && (hasV g a && hasV g b)) = false) : forest_Connected g a b = some (false, 70) := by
 unfold forest_Connected
 rw [known_eq g hs _ (by simp), bd_s]
 simp only [List.all_cons, List.all_nil, Bool.and_true, h]
 rfl
theorem Side3_eq {g : Graph} (hg : VG g) (hs : SmallG g) (hv : validP g = true) {a : Int} (ha : hasV g a = true) : r7Side g a = some (sideP g a, 0) := by
 have hvl := hg.vlen
 unfold r7Side
 rw [ends_eq hs, bd_s, hv, ha, show (!(true && (true && true))) = false from rfl, br_f, part_eq hg hs ha, bd_s]
 have main := loop_foldO (r7Side.l0 (g.Vertices.map fun v => rt g v.ID == rt g a) g.Vertices g.Edges g.Depots) g.Vertices (fun i (l : List Vertex) => ((i : Int), l.map (·.ID))) (fun l v => if rt g v.ID == rt g a then l ++ [v] else l)
  (fun i l => l.length ≤ i) (0, []) [] (sideP g a) rfl (by omega) (by simp)
  (by
   intro i v l hi hx hn
   have e1 : IntKind.i64.wrap ((i : Int) + 1) = ((i + 1 : Nat) : Int) := by rw [wr]; omega
   unfold r7Side.l0
   rw [br_dec, if_pos (by simp only [List.length_map]; omega)]
   simp only
   rw [getR_s (a := rt g v.ID == rt g a) (by rw [List.getElem?_map, hx]; rfl), getR_s hx, e1]
   have hgd : (l.map (·.ID) ++ [v.ID]).length ≤ bigLen := by rw [List.length_append, List.length_singleton, List.length_map]; unfold bigLen; omega
   rw [gd_t hgd]
   cases rt g v.ID == rt g a
   ·exact ⟨rfl, Nat.le_succ_of_le hn⟩
   ·refine ⟨?_, by simp; omega⟩
    rw [br_t, if_pos rfl, List.map_append]; rfl)
  (by
   intro _
   unfold r7Side.l0
   rw [br_dec, if_neg (by simp only [List.length_map]; omega)]
   simp only [foldl_filter, List.nil_append]; rfl)
 rw [main]; rfl
theorem Side3_no {g : Graph} (hs : SmallG g) {a : Int} (h : (validP g && hasV g a) = false) : r7Side g a = some ([], 70) := by
 unfold r7Side
 rw [ends_eq hs, bd_s, Bool.and_self, h]; rfl
theorem Side_no {g : Graph} (hs : SmallG g) {a : Int} (h : (validP g && hasV g a) = false) : forest_Side g a = some ([], 70) := by
 unfold forest_Side
 rw [known_eq g hs _ (by simp), bd_s]
 simp only [List.all_cons, List.all_nil, Bool.and_true, h]
 rfl
theorem Find3_eq {g : Graph} (hs : SmallG g) (x : Int) : (∃ (i : Nat) (e : Edge), r3Find g x = some (i : Int) ∧ g.Edges[i]? = some e ∧ e.ID = x ∧ ∀ y, stepP g y x = otherP e y) ∨ (r3Find g x = some (-1) ∧ ∀ y, stepP g y x = -1) := by
 unfold r3Find
 have hl := hs.e
 rcases idx_loop g.Edges _ rfl (by omega) (fun e => some (e.ID == x)) (fun e => e.ID == x) (fun _ _ => rfl) (r3Find.l0 x g.Vertices g.Edges g.Depots) (fun _ => rfl) with ⟨i, h1, _, e, h2, h3, h4⟩ | ⟨h1, h2⟩
 ·left
  rw [h1]
  refine ⟨i, e, rfl, h2, by simpa using h3, fun y => ?_⟩
  unfold stepP
  have : g.Edges.find? (fun e => e.ID == x) = some e := by
   rw [List.find?_eq_some_iff_getElem]
   obtain ⟨hi, hx⟩ := List.getElem?_eq_some_iff.1 h2
   refine ⟨h3, i, hi, hx, fun j hj => ?_⟩
   have := h4 j (g.Edges[j]'(by omega)) hj (by simp)
   simpa using this
  rw [this]
 ·right
  rw [h1]
  refine ⟨rfl, fun y => ?_⟩
  unfold stepP
  have : g.Edges.find? (fun e => e.ID == x) = none := by
   rw [List.find?_eq_none]
   intro e he
   have := List.any_eq_false.1 h2 e he
   simpa using this
  rw [this]
inductive Up (g : Graph) : Int → List Int → List Int → Prop
 | root (x : Int) : hasV g x = true → dp g x = 0 → Up g x [] [x]
 | step (x : Int) (es vs : List Int) : hasV g x = true → dp g x ≠ 0 → Up g (par g x) es vs → Up g x (ed g x :: es) (x :: vs)
theorem Up.ex {g : Graph} (hg : VG g) : ∀ (n : Nat) {x : Int}, hasV g x = true → dp g x ≤ n → ∃ es vs, Up g x es vs := by
 intro n
 induction n with
 | zero =>
  intro x hx hn
  have := dp_range hg hx
  exact ⟨_, _, .root x hx (by omega)⟩
 | succ n ih =>
  intro x hx hn
  by_cases h : dp g x = 0
  ·exact ⟨_, _, .root x hx h⟩
  ·obtain ⟨_, _, _, _, _, p1, p2, p3⟩ := par_spec hg hx h
   obtain ⟨es, vs, hu⟩ := ih p1 (by omega)
   exact ⟨_, _, .step x es vs hx h hu⟩
theorem Up.low {g : Graph} (hg : VG g) {x : Int} {es vs : List Int} (h : Up g x es vs) : vs.length = es.length + 1 ∧ (es.length : Int) ≤ dp g x ∧ rt g x ∈ vs ∧ ∀ y ∈ vs, dp g y < dp g x ∨ y = x := by
 induction h with
 | root x hx h0 =>
  have := (dp_zero hg hx).1 h0
  refine ⟨rfl, by simp [h0], by rw [this]; simp, fun y hy => .inr (by simpa using hy)⟩
 | step x es vs hx h0 _ ih =>
  obtain ⟨_, _, _, _, _, p1, p2, p3⟩ := par_spec hg hx h0
  obtain ⟨i1, i2, i3, i4⟩ := ih
  refine ⟨by simp [i1], by simp only [List.length_cons]; omega, by rw [← p3]; exact .tail _ i3, fun y hy => ?_⟩
  cases hy with
  | head => exact .inr rfl
  | tail _ hy =>
   rcases i4 y hy with h | rfl
   ·exact .inl (by omega)
   ·exact .inl (by omega)
theorem way_eq {g : Graph} (hg : VG g) (hs : SmallG g) {a : Int} {es vs : List Int} (hu : Up g a es vs) : r7way g (labs g) a = some (es, vs) := by
 unfold r7way
 have hll := (hu.low hg).1
 have hle : (es.length : Int) ≤ 23 := by
  have h1 := (hu.low hg).2.1
  have : hasV g a = true := by cases hu <;> assumption
  have := dp_range hg this
  omega
 obtain ⟨r, h1, h2⟩ := loopN_of (f := r7way.l0 (labs g) g.Vertices g.Edges g.Depots)
  (fun s => ∃ es' vs', Up g s.1 es' (s.1 :: vs') ∧ s.2.1 ++ es' = es ∧ s.2.2 ++ vs' = vs) (fun r => r = (es, vs)) (fun s => es.length - s.2.1.length) (by
   rintro ⟨x, u, v⟩ ⟨es', vs', hup, h1, h2⟩
   simp only at hup h1 h2
   have hx : hasV g x = true := by cases hup <;> assumption
   obtain ⟨w, hw, rfl⟩ := hasV_iff.1 hx
   obtain ⟨i, hi⟩ := List.getElem?_of_mem hw
   have hlu : u.length ≤ es.length := by rw [← h1, List.length_append]; omega
   have hlv : v.length ≤ vs.length := by rw [← h2, List.length_append]; omega
   generalize hvv : w.ID :: vs' = vv at hup
   cases hup with
   | root _ _ h0 =>
    right
    cases hvv
    rw [List.append_nil] at h1 h2
    subst h1; subst h2
    refine ⟨(u, v), ?_, rfl⟩
    unfold r7way.l0
    show bd (r3Place g w.ID) _ = _
    rw [Place_of hg hs hi, bd_s, getR_s (labs_get hi)]
    show br (decide (ed g w.ID < 0)) _ _ = _
    rcases ed_spec hg hx with ⟨_, h⟩ | ⟨h, _⟩
    ·rw [h]; rfl
    ·exact absurd h0 h
   | step _ es'' vs'' _ h0 hup' =>
    left
    cases hvv
    obtain ⟨e, he, hb, hid, hp, p1, p2, p3⟩ := par_spec hg hx h0
    have hE := hg.eid e he
    have hvs : ∃ t, vs' = par g w.ID :: t := by
     cases hup' with
     | root => exact ⟨_, rfl⟩
     | step => exact ⟨_, rfl⟩
    obtain ⟨t, rfl⟩ := hvs
    refine ⟨(par g w.ID, u ++ [ed g w.ID], v ++ [par g w.ID]), ?_, ⟨es'', t, hup', by simpa using h1, by simpa using h2⟩, ?_⟩
    ·unfold r7way.l0
     show bd (r3Place g w.ID) _ = _
     rw [Place_of hg hs hi, bd_s, getR_s (labs_get hi)]
     show br (decide (ed g w.ID < 0)) _ (bd (r3Find g (ed g w.ID)) _) = _
     rw [br_dec, if_neg (by omega)]
     rcases Find3_eq hs (ed g w.ID) with ⟨j, f, f1, f2, f3, _⟩ | ⟨_, f2⟩
     ·rw [f1, bd_s, getR_s f2, Other3_eq, bd_s]
      have : f = e := edge_uniq hg (List.mem_of_getElem? f2) he (by rw [f3, hid])
      subst this
      have hl1 : (u ++ [ed g w.ID]).length ≤ bigLen := by rw [List.length_append, List.length_singleton]; unfold bigLen; omega
      have hl2 : (v ++ [otherP f w.ID]).length ≤ bigLen := by rw [List.length_append, List.length_singleton]; unfold bigLen; omega
      simp only
      rw [gd_t hl1, gd_t hl2, hp]
     ·exfalso
      have h := f2 w.ID
      have h' : par g w.ID = -1 := h
      have := hasV_nn hg p1
      omega
    ·have : es.length = (u ++ ed g w.ID :: es'').length := by rw [h1]
     simp only [List.length_append, List.length_cons, List.length_nil] at this ⊢
     omega)
  fuel (a, [], [a]) (by
   cases hu with
   | root _ h h0 => exact ⟨[], [], .root a h h0, rfl, rfl⟩
   | step _ es vs h h0 h1 => exact ⟨_, _, .step a es vs h h0 h1, rfl, rfl⟩) (by have := fuel_pos; simp only; omega)
 rw [h1, h2]; rfl
theorem meet_eq {g : Graph} (hg : VG g) {a b : Int} {es vs : List Int} (h : Climb g a b es vs) : ∀ {U A D B : List Int}, Up g a U A → Up g b D B → ∀ (i k : Nat) (z : Int), A[i]? = some z → B[k]? = some z → (∀ j y, j < i → A[j]? = some y → y ∉ B) → (∀ j y, j < k → B[j]? = some y → y ≠ z) → es = U.take i ++ (D.take k).reverse := by
 induction h with
 | refl a ha =>
  intro U A D B hU hD i k z h1 h2 h3 h4
  have hA0 : A[0]? = some a := by cases hU <;> rfl
  have hB0 : B[0]? = some a := by cases hD <;> rfl
  have hi : i = 0 := by
   rcases Nat.eq_zero_or_pos i with h | h
   ·exact h
   ·exact absurd (List.mem_of_getElem? hB0) (h3 0 a h hA0)
  subst hi
  rw [hA0] at h1; cases h1
  have hk : k = 0 := by
   rcases Nat.eq_zero_or_pos k with h | h
   ·exact h
   ·exact absurd rfl (h4 0 a h hB0)
  subst hk
  simp
 | up a b es vs ha h0 hne hle hc ih =>
  intro U A D B hU hD i k z h1 h2 h3 h4
  cases hU with
  | root _ _ h => exact absurd h h0
  | step _ U A _ _ hU =>
   cases i with
   | zero =>
    exfalso
    simp at h1; subst h1
    rcases (hD.low hg).2.2.2 a (List.mem_of_getElem? h2) with h | h
    ·omega
    ·exact hne h
   | succ i =>
    have := ih hU hD i k z (by simpa using h1) h2 (fun j y hj hy => h3 (j + 1) y (by omega) (by simpa using hy)) h4
    rw [this]; rfl
 | down a b es vs hb h0 hne hlt hc ih =>
  intro U A D B hU hD i k z h1 h2 h3 h4
  cases hD with
  | root _ _ h => exact absurd h h0
  | step _ D B _ _ hD =>
   cases k with
   | zero =>
    exfalso
    simp at h2; subst h2
    rcases (hU.low hg).2.2.2 b (List.mem_of_getElem? h1) with h | h
    ·omega
    ·exact hne h.symm
   | succ k =>
    have := ih hU hD i k z h1 (by simpa using h2) (fun j y hj hy hm => h3 j y hj hy (.tail _ hm)) (fun j y hj hy => h4 (j + 1) y (by omega) (by simpa using hy))
    rw [this]; simp
theorem foldr_rev : ∀ (l a : List Int), l.foldr (fun x (a : List Int) => a ++ [x]) a = a ++ l.reverse
 | [], a => by simp
 | x :: l, a => by rw [List.foldr_cons, foldr_rev l a]; simp
theorem path_l0 (D a : List Int) (k : Nat) (hk : k ≤ D.length) (hl : D.length ≤ 1000) (ha : a.length ≤ 1000) :
  loopN fuel (r7Path.l0 D) (IntKind.i64.wrap ((k : Int) - 1), a) = some (a ++ (D.take k).reverse) := by
 have hlt : (D.take k).length = k := by rw [List.length_take]; omega
 have main : ∀ (m q : Nat) (a : List Int), m ≤ k → m < q → a.length + m ≤ 5000 → loopN q (r7Path.l0 D) ((m : Int) - 1, a) = some (a ++ (D.take m).reverse) := by
  intro m
  induction m with
  | zero =>
   intro q a _ hq _
   cases q with
   | zero => omega
   | succ q =>
    simp only [loopN]
    rw [show r7Path.l0 D (((0 : Nat) : Int) - 1, a) = some (.done a) by unfold r7Path.l0; rw [br_dec, if_neg (by simp only; omega)]]
    simp
  | succ m ih =>
   intro q a hm hq hla
   cases q with
   | zero => omega
   | succ q =>
    have hx : D[m]? = some (D[m]'(by omega)) := by simp
    have e0 : ((m + 1 : Nat) : Int) - 1 = (m : Int) := by omega
    have e1 : IntKind.i64.wrap ((m : Int) - 1) = (m : Int) - 1 := wr
    simp only [loopN]
    rw [show r7Path.l0 D (((m + 1 : Nat) : Int) - 1, a) = some (.cont ((m : Int) - 1, a ++ [D[m]'(by omega)])) by
     unfold r7Path.l0
     rw [e0, br_dec, if_pos (by simp only; omega)]
     simp only
     rw [getR_s hx, gd_t (by rw [List.length_append, List.length_singleton]; unfold bigLen; omega), e1]]
    show loopN q _ _ = _
    have ht : D.take (m + 1) = D.take m ++ [D[m]'(by omega)] := by rw [List.take_add_one, hx]; rfl
    rw [ih q _ (by omega) (by omega) (by simp; omega), ht, List.reverse_append, List.append_assoc]
    rfl
 have := main k fuel a (Nat.le_refl _) (by have := fuel_pos; omega) (by omega)
 rw [wr (n := (k : Int) - 1)]
 exact this
end Go.Fw.Gen
