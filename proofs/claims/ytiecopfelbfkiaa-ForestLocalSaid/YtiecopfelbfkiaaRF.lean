/- Labels fit at every vertex exactly if they are those of Labels. No program in sight. -/
import Derived.Test.YtiecopfelbfkiaaRE
namespace Go.Fx.Gen
open Go.Fx Go.Proofs
set_option linter.unusedVariables false
namespace Frs
open Trd
variable {g : Graph}

theorem wr1_of {a : Int} (h : 0 ≤ a) (h2 : inI64 a) : wr1 a = a - 1 := by
  unfold inI64 at h2
  exact wr (by omega)

theorem inI64_small {a : Int} (h : -1 ≤ a ∧ a ≤ 1000) : inI64 a := by unfold inI64; omega

/-- The labels of Labels fit. -/
theorem labs_fit (hg : VG g) {x : Int} (hx : hasV g x = true) : FitAll (firstL (labs g)) x (atP g x) := by
  obtain ⟨h1, h2⟩ := dp_range hg hx
  have hat : ∀ e ∈ atP g x, hasV g (otherP e x) = true := fun e he => by
    obtain ⟨a, b⟩ := List.mem_filter.1 he
    exact hg.other a b
  have hr := rt_root hg hx
  obtain ⟨v, hv, e⟩ := hasV_iff.1 hr.1
  have hvid := hg.vid v hv
  refine ⟨rt g x, dp g x, ed g x, firstL_labs hg hx, by omega, rt_le hg hx, h1, dp_zero hg hx, ?_, ?_⟩
  · intro e he
    obtain ⟨a, b⟩ := List.mem_filter.1 he
    obtain ⟨k1, k2, k3⟩ := edge_rt hg hx a b
    refine ⟨_, _, _, firstL_labs hg (hat e he), k1, ?_⟩
    rw [wr1_of h1 (inI64_small (by omega))]; omega
  · have hw := wr1_of h1 (inI64_small (by omega))
    by_cases h0 : dp g x = 0
    · rw [if_pos h0]
      rcases ed_spec hg hx with ⟨_, h⟩ | ⟨h, _⟩
      · exact h
      · exact absurd h0 h
    · rw [if_neg h0]
      have hdn : downE (firstL (labs g)) (dp g x) x (atP g x) = (atP g x).find? fun e => dep? (allT g) (otherP e x) == some ((look g x).2.2 - 1) := by
        unfold downE
        have : ∀ l : List Edge, (∀ e ∈ l, e ∈ atP g x) → l.find? (fun e => depT (firstL (labs g)) (otherP e x) == some (wr1 (dp g x))) = l.find? fun e => dep? (allT g) (otherP e x) == some ((look g x).2.2 - 1) := by
          intro l
          induction l with
          | nil => intro _; rfl
          | cons a l ih =>
            intro hl
            have ha := hat a (hl a (.head _))
            rw [List.find?_cons, List.find?_cons, ih fun e he => hl e (.tail _ he), dep_dp hg ha]
            unfold depT
            rw [firstL_labs hg ha, hw]
            rfl
        exact this _ fun e he => he
      rw [hdn]
      have hed : ed g x = edgeOf g (allT g) (look g x) := rfl
      unfold edgeOf at hed
      rw [(look_mem hg hx).2] at hed
      cases hf : (atP g x).find? (fun e => dep? (allT g) (otherP e x) == some ((look g x).2.2 - 1)) with
      | none =>
        obtain ⟨e, he, h3⟩ := par_edge hg hx h0
        have := List.find?_eq_none.1 hf e he
        rw [dep_dp hg (hat e he), h3] at this
        exact absurd (beq_iff_eq.2 rfl) this
      | some e =>
        rw [hf] at hed
        exact ⟨e, rfl, hed⟩

theorem firstL_mem {ls : List Named} {x : Int} {l : List Int} (h : firstL ls x = some l) : ∃ n ∈ ls, n.ID = x ∧ n.Label = l := by
  unfold firstL at h
  split at h
  · rename_i n hn
    split at h
    · cases h
      exact ⟨n, List.mem_of_find?_eq_some hn, by have := List.find?_some hn; simpa using this, rfl⟩
    · cases h
  · cases h

/-- Labels that fit are those of Labels. -/
theorem fit_labs (hg : VG g) {ls : List Named} (hl : Labs g ls) (h : ∀ v ∈ g.Vertices, FitAll (firstL ls) v.ID (atP g v.ID)) {x : Int} (hx : hasV g x = true) : firstL ls x = some (lb g x) := by
  have hall : ∀ x, hasV g x = true → FitAll (firstL ls) x (atP g x) := fun x hx => by
    obtain ⟨v, hv, rfl⟩ := hasV_iff.1 hx
    exact h v hv
  let A : Int → Int := fun x => ((firstL ls x).getD []).getD 0 0
  let D : Int → Int := fun x => ((firstL ls x).getD []).getD 1 0
  have hAD : ∀ {x a0 a1 a2 : Int}, firstL ls x = some [a0, a1, a2] → A x = a0 ∧ D x = a1 := fun h => by
    constructor
    · show ((firstL ls _).getD []).getD 0 0 = _; rw [h]; rfl
    · show ((firstL ls _).getD []).getD 1 0 = _; rw [h]; rfl
  -- what fits, in words
  have key : ∀ x, hasV g x = true → ∃ a2, firstL ls x = some [A x, D x, a2] ∧ 0 ≤ A x ∧ A x ≤ x ∧ 0 ≤ D x ∧ (D x = 0 ↔ A x = x) ∧ (∀ e ∈ atP g x, A (otherP e x) = A x ∧ D x - 1 ≤ D (otherP e x)) ∧
      (if D x = 0 then a2 = -1 else ∃ e, (atP g x).find? (fun e => depT (firstL ls) (otherP e x) == some (D x - 1)) = some e ∧ a2 = e.ID) := by
    intro x hx
    obtain ⟨a0, a1, a2, k0, k1, k2, k3, k4, k5, k6⟩ := hall x hx
    obtain ⟨e1, e2⟩ := hAD k0
    have hi : inI64 a1 := by
      obtain ⟨n, n1, n2, n3⟩ := firstL_mem k0
      exact hl.rng n n1 a1 (by rw [n3]; simp)
    have hw := wr1_of k3 hi
    subst e1; subst e2
    refine ⟨a2, k0, k1, k2, k3, k4, fun e he => ?_, ?_⟩
    · obtain ⟨l0, l1, l2, m0, m1, m2⟩ := k5 e he
      obtain ⟨f1, f2⟩ := hAD m0
      rw [hw] at m2
      exact ⟨f1.trans m1, by rw [f2]; exact m2⟩
    · unfold downE at k6
      rw [hw] at k6
      exact k6
  have hdown : ∀ x, hasV g x = true → D x ≠ 0 → ∃ e ∈ atP g x, D (otherP e x) = D x - 1 := by
    intro x hx hne
    obtain ⟨a2, _, _, _, _, _, k5, k6⟩ := key x hx
    rw [if_neg hne] at k6
    obtain ⟨e, he, _⟩ := k6
    have hm := List.mem_of_find?_eq_some he
    have h2 := List.find?_some he
    obtain ⟨b, c⟩ := List.mem_filter.1 hm
    obtain ⟨a2', h3, _⟩ := key _ (hg.other b c)
    refine ⟨e, hm, ?_⟩
    unfold depT at h2
    rw [h3] at h2
    simpa using h2
  -- roots
  have hdesc : ∀ (n : Nat) (x : Int), hasV g x = true → D x ≤ (n : Int) → hasV g (A x) = true ∧ rt g (A x) = rt g x := by
    intro n
    induction n with
    | zero =>
      intro x hx hd
      obtain ⟨_, _, _, _, k3, k4, _⟩ := key x hx
      have : A x = x := k4.1 (by omega)
      rw [this]; exact ⟨hx, rfl⟩
    | succ n ih =>
      intro x hx hd
      by_cases h0 : D x = 0
      · obtain ⟨_, _, _, _, _, k4, _⟩ := key x hx
        rw [k4.1 h0]; exact ⟨hx, rfl⟩
      · obtain ⟨e, he, h1⟩ := hdown x hx h0
        obtain ⟨b, c⟩ := List.mem_filter.1 he
        obtain ⟨_, _, _, _, _, _, k5, _⟩ := key x hx
        obtain ⟨i1, i2⟩ := ih _ (hg.other b c) (by omega)
        rw [(k5 e he).1] at i1 i2
        exact ⟨i1, by rw [i2, (edge_rt hg hx b c).1]⟩
  have hvx : ∀ {e : Edge} {y : Int}, e ∈ g.Edges → atB y e = true → hasV g y = true := fun he hy => by
    obtain ⟨b1, b2⟩ := other_back hy
    have := hg.other he b1
    rw [b2] at this; exact this
  have hA : ∀ x, hasV g x = true → rt g x = A x := fun x hx => by
    refine rt_uniq hg (f := A) (fun e he y hy => ?_) (fun y hy => ?_) (fun y hy => ?_) hx
    · have hvy := hvx he hy
      obtain ⟨_, _, _, _, _, _, k5, _⟩ := key y hvy
      exact (k5 e (List.mem_filter.2 ⟨he, hy⟩)).1
    · obtain ⟨_, _, _, k2, _⟩ := key y hy
      exact k2
    · exact hdesc (D y).toNat y hy (by omega)
  have hD1 : ∀ (n : Nat) (x : Int), hasV g x = true → dp g x ≤ (n : Int) → D x ≤ dp g x := by
    intro n
    induction n with
    | zero =>
      intro x hx hd
      obtain ⟨_, _, _, _, k3, k4, _⟩ := key x hx
      have h0 := (dp_range hg hx).1
      have : A x = x := by rw [← hA x hx]; exact (dp_zero hg hx).1 (by omega)
      have := k4.2 this
      omega
    | succ n ih =>
      intro x hx hd
      obtain ⟨_, _, _, _, k3, k4, k5, _⟩ := key x hx
      by_cases h0 : dp g x = 0
      · have : A x = x := by rw [← hA x hx]; exact (dp_zero hg hx).1 h0
        have := k4.2 this
        omega
      · obtain ⟨e, he, h1⟩ := par_edge hg hx h0
        obtain ⟨b, c⟩ := List.mem_filter.1 he
        have h2 := ih _ (hg.other b c) (by omega)
        have h3 := (k5 e he).2
        omega
  have hD2 : ∀ (n : Nat) (x : Int), hasV g x = true → D x ≤ (n : Int) → dp g x ≤ D x := by
    intro n
    induction n with
    | zero =>
      intro x hx hd
      obtain ⟨_, _, _, _, k3, k4, _⟩ := key x hx
      have h1 := (dp_zero hg hx).2 (by rw [hA x hx]; exact k4.1 (by omega))
      omega
    | succ n ih =>
      intro x hx hd
      by_cases h0 : D x = 0
      · obtain ⟨_, _, _, _, k3, k4, _⟩ := key x hx
        have h1 := (dp_zero hg hx).2 (by rw [hA x hx]; exact k4.1 h0)
        omega
      · obtain ⟨e, he, h1⟩ := hdown x hx h0
        obtain ⟨b, c⟩ := List.mem_filter.1 he
        have h2 := ih _ (hg.other b c) (by omega)
        have h3 := (edge_rt hg hx b c).2.2
        omega
  have hD : ∀ x, hasV g x = true → D x = dp g x := fun x hx => by
    have h1 := hD1 (dp g x).toNat x hx (by omega)
    have h2 := hD2 (D x).toNat x hx (by omega)
    omega
  -- the edge
  obtain ⟨a2, k0, _, _, _, _, _, k6⟩ := key x hx
  obtain ⟨b0, b1, b2, l0, _, _, _, _, _, l6⟩ := labs_fit hg hx
  rw [firstL_labs hg hx] at l0
  unfold lb at l0
  cases l0
  rw [k0, ← hA x hx, hD x hx]
  have ha2 : a2 = ed g x := by
    rw [hD x hx] at k6
    by_cases h0 : dp g x = 0
    · rw [if_pos h0] at k6 l6
      rw [k6, l6]
    · rw [if_neg h0] at k6 l6
      obtain ⟨e, he, h1⟩ := k6
      obtain ⟨f, hf, h2⟩ := l6
      unfold downE at hf
      rw [wr1_of (dp_range hg hx).1 (inI64_small (by have := dp_range hg hx; omega))] at hf
      have : ∀ l : List Edge, (∀ e ∈ l, e ∈ atP g x) → l.find? (fun e => depT (firstL ls) (otherP e x) == some (dp g x - 1)) = l.find? (fun e => depT (firstL (labs g)) (otherP e x) == some (dp g x - 1)) := by
        intro l
        induction l with
        | nil => intro _; rfl
        | cons a l ih =>
          intro hl'
          obtain ⟨b, c⟩ := List.mem_filter.1 (hl' a (.head _))
          have hav := hg.other b c
          rw [List.find?_cons, List.find?_cons, ih fun e he => hl' e (.tail _ he)]
          obtain ⟨c2, c0, _⟩ := key _ hav
          unfold depT
          rw [c0, firstL_labs hg hav]
          show (match some (D _) == some (dp g x - 1) with | true => _ | false => _) = (match some (dp g _) == some (dp g x - 1) with | true => _ | false => _)
          rw [hD _ hav]
      rw [this _ fun e he => he, hf] at he
      cases he
      rw [h1, h2]
  rw [ha2]
  rfl

/-- The two together. -/
theorem fit_iff (hg : VG g) {ls : List Named} (hl : Labs g ls) : (∀ v ∈ g.Vertices, FitAll (firstL ls) v.ID (atP g v.ID)) ↔ ls = labs g := by
  constructor
  · intro h
    have hln : ls.length = g.Vertices.length := by have := congrArg List.length hl.ids; simpa using this
    refine List.ext_getElem (by rw [labs_len, hln]) fun i hi hi' => ?_
    have hiv : i < g.Vertices.length := by omega
    have hid : ls[i].ID = g.Vertices[i].ID := by
      have : (ls.map (·.ID))[i]'(by simpa using hi) = (g.Vertices.map (·.ID))[i]'(by simpa using hiv) := by simp only [hl.ids]
      simpa using this
    have hx : hasV g g.Vertices[i].ID = true := hasV_iff.2 ⟨_, List.getElem_mem hiv, rfl⟩
    obtain ⟨n, n1, n2, n3⟩ := firstL_mem (fit_labs hg hl h hx)
    obtain ⟨j, hj, rfl⟩ := List.getElem_of_mem n1
    have hij : i = j := by
      have hasc := hg.asc
      rw [← hl.ids, List.pairwise_iff_getElem] at hasc
      rcases Nat.lt_trichotomy i j with h | h | h
      · have := hasc i j (by simpa using hi) (by simpa using hj) h
        simp at this; omega
      · exact h
      · have := hasc j i (by simpa using hj) (by simpa using hi) h
        simp at this; omega
    subst hij
    have : (labs g)[i] = ⟨g.Vertices[i].ID, lb g g.Vertices[i].ID⟩ := by simp [labs]
    rw [this]
    generalize ls[i] = a at *
    cases a
    simp at hid n3
    rw [hid, n3]
  · rintro rfl v hv
    exact labs_fit hg (hasV_iff.2 ⟨v, hv, rfl⟩)
end Frs
end Go.Fx.Gen
