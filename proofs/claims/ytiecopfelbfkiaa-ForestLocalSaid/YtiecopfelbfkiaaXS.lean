/- The library's sort, as printed, sorts: part 1. -/
import Derived.Test.YtiecopfelbfkiaaXA
import Derived.Test.YtiecopfelbfkiaaG1
import Derived.Sort.AssemblyPlain
namespace Go.Fx.Gen
open Go.Fx Go.Proofs Go.Sort
set_option linter.unusedVariables false

namespace Srt
instance : Inhabited Int := ⟨0⟩

/-- What the comparison says. -/
noncomputable def cv (x y : Int) : Bool := ((f84 x y).run).getD false

/-- The comparison is an order on what is admitted. -/
structure Cmp (ok : Int → Prop) (lt : Int → Int → Bool) : Prop where
  run : ∀ x y, ok x → ok y → (f84 x y).run = some (cv x y)
  dec : ∀ x y, ok x → ok y → cv x y = lt x y
  swo : SWO lt

noncomputable def AllOk (ok : Int → Prop) (d : Array Int) : Prop := ∀ i, i < d.size → ok d[i]!

variable {ok : Int → Prop} {lt : Int → Int → Bool} {β : Type} {d : Array Int}

theorem size_swp (d : Array Int) (i j : Nat) : (swp d i j).size = d.size := by simp [swp]

theorem get!_set {d : Array Int} {i j : Nat} {x : Int} (hj : j < d.size) : (d.setIfInBounds i x)[j]! = if i = j then x else d[j]! := by
  by_cases h : i = j
  · subst h; simp [hj]
  · simp [h, Array.getElem!_eq_getD, Array.getElem?_setIfInBounds]

theorem swp_ok {i j : Nat} (hi : i < d.size) (hj : j < d.size) (h : AllOk ok d) : AllOk ok (swp d i j) := by
  intro k hk
  rw [size_swp] at hk
  unfold swp
  rw [get!_set (by simpa using hk), get!_set hk]
  split
  · exact h i hi
  · split
    · exact h j hj
    · exact h k hk

theorem toList_get {n : Nat} (h : n < d.size) : d.toList[n]? = some d[n]! := by simp [h]

/-- A swap. -/
theorem run_swap {i j : Int} {m n : Nat} (hi : i = (m : Int)) (hj : j = (n : Int)) (hm : m < d.size) (hn : n < d.size) {k : List Int → Pg β} :
    (ck j (L d.toList) <| rd d.toList (at0 j) fun a => ck i (L d.toList) <| rd d.toList (at0 i) fun b => ck i (L d.toList) <|
      st d.toList (at0 i) (fun _ => a) fun l1 => ck j (L l1) <| st l1 (at0 j) (fun _ => b) k).run = (k (swp d m n).toList).run := by
  subst hi; subst hj
  simp only [at0_nat, L_eq, Array.length_toList]
  rw [ck_t (by omega), r_rd, toList_get hn, bd_s, ck_t (by omega), r_rd, toList_get hm, bd_s, ck_t (by omega), r_st, toList_get hm]
  simp only [Option.map_some, bd_s]
  rw [ck_t (by simp; omega), r_st]
  have h1 : (d.toList.set m d[n]!)[n]? = some ((d.toList.set m d[n]!)[n]'(by simpa using hn)) := by rw [List.getElem?_eq_getElem]
  rw [h1]
  simp only [Option.map_some, bd_s]
  congr 1
  simp [swp, Array.toList_setIfInBounds]

/-- A comparison. -/
theorem run_cmp (C : Cmp ok lt) {i j : Int} {m n : Nat} (hi : i = (m : Int)) (hj : j = (n : Int)) (hm : m < d.size) (hn : n < d.size) (h : AllOk ok d) {k : Bool → Pg β} :
    (ck i (L d.toList) <| rd d.toList (at0 i) fun a => ck j (L d.toList) <| rd d.toList (at0 j) fun b => cl (f84.ok a b) k).run = (k (cv d[m]! d[n]!)).run := by
  subst hi; subst hj
  simp only [at0_nat, L_eq, Array.length_toList]
  rw [ck_t (by omega), r_rd, toList_get hm, bd_s, ck_t (by omega), r_rd, toList_get hn, bd_s, r_cl, C.run _ _ (h m hm) (h n hn), bd_s]

theorem Cmp.at (C : Cmp ok lt) {m n : Nat} (hm : m < d.size) (hn : n < d.size) (h : AllOk ok d) : cv d[m]! d[n]! = lt d[m]! d[n]! := C.dec _ _ (h m hm) (h n hn)

/-! insertionSort -/
theorem ins_inner (C : Cmp ok lt) (a : Nat) (p2 v28 : Int) {f : Int × List Int → Option (Nx (Int × List Int) (Ex (List Int) Empty Empty))} (hf : ∀ s, f s = (f78v1.l1 (a : Int) p2 v28 s.1 s.2).run) :
    ∀ (j n : Nat) (d : Array Int), j < n → j < d.size → d.size < 4611686018427387904 → AllOk ok d →
    loopN n f ((j : Int), d.toList) = some (.a (insInner lt a j d).toList) ∧ (insInner lt a j d).size = d.size ∧ AllOk ok (insInner lt a j d)
  | j, 0, d, h, _, _, _ => absurd h (by omega)
  | 0, n + 1, d, h, hj, hb, hok => by
    have e : decide (((0 : Nat) : Int) > (a : Int)) = false := by simp
    rw [loopN_succ, hf]
    simp only [f78v1.l1, r_join1, r_brr, e, br_f, r_ret, bd_s, ex_a, insInner, stp_d]
    exact ⟨by simp, by simp, hok⟩
  | j + 1, n + 1, d, h, hj, hb, hok => by
    rw [loopN_succ, hf]
    have e1 : IntKind.i64.wrap (((j + 1 : Nat) : Int) - 1) = ((j : Nat) : Int) := by rw [wr]; omega
    simp only [f78v1.l1, r_join1, r_brr, insInner, e1]
    by_cases ha : j + 1 > a
    · have e : decide (((j + 1 : Nat) : Int) > (a : Int)) = true := by simp; omega
      rw [e, br_t, run_cmp C rfl rfl hj (by omega) hok, r_ret, bd_s, ex_a, C.at hj (by omega) hok]
      by_cases hl : lt d[j + 1]! d[j]! = true
      · rw [hl, br_t]
        have := run_swap (d := d) (i := ((j + 1 : Nat) : Int)) (j := ((j : Nat) : Int)) rfl rfl hj (by omega) (k := fun l51 => (cont ((j : Int), l51) : Pg (Nx (Int × List Int) (Ex (List Int) Empty Empty))))
        rw [this, r_ret, stp_c]
        simp only [ha, decide_true, Bool.true_and, if_true]
        obtain ⟨i1, i2, i3⟩ := ins_inner C a p2 v28 hf j n (swp d (j + 1) j) (by omega) (by rw [size_swp]; omega) (by rw [size_swp]; exact hb) (swp_ok hj (by omega) hok)
        exact ⟨i1, by rw [i2, size_swp], i3⟩
      · have hl : lt d[j + 1]! d[j]! = false := by simpa using hl
        rw [hl, br_f, r_ret, stp_d]
        simp only [Bool.and_false, Bool.false_eq_true, if_false]
        exact ⟨by simp, by simp, hok⟩
    · have e : decide (((j + 1 : Nat) : Int) > (a : Int)) = false := by simp; omega
      have e2 : decide (j + 1 > a) = false := by simp; omega
      rw [e, br_f, r_ret, bd_s, ex_a, br_f, r_ret, stp_d]
      simp only [e2, Bool.false_and, Bool.false_eq_true, if_false]
      exact ⟨by simp, by simp, hok⟩

theorem ins_outer (C : Cmp ok lt) (a b : Nat) {f : Int × List Int → Option (Nx (Int × List Int) (Ex (List Int) Empty Empty))} (hf : ∀ s, f s = (f78v1.l2 (a : Int) (b : Int) s.1 s.2).run) :
    ∀ (k i n : Nat) (d : Array Int), b - i = k → k < n → b ≤ d.size → d.size < 4611686018427387904 → i ≤ d.size → AllOk ok d →
    loopN n f ((i : Int), d.toList) = some (.a (insOuter lt a b i d).toList) ∧ (insOuter lt a b i d).size = d.size ∧ AllOk ok (insOuter lt a b i d)
  | k, i, 0, d, _, h, _, _, _, _ => absurd h (by omega)
  | k, i, n + 1, d, hk, h, hb, hs, hi, hok => by
    rw [loopN_succ, hf]
    unfold insOuter
    simp only [f78v1.l2, r_brr]
    by_cases hib : i < b
    · have e : decide ((i : Int) < (b : Int)) = true := by simp; omega
      have e1 : IntKind.i64.wrap ((i : Int) + 1) = ((i + 1 : Nat) : Int) := by rw [wr]; omega
      obtain ⟨i1, i2, i3⟩ := ins_inner C a (b : Int) (i : Int) (fun s => rfl) i fuel d (by have := fuel_pos; omega) (by omega) hs hok
      rw [e, br_t, r_loop1, i1, bd_s, ex_a, r_ret, e1, if_pos hib, stp_c]
      obtain ⟨j1, j2, j3⟩ := ins_outer C a b hf (b - (i + 1)) (i + 1) n (insInner lt a i d) rfl (by omega) (by rw [i2]; exact hb) (by rw [i2]; exact hs) (by rw [i2]; omega) i3
      exact ⟨j1, by rw [j2, i2], j3⟩
    · have e : decide ((i : Int) < (b : Int)) = false := by simp; omega
      rw [e, br_f, r_ret, if_neg hib, stp_d]
      exact ⟨by simp, by simp, hok⟩

theorem insertion (C : Cmp ok lt) {a b : Nat} (hab : a ≤ b) (hb : b ≤ d.size) (hs : d.size < 4611686018427387904) (hok : AllOk ok d) :
    (f78v1 (a : Int) (b : Int) d.toList).run = some (insertionSort lt d a b).toList ∧ (insertionSort lt d a b).size = d.size ∧ AllOk ok (insertionSort lt d a b) := by
  have e1 : IntKind.i64.wrap ((a : Int) + 1) = ((a + 1 : Nat) : Int) := by rw [wr]; omega
  by_cases h : a + 1 ≤ d.size
  · obtain ⟨i1, i2, i3⟩ := ins_outer C a b (fun s => rfl) (b - (a + 1)) (a + 1) fuel d rfl (by have := fuel_pos; omega) hb hs h hok
    refine ⟨?_, i2, i3⟩
    simp only [f78v1, e1]
    rw [r_loop1, i1, bd_s, ex_a, r_ret]; rfl
  · have hn : ¬ a + 1 < b := by omega
    have e : decide (((a + 1 : Nat) : Int) < (b : Int)) = false := by simp; omega
    have e3 : insertionSort lt d a b = d := by unfold insertionSort insOuter; rw [if_neg hn]
    rw [e3]
    refine ⟨?_, rfl, hok⟩
    simp only [f78v1, e1]
    obtain ⟨m, hm⟩ : ∃ m, fuel = m + 1 := ⟨fuel - 1, by have := fuel_pos; omega⟩
    rw [r_loop1, hm, loopN_succ]
    simp only [f78v1.l2, r_brr, e, br_f, r_ret, bd_s, ex_a, stp_d]

/-! siftDown, heapSort -/
theorem sift (C : Cmp ok lt) (hi first : Nat) {f : Int × List Int → Option (Nx (Int × List Int) (Ex (List Int) Empty Empty))} (hf : ∀ s, f s = (f89.l1 (hi : Int) (first : Int) s.1 s.2).run) :
    ∀ (k root n : Nat) (d : Array Int), hi - root ≤ k → k < n → first + hi ≤ d.size → d.size < 1152921504606846976 → root < d.size → AllOk ok d →
    loopN n f ((root : Int), d.toList) = some (.a (siftDown lt hi first root d).toList) ∧ (siftDown lt hi first root d).size = d.size ∧ AllOk ok (siftDown lt hi first root d)
  | k, root, 0, d, _, h, _, _, _, _ => absurd h (by omega)
  | k, root, n + 1, d, hk, h, hb, hs, hr, hok => by
    rw [loopN_succ, hf]
    unfold siftDown
    have w1 : IntKind.i64.wrap (2 * (root : Int)) = ((2 * root : Nat) : Int) := by rw [wr]; omega
    have w2 : IntKind.i64.wrap (((2 * root : Nat) : Int) + 1) = ((2 * root + 1 : Nat) : Int) := by rw [wr]; omega
    have w3 : IntKind.i64.wrap (((2 * root + 1 : Nat) : Int) + 1) = ((2 * root + 2 : Nat) : Int) := by rw [wr]; omega
    have w4 : IntKind.i64.wrap ((first : Int) + ((2 * root + 1 : Nat) : Int)) = ((first + (2 * root + 1) : Nat) : Int) := by rw [wr]; omega
    have w5 : IntKind.i64.wrap (((first + (2 * root + 1) : Nat) : Int) + 1) = ((first + (2 * root + 1) + 1 : Nat) : Int) := by rw [wr]; omega
    have w6 : IntKind.i64.wrap ((first : Int) + (root : Int)) = ((first + root : Nat) : Int) := by rw [wr]; omega
    have w7 : IntKind.i64.wrap ((first : Int) + ((2 * root + 2 : Nat) : Int)) = ((first + (2 * root + 2) : Nat) : Int) := by rw [wr]; omega
    simp only [f89.l1, r_brr, w1, w2, w3, w4, w5, w6]
    by_cases hc : 2 * root + 1 ≥ hi
    · have e : decide (((2 * root + 1 : Nat) : Int) ≥ (hi : Int)) = true := by simp; omega
      rw [e, br_t, r_ret, dif_pos hc, stp_d]
      exact ⟨by simp, by simp, hok⟩
    · have e : decide (((2 * root + 1 : Nat) : Int) ≥ (hi : Int)) = false := by simp; omega
      rw [e, br_f, dif_neg hc]
      -- the rest, once the child is chosen
      have rest : ∀ c : Nat, (c = 2 * root + 1 ∨ c = 2 * root + 2) → c < hi → (∀ d' : Array Int, hi - c ≤ k - 1 → d'.size = d.size → AllOk ok d' →
          loopN n f ((c : Int), d'.toList) = some (.a (siftDown lt hi first c d').toList) ∧ (siftDown lt hi first c d').size = d.size ∧ AllOk ok (siftDown lt hi first c d')) := by
        intro c hc1 hc2 d' h1 h2 h3
        obtain ⟨q1, q2, q3⟩ := sift C hi first hf (k - 1) c n d' h1 (by omega) (by rw [h2]; exact hb) (by rw [h2]; exact hs) (by rw [h2]; omega) h3
        exact ⟨q1, q2.trans h2, q3⟩
      simp only [r_join1, r_brr]
      have step : ∀ c : Nat, (c = 2 * root + 1 ∨ c = 2 * root + 2) → c < hi → ∀ w : IntKind.i64.wrap ((first : Int) + (c : Int)) = ((first + c : Nat) : Int),
          stp (ck ((first + root : Nat) : Int) (L d.toList) <| rd d.toList (at0 ((first + root : Nat) : Int)) fun a28 =>
            ck (IntKind.i64.wrap ((first : Int) + (c : Int))) (L d.toList) <| rd d.toList (at0 (IntKind.i64.wrap ((first : Int) + (c : Int)))) fun a29 => cl (f84.ok a28 a29) fun y30 =>
            brr (!(y30)) (doneA (d.toList)) (
              ck (IntKind.i64.wrap ((first : Int) + (c : Int))) (L d.toList) <| rd d.toList (at0 (IntKind.i64.wrap ((first : Int) + (c : Int)))) fun a31 =>
              ck ((first + root : Nat) : Int) (L d.toList) <| rd d.toList (at0 ((first + root : Nat) : Int)) fun a32 =>
              ck ((first + root : Nat) : Int) (L d.toList) <| st d.toList (at0 ((first + root : Nat) : Int)) (fun x33 => a31) fun l34 =>
              ck (IntKind.i64.wrap ((first : Int) + (c : Int))) (L l34) <| st l34 (at0 (IntKind.i64.wrap ((first : Int) + (c : Int)))) (fun x35 => a32) fun l36 =>
              (cont ((c : Int), l36) : Pg (Nx (Int × List Int) (Ex (List Int) Empty Empty)))) : Pg (Nx (Int × List Int) (Ex (List Int) Empty Empty))).run (loopN n f) = some (.a (if (!lt d[first + root]! d[first + c]!) = true then d else siftDown lt hi first c (swp d (first + root) (first + c))).toList) ∧
          (if (!lt d[first + root]! d[first + c]!) = true then d else siftDown lt hi first c (swp d (first + root) (first + c))).size = d.size ∧
          AllOk ok (if (!lt d[first + root]! d[first + c]!) = true then d else siftDown lt hi first c (swp d (first + root) (first + c))) := by
        intro c hc1 hc2 w
        simp only [w]
        rw [run_cmp C rfl rfl (by omega) (by omega) hok, r_brr, C.at (by omega) (by omega) hok]
        by_cases hl : lt d[first + root]! d[first + c]! = true
        · simp only [hl, Bool.not_true, br_f, Bool.false_eq_true, if_false]
          rw [run_swap (d := d) (i := ((first + root : Nat) : Int)) (j := ((first + c : Nat) : Int)) rfl rfl (by omega) (by omega) (k := fun l36 => (cont ((c : Int), l36) : Pg (Nx (Int × List Int) (Ex (List Int) Empty Empty)))), r_ret, stp_c]
          exact rest c hc1 hc2 _ (by omega) (size_swp _ _ _) (swp_ok (by omega) (by omega) hok)
        · have hl : lt d[first + root]! d[first + c]! = false := by simpa using hl
          simp only [hl, Bool.not_false, br_t, if_true]
          rw [r_ret, stp_d]
          exact ⟨by simp, by simp, hok⟩
      by_cases h2 : 2 * root + 2 < hi
      · have e2 : decide (((2 * root + 2 : Nat) : Int) < (hi : Int)) = true := by simp; omega
        rw [e2, br_t, run_cmp C rfl rfl (by omega) (by omega) hok, r_ret, bd_s, ex_a, C.at (by omega) (by omega) hok]
        by_cases hl : lt d[first + (2 * root + 1)]! d[first + (2 * root + 1) + 1]! = true
        · have hcond : (decide (2 * root + 1 + 1 < hi) && lt d[first + (2 * root + 1)]! d[first + (2 * root + 1) + 1]!) = true := by rw [hl]; simp; omega
          rw [if_pos hcond, hl, br_t, r_ret, bd_s, ex_a]
          have := step (2 * root + 2) (.inr rfl) h2 w7
          rw [dif_pos h2]
          exact this
        · have hl : lt d[first + (2 * root + 1)]! d[first + (2 * root + 1) + 1]! = false := by simpa using hl
          have hcond : ¬ (decide (2 * root + 1 + 1 < hi) && lt d[first + (2 * root + 1)]! d[first + (2 * root + 1) + 1]!) = true := by rw [hl]; simp
          rw [if_neg hcond, hl, br_f, r_ret, bd_s, ex_a]
          exact step (2 * root + 1) (.inl rfl) (by omega) w4
      · have e2 : decide (((2 * root + 2 : Nat) : Int) < (hi : Int)) = false := by simp; omega
        have hcond : ¬ (decide (2 * root + 1 + 1 < hi) && lt d[first + (2 * root + 1)]! d[first + (2 * root + 1) + 1]!) = true := by
          have : decide (2 * root + 1 + 1 < hi) = false := by simp; omega
          rw [this]; simp
        rw [e2, br_f, r_ret, bd_s, ex_a, if_neg hcond, br_f, r_ret, bd_s, ex_a]
        exact step (2 * root + 1) (.inl rfl) (by omega) w4
end Srt
end Go.Fx.Gen
