/- The library's sort, as printed, sorts: part 2. -/
import Derived.Test.YtiecopfelbfkiaaXS
namespace Go.Fx.Gen
open Go.Fx Go.Proofs Go.Sort
set_option linter.unusedVariables false
namespace Srt
variable {ok : Int → Prop} {lt : Int → Int → Bool} {β : Type} {d : Array Int}

/-! heapSort -/
theorem sift_all (C : Cmp ok lt) {hi first root : Nat} (hb : first + hi ≤ d.size) (hs : d.size < 1152921504606846976) (hr : root < d.size) (hok : AllOk ok d) :
    (f89 (root : Int) (hi : Int) (first : Int) d.toList).run = some (siftDown lt hi first root d).toList ∧ (siftDown lt hi first root d).size = d.size ∧ AllOk ok (siftDown lt hi first root d) := by
  obtain ⟨i1, i2, i3⟩ := sift C hi first (fun s => rfl) (hi - root) root fuel d (Nat.le_refl _) (by have := fuel_pos; omega) hb hs hr hok
  refine ⟨?_, i2, i3⟩
  simp only [f89]
  rw [r_loop1, i1, bd_s, ex_a, r_ret]

theorem heap_build (C : Cmp ok lt) (a b : Nat) {f : Int × List Int → Option (Nx (Int × List Int) (Ex (List Int) Empty Empty))} (hf : ∀ s, f s = (f79.l1 (a : Int) (b : Int) s.1 s.2).run) (hab : a < b) :
    ∀ (k n : Nat) (d : Array Int), k < n → k ≤ b - a → b ≤ d.size → d.size < 1152921504606846976 → AllOk ok d →
    loopN n f ((k : Int) - 1, d.toList) = some (.a (heapBuild lt (b - a) a k d).toList) ∧ (heapBuild lt (b - a) a k d).size = d.size ∧ AllOk ok (heapBuild lt (b - a) a k d)
  | k, 0, d, h, _, _, _, _ => absurd h (by omega)
  | 0, n + 1, d, h, hk, hb, hs, hok => by
    have e : decide (((0 : Nat) : Int) - 1 ≥ 0) = false := by simp
    rw [loopN_succ, hf]
    simp only [f79.l1, r_brr, e, br_f, r_ret, stp_d, heapBuild]
    exact ⟨by simp, by simp, hok⟩
  | k + 1, n + 1, d, h, hk, hb, hs, hok => by
    rw [loopN_succ, hf]
    have e0 : ((k + 1 : Nat) : Int) - 1 = (k : Int) := by omega
    have e : decide ((k : Int) ≥ 0) = true := by simp
    have e1 : IntKind.i64.wrap ((b : Int) - (a : Int)) = ((b - a : Nat) : Int) := by rw [wr]; omega
    have e2 : IntKind.i64.wrap ((k : Int) - 1) = (k : Int) - 1 := by rw [wr]
    simp only [f79.l1, e0, r_brr, e, br_t, e1, e2]
    obtain ⟨i1, i2, i3⟩ := sift_all C (hi := b - a) (first := a) (root := k) (by omega) hs (by omega) hok
    simp only [r_cl, i1, bd_s, r_ret, stp_c]
    obtain ⟨j1, j2, j3⟩ := heap_build C a b hf hab k n _ (by omega) (by omega) (by rw [i2]; exact hb) (by rw [i2]; exact hs) i3
    exact ⟨j1, j2.trans i2, j3⟩

theorem heap_pop (C : Cmp ok lt) (a b : Nat) {f : Int × List Int → Option (Nx (Int × List Int) (Ex (List Int) Empty Empty))} (hf : ∀ s, f s = (f79.l2 (a : Int) s.1 s.2).run) (hab : a < b) :
    ∀ (k n : Nat) (d : Array Int), k < n → k ≤ b - a → b ≤ d.size → d.size < 1152921504606846976 → AllOk ok d →
    loopN n f ((k : Int) - 1, d.toList) = some (.a (heapPop lt a k d).toList) ∧ (heapPop lt a k d).size = d.size ∧ AllOk ok (heapPop lt a k d)
  | k, 0, d, h, _, _, _, _ => absurd h (by omega)
  | 0, n + 1, d, h, hk, hb, hs, hok => by
    have e : decide (((0 : Nat) : Int) - 1 ≥ 0) = false := by simp
    rw [loopN_succ, hf]
    simp only [f79.l2, r_brr, e, br_f, r_ret, stp_d, heapPop]
    exact ⟨by simp, by simp, hok⟩
  | k + 1, n + 1, d, h, hk, hb, hs, hok => by
    rw [loopN_succ, hf]
    have e0 : ((k + 1 : Nat) : Int) - 1 = (k : Int) := by omega
    have e : decide ((k : Int) ≥ 0) = true := by simp
    have e1 : IntKind.i64.wrap ((a : Int) + (k : Int)) = ((a + k : Nat) : Int) := by rw [wr]; omega
    have e2 : IntKind.i64.wrap ((k : Int) - 1) = (k : Int) - 1 := by rw [wr]
    simp only [f79.l2, e0, r_brr, e, br_t, e1, e2]
    rw [run_swap (d := d) (i := (a : Int)) (j := ((a + k : Nat) : Int)) rfl rfl (by omega) (by omega) (k := fun l25 => cl (f89.ok (0 : Int) (k : Int) (a : Int) l25) fun y26 => (cont ((k : Int) - 1, y26) : Pg (Nx (Int × List Int) (Ex (List Int) Empty Empty))))]
    obtain ⟨i1, i2, i3⟩ := sift_all C (d := swp d a (a + k)) (hi := k) (first := a) (root := 0) (by rw [size_swp]; omega) (by rw [size_swp]; exact hs) (by rw [size_swp]; omega) (swp_ok (by omega) (by omega) hok)
    have i1 : (f89 (0 : Int) (k : Int) (a : Int) (swp d a (a + k)).toList).run = _ := i1
    simp only [r_cl, i1, bd_s, r_ret, stp_c]
    rw [size_swp] at i2
    obtain ⟨j1, j2, j3⟩ := heap_pop C a b hf hab k n _ (by omega) (by omega) (by rw [i2]; exact hb) (by rw [i2]; exact hs) i3
    exact ⟨j1, j2.trans i2, j3⟩

theorem heap (C : Cmp ok lt) {a b : Nat} (hab : a < b) (hb : b ≤ d.size) (hs : d.size < 1152921504606846976) (hok : AllOk ok d) :
    (f79 (a : Int) (b : Int) d.toList).run = some (heapSort lt d a b).toList ∧ (heapSort lt d a b).size = d.size ∧ AllOk ok (heapSort lt d a b) := by
  have e1 : IntKind.i64.wrap ((b : Int) - (a : Int)) = ((b - a : Nat) : Int) := by rw [wr]; omega
  have e2 : IntKind.i64.wrap (((b - a : Nat) : Int) - 1) = ((b - a : Nat) : Int) - 1 := wr
  have e3 : IntKind.i64.wrap ((((b - a : Nat) : Int) - 1).tdiv 2) = (((b - a - 1) / 2 + 1 : Nat) : Int) - 1 := by
    have : (((b - a : Nat) : Int) - 1) = ((b - a - 1 : Nat) : Int) := by omega
    rw [this, show (2 : Int) = ((2 : Nat) : Int) from rfl, ← Int.ofNat_tdiv, wr] <;> omega
  obtain ⟨i1, i2, i3⟩ := heap_build C a b (fun s => rfl) hab ((b - a - 1) / 2 + 1) fuel d (by have := fuel_pos; omega) (by omega) hb hs hok
  obtain ⟨j1, j2, j3⟩ := heap_pop C a b (fun s => rfl) hab (b - a) fuel (heapBuild lt (b - a) a ((b - a - 1) / 2 + 1) d) (by have := fuel_pos; omega) (by omega) (by rw [i2]; exact hb) (by rw [i2]; exact hs) i3
  refine ⟨?_, j2.trans i2, j3⟩
  simp only [f79, e1, e2, e3]
  rw [r_loop1, i1, bd_s, ex_a, r_loop1, j1, bd_s, ex_a, r_ret]; rfl

/-! scans -/
theorem scan_up {f : Int → Option (Nx Int (Ex Int Empty Empty))} {p : Int → Bool} {j : Nat} (hf : ∀ i : Nat, i ≤ j → 1 ≤ i → f (i : Int) = if p d[i]! then some (.cont ((i + 1 : Nat) : Int)) else some (.done (.a (i : Int))))
    (hg : ∀ i : Nat, j < i → f (i : Int) = some (.done (.a (i : Int)))) : ∀ k i n : Nat, j + 1 - i ≤ k → k < n → 1 ≤ i → loopN n f (i : Int) = some (.a ((scanUp p d j i : Nat) : Int)) ∧ i ≤ scanUp p d j i ∧ scanUp p d j i ≤ max i (j + 1)
  | k, i, 0, _, h, _ => absurd h (by omega)
  | k, i, n + 1, hk, h, h1 => by
    rw [loopN_succ]
    unfold scanUp
    by_cases hij : i ≤ j
    · rw [hf i hij h1]
      by_cases hp : p d[i]! = true
      · simp only [hp, if_true, hij, decide_true, Bool.and_self, stp_c]
        obtain ⟨q1, q2, q3⟩ := scan_up hf hg (k - 1) (i + 1) n (by omega) (by omega) (by omega)
        exact ⟨q1, by omega, by omega⟩
      · have hp : p d[i]! = false := by simpa using hp
        simp only [hp, Bool.and_false, Bool.false_eq_true, if_false, stp_d]
        exact ⟨by simp, by omega, by omega⟩
    · have : decide (i ≤ j) = false := by simp; omega
      rw [hg i (by omega)]
      simp only [this, Bool.false_and, Bool.false_eq_true, if_false, stp_d]
      exact ⟨by simp, by omega, by omega⟩

theorem scan_down {f : Int → Option (Nx Int (Ex Int Empty Empty))} {p : Int → Bool} {i : Nat} (hi : 1 ≤ i) {top : Nat} (hf : ∀ j : Nat, i ≤ j + 1 → j + 1 ≤ top → f ((j + 1 : Nat) : Int) = if p d[j + 1]! then some (.cont (j : Int)) else some (.done (.a ((j + 1 : Nat) : Int))))
    (hg : ∀ j : Nat, j < i → f (j : Int) = some (.done (.a (j : Int)))) : ∀ j n : Nat, j < n → j ≤ top → loopN n f (j : Int) = some (.a ((scanDown p d i j : Nat) : Int)) ∧ scanDown p d i j ≤ j
  | j, 0, h, _ => absurd h (by omega)
  | 0, n + 1, h, ht => by
    rw [loopN_succ, hg 0 (by omega), stp_d]
    exact ⟨rfl, Nat.le_refl _⟩
  | j + 1, n + 1, h, ht => by
    rw [loopN_succ]
    unfold scanDown
    by_cases hij : i ≤ j + 1
    · rw [hf j hij ht]
      by_cases hp : p d[j + 1]! = true
      · simp only [hp, if_true, hij, decide_true, Bool.and_self, stp_c]
        obtain ⟨q1, q2⟩ := scan_down hi hf hg j n (by omega) (by omega)
        exact ⟨q1, by omega⟩
      · have hp : p d[j + 1]! = false := by simpa using hp
        simp only [hp, Bool.and_false, Bool.false_eq_true, if_false, stp_d]
        exact ⟨by simp, by omega⟩
    · have : decide (i ≤ j + 1) = false := by simp; omega
      rw [hg (j + 1) (by omega)]
      simp only [this, Bool.false_and, Bool.false_eq_true, if_false, stp_d]
      exact ⟨by simp, by omega⟩

/-! partialInsertionSort -/
theorem scan_sorted (C : Cmp ok lt) {a b : Nat} {l : List Int} (hl : l = d.toList) {f : Int → Option (Nx Int (Ex Int Empty Empty))} (hf : ∀ s, f s = (f83.l1 (b : Int) l s).run) (hb : b ≤ d.size) (hs : d.size < 1152921504606846976) (hok : AllOk ok d) :
    ∀ (k i n : Nat), b - i ≤ k → k < n → 1 ≤ i → i ≤ b → loopN n f (i : Int) = some (.a ((scanSorted lt d b i : Nat) : Int)) ∧ i ≤ scanSorted lt d b i ∧ scanSorted lt d b i ≤ b
  | k, i, 0, _, h, _, _ => absurd h (by omega)
  | k, i, n + 1, hk, h, h1, h2 => by
    rw [loopN_succ, hf]
    unfold scanSorted
    subst hl
    simp only [f83.l1, r_brr]
    by_cases hib : i < b
    · have e : decide ((i : Int) < (b : Int)) = true := by simp; omega
      have e1 : IntKind.i64.wrap ((i : Int) - 1) = ((i - 1 : Nat) : Int) := by rw [wr]; omega
      have e2 : IntKind.i64.wrap ((i : Int) + 1) = ((i + 1 : Nat) : Int) := by rw [wr]; omega
      rw [e, br_t]
      simp only [e1, e2]
      rw [run_cmp C rfl rfl (by omega) (by omega) hok, r_brr, C.at (by omega) (by omega) hok]
      by_cases hlt : lt d[i]! d[i - 1]! = true
      · simp only [hlt, Bool.not_true, br_f, r_ret, stp_d, Bool.and_false, Bool.false_eq_true, if_false]
        exact ⟨by simp, by omega, by omega⟩
      · have hlt : lt d[i]! d[i - 1]! = false := by simpa using hlt
        simp only [hlt, Bool.not_false, br_t, r_ret, stp_c, hib, decide_true, Bool.and_self, if_true]
        obtain ⟨q1, q2, q3⟩ := scan_sorted C (a := a) rfl hf hb hs hok (k - 1) (i + 1) n (by omega) (by omega) (by omega) (by omega)
        exact ⟨q1, by omega, q3⟩
    · have e : decide ((i : Int) < (b : Int)) = false := by simp; omega
      have e3 : decide (i < b) = false := by simp; omega
      rw [e, br_f, r_ret, stp_d]
      simp only [e3, Bool.false_and, Bool.false_eq_true, if_false]
      exact ⟨by simp, by omega, by omega⟩

theorem shift_down (C : Cmp ok lt) {f : Int × List Int → Option (Nx (Int × List Int) (Ex (List Int) Empty Empty))} (hf : ∀ s, f s = (f83.l2 s.1 s.2).run) :
    ∀ (j n : Nat) (d : Array Int), j < n → j < d.size → d.size < 1152921504606846976 → AllOk ok d →
    loopN n f ((j : Int), d.toList) = some (.a (shiftDown lt j d).toList) ∧ (shiftDown lt j d).size = d.size ∧ AllOk ok (shiftDown lt j d)
  | j, 0, d, h, _, _, _ => absurd h (by omega)
  | 0, n + 1, d, h, hj, hs, hok => by
    have e : decide (((0 : Nat) : Int) ≥ 1) = false := by simp
    rw [loopN_succ, hf]
    simp only [f83.l2, r_brr, e, br_f, r_ret, stp_d, shiftDown]
    exact ⟨by simp, by simp, hok⟩
  | j + 1, n + 1, d, h, hj, hs, hok => by
    rw [loopN_succ, hf]
    have e : decide (((j + 1 : Nat) : Int) ≥ 1) = true := by simp; omega
    have e1 : IntKind.i64.wrap (((j + 1 : Nat) : Int) - 1) = ((j : Nat) : Int) := by rw [wr]; omega
    simp only [f83.l2, r_brr, e, br_t, e1, shiftDown]
    rw [run_cmp C rfl rfl hj (by omega) hok, r_brr, C.at hj (by omega) hok]
    by_cases hl : lt d[j + 1]! d[j]! = true
    · simp only [hl, Bool.not_true, br_f, Bool.false_eq_true, if_false]
      rw [run_swap (d := d) (i := ((j + 1 : Nat) : Int)) (j := ((j : Nat) : Int)) rfl rfl hj (by omega) (k := fun l51 => (cont ((j : Int), l51) : Pg (Nx (Int × List Int) (Ex (List Int) Empty Empty)))), r_ret, stp_c]
      obtain ⟨i1, i2, i3⟩ := shift_down C hf j n (swp d (j + 1) j) (by omega) (by rw [size_swp]; omega) (by rw [size_swp]; exact hs) (swp_ok hj (by omega) hok)
      exact ⟨i1, by rw [i2, size_swp], i3⟩
    · have hl : lt d[j + 1]! d[j]! = false := by simpa using hl
      simp only [hl, Bool.not_false, br_t, if_true]
      rw [r_ret, stp_d]
      exact ⟨by simp, by simp, hok⟩

theorem shift_up (C : Cmp ok lt) (b : Nat) {f : Int × List Int → Option (Nx (Int × List Int) (Ex (List Int) Empty Empty))} (hf : ∀ s, f s = (f83.l3 (b : Int) s.1 s.2).run) :
    ∀ (k j n : Nat) (d : Array Int), b - j ≤ k → k < n → 1 ≤ j → b ≤ d.size → j ≤ b → d.size < 1152921504606846976 → AllOk ok d →
    loopN n f ((j : Int), d.toList) = some (.a (shiftUp lt b j d).toList) ∧ (shiftUp lt b j d).size = d.size ∧ AllOk ok (shiftUp lt b j d)
  | k, j, 0, d, _, h, _, _, _, _, _ => absurd h (by omega)
  | k, j, n + 1, d, hk, h, h1, hb, hjb, hs, hok => by
    rw [loopN_succ, hf]
    unfold shiftUp
    simp only [f83.l3, r_brr]
    by_cases hj : j < b
    · have e : decide ((j : Int) < (b : Int)) = true := by simp; omega
      have e1 : IntKind.i64.wrap ((j : Int) - 1) = ((j - 1 : Nat) : Int) := by rw [wr]; omega
      have e2 : IntKind.i64.wrap ((j : Int) + 1) = ((j + 1 : Nat) : Int) := by rw [wr]; omega
      rw [e, br_t, if_pos hj]
      simp only [e1, e2]
      rw [run_cmp C rfl rfl (by omega) (by omega) hok, r_brr, C.at (by omega) (by omega) hok]
      by_cases hl : lt d[j]! d[j - 1]! = true
      · simp only [hl, Bool.not_true, br_f, Bool.false_eq_true, if_false]
        rw [run_swap (d := d) (i := (j : Int)) (j := ((j - 1 : Nat) : Int)) rfl rfl (by omega) (by omega) (k := fun l51 => (cont (((j + 1 : Nat) : Int), l51) : Pg (Nx (Int × List Int) (Ex (List Int) Empty Empty)))), r_ret, stp_c]
        obtain ⟨i1, i2, i3⟩ := shift_up C b hf (k - 1) (j + 1) n (swp d j (j - 1)) (by omega) (by omega) (by omega) (by rw [size_swp]; exact hb) (by omega) (by rw [size_swp]; exact hs) (swp_ok (by omega) (by omega) hok)
        exact ⟨i1, by rw [i2, size_swp], i3⟩
      · have hl : lt d[j]! d[j - 1]! = false := by simpa using hl
        simp only [hl, Bool.not_false, br_t, if_true]
        rw [r_ret, stp_d]
        exact ⟨by simp, by simp, hok⟩
    · have e : decide ((j : Int) < (b : Int)) = false := by simp; omega
      rw [e, br_f, r_ret, if_neg hj, stp_d]
      exact ⟨by simp, by simp, hok⟩

/-- The result of the outer loop, as the program has it. -/
noncomputable def pout (r : Array Int × Bool) : Prop := True

theorem partial_loop (C : Cmp ok lt) (a b : Nat) {f : Int × Int × List Int → Option (Nx (Int × Int × List Int) (Ex (Bool × List Int) (List Int) Empty))} (hf : ∀ s, f s = (f83.l4 (a : Int) (b : Int) s.1 s.2.1 s.2.2).run) :
    ∀ (s i n : Nat) (d : Array Int), s < n → s ≤ 5 → a + 1 ≤ i → i ≤ b → b ≤ d.size → d.size < 1152921504606846976 → AllOk ok d →
    (loopN n f ((i : Int), ((5 - s : Nat) : Int), d.toList) = some (.a ((partialIns lt a b s i d).2, (partialIns lt a b s i d).1.toList)) ∨
      ((partialIns lt a b s i d).2 = false ∧ loopN n f ((i : Int), ((5 - s : Nat) : Int), d.toList) = some (.b (partialIns lt a b s i d).1.toList))) ∧
    (partialIns lt a b s i d).1.size = d.size ∧ AllOk ok (partialIns lt a b s i d).1
  | s, i, 0, d, h, _, _, _, _, _, _ => absurd h (by omega)
  | 0, i, n + 1, d, h, h5, hi, hib, hb, hs, hok => by
    have e : decide (((5 - 0 : Nat) : Int) < 5) = false := by simp
    rw [loopN_succ, hf]
    simp only [f83.l4, r_brr, e, br_f, r_ret, stp_d, partialIns]
    exact ⟨.inr ⟨trivial, trivial⟩, trivial, hok⟩
  | s + 1, i, n + 1, d, h, h5, hi, hib, hb, hs, hok => by
    have e : decide (((5 - (s + 1) : Nat) : Int) < 5) = true := by simp; omega
    have e0 : IntKind.i64.wrap (((5 - (s + 1) : Nat) : Int) + 1) = ((5 - s : Nat) : Int) := by rw [wr]; omega
    rw [loopN_succ, hf]
    simp only [f83.l4, r_brr, e, br_t, partialIns, e0]
    obtain ⟨q1, q2, q3⟩ := scan_sorted C (a := a) (d := d) rfl (f := fun s => (f83.l1 (b : Int) d.toList s).run) (fun s => rfl) hb hs hok (b - i) i fuel (Nat.le_refl _) (by have := fuel_pos; omega) (by omega) hib
    rw [r_loop1, q1, bd_s, ex_a]
    generalize scanSorted lt d b i = x at q2 q3 ⊢
    rw [r_brr]
    by_cases hx : x = b
    · have e1 : ((x : Int) == (b : Int)) = true := by simp [hx]
      rw [e1, br_t, r_ret, stp_d, if_pos hx]
      exact ⟨.inl rfl, rfl, hok⟩
    · have e1 : ((x : Int) == (b : Int)) = false := by simp; omega
      rw [e1, br_f, if_neg hx, r_brr]
      have w1 : IntKind.i64.wrap ((b : Int) - (a : Int)) = ((b - a : Nat) : Int) := by rw [wr]; omega
      rw [w1]
      by_cases h50 : b - a < 50
      · have e2 : decide (((b - a : Nat) : Int) < 50) = true := by simp; omega
        rw [e2, br_t, r_ret, stp_d, if_pos h50]
        exact ⟨.inl rfl, rfl, hok⟩
      · have e2 : decide (((b - a : Nat) : Int) < 50) = false := by simp; omega
        have w2 : IntKind.i64.wrap ((x : Int) - 1) = ((x - 1 : Nat) : Int) := by rw [wr]; omega
        have w3 : IntKind.i64.wrap ((x : Int) - (a : Int)) = ((x - a : Nat) : Int) := by rw [wr]; omega
        have w4 : IntKind.i64.wrap ((b : Int) - (x : Int)) = ((b - x : Nat) : Int) := by rw [wr]; omega
        have w5 : IntKind.i64.wrap ((x : Int) + 1) = ((x + 1 : Nat) : Int) := by rw [wr]; omega
        rw [e2, br_f, if_neg h50]
        simp only [w2, w3, w4, w5]
        rw [run_swap (d := d) (i := (x : Int)) (j := ((x - 1 : Nat) : Int)) rfl rfl (by omega) (by omega) (k := fun l81 => join1 (.cond _) _ _ _)]
        have ok1 := swp_ok (d := d) (i := x) (j := x - 1) (by omega) (by omega) hok
        have sz1 := size_swp d x (x - 1)
        generalize swp d x (x - 1) = d1 at ok1 sz1 ⊢
        rw [r_join1, r_brr]
        by_cases h2 : x - a ≥ 2
        · have e3 : decide (((x - a : Nat) : Int) ≥ 2) = true := by simp; omega
          obtain ⟨i1, i2, i3⟩ := shift_down C (fun s => rfl) (x - 1) fuel d1 (by have := fuel_pos; omega) (by omega) (by omega) ok1
          rw [e3, br_t, r_loop1, i1, bd_s, ex_a, r_ret, bd_s, ex_a, if_pos h2]
          have sz2 := i2.trans sz1
          generalize shiftDown lt (x - 1) d1 = d2 at i3 sz2 ⊢
          rw [r_brr]
          by_cases h3 : b - x ≥ 2
          · have e3 : decide (((b - x : Nat) : Int) ≥ 2) = true := by simp; omega
            obtain ⟨j1, j2, j3⟩ := shift_up C b (fun s => rfl) (b - (x + 1)) (x + 1) fuel d2 (Nat.le_refl _) (by have := fuel_pos; omega) (by omega) (by omega) (by omega) (by omega) i3
            rw [e3, br_t, r_loop1, j1, bd_s, ex_a, r_ret, stp_c, if_pos h3]
            obtain ⟨k1, k2, k3⟩ := partial_loop C a b hf s x n _ (by omega) (by omega) (by omega) (by omega) (by rw [j2]; omega) (by rw [j2]; omega) j3
            exact ⟨k1, by rw [k2, j2, sz2], k3⟩
          · have e3 : decide (((b - x : Nat) : Int) ≥ 2) = false := by simp; omega
            rw [e3, br_f, r_ret, stp_c, if_neg h3]
            obtain ⟨k1, k2, k3⟩ := partial_loop C a b hf s x n d2 (by omega) (by omega) (by omega) (by omega) (by omega) (by omega) i3
            exact ⟨k1, by rw [k2, sz2], k3⟩
        · have e3 : decide (((x - a : Nat) : Int) ≥ 2) = false := by simp; omega
          have i3 := ok1
          rw [e3, br_f, r_ret, bd_s, ex_a, if_neg h2]
          have sz2 := sz1
          generalize d1 = d2 at i3 sz2 ⊢
          rw [r_brr]
          by_cases h3 : b - x ≥ 2
          · have e3 : decide (((b - x : Nat) : Int) ≥ 2) = true := by simp; omega
            obtain ⟨j1, j2, j3⟩ := shift_up C b (fun s => rfl) (b - (x + 1)) (x + 1) fuel d2 (Nat.le_refl _) (by have := fuel_pos; omega) (by omega) (by omega) (by omega) (by omega) i3
            rw [e3, br_t, r_loop1, j1, bd_s, ex_a, r_ret, stp_c, if_pos h3]
            obtain ⟨k1, k2, k3⟩ := partial_loop C a b hf s x n _ (by omega) (by omega) (by omega) (by omega) (by rw [j2]; omega) (by rw [j2]; omega) j3
            exact ⟨k1, by rw [k2, j2, sz2], k3⟩
          · have e3 : decide (((b - x : Nat) : Int) ≥ 2) = false := by simp; omega
            rw [e3, br_f, r_ret, stp_c, if_neg h3]
            obtain ⟨k1, k2, k3⟩ := partial_loop C a b hf s x n d2 (by omega) (by omega) (by omega) (by omega) (by omega) (by omega) i3
            exact ⟨k1, by rw [k2, sz2], k3⟩

theorem partialIns_run (C : Cmp ok lt) {a b : Nat} (hab : a < b) (hb : b ≤ d.size) (hs : d.size < 1152921504606846976) (hok : AllOk ok d) :
    (f83 (a : Int) (b : Int) d.toList).run = some ((partialInsertionSort lt d a b).2, (partialInsertionSort lt d a b).1.toList) ∧ (partialInsertionSort lt d a b).1.size = d.size ∧ AllOk ok (partialInsertionSort lt d a b).1 := by
  have e1 : IntKind.i64.wrap ((a : Int) + 1) = ((a + 1 : Nat) : Int) := by rw [wr]; omega
  obtain ⟨i1, i2, i3⟩ := partial_loop C a b (fun s => rfl) 5 (a + 1) fuel d (by have := fuel_pos; omega) (Nat.le_refl _) (Nat.le_refl _) hab hb hs hok
  refine ⟨?_, i2, i3⟩
  simp only [f83, e1]
  rcases i1 with i1 | ⟨i0, i1⟩
  · rw [r_loop2, show (0 : Int) = ((5 - 5 : Nat) : Int) from rfl, i1, bd_s, ex_a, r_ret]; rfl
  · rw [r_loop2, show (0 : Int) = ((5 - 5 : Nat) : Int) from rfl, i1, bd_s, ex_b, r_ret]
    show some (false, _) = some ((partialIns lt a b 5 (a + 1) d).2, _)
    rw [i0]; rfl
end Srt
end Go.Fx.Gen
