/- The library's sort, as printed, sorts: part 3, the partitions. -/
import Derived.Test.YtiecopfelbfkiaaXT
namespace Go.Fx.Gen
open Go.Fx Go.Proofs Go.Sort
set_option linter.unusedVariables false
namespace Srt
variable {ok : Int → Prop} {lt : Int → Int → Bool} {β : Type} {d : Array Int}

/-! partitionEqual -/
theorem peq_up (C : Cmp ok lt) {a j : Nat} (ha : a < d.size) (hj : j < d.size) (hs : d.size < 1152921504606846976) (hok : AllOk ok d) : ∀ k i n : Nat, j + 1 - i ≤ k → k < n → 1 ≤ i → i < 2305843009213693952 →
    loopN n (fun s => (f85.l1 (a : Int) (j : Int) d.toList s).run) (i : Int) = some (.a ((scanUp (fun x => !lt d[a]! x) d j i : Nat) : Int)) ∧ i ≤ scanUp (fun x => !lt d[a]! x) d j i ∧ scanUp (fun x => !lt d[a]! x) d j i ≤ max i (j + 1) := by
  intro k i n hk hn h1 h2
  refine scan_up ?_ ?_ k i n hk hn h1
  · intro i hij h1
    have e : decide ((i : Int) ≤ (j : Int)) = true := by simp; omega
    have e1 : IntKind.i64.wrap ((i : Int) + 1) = ((i + 1 : Nat) : Int) := by rw [wr]; omega
    simp only [f85.l1, r_brr, e, br_t, e1]
    rw [run_cmp C rfl rfl ha (by omega) hok, r_brr, C.at ha (by omega) hok]
    cases lt d[a]! d[i]! <;> simp [br, r_ret]
  · intro i hij
    have e : decide ((i : Int) ≤ (j : Int)) = false := by simp; omega
    simp only [f85.l1, r_brr, e, br_f, r_ret]

theorem peq_down (C : Cmp ok lt) {a i : Nat} (ha : a < d.size) (hi : 1 ≤ i) (hs : d.size < 1152921504606846976) (hok : AllOk ok d) : ∀ j n : Nat, j < n → j < d.size →
    loopN n (fun s => (f85.l2 (a : Int) d.toList (i : Int) s).run) (j : Int) = some (.a ((scanDown (fun x => lt d[a]! x) d i j : Nat) : Int)) ∧ scanDown (fun x => lt d[a]! x) d i j ≤ j := by
  intro j n hn hj
  refine scan_down hi (top := d.size - 1) ?_ ?_ j n hn (by omega)
  · intro j hij ht
    have e : decide ((i : Int) ≤ ((j + 1 : Nat) : Int)) = true := by simp; omega
    have e1 : IntKind.i64.wrap (((j + 1 : Nat) : Int) - 1) = (j : Int) := by rw [wr] <;> omega
    simp only [f85.l2, r_brr, e, br_t, e1]
    rw [run_cmp C rfl rfl ha (by omega) hok, r_brr, C.at ha (by omega) hok]
    cases lt d[a]! d[j + 1]! <;> simp [br, r_ret]
  · intro j hij
    have e : decide ((i : Int) ≤ (j : Int)) = false := by simp; omega
    simp only [f85.l2, r_brr, e, br_f, r_ret]

theorem peq_loop (C : Cmp ok lt) (a : Nat) {f : Int × Int × List Int → Option (Nx (Int × Int × List Int) (Ex (Int × List Int) Empty Empty))} (hf : ∀ s, f s = (f85.l3 (a : Int) s.1 s.2.1 s.2.2).run) :
    ∀ (k i j n : Nat) (d : Array Int), j + 1 - i ≤ k → k < n → 1 ≤ i → i ≤ j + 2 → a < d.size → j < d.size → d.size < 1152921504606846976 → AllOk ok d →
    loopN n f ((i : Int), (j : Int), d.toList) = some (.a ((((partEqLoop lt a i j d).1 : Nat) : Int), (partEqLoop lt a i j d).2.toList)) ∧ (partEqLoop lt a i j d).2.size = d.size ∧ AllOk ok (partEqLoop lt a i j d).2
  | k, i, j, 0, d, _, h, _, _, _, _, _, _ => absurd h (by omega)
  | k, i, j, n + 1, d, hk, h, h1, h2, ha, hj, hs, hok => by
    rw [loopN_succ, hf]
    unfold partEqLoop
    obtain ⟨u1, u2, u3⟩ := peq_up C ha hj hs hok (j + 1 - i) i fuel (Nat.le_refl _) (by have := fuel_pos; omega) h1 (by omega)
    simp only [f85.l3]
    rw [r_loop1, u1, bd_s, ex_a]
    generalize scanUp (fun x => !lt d[a]! x) d j i = i2 at u2 u3 ⊢
    obtain ⟨w1, w2⟩ := peq_down C (i := i2) ha (by omega) hs hok j fuel (by have := fuel_pos; omega) hj
    rw [r_loop1, w1, bd_s, ex_a]
    generalize scanDown (fun x => lt d[a]! x) d i2 j = j2 at w2 ⊢
    rw [r_brr]
    by_cases hij : i2 > j2
    · have e : decide ((i2 : Int) > (j2 : Int)) = true := by simp; omega
      rw [e, br_t, r_ret, stp_d, if_pos hij]
      exact ⟨rfl, rfl, hok⟩
    · have e : decide ((i2 : Int) > (j2 : Int)) = false := by simp; omega
      have hg : (j2 - 1) + 1 - (i2 + 1) < j + 1 - i := by omega
      have e1 : IntKind.i64.wrap ((i2 : Int) + 1) = ((i2 + 1 : Nat) : Int) := by rw [wr]; omega
      have e2 : IntKind.i64.wrap ((j2 : Int) - 1) = ((j2 - 1 : Nat) : Int) := by rw [wr]; omega
      rw [e, br_f, if_neg hij, dif_pos hg]
      simp only [e1, e2]
      rw [run_swap (d := d) (i := (i2 : Int)) (j := (j2 : Int)) rfl rfl (by omega) (by omega) (k := fun l61 => (cont (((i2 + 1 : Nat) : Int), ((j2 - 1 : Nat) : Int), l61) : Pg (Nx (Int × Int × List Int) (Ex (Int × List Int) Empty Empty)))), r_ret, stp_c]
      obtain ⟨q1, q2, q3⟩ := peq_loop C a hf (k - 1) (i2 + 1) (j2 - 1) n (swp d i2 j2) (by omega) (by omega) (by omega) (by omega) (by rw [size_swp]; exact ha) (by rw [size_swp]; omega) (by rw [size_swp]; exact hs) (swp_ok (by omega) (by omega) hok)
      exact ⟨q1, by rw [q2, size_swp], q3⟩

theorem partEq_run (C : Cmp ok lt) {a b pivot : Nat} (h1 : a ≤ pivot) (h2 : pivot < b) (hb : b ≤ d.size) (hs : d.size < 1152921504606846976) (hok : AllOk ok d) :
    (f85 (a : Int) (b : Int) (pivot : Int) d.toList).run = some ((((partitionEqual lt d a b pivot).1 : Nat) : Int), (partitionEqual lt d a b pivot).2.toList) ∧ (partitionEqual lt d a b pivot).2.size = d.size ∧ AllOk ok (partitionEqual lt d a b pivot).2 := by
  have e1 : IntKind.i64.wrap ((a : Int) + 1) = ((a + 1 : Nat) : Int) := by rw [wr]; omega
  have e2 : IntKind.i64.wrap ((b : Int) - 1) = ((b - 1 : Nat) : Int) := by rw [wr]; omega
  obtain ⟨q1, q2, q3⟩ := peq_loop C a (fun s => rfl) (b - 1 + 1 - (a + 1)) (a + 1) (b - 1) fuel (swp d a pivot) (Nat.le_refl _) (by have := fuel_pos; omega) (by omega) (by omega) (by rw [size_swp]; omega) (by rw [size_swp]; omega) (by rw [size_swp]; exact hs) (swp_ok (by omega) (by omega) hok)
  refine ⟨?_, by show (partEqLoop lt a (a + 1) (b - 1) (swp d a pivot)).2.size = _; rw [q2, size_swp], q3⟩
  simp only [f85, e1, e2]
  rw [run_swap (d := d) (i := (a : Int)) (j := (pivot : Int)) rfl rfl (by omega) (by omega) (k := fun l10 => loop1 _ _ _ _ _), r_loop1, q1, bd_s, ex_a, r_ret]
  rfl

/-! partition -/
theorem par_up (C : Cmp ok lt) {a j : Nat} (ha : a < d.size) (hj : j < d.size) (hs : d.size < 1152921504606846976) (hok : AllOk ok d) : ∀ k i n : Nat, j + 1 - i ≤ k → k < n → 1 ≤ i →
    loopN n (fun s => (f86.l3 (a : Int) (j : Int) d.toList s).run) (i : Int) = some (.a ((scanUp (fun x => lt x d[a]!) d j i : Nat) : Int)) ∧ i ≤ scanUp (fun x => lt x d[a]!) d j i ∧ scanUp (fun x => lt x d[a]!) d j i ≤ max i (j + 1) := by
  intro k i n hk hn h1
  refine scan_up ?_ ?_ k i n hk hn h1
  · intro i hij h1
    have e : decide ((i : Int) ≤ (j : Int)) = true := by simp; omega
    have e1 : IntKind.i64.wrap ((i : Int) + 1) = ((i + 1 : Nat) : Int) := by rw [wr]; omega
    simp only [f86.l3, r_brr, e, br_t, e1]
    rw [run_cmp C rfl rfl (by omega) ha hok, r_brr, C.at (by omega) ha hok]
    cases lt d[i]! d[a]! <;> simp [br, r_ret]
  · intro i hij
    have e : decide ((i : Int) ≤ (j : Int)) = false := by simp; omega
    simp only [f86.l3, r_brr, e, br_f, r_ret]

theorem par_up0 (C : Cmp ok lt) {a b : Nat} (ha : a < d.size) (hb : b ≤ d.size) (hab : a < b) (hs : d.size < 1152921504606846976) (hok : AllOk ok d) : ∀ k i n : Nat, b - 1 + 1 - i ≤ k → k < n → 1 ≤ i →
    loopN n (fun s => (f86.l1 (a : Int) (b : Int) d.toList s).run) (i : Int) = some (.a ((scanUp (fun x => lt x d[a]!) d (b - 1) i : Nat) : Int)) ∧ i ≤ scanUp (fun x => lt x d[a]!) d (b - 1) i ∧ scanUp (fun x => lt x d[a]!) d (b - 1) i ≤ max i (b - 1 + 1) := by
  intro k i n hk hn h1
  have e2 : IntKind.i64.wrap ((b : Int) - 1) = ((b - 1 : Nat) : Int) := by rw [wr]; omega
  refine scan_up ?_ ?_ k i n hk hn h1
  · intro i hij h1
    have e : decide ((i : Int) ≤ ((b - 1 : Nat) : Int)) = true := by simp; omega
    have e1 : IntKind.i64.wrap ((i : Int) + 1) = ((i + 1 : Nat) : Int) := by rw [wr]; omega
    simp only [f86.l1, r_brr, e2, e, br_t, e1]
    rw [run_cmp C rfl rfl (by omega) ha hok, r_brr, C.at (by omega) ha hok]
    cases lt d[i]! d[a]! <;> simp [br, r_ret]
  · intro i hij
    have e : decide ((i : Int) ≤ ((b - 1 : Nat) : Int)) = false := by simp; omega
    simp only [f86.l1, r_brr, e2, e, br_f, r_ret]

theorem par_down (C : Cmp ok lt) {a i : Nat} (ha : a < d.size) (hi : 1 ≤ i) (hs : d.size < 1152921504606846976) (hok : AllOk ok d) : ∀ j n : Nat, j < n → j < d.size →
    loopN n (fun s => (f86.l4 (a : Int) d.toList (i : Int) s).run) (j : Int) = some (.a ((scanDown (fun x => !lt x d[a]!) d i j : Nat) : Int)) ∧ scanDown (fun x => !lt x d[a]!) d i j ≤ j := by
  intro j n hn hj
  refine scan_down hi (top := d.size - 1) ?_ ?_ j n hn (by omega)
  · intro j hij ht
    have e : decide ((i : Int) ≤ ((j + 1 : Nat) : Int)) = true := by simp; omega
    have e1 : IntKind.i64.wrap (((j + 1 : Nat) : Int) - 1) = (j : Int) := by rw [wr] <;> omega
    simp only [f86.l4, r_brr, e, br_t, e1]
    rw [run_cmp C rfl rfl (by omega) ha hok, r_brr, C.at (by omega) ha hok]
    cases lt d[j + 1]! d[a]! <;> simp [br, r_ret]
  · intro j hij
    have e : decide ((i : Int) ≤ (j : Int)) = false := by simp; omega
    simp only [f86.l4, r_brr, e, br_f, r_ret]

theorem par_down0 (C : Cmp ok lt) {a i : Nat} (ha : a < d.size) (hi : 1 ≤ i) (hs : d.size < 1152921504606846976) (hok : AllOk ok d) : ∀ j n : Nat, j < n → j < d.size →
    loopN n (fun s => (f86.l2 (a : Int) d.toList (i : Int) s).run) (j : Int) = some (.a ((scanDown (fun x => !lt x d[a]!) d i j : Nat) : Int)) ∧ scanDown (fun x => !lt x d[a]!) d i j ≤ j := by
  intro j n hn hj
  refine scan_down hi (top := d.size - 1) ?_ ?_ j n hn (by omega)
  · intro j hij ht
    have e : decide ((i : Int) ≤ ((j + 1 : Nat) : Int)) = true := by simp; omega
    have e1 : IntKind.i64.wrap (((j + 1 : Nat) : Int) - 1) = (j : Int) := by rw [wr] <;> omega
    simp only [f86.l2, r_brr, e, br_t, e1]
    rw [run_cmp C rfl rfl (by omega) ha hok, r_brr, C.at (by omega) ha hok]
    cases lt d[j + 1]! d[a]! <;> simp [br, r_ret]
  · intro j hij
    have e : decide ((i : Int) ≤ (j : Int)) = false := by simp; omega
    simp only [f86.l2, r_brr, e, br_f, r_ret]

theorem par_loop (C : Cmp ok lt) (a : Nat) {f : Int × Int × List Int → Option (Nx (Int × Int × List Int) (Ex (Int × List Int) Empty Empty))} (hf : ∀ s, f s = (f86.l5 (a : Int) s.1 s.2.1 s.2.2).run) :
    ∀ (k i j n : Nat) (d : Array Int), j + 1 - i ≤ k → k < n → 1 ≤ i → i ≤ j + 2 → a < d.size → j < d.size → d.size < 1152921504606846976 → AllOk ok d →
    loopN n f ((i : Int), (j : Int), d.toList) = some (.a ((((partLoop lt a i j d).1 : Nat) : Int), (partLoop lt a i j d).2.toList)) ∧ (partLoop lt a i j d).2.size = d.size ∧ AllOk ok (partLoop lt a i j d).2 ∧ (partLoop lt a i j d).1 ≤ j
  | k, i, j, 0, d, _, h, _, _, _, _, _, _ => absurd h (by omega)
  | k, i, j, n + 1, d, hk, h, h1, h2, ha, hj, hs, hok => by
    rw [loopN_succ, hf]
    unfold partLoop
    obtain ⟨u1, u2, u3⟩ := par_up C ha hj hs hok (j + 1 - i) i fuel (Nat.le_refl _) (by have := fuel_pos; omega) h1
    simp only [f86.l5]
    rw [r_loop1, u1, bd_s, ex_a]
    generalize scanUp (fun x => lt x d[a]!) d j i = i2 at u2 u3 ⊢
    obtain ⟨w1, w2⟩ := par_down C (i := i2) ha (by omega) hs hok j fuel (by have := fuel_pos; omega) hj
    rw [r_loop1, w1, bd_s, ex_a]
    generalize scanDown (fun x => !lt x d[a]!) d i2 j = j2 at w2 ⊢
    rw [r_brr]
    by_cases hij : i2 > j2
    · have e : decide ((i2 : Int) > (j2 : Int)) = true := by simp; omega
      rw [e, br_t, r_ret, stp_d, if_pos hij]
      exact ⟨rfl, rfl, hok, w2⟩
    · have e : decide ((i2 : Int) > (j2 : Int)) = false := by simp; omega
      have hg : (j2 - 1) + 1 - (i2 + 1) < j + 1 - i := by omega
      have e1 : IntKind.i64.wrap ((i2 : Int) + 1) = ((i2 + 1 : Nat) : Int) := by rw [wr]; omega
      have e2 : IntKind.i64.wrap ((j2 : Int) - 1) = ((j2 - 1 : Nat) : Int) := by rw [wr]; omega
      rw [e, br_f, if_neg hij, dif_pos hg]
      simp only [e1, e2]
      rw [run_swap (d := d) (i := (i2 : Int)) (j := (j2 : Int)) rfl rfl (by omega) (by omega) (k := fun l61 => (cont (((i2 + 1 : Nat) : Int), ((j2 - 1 : Nat) : Int), l61) : Pg (Nx (Int × Int × List Int) (Ex (Int × List Int) Empty Empty)))), r_ret, stp_c]
      obtain ⟨q1, q2, q3, q4⟩ := par_loop C a hf (k - 1) (i2 + 1) (j2 - 1) n (swp d i2 j2) (by omega) (by omega) (by omega) (by omega) (by rw [size_swp]; exact ha) (by rw [size_swp]; omega) (by rw [size_swp]; exact hs) (swp_ok (by omega) (by omega) hok)
      exact ⟨q1, by rw [q2, size_swp], q3, by omega⟩

theorem part_run (C : Cmp ok lt) {a b pivot : Nat} (h1 : a ≤ pivot) (h2 : pivot < b) (hb : b ≤ d.size) (hs : d.size < 1152921504606846976) (hok : AllOk ok d) :
    (f86 (a : Int) (b : Int) (pivot : Int) d.toList).run = some ((((partition lt d a b pivot).1 : Nat) : Int), (partition lt d a b pivot).2.1, (partition lt d a b pivot).2.2.toList) ∧ (partition lt d a b pivot).2.2.size = d.size ∧ AllOk ok (partition lt d a b pivot).2.2 := by
  have e1 : IntKind.i64.wrap ((a : Int) + 1) = ((a + 1 : Nat) : Int) := by rw [wr]; omega
  have e2 : IntKind.i64.wrap ((b : Int) - 1) = ((b - 1 : Nat) : Int) := by rw [wr]; omega
  have ok1 := swp_ok (d := d) (i := a) (j := pivot) (by omega) (by omega) hok
  have sz1 := size_swp d a pivot
  simp only [f86, e1, e2]
  rw [run_swap (d := d) (i := (a : Int)) (j := (pivot : Int)) rfl rfl (by omega) (by omega) (k := fun l10 => loop1 _ _ _ _ _)]
  unfold partition
  simp only
  generalize swp d a pivot = d1 at ok1 sz1 ⊢
  obtain ⟨u1, u2, u3⟩ := par_up0 C (d := d1) (a := a) (b := b) (by omega) (by omega) (by omega) (by omega) ok1 (b - 1 + 1 - (a + 1)) (a + 1) fuel (Nat.le_refl _) (by have := fuel_pos; omega) (by omega)
  rw [r_loop1, u1, bd_s, ex_a]
  generalize scanUp (fun x => lt x d1[a]!) d1 (b - 1) (a + 1) = i2 at u2 u3 ⊢
  obtain ⟨w1, w2⟩ := par_down0 C (d := d1) (a := a) (i := i2) (by omega) (by omega) (by omega) ok1 (b - 1) fuel (by have := fuel_pos; omega) (by omega)
  rw [r_loop1, w1, bd_s, ex_a]
  generalize scanDown (fun x => !lt x d1[a]!) d1 i2 (b - 1) = j2 at w2 ⊢
  rw [r_brr]
  by_cases hij : i2 > j2
  · have e : decide ((i2 : Int) > (j2 : Int)) = true := by simp; omega
    rw [e, br_t, if_pos hij]
    rw [run_swap (d := d1) (i := (j2 : Int)) (j := (a : Int)) rfl rfl (by omega) (by omega) (k := fun l34 => (.ret ((j2 : Int), true, l34) : Pg (Int × Bool × List Int))), r_ret]
    exact ⟨rfl, by rw [size_swp, sz1], swp_ok (by omega) (by omega) ok1⟩
  · have e : decide ((i2 : Int) > (j2 : Int)) = false := by simp; omega
    have w3 : IntKind.i64.wrap ((i2 : Int) + 1) = ((i2 + 1 : Nat) : Int) := by rw [wr]; omega
    have w4 : IntKind.i64.wrap ((j2 : Int) - 1) = ((j2 - 1 : Nat) : Int) := by rw [wr]; omega
    rw [e, br_f, if_neg hij]
    simp only [w3, w4]
    rw [run_swap (d := d1) (i := (i2 : Int)) (j := (j2 : Int)) rfl rfl (by omega) (by omega) (k := fun l10 => loop1 _ _ _ _ _)]
    obtain ⟨q1, q2, q3, q4⟩ := par_loop C a (fun s => rfl) (j2 - 1 + 1 - (i2 + 1)) (i2 + 1) (j2 - 1) fuel (swp d1 i2 j2) (Nat.le_refl _) (by have := fuel_pos; omega) (by omega) (by omega) (by rw [size_swp]; omega) (by rw [size_swp]; omega) (by rw [size_swp]; omega) (swp_ok (by omega) (by omega) ok1)
    rw [r_loop1, q1, bd_s, ex_a]
    rw [size_swp, sz1] at q2
    generalize partLoop lt a (i2 + 1) (j2 - 1) (swp d1 i2 j2) = r at q2 q3 q4 ⊢
    rw [run_swap (d := r.2) (i := ((r.1 : Nat) : Int)) (j := (a : Int)) rfl rfl (by omega) (by omega) (k := fun l99 => (.ret (((r.1 : Nat) : Int), false, l99) : Pg (Int × Bool × List Int))), r_ret]
    exact ⟨rfl, by rw [size_swp, q2], swp_ok (by omega) (by omega) q3⟩
end Srt
end Go.Fx.Gen
