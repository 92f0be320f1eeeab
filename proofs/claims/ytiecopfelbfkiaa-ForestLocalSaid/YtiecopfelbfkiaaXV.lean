/- The library's sort, as printed, sorts: part 4, the pivot, the patterns, the recursion. -/
import Derived.Test.YtiecopfelbfkiaaXU
namespace Go.Fx.Gen
open Go.Fx Go.Proofs Go.Sort
set_option linter.unusedVariables false
namespace Srt
variable {ok : Int → Prop} {lt : Int → Int → Bool} {β : Type} {d : Array Int}

theorem ok_perm {a b : Nat} {d d' : Array Int} (hb : b ≤ d.size) (h : PermIn a b d d') (hok : AllOk ok d) : AllOk ok d' := by
  intro i hi
  rw [h.1] at hi
  by_cases h1 : i < a ∨ b ≤ i
  · rw [h.2.1 i h1]; exact hok i hi
  · exact permIn_all d d' a b ok hb h (fun j _ hj => hok j (by omega)) i (by omega) (by omega)

/-! reverseRange -/
theorem rev_loop {f : Int × Int × List Int → Option (Nx (Int × Int × List Int) (Ex (List Int) Empty Empty))} (hf : ∀ s, f s = (f82.l1 s.1 s.2.1 s.2.2).run) :
    ∀ (k i j n : Nat) (d : Array Int), j - i ≤ k → k < n → j < d.size → d.size < 1152921504606846976 →
    loopN n f ((i : Int), (j : Int), d.toList) = some (.a (reverseLoop i j d).toList)
  | k, i, j, 0, d, _, h, _, _ => absurd h (by omega)
  | k, i, j, n + 1, d, hk, h, hj, hs => by
    rw [loopN_succ, hf]
    unfold reverseLoop
    simp only [f82.l1, r_brr]
    by_cases hij : i < j
    · have e : decide ((i : Int) < (j : Int)) = true := by simp; omega
      have e1 : IntKind.i64.wrap ((i : Int) + 1) = ((i + 1 : Nat) : Int) := by rw [wr]; omega
      have e2 : IntKind.i64.wrap ((j : Int) - 1) = ((j - 1 : Nat) : Int) := by rw [wr]; omega
      rw [e, br_t, if_pos hij]
      simp only [e1, e2]
      rw [run_swap (d := d) (i := (i : Int)) (j := (j : Int)) rfl rfl (by omega) (by omega) (k := fun l18 => (cont (((i + 1 : Nat) : Int), ((j - 1 : Nat) : Int), l18) : Pg (Nx (Int × Int × List Int) (Ex (List Int) Empty Empty)))), r_ret, stp_c]
      exact rev_loop hf (k - 1) (i + 1) (j - 1) n (swp d i j) (by omega) (by omega) (by rw [size_swp]; omega) (by rw [size_swp]; exact hs)
    · have e : decide ((i : Int) < (j : Int)) = false := by simp; omega
      rw [e, br_f, r_ret, stp_d, if_neg hij]

theorem rev_run {a b : Nat} (hab : a < b) (hb : b ≤ d.size) (hs : d.size < 1152921504606846976) : (f82 (a : Int) (b : Int) d.toList).run = some (reverseRange d a b).toList := by
  have e2 : IntKind.i64.wrap ((b : Int) - 1) = ((b - 1 : Nat) : Int) := by rw [wr]; omega
  simp only [f82, e2]
  rw [r_loop1, rev_loop (fun s => rfl) (b - 1 - a) a (b - 1) fuel d (Nat.le_refl _) (by have := fuel_pos; omega) (by omega) hs, bd_s, ex_a, r_ret]; rfl

/-! choosePivot -/
theorem ord_run (C : Cmp ok lt) {a b s : Nat} (ha : a < d.size) (hb : b < d.size) (hs : d.size < 1152921504606846976) (hok : AllOk ok d) (hn : s < 1000000) :
    (f94 (a : Int) (b : Int) d.toList (s : Int)).run = some ((((order2 lt d a b s).1 : Nat) : Int), (((order2 lt d a b s).2.1 : Nat) : Int), (((order2 lt d a b s).2.2 : Nat) : Int)) := by
  have e1 : IntKind.i64.wrap ((s : Int) + 1) = ((s + 1 : Nat) : Int) := by rw [wr]; omega
  simp only [f94, e1]
  rw [run_cmp C rfl rfl hb ha hok, r_brr, C.at hb ha hok]
  unfold order2
  cases lt d[b]! d[a]! <;> simp [br, r_ret]

theorem ord_mem {a b s : Nat} (P : Nat → Prop) (ha : P a) (hb : P b) : P (order2 lt d a b s).1 ∧ P (order2 lt d a b s).2.1 := by
  unfold order2; split <;> exact ⟨by assumption, by assumption⟩

theorem ord_count (a b s : Nat) : (order2 lt d a b s).2.2 ≤ s + 1 := by unfold order2; split <;> simp
theorem med_count (a b c s : Nat) : (median lt d a b c s).2 ≤ s + 3 := by
  have h1 := ord_count (lt := lt) (d := d) a b s
  have h2 := ord_count (lt := lt) (d := d) (order2 lt d a b s).2.1 c (order2 lt d a b s).2.2
  have h3 := ord_count (lt := lt) (d := d) (order2 lt d a b s).1 (order2 lt d (order2 lt d a b s).2.1 c (order2 lt d a b s).2.2).1 (order2 lt d (order2 lt d a b s).2.1 c (order2 lt d a b s).2.2).2.2
  show (order2 lt d (order2 lt d a b s).1 (order2 lt d (order2 lt d a b s).2.1 c (order2 lt d a b s).2.2).1 (order2 lt d (order2 lt d a b s).2.1 c (order2 lt d a b s).2.2).2.2).2.2 ≤ s + 3
  omega

theorem med_run (C : Cmp ok lt) {a b c s : Nat} (ha : a < d.size) (hb : b < d.size) (hc : c < d.size) (hs : d.size < 1152921504606846976) (hok : AllOk ok d) (hn : s < 900000) :
    (f93 (a : Int) (b : Int) (c : Int) d.toList (s : Int)).run = some ((((median lt d a b c s).1 : Nat) : Int), (((median lt d a b c s).2 : Nat) : Int)) := by
  simp only [f93]
  have m1 := ord_mem (lt := lt) (d := d) (s := s) (fun x => x < d.size) ha hb
  have c1 := ord_count (lt := lt) (d := d) a b s
  rw [r_cl, ord_run C ha hb hs hok (by omega), bd_s]
  have m2 := ord_mem (lt := lt) (d := d) (s := (order2 lt d a b s).2.2) (fun x => x < d.size) m1.2 hc
  have c2 := ord_count (lt := lt) (d := d) (order2 lt d a b s).2.1 c (order2 lt d a b s).2.2
  rw [r_cl, ord_run C m1.2 hc hs hok (by omega), bd_s, r_cl, ord_run C m1.1 m2.1 hs hok (by omega), bd_s, r_ret]
  rfl

theorem medA_run (C : Cmp ok lt) {a s : Nat} (ha0 : 1 ≤ a) (ha : a + 1 < d.size) (hs : d.size < 1152921504606846976) (hok : AllOk ok d) (hn : s < 900000) :
    (f92 (a : Int) d.toList (s : Int)).run = some ((((medianAdjacent lt d a s).1 : Nat) : Int), (((medianAdjacent lt d a s).2 : Nat) : Int)) := by
  have e1 : IntKind.i64.wrap ((a : Int) - 1) = ((a - 1 : Nat) : Int) := by rw [wr]; omega
  have e2 : IntKind.i64.wrap ((a : Int) + 1) = ((a + 1 : Nat) : Int) := by rw [wr]; omega
  simp only [f92, e1, e2]
  rw [r_cl, med_run C (by omega) (by omega) ha hs hok hn, bd_s, r_ret]
  rfl

theorem cho_key {a b : Nat} : ∀ (q : Pg (Ex (Int × Int) Empty Empty)) (p : Nat) (s : Int), q.run = some (.a ((p : Int), s)) → a ≤ p → p < b → ∀ xa, ∃ (p : Nat) (h : Int),
      (join1 (.cond 32) q xa fun x12 => brr (x12.2 == 0) (.ret ((x12.1, (1 : Int)))) (brr (x12.2 == 12) (.ret ((x12.1, (2 : Int)))) ((.ret ((x12.1, (0 : Int)))) : Pg (Int × Int)))).run = some ((p : Int), h) ∧ a ≤ p ∧ p < b := by
  intro q p s hq h1 h2 xa
  rw [r_join1, hq, bd_s, ex_a, r_brr]
  by_cases e1 : (s == 0) = true
  · simp only [e1, br_t, r_ret]; exact ⟨p, 1, rfl, h1, h2⟩
  · have e1 : (s == 0) = false := by simpa using e1
    simp only [e1, br_f, r_brr]
    by_cases e2 : (s == 12) = true
    · simp only [e2, br_t, r_ret]; exact ⟨p, 2, rfl, h1, h2⟩
    · have e2 : (s == 12) = false := by simpa using e2
      simp only [e2, br_f, r_ret]; exact ⟨p, 0, rfl, h1, h2⟩

theorem cho50 (C : Cmp ok lt) {a b I J K : Nat} (hb : b ≤ d.size) (hs : d.size < 1152921504606846976) (hok : AllOk ok d) (g1 : a + 1 ≤ I ∧ I + 1 < b) (g2 : a + 1 ≤ J ∧ J + 1 < b) (g3 : a + 1 ≤ K ∧ K + 1 < b) :
    ∃ (r1 r2 r3 : Nat × Nat) (p s : Nat), (f92 (I : Int) d.toList (0 : Int)).run = some ((r1.1 : Int), (r1.2 : Int)) ∧ (f92 (J : Int) d.toList (r1.2 : Int)).run = some ((r2.1 : Int), (r2.2 : Int)) ∧
      (f92 (K : Int) d.toList (r2.2 : Int)).run = some ((r3.1 : Int), (r3.2 : Int)) ∧ (f93 (r1.1 : Int) (r2.1 : Int) (r3.1 : Int) d.toList (r3.2 : Int)).run = some ((p : Int), (s : Int)) ∧ a ≤ p ∧ p < b := by
  have near : ∀ (x m : Nat) (r : Nat × Nat), a + 1 ≤ x ∧ x + 1 < b → (r.1 = x - 1 ∨ r.1 = x ∨ r.1 = x + 1) → a ≤ r.1 ∧ r.1 < b := by intro x m r h1 h2; omega
  have x1 := medA_run C (d := d) (a := I) (s := 0) (by omega) (by omega) hs hok (by omega)
  have c1 : (medianAdjacent lt d I 0).2 ≤ 0 + 3 := med_count _ _ _ _
  have n1 := near I 0 _ g1 (medianAdjacent_mem lt d I 0)
  generalize medianAdjacent lt d I 0 = r1 at x1 c1 n1
  have x2 := medA_run C (d := d) (a := J) (s := r1.2) (by omega) (by omega) hs hok (by omega)
  have c2 : (medianAdjacent lt d J r1.2).2 ≤ r1.2 + 3 := med_count _ _ _ _
  have n2 := near J 0 _ g2 (medianAdjacent_mem lt d J r1.2)
  generalize medianAdjacent lt d J r1.2 = r2 at x2 c2 n2
  have x3 := medA_run C (d := d) (a := K) (s := r2.2) (by omega) (by omega) hs hok (by omega)
  have c3 : (medianAdjacent lt d K r2.2).2 ≤ r2.2 + 3 := med_count _ _ _ _
  have n3 := near K 0 _ g3 (medianAdjacent_mem lt d K r2.2)
  generalize medianAdjacent lt d K r2.2 = r3 at x3 c3 n3
  have x4 := med_run C (d := d) (a := r1.1) (b := r2.1) (c := r3.1) (s := r3.2) (by omega) (by omega) (by omega) hs hok (by omega)
  have n4 : a ≤ (median lt d r1.1 r2.1 r3.1 r3.2).1 ∧ (median lt d r1.1 r2.1 r3.1 r3.2).1 < b := by
    rcases median_mem lt d r1.1 r2.1 r3.1 r3.2 with h | h | h <;> rw [h] <;> assumption
  exact ⟨r1, r2, r3, _, _, x1, x2, x3, x4, n4.1, n4.2⟩

theorem cho_run (C : Cmp ok lt) {a b : Nat} (hab : a < b) (hb : b ≤ d.size) (hs : d.size < 1152921504606846976) (hok : AllOk ok d) :
    ∃ (p : Nat) (h : Int), (f81 (a : Int) (b : Int) d.toList).run = some ((p : Int), h) ∧ a ≤ p ∧ p < b := by
  have w0 : IntKind.i64.wrap ((b : Int) - (a : Int)) = ((b - a : Nat) : Int) := by rw [wr]; omega
  have w1 : IntKind.i64.wrap (((b - a : Nat) : Int).tdiv 4) = (((b - a) / 4 : Nat) : Int) := by
    rw [show (4 : Int) = ((4 : Nat) : Int) from rfl, ← Int.ofNat_tdiv]; exact wr
  have w2 : IntKind.i64.wrap ((((b - a) / 4 : Nat) : Int) * 1) = (((b - a) / 4 * 1 : Nat) : Int) := Eq.trans wr (by omega)
  have w3 : IntKind.i64.wrap ((((b - a) / 4 : Nat) : Int) * 2) = (((b - a) / 4 * 2 : Nat) : Int) := Eq.trans wr (by omega)
  have w4 : IntKind.i64.wrap ((((b - a) / 4 : Nat) : Int) * 3) = (((b - a) / 4 * 3 : Nat) : Int) := Eq.trans wr (by omega)
  have w5 : IntKind.i64.wrap ((a : Int) + (((b - a) / 4 * 1 : Nat) : Int)) = ((a + (b - a) / 4 * 1 : Nat) : Int) := Eq.trans wr (by omega)
  have w6 : IntKind.i64.wrap ((a : Int) + (((b - a) / 4 * 2 : Nat) : Int)) = ((a + (b - a) / 4 * 2 : Nat) : Int) := Eq.trans wr (by omega)
  have w7 : IntKind.i64.wrap ((a : Int) + (((b - a) / 4 * 3 : Nat) : Int)) = ((a + (b - a) / 4 * 3 : Nat) : Int) := Eq.trans wr (by omega)
  obtain ⟨I, hI⟩ : ∃ I, a + (b - a) / 4 * 1 = I := ⟨_, rfl⟩
  obtain ⟨J, hJ⟩ : ∃ J, a + (b - a) / 4 * 2 = J := ⟨_, rfl⟩
  obtain ⟨K, hK⟩ : ∃ K, a + (b - a) / 4 * 3 = K := ⟨_, rfl⟩
  rw [hI] at w5
  rw [hJ] at w6
  rw [hK] at w7
  simp only [f81, w0, w1, w2, w3, w4, w5, w6, w7]
  by_cases h8 : b - a ≥ 8
  · have e8 : decide (((b - a : Nat) : Int) ≥ 8) = true := by simp; omega
    by_cases h50 : b - a ≥ 50
    · have e50 : decide (((b - a : Nat) : Int) ≥ 50) = true := by simp; omega
      obtain ⟨r1, r2, r3, p, s, x1, x2, x3, x4, hp1, hp2⟩ := cho50 C (d := d) (a := a) (b := b) (I := I) (J := J) (K := K) hb hs hok (by omega) (by omega) (by omega)
      refine cho_key _ p (s : Int) ?_ hp1 hp2 _
      simp only [r_brr, r_join1, e8, e50, br_t, r_cl, x1, x2, x3, x4, bd_s, r_ret, ex_a]
    · have e50 : decide (((b - a : Nat) : Int) ≥ 50) = false := by simp; omega
      have m4 := median_mem lt d I J K 0
      have x4 := med_run C (d := d) (a := I) (b := J) (c := K) (s := 0) (by omega) (by omega) (by omega) hs hok (by omega)
      refine cho_key _ (median lt d I J K 0).1 (((median lt d I J K 0).2 : Nat) : Int) ?_ (by omega) (by omega) _
      have x4 : (f93 (I : Int) (J : Int) (K : Int) d.toList (0 : Int)).run = _ := x4
      simp only [r_brr, r_join1, e8, e50, br_t, br_f, r_cl, x4, bd_s, r_ret, ex_a]
  · have e8 : decide (((b - a : Nat) : Int) ≥ 8) = false := by simp; omega
    refine cho_key _ J 0 ?_ (by omega) (by omega) _
    simp only [r_brr, e8, br_f, r_ret]

/-! math/bits.Len, breakPatterns -/
noncomputable def tab (i : Nat) : Nat := if i = 0 then 0 else Nat.log2 i + 1
theorem tab_run : ∀ i : Fin 256, strAt str1 (i.val : Int) = some ((tab i.val : Nat) : Int) := by decide +kernel

theorem len_run {n : Nat} (hn : n < 65536) : ∃ t : Nat, (f76 (n : Int)).run = some (t : Int) ∧ t ≤ 16 ∧ (1 ≤ n → 2 ^ t ≤ 2 * n) := by
  have tb : ∀ i, i < 256 → tab i ≤ 8 ∧ (1 ≤ i → 2 ^ tab i ≤ 2 * i) := by decide +kernel
  have e1 : decide ((n : Int) ≥ 4294967296) = false := by simp; omega
  have e2 : decide ((n : Int) ≥ 65536) = false := by simp; omega
  have sg : ∀ i : Nat, i < 256 → ∀ k : Int → Pg Int, (sget str1 (i : Int) k).run = (k ((tab i : Nat) : Int)).run := by
    intro i hi k
    rw [r_sget, if_pos (by omega), tab_run ⟨i, hi⟩, bd_s]
  by_cases h : n ≥ 256
  · have e3 : decide ((n : Int) ≥ 256) = true := by simp; omega
    have e4 : ((n : Int).fdiv (2 ^ (min (8 : Int).toNat IntKind.u64.bits))) = ((n / 256 : Nat) : Int) := by
      have : (2 : Int) ^ (min (8 : Int).toNat IntKind.u64.bits) = 256 := by decide
      rw [this, Int.fdiv_eq_ediv_of_nonneg _ (by omega)]; omega
    have e5 : IntKind.u8.wrap ((n / 256 : Nat) : Int) = ((n / 256 : Nat) : Int) := by rw [IntKind.wrap_u8]; omega
    obtain ⟨t1, t2⟩ := tb (n / 256) (by omega)
    have t2 := t2 (by omega)
    have e6 : IntKind.i64.wrap ((IntKind.i64.wrap ((0 : Int) + 8)) + (IntKind.i64.wrap ((tab (n / 256) : Nat) : Int))) = ((8 + tab (n / 256) : Nat) : Int) := by
      rw [wr (n := (0 : Int) + 8), wr (n := ((tab (n / 256) : Nat) : Int)), wr] <;> omega
    refine ⟨8 + tab (n / 256), ?_, by omega, fun _ => by rw [Nat.pow_add]; omega⟩
    simp only [f76, f88, r_cl, r_join1, r_brr, e1, e2, e3, br_t, br_f, r_ret, bd_s, ex_a, e4, e5]
    rw [sg _ (by omega), r_ret, e6]; rfl
  · have e3 : decide ((n : Int) ≥ 256) = false := by simp; omega
    have e5 : IntKind.u8.wrap (n : Int) = (n : Int) := by rw [IntKind.wrap_u8]; omega
    obtain ⟨t1, t2⟩ := tb n (by omega)
    have e6 : IntKind.i64.wrap ((0 : Int) + (IntKind.i64.wrap ((tab n : Nat) : Int))) = ((tab n : Nat) : Int) := by
      rw [wr (n := ((tab n : Nat) : Int)), wr] <;> omega
    refine ⟨tab n, ?_, by omega, t2⟩
    simp only [f76, f88, r_cl, r_join1, r_brr, e1, e2, e3, br_t, br_f, r_ret, bd_s, ex_a, e5]
    rw [sg _ (by omega), r_ret, e6]; rfl

theorem next_run {n : Nat} (h1 : 1 ≤ n) (hn : n < 65536) : ∃ m : Nat, (f90 (n : Int)).run = some (m : Int) ∧ 1 ≤ m ∧ m ≤ 2 * n := by
  obtain ⟨t, ht, t16, t2⟩ := len_run hn
  have t2 := t2 h1
  have e1 : IntKind.u64.wrap (n : Int) = (n : Int) := by rw [IntKind.wrap_u64]; omega
  obtain ⟨M, hM⟩ : ∃ M, M = 2 ^ t := ⟨_, rfl⟩
  have h2 : (1 : Int) * 2 ^ (min ((t : Int)).toNat IntKind.u64.bits) = (M : Int) := by
    have hb : IntKind.u64.bits = 64 := rfl
    rw [hb, Int.toNat_natCast, Nat.min_eq_left (by omega), Int.one_mul, hM]; simp
  have h3 : 1 ≤ M := by rw [hM]; exact Nat.one_le_two_pow
  rw [← hM] at t2
  refine ⟨M, ?_, h3, t2⟩
  simp only [f90, e1, r_cl, ht, bd_s, r_nnS, h2]
  rw [chk_t (by omega), bd_s, r_ret, IntKind.wrap_u64]
  congr 1; omega

theorem xor_run (r : Int) : ∃ x y : Int, (f91 r).run = some (x, y) := ⟨_, _, rfl⟩

theorem and_le (x : Int) (m : Nat) (h1 : 1 ≤ m) (hm : m ≤ 131072) : ∃ o : Nat, IntKind.i64.wrap (andI .u64 x (IntKind.u64.wrap ((m : Int) - 1))) = (o : Int) ∧ o < m := by
  have e1 : IntKind.u64.wrap ((m : Int) - 1) = ((m - 1 : Nat) : Int) := by rw [IntKind.wrap_u64]; omega
  rw [e1]
  unfold andI
  generalize hb : BitVec.ofInt IntKind.u64.bits x = bx
  have h2 : (bx &&& BitVec.ofInt IntKind.u64.bits ((m - 1 : Nat) : Int)).toNat ≤ m - 1 := by
    rw [BitVec.toNat_and]
    refine Nat.le_trans Nat.and_le_right ?_
    rw [BitVec.ofInt_natCast, BitVec.toNat_ofNat]
    exact Nat.mod_le _ _
  generalize (bx &&& BitVec.ofInt IntKind.u64.bits ((m - 1 : Nat) : Int)).toNat = o at h2
  refine ⟨o, ?_, by omega⟩
  rw [show IntKind.u64.wrap (o : Int) = (o : Int) by rw [IntKind.wrap_u64]; omega, wr]
end Srt
end Go.Fx.Gen
