/- The library's sort, as printed, sorts: part 5, the whole. -/
import Derived.Test.YtiecopfelbfkiaaXV
namespace Go.Fx.Gen
open Go.Fx Go.Proofs Go.Sort
set_option linter.unusedVariables false
namespace Srt
variable {ok : Int → Prop} {lt : Int → Int → Bool} {β : Type} {d : Array Int}

theorem break_loop {a b m : Nat} (hab : a < b) (h8 : b - a ≥ 8) (hb : b < 65536) (hm1 : 1 ≤ m) (hm : m ≤ 2 * (b - a)) {f : Int × List Int × Int → Option (Nx (Int × List Int × Int) (Ex (List Int) Empty Empty))}
    (hf : ∀ s, f s = (f80.l1 (a : Int) (b : Int) (m : Int) s.1 s.2.1 s.2.2).run) :
    ∀ (k v n : Nat) (d : Array Int) (r : Int), a + (b - a) / 4 * 2 + 2 - v ≤ k → k < n → a ≤ v → b ≤ d.size → d.size < 65536 →
    ∃ d' : Array Int, loopN n f ((v : Int), d.toList, r) = some (.a d'.toList) ∧ PermIn a b d d'
  | k, v, 0, d, r, _, h, _, _, _ => absurd h (by omega)
  | k, v, n + 1, d, r, hk, h, hv, hbs, hs => by
    have w0 : IntKind.i64.wrap ((b : Int) - (a : Int)) = ((b - a : Nat) : Int) := by rw [wr]; omega
    have w1 : IntKind.i64.wrap (((b - a : Nat) : Int).tdiv 4) = (((b - a) / 4 : Nat) : Int) := by
      rw [show (4 : Int) = ((4 : Nat) : Int) from rfl, ← Int.ofNat_tdiv]; exact wr
    have w3 : IntKind.i64.wrap ((((b - a) / 4 : Nat) : Int) * 2) = (((b - a) / 4 * 2 : Nat) : Int) := Eq.trans wr (by omega)
    have w6 : IntKind.i64.wrap ((a : Int) + (((b - a) / 4 * 2 : Nat) : Int)) = ((a + (b - a) / 4 * 2 : Nat) : Int) := Eq.trans wr (by omega)
    have w7 : IntKind.i64.wrap (((a + (b - a) / 4 * 2 : Nat) : Int) + 1) = ((a + (b - a) / 4 * 2 + 1 : Nat) : Int) := Eq.trans wr (by omega)
    obtain ⟨E, hE⟩ : ∃ E, a + (b - a) / 4 * 2 = E := ⟨_, rfl⟩
    rw [hE] at w6 w7
    have hEb : E + 1 < b := by omega
    have hkE : E + 2 - v ≤ k := by omega
    rw [loopN_succ, hf]
    simp only [f80.l1, w0, w1, w3, w6, w7, r_brr]
    by_cases hvE : v ≤ E + 1
    · have e : decide ((v : Int) ≤ ((E + 1 : Nat) : Int)) = true := by simp; omega
      have w8 : IntKind.i64.wrap ((v : Int) + 1) = ((v + 1 : Nat) : Int) := Eq.trans wr (by omega)
      obtain ⟨x, y, hxy⟩ := xor_run r
      obtain ⟨o, ho, hom⟩ := and_le x m hm1 (by omega)
      rw [e, br_t, r_cl, hxy, bd_s]
      simp only [ho, w8, r_join1, r_brr]
      -- the other place
      have oth : ∃ q : Nat, q < b - a ∧ br (decide ((o : Int) ≥ ((b - a : Nat) : Int))) ((retA' (IntKind.i64.wrap ((o : Int) - ((b - a : Nat) : Int))) : Pg (Ex Int Empty Empty))).run ((retA' (o : Int) : Pg (Ex Int Empty Empty))).run = some (.a (q : Int)) := by
        by_cases hq : o ≥ b - a
        · have e : decide ((o : Int) ≥ ((b - a : Nat) : Int)) = true := by simp; omega
          have w : IntKind.i64.wrap ((o : Int) - ((b - a : Nat) : Int)) = ((o - (b - a) : Nat) : Int) := Eq.trans wr (by omega)
          exact ⟨o - (b - a), by omega, by rw [e, br_t, r_ret, w]⟩
        · have e : decide ((o : Int) ≥ ((b - a : Nat) : Int)) = false := by simp; omega
          exact ⟨o, by omega, by rw [e, br_f, r_ret]⟩
      obtain ⟨q, hq, hbr⟩ := oth
      rw [hbr, bd_s, ex_a]
      have w9 : IntKind.i64.wrap ((a : Int) + (q : Int)) = ((a + q : Nat) : Int) := Eq.trans wr (by omega)
      simp only [w9]
      rw [run_swap (d := d) (i := (v : Int)) (j := ((a + q : Nat) : Int)) rfl rfl (by omega) (by omega) (k := fun l30 => (cont (((v + 1 : Nat) : Int), l30, y) : Pg (Nx (Int × List Int × Int) (Ex (List Int) Empty Empty)))), r_ret, stp_c]
      obtain ⟨d', h1, h2⟩ := break_loop hab h8 hb hm1 hm hf (k - 1) (v + 1) n (swp d v (a + q)) y (by omega) (by omega) (by omega) (by rw [size_swp]; exact hbs) (by rw [size_swp]; exact hs)
      exact ⟨d', h1, permIn_trans _ _ _ _ _ (swp_permIn d a b v (a + q) (by omega) (by omega) (by omega) (by omega) hbs) h2⟩
    · have e : decide ((v : Int) ≤ ((E + 1 : Nat) : Int)) = false := by simp; omega
      rw [e, br_f, r_ret, stp_d]
      exact ⟨d, rfl, permIn_refl _ _ _⟩

theorem break_run {a b : Nat} (hab : a < b) (hb : b ≤ d.size) (hs : d.size < 65536) : ∃ d' : Array Int, (f80 (a : Int) (b : Int) d.toList).run = some d'.toList ∧ PermIn a b d d' := by
  have w0 : IntKind.i64.wrap ((b : Int) - (a : Int)) = ((b - a : Nat) : Int) := by rw [wr]; omega
  have w1 : IntKind.i64.wrap (((b - a : Nat) : Int).tdiv 4) = (((b - a) / 4 : Nat) : Int) := by
    rw [show (4 : Int) = ((4 : Nat) : Int) from rfl, ← Int.ofNat_tdiv]; exact wr
  have w3 : IntKind.i64.wrap ((((b - a) / 4 : Nat) : Int) * 2) = (((b - a) / 4 * 2 : Nat) : Int) := Eq.trans wr (by omega)
  have w6 : IntKind.i64.wrap ((a : Int) + (((b - a) / 4 * 2 : Nat) : Int)) = ((a + (b - a) / 4 * 2 : Nat) : Int) := Eq.trans wr (by omega)
  by_cases h8 : b - a ≥ 8
  · have e8 : decide (((b - a : Nat) : Int) ≥ 8) = true := by simp; omega
    have w7 : IntKind.i64.wrap (((a + (b - a) / 4 * 2 : Nat) : Int) - 1) = ((a + (b - a) / 4 * 2 - 1 : Nat) : Int) := Eq.trans wr (by omega)
    obtain ⟨m, hm, m1, m2⟩ := next_run (n := b - a) (by omega) (by omega)
    obtain ⟨d', h1, h2⟩ := break_loop hab h8 (by omega) m1 m2 (fun s => rfl) (a + (b - a) / 4 * 2 + 2 - (a + (b - a) / 4 * 2 - 1)) (a + (b - a) / 4 * 2 - 1) fuel d (IntKind.u64.wrap ((b - a : Nat) : Int)) (Nat.le_refl _) (by have := fuel_pos; omega) (by omega) hb hs
    refine ⟨d', ?_, h2⟩
    simp only [f80, w0, w1, w3, w6, w7, r_brr, e8, br_t, r_cl, hm, bd_s]
    rw [r_loop1, h1, bd_s, ex_a, r_ret]
  · have e8 : decide (((b - a : Nat) : Int) ≥ 8) = false := by simp; omega
    refine ⟨d, ?_, permIn_refl _ _ _⟩
    simp only [f80, w0, r_brr, e8, br_f, r_ret]

/-! pdqsort -/
noncomputable def Sorts (lt : Int → Int → Bool) (a b : Nat) (d d' : Array Int) : Prop := PermIn a b d d' ∧ SortedIn lt a b d'

abbrev Self := Int → Int → Int → List Int → Option (List Int)

theorem pdq_loop (C : Cmp ok lt) (self : Self) (hself) (m : Nat) (hrec : ∀ (a b limit : Nat) (d : Array Int), b - a < m → a ≤ b → b ≤ d.size → d.size < 65536 → limit < 65536 → AllOk ok d → Below lt a b d →
      ∃ d' : Array Int, self (a : Int) (b : Int) (limit : Int) d.toList = some d'.toList ∧ Sorts lt a b d d')
    {f : Int × Int × Int × Bool × Bool × List Int → Option (Nx (Int × Int × Int × Bool × Bool × List Int) (Ex (List Int) Empty Empty))}
    (hf : ∀ s, f s = (f75v1.l1 self hself s.1 s.2.1 s.2.2.1 s.2.2.2.1 s.2.2.2.2.1 s.2.2.2.2.2).run) :
    ∀ (k a b limit n : Nat) (wb wp : Bool) (d : Array Int), b - a ≤ k → k ≤ m → k < n → a ≤ b → b ≤ d.size → d.size < 65536 → limit < 65536 → AllOk ok d → Below lt a b d →
    ∃ d' : Array Int, loopN n f ((a : Int), (b : Int), (limit : Int), wb, wp, d.toList) = some (.a d'.toList) ∧ Sorts lt a b d d'
  | k, a, b, limit, 0, wb, wp, d, _, _, h, _, _, _, _, _, _ => absurd h (by omega)
  | k, a, b, limit, n + 1, wb, wp, d, hk, hkm, h, hab, hb, hs, hl, hok, hB => by
    have w0 : IntKind.i64.wrap ((b : Int) - (a : Int)) = ((b - a : Nat) : Int) := by rw [wr]; omega
    rw [loopN_succ, hf]
    simp only [f75v1.l1, w0, r_brr]
    by_cases h12 : b - a ≤ 12
    · have e : decide (((b - a : Nat) : Int) ≤ 12) = true := by simp; omega
      obtain ⟨i1, i2, i3⟩ := insertion C (a := a) (b := b) hab hb (by omega) hok
      rw [e, br_t, r_cl, i1, bd_s, r_ret, stp_d]
      exact ⟨_, rfl, insertionSort_holds C.swo d a b hab hb⟩
    · have e : decide (((b - a : Nat) : Int) ≤ 12) = false := by simp; omega
      rw [e, br_f]
      by_cases h0 : limit = 0
      · have e0 : ((limit : Int) == 0) = true := by simp [h0]
        obtain ⟨i1, i2, i3⟩ := heap C (a := a) (b := b) (by omega) hb (by omega) hok
        rw [e0, br_t, r_cl, i1, bd_s, r_ret, stp_d]
        exact ⟨_, rfl, heapSort_holds C.swo d a b hab hb⟩
      · have e0 : ((limit : Int) == 0) = false := by simp; omega
        rw [e0, br_f]
        simp only [r_join1, r_brr]
        -- the patterns
        have st1 : ∃ (lim : Nat) (d1 : Array Int), br (!wb) ((cl (f80.ok (a : Int) (b : Int) d.toList) fun y33 => (retA' (IntKind.i64.wrap ((limit : Int) - 1), y33) : Pg (Ex (Int × List Int) Empty Empty)))).run ((retA' ((limit : Int), d.toList) : Pg (Ex (Int × List Int) Empty Empty))).run = some (.a ((lim : Int), d1.toList)) ∧
            PermIn a b d d1 ∧ lim < 65536 := by
          cases wb with
          | true => exact ⟨limit, d, rfl, permIn_refl _ _ _, hl⟩
          | false =>
            obtain ⟨d1, h1, h2⟩ := break_run (d := d) (a := a) (b := b) (by omega) hb hs
            have w : IntKind.i64.wrap ((limit : Int) - 1) = ((limit - 1 : Nat) : Int) := Eq.trans wr (by omega)
            exact ⟨limit - 1, d1, by rw [Bool.not_false, br_t, r_cl, h1, bd_s, r_ret, w], h2, by omega⟩
        obtain ⟨lim, d1, q1, P1, hlim⟩ := st1
        rw [q1, bd_s, ex_a]
        have s1 := P1.1
        have ok1 := ok_perm hb P1 hok
        have B1 := hB.perm hb P1
        obtain ⟨pv, hint, c1, c2, c3⟩ := cho_run C (d := d1) (a := a) (b := b) (by omega) (by omega) (by omega) ok1
        rw [r_cl, c1, bd_s]
        simp only [r_join1, r_brr]
        -- reversed
        have st2 : ∃ (pv2 : Nat) (hint2 : Int) (d2 : Array Int), br (hint == 2) ((cl (f82.ok (a : Int) (b : Int) d1.toList) fun y36 => (retA' ((IntKind.i64.wrap ((IntKind.i64.wrap ((b : Int) - 1)) - (IntKind.i64.wrap ((pv : Int) - (a : Int))))), (1 : Int), y36) : Pg (Ex (Int × Int × List Int) Empty Empty)))).run
            ((retA' ((pv : Int), hint, d1.toList) : Pg (Ex (Int × Int × List Int) Empty Empty))).run = some (.a ((pv2 : Int), hint2, d2.toList)) ∧ PermIn a b d1 d2 ∧ a ≤ pv2 ∧ pv2 < b := by
          cases hh : (hint == 2) with
          | false => exact ⟨pv, hint, d1, rfl, permIn_refl _ _ _, c2, c3⟩
          | true =>
            have r1 := rev_run (d := d1) (a := a) (b := b) (by omega) (by omega) (by omega)
            have w1 : IntKind.i64.wrap ((b : Int) - 1) = ((b - 1 : Nat) : Int) := Eq.trans wr (by omega)
            have w2 : IntKind.i64.wrap ((pv : Int) - (a : Int)) = ((pv - a : Nat) : Int) := Eq.trans wr (by omega)
            have w3 : IntKind.i64.wrap (((b - 1 : Nat) : Int) - ((pv - a : Nat) : Int)) = ((b - 1 - (pv - a) : Nat) : Int) := Eq.trans wr (by omega)
            exact ⟨b - 1 - (pv - a), 1, reverseRange d1 a b, by rw [br_t, r_cl, r1, bd_s, r_ret, w1, w2, w3], reverseRange_holds d1 a b hab (by omega), by omega, by omega⟩
        obtain ⟨pv2, hint2, d2, q2, P2, p1, p2⟩ := st2
        rw [q2, bd_s, ex_a]
        have s2 := P2.1
        have ok2 := ok_perm (by omega) P2 ok1
        have B2 := B1.perm (by omega) P2
        have P12 := permIn_trans _ _ _ _ _ P1 P2
        -- partial insertion
        rw [r_join2, r_brr]
        have st3 : ∃ d3 : Array Int, PermIn a b d2 d3 ∧ (
            (br ((wb && wp) && (hint2 == 1)) ((cl (f83.ok (a : Int) (b : Int) d2.toList) fun y38 => brr y38.1 (retA' (y38.2)) ((retB' y38.2 : Pg (Ex (List Int) (List Int) Empty))))).run ((retB' d2.toList : Pg (Ex (List Int) (List Int) Empty))).run = some (.a d3.toList) ∧ SortedIn lt a b d3) ∨
            br ((wb && wp) && (hint2 == 1)) ((cl (f83.ok (a : Int) (b : Int) d2.toList) fun y38 => brr y38.1 (retA' (y38.2)) ((retB' y38.2 : Pg (Ex (List Int) (List Int) Empty))))).run ((retB' d2.toList : Pg (Ex (List Int) (List Int) Empty))).run = some (.b d3.toList)) := by
          cases hh : ((wb && wp) && (hint2 == 1)) with
          | false => exact ⟨d2, permIn_refl _ _ _, .inr rfl⟩
          | true =>
            obtain ⟨i1, i2, i3⟩ := partialIns_run C (d := d2) (a := a) (b := b) (by omega) (by omega) (by omega) ok2
            obtain ⟨j1, j2⟩ := partialInsertionSort_holds C.swo d2 a b (by omega) (by omega) B2
            refine ⟨_, j1, ?_⟩
            rw [br_t, r_cl, i1, bd_s, r_brr]
            cases hr : (partialInsertionSort lt d2 a b).2 with
            | true => exact .inl ⟨rfl, j2 hr⟩
            | false => exact .inr rfl
        obtain ⟨d3, P3, q3⟩ := st3
        have s3 := P3.1
        have ok3 := ok_perm (by omega) P3 ok2
        have B3 := B2.perm (by omega) P3
        have P13 := permIn_trans _ _ _ _ _ P12 P3
        rcases q3 with ⟨q3, S3⟩ | q3
        · rw [q3, bd_s, ex_a, r_ret, stp_d]
          exact ⟨d3, rfl, P13, S3⟩
        · rw [q3, bd_s, ex_b]
          simp only [r_join1, r_brr]
          -- all alike
          have w4 : a > 0 → IntKind.i64.wrap ((a : Int) - 1) = ((a - 1 : Nat) : Int) := fun h => Eq.trans wr (by omega)
          have st4 : br (decide ((a : Int) > 0)) ((ck (IntKind.i64.wrap ((a : Int) - 1)) (L d3.toList) <| rd d3.toList (at0 (IntKind.i64.wrap ((a : Int) - 1))) fun a41 => ck (pv2 : Int) (L d3.toList) <| rd d3.toList (at0 (pv2 : Int)) fun a42 => cl (f84.ok a41 a42) fun y43 =>
              (retA' (!(y43)) : Pg (Ex Bool Empty Empty)))).run ((retA' false : Pg (Ex Bool Empty Empty))).run = some (.a (decide (a > 0) && !lt d3[a - 1]! d3[pv2]!)) := by
            by_cases ha : a > 0
            · have e : decide ((a : Int) > 0) = true := by simp; omega
              have e' : decide (a > 0) = true := by simp; omega
              rw [e, br_t, run_cmp C (w4 ha) rfl (by omega) (by omega) ok3, r_ret, C.at (by omega) (by omega) ok3, e', Bool.true_and]
            · have e : decide ((a : Int) > 0) = false := by simp; omega
              have e' : decide (a > 0) = false := by simp; omega
              rw [e, br_f, r_ret, e', Bool.false_and]
          rw [st4, bd_s, ex_a]
          cases hc : (decide (a > 0) && !lt d3[a - 1]! d3[pv2]!) with
          | true =>
            simp only [Bool.and_eq_true, decide_eq_true_eq, Bool.not_eq_true'] at hc
            obtain ⟨i1, i2, i3⟩ := partEq_run C (d := d3) (a := a) (b := b) (pivot := pv2) p1 p2 (by omega) (by omega) ok3
            rw [br_t, r_cl, i1, bd_s, r_ret, stp_c]
            generalize hx : partitionEqual lt d3 a b pv2 = r at i2 i3 ⊢
            obtain ⟨mid, d4⟩ := r
            obtain ⟨g1, g2, g3, g4, g5⟩ := round_eq C.swo (partitionEqual_holds lt) hc.1 p1 p2 (by omega) B3 hc.2 hx
            obtain ⟨d', k1, k2, k3⟩ := pdq_loop C self hself m hrec hf (k - 1) mid b lim n wb wp d4 (by omega) (by omega) (by omega) g2 (by omega) (by omega) hlim i3 g4
            obtain ⟨z1, z2⟩ := g5 d' k2 k3
            exact ⟨d', k1, permIn_trans _ _ _ _ _ P13 z1, z2⟩
          | false =>
            obtain ⟨i1, i2, i3⟩ := part_run C (d := d3) (a := a) (b := b) (pivot := pv2) p1 p2 (by omega) (by omega) ok3
            rw [br_f, r_cl, i1, bd_s]
            generalize hx : partition lt d3 a b pv2 = r at i2 i3 ⊢
            obtain ⟨mid, ap, d4⟩ := r
            obtain ⟨g1, g2, g3, g4, g5, g6, g7⟩ := round_part C.swo (partition_holds lt) p1 p2 (by omega) B3 hx
            have w5 : IntKind.i64.wrap ((mid : Int) - (a : Int)) = ((mid - a : Nat) : Int) := Eq.trans wr (by omega)
            have w6 : IntKind.i64.wrap ((b : Int) - (mid : Int)) = ((b - mid : Nat) : Int) := Eq.trans wr (by omega)
            have w7 : IntKind.i64.wrap ((mid : Int) + 1) = ((mid + 1 : Nat) : Int) := Eq.trans wr (by omega)
            simp only [w5, w6, w7, r_brr]
            by_cases hlt : mid - a < b - mid
            · have e1 : decide (((mid - a : Nat) : Int) < ((b - mid : Nat) : Int)) = true := by simp; omega
              obtain ⟨L, k1, k2, k3⟩ := hrec a mid lim d4 (by omega) g1 (by omega) (by omega) hlim i3 g4
              obtain ⟨g8, g9⟩ := g6 L k2 k3
              rw [e1, br_t, r_cls, k1, bd_s, r_ret, stp_c]
              have okL := ok_perm (by omega) k2 i3
              obtain ⟨R, m1, m2, m3⟩ := pdq_loop C self hself m hrec hf (k - 1) (mid + 1) b lim n _ _ L (by omega) (by omega) (by omega) (by omega) (by rw [k2.1]; omega) (by rw [k2.1]; omega) hlim okL g8
              obtain ⟨z1, z2⟩ := g9 R m2 m3
              exact ⟨R, m1, permIn_trans _ _ _ _ _ P13 z1, z2⟩
            · have e1 : decide (((mid - a : Nat) : Int) < ((b - mid : Nat) : Int)) = false := by simp; omega
              obtain ⟨L, k1, k2, k3⟩ := hrec (mid + 1) b lim d4 (by omega) (by omega) (by omega) (by omega) hlim i3 g5
              obtain ⟨g8, g9⟩ := g7 L k2 k3
              rw [e1, br_f, r_cls, k1, bd_s, r_ret, stp_c]
              have okL := ok_perm (by omega) k2 i3
              obtain ⟨R, m1, m2, m3⟩ := pdq_loop C self hself m hrec hf (k - 1) a mid lim n _ _ L (by omega) (by omega) (by omega) (by omega) (by rw [k2.1]; omega) (by rw [k2.1]; omega) hlim okL g8
              obtain ⟨z1, z2⟩ := g9 R m2 m3
              exact ⟨R, m1, permIn_trans _ _ _ _ _ P13 z1, z2⟩

theorem pdq_rec (C : Cmp ok lt) : ∀ (n a b limit : Nat) (d : Array Int), b - a < n → a ≤ b → b ≤ d.size → d.size < 65536 → limit < 65536 → AllOk ok d → Below lt a b d →
      ∃ d' : Array Int, (f75v1.fuel n).1 (a : Int) (b : Int) (limit : Int) d.toList = some d'.toList ∧ Sorts lt a b d d'
  | 0, a, b, limit, d, h, _, _, _, _, _, _ => absurd h (by omega)
  | n + 1, a, b, limit, d, h, hab, hb, hs, hl, hok, hB => by
    obtain ⟨d', h1, h2⟩ := pdq_loop C (f75v1.fuel n).1 (f75v1.fuel n).2 n (fun a b limit d k1 k2 k3 k4 k5 k6 k7 => pdq_rec C n a b limit d k1 k2 k3 k4 k5 k6 k7) (fun s => rfl) (b - a) a b limit fuel true true d (Nat.le_refl _) (by omega) (by have := fuel_pos; omega) hab hb hs hl hok hB
    refine ⟨d', ?_, h2⟩
    show (f75v1.body (f75v1.fuel n).1 (f75v1.fuel n).2 (a : Int) (b : Int) (limit : Int) d.toList).run = _
    simp only [f75v1.body]
    rw [r_loop1, h1, bd_s, ex_a, r_ret]

/-- slices.SortFunc: a sorted permutation. -/
theorem sort_run (C : Cmp ok lt) (l : List Int) (hl : l.length < 65536) (hok : ∀ x ∈ l, ok x) :
    ∃ l', (f67v1 l).run = some l' ∧ l'.Perm l ∧ l'.Pairwise (fun x y => lt y x = false) := by
  have hd : l = l.toArray.toList := by simp
  obtain ⟨t, ht, t16, _⟩ := len_run hl
  have hB : Below lt 0 l.length l.toArray := .inl rfl
  have hall : AllOk ok l.toArray := by
    intro i hi
    have hi' : i < l.length := by simpa using hi
    have : l.toArray[i]! = l[i] := by simp [hi']
    rw [this]; exact hok _ (List.getElem_mem hi')
  obtain ⟨d', h1, h2, h3⟩ := pdq_rec C Go.Fx.fuel 0 l.length t l.toArray (by have := fuel_pos; omega) (Nat.zero_le _) (by simp) (by simpa using hl) (by omega) hall hB
  have hsz : d'.size = l.length := by rw [h2.1]; simp
  refine ⟨d'.toList, ?_, ?_, ?_⟩
  · have e1 : IntKind.u64.wrap ((l.length : Nat) : Int) = ((l.length : Nat) : Int) := by rw [IntKind.wrap_u64]; omega
    have e2 : ((L l : Nat) : Int) = ((l.length : Nat) : Int) := by rw [L_eq]
    simp only [f67v1, e1, e2, r_cl, ht, bd_s, r_cls]
    have h1 : f75v1 (0 : Int) ((l.length : Nat) : Int) (t : Int) l = some d'.toList := h1
    rw [h1, bd_s, r_ret]
  · have := h2.2.2
    rw [Array.extract_eq_self_of_le (by omega), Array.extract_eq_self_of_le (by simp)] at this
    simpa using this
  · rw [List.pairwise_iff_getElem]
    intro i j hi hj hij
    have hi' : i < d'.size := by simpa using hi
    have hj' : j < d'.size := by simpa using hj
    have := h3 i j (Nat.zero_le _) hij (by omega)
    rw [Array.getElem_toList, Array.getElem_toList]
    simpa [hi', hj'] using this
end Srt
end Go.Fx.Gen
