/- The law TradeMatchesReference: whatever the graph and the integers, the program answers true. -/
import Derived.Test.YtidbhdbcapbnlaaTR
namespace Go.Fx.Gen
open Go.Fx Go.Proofs
set_option linter.unusedVariables false
namespace Trd
open Go.TT
variable {g : Graph}

/-- A graph that is not valid. -/
theorem invalid_runs (hs : Small g) (hn : ¬ GV g) : (f10v1 g).run = some ([], 140) ∧ (f11 g).run = some ([], 140) ∧ (f12v1 g).run = some ([], 140) ∧ (f13 g).run = some ([], 140) ∧
    ∀ v a b, (f16v1 g v a b).run = some (false, 140) ∧ (f17 g v a b).run = some (false, 140) := by
  obtain ⟨b, b1, b2⟩ := valid_run hs
  obtain ⟨c, c1, c2⟩ := rvalid_run hs
  have hb : b = false := by cases b with
    | false => rfl
    | true => exact absurd (b2.1 rfl) hn
  have hc : c = false := by cases c with
    | false => rfl
    | true => exact absurd (c2.1 rfl) hn
  subst hb; subst hc
  refine ⟨?_, ?_, ?_, ?_, fun v x y => ⟨?_, ?_⟩⟩
  · simp only [f10v1, r_cl, b1, bd_s, r_brr, Bool.not_false, br_t, r_ret]
  · simp only [f11, r_cl, c1, bd_s, r_brr, Bool.not_false, br_t, r_ret]
  · simp only [f12v1, r_cl, b1, bd_s, r_brr, Bool.not_false, br_t, r_ret]
  · simp only [f13, r_cl, c1, bd_s, r_brr, Bool.not_false, br_t, r_ret]
  · simp only [f16v1, r_cl, b1, bd_s, r_brr, Bool.not_false, br_t, r_ret]
  · simp only [f17, r_join1, r_cl, c1, bd_s, r_brr, Bool.not_false, br_t, r_ret, ex_a]

theorem agree (hs : Small g) (he : g.Edges.length < 65536) : ∃ x r, (f10v1 g).run = some x ∧ (f11 g).run = some x ∧ (f12v1 g).run = some r ∧ (f13 g).run = some r ∧ (f14 x.1 x.1).run = some true ∧ (f15 r.1 r.1).run = some true ∧
    ∀ v a b, ∃ y, (f16v1 g v a b).run = some y ∧ (f17 g v a b).run = some y := by
  by_cases hv : GV g
  · have H : Ready g := ⟨hs, he, hv⟩
    have hsv := hs.v
    obtain ⟨N, rx, ex, nn, hl, hr, O⟩ := labels_rounds H
    have hN := O.n24
    refine ⟨_, _, hl, rlabels_run H O, hr, rrounds_run H O, labels_same (by simpa using hsv) (fun x hx => ?_), lists_same ?_ (fun x hx => ?_), fun v a b => ⟨_, prefers_run H v a b, rprefers_run H v a b⟩⟩
    · obtain ⟨v, _, rfl⟩ := List.mem_map.1 hx; simp
    · unfold roundsOf; simp; omega
    · unfold roundsOf at hx
      obtain ⟨t, _, rfl⟩ := List.mem_map.1 hx
      have : (lvs (wsh g) (SG g t)).length ≤ 24 := by unfold lvs; exact Nat.le_trans (List.length_filter_le ..) (by simp)
      omega
  · obtain ⟨h1, h2, h3, h4, h5⟩ := invalid_runs hs hv
    exact ⟨_, _, h1, h2, h3, h4, labels_same (by simp) (by simp), lists_same (by simp) (by simp), fun v a b => ⟨_, (h5 v a b).1, (h5 v a b).2⟩⟩

theorem pk_nat {c : Int} {n : Nat} (hc : inI64 c) (hn : 0 < n) : ∃ i : Nat, pk c (n : Int) = (i : Int) ∧ i < n := by
  have := pk_range hc (n := (n : Int)) (by omega)
  exact ⟨(pk c (n : Int)).toNat, by omega, by omega⟩

theorem twice_run (hs : Small g) (hA : ∀ v a b, ∃ y, (f16v1 g v a b).run = some y ∧ (f17 g v a b).run = some y) {p6 p7 p8 : Int} (h6 : inI64 p6) (h7 : inI64 p7) (h8 : inI64 p8) :
    loopN fuel (fun s : Int × Int × Int × Int => (f3.l1 p6 p7 p8 g s.1 s.2.1 s.2.2.1 s.2.2.2).run) (p6, p7, p8, (0 : Int)) = some (.b ()) := by
  obtain ⟨q, hq, rfl⟩ := loop_ix (A := Int × Int × Int) (f := fun s : Int × Int × Int × Int => (f3.l1 p6 p7 p8 g s.1 s.2.1 s.2.2.1 s.2.2.2).run) (n := 2) (fun k a => (a.1, a.2.1, a.2.2, (k : Int)))
    (fun _ _ => True) (fun q => q = .b ())
    (fun k a hk _ => by
      obtain ⟨u, p, q⟩ := a
      obtain ⟨y, y1, y2⟩ := hA u p q
      have e0 : decide ((k : Int) < 2) = true := decide_eq_true (by omega)
      simp only [f3.l1, r_brr, e0, br_t, r_cl, y1, y2, bd_s, beq_self_eq_true, bne_self_eq_false, Bool.not_true, Bool.or_self, br_f, L_eq, succ_wr hk (by omega)]
      by_cases hz : g.Vertices.length = 0
      · rw [show ((g.Vertices.length : Int) == 0) = true by simp [hz], br_t, r_ret]
        exact .inr ⟨_, rfl, rfl⟩
      · rw [show ((g.Vertices.length : Int) == 0) = false from beq_eq_false_iff_ne.2 (by omega), br_f, pick18 (by omega), bd_s]
        obtain ⟨i, hi, hil⟩ := pk_nat h6 (n := g.Vertices.length) (by omega)
        rw [hi, getR_s (List.getElem?_eq_getElem hil)]
        obtain ⟨l, l1, l2⟩ := refw_any hs g.Vertices[i].ID
        rw [r_cl, l1, bd_s, r_brr]
        by_cases h0 : 0 < l.length
        · obtain ⟨a, ha, hal⟩ := pk_nat h7 h0
          obtain ⟨b, hb, hbl⟩ := pk_nat h8 h0
          rw [show decide ((l.length : Int) > 0) = true from decide_eq_true (by omega), br_t, r_cl, pick18 (by omega), bd_s, ha, getR_s (List.getElem?_eq_getElem hal), r_cl, pick18 (by omega), bd_s, hb, getR_s (List.getElem?_eq_getElem hbl), r_ret]
          exact .inl ⟨(_, _, _), rfl, trivial⟩
        · rw [show decide ((l.length : Int) > 0) = false from decide_eq_false (by omega), br_f, r_ret]
          exact .inl ⟨(_, _, _), rfl, trivial⟩)
    (fun a _ => by
      obtain ⟨u, p, q⟩ := a
      exact ⟨_, by simp only [f3.l1, r_brr, show decide (((2 : Nat) : Int) < 2) = false from rfl, br_f, r_ret] <;> rfl, rfl⟩)
    (k := fuel) (by have := fuel_pos; omega) (a := (p6, p7, p8)) trivial
  exact hq

theorem few_run (p1 : Graph) : (f8 p1).run = some ⟨p1.Vertices.take (min 6 p1.Vertices.length), p1.Edges.take (min 8 p1.Edges.length), p1.Depots.take (min 4 p1.Depots.length)⟩ := by
  have key : ∀ (a n : Nat), (if (a : Int) < (n : Int) then (a : Int) else (n : Int)) = ((min a n : Nat) : Int) := by intro a n; split <;> omega
  have k6 := key 6 p1.Vertices.length
  have k8 := key 8 p1.Edges.length
  have k4 := key 4 p1.Depots.length
  simp only [f8, L_eq, r_cutHi]
  have k6 : (if (6 : Int) < (p1.Vertices.length : Int) then (6 : Int) else (p1.Vertices.length : Int)) = _ := k6
  have k8 : (if (8 : Int) < (p1.Edges.length : Int) then (8 : Int) else (p1.Edges.length : Int)) = _ := k8
  have k4 : (if (4 : Int) < (p1.Depots.length : Int) then (4 : Int) else (p1.Depots.length : Int)) = _ := k4
  rw [k6, k8, k4, if_pos (by omega), bd_s, if_pos (by omega), bd_s, if_pos (by omega), bd_s, r_ret]
  simp only [Int.toNat_natCast]

theorem matches_true {p1 : Graph} {p2 p5 p6 p7 p8 : Int} {p3 : List A5_Int} {p4 : Bool} (h2 : inI64 p2) (h5 : inI64 p5) (h6 : inI64 p6) (h7 : inI64 p7) (h8 : inI64 p8) (h3 : ∀ a ∈ p3, A5ok a) : (f3 p1 p2 p3 p4 p5 p6 p7 p8).run = some true := by
  obtain ⟨g, hg, H, _⟩ := made_run (p3 := p4) h2 h5 h3
  have hall : ∀ (i : Nat) (x : Graph), ([⟨p1.Vertices.take (min 6 p1.Vertices.length), p1.Edges.take (min 8 p1.Edges.length), p1.Depots.take (min 4 p1.Depots.length)⟩, g] : List Graph)[i]? = some x → Small x ∧ x.Edges.length < 65536 := by
    intro i x hx
    rcases List.mem_cons.1 (List.mem_of_getElem? hx) with rfl | h
    · exact ⟨⟨by simp only [List.length_take]; omega, by simp only [List.length_take]; omega, by simp only [List.length_take]; omega⟩, by simp only [List.length_take]; omega⟩
    · rw [List.mem_singleton.1 h]; exact ⟨H.small, H.e⟩
  simp only [f3]
  rw [r_cl, sane_run, bd_s, r_brr, Bool.not_true, br_f, r_cl, few_run, bd_s, r_cl, hg, bd_s]
  generalize (⟨p1.Vertices.take (min 6 p1.Vertices.length), p1.Edges.take (min 8 p1.Edges.length), p1.Depots.take (min 4 p1.Depots.length)⟩ : Graph) = f at hall ⊢
  obtain ⟨q, hq, rfl⟩ := loop_ix (A := Unit) (f := fun s : Int => (f3.l2 p6 p7 p8 true f g s).run) (n := 2) (fun i _ => (i : Int)) (fun _ _ => True) (fun q => q = .b ())
    (fun i _ hi _ => by
      have hil : i < ([f, g] : List Graph).length := hi
      have hx := List.getElem?_eq_getElem hil
      obtain ⟨a1, a2⟩ := hall i _ hx
      generalize ([f, g] : List Graph)[i] = x at hx a1 a2
      obtain ⟨l, r, c1, c2, c3, c4, c5, c6, c7⟩ := agree a1 a2
      have e0 : decide ((i : Int) < ((L ([f, g] : List Graph) : Nat) : Int)) = true := by rw [L_eq]; exact cast_lt_t hil
      simp only [f3.l2, r_brr, e0, br_t, succ_wr hi (by omega)]
      rw [ck_t ⟨by omega, by rw [L_eq]; exact Int.ofNat_lt.2 hil⟩, at0_nat, rd_s hx, r_cl, c1, bd_s, r_cl, c2, bd_s, r_cl, c3, bd_s, r_cl, c4, bd_s, r_join1, r_brr]
      simp only [bne_self_eq_false, Bool.or_self, br_f]
      rw [r_cl, c5, bd_s, r_brr, Bool.not_true, br_f, r_cl, c6, bd_s, r_ret, Bool.not_true, bd_s, ex_a, r_brr, br_f, r_loop2, twice_run a1 c7 h6 h7 h8, bd_s, ex_b, r_ret]
      exact .inl ⟨(), rfl, trivial⟩)
    (fun _ _ => ⟨_, by
      simp only [f3.l2, r_brr, L_eq]
      rw [show decide (((2 : Nat) : Int) < (([f, g] : List Graph).length : Int)) = false from rfl, br_f, r_ret] <;> rfl, rfl⟩)
    (k := fuel) (by have := fuel_pos; omega) (a := ()) trivial
  have hq : loopN fuel (fun s : Int => (f3.l2 p6 p7 p8 true f g s).run) (0 : Int) = _ := hq
  rw [r_loop2, hq, bd_s, ex_b, r_ret]
end Trd
end Go.Fx.Gen
