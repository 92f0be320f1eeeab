/- The law TradeGoodMatchesReference: whatever the view and the integers, the program answers true. -/
import Derived.Test.YtdbcggbkdljfiaaGreatUD
namespace Go.Fx.Gen
open Go.Fx Go.Proofs
set_option linter.unusedVariables false
namespace Trd
open Go.TT
variable {g : Graph}

theorem each_run (hs : Small g) (he : g.Edges.length < 65536) {l : List Named} (hl : LabOk l) : loopN fuel (fun s => (f3.l1 g l s).run) (0 : Int) = some (.b ()) := by
  have hsv := hs.v
  obtain ⟨q, hq, rfl⟩ := loop_ix (A := Unit) (f := fun s => (f3.l1 g l s).run) (n := g.Vertices.length) (fun i _ => (i : Int)) (fun _ _ => True) (fun q => q = .b ())
    (fun i _ hi _ => by
      obtain ⟨v, v1, v2⟩ := view_run hs he hl g.Vertices[i].ID
      obtain ⟨b, b1, b2⟩ := good_same v2
      obtain ⟨n, n1, n2⟩ := count_same v2
      simp only [f3.l1, r_brr, L_eq, cast_lt_t hi, br_t, getR_s (List.getElem?_eq_getElem hi), succ_wr hi (by omega), r_cl, v1, bd_s, b1, b2, n1, n2, beq_self_eq_true, bne_self_eq_false, Bool.not_true, br_f, r_ret]
      first | exact .inl ⟨(), rfl, trivial⟩ | exact .inl ⟨(), trivial, trivial⟩)
    (fun _ _ => ⟨.b (), by simp only [f3.l1, r_brr, L_eq, cast_lt_f (Nat.lt_irrefl _), br_f, r_ret], rfl⟩)
    (k := fuel) (by have := fuel_pos; omega) (a := ()) trivial
  exact hq

theorem three_lists (hs : Small g) (he : g.Edges.length < 65536) {a b c : List Named} {n : Int} (ha : LabOk a) (hb : LabOk b) (hc : LabOk c) :
    loopN fuel (fun s => (f3.l2 true g (a, n) b c s).run) (0 : Int) = some (.b ()) := by
  obtain ⟨q, hq, rfl⟩ := loop_ix (A := Unit) (f := fun s => (f3.l2 true g (a, n) b c s).run) (n := 3) (fun i _ => (i : Int)) (fun _ _ => True) (fun q => q = .b ())
    (fun i _ hi _ => by
      have hg : ∃ x, ([a, b, c] : List (List Named))[i]? = some x ∧ LabOk x := by
        match i, hi with
        | 0, _ => exact ⟨a, rfl, ha⟩
        | 1, _ => exact ⟨b, rfl, hb⟩
        | 2, _ => exact ⟨c, rfl, hc⟩
      obtain ⟨x, x1, x2⟩ := hg
      have e3 : ([a, b, c] : List (List Named)).length = 3 := rfl
      simp only [f3.l2, r_brr, L_eq]
      rw [e3, cast_lt_t hi, br_t, ck_t (by omega), at0_nat, rd_s x1, r_loop2, each_run hs he x2, bd_s, ex_b, r_ret, succ_wr hi (by omega)]
      exact .inl ⟨(), rfl, trivial⟩)
    (fun _ _ => ⟨.b (), by simp only [f3.l2, r_brr, L_eq]; rfl, rfl⟩)
    (k := fuel) (by have := fuel_pos; omega) (a := ()) trivial
  exact hq

theorem good_true {p1 : View} {p2 p4 : Int} {p3 : List A5_Int} {p5 p6 p7 : A2_Int} (h2 : inI64 p2) (h4 : inI64 p4) (h3 : ∀ a ∈ p3, A5ok a) (h5 : inI64 p5.x0 ∧ inI64 p5.x1) (h6 : inI64 p6.x0 ∧ inI64 p6.x1) (h7 : inI64 p7.x0 ∧ inI64 p7.x1) :
    (f3 p1 p2 p3 p4 p5 p6 p7).run = some true := by
  obtain ⟨g, g1, H, _⟩ := made_run (p3 := false) h2 h4 h3
  have hsv := H.small.v
  obtain ⟨N, rx, ex, nn, _, _, O⟩ := labels_rounds H
  have hl := rlabels_run H O
  have lo : LabOk (g.Vertices.map fun v => (⟨v.ID, [rx v.ID, ex v.ID, nn v.ID]⟩ : Named)) := ⟨by simpa using hsv, fun x hx => by obtain ⟨v, _, rfl⟩ := List.mem_map.1 hx; simp⟩
  generalize (g.Vertices.map fun v => (⟨v.ID, [rx v.ID, ex v.ID, nn v.ID]⟩ : Named)) = l0 at hl lo
  obtain ⟨w, w1, w2⟩ := cut_run p1
  obtain ⟨b, b1, b2⟩ := good_same w2
  obtain ⟨n, n1, n2⟩ := count_same w2
  obtain ⟨l1, l2, l3⟩ := bent_run lo h5.1 h6.1 h7.1
  obtain ⟨m1, m2, m3⟩ := bent_run l3 h5.2 h6.2 h7.2
  simp only [f3]
  rw [r_cl, sane_run, bd_s, r_brr, Bool.not_true, br_f, r_cl, g1, bd_s, r_cl, hl, bd_s, r_join1, r_brr, show ((0 : Int) != 0) = false from rfl, br_f, r_cl, w1, bd_s, r_cl, b1, bd_s, r_cl, w1, bd_s, r_cl, b2, bd_s, r_brr, beq_self_eq_true, Bool.not_true, br_f,
    r_cl, w1, bd_s, r_cl, n1, bd_s, r_cl, w1, bd_s, r_cl, n2, bd_s, r_ret, bd_s, ex_a, bne_self_eq_false, r_brr, br_f]
  rw [r_cl]
  have l2 : (f14 l0 p5.x0 p6.x0 p7.x0).run = some l1 := l2
  have m2 : (f14 l1 p5.x1 p6.x1 p7.x1).run = some m1 := m2
  rw [l2, bd_s, r_cl, m2, bd_s, r_loop2, three_lists H.small H.e lo l3 m3, bd_s, ex_b, r_ret]
end Trd
end Go.Fx.Gen
