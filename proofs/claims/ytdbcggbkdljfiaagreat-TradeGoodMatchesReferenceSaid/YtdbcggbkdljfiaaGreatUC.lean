/- Trade: both checks of a view answer alike. -/
import Derived.Test.YtdbcggbkdljfiaaGreatUB
namespace Go.Fx.Gen
open Go.Fx Go.Proofs
set_option linter.unusedVariables false
namespace Trd
open Go.TT

theorem a3_eq {x : A3_Int} {a b c : Int} : ((x.x0 == a) && ((x.x1 == b) && ((x.x2 == c) && true))) = true ↔ x = ⟨a, b, c⟩ := by
  cases x; simp

theorem goodI_at {v : View} (h : SeenOk v) {e : Edge} (ho : Own v e) : GoodI v ↔ (1 ≤ (ow v).x0 ∧ (ow v).x0 ≤ 24) ∧ (0 ≤ (ow v).x2 ∧ (ow v).x2 ≤ 23) ∧ (∀ e, Bt v e → (tb v e.To).x0 < (ow v).x0) ∧
    (tb v e.To).x0 = (ow v).x0 ∧ cnt v = 1 ∧ (First v → (ow v).x2 = 0) ∧ (¬ First v → (ow v).x2 = IntKind.i64.wrap ((tb v e.To).x2 + 1)) := by
  constructor
  · rintro ⟨h1, h2, h3, h4⟩
    refine ⟨h1, h2, h3, ?_⟩
    rcases h4 with ⟨h5, _⟩ | ⟨e', h5, h6⟩
    · have := (h.p e ho.1.1).nr.1; have := ho.2; omega
    · have : e' = e := id_inj h h5.1.1 ho.1.1 (h5.2.trans ho.2.symm)
      subst this; exact h6
  · rintro ⟨h1, h2, h3, h4⟩
    exact ⟨h1, h2, h3, .inr ⟨e, ho, h4⟩⟩

theorem goodI_none {v : View} (ho : ¬ ∃ e, Own v e) : GoodI v ↔ (1 ≤ (ow v).x0 ∧ (ow v).x0 ≤ 24) ∧ (0 ≤ (ow v).x2 ∧ (ow v).x2 ≤ 23) ∧ (∀ e, Bt v e → (tb v e.To).x0 < (ow v).x0) ∧
    (ow v).x1 = -1 ∧ cnt v = 0 ∧ (ow v).x2 = 0 ∧ First v := by
  constructor
  · rintro ⟨h1, h2, h3, h4⟩
    refine ⟨h1, h2, h3, ?_⟩
    rcases h4 with h5 | ⟨e', h5, h6⟩
    · exact h5
    · exact absurd ⟨e', h5⟩ ho
  · rintro ⟨h1, h2, h3, h4⟩
    exact ⟨h1, h2, h3, .inl h4⟩

theorem good9_run {v : View} (hs : SmallV v) : ∃ b, (f9 v).run = some b ∧ (b = true ↔ GoodV v) := by
  obtain ⟨m, sb, h1, h2, h3⟩ := seen_run hs
  simp only [f9]
  rw [r_cl, h1, bd_s, r_brr]
  cases sb with
  | false =>
    rw [Bool.not_false, br_t, r_ret]
    exact ⟨_, rfl, by simp, fun h => h2.2 h.sn⟩
  | true =>
    have h := h2.1 rfl
    have hm := h3 rfl
    have e0 : (mapGet m v.Vertex.ID).getD (A3_Int.mk 0 0 0) = ow v := by rw [hm]; rfl
    rw [Bool.not_true, br_f, r_look]
    dsimp only
    rw [e0, r_brr]
    by_cases hsd : v.Vertex.Side = 3
    · have gi : GoodV v ↔ GoodI v := ⟨fun g => g.tr hsd, fun g => ⟨h, fun hn => absurd hsd hn, fun _ => g⟩⟩
      rw [show (v.Vertex.Side != 3) = false by simp [hsd], br_f, r_join1]
      have rng : (brr (decide ((ow v).x0 < 1)) (retA' true) (brr (decide ((ow v).x0 > 24)) (retA' true) (brr (decide ((ow v).x2 < 0)) (retA' true) (retA' (decide ((ow v).x2 ≥ 24))))) : Pg (Ex Bool Empty Empty)).run = some (.a (decide (¬ ((1 ≤ (ow v).x0 ∧ (ow v).x0 ≤ 24) ∧ (0 ≤ (ow v).x2 ∧ (ow v).x2 ≤ 23))))) := by
        simp only [r_brr, r_ret, br_dec]
        by_cases a1 : (ow v).x0 < 1
        · rw [if_pos a1, decide_eq_true (by omega)]
        · by_cases a2 : (ow v).x0 > 24
          · rw [if_neg a1, if_pos a2, decide_eq_true (by omega)]
          · by_cases a3 : (ow v).x2 < 0
            · rw [if_neg a1, if_neg a2, if_pos a3, decide_eq_true (by omega)]
            · rw [if_neg a1, if_neg a2, if_neg a3]
              have : ((ow v).x2 ≥ 24) ↔ ¬ ((1 ≤ (ow v).x0 ∧ (ow v).x0 ≤ 24) ∧ (0 ≤ (ow v).x2 ∧ (ow v).x2 ≤ 23)) := by omega
              simp only [this]
      rw [rng, bd_s, ex_a, r_brr]
      by_cases hr : (1 ≤ (ow v).x0 ∧ (ow v).x0 ≤ 24) ∧ (0 ≤ (ow v).x2 ∧ (ow v).x2 ≤ 23)
      · rw [decide_eq_false (fun hn => hn hr), br_f, r_cl, ows_run hs h hm, bd_s]
        obtain ⟨q, hq, hQ⟩ := scan9 hs h hr.1 (b := true) hm
        rw [r_loop2, hq, bd_s]
        rcases hQ with ⟨rfl, e, he, hge⟩ | ⟨n, w, rfl, hlt, hw, hn⟩
        · rw [ex_a, r_ret]
          refine ⟨_, rfl, by simp, fun g => ?_⟩
          have := (gi.1 g).lt e he; omega
        · rw [ex_b, r_loop1, cnt_run hs (b := true) hm, bd_s, ex_a]
          have fw : ((((ow v).x0 == 1) || w) = true) ↔ First v := by unfold First; rw [Bool.or_eq_true, beq_iff_eq, hw]
          rcases hn with ⟨e, he, rfl⟩ | ⟨rfl, hno⟩
          · have hid := (h.p e he.1.1).nr.1
            have hto := (h.p e he.1.1).to.1
            have e1 : (mapGet m e.To).getD (A3_Int.mk 0 0 0) = tb v e.To := by rw [hm]; rfl
            rw [r_brr, show ((ow v).x1 == -1) = false by rw [beq_eq_false_iff_ne, ← he.2]; omega, br_f, r_join1, r_brr, decide_eq_false (by omega), br_f, r_look]
            rw [e1, r_ret, bd_s, ex_a, r_brr, gi, goodI_at h he]
            by_cases c1 : (tb v e.To).x0 = (ow v).x0
            · by_cases c2 : cnt v = 1
              · rw [show (((tb v e.To).x0 != (ow v).x0) || ((cnt v : Int) != 1)) = false by simp [c1, c2], br_f, r_brr]
                cases hf : (((ow v).x0 == 1) || w) with
                | true =>
                  have hf := fw.1 hf
                  rw [br_t, r_ret]
                  refine ⟨_, rfl, ?_⟩
                  rw [beq_iff_eq]
                  exact ⟨fun e => ⟨hr.1, hr.2, hlt, c1, c2, fun _ => e, fun hn => absurd hf hn⟩, fun g => g.2.2.2.2.2.1 hf⟩
                | false =>
                  have hf : ¬ First v := fun g => by rw [fw.2 g] at hf; cases hf
                  rw [br_f, r_look]
                  dsimp only
                  rw [e1, r_ret]
                  refine ⟨_, rfl, ?_⟩
                  rw [beq_iff_eq]
                  exact ⟨fun e => ⟨hr.1, hr.2, hlt, c1, c2, fun g => absurd g hf, fun _ => e⟩, fun g => g.2.2.2.2.2.2 hf⟩
              · rw [show (((tb v e.To).x0 != (ow v).x0) || ((cnt v : Int) != 1)) = true by simp; omega, br_t, r_ret]
                exact ⟨_, rfl, by simp, fun g => absurd g.2.2.2.2.1 c2⟩
            · rw [show (((tb v e.To).x0 != (ow v).x0) || ((cnt v : Int) != 1)) = true by simp [c1], br_t, r_ret]
              exact ⟨_, rfl, by simp, fun g => absurd g.2.2.2.1 c1⟩
          · rw [r_brr, gi, goodI_none hno]
            by_cases c1 : (ow v).x1 = -1
            · rw [show ((ow v).x1 == -1) = true by simp [c1], br_t, r_brr]
              by_cases c2 : cnt v = 0
              · rw [show ((cnt v : Int) == 0) = true by simp [c2], br_t, r_brr]
                by_cases c3 : (ow v).x2 = 0
                · rw [show ((ow v).x2 == 0) = true by simp [c3], br_t, r_ret]
                  refine ⟨_, rfl, fw.trans ⟨fun g => ⟨hr.1, hr.2, hlt, c1, c2, c3, g⟩, fun g => g.2.2.2.2.2.2⟩⟩
                · rw [show ((ow v).x2 == 0) = false by simp [c3], br_f, r_ret]
                  exact ⟨_, rfl, by simp, fun g => absurd g.2.2.2.2.2.1 c3⟩
              · rw [show ((cnt v : Int) == 0) = false by simp; omega, br_f, r_ret]
                exact ⟨_, rfl, by simp, fun g => absurd g.2.2.2.2.1 c2⟩
            · rw [show ((ow v).x1 == -1) = false by simp [c1], br_f, r_join1, r_brr, show decide ((-1 : Int) < 0) = true from rfl, br_t, r_ret, bd_s, ex_a, r_brr, br_t, r_ret]
              exact ⟨_, rfl, by simp, fun g => absurd g.2.2.2.1 c1⟩
      · rw [decide_eq_true hr, br_t, r_ret]
        exact ⟨_, rfl, by simp, fun g => absurd ⟨(gi.1 g).r0, (gi.1 g).r2⟩ hr⟩
    · rw [show (v.Vertex.Side != 3) = true by simp [hsd], br_t, r_ret]
      exact ⟨_, rfl, a3_eq.trans ⟨fun e => ⟨h, fun _ => e, fun hn => absurd hn hsd⟩, fun g => g.no hsd⟩⟩

/-! The reference's check. -/
theorem beq_bool {a b : Bool} : (a == b) = decide (a = b) := by cases a <;> cases b <;> rfl

theorem ok_run {v : View} (hs : SmallV v) (b0 : Bool) : ∃ b, loopN fuel (fun s : Bool × Int => (f11.l1 v s.1 s.2).run) (b0, (0 : Int)) = some (.a b) ∧
    (b = true ↔ b0 = true ∧ ∀ e ∈ v.Edges, (∃ x, thr v.Labels e.From = some x ∧ bnd x) ∧ ∃ x, thr v.Labels e.To = some x ∧ bnd x) := by
  have hse := hs.e
  obtain ⟨q, hq, b, rfl, hb⟩ := loop_ix (A := Bool) (f := fun s : Bool × Int => (f11.l1 v s.1 s.2).run) (n := v.Edges.length) (fun i a => (a, (i : Int)))
    (fun i b => b = true ↔ b0 = true ∧ ∀ e ∈ v.Edges.take i, (∃ x, thr v.Labels e.From = some x ∧ bnd x) ∧ ∃ x, thr v.Labels e.To = some x ∧ bnd x)
    (fun q => ∃ b, q = .a b ∧ (b = true ↔ b0 = true ∧ ∀ e ∈ v.Edges, (∃ x, thr v.Labels e.From = some x ∧ bnd x) ∧ ∃ x, thr v.Labels e.To = some x ∧ bnd x))
    (fun i b hi hb => by
      have hx := List.getElem?_eq_getElem hi
      have htk := List.take_succ_eq_append_getElem hi
      rw [htk]
      generalize v.Edges[i] = e at hx
      simp only [f11.l1, r_brr, L_eq, cast_lt_t hi, br_t, getR_s hx, succ_wr hi (by omega), r_cl, three_run hs, bd_s]
      have all : ∀ (P : Edge → Prop), (∀ x ∈ v.Edges.take i ++ [e], P x) ↔ (∀ x ∈ v.Edges.take i, P x) ∧ P e := fun P => by simp [or_imp, forall_and]
      simp only [all]
      cases h1 : thr v.Labels e.From with
      | none => rw [Bool.and_false, Bool.false_and, br_f, r_ret]; exact .inl ⟨_, rfl, by simp⟩
      | some x =>
        cases h2 : thr v.Labels e.To with
        | none => rw [Bool.and_false, br_f, r_ret]; exact .inl ⟨_, rfl, by simp⟩
        | some y =>
          rw [Bool.and_true, Bool.and_true]
          obtain ⟨b1, k1, k2⟩ := bnd_run x
          obtain ⟨b2, k3, k4⟩ := bnd_run y
          cases b with
          | false =>
            rw [br_f, r_ret]
            refine .inl ⟨_, rfl, by simp, fun ⟨a1, a2, _⟩ => ?_⟩
            exact hb.2 ⟨a1, a2⟩
          | true =>
            obtain ⟨a1, a2⟩ := hb.1 rfl
            dsimp only
            rw [br_t, k1, bd_s]
            cases b1 with
            | false =>
              rw [br_f, r_ret]
              refine .inl ⟨_, rfl, by simp, fun ⟨_, _, ⟨x', e1, e2⟩, _⟩ => ?_⟩
              cases e1; exact k2.2 e2
            | true =>
              rw [br_t, k3, bd_s, r_ret]
              refine .inl ⟨_, rfl, fun g => ⟨a1, a2, ⟨x, rfl, k2.1 rfl⟩, y, rfl, k4.1 g⟩, fun ⟨_, _, _, y', e1, e2⟩ => ?_⟩
              cases e1; exact k4.2 e2)
    (fun b hb => by
      rw [List.take_length] at hb
      exact ⟨.a b, by simp only [f11.l1, r_brr, L_eq, cast_lt_f (Nat.lt_irrefl _), br_f, r_ret], b, rfl, hb⟩)
    (k := fuel) (by have := fuel_pos; omega) (a := b0) (by simp)
  exact ⟨b, hq, hb⟩

abbrev none0 : Edge := Edge.mk (-1) 0 0 false 0 0

theorem own_scan {v : View} (hs : SmallV v) (h : SeenOk v) (hr : 1 ≤ (ow v).x0) :
    ∃ q, loopN fuel (fun s : Int × Int × Int × Edge => (f11.l2 v (ow v, true) s.1 s.2.1 s.2.2.1 s.2.2.2).run) ((0 : Int), (0 : Int), (0 : Int), none0) = some q ∧
      ((q = .a false ∧ ∃ e, Own v e ∧ (tb v e.To).x0 ≠ (ow v).x0) ∨ ∃ a mn, q = .b (a, (cnt v : Int), mn) ∧
        ((Own v mn ∧ (tb v mn.To).x0 = (ow v).x0 ∧ a = (tb v mn.To).x2) ∨ (mn = none0 ∧ ¬ ∃ e, Own v e))) := by
  have hse := hs.e
  refine loop_ix (A := Int × Int × Edge) (f := fun s : Int × Int × Int × Edge => (f11.l2 v (ow v, true) s.1 s.2.1 s.2.2.1 s.2.2.2).run) (n := v.Edges.length) (fun i a => (a.1, a.2.1, (i : Int), a.2.2))
    (fun i a => a.2.1 = (((v.Edges.take i).filter (gv v)).length : Int) ∧ ((Own v a.2.2 ∧ (tb v a.2.2.To).x0 = (ow v).x0 ∧ a.1 = (tb v a.2.2.To).x2) ∨ (a.2.2 = none0 ∧ ∀ e ∈ v.Edges.take i, ¬ Own v e))) _
    (fun i a hi ⟨hc, ha⟩ => ?_) (fun a ⟨hc, ha⟩ => ?_) (k := fuel) (by have := fuel_pos; omega) (a := ((0 : Int), (0 : Int), none0)) ⟨by simp, .inr ⟨rfl, by simp⟩⟩
  · obtain ⟨af, c, mn⟩ := a
    dsimp only at hc ha ⊢
    have hx := List.getElem?_eq_getElem hi
    have hm : v.Edges[i] ∈ v.Edges := List.getElem_mem hi
    have hcb : 0 ≤ c ∧ c ≤ i := by rw [hc]; exact ⟨by omega, Int.ofNat_le.2 (Nat.le_trans (List.length_filter_le ..) (by simp; omega))⟩
    have ht : ((((v.Edges.take (i + 1)).filter (gv v)).length : Nat) : Int) = if gv v v.Edges[i] = true then c + 1 else c := by
      rw [List.take_succ_eq_append_getElem hi, List.filter_append, List.length_append, hc]
      by_cases h : gv v v.Edges[i] = true <;> simp [h]
    rw [ht, List.take_succ_eq_append_getElem hi]
    generalize v.Edges[i] = e at hx hm
    have all : ∀ (P : Edge → Prop), (∀ x ∈ v.Edges.take i ++ [e], P x) ↔ (∀ x ∈ v.Edges.take i, P x) ∧ P e := fun P => by simp [or_imp, forall_and]
    simp only [all]
    have hp := h.p e hm
    simp only [f11.l2, r_brr, L_eq, cast_lt_t hi, br_t, getR_s hx, succ_wr hi (by omega), r_cl, three_run hs, from_thr h hm, to_thr h hm, bd_s, r_join1, r_join2, Bool.not_true, Bool.or_false, br_f, r_ret, wr (show -9223372036854775808 ≤ c + 1 ∧ c + 1 ≤ 9223372036854775807 by omega)]
    -- an edge between traders
    by_cases hd : e.Directed = true ∧ e.From ≠ e.To ∧ 1 ≤ (tb v e.From).x0 ∧ 1 ≤ (tb v e.To).x0
    · obtain ⟨d1, d2, d3, d4⟩ := hd
      rw [d1, Bool.not_true, br_f, show (e.From == e.To) = false by simp [d2], br_f, decide_eq_false (show ¬ (tb v e.From).x0 < 1 by omega), br_f, bd_s, ex_a, decide_eq_false (show ¬ (tb v e.To).x0 < 1 by omega), br_f]
      by_cases f1 : e.From = v.Vertex.ID
      · have g0 : gv v e = false := by
          unfold gv
          rw [show (e.From != v.Vertex.ID) = false by simp [f1]]; simp
        have v1 : vw v e = true := vw_iff.2 ⟨d1, f1, fun hh => d2 (f1.trans hh.symm), d4⟩
        have t0 : (e.To == v.Vertex.ID) = false := beq_eq_false_iff_ne.2 fun hh => d2 (f1.trans hh.symm)
        rw [show (e.From == v.Vertex.ID) = true by simp [f1], br_t, bd_s, ex_a, t0]
        by_cases i1 : e.ID = (ow v).x1
        · have ho : Own v e := ⟨⟨hm, v1⟩, i1⟩
          rw [show (e.ID == (ow v).x1) = true by simp [i1], br_t]
          by_cases r1 : (tb v e.To).x0 = (ow v).x0
          · rw [show ((tb v e.To).x0 != (ow v).x0) = false by simp [r1], br_f, bd_s, ex_b, br_f]
            exact .inl ⟨(_, _, _), rfl, by rw [g0]; rfl, .inl ⟨ho, r1, rfl⟩⟩
          · rw [show ((tb v e.To).x0 != (ow v).x0) = true by simp [r1], br_t, bd_s, ex_a]
            exact .inr ⟨_, rfl, .inl ⟨rfl, e, ho, r1⟩⟩
        · rw [show (e.ID == (ow v).x1) = false by simp [i1], br_f, bd_s, ex_b, br_f]
          refine .inl ⟨(af, c, mn), rfl, by rw [g0]; rfl, ?_⟩
          rcases ha with ha | ⟨ha, hn⟩
          · exact .inl ha
          · exact .inr ⟨ha, hn, fun ho => i1 ho.2⟩
      · have t1 : e.To = v.Vertex.ID := by rcases hp.at_ with hh | hh; exact absurd hh f1; exact hh
        have ho : ¬ Own v e := fun ho => f1 (vw_iff.1 ho.1.2).2.1
        have hst : (Own v mn ∧ (tb v mn.To).x0 = (ow v).x0 ∧ af = (tb v mn.To).x2) ∨ (mn = none0 ∧ (∀ e ∈ v.Edges.take i, ¬ Own v e) ∧ ¬ Own v e) := by
          rcases ha with ha | ⟨ha, hn⟩
          · exact .inl ha
          · exact .inr ⟨ha, hn, ho⟩
        rw [show (e.From == v.Vertex.ID) = false by simp [f1], br_f, bd_s, ex_a, br_f, bd_s, ex_b, show (e.To == v.Vertex.ID) = true by simp [t1], br_t]
        by_cases g1 : (tb v e.From).x1 = e.ID
        · have g2 : gv v e = true := by unfold gv; simp [d1, t1, f1, d3, g1]
          rw [show ((tb v e.From).x1 == e.ID) = true by simp [g1], br_t]
          exact .inl ⟨(af, c + 1, mn), rfl, by rw [g2]; rfl, hst⟩
        · have g2 : gv v e = false := by unfold gv; simp [g1]
          rw [show ((tb v e.From).x1 == e.ID) = false by simp [g1], br_f]
          exact .inl ⟨(af, c, mn), rfl, by rw [g2]; rfl, hst⟩
    · have ho : ¬ Own v e := fun ho => by
        obtain ⟨w1, w2, w3, w4⟩ := vw_iff.1 ho.1.2
        exact hd ⟨w1, fun hh => w3 (hh.symm.trans w2), by rw [w2]; exact hr, w4⟩
      have g2 : gv v e = false := by
        cases hg : gv v e with
        | false => rfl
        | true =>
          unfold gv at hg
          simp at hg
          obtain ⟨w1, w2, w3, w4, w5⟩ := hg
          exact absurd ⟨w1, fun hh => w3 (hh.trans w2), w4, by rw [w2]; exact hr⟩ hd
      have hst : (Own v mn ∧ (tb v mn.To).x0 = (ow v).x0 ∧ af = (tb v mn.To).x2) ∨ (mn = none0 ∧ (∀ e ∈ v.Edges.take i, ¬ Own v e) ∧ ¬ Own v e) := by
        rcases ha with ha | ⟨ha, hn⟩
        · exact .inl ha
        · exact .inr ⟨ha, hn, ho⟩
      have hb : (br (!e.Directed) (some (.a true)) (br (e.From == e.To) (some (.a true)) (br (decide ((tb v e.From).x0 < 1)) (some (.a true)) (some (.a (decide ((tb v e.To).x0 < 1)))))) : Option (Ex Bool Empty Empty)) = some (.a true) := by
        by_cases d1 : e.Directed = true
        · by_cases d2 : e.From = e.To
          · rw [d1, Bool.not_true, br_f, show (e.From == e.To) = true by simp [d2], br_t]
          · by_cases d3 : 1 ≤ (tb v e.From).x0
            · rw [d1, Bool.not_true, br_f, show (e.From == e.To) = false by simp [d2], br_f, decide_eq_false (show ¬ (tb v e.From).x0 < 1 by omega), br_f, decide_eq_true (show (tb v e.To).x0 < 1 from by
                apply Classical.byContradiction; intro hh; exact hd ⟨d1, d2, d3, by omega⟩)]
            · rw [d1, Bool.not_true, br_f, show (e.From == e.To) = false by simp [d2], br_f, decide_eq_true (show (tb v e.From).x0 < 1 by omega), br_t]
        · rw [show e.Directed = false by simpa using d1, Bool.not_false, br_t]
      rw [hb, bd_s, ex_a, br_t]
      exact .inl ⟨(af, c, mn), rfl, by rw [g2]; rfl, hst⟩
  · obtain ⟨af, c, mn⟩ := a
    dsimp only at hc ha ⊢
    rw [List.take_length] at hc ha
    subst hc
    refine ⟨_, by simp only [f11.l2, r_brr, L_eq, cast_lt_f (Nat.lt_irrefl _), br_f, r_ret]; rfl, .inr ⟨af, mn, rfl, ?_⟩⟩
    rcases ha with ha | ⟨ha, hn⟩
    · exact .inl ha
    · exact .inr ⟨ha, fun ⟨e, he⟩ => hn e he.1.1 he⟩

theorem bet_run (a b : Edge) : (f42 a b).run = some (bet a b) := better_run a b

theorem wait_scan {v : View} (hs : SmallV v) (h : SeenOk v) (hr : 1 ≤ (ow v).x0) (x : Int × Int × Edge) (hb : ∀ e ∈ v.Edges, vw v e = true → (bet e x.2.2 = true ↔ Bt v e)) :
    ∃ q, loopN fuel (fun s : Bool × Int => (f11.l3 v (ow v, true) x s.1 s.2).run) (false, (0 : Int)) = some q ∧
      ((q = .a false ∧ ∃ e, Bt v e ∧ (ow v).x0 ≤ (tb v e.To).x0) ∨ ∃ w, q = .b w ∧ (∀ e, Bt v e → (tb v e.To).x0 < (ow v).x0) ∧ (w = true ↔ Waits v)) := by
  have hse := hs.e
  have ho := own_bnd h
  refine loop_ix (A := Bool) (f := fun s : Bool × Int => (f11.l3 v (ow v, true) x s.1 s.2).run) (n := v.Edges.length) (fun i w => (w, (i : Int)))
    (fun i w => (∀ e ∈ v.Edges.take i, Bt v e → (tb v e.To).x0 < (ow v).x0) ∧ (w = true ↔ ∃ e ∈ v.Edges.take i, Bt v e ∧ (tb v e.To).x0 = (ow v).x0 - 1)) _
    (fun i w hi ⟨h1, h2⟩ => ?_) (fun w ⟨h1, h2⟩ => ?_) (k := fuel) (by have := fuel_pos; omega) (a := false) ⟨by simp, by simp⟩
  · have hx := List.getElem?_eq_getElem hi
    have hm : v.Edges[i] ∈ v.Edges := List.getElem_mem hi
    rw [List.take_succ_eq_append_getElem hi]
    generalize v.Edges[i] = e at hx hm
    have all : ∀ (P : Edge → Prop), (∀ x ∈ v.Edges.take i ++ [e], P x) ↔ (∀ x ∈ v.Edges.take i, P x) ∧ P e := fun P => by simp [or_imp, forall_and]
    have ex : ∀ (P : Edge → Prop), (∃ x ∈ v.Edges.take i ++ [e], P x) ↔ (∃ x ∈ v.Edges.take i, P x) ∨ P e := fun P => by
      constructor
      · rintro ⟨x, hx, hp⟩
        rcases List.mem_append.1 hx with h | h
        · exact .inl ⟨x, h, hp⟩
        · have : x = e := by simpa using h
          subst this; exact .inr hp
      · rintro (⟨x, hx, hp⟩ | hp)
        · exact ⟨x, List.mem_append_left _ hx, hp⟩
        · exact ⟨e, by simp, hp⟩
    simp only [all, ex]
    simp only [f11.l3, r_brr, L_eq, cast_lt_t hi, br_t, getR_s hx, succ_wr hi (by omega), r_cl, three_run hs, to_thr h hm, bet_run, bd_s, r_join1, Bool.not_true, br_f, r_ret]
    have hc : (br (!e.Directed) (some (.a true)) (br (e.From != v.Vertex.ID) (some (.a true)) (br (e.To == v.Vertex.ID) (some (.a true)) (br (decide ((tb v e.To).x0 < 1)) (some (.a true)) (some (.a (!bet e x.2.2)))))) : Option (Ex Bool Empty Empty)) = some (.a (!(vw v e && bet e x.2.2))) := by
      unfold vw
      have : decide ((tb v e.To).x0 < 1) = !decide ((tb v e.To).x0 ≥ 1) := by
        by_cases h : (tb v e.To).x0 < 1
        · rw [decide_eq_true h, decide_eq_false (by omega)]; rfl
        · rw [decide_eq_false h, decide_eq_true (by omega)]; rfl
      rw [this]
      have h2 : (e.From != v.Vertex.ID) = !(e.From == v.Vertex.ID) := rfl
      have h3 : (e.To != v.Vertex.ID) = !(e.To == v.Vertex.ID) := rfl
      rw [h2, h3]
      cases e.Directed <;> cases (e.From == v.Vertex.ID) <;> cases (e.To == v.Vertex.ID) <;> cases decide ((tb v e.To).x0 ≥ 1) <;> rfl
    rw [hc, bd_s, ex_a]
    have hbt : (vw v e && bet e x.2.2) = true ↔ Bt v e := by
      rw [Bool.and_eq_true]
      constructor
      · rintro ⟨a, b⟩; exact (hb e hm a).1 b
      · intro g; exact ⟨g.1.2, (hb e hm g.1.2).2 g⟩
    cases hv : (vw v e && bet e x.2.2) with
    | false =>
      have hn : ¬ Bt v e := fun g => by rw [hbt.2 g] at hv; cases hv
      rw [Bool.not_false, br_t]
      refine .inl ⟨w, rfl, ⟨h1, fun g => absurd g hn⟩, h2.trans ⟨.inl, ?_⟩⟩
      rintro (g | g)
      · exact g
      · exact absurd g.1 hn
    | true =>
      have hy := hbt.1 hv
      have hbd := to_bnd h hm
      rw [Bool.not_true, br_f]
      by_cases e2 : (tb v e.To).x0 ≥ (ow v).x0
      · rw [decide_eq_true e2, br_t]
        exact .inr ⟨_, rfl, .inl ⟨rfl, e, hy, e2⟩⟩
      · rw [decide_eq_false e2, br_f]
        cases w with
        | true =>
          rw [br_t]
          exact .inl ⟨true, rfl, ⟨h1, fun _ => by omega⟩, fun _ => .inl (h2.1 rfl), fun _ => rfl⟩
        | false =>
          rw [br_f]
          refine .inl ⟨_, rfl, ⟨h1, fun _ => by omega⟩, ?_⟩
          rw [beq_iff_eq, wr (by unfold bnd at ho; omega)]
          constructor
          · intro g; exact .inr ⟨hy, g⟩
          · rintro (g | g)
            · have := h2.2 g; cases this
            · exact g.2
  · rw [List.take_length] at h1 h2
    refine ⟨_, by simp only [f11.l3, r_brr, L_eq, cast_lt_f (Nat.lt_irrefl _), br_f, r_ret], .inr ⟨w, rfl, fun e he => h1 e he.1.1 he, h2.trans ⟨?_, ?_⟩⟩⟩
    · rintro ⟨e, _, g⟩; exact ⟨e, g⟩
    · rintro ⟨e, g⟩; exact ⟨e, g.1.1.1, g⟩

def y39 (v : View) (id : Int) : A3_Int × Bool := ((thr v.Labels id).getD ⟨0, 0, 0⟩, (thr v.Labels id).isSome)
theorem three_run' {v : View} (hs : SmallV v) (id : Int) : (f39 v id).run = some (y39 v id) := by
  rw [three_run hs]; unfold y39; cases thr v.Labels id <;> rfl

theorem good11_run {v : View} (hs : SmallV v) : ∃ b, (f11 v).run = some b ∧ (b = true ↔ GoodV v) := by
  simp only [f11]
  rw [r_cl, three_run' hs, bd_s, r_join1]
  have fst : ∀ y2 : A3_Int × Bool, y2 = y39 v v.Vertex.ID → ∃ b, (brr y2.2 (cl (f40.ok v) fun y3 => brr y3 (cl (f41.ok ([y2.1.x0, y2.1.x1, y2.1.x2] : List Int)) fun y4 => retA' y4) (retA' false)) (retA' false) : Pg (Ex Bool Empty Empty)).run = some (.a b) ∧
      (b = true ↔ (∃ x, thr v.Labels v.Vertex.ID = some x ∧ bnd x) ∧ Dist v.Edges ∧ ∀ e ∈ v.Edges, PropE e v.Vertex.ID) := by
    rintro y2 rfl
    unfold y39
    cases h1 : thr v.Labels v.Vertex.ID with
    | none => exact ⟨false, rfl, by simp⟩
    | some x =>
      dsimp only [Option.getD_some, Option.isSome_some]
      obtain ⟨b1, k1, k2⟩ := proper_run hs
      obtain ⟨b2, k3, k4⟩ := bnd_run x
      rw [r_brr, br_t, r_cl, k1, bd_s, r_brr]
      cases b1 with
      | false => rw [br_f, r_ret]; exact ⟨_, rfl, by simp, fun g => k2.2 g.2⟩
      | true =>
        rw [br_t, r_cl, k3, bd_s, r_ret]
        exact ⟨_, rfl, fun g => ⟨⟨x, rfl, k4.1 g⟩, k2.1 rfl⟩, fun ⟨⟨x', e1, e2⟩, _⟩ => by cases e1; exact k4.2 e2⟩
  obtain ⟨b0, h0, h1⟩ := fst _ rfl
  rw [h0, bd_s, ex_a]
  obtain ⟨b, h2, h3⟩ := ok_run hs b0
  rw [r_loop1, h2, bd_s, ex_a, r_brr]
  have hsn : b = true ↔ SeenOk v := h3.trans ⟨fun ⟨a1, a2⟩ => by obtain ⟨c1, c2, c3⟩ := h1.1 a1; exact ⟨c2, c3, c1, a2⟩, fun g => ⟨h1.2 ⟨g.own, g.d, g.p⟩, g.ends⟩⟩
  cases b with
  | false =>
    rw [Bool.not_false, br_t, r_ret]
    exact ⟨_, rfl, by simp, fun g => hsn.2 g.sn⟩
  | true =>
    have h := hsn.1 rfl
    rw [Bool.not_true, br_f, show y39 v v.Vertex.ID = (ow v, true) by unfold y39; rw [own_thr h]; rfl]
    dsimp only
    rw [r_brr]
    by_cases hsd : v.Vertex.Side = 3
    · have gi : GoodV v ↔ GoodI v := ⟨fun g => g.tr hsd, fun g => ⟨h, fun hn => absurd hsd hn, fun _ => g⟩⟩
      rw [show (v.Vertex.Side != 3) = false by simp [hsd], br_f, r_join1]
      have rng : (brr (decide ((ow v).x0 < 1)) (retA' true) (brr (decide ((ow v).x0 > 24)) (retA' true) (brr (decide ((ow v).x2 < 0)) (retA' true) (brr (decide ((ow v).x2 > 23)) (retA' true) (retA' (decide ((ow v).x1 < -1)))))) : Pg (Ex Bool Empty Empty)).run = some (.a (decide (¬ (((1 ≤ (ow v).x0 ∧ (ow v).x0 ≤ 24) ∧ (0 ≤ (ow v).x2 ∧ (ow v).x2 ≤ 23)) ∧ -1 ≤ (ow v).x1)))) := by
        simp only [r_brr, r_ret, br_dec]
        by_cases a1 : (ow v).x0 < 1
        · rw [if_pos a1, decide_eq_true (by omega)]
        · by_cases a2 : (ow v).x0 > 24
          · rw [if_neg a1, if_pos a2, decide_eq_true (by omega)]
          · by_cases a3 : (ow v).x2 < 0
            · rw [if_neg a1, if_neg a2, if_pos a3, decide_eq_true (by omega)]
            · by_cases a4 : (ow v).x2 > 23
              · rw [if_neg a1, if_neg a2, if_neg a3, if_pos a4, decide_eq_true (by omega)]
              · rw [if_neg a1, if_neg a2, if_neg a3, if_neg a4]
                have : ((ow v).x1 < -1) ↔ ¬ (((1 ≤ (ow v).x0 ∧ (ow v).x0 ≤ 24) ∧ (0 ≤ (ow v).x2 ∧ (ow v).x2 ≤ 23)) ∧ -1 ≤ (ow v).x1) := by omega
                simp only [this]
      rw [rng, bd_s, ex_a, r_brr]
      by_cases hr : ((1 ≤ (ow v).x0 ∧ (ow v).x0 ≤ 24) ∧ (0 ≤ (ow v).x2 ∧ (ow v).x2 ≤ 23)) ∧ -1 ≤ (ow v).x1
      · rw [decide_eq_false (fun hn => hn hr), br_f]
        obtain ⟨q, hq, hQ⟩ := own_scan hs h hr.1.1.1
        rw [r_loop2, hq, bd_s]
        rcases hQ with ⟨rfl, e, he, hne⟩ | ⟨a, mn, rfl, hmn⟩
        · rw [ex_a, r_ret]
          refine ⟨_, rfl, by simp, fun g => ?_⟩
          exact absurd ((goodI_at h he).1 (gi.1 g)).2.2.2.1 hne
        · rw [ex_b, r_join1]
          dsimp only
          have hbt : ∀ e ∈ v.Edges, vw v e = true → (bet e mn = true ↔ Bt v e) := by
            intro e he hv
            have hid := (h.p e he).nr.1
            rcases hmn with ⟨ho, _, _⟩ | ⟨rfl, hno⟩
            · rw [bet_elt hid (h.p mn ho.1.1).nr.1]
              exact ⟨fun g => ⟨⟨he, hv⟩, fun e' he' hv' hi' => by rw [id_inj h he' ho.1.1 (hi'.trans ho.2.symm)]; exact g⟩, fun g => g.2 mn ho.1.1 ho.1.2 ho.2⟩
            · rw [bet_alone hid (show (none0).ID < 0 from (by decide : (-1 : Int) < 0))]
              exact ⟨fun _ => ⟨⟨he, hv⟩, fun e' he' hv' hi' => absurd ⟨e', ⟨he', hv'⟩, hi'⟩ hno⟩, fun _ => rfl⟩
          have rest : ∀ (a : Int) (mn : Edge), (∀ e ∈ v.Edges, vw v e = true → (bet e mn = true ↔ Bt v e)) → ∃ q, loopN fuel (fun s : Bool × Int => (f11.l3 v (ow v, true) (a, (cnt v : Int), mn) s.1 s.2).run) (false, (0 : Int)) = some q ∧
              ((q = .a false ∧ ∃ e, Bt v e ∧ (ow v).x0 ≤ (tb v e.To).x0) ∨ ∃ w, q = .b w ∧ (∀ e, Bt v e → (tb v e.To).x0 < (ow v).x0) ∧ (w = true ↔ Waits v)) := fun a mn hb => wait_scan hs h hr.1.1.1 (a, (cnt v : Int), mn) hb
          rcases hmn with ⟨ho, hx0, ha⟩ | ⟨hmn, hno⟩
          · have hid := (h.p mn ho.1.1).nr.1
            have hx1 : 0 ≤ (ow v).x1 := by rw [← ho.2]; exact hid
            rw [r_brr, show (mn.ID != (ow v).x1) = false by simp [ho.2], br_f, r_brr, decide_eq_false (show ¬ (ow v).x1 < 0 by omega), Bool.false_and, br_f, r_ret, bd_s, ex_a, decide_eq_true (show (ow v).x1 ≥ 0 by omega), Bool.true_and, r_brr, gi, goodI_at h ho]
            by_cases c2 : cnt v = 1
            · rw [show ((cnt v : Int) != 1) = false by simp [c2], br_f, r_loop2]
              obtain ⟨q, hq, hQ⟩ := rest a mn hbt
              rw [hq, bd_s]
              rcases hQ with ⟨rfl, e, he, hge⟩ | ⟨w, rfl, hlt, hw⟩
              · rw [ex_a, r_ret]
                refine ⟨_, rfl, by simp, fun g => ?_⟩
                have := g.2.2.1 e he; omega
              · rw [ex_b, r_brr]
                have fw : ((((ow v).x0 == 1) || w) = true) ↔ First v := by unfold First; rw [Bool.or_eq_true, beq_iff_eq, hw]
                cases hf : (((ow v).x0 == 1) || w) with
                | true =>
                  have hf := fw.1 hf
                  rw [br_t, r_ret]
                  refine ⟨_, rfl, ?_⟩
                  rw [beq_iff_eq]
                  exact ⟨fun e => ⟨hr.1.1, hr.1.2, hlt, hx0, c2, fun _ => e, fun hn => absurd hf hn⟩, fun g => g.2.2.2.2.2.1 hf⟩
                | false =>
                  have hf : ¬ First v := fun g => by rw [fw.2 g] at hf; cases hf
                  rw [br_f, r_brr, br_t, r_ret]
                  refine ⟨_, rfl, ?_⟩
                  rw [beq_iff_eq, ha]
                  exact ⟨fun e => ⟨hr.1.1, hr.1.2, hlt, hx0, c2, fun g => absurd g hf, fun _ => e⟩, fun g => g.2.2.2.2.2.2 hf⟩
            · rw [show ((cnt v : Int) != 1) = true by simp; omega, br_t, r_ret]
              exact ⟨_, rfl, by simp, fun g => absurd g.2.2.2.2.1 c2⟩
          · rw [gi, goodI_none hno]
            subst hmn
            by_cases c1 : (ow v).x1 = -1
            · rw [r_brr, show ((none0).ID != (ow v).x1) = false by simp [c1], br_f, r_brr, decide_eq_true (show (ow v).x1 < 0 by omega), Bool.true_and]
              by_cases c2 : cnt v = 0
              · rw [show ((cnt v : Int) != 0) = false by simp [c2], br_f, r_ret, bd_s, ex_a, decide_eq_false (show ¬ (ow v).x1 ≥ 0 by omega), Bool.false_and, r_brr, br_f, r_loop2]
                obtain ⟨q, hq, hQ⟩ := rest a none0 hbt
                rw [hq, bd_s]
                rcases hQ with ⟨rfl, e, he, hge⟩ | ⟨w, rfl, hlt, hw⟩
                · rw [ex_a, r_ret]
                  refine ⟨_, rfl, by simp, fun g => ?_⟩
                  have := g.2.2.1 e he; omega
                · rw [ex_b, r_brr]
                  have fw : ((((ow v).x0 == 1) || w) = true) ↔ First v := by unfold First; rw [Bool.or_eq_true, beq_iff_eq, hw]
                  cases hf : (((ow v).x0 == 1) || w) with
                  | true =>
                    have hf := fw.1 hf
                    rw [br_t, r_ret]
                    refine ⟨_, rfl, ?_⟩
                    rw [beq_iff_eq]
                    exact ⟨fun e => ⟨hr.1.1, hr.1.2, hlt, c1, c2, e, hf⟩, fun g => g.2.2.2.2.2.1⟩
                  | false =>
                    have hf : ¬ First v := fun g => by rw [fw.2 g] at hf; cases hf
                    rw [br_f, r_brr, br_f, r_ret]
                    exact ⟨_, rfl, by simp, fun g => absurd g.2.2.2.2.2.2 hf⟩
              · rw [show ((cnt v : Int) != 0) = true by simp; omega, br_t, r_ret, bd_s, ex_a, r_brr, br_t, r_ret]
                exact ⟨_, rfl, by simp, fun g => absurd g.2.2.2.2.1 c2⟩
            · rw [r_brr, show ((none0).ID != (ow v).x1) = true by simp; omega, br_t, r_ret, bd_s, ex_a, r_brr, br_t, r_ret]
              exact ⟨_, rfl, by simp, fun g => absurd g.2.2.2.1 c1⟩
      · rw [decide_eq_true hr, br_t, r_ret]
        refine ⟨_, rfl, by simp, fun g => ?_⟩
        have g := gi.1 g
        refine absurd ⟨⟨g.r0, g.r2⟩, ?_⟩ hr
        rcases g.nx with ⟨g1, _⟩ | ⟨e, g1, _⟩
        · omega
        · have := (h.p e g1.1.1).nr.1; have := g1.2; omega
    · rw [show (v.Vertex.Side != 3) = true by simp [hsd], br_t, r_ret]
      exact ⟨_, rfl, a3_eq.trans ⟨fun e => ⟨h, fun _ => e, fun hn => absurd hn hsd⟩, fun g => g.no hsd⟩⟩

theorem good_same {v : View} (hs : SmallV v) : ∃ b, (f9 v).run = some b ∧ (f11 v).run = some b := by
  obtain ⟨b1, h1, h2⟩ := good9_run hs
  obtain ⟨b2, h3, h4⟩ := good11_run hs
  have : b1 = b2 := by rw [Bool.eq_iff_iff, h2, h4]
  subst this
  exact ⟨_, h1, h3⟩
end Trd
end Go.Fx.Gen
