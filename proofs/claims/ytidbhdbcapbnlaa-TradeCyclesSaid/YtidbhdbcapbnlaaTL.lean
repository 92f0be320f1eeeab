/- The law TradeCycles: whatever the integers, the program answers true. -/
import Derived.Test.YtidbhdbcapbnlaaTK
namespace Go.Fx.Gen
open Go.Fx Go.Proofs
set_option linter.unusedVariables false
namespace Trd
open Go.TT
variable {g : Graph} {N : Nat} {rx ex nn : Int → Int}

theorem lvs_nodup (A : List Int) : (lvs (wsh g) A).Nodup := by
  unfold lvs
  refine List.Nodup.sublist (List.filter_sublist ..) ?_
  rw [List.nodup_iff_pairwise_ne, List.pairwise_map]
  exact List.pairwise_lt_range.imp (by intro a b h; omega)
theorem lvs_len (A : List Int) : (lvs (wsh g) A).length ≤ 24 := by unfold lvs; exact Nat.le_trans (List.length_filter_le ..) (by simp)

/-- In which of the rounds one leaves. -/
theorem inner_in (v : Vertex) {k : Nat} {L : List Int} {rs : List (List Int)} (hk : rs[k]? = some L) (hk24 : k < 24) (hn : L.Nodup) (hL : L.length ≤ 24) (i0 : Int) (h0 : 0 ≤ i0 ∧ i0 ≤ 1000) :
    loopN fuel (fun s : Int × Int => (f4.l2 (rs, 0) v (k : Int) s.1 s.2).run) (i0, (0 : Int)) = some (.a (if v.ID ∈ L then i0 + ((k + 1 : Nat) : Int) else i0)) := by
  obtain ⟨q, hq, rfl⟩ := loop_ix (A := Int) (f := fun s : Int × Int => (f4.l2 (rs, 0) v (k : Int) s.1 s.2).run) (n := L.length) (fun i a => (a, (i : Int)))
    (fun i a => a = if v.ID ∈ L.take i then i0 + ((k + 1 : Nat) : Int) else i0) (fun q => q = .a (if v.ID ∈ L then i0 + ((k + 1 : Nat) : Int) else i0))
    (fun i a hi ha => by
      have hx := List.getElem?_eq_getElem hi
      have htk := List.take_succ_eq_append_getElem hi
      have hfresh : L[i] ∉ L.take i := by
        intro h
        obtain ⟨j, hj, e⟩ := List.getElem_of_mem h
        rw [List.length_take] at hj
        rw [List.getElem_take] at e
        rw [List.nodup_iff_pairwise_ne, List.pairwise_iff_getElem] at hn
        exact hn j i (by omega) hi (by omega) e
      generalize L[i] = x at hx htk hfresh
      have w1 : IntKind.i64.wrap (i0 + (k : Int)) = i0 + (k : Int) := wr
      have w2 : IntKind.i64.wrap (i0 + (k : Int) + 1) = i0 + ((k + 1 : Nat) : Int) := Eq.trans wr (by omega)
      simp only [f4.l2]
      rw [getR_s hk]
      simp only [r_brr, L_eq, cast_lt_t hi, br_t, getR_s hk, getR_s hx, succ_wr hi (by omega)]
      by_cases e : x = v.ID
      · have e1 : (x == v.ID) = true := by simp [e]
        rw [if_neg (by rw [← e]; exact hfresh)] at ha
        subst ha
        rw [e1, br_t, r_ret, w1, w2]
        exact .inl ⟨_, rfl, by rw [if_pos]; rw [htk, e]; simp⟩
      · have e1 : (x == v.ID) = false := by simp [e]
        rw [e1, br_f, r_ret]
        refine .inl ⟨a, rfl, ?_⟩
        rw [ha, htk]
        have : v.ID ∈ L.take i ++ [x] ↔ v.ID ∈ L.take i := by
          rw [List.mem_append, List.mem_singleton]
          exact ⟨fun h => h.resolve_right fun h => e h.symm, .inl⟩
        simp only [this])
    (fun a ha => by
      rw [List.take_length] at ha
      subst ha
      refine ⟨.a _, ?_, rfl⟩
      simp only [f4.l2]
      rw [getR_s hk]
      simp only [r_brr, L_eq, cast_lt_f (Nat.lt_irrefl _), br_f, r_ret])
    (k := fuel) (by have := fuel_pos; omega) (a := i0) (by simp)
  exact hq

theorem in_run (H : Ready g) (O : Out g N rx ex nn) {v : Vertex} (hvt : v.ID ∈ trd g) (y5 : Bool) (y7 : List Int × List Int × Bool) (v79 : Int) (x124 : Bool × List Int) :
    loopN fuel (fun s : Int × Int => (f4.l3 y5 g y7 (roundsOf g N, 0) v79 v x124 s.1 s.2).run) ((0 : Int), (0 : Int)) = some (.a (rx v.ID)) := by
  obtain ⟨r, L⟩ := leaves_of O hvt
  have W := more H
  have hrN : r < N := by
    apply Classical.byContradiction
    intro hn
    have := (L.lv.left (trd g) (n := N)).2 (by omega)
    rw [show Sq (nx (wsh g)) (trd g) N = [] from O.last] at this; cases this
  have h24 := O.n24
  have hlen : (roundsOf g N).length = N := by simp [roundsOf]
  obtain ⟨q, hq, rfl⟩ := loop_ix (A := Int) (f := fun s : Int × Int => (f4.l3 y5 g y7 (roundsOf g N, 0) v79 v x124 s.1 s.2).run) (n := N) (fun i a => (a, (i : Int)))
    (fun k a => a = if r < k then rx v.ID else 0) (fun q => q = .a (rx v.ID))
    (fun k a hk ha => by
      have hx : (roundsOf g N)[k]? = some (lvs (wsh g) (SG g k)) := by simp [roundsOf, hk]
      have hc : decide ((k : Int) < (((roundsOf g N).length : Nat) : Int)) = true := by rw [hlen]; simp; exact hk
      have hin := inner_in v hx (by omega) (lvs_nodup _) (lvs_len _) a (by rw [ha]; split <;> (try rw [L.rx]) <;> (have := L.r24; omega))
      simp only [f4.l3, r_brr, L_eq, hc, br_t, succ_wr hk (by omega)]
      rw [r_loop1, hin, bd_s, ex_a, r_ret]
      refine .inl ⟨_, rfl, ?_⟩
      have hm : v.ID ∈ lvs (wsh g) (SG g k) ↔ r = k := by
        rw [mem_lvs W.toWsOk]
        exact ⟨fun h => L.lv.unique h, fun h => by rw [← h]; exact L.lv⟩
      by_cases e : r = k
      · rw [if_pos (hm.2 e), ha, if_neg (by omega), if_pos (by omega), L.rx, e]; omega
      · have : ¬ v.ID ∈ lvs (wsh g) (SG g k) := fun h => e (hm.1 h)
        rw [if_neg this, ha]
        by_cases hlt : r < k
        · rw [if_pos hlt, if_pos (by omega)]
        · rw [if_neg hlt, if_neg (by omega)])
    (fun a ha => by
      have hc : decide ((N : Int) < (((roundsOf g N).length : Nat) : Int)) = false := by rw [hlen]; simp
      rw [if_pos hrN] at ha
      subst ha
      exact ⟨.a (rx v.ID), by simp only [f4.l3, r_brr, L_eq, hc, br_f, r_ret], rfl⟩)
    (k := fuel) (by have := fuel_pos; omega) (a := 0) (by simp)
  exact hq

theorem cycles_true {p1 p4 : Int} {p2 : List A5_Int} {p3 : Bool} (h1 : inI64 p1) (h4 : inI64 p4) (h5 : ∀ a ∈ p2, A5ok a) : (f4 p1 p2 p3 p4).run = some true := by
  obtain ⟨g, hg, H, hne⟩ := made_run (p3 := p3) h1 h4 h5
  obtain ⟨N, rx, ex, nn, hl, hr, O⟩ := labels_rounds H
  have ho := outcome_run H hl
  have hsv := H.small.v
  -- all vertices
  have hvs : loopN fuel (fun s : Int × List Int => (f4.l4 true g (tab24 (tabf g ex), tab24 (tabf g rx), true) (roundsOf g N, 0) s.1 s.2).run) ((0 : Int), List.replicate 24 (0 : Int)) = some (.b (ledt g rx ex (trd g))) := by
    obtain ⟨q, hq, rfl⟩ := loop_ix (A := List Int) (f := fun s : Int × List Int => (f4.l4 true g (tab24 (tabf g ex), tab24 (tabf g rx), true) (roundsOf g N, 0) s.1 s.2).run) (n := g.Vertices.length) (fun i a => ((i : Int), a))
      (fun i a => a = ledt g rx ex (trs (g.Vertices.take i))) (fun q => q = .b (ledt g rx ex (trd g)))
      (fun i a hi ha => by
        have hx := List.getElem?_eq_getElem hi
        have htk := List.take_succ_eq_append_getElem hi
        have hm := List.getElem_mem hi
        have hsub : ∀ u ∈ trs (g.Vertices.take i), u ∈ trd g := by
          intro u hu
          obtain ⟨w, hw, h3, e⟩ := mem_trs.1 hu
          exact mem_trs.2 ⟨w, List.mem_of_mem_take hw, h3, e⟩
        have hnd2 : (trs (g.Vertices.take (i + 1))).Nodup := by
          have : (trs (g.Vertices.take (i + 1))).Sublist (trd g) := by
            unfold trd trs
            exact ((List.take_sublist ..).filter _).map _
          exact (trd_nodup H.gv).sublist this
        have hid := (H.gv.v _ hm).id
        rw [ha]
        simp only [f4.l4, r_brr, L_eq, cast_lt_t hi, br_t, getR_s hx, succ_wr hi (by omega)]
        rw [htk, trs_snoc] at *
        generalize g.Vertices[i] = v at hx hm hid hnd2 ⊢
        by_cases h3 : v.Side = 3
        · have hvt : v.ID ∈ trd g := mem_trs.2 ⟨v, hm, h3, rfl⟩
          rw [if_pos h3] at hnd2 ⊢
          obtain ⟨r, L⟩ := leaves_of O hvt
          have e1 : (v.Side != 3) = false := by simp [h3]
          have gex := get_t H (f := ex) hvt
          have grx := get_t H (f := rx) hvt
          have hown := own_run H O hvt hsub hnd2
          have hin := in_run H O hvt true (tab24 (tabf g ex), tab24 (tabf g rx), true) (i : Int) (true, ledt g rx ex (trs (g.Vertices.take i) ++ [v.ID]))
          rw [e1, br_f, r_cl, refw_run H.small H.gv.va, bd_s, ck_t (by omega), rd_s gex, r_loop2, hown, bd_s, ex_b, r_loop1, hin, bd_s, ex_a]
          have e2 : decide (rx v.ID < 1) = false := by rw [L.rx]; simp; omega
          have e3 : (rx v.ID != rx v.ID) = false := by simp
          simp only [r_brr, Bool.not_true, br_f]
          rw [ck_t (by omega), rd_s grx, r_brr, e2, br_f, ck_t (by omega), rd_s grx, r_brr, e3, br_f, r_ret]
          exact .inl ⟨_, rfl, rfl⟩
        · have e1 : (v.Side != 3) = true := by simp [h3]
          obtain ⟨n1, n2, _⟩ := O.none v hm h3
          have gex : (tab24 (tabf g ex))[v.ID.toNat]? = some (-1) := by rw [tab_get _ (by omega), tabf_v hm hid.1, n2]
          have grx : (tab24 (tabf g rx))[v.ID.toNat]? = some 0 := by rw [tab_get _ (by omega), tabf_v hm hid.1, n1]
          rw [if_neg h3, e1, br_t, r_join1, ck_t (by omega), rd_s grx]
          have e2 : ((0 : Int) != 0) = false := rfl
          have e3 : ((-1 : Int) != (-1)) = false := rfl
          rw [r_brr, e2, br_f, ck_t (by omega), rd_s gex, r_ret, bd_s, ex_a, r_brr, e3, br_f, r_ret]
          exact .inl ⟨_, rfl, rfl⟩)
      (fun a ha => by
        rw [List.take_length] at ha
        subst ha
        exact ⟨.b (ledt g rx ex (trd g)), by simp only [f4.l4, r_brr, L_eq, cast_lt_f (Nat.lt_irrefl _), br_f, r_ret], rfl⟩)
      (k := fuel) (by have := fuel_pos; omega) (a := List.replicate 24 (0 : Int)) (by rw [tab_rep]; rfl)
    exact hq
  -- all numbers
  have hns : loopN fuel (fun s : Int => (f4.l5 (tab24 (tabf g ex), tab24 (tabf g rx), true) (ledt g rx ex (trd g)) s).run) (0 : Int) = some (.b ()) := by
    obtain ⟨q, hq, rfl⟩ := loop_ix (A := Unit) (f := fun s : Int => (f4.l5 (tab24 (tabf g ex), tab24 (tabf g rx), true) (ledt g rx ex (trd g)) s).run) (n := 24) (fun i _ => (i : Int))
      (fun _ _ => True) (fun q => q = .b ())
      (fun i _ hi _ => by
        have g1 : (ledt g rx ex (trd g))[((i : Int)).toNat]? = some ((led g rx ex (trd g) (i : Int) : Nat) : Int) := by rw [tab_get _ (by omega)]; simp
        have g2 : (tab24 (tabf g rx))[((i : Int)).toNat]? = some (tabf g rx i) := by rw [tab_get _ (by omega)]; simp
        have g3 : (tab24 (tabf g ex))[((i : Int)).toNat]? = some (tabf g ex i) := by rw [tab_get _ (by omega)]; simp
        have hle := led_le O (trd_nodup H.gv) (fun u hu => hu) (i : Int)
        have e0 : decide ((i : Int) < 24) = true := by simp; omega
        have e1 : decide (((led g rx ex (trd g) (i : Int) : Nat) : Int) > 1) = false := by simp; omega
        simp only [f4.l5, r_brr, e0, br_t, succ_wr hi (by omega)]
        rw [ck_t (by omega), rd_s g1, r_brr, e1, br_f, ck_t (by omega), rd_s g2, r_brr]
        by_cases ht : (i : Int) ∈ trd g
        · obtain ⟨r, L⟩ := leaves_of O ht
          have t1 : tabf g rx i = rx (i : Int) := by have := tabf_t H (f := rx) ht; simpa using this
          have t2 : tabf g ex i = ex (i : Int) := by have := tabf_t H (f := ex) ht; simpa using this
          have e2 : decide (tabf g rx i > 0) = true := by rw [t1, L.rx]; simp
          have hiff := led_iff H O ht
          have e3' : (!((((led g rx ex (trd g) (i : Int) : Nat) : Int) == 1) == (decide (tabf g ex i ≥ 0)))) = false := by
            rw [t2]
            by_cases h : 0 ≤ ex (i : Int)
            · have := hiff.2 h; simp [this, h]
            · have : led g rx ex (trd g) (i : Int) = 0 := by
                apply Classical.byContradiction; intro hn; exact h (hiff.1 (by omega))
              simp [this]; omega
          rw [e2, br_t, ck_t (by omega), rd_s g1, ck_t (by omega), rd_s g3, r_brr, e3', br_f, r_ret]
          exact .inl ⟨(), rfl, trivial⟩
        · have e2 : decide (tabf g rx i > 0) = false := by
            unfold tabf
            by_cases h : g.Vertices.any (fun v => v.ID == (i : Int)) = true
            · rw [if_pos h]
              obtain ⟨v, hv, e⟩ := List.any_eq_true.1 h
              have e : v.ID = (i : Int) := by simpa using e
              have h3 : v.Side ≠ 3 := fun h3 => ht (mem_trs.2 ⟨v, hv, h3, e⟩)
              rw [← e, (O.none v hv h3).1]; rfl
            · rw [if_neg h]; rfl
          rw [e2, br_f, r_ret]
          exact .inl ⟨(), rfl, trivial⟩)
      (fun _ _ => by
        have e0 : decide (((24 : Nat) : Int) < 24) = false := by simp
        exact ⟨.b (), by simp only [f4.l5, r_brr, e0, br_f, r_ret], rfl⟩)
      (k := fuel) (by have := fuel_pos; omega) (a := ()) trivial
    exact hq
  have e0 : ((0 : Int) != 0) = false := rfl
  simp only [f4]
  rw [r_cl, sane_run, bd_s, r_brr, Bool.not_true, br_f, r_cl, hg, bd_s, r_cl, ho, bd_s, r_cl, hr, bd_s]
  simp only [r_brr, Bool.not_true, Bool.false_or, e0, br_f]
  rw [r_loop2, hvs, bd_s, ex_b, r_loop2, hns, bd_s, ex_b, r_ret]
end Trd
end Go.Fx.Gen
