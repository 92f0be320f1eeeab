/- Trade, the reference: Labels, Rounds, Prefers are the program's. -/
import Derived.Test.YtidbhdbcapbnlaaTQ
namespace Go.Fx.Gen
open Go.Fx Go.Proofs
set_option linter.unusedVariables false
namespace Trd
open Go.TT
variable {g : Graph} {N : Nat} {rx ex nn : Int → Int}

/-! waits -/
theorem wts_iff (H : Ready g) {r : Nat} {v : Int} (L : Leaves g rx ex r v) : wts (wsh g) rx ex v = true ↔ ∃ e ∈ rw_ g v, bet e (bst g (SG g r) v) = true ∧ rx e.To = rx v - 1 := by
  have hv := L.mem
  have W := more H
  obtain ⟨_, hm⟩ := row_mem W.toWsOk (trd_range H.gv hv)
  have hnn := W.nn _ hm
  have mr : ∀ e, e ∈ rw_ g v ↔ e ∈ row (wsh g) v := fun e => mem_rw_row H hv
  unfold wts bst
  rcases L.way with ⟨e0, hf, h1⟩ | ⟨hf, h1⟩
  · have he0 := (fst_mem hf).1
    rw [hf, h1]
    simp only
    obtain ⟨k, hk, rfl⟩ := List.getElem_of_mem he0
    constructor
    · intro h
      cases hq : (row (wsh g) v).find? (fun e => e.ID == (row (wsh g) v)[k].ID || rx e.To == rx v - 1) with
      | none => rw [hq] at h; cases h
      | some e =>
        rw [hq] at h
        rw [List.find?_eq_some_iff_getElem] at hq
        obtain ⟨q1, i, hi, rfl, q2⟩ := hq
        have hne : (row (wsh g) v)[i].ID ≠ (row (wsh g) v)[k].ID := by intro e; simp [e] at h
        have hr : rx (row (wsh g) v)[i].To = rx v - 1 := by
          rw [show ((row (wsh g) v)[i].ID == (row (wsh g) v)[k].ID) = false by simp [hne], Bool.false_or] at q1
          simpa using q1
        have hik : i < k := by
          rcases Nat.lt_trichotomy i k with hh | hh | hh
          · exact hh
          · subst hh; exact absurd rfl hne
          · have := q2 k hh; simp at this
        exact ⟨_, (mr _).2 (List.getElem_mem hi), by rw [bet_elt (hnn _ (List.getElem_mem hi)) (hnn _ he0)]; exact row_lt H hv hi hk hik, hr⟩
    · rintro ⟨e, he, h2, h3⟩
      have he := (mr e).1 he
      rw [bet_elt (hnn _ he) (hnn _ he0)] at h2
      obtain ⟨i, hi, rfl⟩ := List.getElem_of_mem he
      have hik := (row_lt_iff H hv hi hk).1 h2
      cases hq : (row (wsh g) v).find? (fun e => e.ID == (row (wsh g) v)[k].ID || rx e.To == rx v - 1) with
      | none => have := List.find?_eq_none.1 hq _ he; simp [h3] at this
      | some f =>
        rw [List.find?_eq_some_iff_getElem] at hq
        obtain ⟨q1, j, hj, rfl, q2⟩ := hq
        have hji : ¬ i < j := fun hh => by have := q2 i hh; simp [h3] at this
        have hne : (row (wsh g) v)[j].ID ≠ (row (wsh g) v)[k].ID := fun e => by
          have := row_lt H hv hj hk (by omega)
          have h4 := edge_same H hv (List.getElem_mem hj) he0 e
          rw [h4, elt_iff] at this; omega
        simp [hne]
  · rw [hf, h1]
    simp only
    constructor
    · intro h
      cases hq : (row (wsh g) v).find? (fun e => e.ID == -1 || rx e.To == rx v - 1) with
      | none => rw [hq] at h; cases h
      | some e =>
        have he := List.mem_of_find?_eq_some hq
        have q1 := List.find?_some hq
        have hn := hnn _ he
        rw [show (e.ID == -1) = false by simp; omega, Bool.false_or] at q1
        exact ⟨e, (mr e).2 he, bet_alone hn (show (lone v).ID < 0 from (by decide : (-1 : Int) < 0)), by simpa using q1⟩
    · rintro ⟨e, he, _, h3⟩
      have he := (mr e).1 he
      cases hq : (row (wsh g) v).find? (fun e => e.ID == -1 || rx e.To == rx v - 1) with
      | none => have := List.find?_eq_none.1 hq e he; simp [h3] at this
      | some f =>
        have hn := hnn _ (List.mem_of_find?_eq_some hq)
        simp; omega

theorem rwaits_run (H : Ready g) (O : Out g N rx ex nn) {E : Nat → Edge} {r : Nat} {v : Int} (L : Leaves g rx ex r v) (hE : E v.toNat = bst g (SG g r) v) :
    (f38 g v (tab24 (tabf g rx)) (tab24 E)).run = some (wts (wsh g) rx ex v) := by
  have hv := L.mem
  have hvr := trd_range H.gv hv
  have hlen : (rw_ g v).length ≤ 65536 := Nat.le_trans (List.length_filter_le ..) (by have := H.e; omega)
  have gE : (tab24 E)[v.toNat]? = some (E v.toNat) := tab_get _ (by omega)
  have gR := get_t H (f := rx) hv
  have h24 := L.r24
  have hrx := L.rx
  have w : IntKind.i64.wrap (rx v - 1) = rx v - 1 := wr
  have key : loopN fuel (fun s => (f38.l1 v (tab24 (tabf g rx)) (tab24 E) (rw_ g v) s).run) (0 : Int) = _ := loop_find (l := rw_ g v) (fun i : Nat => (i : Int)) (fun e => bet e (E v.toNat) && rx e.To == rx v - 1) (fun _ _ => (.a true : Ex Bool Unit Empty)) (.b ())
    (fun i e hi => by
      have hlt : i < (rw_ g v).length := (List.getElem?_eq_some_iff.1 hi).1
      have hto := (mem_rw.1 (List.mem_of_getElem? hi)).2.2.2.2
      have htr := trd_range H.gv hto
      have gT := get_t H (f := rx) hto
      simp only [f38.l1, r_brr, L_eq, cast_lt_t hlt, br_t, getR_s hi, succ_wr hlt (by omega)]
      rw [ck_t (by omega), rd_s gE, r_cl, better_run, bd_s, r_brr]
      cases h1 : bet e (E v.toNat) with
      | false => rw [br_f, r_ret, Bool.false_and, if_neg (by simp)]
      | true => rw [br_t, getR_s hi, ck_t (by omega), rd_s gT, ck_t (by omega), rd_s gR, r_brr, w, br_if, r_ret, r_ret, Bool.true_and])
    (by simp only [f38.l1, r_brr, L_eq, cast_lt_f (Nat.lt_irrefl _), br_f, r_ret]) (k := fuel) (by have := fuel_pos; omega)
  simp only [f38]
  rw [r_cl, refw_run H.small H.gv.va, bd_s, r_loop2, key, bd_s]
  have hw := wts_iff H L
  rw [← hE] at hw
  cases h : (rw_ g v).findIdx? fun e => bet e (E v.toNat) && rx e.To == rx v - 1 with
  | none =>
    simp only [ex_b, r_ret]
    congr 1
    symm
    rw [← Bool.not_eq_true]
    intro hh
    obtain ⟨e, he, h1, h2⟩ := hw.1 hh
    have := List.findIdx?_eq_none_iff.1 h e he
    simp [h1, h2] at this
  | some i =>
    obtain ⟨h1, h2, _⟩ := List.findIdx?_eq_some_iff_getElem.1 h
    simp only [List.getElem?_eq_getElem h1, ex_a, r_ret]
    congr 1
    symm
    rw [Bool.and_eq_true] at h2
    exact hw.2 ⟨_, List.getElem_mem h1, h2.1, by simpa using h2.2⟩

/-! Labels -/
theorem Cnt.same {r : Nat} {v : Int} {n m : Nat} (h : Cnt (wsh g) (trd g) rx ex r v n) (k : Cnt (wsh g) (trd g) rx ex r v m) : n = m := by
  have key : ∀ {n m : Nat}, Cnt (wsh g) (trd g) rx ex r v n → Cnt (wsh g) (trd g) rx ex r v m → ¬ n < m := by
    intro n m h k hlt
    by_cases hr : r = 0
    · have := k.zero hr; omega
    · have h1 := k.none hr n hlt
      have h2 := k.le
      rcases h.stop hr with h3 | h3
      · omega
      · rw [h1] at h3; cases h3
  have := key h k
  have := key k h
  omega

theorem steps_run (H : Ready g) (O : Out g N rx ex nn) {E : Nat → Edge} (hE : ∀ r v, Leaves g rx ex r v → E v.toNat = bst g (SG g r) v) (i0 : Int) (l0 : List Named) {r : Nat} {v : Vertex} (L : Leaves g rx ex r v.ID) :
    ∃ n : Nat, loopN fuel (fun s : Int × Int => (f11.l1 g (tab24 (tabf g rx), tab24 E) i0 l0 v s.1 s.2).run) ((0 : Int), v.ID) = some (.a (n : Int)) ∧ Cnt (wsh g) (trd g) rx ex r v.ID n := by
  have W := more H
  have hvr := trd_range H.gv L.mem
  have gR := get_t H (f := rx) L.mem
  have hLv : ∀ n, LG g r (it (nx (wsh g) (SG g r)) n v.ID) := by
    intro n
    induction n with
    | zero => exact L.lv
    | succ n ih => rw [it_succ]; exact ih.next (nx_closed _)
  have hLs : ∀ n, Leaves g rx ex r (it (nx (wsh g) (SG g r)) n v.ID) := by
    intro n
    obtain ⟨s, hs⟩ := leaves_of O (Sq_mono (Nat.zero_le _) (hLv n).1 : it (nx (wsh g) (SG g r)) n v.ID ∈ trd g)
    have : s = r := hs.lv.unique (hLv n)
    exact this ▸ hs
  obtain ⟨m, hm⟩ : ∃ m : Nat, m = 24 := ⟨24, rfl⟩
  obtain ⟨q, hq, n, rfl, hC⟩ := loop_ix (A := Unit) (f := fun s : Int × Int => (f11.l1 g (tab24 (tabf g rx), tab24 E) i0 l0 v s.1 s.2).run) (n := m) (fun k _ => ((k : Int), it (nx (wsh g) (SG g r)) k v.ID))
    (fun k _ => (r = 0 → k = 0) ∧ (r ≠ 0 → ∀ j, j < k → wts (wsh g) rx ex (it (nx (wsh g) (SG g r)) j v.ID) = false))
    (fun q => ∃ n : Nat, q = .a (n : Int) ∧ Cnt (wsh g) (trd g) rx ex r v.ID n)
    (fun k _ hk ⟨c1, c2⟩ => by
      have Lk := hLs k
      have har := trd_range H.gv Lk.mem
      simp only [f11.l1, r_join1]
      rw [ck_t (by omega), rd_s gR, r_brr]
      by_cases hr0 : r = 0
      · have e : decide (rx v.ID > 1) = false := by rw [L.rx, hr0]; simp
        rw [e, br_f, r_ret, bd_s, ex_a, r_brr, br_f, r_ret]
        exact .inr ⟨_, rfl, k, rfl, by omega, c1, c2, fun h => absurd hr0 h⟩
      · have e : decide (rx v.ID > 1) = true := by rw [L.rx]; exact decide_eq_true (by omega)
        rw [e, br_t, r_cl, rwaits_run H O Lk (hE _ _ Lk), bd_s, r_ret, bd_s, ex_a, r_brr, show decide ((k : Int) < 24) = true from decide_eq_true (by omega)]
        cases hw : wts (wsh g) rx ex (it (nx (wsh g) (SG g r)) k v.ID) with
        | true =>
          simp only [Bool.not_true, Bool.false_and, br_f, r_ret]
          exact .inr ⟨_, rfl, k, rfl, by omega, c1, c2, fun _ => .inr hw⟩
        | false =>
          simp only [Bool.not_false, Bool.true_and, br_t]
          have gE : (tab24 E)[(it (nx (wsh g) (SG g r)) k v.ID).toNat]? = some (E (it (nx (wsh g) (SG g r)) k v.ID).toNat) := tab_get _ (by omega)
          rw [ck_t (by omega), rd_s gE, r_ret, hE _ _ Lk, bst_to, succ_wr (show k < 25 by omega) (by omega), ← it_succ (nx (wsh g) (SG g r)) k v.ID]
          refine .inl ⟨(), rfl, fun h => absurd h hr0, fun _ j hj => ?_⟩
          by_cases e : j = k
          · subst e; exact hw
          · exact c2 hr0 j (by omega))
    (fun _ ⟨c1, c2⟩ => by
      have Lk := hLs m
      have har := trd_range H.gv Lk.mem
      simp only [f11.l1, r_join1]
      rw [ck_t (by omega), rd_s gR, r_brr]
      have hr0 : r ≠ 0 := fun h => by have := c1 h; omega
      have e : decide (rx v.ID > 1) = true := by rw [L.rx]; exact decide_eq_true (by omega)
      rw [e, br_t, r_cl, rwaits_run H O Lk (hE _ _ Lk), bd_s, r_ret, bd_s, ex_a, r_brr, show decide ((m : Int) < 24) = false from decide_eq_false (by omega), Bool.and_false, br_f, r_ret]
      exact ⟨_, rfl, m, rfl, by omega, c1, c2, fun _ => .inl hm⟩)
    (k := fuel) (by have := fuel_pos; omega) (a := ()) ⟨fun _ => rfl, fun _ j h => by omega⟩
  exact ⟨n, hq, hC⟩

theorem rlabels_run (H : Ready g) (O : Out g N rx ex nn) : (f11 g).run = some (g.Vertices.map fun v => ⟨v.ID, [rx v.ID, ex v.ID, nn v.ID]⟩, 0) := by
  have hsv := H.small.v
  obtain ⟨b, hb1, hb2⟩ := rvalid_run H.small
  have hb : b = true := hb2.2 H.gv
  subst hb
  obtain ⟨E, hf, hE⟩ := fixed_run H O
  obtain ⟨q, hq, rfl⟩ := loop_ix (A := List Named) (f := fun s : Int × List Named => (f11.l2 g (tab24 (tabf g rx), tab24 E) s.1 s.2).run) (n := g.Vertices.length) (fun i a => ((i : Int), a))
    (fun i a => a = (g.Vertices.take i).map fun v => ⟨v.ID, [rx v.ID, ex v.ID, nn v.ID]⟩) (fun q => q = .a (g.Vertices.map fun v => ⟨v.ID, [rx v.ID, ex v.ID, nn v.ID]⟩))
    (fun i a hi ha => by
      have hx := List.getElem?_eq_getElem hi
      have htk := List.take_succ_eq_append_getElem hi
      have hm : g.Vertices[i] ∈ g.Vertices := List.getElem_mem hi
      have hal : a.length = i := by rw [ha]; simp; omega
      rw [htk, List.map_append, ← ha]
      generalize g.Vertices[i] = v at hx hm
      have hid := (H.gv.v _ hm).id
      have gR : (tab24 (tabf g rx))[v.ID.toNat]? = some (rx v.ID) := by rw [tab_get _ (by omega), tabf_v hm hid.1]
      simp only [f11.l2, r_brr, L_eq, cast_lt_t hi, br_t, getR_s hx, succ_wr hi (by omega)]
      rw [ck_t (by omega), rd_s gR, r_brr]
      have hbig : ∀ x : Named, (a ++ [x]).length ≤ bigLen := fun x => by rw [List.length_append]; simp; unfold bigLen; omega
      by_cases h3 : v.Side = 3
      · have hvt : v.ID ∈ trd g := mem_trs.2 ⟨v, hm, h3, rfl⟩
        obtain ⟨r, L⟩ := leaves_of O hvt
        have h1 := rx_pos O hvt
        have gE : (tab24 E)[v.ID.toNat]? = some (E v.ID.toNat) := tab_get _ (by omega)
        obtain ⟨n, n1, n2⟩ := steps_run H O hE (i : Int) a L
        obtain ⟨m, m1, m2⟩ := O.cnt r v.ID L.lv
        have hnm := n2.same m2
        rw [show (rx v.ID == 0) = false by simp; omega, br_f, r_loop1, n1, bd_s, ex_a, ck_t (by omega), rd_s gR, ck_t (by omega), rd_s gE, ap_s (hbig _), r_ret, hE r v.ID L, bst_id, ← (O.fin.tr r _ L.lv).2]
        refine .inl ⟨_, rfl, ?_⟩
        simp only [List.map_cons, List.map_nil, m1, hnm]
      · obtain ⟨e1, e2, e3⟩ := O.none v hm h3
        rw [show (rx v.ID == 0) = true by simp [e1], br_t, ap_s (hbig _), r_ret]
        refine .inl ⟨_, rfl, ?_⟩
        simp only [List.map_cons, List.map_nil, e1, e2, e3])
    (fun a ha => by
      rw [List.take_length] at ha
      exact ⟨_, by simp only [f11.l2, r_brr, L_eq, cast_lt_f (Nat.lt_irrefl _), br_f, r_ret] <;> rfl, by rw [ha]⟩)
    (k := fuel) (by have := fuel_pos; omega) (a := []) (by simp)
  have hq : loopN fuel (fun s : Int × List Named => (f11.l2 g (tab24 (tabf g rx), tab24 E) s.1 s.2).run) ((0 : Int), ([] : List Named)) = _ := hq
  simp only [f11]
  rw [r_cl, hb1, bd_s, r_brr, Bool.not_true, br_f, r_cl, hf, bd_s, r_loop1, hq, bd_s, ex_a, r_ret]

/-! Rounds -/
theorem one_round (H : Ready g) (O : Out g N rx ex nn) (E : List Edge) (t : Nat) :
    loopN fuel (fun s : Int × List Int => (f13.l1 (tab24 (tabf g rx), E) ((t + 1 : Nat) : Int) s.1 s.2).run) ((0 : Int), ([] : List Int)) = some (.a (lvs (wsh g) (SG g t))) := by
  have W := more H
  obtain ⟨q, hq, rfl⟩ := loop_ix (A := List Int) (f := fun s : Int × List Int => (f13.l1 (tab24 (tabf g rx), E) ((t + 1 : Nat) : Int) s.1 s.2).run) (n := 24) (fun i a => ((i : Int), a))
    (fun i a => a.length ≤ i ∧ a = ((List.range i).map fun n : Nat => (n : Int)).filter fun v => decide (v ∈ SG g t) && onC (nx (wsh g)) (SG g t) v) (fun q => q = .a (lvs (wsh g) (SG g t)))
    (fun i a hi ⟨hl, ha⟩ => by
      have e0 : decide ((i : Int) < 24) = true := decide_eq_true (by omega)
      have g1 : (tab24 (tabf g rx))[((i : Int)).toNat]? = some (tabf g rx i) := by rw [tab_get _ (by omega)]; simp
      have hp : (tabf g rx i == ((t + 1 : Nat) : Int)) = (decide ((i : Int) ∈ SG g t) && onC (nx (wsh g)) (SG g t) (i : Int)) := by
        rw [Bool.eq_iff_iff, Bool.and_eq_true, decide_eq_true_eq, beq_iff_eq]
        by_cases ht : (i : Int) ∈ trd g
        · rw [tabf_nat H ht]
          obtain ⟨r, L⟩ := leaves_of O ht
          rw [L.rx]
          constructor
          · intro h
            have : r = t := by omega
            subst this; exact L.lv
          · intro h
            have : r = t := L.lv.unique h
            rw [this]
        · rw [tabf_zero H O ht]
          exact ⟨fun h => by omega, fun h => absurd (Sq_mono (Nat.zero_le _) h.1) ht⟩
      simp only [f13.l1, r_brr, e0, br_t, succ_wr hi (by omega)]
      rw [ck_t (by omega), rd_s g1, r_brr, hp, List.range_succ, List.map_append, List.filter_append, ← ha]
      simp only [List.map_cons, List.map_nil, List.filter_cons, List.filter_nil]
      cases hb : (decide ((i : Int) ∈ SG g t) && onC (nx (wsh g)) (SG g t) (i : Int)) with
      | true =>
        rw [br_t, ap_s (by rw [List.length_append]; simp; unfold bigLen; omega), r_ret]
        exact .inl ⟨_, rfl, by simp; omega, by simp⟩
      | false =>
        rw [br_f, r_ret]
        exact .inl ⟨a, rfl, by omega, by simp⟩)
    (fun a ⟨_, ha⟩ => ⟨_, by simp only [f13.l1, r_brr, show decide (((24 : Nat) : Int) < 24) = false from rfl, br_f, r_ret] <;> rfl, by rw [ha]; rfl⟩)
    (k := fuel) (by have := fuel_pos; omega) (a := []) ⟨by simp, by simp⟩
  exact hq

theorem lvs_some (H : Ready g) (O : Out g N rx ex nn) {t : Nat} (h : t < N) : 0 < (lvs (wsh g) (SG g t)).length := by
  have W := more H
  obtain ⟨v, hv, ho⟩ := (Sq_less (nx_closed (wsh g)) (O.less t h)).2
  exact List.length_pos_of_mem ((mem_lvs W.toWsOk).2 ⟨hv, ho⟩)
theorem lvs_none (H : Ready g) (O : Out g N rx ex nn) {t : Nat} (h : N ≤ t) : lvs (wsh g) (SG g t) = [] := by
  have W := more H
  refine List.eq_nil_iff_forall_not_mem.2 fun v hv => ?_
  have := Sq_mono h ((mem_lvs W.toWsOk).1 hv).1
  have hl : Sq (nx (wsh g)) (trd g) N = [] := O.last
  rw [hl] at this
  cases this

theorem rrounds_run (H : Ready g) (O : Out g N rx ex nn) : (f13 g).run = some (roundsOf g N, 0) := by
  obtain ⟨b, hb1, hb2⟩ := rvalid_run H.small
  have hb : b = true := hb2.2 H.gv
  subst hb
  obtain ⟨E, hf, hE⟩ := fixed_run H O
  obtain ⟨q, hq, rfl⟩ := loop_ix (A := List (List Int)) (f := fun s : Int × List (List Int) => (f13.l2 (tab24 (tabf g rx), tab24 E) s.1 s.2).run) (n := 24) (fun t a => (((t + 1 : Nat) : Int), a))
    (fun t a => a = (List.range (min t N)).map fun t => lvs (wsh g) (SG g t)) (fun q => q = .a (roundsOf g N))
    (fun t a ht ha => by
      have e0 : decide (((t + 1 : Nat) : Int) ≤ 24) = true := decide_eq_true (by omega)
      have hal : a.length ≤ 24 := by rw [ha]; simp; omega
      simp only [f13.l2, r_brr, e0, br_t]
      rw [r_loop1, one_round H O, bd_s, ex_a, r_brr, L_eq]
      by_cases h : t < N
      · have := lvs_some H O h
        rw [show decide (((lvs (wsh g) (SG g t)).length : Int) > 0) = true from decide_eq_true (by omega), br_t, ap_s (by rw [List.length_append]; simp; unfold bigLen; omega), r_ret, succ_wr (show t + 1 < 26 by omega) (by omega)]
        refine .inl ⟨_, rfl, ?_⟩
        rw [ha, show min t N = t by omega, show min (t + 1) N = t + 1 by omega, List.range_succ, List.map_append]; rfl
      · have := lvs_none H O (t := t) (by omega)
        rw [this, show decide ((([] : List Int).length : Int) > 0) = false from rfl, br_f, r_ret, succ_wr (show t + 1 < 26 by omega) (by omega)]
        refine .inl ⟨_, rfl, ?_⟩
        rw [ha, show min t N = N by omega, show min (t + 1) N = N by omega])
    (fun a ha => ⟨_, by simp only [f13.l2, r_brr, show decide (((24 + 1 : Nat) : Int) ≤ 24) = false from rfl, br_f, r_ret] <;> rfl, by
      have := O.n24
      rw [ha, show min 24 N = N by omega]; rfl⟩)
    (k := fuel) (by have := fuel_pos; omega) (a := []) (by simp)
  have hq : loopN fuel (fun s : Int × List (List Int) => (f13.l2 (tab24 (tabf g rx), tab24 E) s.1 s.2).run) ((1 : Int), ([] : List (List Int))) = _ := hq
  simp only [f13]
  rw [r_cl, hb1, bd_s, r_brr, Bool.not_true, br_f, r_cl, hf, bd_s, r_loop1, hq, bd_s, ex_a, r_ret]

/-! Prefers -/
theorem rwish_run (H : Ready g) (v id : Int) : ∃ y, (f42 g v id).run = some y ∧ ((y.2 = true ∧ ((id = -1 ∧ y.1.ID = -1) ∨ (y.1 ∈ rw_ g v ∧ y.1.ID = id ∧ id ≠ -1))) ∨ (y.2 = false ∧ id ≠ -1 ∧ ∀ e ∈ rw_ g v, e.ID ≠ id)) := by
  have hlen : (rw_ g v).length ≤ 65536 := Nat.le_trans (List.length_filter_le ..) (by have := H.e; omega)
  simp only [f42, r_brr]
  by_cases h : id = -1
  · rw [show (id == -1) = true by simp [h], br_t, r_ret]
    exact ⟨_, rfl, .inl ⟨rfl, .inl ⟨h, rfl⟩⟩⟩
  · have key : loopN fuel (fun s => (f42.l1 id (rw_ g v) s).run) (0 : Int) = _ := loop_find (l := rw_ g v) (fun i : Nat => (i : Int)) (fun e => e.ID == id) (fun _ e => (.a (e, true) : Ex (Edge × Bool) Unit Empty)) (.b ())
      (fun i e hi => by
        have hlt : i < (rw_ g v).length := (List.getElem?_eq_some_iff.1 hi).1
        simp only [f42.l1, r_brr, L_eq, cast_lt_t hlt, br_t, getR_s hi, succ_wr hlt (by omega), r_ret]
        rw [br_if])
      (by simp only [f42.l1, r_brr, L_eq, cast_lt_f (Nat.lt_irrefl _), br_f, r_ret]) (k := fuel) (by have := fuel_pos; omega)
    rw [show (id == -1) = false by simp [h], br_f, r_cl, refw_run H.small H.gv.va, bd_s, r_loop2, key, bd_s]
    cases hf : (rw_ g v).findIdx? fun e => e.ID == id with
    | none =>
      simp only [ex_b, r_ret]
      refine ⟨_, rfl, .inr ⟨rfl, h, fun e he => ?_⟩⟩
      have := List.findIdx?_eq_none_iff.1 hf e he
      simpa using this
    | some i =>
      obtain ⟨h1, h2, _⟩ := List.findIdx?_eq_some_iff_getElem.1 hf
      simp only [List.getElem?_eq_getElem h1, ex_a, r_ret]
      exact ⟨_, rfl, .inl ⟨rfl, .inr ⟨List.getElem_mem h1, by simpa using h2, h⟩⟩⟩

theorem plc_none (H : Ready g) {v id : Int} (hv : v ∈ trd g) (h : id ≠ -1) (hn : ∀ e ∈ rw_ g v, e.ID ≠ id) : plc g v id = -1 := by
  unfold plc
  rw [if_neg h]
  have : (row (wsh g) v).findIdx? (fun e => e.ID == id) = none := List.findIdx?_eq_none_iff.2 fun e he => by
    have := hn e ((mem_rw_row H hv).2 he); simpa using this
  rw [this]

theorem rprefers_run (H : Ready g) (v a b : Int) : (f17 g v a b).run = some (if v ∈ trd g ∧ 0 ≤ plc g v a ∧ 0 ≤ plc g v b then (decide (plc g v a < plc g v b), 0) else (false, 140)) := by
  obtain ⟨c, hc1, hc2⟩ := rvalid_run H.small
  have hc : c = true := hc2.2 H.gv
  subst hc
  simp only [f17]
  rw [r_join1, r_cl, hc1, bd_s, r_brr, Bool.not_true, br_f, r_cl, trader_run H.small H.gv.va, bd_s, r_ret, bd_s, ex_a, r_brr]
  by_cases hv : v ∈ trd g
  · obtain ⟨x, x1, x2⟩ := rwish_run H v a
    obtain ⟨y, y1, y2⟩ := rwish_run H v b
    have nn : ∀ e ∈ rw_ g v, 0 ≤ e.ID := fun e he => rw_nn H he
    rw [decide_eq_true hv, Bool.not_true, br_f, r_cl, x1, bd_s, r_cl, y1, bd_s, r_brr]
    rcases x2 with ⟨x2, x3⟩ | ⟨x2, x3, x4⟩
    · have pa : 0 ≤ plc g v a := by
        rcases x3 with ⟨rfl, _⟩ | ⟨h1, h2, _⟩
        · rw [plc_alone]; omega
        · obtain ⟨i, h, _⟩ := plc_mem H hv ((mem_rw_row H hv).1 h1); rw [h2] at h; omega
      rcases y2 with ⟨y2, y3⟩ | ⟨y2, y3, y4⟩
      · have pb : 0 ≤ plc g v b := by
          rcases y3 with ⟨rfl, _⟩ | ⟨h1, h2, _⟩
          · rw [plc_alone]; omega
          · obtain ⟨i, h, _⟩ := plc_mem H hv ((mem_rw_row H hv).1 h1); rw [h2] at h; omega
        rw [x2, y2, if_pos ⟨hv, pa, pb⟩]
        simp only [Bool.not_true, Bool.or_self, br_f]
        rw [r_cl, better_run, bd_s, r_ret]
        congr 2
        rcases x3 with ⟨rfl, x5⟩ | ⟨h1, h2, h3⟩
        · unfold bet
          rw [if_pos (.inl (by omega)), Bool.eq_iff_iff, decide_eq_true_eq, decide_eq_true_eq, plc_alone]
          rcases y3 with ⟨rfl, y5⟩ | ⟨k1, k2, k3⟩
          · rw [plc_alone]; omega
          · obtain ⟨i, h, _, hlt⟩ := plc_mem H hv ((mem_rw_row H hv).1 k1); rw [k2] at h; omega
        · have n1 := nn _ h1
          obtain ⟨i, i1, i2, i3⟩ := plc_mem H hv ((mem_rw_row H hv).1 h1)
          rw [h2] at i1
          rcases y3 with ⟨rfl, y5⟩ | ⟨k1, k2, k3⟩
          · rw [bet_alone n1 (by omega), plc_alone, i1]; symm; exact decide_eq_true (by omega)
          · have n2 := nn _ k1
            obtain ⟨j, j1, j2, j3⟩ := plc_mem H hv ((mem_rw_row H hv).1 k1)
            rw [k2] at j1
            rw [bet_elt n1 n2, i1, j1]
            rw [List.getElem?_eq_some_iff] at i2 j2
            obtain ⟨hi, i2⟩ := i2
            obtain ⟨hj, j2⟩ := j2
            rw [← i2, ← j2, Bool.eq_iff_iff, row_lt_iff H hv hi hj, decide_eq_true_eq]
            omega
      · have := plc_none H hv y3 y4
        rw [x2, y2, if_neg (by omega)]
        simp only [Bool.not_true, Bool.not_false, Bool.or_true, br_t, r_ret]
    · have := plc_none H hv x3 x4
      rw [x2, if_neg (by omega)]
      simp only [Bool.not_false, Bool.true_or, br_t, r_ret]
  · rw [decide_eq_false hv, Bool.not_false, br_t, r_ret, if_neg (fun h => hv h.1)]
end Trd
end Go.Fx.Gen
