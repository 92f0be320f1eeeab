
/- Trade, the reference: Labels, Rounds, Prefers are the program's. -/
import Derived.Test.YtdbcggbkdljfiaaGreatTQ
namespace Go.Fx.Gen
open Go.Fx Go.Proofs
set_option linter.unusedVariables false
namespace Trd
open Go.TT
variable {g : Graph} {N : Nat} {rx ex nn : Int → Int}

/-! waits -/
theorem wts_iff (H : Ready g) {r : Nat} {v : Int} (L : Leaves g rx ex r v) : wts (wsh g) rx ex v = true ↔ ∃ e ∈ rw_ g v, bet e (bst g (SG g r) v) = true ∧ rx e.To = rx v - 1 := by
  have hv := L.mem
  have W := more H
  obtain ⟨_, hm⟩ := row_mem W.toWsOk (trd_range H.gv hv)
  have hnn := W.nn _ hm
  have mr : ∀ e, e ∈ rw_ g v ↔ e ∈ row (wsh g) v := fun e => mem_rw_row H hv
  unfold wts bst
  rcases L.way with ⟨e0, hf, h1⟩ | ⟨hf, h1⟩
  · have he0 := (fst_mem hf).1
    rw [hf, h1]
    simp only
    obtain ⟨k, hk, rfl⟩ := List.getElem_of_mem he0
    constructor
    · intro h
      cases hq : (row (wsh g) v).find? (fun e => e.ID == (row (wsh g) v)[k].ID || rx e.To == rx v - 1) with
      | none => rw [hq] at h; cases h
      | some e =>
        rw [hq] at h
        rw [List.find?_eq_some_iff_getElem] at hq
        obtain ⟨q1, i, hi, rfl, q2⟩ := hq
        have hne : (row (wsh g) v)[i].ID ≠ (row (wsh g) v)[k].ID := by intro e; simp [e] at h
        have hr : rx (row (wsh g) v)[i].To = rx v - 1 := by
          rw [show ((row (wsh g) v)[i].ID == (row (wsh g) v)[k].ID) = false by simp [hne], Bool.false_or] at q1
          simpa using q1
        have hik : i < k := by
          rcases Nat.lt_trichotomy i k with hh | hh | hh
          · exact hh
          · subst hh; exact absurd rfl hne
          · have := q2 k hh; simp at this
        exact ⟨_, (mr _).2 (List.getElem_mem hi), by rw [bet_elt (hnn _ (List.getElem_mem hi)) (hnn _ he0)]; exact row_lt H hv hi hk hik, hr⟩
    · rintro ⟨e, he, h2, h3⟩
      have he := (mr e).1 he
      rw [bet_elt (hnn _ he) (hnn _ he0)] at h2
      obtain ⟨i, hi, rfl⟩ := List.getElem_of_mem he
      have hik := (row_lt_iff H hv hi hk).1 h2
      cases hq : (row (wsh g) v).find? (fun e => e.ID == (row (wsh g) v)[k].ID || rx e.To == rx v - 1) with
      | none => have := List.find?_eq_none.1 hq _ he; simp [h3] at this
      | some f =>
        rw [List.find?_eq_some_iff_getElem] at hq
        obtain ⟨q1, j, hj, rfl, q2⟩ := hq
        have hji : ¬ i < j := fun hh => by have := q2 i hh; simp [h3] at this
        have hne : (row (wsh g) v)[j].ID ≠ (row (wsh g) v)[k].ID := fun e => by
          have := row_lt H hv hj hk (by omega)
          have h4 := edge_same H hv (List.getElem_mem hj) he0 e
          rw [h4, elt_iff] at this; omega
        simp [hne]
  · rw [hf, h1]
    simp only
    constructor
    · intro h
      cases hq : (row (wsh g) v).find? (fun e => e.ID == -1 || rx e.To == rx v - 1) with
      | none => rw [hq] at h; cases h
      | some e =>
        have he := List.mem_of_find?_eq_some hq
        have q1 := List.find?_some hq
        have hn := hnn _ he
        rw [show (e.ID == -1) = false by simp; omega, Bool.false_or] at q1
        exact ⟨e, (mr e).2 he, bet_alone hn (show (lone v).ID < 0 from (by decide : (-1 : Int) < 0)), by simpa using q1⟩
    · rintro ⟨e, he, _, h3⟩
      have he := (mr e).1 he
      cases hq : (row (wsh g) v).find? (fun e => e.ID == -1 || rx e.To == rx v - 1) with
      | none => have := List.find?_eq_none.1 hq e he; simp [h3] at this
      | some f =>
        have hn := hnn _ (List.mem_of_find?_eq_some hq)
        simp; omega

theorem rwaits_run (H : Ready g) (O : Out g N rx ex nn) {E : Nat → Edge} {r : Nat} {v : Int} (L : Leaves g rx ex r v) (hE : E v.toNat = bst g (SG g r) v) :
    (f35 g v (tab24 (tabf g rx)) (tab24 E)).run = some (wts (wsh g) rx ex v) := by
  have hv := L.mem
  have hvr := trd_range H.gv hv
  have hlen : (rw_ g v).length ≤ 65536 := Nat.le_trans (List.length_filter_le ..) (by have := H.e; omega)
  have gE : (tab24 E)[v.toNat]? = some (E v.toNat) := tab_get _ (by omega)
  have gR := get_t H (f := rx) hv
  have h24 := L.r24
  have hrx := L.rx
  have w : IntKind.i64.wrap (rx v - 1) = rx v - 1 := wr
  have key : loopN fuel (fun s => (f35.l1 v (tab24 (tabf g rx)) (tab24 E) (rw_ g v) s).run) (0 : Int) = _ := loop_find (l := rw_ g v) (fun i : Nat => (i : Int)) (fun e => bet e (E v.toNat) && rx e.To == rx v - 1) (fun _ _ => (.a true : Ex Bool Unit Empty)) (.b ())
    (fun i e hi => by
      have hlt : i < (rw_ g v).length := (List.getElem?_eq_some_iff.1 hi).1
      have hto := (mem_rw.1 (List.mem_of_getElem? hi)).2.2.2.2
      have htr := trd_range H.gv hto
      have gT := get_t H (f := rx) hto
      simp only [f35.l1, r_brr, L_eq, cast_lt_t hlt, br_t, getR_s hi, succ_wr hlt (by omega)]
      rw [ck_t (by omega), rd_s gE, r_cl, better_run, bd_s, r_brr]
      cases h1 : bet e (E v.toNat) with
      | false => rw [br_f, r_ret, Bool.false_and, if_neg (by simp)]
      | true => rw [br_t, getR_s hi, ck_t (by omega), rd_s gT, ck_t (by omega), rd_s gR, r_brr, w, br_if, r_ret, r_ret, Bool.true_and])
    (by simp only [f35.l1, r_brr, L_eq, cast_lt_f (Nat.lt_irrefl _), br_f, r_ret]) (k := fuel) (by have := fuel_pos; omega)
  simp only [f35]
  rw [r_cl, refw_run H.small H.gv.va, bd_s, r_loop2, key, bd_s]
  have hw := wts_iff H L
  rw [← hE] at hw
  cases h : (rw_ g v).findIdx? fun e => bet e (E v.toNat) && rx e.To == rx v - 1 with
  | none =>
    simp only [ex_b, r_ret]
    congr 1
    symm
    rw [← Bool.not_eq_true]
    intro hh
    obtain ⟨e, he, h1, h2⟩ := hw.1 hh
    have := List.findIdx?_eq_none_iff.1 h e he
    simp [h1, h2] at this
  | some i =>
    obtain ⟨h1, h2, _⟩ := List.findIdx?_eq_some_iff_getElem.1 h
    simp only [List.getElem?_eq_getElem h1, ex_a, r_ret]
    congr 1
    symm
    rw [Bool.and_eq_true] at h2
    exact hw.2 ⟨_, List.getElem_mem h1, h2.1, by simpa using h2.2⟩

/-! Labels -/
theorem Cnt.same {r : Nat} {v : Int} {n m : Nat} (h : Cnt (wsh g) (trd g) rx ex r v n) (k : Cnt (wsh g) (trd g) rx ex r v m) : n = m := by
  have key : ∀ {n m : Nat}, Cnt (wsh g) (trd g) rx ex r v n → Cnt (wsh g) (trd g) rx ex r v m → ¬ n < m := by
    intro n m h k hlt
    by_cases hr : r = 0
    · have := k.zero hr; omega
    · have h1 := k.none hr n hlt
      have h2 := k.le
      rcases h.stop hr with h3 | h3
      · omega
      · rw [h1] at h3; cases h3
  have := key h k
  have := key k h
  omega

theorem steps_run (H : Ready g) (O : Out g N rx ex nn) {E : Nat → Edge} (hE : ∀ r v, Leaves g rx ex r v → E v.toNat = bst g (SG g r) v) (i0 : Int) (l0 : List Named) {r : Nat} {v : Vertex} (L : Leaves g rx ex r v.ID) :
    ∃ n : Nat, loopN fuel (fun s : Int × Int => (f8.l1 g (tab24 (tabf g rx), tab24 E) i0 l0 v s.1 s.2).run) ((0 : Int), v.ID) = some (.a (n : Int)) ∧ Cnt (wsh g) (trd g) rx ex r v.ID n := by
  have W := more H
  have hvr := trd_range H.gv L.mem
  have gR := get_t H (f := rx) L.mem
  have hLv : ∀ n, LG g r (it (nx (wsh g) (SG g r)) n v.ID) := by
    intro n
    induction n with
    | zero => exact L.lv
    | succ n ih => rw [it_succ]; exact ih.next (nx_closed _)
  have hLs : ∀ n, Leaves g rx ex r (it (nx (wsh g) (SG g r)) n v.ID) := by
    intro n
    obtain ⟨s, hs⟩ := leaves_of O (Sq_mono (Nat.zero_le _) (hLv n).1 : it (nx (wsh g) (SG g r)) n v.ID ∈ trd g)
    have : s = r := hs.lv.unique (hLv n)
    exact this ▸ hs
  obtain ⟨m, hm⟩ : ∃ m : Nat, m = 24 := ⟨24, rfl⟩
  obtain ⟨q, hq, n, rfl, hC⟩ := loop_ix (A := Unit) (f := fun s : Int × Int => (f8.l1 g (tab24 (tabf g rx), tab24 E) i0 l0 v s.1 s.2).run) (n := m) (fun k _ => ((k : Int), it (nx (wsh g) (SG g r)) k v.ID))
    (fun k _ => (r = 0 → k = 0) ∧ (r ≠ 0 → ∀ j, j < k → wts (wsh g) rx ex (it (nx (wsh g) (SG g r)) j v.ID) = false))
    (fun q => ∃ n : Nat, q = .a (n : Int) ∧ Cnt (wsh g) (trd g) rx ex r v.ID n)
    (fun k _ hk ⟨c1, c2⟩ => by
      have Lk := hLs k
      have har := trd_range H.gv Lk.mem
      simp only [f8.l1, r_join1]
      rw [ck_t (by omega), rd_s gR, r_brr]
      by_cases hr0 : r = 0
      · have e : decide (rx v.ID > 1) = false := by rw [L.rx, hr0]; simp
        rw [e, br_f, r_ret, bd_s, ex_a, r_brr, br_f, r_ret]
        exact .inr ⟨_, rfl, k, rfl, by omega, c1, c2, fun h => absurd hr0 h⟩
      · have e : decide (rx v.ID > 1) = true := by rw [L.rx]; exact decide_eq_true (by omega)
        rw [e, br_t, r_cl, rwaits_run H O Lk (hE _ _ Lk), bd_s, r_ret, bd_s, ex_a, r_brr, show decide ((k : Int) < 24) = true from decide_eq_true (by omega)]
        cases hw : wts (wsh g) rx ex (it (nx (wsh g) (SG g r)) k v.ID) with
        | true =>
          simp only [Bool.not_true, Bool.false_and, br_f, r_ret]
          exact .inr ⟨_, rfl, k, rfl, by omega, c1, c2, fun _ => .inr hw⟩
        | false =>
          simp only [Bool.not_false, Bool.true_and, br_t]
          have gE : (tab24 E)[(it (nx (wsh g) (SG g r)) k v.ID).toNat]? = some (E (it (nx (wsh g) (SG g r)) k v.ID).toNat) := tab_get _ (by omega)
          rw [ck_t (by omega), rd_s gE, r_ret, hE _ _ Lk, bst_to, succ_wr (show k < 25 by omega) (by omega), ← it_succ (nx (wsh g) (SG g r)) k v.ID]
          refine .inl ⟨(), rfl, fun h => absurd h hr0, fun _ j hj => ?_⟩
          by_cases e : j = k
          · subst e; exact hw
          · exact c2 hr0 j (by omega))
    (fun _ ⟨c1, c2⟩ => by
      have Lk := hLs m
      have har := trd_range H.gv Lk.mem
      simp only [f8.l1, r_join1]
      rw [ck_t (by omega), rd_s gR, r_brr]
      have hr0 : r ≠ 0 := fun h => by have := c1 h; omega
      have e : decide (rx v.ID > 1) = true := by rw [L.rx]; exact decide_eq_true (by omega)
      rw [e, br_t, r_cl, rwaits_run H O Lk (hE _ _ Lk), bd_s, r_ret, bd_s, ex_a, r_brr, show decide ((m : Int) < 24) = false from decide_eq_false (by omega), Bool.and_false, br_f, r_ret]
      exact ⟨_, rfl, m, rfl, by omega, c1, c2, fun _ => .inl hm⟩)
    (k := fuel) (by have := fuel_pos; omega) (a := ()) ⟨fun _ => rfl, fun _ j h => by omega⟩
  exact ⟨n, hq, hC⟩

theorem rlabels_run (H : Ready g) (O : Out g N rx ex nn) : (f8 g).run = some (g.Vertices.map fun v => ⟨v.ID, [rx v.ID, ex v.ID, nn v.ID]⟩, 0) := by
  have hsv := H.small.v
  obtain ⟨b, hb1, hb2⟩ := rvalid_run H.small
  have hb : b = true := hb2.2 H.gv
  subst hb
  obtain ⟨E, hf, hE⟩ := fixed_run H O
  obtain ⟨q, hq, rfl⟩ := loop_ix (A := List Named) (f := fun s : Int × List Named => (f8.l2 g (tab24 (tabf g rx), tab24 E) s.1 s.2).run) (n := g.Vertices.length) (fun i a => ((i : Int), a))
    (fun i a => a = (g.Vertices.take i).map fun v => ⟨v.ID, [rx v.ID, ex v.ID, nn v.ID]⟩) (fun q => q = .a (g.Vertices.map fun v => ⟨v.ID, [rx v.ID, ex v.ID, nn v.ID]⟩))
    (fun i a hi ha => by
      have hx := List.getElem?_eq_getElem hi
      have htk := List.take_succ_eq_append_getElem hi
      have hm : g.Vertices[i] ∈ g.Vertices := List.getElem_mem hi
      have hal : a.length = i := by rw [ha]; simp; omega
      rw [htk, List.map_append, ← ha]
      generalize g.Vertices[i] = v at hx hm
      have hid := (H.gv.v _ hm).id
      have gR : (tab24 (tabf g rx))[v.ID.toNat]? = some (rx v.ID) := by rw [tab_get _ (by omega), tabf_v hm hid.1]
      simp only [f8.l2, r_brr, L_eq, cast_lt_t hi, br_t, getR_s hx, succ_wr hi (by omega)]
      rw [ck_t (by omega), rd_s gR, r_brr]
      have hbig : ∀ x : Named, (a ++ [x]).length ≤ bigLen := fun x => by rw [List.length_append]; simp; unfold bigLen; omega
      by_cases h3 : v.Side = 3
      · have hvt : v.ID ∈ trd g := mem_trs.2 ⟨v, hm, h3, rfl⟩
        obtain ⟨r, L⟩ := leaves_of O hvt
        have h1 := rx_pos O hvt
        have gE : (tab24 E)[v.ID.toNat]? = some (E v.ID.toNat) := tab_get _ (by omega)
        obtain ⟨n, n1, n2⟩ := steps_run H O hE (i : Int) a L
        obtain ⟨m, m1, m2⟩ := O.cnt r v.ID L.lv
        have hnm := n2.same m2
        rw [show (rx v.ID == 0) = false by simp; omega, br_f, r_loop1, n1, bd_s, ex_a, ck_t (by omega), rd_s gR, ck_t (by omega), rd_s gE, ap_s (hbig _), r_ret, hE r v.ID L, bst_id, ← (O.fin.tr r _ L.lv).2]
        refine .inl ⟨_, rfl, ?_⟩
        simp only [List.map_cons, List.map_nil, m1, hnm]
      · obtain ⟨e1, e2, e3⟩ := O.none v hm h3
        rw [show (rx v.ID == 0) = true by simp [e1], br_t, ap_s (hbig _), r_ret]
        refine .inl ⟨_, rfl, ?_⟩
        simp only [List.map_cons, List.map_nil, e1, e2, e3])
    (fun a ha => by
      rw [List.take_length] at ha
      exact ⟨_, by simp only [f8.l2, r_brr, L_eq, cast_lt_f (Nat.lt_irrefl _), br_f, r_ret] <;> rfl, by rw [ha]⟩)
    (k := fuel) (by have := fuel_pos; omega) (a := []) (by simp)
  have hq : loopN fuel (fun s : Int × List Named => (f8.l2 g (tab24 (tabf g rx), tab24 E) s.1 s.2).run) ((0 : Int), ([] : List Named)) = _ := hq
  simp only [f8]
  rw [r_cl, hb1, bd_s, r_brr, Bool.not_true, br_f, r_cl, hf, bd_s, r_loop1, hq, bd_s, ex_a, r_ret]

/-! Rounds -/
theorem lvs_some (H : Ready g) (O : Out g N rx ex nn) {t : Nat} (h : t < N) : 0 < (lvs (wsh g) (SG g t)).length := by
  have W := more H
  obtain ⟨v, hv, ho⟩ := (Sq_less (nx_closed (wsh g)) (O.less t h)).2
  exact List.length_pos_of_mem ((mem_lvs W.toWsOk).2 ⟨hv, ho⟩)
theorem lvs_none (H : Ready g) (O : Out g N rx ex nn) {t : Nat} (h : N ≤ t) : lvs (wsh g) (SG g t) = [] := by
  have W := more H
  refine List.eq_nil_iff_forall_not_mem.2 fun v hv => ?_
  have := Sq_mono h ((mem_lvs W.toWsOk).1 hv).1
  have hl : Sq (nx (wsh g)) (trd g) N = [] := O.last
  rw [hl] at this
  cases this

/-! Prefers -/
theorem plc_none (H : Ready g) {v id : Int} (hv : v ∈ trd g) (h : id ≠ -1) (hn : ∀ e ∈ rw_ g v, e.ID ≠ id) : plc g v id = -1 := by
  unfold plc
  rw [if_neg h]
  have : (row (wsh g) v).findIdx? (fun e => e.ID == id) = none := List.findIdx?_eq_none_iff.2 fun e he => by
    have := hn e ((mem_rw_row H hv).2 he); simpa using this
  rw [this]

end Trd
end Go.Fx.Gen
