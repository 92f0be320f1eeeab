/- The law TradeTruthful: whatever the integers, the program answers true. -/
import Derived.Test.YtidbhdbcapbnlaaTM
import Derived.Test.YtidbhdbcapbnlaaTN
namespace Go.Fx.Gen
open Go.Fx Go.Proofs
set_option linter.unusedVariables false
namespace Trd
open Go.TT
variable {g h : Graph} {N N' : Nat} {rx ex nn rx' ex' nn' : Int → Int}

/-- The same graph, but for the weights of one's wishes. -/
structure Twist (g h : Graph) (v : Int) : Prop where
  vs : h.Vertices = g.Vertices
  len : h.Edges.length = g.Edges.length
  e : ∀ i (hi : i < h.Edges.length) (hj : i < g.Edges.length), h.Edges[i].ID = g.Edges[i].ID ∧ h.Edges[i].From = g.Edges[i].From ∧ h.Edges[i].To = g.Edges[i].To ∧ h.Edges[i].Directed = g.Edges[i].Directed ∧
    (g.Edges[i].From ≠ v → h.Edges[i] = g.Edges[i])

theorem filter_same {α : Type} {p : α → Bool} : ∀ {l l' : List α}, l'.length = l.length → (∀ i (hi : i < l'.length) (hj : i < l.length), p l'[i] = p l[i] ∧ (p l[i] = true → l'[i] = l[i])) → l'.filter p = l.filter p
  | [], [], _, _ => rfl
  | x :: l, y :: l', hl, h => by
    have h0 := h 0 (by simp) (by simp)
    simp only [List.getElem_cons_zero] at h0
    have ih := filter_same (l := l) (l' := l') (by simpa using hl) fun i hi hj => by
      have := h (i + 1) (by simp; omega) (by simp; omega)
      simpa using this
    rw [List.filter_cons, List.filter_cons, h0.1, ih]
    split
    · rename_i hp; rw [h0.2 hp]
    · rfl

theorem Twist.trd {v : Int} (T : Twist g h v) : trd h = trd g := by unfold Trd.trd; rw [T.vs]

theorem Twist.row {v u : Int} (T : Twist g h v) (hu : u ∈ Trd.trd g) (H : Ready g) (hv : u ≠ v) : row (wsh h) u = row (wsh g) u := by
  have hr := trd_range H.gv hu
  rw [row_wsh hr, row_wsh hr, T.trd, if_pos hu, if_pos hu]
  unfold wish
  congr 1
  refine filter_same T.len fun i hi hj => ?_
  obtain ⟨e1, e2, e3, e4, e5⟩ := T.e i hi hj
  refine ⟨by unfold isW; rw [e2, e3, e4], fun hp => e5 fun hf => ?_⟩
  unfold isW at hp
  simp at hp
  exact hv (by rw [← hp.2.1, hf])

theorem firm (ws : List (List Edge)) : Firm (nx ws) := by
  intro S S' x hsub hin
  unfold nx at hin ⊢
  rw [pt_row] at hin ⊢
  rw [pt_row]
  cases hf : (Trd.row ws x).find? fun e => decide (e.To ∈ S) with
  | none =>
    have : (Trd.row ws x).find? (fun e => decide (e.To ∈ S')) = none := by
      rw [List.find?_eq_none] at hf ⊢
      intro e he h2
      exact hf e he (decide_eq_true (hsub _ (of_decide_eq_true h2)))
    rw [this]
  | some e =>
    rw [hf] at hin
    have : (Trd.row ws x).find? (fun e => decide (e.To ∈ S')) = some e := by
      rw [List.find?_eq_some_iff_append] at hf ⊢
      obtain ⟨h1, l1, l2, h2, h3⟩ := hf
      refine ⟨decide_eq_true hin, l1, l2, h2, fun a ha => ?_⟩
      have := h3 a ha
      simp only [Bool.not_eq_true', decide_eq_false_iff_not] at this ⊢
      exact fun h4 => this (hsub _ h4)
    rw [this]

theorem truthful (H : Ready g) (H' : Ready h) {v : Int} (hv : v ∈ trd g) (T : Twist g h v) (O : Out g N rx ex nn) (O' : Out h N' rx' ex' nn') :
    0 ≤ plc g v (ex' v) ∧ ¬ plc g v (ex' v) < plc g v (ex v) := by
  have ht := T.trd
  obtain ⟨r, L⟩ := leaves_of O hv
  obtain ⟨s, L'⟩ := leaves_of O' (v := v) (by rw [ht]; exact hv)
  rcases L'.ex_cases H' with ⟨h1, _⟩ | ⟨_, e, he, h1, h2, _⟩
  · rw [h1, plc_alone]
    have := L.exle H
    exact ⟨by omega, by omega⟩
  · have hm := (mem_row H' L'.mem).1 he
    obtain ⟨i, hi, rfl⟩ := List.getElem_of_mem hm.1
    have hj : i < g.Edges.length := by rw [← T.len]; exact hi
    obtain ⟨e1, e2, e3, e4, e5⟩ := T.e i hi hj
    have hrow : g.Edges[i] ∈ row (wsh g) v := (mem_row H hv).2 ⟨List.getElem_mem hj, by rw [← e4]; exact hm.2.1, by rw [← e2]; exact hm.2.2.1, by rw [← e3]; exact hm.2.2.2.1, by rw [← e3, ← ht]; exact hm.2.2.2.2⟩
    rw [h1, e1]
    obtain ⟨k, k1, _⟩ := plc_mem H hv hrow
    refine ⟨by omega, fun hlt => ?_⟩
    have hb := L.before H hrow hlt
    apply hb
    rw [← e3, ← h2, L'.tg]
    have l1 : Lv (nx (wsh g)) (trd g) r v := L.lv
    have l2 : Lv (nx (wsh h)) (trd g) s v := by have := L'.lv; change Lv (nx (wsh h)) (trd h) s v at this; rw [ht] at this; exact this
    have := still (nx_closed (wsh g)) (nx_closed (wsh h)) (firm (wsh g)) (fun S u hu hne => by
      unfold nx; rw [pt_row, pt_row, T.row hu H hne]) l1 l2
    show nx (wsh h) (Sq (nx (wsh h)) (trd h) s) v ∈ _
    rw [ht]
    exact this

theorem copy_run (H : Ready g) : (f22v1 g).run = some (g.Vertices, g.Depots, g.Edges) := by
  have h1 := H.small.v
  have h2 := H.small.e
  have h3 := H.small.d
  simp only [f22v1]
  rw [ap_s (by simp; unfold bigLen; omega), ap_s (by simp; unfold bigLen; omega), ap_s (by simp; unfold bigLen; omega), r_ret]
  simp

theorem twist_run (H : Ready g) (p6 : List Int) (h6 : ∀ a ∈ p6, inI64 a) (v : Vertex) : ∃ es, loopN fuel (fun s : Int × Int × List Edge => (f6.l1 p6 true g v (g.Vertices, g.Depots, g.Edges) s.1 s.2.1 s.2.2).run) ((0 : Int), (0 : Int), g.Edges) = some (.a es) ∧
    Twist g ⟨g.Vertices, es, g.Depots⟩ v.ID ∧ ∀ e ∈ es, EOk e := by
  have hse := H.e
  have hk0 : ∀ j (h : j < g.Edges.length), EOk g.Edges[j] := fun j h => (H.gv.e _ (List.getElem_mem h)).1
  obtain ⟨q, hq, es, rfl, q1, q2⟩ := loop_ix (A := Nat × List Edge) (f := fun s : Int × Int × List Edge => (f6.l1 p6 true g v (g.Vertices, g.Depots, g.Edges) s.1 s.2.1 s.2.2).run) (n := g.Edges.length) (fun i a => ((a.1 : Int), (i : Int), a.2))
    (fun i a => a.1 ≤ i ∧ a.2.length = g.Edges.length ∧ ∀ j (h : j < a.2.length) (h' : j < g.Edges.length), (a.2[j].ID = g.Edges[j].ID ∧ a.2[j].From = g.Edges[j].From ∧ a.2[j].To = g.Edges[j].To ∧ a.2[j].Directed = g.Edges[j].Directed ∧ (g.Edges[j].From ≠ v.ID → a.2[j] = g.Edges[j])) ∧ EOk a.2[j])
    (fun q => ∃ es, q = .a es ∧ es.length = g.Edges.length ∧ ∀ j (h : j < es.length) (h' : j < g.Edges.length), (es[j].ID = g.Edges[j].ID ∧ es[j].From = g.Edges[j].From ∧ es[j].To = g.Edges[j].To ∧ es[j].Directed = g.Edges[j].Directed ∧ (g.Edges[j].From ≠ v.ID → es[j] = g.Edges[j])) ∧ EOk es[j])
    (fun i a hi ⟨a0, a1, a2⟩ => by
      obtain ⟨k, a⟩ := a
      simp only at a0 a1 a2
      have hil : i < a.length := by omega
      have hx : a[i]? = some a[i] := List.getElem?_eq_getElem hil
      obtain ⟨⟨b1, b2, b3, b4, b5⟩, b6⟩ := a2 i hil hi
      have hxL : (i : Int) < ((L a : Nat) : Int) := by rw [L_eq]; omega
      simp only [f6.l1, r_brr, r_join1, br_dec, if_pos hxL, succ_wr hi (by omega)]
      have hck : ∀ {β : Type} {k : Pg β}, (ck (i : Int) (L a) k).run = k.run := fun {β k} => ck_t ⟨by omega, hxL⟩
      rw [hck, at0_nat, rd_s hx, r_brr]
      cases hd : a[i].Directed with
      | false =>
        rw [br_f, r_ret, bd_s, ex_a, br_f, r_ret]
        exact .inl ⟨(k, a), rfl, by simp only; omega, a1, a2⟩
      | true =>
        rw [br_t, hck, rd_s hx, r_ret, bd_s, ex_a]
        by_cases hc : a[i].From = v.ID ∧ k < p6.length
        · have e1 : ((a[i].From == v.ID) && (decide ((k : Int) < ((L p6 : Nat) : Int)))) = true := by rw [L_eq]; simp; exact hc
          have h6k := h6 _ (List.getElem_mem hc.2)
          have hp := pk_range h6k (n := 2001) (by omega)
          have w : IntKind.i64.wrap (pk p6[k] 2001 - 1000) = pk p6[k] 2001 - 1000 := wr
          rw [e1, br_t, getR_s (List.getElem?_eq_getElem hc.2), r_cl, pick18 (by omega), bd_s, hck, st_s hx, r_ret, succ_wr (Nat.lt_succ_self k) (by omega), w]
          refine .inl ⟨(k + 1, _), rfl, by simp only; omega, by simp only; rw [List.length_set]; exact a1, ?_⟩
          intro j hj hj'
          simp only at hj ⊢
          rw [List.length_set] at hj
          simp only [List.getElem_set]
          by_cases e : i = j
          · subst e
            simp only [if_pos]
            refine ⟨⟨b1, b2, b3, by rw [← b4, hd], fun hne => absurd (b2.symm.trans hc.1) hne⟩, ⟨b6.id, b6.fr, b6.to, by simp only; omega, b6.cap⟩⟩
          · simp only [if_neg e]; exact a2 j hj hj'
        · have e1 : ((a[i].From == v.ID) && (decide ((k : Int) < ((L p6 : Nat) : Int)))) = false := by
            rw [L_eq]
            cases h : (a[i].From == v.ID) && (decide ((k : Int) < (p6.length : Int))) with
            | false => rfl
            | true => simp at h; exact absurd h hc
          rw [e1, br_f, r_ret]
          exact .inl ⟨(k, a), rfl, by simp only; omega, a1, a2⟩)
    (fun a ⟨a0, a1, a2⟩ => by
      obtain ⟨k, a⟩ := a
      simp only at a1 a2
      refine ⟨.a a, ?_, a, rfl, a1, a2⟩
      simp only [f6.l1, r_brr, L_eq, a1, cast_lt_f (Nat.lt_irrefl _), br_f, r_ret])
    (k := fuel) (by have := fuel_pos; omega) (a := (0, g.Edges)) ⟨by simp, rfl, fun j h h' => ⟨⟨rfl, rfl, rfl, rfl, fun _ => rfl⟩, hk0 j h⟩⟩
  refine ⟨es, hq, ⟨rfl, q1, fun i hi hj => (q2 i hi hj).1⟩, fun e he => ?_⟩
  obtain ⟨i, hi, rfl⟩ := List.getElem_of_mem he
  exact (q2 i hi (by omega)).2

theorem Twist.ready (H : Ready g) {v : Int} {es : List Edge} (T : Twist g ⟨g.Vertices, es, g.Depots⟩ v) (he : ∀ e ∈ es, EOk e) : Ready ⟨g.Vertices, es, g.Depots⟩ := by
  have hl : es.length = g.Edges.length := T.len
  refine ⟨⟨H.small.v, by simp only; rw [hl]; exact H.small.e, H.small.d⟩, by simp only; rw [hl]; exact H.e, ⟨H.gv.va, ?_, H.gv.da, H.gv.v, ?_, H.gv.d, H.gv.dn⟩⟩
  · intro i j hi hj hij
    simp only at hi hj ⊢
    have a := (T.e i hi (by omega)).1
    have b := (T.e j hj (by omega)).1
    simp only at a b
    rw [a, b]
    exact H.gv.ea i j (by omega) (by omega) hij
  · intro e hm
    simp only at hm
    refine ⟨he e hm, ?_⟩
    obtain ⟨i, hi, rfl⟩ := List.getElem_of_mem hm
    obtain ⟨_, e2, e3, _⟩ := T.e i hi (by omega)
    simp only at e2 e3
    have := (H.gv.e _ (List.getElem_mem (show i < g.Edges.length by omega))).2
    rw [e2, e3]
    exact this

theorem truthful_true {p1 p4 p5 : Int} {p2 : List A5_Int} {p3 : Bool} {p6 : List Int} (h1 : inI64 p1) (h4 : inI64 p4) (h5 : inI64 p5) (h2 : ∀ a ∈ p2, A5ok a) (h6 : ∀ a ∈ p6, inI64 a) : (f6 p1 p2 p3 p4 p5 p6).run = some true := by
  obtain ⟨g, hg, H, hne⟩ := made_run (p3 := p3) h1 h4 h2
  have hsv := H.small.v
  have hpos : 0 < g.Vertices.length := List.length_pos_iff.2 hne
  have hp := pk_range h5 (n := (g.Vertices.length : Int)) (by omega)
  obtain ⟨i, hi⟩ : ∃ i : Nat, pk p5 (g.Vertices.length : Int) = (i : Int) := ⟨(pk p5 (g.Vertices.length : Int)).toNat, by omega⟩
  have hil : i < g.Vertices.length := by omega
  have hx := List.getElem?_eq_getElem hil
  have hm : g.Vertices[i] ∈ g.Vertices := List.getElem_mem hil
  generalize g.Vertices[i] = v at hx hm
  have hid := (H.gv.v _ hm).id
  simp only [f6]
  rw [r_cl, sane_run, bd_s, r_brr, Bool.not_true, br_f, r_cl, hg, bd_s, r_cl, L_eq, pick18 (by omega), bd_s, hi, getR_s hx, r_cl, trader_run H.small H.gv.va, bd_s, r_brr]
  by_cases hv : v.ID ∈ trd g
  · obtain ⟨es, t1, T, t2⟩ := twist_run H p6 h6 v
    have H' := T.ready H t2
    obtain ⟨N, rx, ex, nn, hl, hr, O⟩ := labels_rounds H
    obtain ⟨N', rx', ex', nn', hl', hr', O'⟩ := labels_rounds H'
    have ho := outcome_run H hl
    have ho' := outcome_run H' hl'
    obtain ⟨r, L⟩ := leaves_of O hv
    obtain ⟨c1, c2⟩ := truthful H H' hv T O O'
    have g1 := get_t H (f := ex) hv
    have g2 : (tab24 (tabf ⟨g.Vertices, es, g.Depots⟩ ex'))[v.ID.toNat]? = some (ex' v.ID) := get_t H' (f := ex') (by rw [T.trd]; exact hv)
    rw [decide_eq_true hv, Bool.not_true, br_f, r_cl, copy_run H, bd_s, r_loop1, t1, bd_s, ex_a, r_cl, ho, bd_s, r_cl]
    simp only [ho']
    rw [bd_s, r_brr]
    simp only [Bool.not_true, Bool.or_self, br_f]
    rw [ck_t (by omega), rd_s g2, ck_t (by omega), rd_s g1, r_cl, prefers_run H, if_pos ⟨hv, c1, L.exn H⟩, bd_s, r_ret, decide_eq_false c2]
    rfl
  · rw [decide_eq_false hv, Bool.not_false, br_t, r_ret]
end Trd
end Go.Fx.Gen
