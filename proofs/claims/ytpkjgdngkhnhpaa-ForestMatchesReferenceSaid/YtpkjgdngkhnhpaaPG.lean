/- Graphs that integers determine: valid, and not empty. -/
import Derived.Test.YtpkjgdngkhnhpaaPF
import Derived.Test.YtpkjgdngkhnhpaaG3
namespace Go.Fw.Gen
open Go.Fw
theorem wrap_range (x : Int) : inI64 (IntKind.i64.wrap x) := by
 unfold inI64
 rw [IntKind.wrap_i64]
 omega
theorem tdiv_range {x : Int} (h : inI64 x) (k : Int) (hk : 1 ≤ k) : inI64 (x.tdiv k) := by
 unfold inI64 at *
 rw [← IntWalk.i64_quo' x k ⟨h.1, h.2, hk⟩]
 exact wrap_range _
theorem pickZ_range {c n : Int} (hn : 0 < n) : 0 ≤ pickZ c n ∧ pickZ c n < n := by
 unfold pickZ
 split
 ·exact ⟨Int.emod_nonneg _ (by omega), Int.emod_lt_of_pos _ hn⟩
 ·exact ⟨Int.emod_nonneg _ (by omega), Int.emod_lt_of_pos _ hn⟩
theorem pick_core {c n : Int} (hc : inI64 c) (hn : 0 < n) :
  br (decide (c < 0)) (gd (n ≠ 0) <| some ((IntKind.i64.wrap (0 - (IntKind.i64.wrap (c + 1)))).tmod n)) (gd (n ≠ 0) <| some (c.tmod n)) = some (pickZ c n) := by
 unfold inI64 at hc
 have h0 : n ≠ 0 := by omega
 rw [br_dec, gd_t h0, gd_t h0]
 unfold pickZ
 by_cases h : c < 0
 ·rw [if_pos h, if_pos h, wr (n := c + 1), wr, Int.tmod_eq_emod_of_nonneg (by omega)]
  congr 2; omega
 ·rw [if_neg h, if_neg h, Int.tmod_eq_emod_of_nonneg (by omega)]
theorem pick3_eq {c n : Int} (hc : inI64 c) (hn : 0 < n) : r3pick c n = some (pickZ c n) := pick_core hc hn
theorem loop_collect {α R : Type} (f : Int × List α → Option (Nx (Int × List α) R)) (n : Nat) (P : Nat → α → Prop) (Q : R → Prop) (hn : n ≤ 1000000)
  (hs : ∀ (i : Nat) (a : List α), i < n → a.length = i → (∀ (j : Nat) (x : α), a[j]? = some x → P j x) → ∃ x, f ((i : Int), a) = some (.cont (((i + 1 : Nat) : Int), a ++ [x])) ∧ P i x)
  (he : ∀ (a : List α), a.length = n → (∀ (j : Nat) (x : α), a[j]? = some x → P j x) → ∃ r, f ((n : Int), a) = some (.done r) ∧ Q r) : ∃ r, loopN fuel f (0, []) = some r ∧ Q r := by
 refine loopN_of (f := f) (fun s => ∃ (i : Nat) (a : List α), s = ((i : Int), a) ∧ i ≤ n ∧ a.length = i ∧ ∀ (j : Nat) (x : α), a[j]? = some x → P j x) Q (fun s => n - s.2.length) ?_ fuel (0, []) ⟨0, [], rfl, by omega, rfl, by simp⟩ (by have := fuel_pos; simp; omega)
 rintro s ⟨i, a, rfl, hi, ha, hP⟩
 by_cases h : i = n
 ·subst h
  obtain ⟨r, h1, h2⟩ := he a ha hP
  exact .inr ⟨r, h1, h2⟩
 ·obtain ⟨x, h1, h2⟩ := hs i a (by omega) ha hP
  refine .inl ⟨_, h1, ⟨i + 1, a ++ [x], rfl, by omega, by simp [ha], ?_⟩, by simp; omega⟩
  intro j y hj
  rcases Nat.lt_or_ge j a.length with h3 | h3
  ·rw [List.getElem?_append_left h3] at hj; exact hP j y hj
  ·have h4 := (List.getElem?_eq_some_iff.1 hj).1
   have : j = a.length := by simp at h4; omega
   subst this
   simp at hj
   subst hj; rw [ha]; exact h2
structure A5ok (x : A5_Int) : Prop where
 x0 : inI64 x.x0
 x1 : inI64 x.x1
 x2 : inI64 x.x2
 x3 : inI64 x.x3
 x4 : inI64 x.x4
theorem asc_of {α : Type} (id : α → Int) (l : List α) (h : ∀ (i j : Nat) (x y : α), i < j → l[i]? = some x → l[j]? = some y → id x < id y) : (l.map id).Pairwise (· < ·) := by
 rw [List.pairwise_iff_getElem]
 intro i j hi hj hij
 simp only [List.getElem_map]
 exact h i j _ _ hij (by simp) (by simp)
theorem Made_eq {n : Int} {l : List A5_Int} {wide : Bool} (hn : inI64 n) (hl : ∀ x ∈ l, A5ok x) :
  ∃ g, r3Made n l wide = some g ∧ VG g ∧ SmallG g ∧ validP g = true ∧ 0 < g.Vertices.length := by
 obtain ⟨many, hmany, hm1, hm2, hmade⟩ : ∃ many : Nat, 1 ≤ many ∧ (wide = false → many ≤ 8) ∧ many ≤ 18 ∧
   r3Made n l wide = bd (loopN fuel (r3Made.l2 n l wide (many : Int)) (0, [])) fun q41 => some (Graph.mk q41.1 q41.2.1 q41.2.2) := by
  have hp := pickZ_range (c := n) (n := 8) (by decide)
  unfold r3Made
  rw [pick3_eq hn (by decide), bd_s]
  cases wide with
  | true =>
   refine ⟨(11 + pickZ n 8).toNat, by omega, by simp, by omega, ?_⟩
   rw [br_t]
   have e1 : IntKind.i64.wrap (1 + pickZ n 8) = 1 + pickZ n 8 := wr
   have e2 : IntKind.i64.wrap (1 + pickZ n 8 + 10) = (((11 + pickZ n 8).toNat : Nat) : Int) := by rw [wr]; omega
   rw [e1, e2]
  | false =>
   refine ⟨(1 + pickZ n 8).toNat, by omega, by intro _; omega, by omega, ?_⟩
   rw [br_f]
   have e1 : IntKind.i64.wrap (1 + pickZ n 8) = (((1 + pickZ n 8).toNat : Nat) : Int) := by rw [wr]; omega
   rw [e1]
 have hr : ∀ k : Int, 1 ≤ k → inI64 (IntKind.i64.wrap (n.tdiv k)) := fun k hk => wrap_range _
 obtain ⟨idf, hid, hidle⟩ : ∃ idf : Nat → Int, (∀ i, i < many → idf i = if (!wide && pickZ (IntKind.i64.wrap (n.tdiv 8)) 2 == 1) then ((i + i / 2 : Nat) : Int) else (i : Int)) ∧ (∀ i, i < many → 0 ≤ idf i ∧ idf i ≤ 23) ∧ ∀ i j, i < j → j < many → idf i < idf j := by
  refine ⟨fun i => if (!wide && pickZ (IntKind.i64.wrap (n.tdiv 8)) 2 == 1) then ((i + i / 2 : Nat) : Int) else (i : Int), fun i _ => rfl, fun i hi => ?_, fun i j hij hj => ?_⟩
  ·simp only
   split
   ·rename_i hw
    have hw' : wide = false := by simp at hw; exact hw.1
    have := hm1 hw'
    omega
   ·omega
  ·simp only
   split <;> omega
 obtain ⟨hidr, hidm⟩ := hidle
 have main := loop_collect (r3Made.l2 n l wide (many : Int)) many (fun i v => v.ID = idf i ∧ 0 ≤ v.Side ∧ v.Side ≤ 3)
  (fun r => VG (Graph.mk r.1 r.2.1 r.2.2) ∧ SmallG (Graph.mk r.1 r.2.1 r.2.2) ∧ validP (Graph.mk r.1 r.2.1 r.2.2) = true ∧ 0 < r.1.length) (by omega)
  (by
   intro i a hi ha hP
   have e1 : IntKind.i64.wrap ((i : Int) + 1) = ((i + 1 : Nat) : Int) := by rw [wr]; omega
   have hgd : ∀ v : Vertex, (a ++ [v]).length ≤ bigLen := by intro v; rw [List.length_append, List.length_singleton]; unfold bigLen; omega
   have hside : ∀ c : Int, inI64 c → 0 ≤ pickZ c 4 ∧ pickZ c 4 ≤ 3 := by intro c _; have := pickZ_range (c := c) (n := 4) (by decide); omega
   unfold r3Made.l2
   rw [br_dec, if_pos (by simp only; omega)]
   simp only
   cases wide with
   | true =>
    rw [show (!true) = false from rfl, br_f, pick3_eq (hr 64 (by decide)) (by decide), bd_s, pick3_eq (wrap_range _) (by decide), bd_s, gd_t (hgd _), e1]
    refine ⟨_, rfl, ?_, hside _ (wrap_range _)⟩
    rw [hid i hi]; rfl
   | false =>
    rw [show (!false) = true from rfl, br_t, pick3_eq (hr 8 (by decide)) (by decide), bd_s, br_if]
    by_cases hb : pickZ (IntKind.i64.wrap (n.tdiv 8)) 2 = 1
    ·rw [if_pos (by simpa using hb), pick3_eq (hr 64 (by decide)) (by decide), bd_s, pick3_eq (wrap_range _) (by decide), bd_s, gd_t (hgd _), e1]
     refine ⟨_, rfl, ?_, hside _ (wrap_range _)⟩
     rw [hid i hi, if_pos (by simpa using hb)]
     have e2 : IntKind.i64.wrap ((i : Int).tdiv 2) = ((i / 2 : Nat) : Int) := by
      rw [Int.tdiv_eq_ediv_of_nonneg (by omega), wr] <;> omega
     show IntKind.i64.wrap ((i : Int) + IntKind.i64.wrap ((i : Int).tdiv 2)) = _
     rw [e2, wr]; omega
    ·rw [if_neg (by simpa using hb), pick3_eq (hr 64 (by decide)) (by decide), bd_s, pick3_eq (wrap_range _) (by decide), bd_s, gd_t (hgd _), e1]
     refine ⟨_, rfl, ?_, hside _ (wrap_range _)⟩
     rw [hid i hi, if_neg (by simpa using hb)])
  (by
   intro vs hvl hvP
   unfold r3Made.l2
   rw [br_dec, if_neg (by simp only; omega)]
   simp only
   have hget : ∀ i, i < many → ∃ v, vs[i]? = some v ∧ v.ID = idf i := fun i hi => ⟨vs[i]'(by omega), by simp, (hvP i _ (by simp)).1⟩
   have hbase := pickZ_range (c := IntKind.i64.wrap (n.tdiv 4)) (n := 20) (by decide)
   have hedges := loop_collect (r3Made.l1 n l (many : Int) vs) (min l.length 20)
    (fun i e => e.ID = (i : Int) + pickZ (IntKind.i64.wrap (n.tdiv 4)) 20 ∧ (∃ v ∈ vs, v.ID = e.From) ∧ (∃ v ∈ vs, v.ID = e.To) ∧ -1000 ≤ e.Weight ∧ e.Weight ≤ 1000 ∧ 0 ≤ e.Cap ∧ e.Cap ≤ 1000)
    (fun r => (r.1.length ≤ 20 ∧ ∀ (i : Nat) (e : Edge), r.1[i]? = some e → e.ID = (i : Int) + pickZ (IntKind.i64.wrap (n.tdiv 4)) 20 ∧ (∃ v ∈ vs, v.ID = e.From) ∧ (∃ v ∈ vs, v.ID = e.To) ∧ -1000 ≤ e.Weight ∧ e.Weight ≤ 1000 ∧ 0 ≤ e.Cap ∧ e.Cap ≤ 1000) ∧
     r.2.length ≤ 3 ∧ ∀ (i : Nat) (d : Int), r.2[i]? = some d → ∃ v, vs[i]? = some v ∧ v.ID = d) (by omega)
    (by
     intro i a hi ha hP
     have e1 : IntKind.i64.wrap ((i : Int) + 1) = ((i + 1 : Nat) : Int) := by rw [wr]; omega
     have hgd : ∀ v : Edge, (a ++ [v]).length ≤ bigLen := by intro v; rw [List.length_append, List.length_singleton]; unfold bigLen; omega
     have hx : l[i]? = some (l[i]'(by omega)) := by simp
     generalize l[i]'(by omega) = x at hx
     have hxo := hl x (List.mem_of_getElem? hx)
     have hmz : (0 : Int) < (many : Int) := by omega
     have p0 := pickZ_range (c := x.x0) hmz
     have p1 := pickZ_range (c := x.x1) hmz
     have p3 := pickZ_range (c := x.x3) (n := 12) (by decide)
     have p3' := pickZ_range (c := x.x3) (n := 2001) (by decide)
     have p4 := pickZ_range (c := x.x4) (n := 6) (by decide)
     obtain ⟨v0, g0, _⟩ := hget (pickZ x.x0 many).toNat (by omega)
     obtain ⟨v1, g1, _⟩ := hget (pickZ x.x1 many).toNat (by omega)
     have b0 : 0 ≤ (pickZ x.x0 many : Int) ∧ (pickZ x.x0 many : Int) < ((vs.length : Nat) : Int) := by omega
     have b1 : 0 ≤ (pickZ x.x1 many : Int) ∧ (pickZ x.x1 many : Int) < ((vs.length : Nat) : Int) := by omega
     have eid : IntKind.i64.wrap ((i : Int) + pickZ (IntKind.i64.wrap (n.tdiv 4)) 20) = (i : Int) + pickZ (IntKind.i64.wrap (n.tdiv 4)) 20 := by rw [wr]
     have ew : IntKind.i64.wrap (pickZ x.x3 12 - 3) = pickZ x.x3 12 - 3 := wr
     have ew' : IntKind.i64.wrap (pickZ x.x3 2001 - 1000) = pickZ x.x3 2001 - 1000 := wr
     unfold r3Made.l1
     rw [br_dec, if_pos (by simp only; omega), br_dec, if_pos (by simp only; omega)]
     simp only
     rw [pick3_eq (hr 4 (by decide)) (by decide), bd_s]
     simp only [getR_s hx]
     rw [pick3_eq hxo.x0 hmz, bd_s, gd_t b0, Nat.zero_add, g0, bd_s, pick3_eq hxo.x1 hmz, bd_s, gd_t b1, Nat.zero_add, g1, bd_s, pick3_eq hxo.x2 (by decide), bd_s, pick3_eq hxo.x3 (by decide), bd_s,
      pick3_eq hxo.x4 (by decide), bd_s, pick3_eq hxo.x4 (by decide), bd_s, br_if, pick3_eq hxo.x3 (by decide), bd_s, gd_t (hgd _), gd_t (hgd _), eid, ew, ew', e1]
     have m0 := List.mem_of_getElem? g0
     have m1 := List.mem_of_getElem? g1
     split
     ·exact ⟨_, rfl, rfl, ⟨v0, m0, rfl⟩, ⟨v1, m1, rfl⟩, by simp only; omega, by simp only; omega, by simp only; omega, by simp only; omega⟩
     ·exact ⟨_, rfl, rfl, ⟨v0, m0, rfl⟩, ⟨v1, m1, rfl⟩, by simp only; omega, by simp only; omega, by simp only; omega, by simp only; omega⟩)
    (by
     intro es hel heP
     have pd := pickZ_range (c := IntKind.i64.wrap (n.tdiv 32)) (n := 4) (by decide)
     have hdep := loop_collect (r3Made.l0 n (many : Int) vs es) (min (pickZ (IntKind.i64.wrap (n.tdiv 32)) 4).toNat many) (fun i d => ∃ v, vs[i]? = some v ∧ v.ID = d)
      (fun r => r.length ≤ 3 ∧ ∀ (i : Nat) (d : Int), r[i]? = some d → ∃ v, vs[i]? = some v ∧ v.ID = d) (by omega)
      (by
       intro i a hi ha hP
       have e1 : IntKind.i64.wrap ((i : Int) + 1) = ((i + 1 : Nat) : Int) := by rw [wr]; omega
       obtain ⟨v, g0, _⟩ := hget i (by omega)
       have b0 : 0 ≤ (i : Int) ∧ (i : Int) < ((vs.length : Nat) : Int) := by omega
       unfold r3Made.l0
       rw [pick3_eq (hr 32 (by decide)) (by decide), bd_s, br_dec, if_pos (by simp only; omega), br_dec, if_pos (by simp only; omega)]
       simp only
       rw [gd_t b0, Nat.zero_add, show (i : Int).toNat = i by omega, g0, bd_s, gd_t (by rw [List.length_append, List.length_singleton]; unfold bigLen; omega), e1]
       exact ⟨_, rfl, v, rfl, rfl⟩)
      (by
       intro a ha hP
       unfold r3Made.l0
       rw [pick3_eq (hr 32 (by decide)) (by decide), bd_s, br_dec]
       simp only
       split
       ·rw [br_dec, if_neg (by omega)]
        exact ⟨a, rfl, by omega, hP⟩
       ·exact ⟨a, rfl, by omega, hP⟩)
     obtain ⟨ds, hds, d1, d2⟩ := hdep
     unfold r3Made.l1
     rw [br_dec]
     simp only
     split
     ·rw [br_dec, if_neg (by omega), hds, bd_s]
      exact ⟨_, rfl, ⟨by simp only; omega, heP⟩, d1, d2⟩
     ·rw [hds, bd_s]
      exact ⟨_, rfl, ⟨by simp only; omega, heP⟩, d1, d2⟩)
   obtain ⟨⟨es, ds⟩, hes, ⟨q1, q2⟩, q3, q4⟩ := hedges
   simp only at q1 q2 q3 q4
   rw [hes, bd_s]
   refine ⟨_, rfl, ?_⟩
   simp only
   have hasc : (vs.map (·.ID)).Pairwise (· < ·) := by
    refine asc_of _ _ fun i j x y hij hx hy => ?_
    have hj := (List.getElem?_eq_some_iff.1 hy).1
    show x.ID < y.ID
    rw [(hvP i x hx).1, (hvP j y hy).1]
    exact hidm i j hij (by omega)
   have heasc : (es.map (·.ID)).Pairwise (· < ·) := by
    refine asc_of _ _ fun i j x y hij hx hy => ?_
    show x.ID < y.ID
    rw [(q2 i x hx).1, (q2 j y hy).1]; omega
   have hvid : ∀ v ∈ vs, 0 ≤ v.ID ∧ v.ID ≤ 23 := by
    intro v hv
    obtain ⟨i, hi⟩ := List.getElem?_of_mem hv
    have := (List.getElem?_eq_some_iff.1 hi).1
    rw [(hvP i v hi).1]; exact hidr i (by omega)
   have hends : ∀ e ∈ es, hasV ⟨vs, es, ds⟩ e.From = true ∧ hasV ⟨vs, es, ds⟩ e.To = true := by
    intro e he
    obtain ⟨i, hi⟩ := List.getElem?_of_mem he
    obtain ⟨_, a, b, _⟩ := q2 i e hi
    exact ⟨hasV_iff.2 a, hasV_iff.2 b⟩
   have heid : ∀ e ∈ es, 0 ≤ e.ID ∧ e.ID ≤ 39 := by
    intro e he
    obtain ⟨i, hi⟩ := List.getElem?_of_mem he
    have := (List.getElem?_eq_some_iff.1 hi).1
    rw [(q2 i e hi).1]; omega
   have hVG : VG ⟨vs, es, ds⟩ := ⟨hends, hasc, heasc, hvid, heid⟩
   refine ⟨hVG, ⟨by simp only; omega, by simp only; omega, by simp only; omega⟩, ?_, by omega⟩
   unfold validP
   simp only [Bool.and_eq_true, List.all_eq_true, decide_eq_true_eq]
   refine ⟨ascB_iff.2 hasc, ascB_iff.2 heasc, ?_, ?_, q3, ?_, ?_⟩
   ·intro v hv
    obtain ⟨i, hi⟩ := List.getElem?_of_mem hv
    obtain ⟨_, a, b⟩ := hvP i v hi
    have := hvid v hv
    unfold okV
    simp only [Bool.and_eq_true, decide_eq_true_eq]
    omega
   ·intro e he
    obtain ⟨i, hi⟩ := List.getElem?_of_mem he
    obtain ⟨_, ⟨v, hv, ev⟩, ⟨u, hu, eu⟩, b1, b2, b3, b4⟩ := q2 i e hi
    have := heid e he
    have := hvid v hv
    have := hvid u hu
    unfold okE
    simp only [Bool.and_eq_true, decide_eq_true_eq]
    refine ⟨by omega, hends e he⟩
   ·have := asc_of (fun d : Int => d) ds (fun i j x y hij hx hy => by
     obtain ⟨v, hv, ev⟩ := q4 i x hx
     obtain ⟨u, hu, eu⟩ := q4 j y hy
     have hj := (List.getElem?_eq_some_iff.1 hu).1
     rw [← ev, ← eu, (hvP i v hv).1, (hvP j u hu).1]
     exact hidm i j hij (by omega))
    rw [List.map_id'] at this
    exact ascB_iff.2 this
   ·intro d hd
    obtain ⟨i, hi⟩ := List.getElem?_of_mem hd
    obtain ⟨v, hv, ev⟩ := q4 i d hi
    exact hasV_iff.2 ⟨v, List.mem_of_getElem? hv, ev⟩)
 obtain ⟨⟨vs, es, ds⟩, h1, h2, h3, h4, h5⟩ := main
 exact ⟨⟨vs, es, ds⟩, by rw [hmade, h1, bd_s], h2, h3, h4, h5⟩
end Go.Fw.Gen
