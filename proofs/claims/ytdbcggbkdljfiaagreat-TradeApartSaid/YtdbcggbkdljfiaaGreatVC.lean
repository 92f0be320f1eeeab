/- Trade: what plays no part, and a wish that is not wished for more. -/
import Derived.Test.YtdbcggbkdljfiaaGreatVB
namespace Go.Fx.Gen
open Go.Fx Go.Proofs
set_option linter.unusedVariables false
namespace Trd
open Go.TT
variable {g : Graph}

/-! Sides other than trader. -/
def VR (a b : Vertex) : Prop := b.ID = a.ID ∧ (b.Side = 3 ↔ a.Side = 3) ∧ 0 ≤ b.Side ∧ b.Side ≤ 3

theorem sides_run {l : List Vertex} (hl : l.length < 1000000000) (hv : ∀ v ∈ l, VOk v) {p : List Int} (hp : ∀ n ∈ p, inI64 n) :
    ∃ l', loopN fuel (fun s : Int × List Vertex => (f5.l1 p s.1 s.2).run) ((0 : Int), l) = some (.a l') ∧ l'.length = l.length ∧ ∀ i (h : i < l.length) (h' : i < l'.length), VR l[i] l'[i] := by
  obtain ⟨q, hq, l', rfl, h1, h2⟩ := loop_of (f := fun s : Int × List Vertex => (f5.l1 p s.1 s.2).run)
    (fun s => ∃ i : Nat, s.1 = (i : Int) ∧ i ≤ l.length ∧ s.2.length = l.length ∧ ∀ i (h : i < l.length) (h' : i < s.2.length), VR l[i] s.2[i])
    (fun q => ∃ l', q = .a l' ∧ l'.length = l.length ∧ ∀ i (h : i < l.length) (h' : i < l'.length), VR l[i] l'[i]) (fun s => l.length - s.1.toNat)
    (fun s hs => by
      obtain ⟨j, m⟩ := s
      obtain ⟨i, rfl, h1, h2, h3⟩ := hs
      dsimp only at h2 h3 ⊢
      simp only [f5.l1, r_brr, L_eq]
      by_cases hlt : i < m.length ∧ i < p.length
      · have hx := List.getElem?_eq_getElem hlt.1
        have hpx := List.getElem?_eq_getElem hlt.2
        rw [decide_eq_true (show (i : Int) < (m.length : Int) by omega), decide_eq_true (show (i : Int) < (p.length : Int) by omega), Bool.and_self, br_t, ck_t (by omega), at0_nat, rd_s hx, r_brr]
        by_cases h3' : m[i].Side = 3
        · rw [show (m[i].Side != 3) = false by simp [h3'], br_f, r_ret, succ_wr hlt.1 (by omega)]
          exact .inl ⟨_, rfl, ⟨i + 1, rfl, by omega, h2, h3⟩, by simp; omega⟩
        · have hr := pk_range (hp _ (List.getElem_mem hlt.2)) (n := 3) (by omega)
          rw [show (m[i].Side != 3) = true by simp [h3'], br_t, getR_s hpx, r_cl, pick18 (by omega), bd_s, ck_t (by omega), st_s hx, r_ret, succ_wr hlt.1 (by omega)]
          refine .inl ⟨_, rfl, ⟨i + 1, rfl, by omega, by simp [h2], fun k hk hk' => ?_⟩, by simp; omega⟩
          simp only [List.getElem_set]
          by_cases e : i = k
          · subst e
            rw [if_pos rfl]
            have := h3 i hk hlt.1
            refine ⟨this.1, ⟨fun e => ?_, fun e => ?_⟩, ?_, ?_⟩
            · have e : pk p[i] 3 = 3 := e
              omega
            · exact absurd (this.2.1.2 e) h3'
            · exact hr.1
            · show pk p[i] 3 ≤ 3
              omega
          · rw [if_neg e]; exact h3 k hk _
      · rw [show (decide ((i : Int) < (m.length : Int)) && decide ((i : Int) < (p.length : Int))) = false by rw [Bool.and_eq_false_iff, decide_eq_false_iff_not, decide_eq_false_iff_not]; omega, br_f, r_ret]
        exact .inr ⟨_, rfl, m, rfl, h2, h3⟩)
    fuel ((0 : Int), l) ⟨0, rfl, by omega, rfl, fun i h _ => ⟨rfl, Iff.rfl, (hv _ (List.getElem_mem h)).side⟩⟩ (by have := fuel_pos; simp; omega)
  exact ⟨l', hq, h1, h2⟩

/-! Capacities, and weights of what is no wish. -/
def wl (T : List Int) (a : Edge) : Bool := a.Directed && (a.From != a.To && (decide (a.From ∈ T) && decide (a.To ∈ T)))
structure ER (T : List Int) (a b : Edge) : Prop where
  id : b.ID = a.ID
  fr : b.From = a.From
  to : b.To = a.To
  dr : b.Directed = a.Directed
  sm : wl T a = true → b.Weight = a.Weight
  wt : -1000 ≤ b.Weight ∧ b.Weight ≤ 1000
  cap : 0 ≤ b.Cap ∧ b.Cap ≤ 1000

theorem weights_run {vs : List Vertex} (hvl : vs.length < 1000000000) (hA : Asc Vertex.ID vs) {l : List Edge} (hl : l.length < 1000000000) (hv : ∀ e ∈ l, EOk e) {p : List Int} (hp : ∀ n ∈ p, inI64 n) (p5 p6 : Int) (y7 : Bool) (y8 : Graph) (y9 : (List Named) × Int) :
    ∃ l', loopN fuel (fun s : Int × List Edge => (f5.l2 p p5 p6 y7 y8 y9 vs s.1 s.2).run) ((0 : Int), l) = some (.a l') ∧ l'.length = l.length ∧ ∀ i (h : i < l.length) (h' : i < l'.length), ER (trs vs) l[i] l'[i] := by
  obtain ⟨q, hq, l', rfl, h1, h2⟩ := loop_of (f := fun s : Int × List Edge => (f5.l2 p p5 p6 y7 y8 y9 vs s.1 s.2).run)
    (fun s => ∃ i : Nat, s.1 = (i : Int) ∧ i ≤ l.length ∧ s.2.length = l.length ∧ ∀ i (h : i < l.length) (h' : i < s.2.length), ER (trs vs) l[i] s.2[i])
    (fun q => ∃ l', q = .a l' ∧ l'.length = l.length ∧ ∀ i (h : i < l.length) (h' : i < l'.length), ER (trs vs) l[i] l'[i]) (fun s => l.length - s.1.toNat)
    (fun s hs => by
      obtain ⟨j, m⟩ := s
      obtain ⟨i, rfl, h1, h2, h3⟩ := hs
      dsimp only at h2 h3 ⊢
      simp only [f5.l2, r_brr, L_eq]
      by_cases hlt : i < m.length ∧ i < p.length
      · have hx := List.getElem?_eq_getElem hlt.1
        have hpx := List.getElem?_eq_getElem hlt.2
        have hr := pk_range (hp _ (List.getElem_mem hlt.2)) (n := 9) (by omega)
        have hr5 := pk_range (hp _ (List.getElem_mem hlt.2)) (n := 50) (by omega)
        have hE := h3 i (by omega) hlt.1
        rw [decide_eq_true (show (i : Int) < (m.length : Int) by omega), decide_eq_true (show (i : Int) < (p.length : Int) by omega), Bool.and_self, br_t, ck_t (by omega), at0_nat, rd_s hx, getR_s hpx, r_cl, pick18 (by omega), bd_s]
        have hml : (m.set i (Edge.mk m[i].ID m[i].From m[i].To m[i].Directed m[i].Weight (pk p[i] 9))).length = m.length := by simp
        rw [ck_t (by omega), st_s hx]
        have hx2 : (m.set i (Edge.mk m[i].ID m[i].From m[i].To m[i].Directed m[i].Weight (pk p[i] 9)))[i]? = some (Edge.mk m[i].ID m[i].From m[i].To m[i].Directed m[i].Weight (pk p[i] 9)) := by simp [hlt.1]
        have hset : ∀ i' (h : i' < l.length) (h' : i' < (m.set i (Edge.mk m[i].ID m[i].From m[i].To m[i].Directed m[i].Weight (pk p[i] 9))).length), ER (trs vs) l[i'] (m.set i (Edge.mk m[i].ID m[i].From m[i].To m[i].Directed m[i].Weight (pk p[i] 9)))[i'] := by
          intro k hk hk'
          simp only [List.getElem_set]
          by_cases e : i = k
          · subst e
            rw [if_pos rfl]
            exact ⟨hE.id, hE.fr, hE.to, hE.dr, hE.sm, hE.wt, by show 0 ≤ pk p[i] 9 ∧ pk p[i] 9 ≤ 1000; omega⟩
          · rw [if_neg e]; exact h3 k hk _
        simp only [r_join1, r_brr, r_cl, tr_run hvl _ hA, bd_s, r_ret]
        have hb : (br (!m[i].Directed) (some (.a true)) (br (m[i].From == m[i].To) (some (.a true)) (br (!decide (m[i].From ∈ trs vs)) (some (.a true)) (some (.a (!decide (m[i].To ∈ trs vs)))))) : Option (Ex Bool Empty Empty)) = some (.a (!wl (trs vs) m[i])) := by
          unfold wl
          have : (m[i].From != m[i].To) = !(m[i].From == m[i].To) := rfl
          rw [this]
          cases m[i].Directed <;> cases (m[i].From == m[i].To) <;> cases decide (m[i].From ∈ trs vs) <;> cases decide (m[i].To ∈ trs vs) <;> rfl
        rw [hb, bd_s, ex_a]
        have hwl : wl (trs vs) m[i] = wl (trs vs) l[i] := by unfold wl; rw [hE.dr, hE.fr, hE.to]
        cases hw : wl (trs vs) m[i] with
        | true =>
          rw [Bool.not_true, br_f, succ_wr hlt.1 (by omega)]
          exact .inl ⟨_, rfl, ⟨i + 1, rfl, by omega, by rw [hml]; omega, hset⟩, by simp; omega⟩
        | false =>
          rw [Bool.not_false, br_t, getR_s hpx, r_cl, pick18 (by omega), bd_s, ck_t (by rw [hml]; omega), st_s hx2, r_ret, succ_wr hlt.1 (by omega)]
          refine .inl ⟨_, rfl, ⟨i + 1, rfl, by omega, by simp; omega, fun k hk hk' => ?_⟩, by simp; omega⟩
          simp only [List.getElem_set]
          by_cases e : i = k
          · subst e
            rw [if_pos rfl]
            refine ⟨hE.id, hE.fr, hE.to, hE.dr, fun h => ?_, by show -1000 ≤ pk p[i] 50 ∧ pk p[i] 50 ≤ 1000; omega, by show 0 ≤ pk p[i] 9 ∧ pk p[i] 9 ≤ 1000; omega⟩
            rw [← hwl, hw] at h; exact absurd h (by simp)
          · rw [if_neg e]
            have := hset k hk (by simp at hk' ⊢; exact hk')
            simp only [List.getElem_set, if_neg e] at this ⊢
            exact this
      · rw [show (decide ((i : Int) < (m.length : Int)) && decide ((i : Int) < (p.length : Int))) = false by rw [Bool.and_eq_false_iff, decide_eq_false_iff_not, decide_eq_false_iff_not]; omega, br_f, r_ret]
        exact .inr ⟨_, rfl, m, rfl, h2, h3⟩)
    fuel ((0 : Int), l) ⟨0, rfl, by omega, rfl, fun i h _ => ⟨rfl, rfl, rfl, rfl, fun _ => rfl, (hv _ (List.getElem_mem h)).wt, (hv _ (List.getElem_mem h)).cap⟩⟩ (by have := fuel_pos; simp; omega)
  exact ⟨l', hq, h1, h2⟩
end Trd
end Go.Fx.Gen

namespace Go.Fx.Gen
open Go.Fx Go.Proofs
set_option linter.unusedVariables false
namespace Trd
open Go.TT
variable {g : Graph} {N N' : Nat} {rx ex nn rx' ex' nn' : Int → Int}

theorem mem_kl {ws : List (List Edge)} {v : Int} {k : Int × Int × Int} : k ∈ kl ws v ↔ ∃ e ∈ row ws v, key e = k := List.mem_map

/-! Other numbers. -/
theorem trs_eq : ∀ {l m : List Vertex}, m.length = l.length → (∀ i (h : i < l.length) (h' : i < m.length), VR l[i] m[i]) → trs m = trs l
  | [], m, hl, _ => by
    have : m = [] := List.eq_nil_of_length_eq_zero (by simpa using hl)
    subst this; rfl
  | a :: l, m, hl, h => by
    cases m with
    | nil => simp at hl
    | cons b m =>
      have ih := trs_eq (l := l) (m := m) (by simpa using hl) fun i h1 h2 => by
        have := h (i + 1) (by simp; omega) (by simp; omega)
        simpa using this
      have h0 := h 0 (by simp) (by simp)
      simp only [List.getElem_cons_zero] at h0
      unfold trs at ih ⊢
      by_cases e : a.Side = 3
      · have e' := h0.2.1.2 e
        rw [List.filter_cons_of_pos (by simpa using e'), List.filter_cons_of_pos (by simpa using e), List.map_cons, List.map_cons, ih, h0.1]
      · have e' : b.Side ≠ 3 := fun h => e (h0.2.1.1 h)
        rw [List.filter_cons_of_neg (by simpa using e'), List.filter_cons_of_neg (by simpa using e), ih]

theorem ready_h (H : Ready g) {vs : List Vertex} {es : List Edge} (hvl : vs.length = g.Vertices.length) (hV : ∀ i (h : i < g.Vertices.length) (h' : i < vs.length), VR g.Vertices[i] vs[i])
    (hel : es.length = g.Edges.length) (hE : ∀ i (h : i < g.Edges.length) (h' : i < es.length), ER (trs vs) g.Edges[i] es[i]) : Ready ⟨vs, es, []⟩ := by
  have inV : ∀ x, InV g x → InV ⟨vs, es, []⟩ x := by
    rintro x ⟨v, hv, rfl⟩
    obtain ⟨i, hi, rfl⟩ := List.getElem_of_mem hv
    have hi' : i < vs.length := by omega
    exact ⟨vs[i], List.getElem_mem hi', (hV i hi hi').1⟩
  have hs := H.small
  refine ⟨⟨by show vs.length < _; rw [hvl]; exact hs.v, by show es.length < _; rw [hel]; exact hs.e, by simp⟩, by show es.length < _; rw [hel]; exact H.e, ?_⟩
  refine ⟨?_, ?_, ?_, ?_, ?_, ?_, by simp⟩
  · intro i j hi hj hij
    rw [(hV i (by rw [← hvl]; exact hi) hi).1, (hV j (by rw [← hvl]; exact hj) hj).1]
    exact H.gv.va i j _ _ hij
  · intro i j hi hj hij
    rw [(hE i (by rw [← hel]; exact hi) hi).id, (hE j (by rw [← hel]; exact hj) hj).id]
    exact H.gv.ea i j _ _ hij
  · intro i j hi; simp at hi
  · intro v hv
    obtain ⟨i, hi, rfl⟩ := List.getElem_of_mem hv
    have h := hV i (by rw [← hvl]; exact hi) hi
    have := H.gv.v _ (List.getElem_mem (by rw [← hvl]; exact hi) : g.Vertices[i]'(by rw [← hvl]; exact hi) ∈ g.Vertices)
    exact ⟨by rw [h.1]; exact this.id, h.2.2⟩
  · intro e he
    obtain ⟨i, hi, rfl⟩ := List.getElem_of_mem he
    have h := hE i (by rw [← hel]; exact hi) hi
    obtain ⟨h1, h2, h3⟩ := H.gv.e _ (List.getElem_mem (by rw [← hel]; exact hi) : g.Edges[i]'(by rw [← hel]; exact hi) ∈ g.Edges)
    exact ⟨⟨by rw [h.id]; exact h1.id, by rw [h.fr]; exact h1.fr, by rw [h.to]; exact h1.to, h.wt, h.cap⟩, inV _ (by rw [h.fr]; exact h2), inV _ (by rw [h.to]; exact h3)⟩
  · intro x hx; simp at hx

theorem wl_iff {T : List Int} {e : Edge} : wl T e = true ↔ e.Directed = true ∧ e.From ≠ e.To ∧ e.From ∈ T ∧ e.To ∈ T := by
  unfold wl; simp

theorem kl_h (H : Ready g) {vs : List Vertex} {es : List Edge} (H' : Ready ⟨vs, es, []⟩) (hT : trs vs = trd g)
    (hel : es.length = g.Edges.length) (hE : ∀ i (h : i < g.Edges.length) (h' : i < es.length), ER (trs vs) g.Edges[i] es[i]) {v : Int} (hv : v ∈ trd g) : kl (wsh ⟨vs, es, []⟩) v = kl (wsh g) v := by
  have hv' : v ∈ trd ⟨vs, es, []⟩ := by show v ∈ trs vs; rw [hT]; exact hv
  refine kl_eq H H' hv hv' fun k => ?_
  rw [mem_kl, mem_kl]
  constructor
  · rintro ⟨e, he, rfl⟩
    obtain ⟨h1, h2, h3, h4, h5⟩ := (mem_row H' hv').1 he
    have h5 : e.To ∈ trs vs := h5
    obtain ⟨i, hi, rfl⟩ := List.getElem_of_mem h1
    have h := hE i (by rw [← hel]; exact hi) hi
    have hk : key es[i] = key (g.Edges[i]'(by rw [← hel]; exact hi)) := by
      unfold key
      rw [h.id, h.to, h.sm (wl_iff.2 ⟨by rw [← h.dr]; exact h2, by rw [← h.fr, ← h.to]; exact fun e => h4 (by rw [← h3]; exact e.symm), by rw [← h.fr, hT]; exact h3 ▸ hv, by rw [← h.to]; exact h5⟩)]
    refine ⟨_, (mem_row H hv).2 ⟨List.getElem_mem (by rw [← hel]; exact hi), by rw [← h.dr]; exact h2, by rw [← h.fr]; exact h3, by rw [← h.to]; exact h4, by rw [← h.to, ← hT]; exact h5⟩, hk.symm⟩
  · rintro ⟨e, he, rfl⟩
    obtain ⟨h1, h2, h3, h4, h5⟩ := (mem_row H hv).1 he
    obtain ⟨i, hi, rfl⟩ := List.getElem_of_mem h1
    have hi' : i < es.length := by omega
    have h := hE i hi hi'
    refine ⟨es[i], (mem_row H' hv').2 ⟨List.getElem_mem hi', by rw [h.dr]; exact h2, by rw [h.fr]; exact h3, by rw [h.to]; exact h4, by show es[i].To ∈ trs vs; rw [h.to, hT]; exact h5⟩, ?_⟩
    unfold key
    rw [h.id, h.to, h.sm (wl_iff.2 ⟨h2, fun e => h4 (by rw [← h3]; exact e.symm), by rw [h3, hT]; exact hv, by rw [hT]; exact h5⟩)]

/-- Labels are the same. -/
theorem same_list {g' : Graph} (H : Ready g) (H' : Ready g') (hT : trd g' = trd g) (O : Out g N rx ex nn) (O' : Out g' N' rx' ex' nn')
    (hl : g'.Vertices.length = g.Vertices.length) (hV : ∀ i (h : i < g.Vertices.length) (h' : i < g'.Vertices.length), g'.Vertices[i].ID = g.Vertices[i].ID ∧ (g'.Vertices[i].Side = 3 ↔ g.Vertices[i].Side = 3))
    (hs : ∀ v ∈ trd g, rx' v = rx v ∧ ex' v = ex v ∧ nn' v = nn v) :
    (g'.Vertices.map fun v => (⟨v.ID, [rx' v.ID, ex' v.ID, nn' v.ID]⟩ : Named)) = g.Vertices.map fun v => ⟨v.ID, [rx v.ID, ex v.ID, nn v.ID]⟩ := by
  refine List.ext_getElem (by simp [hl]) fun i h1 h2 => ?_
  rw [List.getElem_map, List.getElem_map]
  have a1 : i < g'.Vertices.length := by simpa using h1
  have a2 : i < g.Vertices.length := by simpa using h2
  obtain ⟨b1, b2⟩ := hV i a2 a1
  rw [b1]
  by_cases e : g.Vertices[i].Side = 3
  · obtain ⟨c1, c2, c3⟩ := hs _ (mem_trs.2 ⟨_, List.getElem_mem a2, e, rfl⟩)
    rw [c1, c2, c3]
  · obtain ⟨c1, c2, c3⟩ := O.none _ (List.getElem_mem a2) e
    obtain ⟨d1, d2, d3⟩ := O'.none _ (List.getElem_mem a1) (fun h => e (b2.1 h))
    rw [b1] at d1 d2 d3
    rw [c1, c2, c3, d1, d2, d3]

/-! Without an edge. -/
theorem find_filter {β : Type} {p q : β → Bool} {a : β} : ∀ {l : List β} {i : Nat}, l[i]? = some a → p a = true → (∀ k (h : k < l.length), k ≤ i → q l[k] = true) → (l.filter q).find? p = l.find? p
  | [], i, h, _, _ => by simp at h
  | x :: l, i, h, hp, hq => by
    have h0 := hq 0 (by simp) (Nat.zero_le _)
    simp only [List.getElem_cons_zero] at h0
    rw [List.filter_cons_of_pos h0, List.find?_cons, List.find?_cons]
    cases hx : p x with
    | true => rfl
    | false =>
      cases i with
      | zero => simp at h; subst h; rw [hp] at hx; cases hx
      | succ i =>
        refine find_filter (i := i) (by simpa using h) hp fun k hk hki => ?_
        have := hq (k + 1) (by simp; omega) (by omega)
        simpa using this

theorem mem_drop {i : Nat} (H : Ready g) (hi : i < g.Edges.length) {e : Edge} : e ∈ (dropE g i).Edges ↔ e ∈ g.Edges ∧ e.ID ≠ g.Edges[i].ID := by
  show e ∈ g.Edges.take i ++ g.Edges.drop (i + 1) ↔ _
  rw [List.mem_append, List.mem_take_iff_getElem, List.mem_drop_iff_getElem]
  constructor
  · rintro (⟨j, hj, rfl⟩ | ⟨j, hj, rfl⟩)
    · have := H.gv.ea j i (by omega) hi (by omega)
      exact ⟨List.getElem_mem _, by omega⟩
    · have := H.gv.ea i (i + 1 + j) hi (by omega) (by omega)
      exact ⟨List.getElem_mem _, by omega⟩
  · rintro ⟨h1, h2⟩
    obtain ⟨j, hj, rfl⟩ := List.getElem_of_mem h1
    rcases Nat.lt_trichotomy j i with h | h | h
    · exact .inl ⟨j, by omega, rfl⟩
    · subst h; exact absurd rfl h2
    · refine .inr ⟨j - (i + 1), by omega, ?_⟩
      congr 1; omega

theorem ready_drop (H : Ready g) {i : Nat} (hi : i < g.Edges.length) : Ready (dropE g i) := by
  have hl : (dropE g i).Edges.length = g.Edges.length - 1 := by show (g.Edges.take i ++ g.Edges.drop (i + 1)).length = _; simp; omega
  have hs := H.small
  have he := H.e
  refine ⟨⟨hs.v, by rw [hl]; have := hs.e; omega, hs.d⟩, by rw [hl]; omega, ⟨H.gv.va, ?_, H.gv.da, H.gv.v, ?_, H.gv.d, H.gv.dn⟩⟩
  · have hp : (g.Edges.map Edge.ID).Pairwise (· < ·) := by
      rw [List.pairwise_iff_getElem]
      intro a b ha hb hab
      rw [List.getElem_map, List.getElem_map]
      exact H.gv.ea a b _ _ hab
    have hsub : (g.Edges.take i ++ g.Edges.drop (i + 1)).Sublist g.Edges := by
      conv => rhs; rw [← List.take_append_drop i g.Edges]
      refine List.Sublist.append (List.Sublist.refl _) ?_
      rw [← List.drop_drop]
      exact List.drop_sublist ..
    have hp' := hp.sublist (hsub.map Edge.ID)
    rw [List.pairwise_iff_getElem] at hp'
    intro a b ha hb hab
    have := hp' a b (by rw [List.length_map]; exact ha) (by rw [List.length_map]; exact hb) hab
    rw [List.getElem_map, List.getElem_map] at this
    exact this
  · intro e he'
    exact H.gv.e e ((mem_drop H hi).1 he').1

theorem row_ids (H : Ready g) {v : Int} (hv : v ∈ trd g) {j k : Nat} (hj : j < (row (wsh g) v).length) (hk : k < (row (wsh g) v).length) (h : (row (wsh g) v)[j].ID = (row (wsh g) v)[k].ID) : j = k := by
  have W := more H
  obtain ⟨_, hm⟩ := row_mem W.toWsOk (trd_range H.gv hv)
  have := W.ids _ hm
  have hj' : j < ((row (wsh g) v).map Edge.ID).length := by rw [List.length_map]; exact hj
  have hk' : k < ((row (wsh g) v).map Edge.ID).length := by rw [List.length_map]; exact hk
  have e : ((row (wsh g) v).map Edge.ID)[j] = ((row (wsh g) v).map Edge.ID)[k] := by rw [List.getElem_map, List.getElem_map]; exact h
  exact (List.getElem_inj this).1 e

theorem kl_drop_other (H : Ready g) {i : Nat} (hi : i < g.Edges.length) {u : Int} (hu : u ∈ trd g) (hne : g.Edges[i].From ≠ u) : kl (wsh (dropE g i)) u = kl (wsh g) u := by
  have H' := ready_drop H hi
  have hu' : u ∈ trd (dropE g i) := hu
  refine kl_eq H H' hu hu' fun k => ?_
  rw [mem_kl, mem_kl]
  refine exists_congr fun e => and_congr_left fun _ => ?_
  rw [mem_row H hu, mem_row H' hu', mem_drop H hi]
  constructor
  · rintro ⟨⟨h1, _⟩, h2⟩; exact ⟨h1, h2⟩
  · rintro ⟨h1, h2, h3, h4⟩
    refine ⟨⟨h1, fun e => ?_⟩, h2, h3, h4⟩
    obtain ⟨j, hj, rfl⟩ := List.getElem_of_mem h1
    have : j = i := by
      rcases Nat.lt_trichotomy j i with h | h | h
      · have := H.gv.ea j i hj hi h; omega
      · exact h
      · have := H.gv.ea i j hi hj h; omega
    subst this
    exact hne h3

theorem kl_drop_own (H : Ready g) {i : Nat} (hi : i < g.Edges.length) {v : Int} (hv : v ∈ trd g) : kl (wsh (dropE g i)) v = (kl (wsh g) v).filter fun k => !(k.2.1 == g.Edges[i].ID) := by
  have H' := ready_drop H hi
  have hv' : v ∈ trd (dropE g i) := hv
  refine strict_eq (lt := klt) (fun x => by unfold klt; omega) (fun x y => by unfold klt; omega) (kl_sorted H' hv') ((kl_sorted H hv).filter _) fun k => ?_
  rw [List.mem_filter, mem_kl, mem_kl]
  constructor
  · rintro ⟨e, he, rfl⟩
    rw [mem_row H' hv', mem_drop H hi] at he
    exact ⟨⟨e, (mem_row H hv).2 ⟨he.1.1, he.2⟩, rfl⟩, by have := he.1.2; simp [key]; exact this⟩
  · rintro ⟨⟨e, he, rfl⟩, h2⟩
    rw [mem_row H hv] at he
    exact ⟨e, (mem_row H' hv').2 ⟨(mem_drop H hi).2 ⟨he.1, by simpa [key] using h2⟩, he.2⟩, rfl⟩

/-- What is not preferred is not missed. -/
theorem drop_same (H : Ready g) (O : Out g N rx ex nn) {i : Nat} (hi : i < g.Edges.length) {v : Int} (hv : v ∈ trd g) (hx : g.Edges[i] ∈ row (wsh g) v)
    (hb : ¬ plc g v g.Edges[i].ID < plc g v (ex v)) (hne : g.Edges[i].ID ≠ ex v) (O' : Out (dropE g i) N' rx' ex' nn') : ∀ u ∈ trd g, rx' u = rx u ∧ ex' u = ex u ∧ nn' u = nn u := by
  have H' := ready_drop H hi
  have hfr := ((mem_row H hv).1 hx).2.2.1
  obtain ⟨r, L⟩ := leaves_of O hv
  obtain ⟨j, j1, j2, j3⟩ := plc_mem H hv hx
  obtain ⟨e0, f1, f2⟩ : ∃ e, fst_ g (SG g r) v = some e ∧ ex v = e.ID := by
    rcases L.way with h | ⟨_, h⟩
    · exact h
    · rw [h, plc_alone, j1] at hb; omega
  obtain ⟨m1, m2⟩ := fst_mem f1
  obtain ⟨k, k1, k2, k3⟩ := plc_mem H hv m1
  rw [f2, j1, k1] at hb
  obtain ⟨hj, ej⟩ := List.getElem?_eq_some_iff.1 j2
  obtain ⟨hk, ek⟩ := List.getElem?_eq_some_iff.1 k2
  have hkj : k < j := by
    have : k ≠ j := fun e => by subst e; rw [ej] at ek; rw [f2, ← ek] at hne; exact hne rfl
    omega
  have hkl : (kl (wsh g) v)[k]? = some (key e0) := by unfold kl; rw [List.getElem?_map, k2]; rfl
  have hq : ∀ m (h : m < (kl (wsh g) v).length), m ≤ k → (fun k : Int × Int × Int => !(k.2.1 == g.Edges[i].ID)) (kl (wsh g) v)[m] = true := by
    intro m h hm
    have hm' : m < (row (wsh g) v).length := by unfold kl at h; simpa using h
    have : (kl (wsh g) v)[m] = key (row (wsh g) v)[m] := List.getElem_map _
    simp only [this, key]
    have hne : (row (wsh g) v)[m].ID ≠ g.Edges[i].ID := by
      intro e
      rw [← ej] at e
      have := row_ids H hv hm' hj e
      omega
    simp [hne]
  refine same_fin H H' rfl O O' ?_ ?_
  · intro s u hu t ht
    rw [pt_key, pt_key]
    by_cases e : g.Edges[i].From = u
    · have : u = v := e.symm.trans hfr
      subst this
      have hrs : s = r := hu.unique L.lv
      subst hrs
      rw [kl_drop_own H hi hv]
      unfold ptk
      rw [find_filter hkl (decide_eq_true (Sq_mono ht m2 : e0.To ∈ SG g t)) hq]
    · have hut : u ∈ trd g := Sq_mono (Nat.zero_le _) hu.1
      rw [kl_drop_other H hi hut e]
  · intro u hu
    by_cases e : g.Edges[i].From = u
    · have : u = v := e.symm.trans hfr
      subst this
      rw [kl_drop_own H hi hv]
      unfold wtk
      rw [find_filter hkl (by simp [key, f2]) hq]
    · rw [kl_drop_other H hi hu e]
end Trd
end Go.Fx.Gen

namespace Go.Fx.Gen
open Go.Fx Go.Proofs
set_option linter.unusedVariables false
namespace Trd
open Go.TT
variable {g : Graph}

theorem apart_true {p1 p3 p5 p6 : Int} {p2 : List A5_Int} {p4 : List Int} (h1 : inI64 p1) (h3 : inI64 p3) (h2 : ∀ a ∈ p2, A5ok a) (h4 : ∀ n ∈ p4, inI64 n) (h5 : inI64 p5) (h6 : inI64 p6) :
    (f5 p1 p2 p3 p4 p5 p6).run = some true := by
  obtain ⟨g, g1, H, hne⟩ := made_run (p3 := false) h1 h3 h2
  have hsv := H.small.v
  have hse := H.small.e
  obtain ⟨N, rx, ex, nn, l1, _, O⟩ := labels_rounds H
  have lo : (g.Vertices.map fun v => (⟨v.ID, [rx v.ID, ex v.ID, nn v.ID]⟩ : Named)).length < 1000000000 ∧ ∀ x ∈ (g.Vertices.map fun v => (⟨v.ID, [rx v.ID, ex v.ID, nn v.ID]⟩ : Named)), x.Label.length < 1000000000 :=
    ⟨by simpa using hsv, fun x hx => by obtain ⟨v, _, rfl⟩ := List.mem_map.1 hx; simp⟩
  have hout := outcome_run H l1
  obtain ⟨vs, s1, hvl, hV⟩ := sides_run (l := g.Vertices) hsv H.gv.v h4
  have hT : trs vs = trd g := trs_eq hvl hV
  have hvsA : Asc Vertex.ID vs := by
    intro i j hi hj hij
    rw [(hV i (by rw [← hvl]; exact hi) hi).1, (hV j (by rw [← hvl]; exact hj) hj).1]
    exact H.gv.va i j _ _ hij
  obtain ⟨es, s2, hel, hE⟩ := weights_run (vs := vs) (by omega) hvsA (l := g.Edges) hse (fun e he => (H.gv.e e he).1) h4 p5 p6 true g ((g.Vertices.map fun v => (⟨v.ID, [rx v.ID, ex v.ID, nn v.ID]⟩ : Named)), 0)
  have Hh := ready_h H hvl hV hel hE
  obtain ⟨N', rx', ex', nn', m1, _, O'⟩ := labels_rounds Hh
  have hTh : trd ⟨vs, es, []⟩ = trd g := hT
  have sh := same_fin H Hh hTh O O' (fun r v hv t _ => by rw [pt_key, pt_key, kl_h H Hh hT hel hE (Sq_mono (Nat.zero_le _) hv.1)]) (fun v hv => by rw [kl_h H Hh hT hel hE hv])
  have hsame := same_list H Hh hTh O O' hvl (fun i h h' => ⟨(hV i h h').1, (hV i h h').2.1⟩) sh
  rw [hsame, ← lab_same] at m1
  have hlab := labels_same lo.1 lo.2
  have hpv := pk_range h5 (n := (g.Vertices.length : Int)) (by have := List.length_pos_iff.2 hne; omega)
  have hvn : (g.Vertices.length : Int) ≠ 0 := by have := List.length_pos_iff.2 hne; omega
  obtain ⟨i, hi, hil⟩ : ∃ i : Nat, pk p5 (g.Vertices.length : Int) = (i : Int) ∧ i < g.Vertices.length := ⟨(pk p5 (g.Vertices.length : Int)).toNat, by omega, by omega⟩
  have hvi := List.getElem?_eq_getElem hil
  have hid := (H.gv.v _ (List.getElem_mem hil)).id
  generalize hv0 : g.Vertices[i] = v at hvi hid
  simp only [f5]
  rw [r_cl, sane_run, bd_s, r_brr, Bool.not_true, br_f, r_cl, g1, bd_s, r_cl, l1, bd_s, r_brr, show ((0 : Int) != 0) = false from rfl, br_f, r_cl, copy_run H.small, bd_s]
  rw [r_loop1, s1, bd_s, ex_a, r_loop1, s2, bd_s, ex_a, r_cl, m1, bd_s, r_join1, r_brr, show ((0 : Int) != 0) = false from rfl, br_f, r_cl, hlab, bd_s, r_ret, bd_s, ex_a, Bool.not_true, r_brr, br_f]
  rw [r_cl, L_eq, pick18 hvn, bd_s, hi, getR_s hvi, r_cl, refw_run H.small H.gv.va, bd_s, r_cl, hout, bd_s, r_brr, Bool.not_true, br_f, r_cl, trader_run H.small H.gv.va, bd_s, r_brr]
  by_cases hv : v.ID ∈ trd g
  · rw [decide_eq_true hv, Bool.not_true, Bool.false_or]
    by_cases hw : rw_ g v.ID = []
    · have : (((L (rw_ g v.ID) : Nat) : Int) == 0) = true := by rw [hw]; rfl
      have this : (((L (g.Edges.filter (isW (trd g) v.ID)) : Nat) : Int) == 0) = true := this
      rw [this, br_t, r_ret]
    · have hwl := List.length_pos_iff.2 hw
      have e0 : (((L (g.Edges.filter (isW (trd g) v.ID)) : Nat) : Int) == 0) = false := by rw [L_eq]; exact beq_eq_false_iff_ne.2 (by show ((rw_ g v.ID).length : Int) ≠ 0; omega)
      rw [e0, br_f]
      have hwn : ((rw_ g v.ID).length : Int) ≠ 0 := by omega
      have hpx := pk_range h6 (n := ((rw_ g v.ID).length : Int)) (by omega)
      obtain ⟨k, hk, hkl⟩ : ∃ k : Nat, pk p6 ((rw_ g v.ID).length : Int) = (k : Int) ∧ k < (rw_ g v.ID).length := ⟨(pk p6 ((rw_ g v.ID).length : Int)).toNat, by omega, by omega⟩
      have hxk := List.getElem?_eq_getElem hkl
      have hxm := List.getElem_mem hkl
      generalize (rw_ g v.ID)[k] = x at hxk hxm
      have hxr := (mem_rw_row H hv).1 hxm
      obtain ⟨j, hj, ej⟩ := List.getElem_of_mem (mem_rw.1 hxm).1
      have gE := get_t H (f := ex) hv
      obtain ⟨r, L⟩ := leaves_of O hv
      have hexn := L.exn H
      obtain ⟨q, q1, q2, q3⟩ := plc_mem H hv hxr
      have hp : (f27v1 g v.ID x.ID (ex v.ID)).run = some (decide (plc g v.ID x.ID < plc g v.ID (ex v.ID)), 0) := by rw [prefers_run H, if_pos ⟨hv, by omega, hexn⟩]
      rw [r_cl, L_eq, pick18 hwn, bd_s, hk, getR_s hxk, ck_t (by omega), rd_s gE, r_cl, hp, bd_s, r_brr, show ((0 : Int) != 0) = false from rfl, br_f, r_join1, r_brr]
      by_cases hb : plc g v.ID x.ID < plc g v.ID (ex v.ID)
      · rw [decide_eq_true hb, br_t, r_ret, bd_s, ex_a, r_brr, br_t, r_ret]
      · rw [decide_eq_false hb, br_f, ck_t (by omega), rd_s gE, r_ret, bd_s, ex_a, r_brr]
        by_cases hxe : x.ID = ex v.ID
        · rw [show (x.ID == ex v.ID) = true by simp [hxe], br_t, r_ret]
        · rw [show (x.ID == ex v.ID) = false by simp [hxe], br_f]
          subst ej
          obtain ⟨N2, rx2, ex2, nn2, n1, _, O2⟩ := labels_rounds (ready_drop H hj)
          have sd := drop_same H O hj hv hxr hb hxe O2
          have hs2 := same_list H (ready_drop H hj) rfl O O2 rfl (fun _ _ _ => ⟨rfl, Iff.rfl⟩) sd
          rw [hs2] at n1
          rw [r_cl, apply_run H hj, bd_s, r_cl, n1, bd_s, r_brr]
          rw [show ((true && ((0 : Int) == 0)) && ((0 : Int) == 0)) = true from rfl, br_t, r_cl, hlab, bd_s, r_ret]
  · rw [decide_eq_false hv, Bool.not_false, Bool.true_or, br_t, r_ret]
end Trd
end Go.Fx.Gen
