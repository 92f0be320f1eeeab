/- Trade: views, and what both checks see in them. -/
import Derived.Test.YtdbcggbkdljfiaaGreatTR
namespace Go.Fx.Gen
open Go.Fx Go.Proofs
set_option linter.unusedVariables false
namespace Trd
open Go.TT

/-- A view of a size that machines have. -/
structure SmallV (v : View) : Prop where
  e : v.Edges.length < 65536
  l : v.Labels.length < 1000000000
  x : ∀ y ∈ v.Labels, y.Label.length < 1000000000

def is3 (id : Int) (x : Named) : Bool := x.ID == id && decide (x.Label.length = 3)
/-- The first label of three numbers. -/
def thr (l : List Named) (id : Int) : Option A3_Int := (l.find? (is3 id)).bind fun x => A3_Int.of x.Label
def bnd (x : A3_Int) : Prop := (-24000 ≤ x.x0 ∧ x.x0 ≤ 24000) ∧ (-24000 ≤ x.x1 ∧ x.x1 ≤ 24000) ∧ (-24000 ≤ x.x2 ∧ x.x2 ≤ 24000)

theorem of3 {l : List Int} (h : l.length = 3) : ∃ a, A3_Int.of l = some a ∧ l = [a.x0, a.x1, a.x2] := by
  match l, h with
  | [a, b, c], _ => exact ⟨⟨a, b, c⟩, rfl, rfl⟩

theorem is3_len {id : Int} {x : Named} (h : is3 id x = true) : x.ID = id ∧ x.Label.length = 3 := by unfold is3 at h; simpa using h

theorem getR_c {α β : Type} {P : Program} [Cel α] {l : List α} {c : Int} (i : Nat) {x : α} (hc : c = (i : Int)) (h : l[i]? = some x) {k : α → Prg P β} : (getR l c k).run = (k x).run := by rw [hc]; exact getR_s h
theorem r_s2a {α γ β : Type} {P : Program} [Cel α] [Cel γ] {n : Nat} {of : List α → Option γ} {h : ∀ l a, of l = some a → n ≤ (l.map Cel.enc).length ∧ ((l.map Cel.enc).take n).flatten = Cel.enc a} {l : List α} {k : γ → Prg P β} :
    (s2a n of h l k).run = bd (of l) fun a => (k a).run := rfl

theorem three_run {v : View} (hs : SmallV v) (id : Int) : (f39 v id).run = some (match thr v.Labels id with | some x => (x, true) | none => (⟨0, 0, 0⟩, false)) := by
  have hsl := hs.l
  have key : loopN fuel (fun s => (f39.l1 v id s).run) (0 : Int) = _ := loop_find (l := v.Labels) (fun i : Nat => (i : Int)) (is3 id) (fun _ x => (.a ((A3_Int.of x.Label).getD ⟨0, 0, 0⟩, true) : Ex (A3_Int × Bool) Unit Empty)) (.b ())
    (fun i x hi => by
      have hlt : i < v.Labels.length := (List.getElem?_eq_some_iff.1 hi).1
      simp only [f39.l1, r_join1, r_brr, L_eq, cast_lt_t hlt, br_t, getR_s hi, succ_wr hlt (by omega)]
      by_cases h1 : x.ID = id
      · rw [show (x.ID == id) = true by simp [h1], br_t, r_ret, bd_s, ex_a]
        by_cases h2 : x.Label.length = 3
        · obtain ⟨a, a1, a2⟩ := of3 h2
          rw [show ((x.Label.length : Int) == 3) = true by simp [h2], br_t, getR_c (c := 0) 0 rfl (show x.Label[0]? = some a.x0 by rw [a2]; rfl), getR_s hi, getR_c (c := 1) 1 rfl (show x.Label[1]? = some a.x1 by rw [a2]; rfl), getR_s hi, getR_c (c := 2) 2 rfl (show x.Label[2]? = some a.x2 by rw [a2]; rfl), r_ret,
            if_pos (by unfold is3; simp [h1, h2]), a1]
          rfl
        · rw [show ((x.Label.length : Int) == 3) = false from beq_eq_false_iff_ne.2 (by omega), br_f, r_ret, if_neg (by unfold is3; simp [h2])]
      · rw [show (x.ID == id) = false by simp [h1], br_f, r_ret, bd_s, ex_a, br_f, r_ret, if_neg (by unfold is3; simp [h1])])
    (by simp only [f39.l1, r_brr, L_eq, cast_lt_f (Nat.lt_irrefl _), br_f, r_ret]) (k := fuel) (by have := fuel_pos; omega)
  simp only [f39]
  rw [r_loop2, key, bd_s]
  unfold thr
  cases h : v.Labels.findIdx? (is3 id) with
  | none =>
    have : v.Labels.find? (is3 id) = none := List.find?_eq_none.2 fun x hx => by have := List.findIdx?_eq_none_iff.1 h x hx; simp [this]
    rw [this]; simp only [ex_b, r_ret]; rfl
  | some i =>
    obtain ⟨h1, h2, h3⟩ := List.findIdx?_eq_some_iff_getElem.1 h
    have : v.Labels.find? (is3 id) = some v.Labels[i] := List.find?_eq_some_iff_getElem.2 ⟨h2, i, h1, rfl, fun j hj => by have := h3 j hj; simpa using this⟩
    rw [this]
    simp only [List.getElem?_eq_getElem h1, ex_a, r_ret]
    obtain ⟨a, a1, _⟩ := of3 (is3_len h2).2
    simp only [Option.bind_some, a1, Option.getD_some]

theorem bounded_run {l : List Int} (hl : l.length < 1000000000) : ∃ b, (f41 l).run = some b ∧ (b = true ↔ ∀ x ∈ l, -24000 ≤ x ∧ x ≤ 24000) := by
  have key : loopN fuel (fun s => (f41.l1 l s).run) (0 : Int) = _ := loop_find (l := l) (fun i : Nat => (i : Int)) (fun x => decide (x < -24000) || decide (x > 24000)) (fun _ _ => (.a false : Ex Bool Unit Empty)) (.b ())
    (fun i x hi => by
      have hlt : i < l.length := (List.getElem?_eq_some_iff.1 hi).1
      simp only [f41.l1, r_brr, L_eq, cast_lt_t hlt, br_t, getR_s hi, succ_wr hlt (by omega), r_ret]
      cases decide (x < -24000) <;> cases decide (x > 24000) <;> rfl)
    (by simp only [f41.l1, r_brr, L_eq, cast_lt_f (Nat.lt_irrefl _), br_f, r_ret]) (k := fuel) (by have := fuel_pos; omega)
  simp only [f41]
  rw [r_loop2, key, bd_s]
  cases h : l.findIdx? fun x => decide (x < -24000) || decide (x > 24000) with
  | none =>
    refine ⟨true, rfl, fun _ x hx => ?_, fun _ => rfl⟩
    have := List.findIdx?_eq_none_iff.1 h x hx
    simp at this; omega
  | some i =>
    obtain ⟨h1, h2, _⟩ := List.findIdx?_eq_some_iff_getElem.1 h
    simp only [List.getElem?_eq_getElem h1]
    refine ⟨false, rfl, by simp, fun hh => ?_⟩
    have := hh _ (List.getElem_mem h1)
    simp at h2; omega

theorem bnd_run (x : A3_Int) : ∃ b, (f41 [x.x0, x.x1, x.x2]).run = some b ∧ (b = true ↔ bnd x) := by
  obtain ⟨b, h1, h2⟩ := bounded_run (l := [x.x0, x.x1, x.x2]) (by simp)
  refine ⟨b, h1, h2.trans ?_⟩
  unfold bnd; simp

/-! Edges that can be at a vertex. -/
structure PropE (e : Edge) (id : Int) : Prop where
  nr : 0 ≤ e.ID ∧ e.ID ≤ 39
  fr : 0 ≤ e.From ∧ e.From ≤ 23
  to : 0 ≤ e.To ∧ e.To ≤ 23
  at_ : e.From = id ∨ e.To = id
  wt : -1000 ≤ e.Weight ∧ e.Weight ≤ 1000

def Dist (l : List Edge) : Prop := ∀ i j (hi : i < l.length) (hj : j < l.length), i < j → l[i].ID ≠ l[j].ID

theorem prope_run (e : Edge) (id : Int) : ∃ b, (f72 e id).run = some b ∧ (b = true ↔ PropE e id) := by
  have hiff : PropE e id ↔ ((e.ID ≥ 0 ∧ e.ID < 40) ∧ (e.From ≥ 0 ∧ e.From < 24) ∧ (e.To ≥ 0 ∧ e.To < 24) ∧ (e.From = id ∨ e.To = id) ∧ (e.Weight ≥ -1000 ∧ e.Weight ≤ 1000)) :=
    ⟨fun h => ⟨⟨h.nr.1, by have := h.nr.2; omega⟩, ⟨h.fr.1, by have := h.fr.2; omega⟩, ⟨h.to.1, by have := h.to.2; omega⟩, h.at_, h.wt⟩, fun ⟨h1, h2, h3, h4, h5⟩ => ⟨by omega, by omega, by omega, h4, h5⟩⟩
  rw [hiff]
  simp only [f72, f116, r_brr, r_cl, r_ret, bd_s, br_if]
  refine ⟨decide (e.ID ≥ 0) && (decide (e.ID < 40) && ((decide (e.From ≥ 0) && decide (e.From < 24)) && ((decide (e.To ≥ 0) && decide (e.To < 24)) && (((e.From == id) || (e.To == id)) && (decide (e.Weight ≥ -1000) && decide (e.Weight ≤ 1000)))))), ?_, ?_⟩
  · cases decide (e.ID ≥ 0) <;> cases decide (e.ID < 40) <;> cases (decide (e.From ≥ 0) && decide (e.From < 24)) <;> cases (decide (e.To ≥ 0) && decide (e.To < 24)) <;> cases (e.From == id) <;> cases (e.To == id) <;> cases decide (e.Weight ≥ -1000) <;> rfl
  · simp [and_assoc]

theorem rprope (e : Edge) (id : Int) {q : Option (Ex Bool Empty Empty)}
    (hq : q = (brr (decide (e.ID < 0)) (retA' true) (brr (decide (e.ID > 39)) (retA' true) (brr (decide (e.From < 0)) (retA' true) (brr (decide (e.From > 23)) (retA' true) (brr (decide (e.To < 0)) (retA' true) (brr (decide (e.To > 23)) (retA' true) (
      brr (e.From != id) (brr (e.To != id) (retA' true) (brr (decide (e.Weight < (-1000))) (retA' true) (retA' (decide (e.Weight > 1000))))) (brr (decide (e.Weight < (-1000))) (retA' true) (retA' (decide (e.Weight > 1000)))))))))) : Pg (Ex Bool Empty Empty)).run) :
    ∃ b, q = some (.a b) ∧ (b = false ↔ PropE e id) := by
  subst hq
  have hiff : PropE e id ↔ ¬ (e.ID < 0 ∨ e.ID > 39 ∨ e.From < 0 ∨ e.From > 23 ∨ e.To < 0 ∨ e.To > 23 ∨ (e.From ≠ id ∧ e.To ≠ id) ∨ e.Weight < -1000 ∨ e.Weight > 1000) := by
    constructor
    · intro h
      obtain ⟨h1, h2, h3, h4, h5⟩ := h
      omega
    · intro h
      refine ⟨by omega, by omega, by omega, ?_, by omega⟩
      apply Classical.byContradiction
      intro hh
      apply h
      exact .inr (.inr (.inr (.inr (.inr (.inr (.inl ⟨fun e => hh (.inl e), fun e => hh (.inr e)⟩))))))
  rw [hiff]
  simp only [r_brr, r_ret, br_if]
  refine ⟨decide (e.ID < 0) || (decide (e.ID > 39) || (decide (e.From < 0) || (decide (e.From > 23) || (decide (e.To < 0) || (decide (e.To > 23) || (((e.From != id) && (e.To != id)) || (decide (e.Weight < -1000) || decide (e.Weight > 1000)))))))), ?_, ?_⟩
  · cases decide (e.ID < 0) <;> cases decide (e.ID > 39) <;> cases decide (e.From < 0) <;> cases decide (e.From > 23) <;> cases decide (e.To < 0) <;> cases decide (e.To > 23) <;> cases (e.From != id) <;> cases (e.To != id) <;> cases decide (e.Weight < -1000) <;> rfl
  · simp

theorem proper_run {v : View} (hs : SmallV v) : ∃ b, (f40 v).run = some b ∧ (b = true ↔ Dist v.Edges ∧ ∀ e ∈ v.Edges, PropE e v.Vertex.ID) := by
  have hse := hs.e
  have hloop : ∃ q, loopN fuel (fun s => (f40.l2 v s).run) (0 : Int) = some q ∧ ((q = .b () ∧ Dist v.Edges ∧ ∀ e ∈ v.Edges, PropE e v.Vertex.ID) ∨ (q = .a false ∧ ¬ (Dist v.Edges ∧ ∀ e ∈ v.Edges, PropE e v.Vertex.ID))) := by
    refine loop_ix (A := Unit) (f := fun s => (f40.l2 v s).run) (n := v.Edges.length) (fun i _ => (i : Int))
      (fun i _ => (∀ a b (ha : a < v.Edges.length) (hb : b < v.Edges.length), a < b → b < i → v.Edges[a].ID ≠ v.Edges[b].ID) ∧ ∀ a (ha : a < v.Edges.length), a < i → PropE v.Edges[a] v.Vertex.ID) _
      (fun i _ hi ⟨h1, h2⟩ => ?_) (fun _ ⟨h1, h2⟩ => ?_) (k := fuel) (by have := fuel_pos; omega) (a := ()) ⟨by intro a b _ _ _ h; omega, by intro a _ h; omega⟩
    · have hx := List.getElem?_eq_getElem hi
      simp only [f40.l2, r_brr, L_eq, cast_lt_t hi, br_t, getR_s hx, succ_wr hi (by omega)]
      rw [r_join1]
      obtain ⟨b, hb1, hb2⟩ := rprope v.Edges[i] v.Vertex.ID rfl
      rw [hb1, bd_s, ex_a, r_brr]
      cases b with
      | true =>
        rw [br_t, r_ret]
        exact .inr ⟨_, rfl, .inr ⟨rfl, fun ⟨_, h⟩ => by have := hb2.2 (h _ (List.getElem_mem hi)); cases this⟩⟩
      | false =>
        have hp := hb2.1 rfl
        -- the earlier ones
        obtain ⟨q, hq, hQ⟩ := loop_ix (A := Unit) (f := fun s => (f40.l1 v (i : Int) v.Edges[i] s).run) (n := i) (fun k _ => (k : Int)) (fun k _ => ∀ a (ha : a < v.Edges.length), a < k → v.Edges[a].ID ≠ v.Edges[i].ID)
          (fun q => (q = .b () ∧ ∀ a (ha : a < v.Edges.length), a < i → v.Edges[a].ID ≠ v.Edges[i].ID) ∨ (q = .a false ∧ ∃ a, ∃ ha : a < v.Edges.length, a < i ∧ v.Edges[a].ID = v.Edges[i].ID))
          (fun k _ hk hI => by
            have hkl : k < v.Edges.length := by omega
            have hy := List.getElem?_eq_getElem hkl
            simp only [f40.l1, r_brr, cast_lt_t hk, br_t, getR_s hy, succ_wr hk (by omega)]
            by_cases h : v.Edges[k].ID = v.Edges[i].ID
            · rw [show (v.Edges[k].ID == v.Edges[i].ID) = true by simp [h], br_t, r_ret]
              exact .inr ⟨_, rfl, .inr ⟨rfl, k, hkl, hk, h⟩⟩
            · rw [show (v.Edges[k].ID == v.Edges[i].ID) = false by simp [h], br_f, r_ret]
              refine .inl ⟨(), rfl, fun a ha hak => ?_⟩
              by_cases e : a = k
              · subst e; exact h
              · exact hI a ha (by omega))
          (fun _ hI => ⟨.b (), by simp only [f40.l1, r_brr, cast_lt_f (Nat.lt_irrefl _), br_f, r_ret], .inl ⟨rfl, hI⟩⟩)
          (k := fuel) (by have := fuel_pos; omega) (a := ()) (by intro a _ h; omega)
        have hq : loopN fuel (fun s => (f40.l1 v (i : Int) v.Edges[i] s).run) (0 : Int) = some q := hq
        rw [br_f, r_loop2, hq, bd_s]
        rcases hQ with ⟨rfl, hQ⟩ | ⟨rfl, a, ha, hai, he⟩
        · rw [ex_b, r_ret]
          refine .inl ⟨(), rfl, fun a b ha hb hab hbi => ?_, fun a ha hai => ?_⟩
          · by_cases e : b = i
            · subst e; exact hQ a ha hab
            · exact h1 a b ha hb hab (by omega)
          · by_cases e : a = i
            · subst e; exact hp
            · exact h2 a ha (by omega)
        · rw [ex_a, r_ret]
          exact .inr ⟨_, rfl, .inr ⟨rfl, fun ⟨h, _⟩ => h a i ha hi hai he⟩⟩
    · refine ⟨.b (), by simp only [f40.l2, r_brr, L_eq, cast_lt_f (Nat.lt_irrefl _), br_f, r_ret], .inl ⟨rfl, fun a b ha hb hab => h1 a b ha hb hab hb, fun e he => ?_⟩⟩
      obtain ⟨i, hi, rfl⟩ := List.getElem_of_mem he
      exact h2 i hi hi
  obtain ⟨q, hq, hQ⟩ := hloop
  simp only [f40]
  rw [r_loop2, hq, bd_s]
  rcases hQ with ⟨rfl, h⟩ | ⟨rfl, h⟩
  · exact ⟨true, rfl, fun _ => h, fun _ => rfl⟩
  · exact ⟨false, rfl, by simp, fun hh => absurd hh h⟩

/-! seen -/
theorem mapGet_set {α : Type} (m : List (Int × α)) (x : Int) (v : α) (y : Int) : mapGet (mapSet m x v) y = if x = y then some v else mapGet m y := by
  induction m with
  | nil => simp [mapSet, mapGet]
  | cons p r ih =>
    obtain ⟨k, u⟩ := p
    simp only [mapSet]
    split
    · rename_i h; subst h; simp only [mapGet]; split <;> rfl
    · rename_i h
      simp only [mapGet, ih]
      by_cases h2 : k = y
      · subst h2; rw [if_pos rfl, if_neg (fun e => h e.symm), if_pos rfl]
      · rw [if_neg h2]; split <;> rfl

theorem dist_run {l : List Edge} (hl : l.length < 65536) : ∃ b, (f69 l).run = some b ∧ (b = true ↔ Dist l) := by
  have hloop : ∃ q, loopN fuel (fun s : Int × List (Int × Bool) => (f69.l1 l s.1 s.2).run) ((0 : Int), ([] : List (Int × Bool))) = some q ∧ ((q = .b () ∧ Dist l) ∨ (q = .a false ∧ ¬ Dist l)) := by
    refine loop_ix (A := List (Int × Bool)) (f := fun s : Int × List (Int × Bool) => (f69.l1 l s.1 s.2).run) (n := l.length) (fun i a => ((i : Int), a))
      (fun i m => (∀ a b (ha : a < l.length) (hb : b < l.length), a < b → b < i → l[a].ID ≠ l[b].ID) ∧ ∀ id, (mapGet m id).getD false = true ↔ ∃ a, ∃ ha : a < l.length, a < i ∧ l[a].ID = id) _
      (fun i m hi ⟨h1, h2⟩ => ?_) (fun m ⟨h1, h2⟩ => ?_) (k := fuel) (by have := fuel_pos; omega) (a := []) ⟨by intro a b _ _ _ h; omega, fun id => ⟨fun h => by simp [mapGet] at h, fun ⟨a, _, h, _⟩ => by omega⟩⟩
    · have hx := List.getElem?_eq_getElem hi
      simp only [f69.l1, r_brr, L_eq, cast_lt_t hi, br_t, getR_s hx, succ_wr hi (by omega)]
      rw [r_look, r_brr]
      cases hb : (mapGet m l[i].ID).getD false with
      | true =>
        obtain ⟨a, ha, hai, he⟩ := (h2 _).1 hb
        rw [br_t, r_ret]
        exact .inr ⟨_, rfl, .inr ⟨rfl, fun h => h a i ha hi hai he⟩⟩
      | false =>
        rw [br_f, r_mset, r_ret]
        refine .inl ⟨_, rfl, fun a b ha hb' hab hbi => ?_, fun id => ?_⟩
        · by_cases e : b = i
          · subst e
            intro he
            have := (h2 _).2 ⟨a, ha, hab, he⟩
            rw [hb] at this; cases this
          · exact h1 a b ha hb' hab (by omega)
        · rw [mapGet_set]
          by_cases e : l[i].ID = id
          · rw [if_pos e]; exact ⟨fun _ => ⟨i, hi, by omega, e⟩, fun _ => rfl⟩
          · rw [if_neg e, h2]
            constructor
            · rintro ⟨a, ha, hai, he⟩; exact ⟨a, ha, by omega, he⟩
            · rintro ⟨a, ha, hai, he⟩
              have : a ≠ i := by rintro rfl; exact e he
              exact ⟨a, ha, by omega, he⟩
    · exact ⟨.b (), by simp only [f69.l1, r_brr, L_eq, cast_lt_f (Nat.lt_irrefl _), br_f, r_ret], .inl ⟨rfl, fun a b ha hb hab => h1 a b ha hb hab hb⟩⟩
  obtain ⟨q, hq, hQ⟩ := hloop
  simp only [f69]
  rw [r_loop2, hq, bd_s]
  rcases hQ with ⟨rfl, h⟩ | ⟨rfl, h⟩
  · exact ⟨true, rfl, fun _ => h, fun _ => rfl⟩
  · exact ⟨false, rfl, by simp, fun hh => absurd hh h⟩

theorem anyp_run {v : View} (hs : SmallV v) : ∃ b, (f70v1 v.Edges v).run = some b ∧ (b = false ↔ ∀ e ∈ v.Edges, PropE e v.Vertex.ID) := by
  have hse := hs.e
  obtain ⟨q, hq, hQ⟩ := loop_ix (A := Unit) (f := fun s => (f62v3.l1 v.Edges v s).run) (n := v.Edges.length) (fun i _ => (i : Int)) (fun i _ => ∀ a (ha : a < v.Edges.length), a < i → PropE v.Edges[a] v.Vertex.ID)
    (fun q => (q = .b () ∧ ∀ e ∈ v.Edges, PropE e v.Vertex.ID) ∨ (∃ i : Nat, q = .a (i : Int) ∧ ∃ e ∈ v.Edges, ¬ PropE e v.Vertex.ID))
    (fun i _ hi hI => by
      have hx := List.getElem?_eq_getElem hi
      obtain ⟨b, b1, b2⟩ := prope_run v.Edges[i] v.Vertex.ID
      simp only [f62v3.l1, f71, r_brr, L_eq, cast_lt_t hi, br_t, getR_s hx, succ_wr hi (by omega), r_cl, b1, bd_s, r_ret]
      cases b with
      | false =>
        rw [Bool.not_false, br_t]
        exact .inr ⟨_, rfl, .inr ⟨i, rfl, _, List.getElem_mem hi, fun h => by have := b2.2 h; cases this⟩⟩
      | true =>
        rw [Bool.not_true, br_f]
        refine .inl ⟨(), rfl, fun a ha hai => ?_⟩
        by_cases e : a = i
        · subst e; exact b2.1 rfl
        · exact hI a ha (by omega))
    (fun _ hI => ⟨.b (), by simp only [f62v3.l1, r_brr, L_eq, cast_lt_f (Nat.lt_irrefl _), br_f, r_ret], .inl ⟨rfl, fun e he => by
      obtain ⟨i, hi, rfl⟩ := List.getElem_of_mem he; exact hI i hi hi⟩⟩)
    (k := fuel) (by have := fuel_pos; omega) (a := ()) (by intro a _ h; omega)
  have hq : loopN fuel (fun s => (f62v3.l1 v.Edges v s).run) (0 : Int) = some q := hq
  simp only [f70v1, f62v3, r_cl]
  rw [r_loop2, hq, bd_s]
  rcases hQ with ⟨rfl, h⟩ | ⟨i, rfl, e, he, hn⟩
  · rw [ex_b, r_ret, bd_s, r_ret]
    exact ⟨_, rfl, fun _ => h, fun _ => rfl⟩
  · rw [ex_a, r_ret, bd_s, r_ret]
    exact ⟨_, rfl, fun hh => by simp at hh, fun h => absurd (h e he) hn⟩

/-- What both checks ask of a view first. -/
structure SeenOk (v : View) : Prop where
  d : Dist v.Edges
  p : ∀ e ∈ v.Edges, PropE e v.Vertex.ID
  own : ∃ x, thr v.Labels v.Vertex.ID = some x ∧ bnd x
  ends : ∀ e ∈ v.Edges, (∃ x, thr v.Labels e.From = some x ∧ bnd x) ∧ ∃ x, thr v.Labels e.To = some x ∧ bnd x

theorem thr_snoc (l : List Named) (x : Named) (id : Int) : thr (l ++ [x]) id = match thr l id with | some a => some a | none => if is3 id x then A3_Int.of x.Label else none := by
  unfold thr
  rw [List.find?_append]
  cases h : l.find? (is3 id) with
  | some y =>
    obtain ⟨a, a1, _⟩ := of3 (is3_len (List.find?_some h)).2
    simp [a1]
  | none =>
    simp only [Option.none_or, List.find?_cons, List.find?_nil, Option.bind_none]
    cases h2 : is3 id x <;> simp

theorem labels_map {v : View} (hs : SmallV v) : ∃ m, loopN fuel (fun s : Int × List (Int × A3_Int) => (f36.l1 v s.1 s.2).run) ((0 : Int), ([] : List (Int × A3_Int))) = some (.a m) ∧ ∀ id, mapGet m id = thr v.Labels id := by
  have hsl := hs.l
  obtain ⟨q, hq, m, rfl, hm⟩ := loop_ix (A := List (Int × A3_Int)) (f := fun s : Int × List (Int × A3_Int) => (f36.l1 v s.1 s.2).run) (n := v.Labels.length) (fun i a => ((i : Int), a)) (fun i m => ∀ id, mapGet m id = thr (v.Labels.take i) id)
    (fun q => ∃ m, q = .a m ∧ ∀ id, mapGet m id = thr v.Labels id)
    (fun i m hi hm => by
      have hx := List.getElem?_eq_getElem hi
      have htk := List.take_succ_eq_append_getElem hi
      rw [htk]
      generalize v.Labels[i] = x at hx
      simp only [f36.l1, r_brr, r_join1, L_eq, cast_lt_t hi, br_t, getR_s hx, succ_wr hi (by omega)]
      rw [r_look, r_join1, r_brr]
      cases hg : mapGet m x.ID with
      | some a =>
        rw [Option.isSome_some, Bool.not_true, br_f, r_ret, bd_s, ex_a, r_brr, br_f, r_ret]
        refine .inl ⟨m, rfl, fun id => ?_⟩
        rw [thr_snoc, hm]
        cases ht : thr (v.Labels.take i) id with
        | some b => rfl
        | none =>
          have : is3 id x = false := by
            cases h3 : is3 id x with
            | false => rfl
            | true => rw [hm, (is3_len h3).1, ht] at hg; cases hg
          rw [this]; rfl
      | none =>
        rw [Option.isSome_none, Bool.not_false, br_t, r_ret, bd_s, ex_a, r_brr]
        by_cases h3 : x.Label.length = 3
        · obtain ⟨a, a1, _⟩ := of3 h3
          rw [show ((x.Label.length : Int) == 3) = true by simp [h3], br_t, r_s2a, a1, bd_s, r_mset, r_ret]
          refine .inl ⟨_, rfl, fun id => ?_⟩
          rw [thr_snoc, mapGet_set]
          by_cases e : x.ID = id
          · rw [if_pos e]
            have : thr (v.Labels.take i) id = none := by rw [← hm, ← e, hg]
            rw [this, show is3 id x = true by unfold is3; simp [e, h3]]
            exact a1.symm
          · rw [if_neg e, hm, show is3 id x = false by unfold is3; simp [e]]
            cases thr (v.Labels.take i) id <;> rfl
        · rw [show ((x.Label.length : Int) == 3) = false from beq_eq_false_iff_ne.2 (by omega), br_f, r_ret]
          refine .inl ⟨m, rfl, fun id => ?_⟩
          rw [thr_snoc, hm, show is3 id x = false by unfold is3; simp [h3]]
          cases thr (v.Labels.take i) id <;> rfl)
    (fun m hm => by
      rw [List.take_length] at hm
      exact ⟨.a m, by simp only [f36.l1, r_brr, L_eq, cast_lt_f (Nat.lt_irrefl _), br_f, r_ret], m, rfl, hm⟩)
    (k := fuel) (by have := fuel_pos; omega) (a := []) (by intro id; rfl)
  exact ⟨m, hq, hm⟩

theorem ids_run {v : View} (hs : SmallV v) : ∃ l, loopN fuel (fun s : Int × List Int => (f36.l2 v s.1 s.2).run) ((0 : Int), [v.Vertex.ID]) = some (.a l) ∧ l.length < 1000000 ∧ ∀ x, x ∈ l ↔ x = v.Vertex.ID ∨ ∃ e ∈ v.Edges, x = e.From ∨ x = e.To := by
  have hse := hs.e
  obtain ⟨q, hq, l, rfl, hl⟩ := loop_ix (A := List Int) (f := fun s : Int × List Int => (f36.l2 v s.1 s.2).run) (n := v.Edges.length) (fun i a => ((i : Int), a))
    (fun i l => l.length = 1 + 2 * i ∧ ∀ x, x ∈ l ↔ x = v.Vertex.ID ∨ ∃ e ∈ v.Edges.take i, x = e.From ∨ x = e.To)
    (fun q => ∃ l, q = .a l ∧ l.length < 1000000 ∧ ∀ x, x ∈ l ↔ x = v.Vertex.ID ∨ ∃ e ∈ v.Edges, x = e.From ∨ x = e.To)
    (fun i l hi ⟨h1, h2⟩ => by
      have hx := List.getElem?_eq_getElem hi
      have htk := List.take_succ_eq_append_getElem hi
      rw [htk]
      simp only [f36.l2, r_brr, L_eq, cast_lt_t hi, br_t, getR_s hx, succ_wr hi (by omega)]
      rw [ap_s (by rw [List.length_append]; simp; unfold bigLen; omega), r_ret]
      refine .inl ⟨_, rfl, by simp; omega, fun x => ?_⟩
      rw [List.mem_append, h2]
      simp only [List.mem_append, List.mem_cons, List.not_mem_nil, or_false]
      constructor
      · rintro ((h | ⟨e, he, h⟩) | h)
        · exact .inl h
        · exact .inr ⟨e, .inl he, h⟩
        · exact .inr ⟨_, .inr rfl, h⟩
      · rintro (h | ⟨e, he | rfl, h⟩)
        · exact .inl (.inl h)
        · exact .inl (.inr ⟨e, he, h⟩)
        · exact .inr h)
    (fun l ⟨h1, h2⟩ => by
      rw [List.take_length] at h2
      exact ⟨.a l, by simp only [f36.l2, r_brr, L_eq, cast_lt_f (Nat.lt_irrefl _), br_f, r_ret], l, rfl, by omega, h2⟩)
    (k := fuel) (by have := fuel_pos; omega) (a := [v.Vertex.ID]) ⟨by simp, by simp⟩
  exact ⟨l, hq, hl⟩

theorem range_run (m : List (Int × A3_Int)) {l : List Int} (hl : l.length < 1000000) : ∃ q, loopN fuel (fun s : Int => (f36.l3 m l s).run) (0 : Int) = some q ∧
    ((q = .b () ∧ ∀ id ∈ l, ∃ x, mapGet m id = some x ∧ bnd x) ∨ (q = .a ([], false) ∧ ¬ ∀ id ∈ l, ∃ x, mapGet m id = some x ∧ bnd x)) := by
  refine loop_ix (A := Unit) (f := fun s : Int => (f36.l3 m l s).run) (n := l.length) (fun i _ => (i : Int)) (fun i _ => ∀ a (ha : a < l.length), a < i → ∃ x, mapGet m l[a] = some x ∧ bnd x) _
    (fun i _ hi hI => ?_) (fun _ hI => ?_) (k := fuel) (by have := fuel_pos; omega) (a := ()) (by intro a _ h; omega)
  · have hx := List.getElem?_eq_getElem hi
    simp only [f36.l3, r_brr, L_eq, cast_lt_t hi, br_t, succ_wr hi (by omega)]
    rw [ck_t ⟨by omega, Int.ofNat_lt.2 hi⟩, at0_nat, rd_s hx, r_look, r_brr]
    cases hg : mapGet m l[i] with
    | none =>
      rw [Option.isSome_none, Bool.not_false, br_t, r_ret]
      exact .inr ⟨_, rfl, .inr ⟨rfl, fun h => by obtain ⟨x, h1, _⟩ := h _ (List.getElem_mem hi); rw [hg] at h1; cases h1⟩⟩
    | some x =>
      have hmin : ((if x.x2 < (if x.x1 < x.x0 then x.x1 else x.x0) then x.x2 else (if x.x1 < x.x0 then x.x1 else x.x0)) < -24000) ↔ (x.x0 < -24000 ∨ x.x1 < -24000 ∨ x.x2 < -24000) := by
        by_cases h1 : x.x1 < x.x0
        · rw [if_pos h1]; split <;> omega
        · rw [if_neg h1]; split <;> omega
      have hmax : ((if x.x2 > (if x.x1 > x.x0 then x.x1 else x.x0) then x.x2 else (if x.x1 > x.x0 then x.x1 else x.x0)) > 24000) ↔ (x.x0 > 24000 ∨ x.x1 > 24000 ∨ x.x2 > 24000) := by
        by_cases h1 : x.x1 > x.x0
        · rw [if_pos h1]; split <;> omega
        · rw [if_neg h1]; split <;> omega
      rw [Option.isSome_some, Bool.not_true, br_f]
      simp only [Option.getD_some, r_brr, r_ret, br_dec]
      by_cases h1 : (if x.x2 < (if x.x1 < x.x0 then x.x1 else x.x0) then x.x2 else (if x.x1 < x.x0 then x.x1 else x.x0)) < -24000
      · rw [if_pos h1]
        refine .inr ⟨_, rfl, .inr ⟨rfl, fun h => ?_⟩⟩
        obtain ⟨y, h2, h3⟩ := h _ (List.getElem_mem hi)
        rw [hg] at h2; cases h2
        have := hmin.1 h1
        unfold bnd at h3; omega
      · rw [if_neg h1]
        by_cases h2 : (if x.x2 > (if x.x1 > x.x0 then x.x1 else x.x0) then x.x2 else (if x.x1 > x.x0 then x.x1 else x.x0)) > 24000
        · rw [if_pos h2]
          refine .inr ⟨_, rfl, .inr ⟨rfl, fun h => ?_⟩⟩
          obtain ⟨y, h3, h4⟩ := h _ (List.getElem_mem hi)
          rw [hg] at h3; cases h3
          have := hmax.1 h2
          unfold bnd at h4; omega
        · rw [if_neg h2]
          refine .inl ⟨(), rfl, fun a ha hai => ?_⟩
          by_cases e : a = i
          · subst e
            refine ⟨x, hg, ?_⟩
            have h3 := fun h => h1 (hmin.2 h)
            have h4 := fun h => h2 (hmax.2 h)
            unfold bnd; omega
          · exact hI a ha (by omega)
  · refine ⟨.b (), by simp only [f36.l3, r_brr, L_eq, cast_lt_f (Nat.lt_irrefl _), br_f, r_ret], .inl ⟨rfl, fun id hid => ?_⟩⟩
    obtain ⟨i, hi, rfl⟩ := List.getElem_of_mem hid
    exact hI i hi hi

theorem seen_run {v : View} (hs : SmallV v) : ∃ m b, (f36 v).run = some (m, b) ∧ (b = true ↔ SeenOk v) ∧ (b = true → ∀ id, mapGet m id = thr v.Labels id) := by
  obtain ⟨b1, h1, k1⟩ := dist_run hs.e
  obtain ⟨b2, h2, k2⟩ := anyp_run hs
  obtain ⟨m, h3, k3⟩ := labels_map hs
  obtain ⟨l, h4, k4, k5⟩ := ids_run hs
  obtain ⟨q, h5, k6⟩ := range_run m k4
  simp only [f36]
  rw [r_join1, r_cl, h1, bd_s, r_brr]
  cases b1 with
  | false =>
    rw [Bool.not_false, br_t, r_ret, bd_s, ex_a, r_brr, br_t, r_ret]
    exact ⟨_, false, rfl, ⟨by simp, fun h => by have := k1.2 h.d; cases this⟩, by simp⟩
  | true =>
    rw [Bool.not_true, br_f, r_cl, h2, bd_s, r_ret, bd_s, ex_a, r_brr]
    cases b2 with
    | true =>
      rw [br_t, r_ret]
      exact ⟨_, false, rfl, ⟨by simp, fun h => by have := k2.2 h.p; cases this⟩, by simp⟩
    | false =>
      rw [br_f, r_loop1, h3, bd_s, ex_a, r_loop1, h4, bd_s, ex_a, r_loop2, h5, bd_s]
      rcases k6 with ⟨rfl, k6⟩ | ⟨rfl, k6⟩
      · rw [ex_b, r_ret]
        refine ⟨m, true, rfl, ⟨fun _ => ⟨k1.1 rfl, k2.1 rfl, ?_, fun e he => ⟨?_, ?_⟩⟩, fun _ => rfl⟩, fun _ => k3⟩
        · rw [← k3]; exact k6 _ ((k5 _).2 (.inl rfl))
        · rw [← k3]; exact k6 _ ((k5 _).2 (.inr ⟨e, he, .inl rfl⟩))
        · rw [← k3]; exact k6 _ ((k5 _).2 (.inr ⟨e, he, .inr rfl⟩))
      · rw [ex_a, r_ret]
        refine ⟨_, false, rfl, ⟨by simp, fun h => absurd (fun id hid => ?_) k6⟩, by simp⟩
        rw [k3]
        rcases (k5 _).1 hid with rfl | ⟨e, he, rfl | rfl⟩
        · exact h.own
        · exact (h.ends e he).1
        · exact (h.ends e he).2
end Trd
end Go.Fx.Gen
