/- The reference's simple functions, in plain words. -/
import Derived.Test.YtpkjgdngkhnhpaaPM
import Derived.Test.YtpkjgdngkhnhpaaG4
namespace Go.Fw.Gen
open Go.Fw
theorem chk_loop {α R : Type} (l : List α) (hl : l.length ≤ 1000000) (f : Int → Option (Nx Int R)) (ok : Nat → α → Bool) (bad : Nat → α → R) (fin : R)
  (hs : ∀ (i : Nat) (x : α), i < l.length → l[i]? = some x → f (i : Int) = if ok i x then some (.cont ((i + 1 : Nat) : Int)) else some (.done (bad i x)))
  (he : (∀ (i : Nat) (x : α), l[i]? = some x → ok i x = true) → f (l.length : Int) = some (.done fin)) :
  ((∀ (i : Nat) (x : α), l[i]? = some x → ok i x = true) ∧ loopN fuel f 0 = some fin) ∨ ∃ (i : Nat) (x : α), l[i]? = some x ∧ ok i x = false ∧ loopN fuel f 0 = some (bad i x) := by
 obtain ⟨r, h1, h2⟩ := loopN_of (f := f) (fun s => ∃ i : Nat, s = (i : Int) ∧ i ≤ l.length ∧ ∀ (j : Nat) (x : α), j < i → l[j]? = some x → ok j x = true)
  (fun r => ((∀ (i : Nat) (x : α), l[i]? = some x → ok i x = true) ∧ r = fin) ∨ ∃ (i : Nat) (x : α), l[i]? = some x ∧ ok i x = false ∧ r = bad i x) (fun s => l.length - s.toNat) (by
   rintro s ⟨i, rfl, hi, hP⟩
   by_cases h : i = l.length
   ·right
    subst h
    have hall : ∀ (i : Nat) (x : α), l[i]? = some x → ok i x = true := fun j x hx => hP j x (List.getElem?_eq_some_iff.1 hx).1 hx
    exact ⟨fin, he hall, .inl ⟨hall, rfl⟩⟩
   ·have hx : l[i]? = some (l[i]'(by omega)) := by simp
    generalize l[i]'(by omega) = x at hx
    have hf := hs i x (by omega) hx
    cases ho : ok i x with
    | true =>
     left
     rw [ho, if_pos rfl] at hf
     refine ⟨_, hf, ⟨i + 1, rfl, by omega, fun j y hj hy => ?_⟩, by omega⟩
     by_cases e : j = i
     ·subst e; rw [hx] at hy; cases hy; exact ho
     ·exact hP j y (by omega) hy
    | false =>
     right
     rw [ho] at hf
     exact ⟨_, hf, .inr ⟨i, x, hx, ho, rfl⟩⟩) fuel 0 ⟨0, rfl, by omega, fun j x hj => by omega⟩ (by have := fuel_pos; omega)
 rcases h2 with ⟨h2, rfl⟩ | ⟨i, x, h3, h4, rfl⟩
 ·exact .inl ⟨h2, h1⟩
 ·exact .inr ⟨i, x, h3, h4, h1⟩
def prevB (l : List Int) : Nat → Bool
 | 0 => true
 | i + 1 => match l[i]?, l[i + 1]? with
  | some a, some b => decide (a < b)
  | _, _ => true
theorem prevB_succ {l : List Int} {i : Nat} {a b : Int} (hx : l[i]? = some a) (hy : l[i + 1]? = some b) : prevB l (i + 1) = decide (a < b) := by
 simp only [prevB, hx, hy]
theorem prevB_asc {l : List Int} : (∀ i, i < l.length → prevB l i = true) ↔ ascB l = true := by
 rw [ascB_idx]
 constructor
 ·intro h k x y hx hy
  have := h (k + 1) (List.getElem?_eq_some_iff.1 hy).1
  rw [prevB_succ hx hy] at this
  simpa using this
 ·intro h i hi
  cases i with
  | zero => rfl
  | succ i =>
   have hx : l[i]? = some (l[i]'(by omega)) := by simp
   have hy : l[i + 1]? = some (l[i + 1]'hi) := by simp
   rw [prevB_succ hx hy]
   simpa using h i _ _ hx hy
theorem prev_br {α S : Type} {l : List α} {id : α → Int} {i : Nat} {x : α} (hx : l[i]? = some x) (hl : l.length ≤ 1000000) (good bad : Option S) :
  br (decide ((i : Int) > 0)) (getR l (IntKind.i64.wrap ((i : Int) - 1)) fun a => br (decide (id x ≤ id a)) bad good) good = if prevB (l.map id) i then good else bad := by
 have hi := (List.getElem?_eq_some_iff.1 hx).1
 cases i with
 | zero => rfl
 | succ i =>
  have hy : l[i]? = some (l[i]'(by omega)) := by simp
  generalize l[i]'(by omega) = y at hy
  have e2 : IntKind.i64.wrap (((i + 1 : Nat) : Int) - 1) = (i : Int) := by rw [wr]; omega
  rw [br_dec, if_pos (by omega), e2, getR_s hy, br_dec]
  rw [prevB_succ (a := id y) (b := id x) (by rw [List.getElem?_map, hy]; rfl) (by rw [List.getElem?_map, hx]; rfl)]
  by_cases h : id y < id x
  ·rw [if_neg (by omega), if_pos (by simpa using h)]
  ·rw [if_pos (by omega), if_neg (by simpa using h)]
theorem Place_neg {g : Graph} (hs : SmallG g) (x : Int) : ∃ y, r3Place g x = some y ∧ decide (y < 0) = !hasV g x ∧ decide (y ≥ 0) = hasV g x := by
 rcases Place_eq hs x with ⟨i, v, h1, h2, h3⟩ | ⟨h1, h2⟩
 ·have := hasV_of h2
  rw [h3] at this
  exact ⟨_, h1, by rw [this]; simp, by rw [this]; simp⟩
 ·exact ⟨_, h1, by rw [h2]; rfl, by rw [h2]; rfl⟩
theorem in3_eq (a b c : Int) : r3in a b c = some (decide (b ≤ a) && decide (a ≤ c)) := by
 unfold r3in
 rw [br_dec]
 by_cases h : b ≤ a
 ·rw [if_pos (by omega), decide_eq_true h]; rfl
 ·rw [if_neg (by omega), decide_eq_false h]; rfl
theorem vertex3_eq (v : Vertex) : r3vertex v = some (okV v) := by
 unfold r3vertex okV
 simp only [in3_eq, bd_s]
 cases (decide (0 ≤ v.ID) && decide (v.ID ≤ 23)) <;> rfl
theorem edge3_eq (e : Edge) : r3edge e = some (okE e) := by
 unfold r3edge okE
 simp only [in3_eq, bd_s]
 cases (decide (0 ≤ e.ID) && decide (e.ID ≤ 39)) <;> cases (decide (0 ≤ e.From) && decide (e.From ≤ 23)) <;> cases (decide (0 ≤ e.To) && decide (e.To ≤ 23)) <;> cases (decide (-1000 ≤ e.Weight) && decide (e.Weight ≤ 1000)) <;> rfl
theorem all_get {α : Type} {l : List α} {p : α → Bool} : (∀ (i : Nat) (x : α), l[i]? = some x → p x = true) ↔ l.all p = true := by
 rw [List.all_eq_true]
 constructor
 ·intro h x hx
  obtain ⟨i, hi⟩ := List.getElem?_of_mem hx
  exact h i x hi
 ·intro h i x hx; exact h x (List.mem_of_getElem? hx)
theorem valid_D (g : Graph) (hs : SmallG g) : loopN fuel (r3Valid.l0 g.Vertices g.Edges g.Depots) 0 = some (if ascB g.Depots && g.Depots.all (hasV g) then .inr () else .inl ()) := by
 have hd := hs.d
 rcases chk_loop g.Depots (by omega) (r3Valid.l0 g.Vertices g.Edges g.Depots) (fun i x => hasV g x && prevB g.Depots i) (fun _ _ => .inl ()) (.inr ())
  (by
   intro i x hi hx
   have e1 : IntKind.i64.wrap ((i : Int) + 1) = ((i + 1 : Nat) : Int) := by rw [wr]; omega
   obtain ⟨y, h1, h2, _⟩ := Place_neg hs x
   unfold r3Valid.l0
   rw [br_dec, if_pos (by omega), getR_s hx]
   show bd (r3Place g x) _ = _
   rw [h1, bd_s, h2, getR_s hx, e1]
   have := prev_br (id := fun d : Int => d) (S := Nx Int (Unit ⊕ Unit)) hx (by omega) (some (.cont ((i + 1 : Nat) : Int))) (some (.done (.inl ())))
   rw [List.map_id'] at this
   rw [this]
   cases hasV g x <;> cases prevB g.Depots i <;> rfl)
  (by
   intro _
   unfold r3Valid.l0
   rw [br_dec, if_neg (by omega)]) with ⟨h1, h2⟩ | ⟨i, x, h1, h2, h3⟩
 ·rw [h2, if_pos]
  rw [Bool.and_eq_true]
  refine ⟨prevB_asc.1 fun i hi => ?_, all_get.1 fun i x hx => ?_⟩
  ·have := h1 i _ (show g.Depots[i]? = some (g.Depots[i]'hi) by simp)
   rw [Bool.and_eq_true] at this; exact this.2
  ·have := h1 i x hx
   rw [Bool.and_eq_true] at this; exact this.1
 ·rw [h3, if_neg]
  intro h
  rw [Bool.and_eq_true] at h
  have a := prevB_asc.2 h.1 i (List.getElem?_eq_some_iff.1 h1).1
  have b := all_get.2 h.2 i x h1
  rw [a, b] at h2; cases h2
theorem valid_E (g : Graph) (hs : SmallG g) : ∃ r, loopN fuel (r3Valid.l1 g.Vertices g.Edges g.Depots) 0 = some r ∧
  (r = .inr (.inr ()) ↔ (ascB (g.Edges.map (·.ID)) = true ∧ g.Edges.all (fun e => okE e && (hasV g e.From && hasV g e.To)) = true) ∧ (ascB g.Depots && g.Depots.all (hasV g)) = true) := by
 have he := hs.e
 cases hD : (ascB g.Depots && g.Depots.all (hasV g)) with
 | _ =>
 rcases chk_loop g.Edges (by omega) (r3Valid.l1 g.Vertices g.Edges g.Depots) (fun i e => (okE e && (hasV g e.From && hasV g e.To)) && prevB (g.Edges.map (·.ID)) i) (fun _ _ => .inl ()) (if (ascB g.Depots && g.Depots.all (hasV g)) then .inr (.inr ()) else .inr (.inl ()))
  (by
   intro i x hi hx
   have e1 : IntKind.i64.wrap ((i : Int) + 1) = ((i + 1 : Nat) : Int) := by rw [wr]; omega
   obtain ⟨y, h1, h2, _⟩ := Place_neg hs x.From
   obtain ⟨z, h3, h4, _⟩ := Place_neg hs x.To
   unfold r3Valid.l1
   rw [br_dec, if_pos (by omega), getR_s hx, edge3_eq, bd_s, e1]
   have k : (bd (r3Place (Graph.mk g.Vertices g.Edges g.Depots) x.From) fun y35 => br (decide (y35 < 0)) (some (.done (.inl ()))) (bd (r3Place (Graph.mk g.Vertices g.Edges g.Depots) x.To) fun y38 => br (decide (y38 < 0)) (some (.done (.inl ()))) (some (.cont ((i + 1 : Nat) : Int))))) =
     (if hasV g x.From && hasV g x.To then some (.cont ((i + 1 : Nat) : Int)) else some (Nx.done (Sum.inl ())) : Option (Nx Int (Unit ⊕ Unit ⊕ Unit))) := by
    show bd (r3Place g x.From) _ = _
    rw [h1, bd_s, h2]
    show br _ _ (bd (r3Place g x.To) _) = _
    rw [h3, bd_s, h4]
    cases hasV g x.From <;> cases hasV g x.To <;> rfl
   rw [k, prev_br (id := Edge.ID) hx (by omega)]
   cases okE x <;> cases (hasV g x.From && hasV g x.To) <;> cases prevB (g.Edges.map (·.ID)) i <;> rfl)
  (by
   intro _
   unfold r3Valid.l1
   rw [br_dec, if_neg (by omega), valid_D g hs, bd_s, hD]
   rfl) with ⟨h1, h2⟩ | ⟨i, x, h1, h2, h3⟩
 ·refine ⟨_, h2, ?_⟩
  have hE : ascB (g.Edges.map (·.ID)) = true ∧ g.Edges.all (fun e => okE e && (hasV g e.From && hasV g e.To)) = true := by
   refine ⟨prevB_asc.1 fun i hi => ?_, all_get.1 fun i x hx => ?_⟩
   ·rw [List.length_map] at hi
    have := h1 i _ (show g.Edges[i]? = some (g.Edges[i]'hi) by simp)
    rw [Bool.and_eq_true] at this; exact this.2
   ·have := h1 i x hx
    rw [Bool.and_eq_true] at this; exact this.1
  rw [hD]
  simp [hE]
 ·refine ⟨_, h3, ?_⟩
  constructor
  ·intro h; cases h
  ·rintro ⟨⟨ha, hb⟩, _⟩
   have a := prevB_asc.2 ha i (by rw [List.length_map]; exact (List.getElem?_eq_some_iff.1 h1).1)
   have b := all_get.2 hb i x h1
   rw [a, b] at h2; cases h2
def conv3 : Unit ⊕ Unit ⊕ Unit → Unit ⊕ Unit ⊕ Unit ⊕ Unit
 | .inl _ => .inr (.inl ())
 | .inr (.inl _) => .inr (.inr (.inl ()))
 | .inr (.inr _) => .inr (.inr (.inr ()))
def conv2 : Unit ⊕ Unit → Unit ⊕ Unit ⊕ Unit
 | .inl _ => .inr (.inl ())
 | .inr _ => .inr (.inr ())
theorem Valid3_eq (g : Graph) (hs : SmallG g) : r3Valid g = some (validP g) := by
 have hv := hs.v
 obtain ⟨r, hr, hr2⟩ := valid_E g hs
 unfold r3Valid
 have key : ∃ q, loopN fuel (r3Valid.l2 g.Vertices g.Edges g.Depots) 0 = some q ∧ (q = .inr (.inr (.inr ())) ↔ (ascB (g.Vertices.map (·.ID)) = true ∧ g.Vertices.all okV = true) ∧ r = .inr (.inr ())) := by
  rcases chk_loop g.Vertices (by omega) (r3Valid.l2 g.Vertices g.Edges g.Depots) (fun i v => okV v && prevB (g.Vertices.map (·.ID)) i) (fun _ _ => .inl ())
   (conv3 r)
   (by
    intro i x hi hx
    have e1 : IntKind.i64.wrap ((i : Int) + 1) = ((i + 1 : Nat) : Int) := by rw [wr]; omega
    unfold r3Valid.l2
    rw [br_dec, if_pos (by omega), getR_s hx, vertex3_eq, bd_s, getR_s hx, e1, prev_br (id := Vertex.ID) hx (by omega)]
    cases okV x <;> cases prevB (g.Vertices.map (·.ID)) i <;> rfl)
   (by
    intro _
    unfold r3Valid.l2
    rw [br_dec, if_neg (by omega), hr, bd_s]
    rcases r with _ | _ | _ <;> rfl) with ⟨h1, h2⟩ | ⟨i, x, h1, h2, h3⟩
  ·refine ⟨_, h2, ?_⟩
   have hE : ascB (g.Vertices.map (·.ID)) = true ∧ g.Vertices.all okV = true := by
    refine ⟨prevB_asc.1 fun i hi => ?_, all_get.1 fun i x hx => ?_⟩
    ·rw [List.length_map] at hi
     have := h1 i _ (show g.Vertices[i]? = some (g.Vertices[i]'hi) by simp)
     rw [Bool.and_eq_true] at this; exact this.2
    ·have := h1 i x hx
     rw [Bool.and_eq_true] at this; exact this.1
   rcases r with _ | _ | _ <;> simp [hE, conv3]
  ·refine ⟨_, h3, ?_⟩
   constructor
   ·intro h; cases h
   ·rintro ⟨⟨ha, hb⟩, _⟩
    have a := prevB_asc.2 ha i (by rw [List.length_map]; exact (List.getElem?_eq_some_iff.1 h1).1)
    have b := all_get.2 hb i x h1
    rw [a, b] at h2; cases h2
 obtain ⟨q, hq, hq2⟩ := key
 rw [hq, bd_s]
 rw [hr2] at hq2
 unfold validP
 have hdep : decide (((g.Depots.length : Nat) : Int) ≤ 3) = decide (g.Depots.length ≤ 3) := by
  by_cases h : g.Depots.length ≤ 3
  ·rw [decide_eq_true h, decide_eq_true (by omega)]
  ·rw [decide_eq_false h, decide_eq_false (by omega)]
 by_cases h : q = .inr (.inr (.inr ()))
 ·obtain ⟨⟨a, b⟩, ⟨c, d⟩, e⟩ := hq2.1 h
  rw [Bool.and_eq_true] at e
  subst h
  simp only
  rw [hdep, a, b, c, d, e.1, e.2]; simp
 ·have hno : (ascB (g.Vertices.map (·.ID)) && (ascB (g.Edges.map (·.ID)) && (g.Vertices.all okV && (g.Edges.all (fun e => okE e && (hasV g e.From && hasV g e.To)) && (decide (g.Depots.length ≤ 3) && (ascB g.Depots && g.Depots.all (hasV g))))))) = false := by
   rw [Bool.eq_false_iff]
   intro hh
   simp only [Bool.and_eq_true] at hh
   exact h (hq2.2 ⟨⟨hh.1, hh.2.2.1⟩, ⟨hh.2.1, hh.2.2.2.1⟩, by rw [Bool.and_eq_true]; exact hh.2.2.2.2.2⟩)
  rw [hno]
  rcases q with _ | _ | _ | _
  ·rfl
  ·rfl
  ·rfl
  ·exact absurd rfl h
theorem ends_eq {g : Graph} (hs : SmallG g) (a b : Int) : r7ends g a b = some (validP g && (hasV g a && hasV g b)) := by
 unfold r7ends
 obtain ⟨y, h1, _, h2⟩ := Place_neg hs a
 obtain ⟨z, h3, _, h4⟩ := Place_neg hs b
 rw [Valid3_eq g hs, bd_s, h1, bd_s, h2, h3, bd_s, h4]
 cases validP g <;> cases hasV g a <;> rfl
theorem has3_eq (l : List Int) (x : Int) (hl : l.length ≤ 1000000) : r7has l x = some (l.contains x) := by
 unfold r7has
 rcases chk_loop l hl (r7has.l0 l x) (fun _ y => !(y == x)) (fun _ _ => .inl ()) (.inr ())
  (by
   intro i y hi hy
   have e1 : IntKind.i64.wrap ((i : Int) + 1) = ((i + 1 : Nat) : Int) := by rw [wr]; omega
   unfold r7has.l0
   rw [br_dec, if_pos (by omega), getR_s hy, e1]
   cases (y == x) <;> rfl)
  (by
   intro _
   unfold r7has.l0
   rw [br_dec, if_neg (by omega)]) with ⟨h1, h2⟩ | ⟨i, y, h1, h2, h3⟩
 ·rw [h2, bd_s]
  have : l.contains x = false := by
   rw [Bool.eq_false_iff]
   intro h
   rw [List.contains_iff_mem] at h
   obtain ⟨i, hi⟩ := List.getElem?_of_mem h
   have := h1 i x hi
   simp at this
  rw [this]
 ·rw [h3, bd_s]
  have : l.contains x = true := by
   rw [List.contains_iff_mem]
   have h2 : y = x := by simpa using h2
   rw [← h2]; exact List.mem_of_getElem? h1
  rw [this]
theorem Ints_self (l : List Int) (hl : l.length ≤ 1000000) : r3Ints l l = some true := by
 unfold r3Ints
 rw [show (((l.length : Nat) : Int) != ((l.length : Nat) : Int)) = false by simp, br_f]
 rcases chk_loop l hl (r3Ints.l0 l l) (fun _ _ => true) (fun _ _ => .inl ()) (.inr ())
  (by
   intro i y hi hy
   have e1 : IntKind.i64.wrap ((i : Int) + 1) = ((i + 1 : Nat) : Int) := by rw [wr]; omega
   unfold r3Ints.l0
   rw [br_dec, if_pos (by omega), getR_s hy, getR_s hy, show (y != y) = false by simp, e1]; rfl)
  (by
   intro _
   unfold r3Ints.l0
   rw [br_dec, if_neg (by omega)]) with ⟨h1, h2⟩ | ⟨i, y, h1, h2, h3⟩
 ·rw [h2, bd_s]
 ·cases h2
theorem Same_self (l : List Named) (hl : l.length ≤ 1000000) (hn : ∀ x ∈ l, x.Label.length ≤ 1000000) : r7SameLabels l l = some true := by
 unfold r7SameLabels
 rw [show (((l.length : Nat) : Int) != ((l.length : Nat) : Int)) = false by simp, br_f]
 rcases chk_loop l hl (r7SameLabels.l0 l l) (fun _ _ => true) (fun _ _ => .inl ()) (.inr ())
  (by
   intro i y hi hy
   have e1 : IntKind.i64.wrap ((i : Int) + 1) = ((i + 1 : Nat) : Int) := by rw [wr]; omega
   unfold r7SameLabels.l0
   rw [br_dec, if_pos (by omega), getR_s hy, getR_s hy, show (y.ID != y.ID) = false by simp, br_f, getR_s hy, getR_s hy, Ints_self _ (hn y (List.mem_of_getElem? hy)), bd_s, e1]; rfl)
  (by
   intro _
   unfold r7SameLabels.l0
   rw [br_dec, if_neg (by omega)]) with ⟨h1, h2⟩ | ⟨i, y, h1, h2, h3⟩
 ·rw [h2, bd_s]
 ·cases h2
theorem CheckSide3_eq {g : Graph} (hs : SmallG g) (a b : Int) (l : List Int) (hl : l.length ≤ 500) :
  r7CheckSide g a b l = some (validP g && (hasV g a && hasV g b) && sideB g a b l) := by
 unfold r7CheckSide
 rw [ends_eq hs, bd_s]
 cases (validP g && (hasV g a && hasV g b)) with
 | false => rfl
 | true =>
  rw [show (!true) = false from rfl, br_f, has3_eq l a (by omega), bd_s, has3_eq l b (by omega), bd_s]
  unfold sideB
  cases l.contains a with
  | false => simp; rfl
  | true =>
   cases l.contains b with
   | true => simp; rfl
   | false =>
    have he := hs.e
    have hE : ∃ r, loopN fuel (r7CheckSide.l0 l g.Vertices g.Edges g.Depots) 0 = some r ∧ (r = .inr () ↔ (g.Edges.all fun e => l.contains e.From == l.contains e.To) = true) := by
     rcases chk_loop g.Edges (by omega) (r7CheckSide.l0 l g.Vertices g.Edges g.Depots) (fun _ e => l.contains e.From == l.contains e.To) (fun _ _ => .inl ()) (.inr ())
      (by
       intro i y hi hy
       have e1 : IntKind.i64.wrap ((i : Int) + 1) = ((i + 1 : Nat) : Int) := by rw [wr]; omega
       unfold r7CheckSide.l0
       rw [br_dec, if_pos (by omega), getR_s hy, has3_eq l _ (by omega), bd_s, getR_s hy, has3_eq l _ (by omega), bd_s, e1]
       cases (l.contains y.From == l.contains y.To) <;> rfl)
      (by
       intro _
       unfold r7CheckSide.l0
       rw [br_dec, if_neg (by omega)]) with ⟨h1, h2⟩ | ⟨i, y, h1, h2, h3⟩
     ·exact ⟨_, h2, by simp only [true_iff]; exact all_get.1 h1⟩
     ·refine ⟨_, h3, ?_⟩
      constructor
      ·intro h; cases h
      ·intro h; rw [all_get.2 h i y h1] at h2; cases h2
    obtain ⟨r, hr, hr2⟩ := hE
    have hL : ∃ q, loopN fuel (r7CheckSide.l1 l g.Vertices g.Edges g.Depots) 0 = some q ∧ (q = .inr (.inr ()) ↔ (l.all (hasV g) = true ∧ ascB l = true) ∧ r = .inr ()) := by
     rcases chk_loop l (by omega) (r7CheckSide.l1 l g.Vertices g.Edges g.Depots) (fun i x => hasV g x && prevB l i) (fun _ _ => .inl ()) (conv2 r)
      (by
       intro i x hi hx
       have e1 : IntKind.i64.wrap ((i : Int) + 1) = ((i + 1 : Nat) : Int) := by rw [wr]; omega
       obtain ⟨y, h1, h2, _⟩ := Place_neg hs x
       unfold r7CheckSide.l1
       rw [br_dec, if_pos (by omega), getR_s hx]
       show bd (r3Place g x) _ = _
       rw [h1, bd_s, h2, getR_s hx, e1]
       have := prev_br (id := fun d : Int => d) (S := Nx Int (Unit ⊕ Unit ⊕ Unit)) hx (by omega) (some (.cont ((i + 1 : Nat) : Int))) (some (.done (.inl ())))
       rw [List.map_id'] at this
       rw [this]
       cases hasV g x <;> cases prevB l i <;> rfl)
      (by
       intro _
       unfold r7CheckSide.l1
       rw [br_dec, if_neg (by omega), hr, bd_s]
       rcases r with _ | _ <;> rfl) with ⟨h1, h2⟩ | ⟨i, x, h1, h2, h3⟩
     ·refine ⟨_, h2, ?_⟩
      have hh : l.all (hasV g) = true ∧ ascB l = true := by
       refine ⟨all_get.1 fun i x hx => ?_, prevB_asc.1 fun i hi => ?_⟩
       ·have := h1 i x hx
        rw [Bool.and_eq_true] at this; exact this.1
       ·have := h1 i _ (show l[i]? = some (l[i]'hi) by simp)
        rw [Bool.and_eq_true] at this; exact this.2
      rcases r with _ | _ <;> simp [hh, conv2]
     ·refine ⟨_, h3, ?_⟩
      constructor
      ·intro h; cases h
      ·rintro ⟨⟨ha, hb⟩, _⟩
       have a := prevB_asc.2 hb i (List.getElem?_eq_some_iff.1 h1).1
       have b := all_get.2 ha i x h1
       rw [a, b] at h2; cases h2
    obtain ⟨q, hq, hq2⟩ := hL
    rw [hr2] at hq2
    rw [show (!true) = false from rfl, br_f, br_f, hq, bd_s]
    by_cases h : q = .inr (.inr ())
    ·obtain ⟨⟨a, b⟩, c⟩ := hq2.1 h
     subst h
     simp only
     rw [a, b, c]; rfl
    ·have hno : (true && (l.all (hasV g) && (true && (!false && (ascB l && g.Edges.all fun e => l.contains e.From == l.contains e.To))))) = false := by
      rw [Bool.eq_false_iff]
      intro hh
      simp only [Bool.and_eq_true] at hh
      exact h (hq2.2 ⟨⟨hh.2.1, hh.2.2.2.2.1⟩, hh.2.2.2.2.2⟩)
     rw [hno]
     rcases q with _ | _ | _
     ·rfl
     ·rfl
     ·exact absurd rfl h
end Go.Fw.Gen
