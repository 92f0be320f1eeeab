/- The goodness of views, in plain words: the reference's is the forest's, for every view. -/
import Derived.Test.YtpkjgdngkhnhpaaPU
namespace Go.Fw.Gen
open Go.Fw
def edgeOk (n last : Int) (e : Edge) : Bool :=
 decide (e.ID > last) && (decide (e.ID < 40) && (decide (e.Weight ≥ -1000) && (decide (e.Weight ≤ 1000) && ((decide (e.From ≥ 0) && decide (e.From < 24)) && ((decide (e.To ≥ 0) && decide (e.To < 24)) && (e.From == n || e.To == n))))))
def lastAt (E : List Edge) : Nat → Int
 | 0 => -1
 | i + 1 => match E[i]? with
  | some e => e.ID
  | none => -1
theorem lastAt_succ {E : List Edge} {i : Nat} {f : Edge} (h : E[i]? = some f) : lastAt E (i + 1) = f.ID := by simp only [lastAt, h]
theorem around1_eq (x : Int) : forest_around_1 x = some (decide (x ≥ 0) && decide (x < 24)) := by
 unfold forest_around_1
 rw [br_dec]
 by_cases h : x ≥ 0
 ·rw [if_pos h, decide_eq_true h]; rfl
 ·rw [if_neg h, decide_eq_false h]; rfl
theorem around2_eq (e : Edge) (last n c4 : Int) (c5 : List Int) (c6 : List Edge) (c7 : List Named) : forest_around_2 e last n c4 c5 c6 c7 = some (!edgeOk n last e, e.ID) := by
 unfold forest_around_2 edgeOk
 simp only [around1_eq, bd_s]
 cases decide (e.ID > last) <;> cases decide (e.ID < 40) <;> cases decide (e.Weight ≥ -1000) <;> cases decide (e.Weight ≤ 1000) <;> try rfl
 cases (decide (e.From ≥ 0) && decide (e.From < 24)) <;> cases (decide (e.To ≥ 0) && decide (e.To < 24)) <;> try rfl
 cases h1 : (e.From == n) with
 | true =>
  have : (e.From != n) = false := by unfold bne; rw [h1]; rfl
  rw [this]; rfl
 | false =>
  have : (e.From != n) = true := by unfold bne; rw [h1]; rfl
  rw [this]
  show some (!(e.To == n), e.ID) = _
  rfl
theorem around_eq (v : View) (hE : v.Edges.length ≤ 1000) : ∃ r, forest_around v = some r ∧ (r = true ↔ (0 ≤ v.Vertex.ID ∧ v.Vertex.ID < 24) ∧ ∀ (i : Nat) (e : Edge), v.Edges[i]? = some e → edgeOk v.Vertex.ID (lastAt v.Edges i) e = true) := by
 unfold forest_around
 rw [around1_eq, bd_s]
 by_cases hn : 0 ≤ v.Vertex.ID ∧ v.Vertex.ID < 24
 ·rw [decide_eq_true hn.1, decide_eq_true hn.2]
  rw [show (true && true) = true from rfl, br_t]
  unfold sContainsFuncEE_2 sIndexFuncEE_2
  rcases chk_loopE v.Edges (by omega) (fun i => ((i : Int), lastAt v.Edges i)) (sIndexFuncEE_2.l0 v.Edges ((v.Edges.length : Nat) : Int) v.Vertex.ID v.Vertex.Side v.Depots v.Edges v.Labels) (fun i e => edgeOk v.Vertex.ID (lastAt v.Edges i) e) (fun i e => .inl ((i : Int), e.ID)) (.inr (lastAt v.Edges v.Edges.length))
   (by
    intro i e hi hx _
    have e1 : IntKind.i64.wrap ((i : Int) + 1) = ((i + 1 : Nat) : Int) := by rw [wr]; omega
    have e2 : lastAt v.Edges (i + 1) = e.ID := by simp only [lastAt, hx]
    unfold sIndexFuncEE_2.l0
    rw [br_dec, if_pos (by simp only; omega)]
    simp only
    rw [getR_s hx, around2_eq, bd_s, e1, e2]
    simp only
    cases edgeOk v.Vertex.ID (lastAt v.Edges i) e <;> rfl)
   (by
    intro _
    unfold sIndexFuncEE_2.l0
    rw [br_dec, if_neg (by simp only; omega)]) with ⟨h1, h2⟩ | ⟨i, e, h1, h2, h3, _⟩
  ·have h2' : loopN fuel (sIndexFuncEE_2.l0 v.Edges ((v.Edges.length : Nat) : Int) v.Vertex.ID v.Vertex.Side v.Depots v.Edges v.Labels) (0, -1) = _ := h2
   rw [h2']
   exact ⟨true, rfl, by simp only [true_iff]; exact ⟨hn, h1⟩⟩
  ·have h3' : loopN fuel (sIndexFuncEE_2.l0 v.Edges ((v.Edges.length : Nat) : Int) v.Vertex.ID v.Vertex.Side v.Depots v.Edges v.Labels) (0, -1) = _ := h3
   rw [h3']
   refine ⟨false, by simp [bd_s], ?_⟩
   constructor
   ·intro h; cases h
   ·rintro ⟨_, h⟩
    rw [h i e h1] at h2; cases h2
 ·refine ⟨false, ?_, ?_⟩
  ·have : (decide (v.Vertex.ID ≥ 0) && decide (v.Vertex.ID < 24)) = false := by
    rw [Bool.eq_false_iff]; intro h; rw [Bool.and_eq_true, decide_eq_true_eq, decide_eq_true_eq] at h; exact hn h
   rw [this]; rfl
  ·constructor
   ·intro h; cases h
   ·rintro ⟨h, _⟩; exact absurd h hn
def chainT (n : Int) (p : Bool) (e : Edge) : Nat :=
 if e.ID < 0 then 1 else if e.ID ≥ 40 then 1 else if p = true then (if e.From < 0 then 1 else if e.From ≥ 24 then 1 else if e.To < 0 then 1 else if e.To ≥ 24 then 1 else
  if e.Weight < -1000 then 2 else if e.Weight > 1000 then 2 else if (e.From != n) = true then (if (e.To != n) = true then 2 else 0) else 0) else 1
theorem chainT_zero {n : Int} {p : Bool} {e : Edge} : chainT n p e = 0 ↔ 0 ≤ e.ID ∧ e.ID < 40 ∧ p = true ∧ 0 ≤ e.From ∧ e.From < 24 ∧ 0 ≤ e.To ∧ e.To < 24 ∧ -1000 ≤ e.Weight ∧ e.Weight ≤ 1000 ∧ (e.From = n ∨ e.To = n) := by
 unfold chainT
 simp only [bne_iff_ne, ne_eq]
 constructor
 ·intro h
  repeat' split at h
  all_goals first | (exfalso; omega) | (refine ⟨by omega, by omega, by assumption, by omega, by omega, by omega, by omega, by omega, by omega, by omega⟩)
 ·rintro ⟨h1, h2, h3, h4, h5, h6, h7, h8, h9, h10⟩
  rw [if_neg (by omega), if_neg (by omega), if_pos h3, if_neg (by omega), if_neg (by omega), if_neg (by omega), if_neg (by omega), if_neg (by omega), if_neg (by omega)]
  rcases h10 with h | h
  ·rw [if_neg (by omega)]
  ·by_cases h' : e.From = n
   ·rw [if_neg (by omega)]
   ·rw [if_pos h', if_neg (by omega)]
def selT (c : Nx Int (Unit ⊕ Unit ⊕ Unit)) : Nat → Option (Nx Int (Unit ⊕ Unit ⊕ Unit))
 | 0 => some c
 | 1 => some (.done (.inl ()))
 | _ => some (.done (.inr (.inl ())))
theorem near_eq (v : View) (hE : v.Edges.length ≤ 1000) : ∃ r, r7near v = some r ∧ (r = true ↔ (0 ≤ v.Vertex.ID ∧ v.Vertex.ID < 24) ∧ ∀ (i : Nat) (e : Edge), v.Edges[i]? = some e → chainT v.Vertex.ID (prevB (v.Edges.map (·.ID)) i) e = 0) := by
 unfold r7near
 rcases chk_loopE v.Edges (by omega) (fun i => (i : Int)) (r7near.l0 v.Vertex.ID v.Vertex.Side v.Depots v.Edges v.Labels) (fun i e => chainT v.Vertex.ID (prevB (v.Edges.map (·.ID)) i) e == 0) (fun i e => if chainT v.Vertex.ID (prevB (v.Edges.map (·.ID)) i) e = 1 then .inl () else .inr (.inl ())) (.inr (.inr ()))
  (by
   intro i e hi hx _
   have e1 : IntKind.i64.wrap ((i : Int) + 1) = ((i + 1 : Nat) : Int) := by rw [wr]; omega
   have hstep : r7near.l0 v.Vertex.ID v.Vertex.Side v.Depots v.Edges v.Labels (i : Int) = selT (.cont ((i + 1 : Nat) : Int)) (chainT v.Vertex.ID (prevB (v.Edges.map (·.ID)) i) e) := by
    unfold r7near.l0
    rw [br_dec, if_pos (by omega), getR_s hx, e1, prev_br (id := Edge.ID) hx (by omega)]
    unfold chainT
    simp only [br_if, decide_eq_true_eq, apply_ite (selT (.cont ((i + 1 : Nat) : Int)))]
    rfl
   rw [hstep]
   generalize chainT v.Vertex.ID (prevB (v.Edges.map (·.ID)) i) e = t
   match t with
   | 0 => rfl
   | 1 => rfl
   | t + 2 => rfl)
  (by
   intro _
   unfold r7near.l0
   rw [br_dec, if_neg (by omega)]) with ⟨h1, h2⟩ | ⟨i, e, h1, h2, h3, _⟩
 ·have h2' : loopN fuel (r7near.l0 v.Vertex.ID v.Vertex.Side v.Depots v.Edges v.Labels) 0 = _ := h2
  rw [h2', bd_s]
  refine ⟨decide (v.Vertex.ID ≥ 0) && decide (v.Vertex.ID < 24), ?_, ?_⟩
  ·simp only
   cases decide (v.Vertex.ID ≥ 0) <;> rfl
  ·rw [Bool.and_eq_true, decide_eq_true_eq, decide_eq_true_eq]
   constructor
   ·intro h; exact ⟨h, fun i e he => by simpa using h1 i e he⟩
   ·intro h; exact h.1
 ·have h3' : loopN fuel (r7near.l0 v.Vertex.ID v.Vertex.Side v.Depots v.Edges v.Labels) 0 = _ := h3
  rw [h3', bd_s]
  refine ⟨false, ?_, ?_⟩
  ·by_cases h : chainT v.Vertex.ID (prevB (v.Edges.map (·.ID)) i) e = 1
   ·rw [if_pos h]
   ·rw [if_neg h]
  ·constructor
   ·intro h; cases h
   ·rintro ⟨_, h⟩
    rw [h i e h1] at h2; cases h2
theorem around_same (v : View) (hE : v.Edges.length ≤ 1000) : ∃ r, forest_around v = some r ∧ r7near v = some r ∧ (r = true → ∀ e ∈ v.Edges, 0 ≤ e.ID) := by
 obtain ⟨r, h1, h2⟩ := around_eq v hE
 obtain ⟨q, h3, h4⟩ := near_eq v hE
 have nn : (∀ (i : Nat) (e : Edge), v.Edges[i]? = some e → edgeOk v.Vertex.ID (lastAt v.Edges i) e = true) → ∀ (i : Nat) (e : Edge), v.Edges[i]? = some e → 0 ≤ e.ID := by
  intro h i
  induction i with
  | zero =>
   intro e he
   have := h 0 e he
   unfold edgeOk lastAt at this
   simp only [Bool.and_eq_true, decide_eq_true_eq] at this
   omega
  | succ i ih =>
   intro e he
   have := h (i + 1) e he
   have hil := (List.getElem?_eq_some_iff.1 he).1
   have hx : v.Edges[i]? = some (v.Edges[i]'(by omega)) := by simp
   have := ih _ hx
   have h3 := h (i + 1) e he
   unfold edgeOk at h3
   rw [lastAt_succ hx] at h3
   simp only [Bool.and_eq_true, decide_eq_true_eq] at h3
   omega
 have hiff : (∀ (i : Nat) (e : Edge), v.Edges[i]? = some e → edgeOk v.Vertex.ID (lastAt v.Edges i) e = true) ↔ ∀ (i : Nat) (e : Edge), v.Edges[i]? = some e → chainT v.Vertex.ID (prevB (v.Edges.map (·.ID)) i) e = 0 := by
  constructor
  ·intro h i e he
   have a := h i e he
   have b := nn h i e he
   rw [chainT_zero]
   unfold edgeOk at a
   simp only [Bool.and_eq_true, decide_eq_true_eq, Bool.or_eq_true, beq_iff_eq] at a
   refine ⟨b, a.2.1, ?_, a.2.2.2.2.1.1, a.2.2.2.2.1.2, a.2.2.2.2.2.1.1, a.2.2.2.2.2.1.2, a.2.2.1, a.2.2.2.1, a.2.2.2.2.2.2⟩
   cases i with
   | zero => rfl
   | succ i =>
    have hil := (List.getElem?_eq_some_iff.1 he).1
    have hx : v.Edges[i]? = some (v.Edges[i]'(by omega)) := by simp
    rw [prevB_succ (a := (v.Edges[i]'(by omega)).ID) (b := e.ID) (by rw [List.getElem?_map, hx]; rfl) (by rw [List.getElem?_map, he]; rfl), decide_eq_true_eq]
    have := a.1
    rw [lastAt_succ hx] at this
    exact this
  ·intro h i e he
   obtain ⟨a1, a2, a3, a4, a5, a6, a7, a8, a9, a10⟩ := chainT_zero.1 (h i e he)
   unfold edgeOk
   simp only [Bool.and_eq_true, decide_eq_true_eq, Bool.or_eq_true, beq_iff_eq]
   refine ⟨?_, a2, a8, a9, ⟨a4, a5⟩, ⟨a6, a7⟩, a10⟩
   cases i with
   | zero => show e.ID > -1; omega
   | succ i =>
    have hil := (List.getElem?_eq_some_iff.1 he).1
    have hx : v.Edges[i]? = some (v.Edges[i]'(by omega)) := by simp
    rw [prevB_succ (a := (v.Edges[i]'(by omega)).ID) (b := e.ID) (by rw [List.getElem?_map, hx]; rfl) (by rw [List.getElem?_map, he]; rfl), decide_eq_true_eq] at a3
    rw [lastAt_succ hx]
    exact a3
 refine ⟨r, h1, ?_, fun hr e he => ?_⟩
 ·rw [h3]
  congr 1
  rw [Bool.eq_iff_iff, h4, h2, hiff]
 ·obtain ⟨i, hi⟩ := List.getElem?_of_mem he
  exact nn (h2.1 hr).2 i e hi
def okG (L : List Named) (n a W : Int) (e : Edge) : Bool := match sees L (otherP e n) with
 | some (some [x, y, _]) => x == a && !(decide (y < W))
 | _ => false
def mG (L : List Named) (n W : Int) (e : Edge) : Bool := match sees L (otherP e n) with
 | some (some [_, y, _]) => y == W
 | _ => false
def firstM (m : Edge → Bool) (E : List Edge) : Int := match E.find? m with
 | some e => e.ID
 | none => -1
theorem good_fwd (L : List Named) (M : List (Int × Option (List Int))) (hM : ∀ x, mapGet M x = sees L x) (n a b c : Int) (E : List Edge) (hE : E.length ≤ 1000) (hnn : ∀ e ∈ E, 0 ≤ e.ID) :
  ((E.all (okG L n a (IntKind.i64.wrap (b - 1))) = true) ∧ loopN fuel (forest_Good.l0 M n [a, b, c] E ((E.length : Nat) : Int)) (-1, 0) = some (.inr (firstM (mG L n (IntKind.i64.wrap (b - 1))) E, b == 0))) ∨
  ((E.all (okG L n a (IntKind.i64.wrap (b - 1))) = false) ∧ loopN fuel (forest_Good.l0 M n [a, b, c] E ((E.length : Nat) : Int)) (-1, 0) = some (.inl ())) := by
 rcases chk_loopE E (by omega) (fun i => (firstM (mG L n (IntKind.i64.wrap (b - 1))) (E.take i), (i : Int))) (forest_Good.l0 M n [a, b, c] E ((E.length : Nat) : Int)) (fun _ e => okG L n a (IntKind.i64.wrap (b - 1)) e) (fun _ _ => .inl ()) (.inr (firstM (mG L n (IntKind.i64.wrap (b - 1))) E, b == 0))
  (by
   intro i e hi hx _
   have e1 : IntKind.i64.wrap ((i : Int) + 1) = ((i + 1 : Nat) : Int) := by rw [wr]; omega
   have he := hnn e (List.mem_of_getElem? hx)
   have htake : E.take (i + 1) = E.take i ++ [e] := by rw [List.take_add_one, hx]; rfl
   have hnext : firstM (mG L n (IntKind.i64.wrap (b - 1))) (E.take (i + 1)) = if mG L n (IntKind.i64.wrap (b - 1)) e = true then (if firstM (mG L n (IntKind.i64.wrap (b - 1))) (E.take i) < 0 then e.ID else firstM (mG L n (IntKind.i64.wrap (b - 1))) (E.take i)) else firstM (mG L n (IntKind.i64.wrap (b - 1))) (E.take i) := by
    rw [htake]
    unfold firstM
    rw [List.find?_append]
    cases hf : (E.take i).find? (mG L n (IntKind.i64.wrap (b - 1))) with
    | some f =>
     have := hnn f (List.mem_of_mem_take (List.mem_of_find?_eq_some hf))
     show f.ID = if mG L n (IntKind.i64.wrap (b - 1)) e = true then (if f.ID < 0 then e.ID else f.ID) else f.ID
     rw [if_neg (show ¬ f.ID < 0 by omega)]
     split <;> rfl
    | none =>
     simp only [Option.none_or, List.find?_cons, List.find?_nil]
     cases mG L n (IntKind.i64.wrap (b - 1)) e <;> simp
   unfold forest_Good.l0
   rw [br_dec, if_pos (by simp only; omega)]
   simp only
   rw [getR_s hx, Other_eq, bd_s, hM, e1]
   cases hs : sees L (otherP e n) with
   | none =>
    have ho : okG L n a (IntKind.i64.wrap (b - 1)) e = false := by unfold okG; rw [hs]
    rw [ho]; rfl
   | some o =>
    cases o with
    | none =>
     have ho : okG L n a (IntKind.i64.wrap (b - 1)) e = false := by unfold okG; rw [hs]
     rw [ho]; rfl
    | some l =>
     obtain ⟨x, y, z, rfl⟩ := sees_len hs
     have ho : okG L n a (IntKind.i64.wrap (b - 1)) e = (x == a && !(decide (y < IntKind.i64.wrap (b - 1)))) := by unfold okG; rw [hs]
     have hm : mG L n (IntKind.i64.wrap (b - 1)) e = (y == IntKind.i64.wrap (b - 1)) := by unfold mG; rw [hs]
     rw [oc_s, oc_s, gd_t (show [x, y, z].isEmpty = false from rfl)]
     show br (x != a) _ (br (decide (y < IntKind.i64.wrap (b - 1))) _ (br (y == IntKind.i64.wrap (b - 1)) (br (decide (firstM (mG L n (IntKind.i64.wrap (b - 1))) (E.take i) < 0)) _ _) _)) = _
     rw [hnext, hm, ho]
     by_cases h1 : x = a
     ·rw [show (x != a) = false by simp [h1], br_f, beq_iff_eq.2 h1]
      by_cases h2 : y < IntKind.i64.wrap (b - 1)
      ·rw [decide_eq_true h2]; rfl
      ·rw [decide_eq_false h2, br_f, show (true && !false) = true from rfl, if_pos rfl]
       by_cases h3 : y = IntKind.i64.wrap (b - 1)
       ·rw [beq_iff_eq.2 h3, br_t, if_pos rfl, br_dec]
        split <;> rfl
       ·rw [beq_eq_false_iff_ne.2 h3]; rfl
     ·rw [show (x != a) = true by simpa using h1, br_t, beq_eq_false_iff_ne.2 h1]; rfl)
  (by
   intro _
   unfold forest_Good.l0
   rw [br_dec, if_neg (by simp only; omega), List.take_length]
   rfl) with ⟨h1, h2⟩ | ⟨i, e, h1, h2, h3, _⟩
 ·left
  exact ⟨all_get.1 h1, h2⟩
 ·right
  refine ⟨?_, h3⟩
  rw [Bool.eq_false_iff]
  intro h
  rw [all_get.2 h i e h1] at h2; cases h2
theorem good_bwd (L : List Named) (hL : L.length ≤ 1000) (n c37 c38 a b c : Int) (ds : List Int) (E : List Edge) (hE : E.length ≤ 1000) :
  ((E.all (okG L n a (IntKind.i64.wrap (b - 1))) = true) ∧ loopN fuel (r7Good.l0 n [a, b, c] c37 c38 ds E L) (-1, IntKind.i64.wrap (((E.length : Nat) : Int) - 1)) = some (.inr (firstM (mG L n (IntKind.i64.wrap (b - 1))) E))) ∨
  ((E.all (okG L n a (IntKind.i64.wrap (b - 1))) = false) ∧ loopN fuel (r7Good.l0 n [a, b, c] c37 c38 ds E L) (-1, IntKind.i64.wrap (((E.length : Nat) : Int) - 1)) = some (.inl ())) := by
 obtain ⟨r, h1, h2⟩ := loopN_of (f := r7Good.l0 n [a, b, c] c37 c38 ds E L)
  (fun s => ∃ m : Nat, s.2 = (m : Int) - 1 ∧ m ≤ E.length ∧ s.1 = firstM (mG L n (IntKind.i64.wrap (b - 1))) (E.drop m) ∧ ∀ (j : Nat) (e : Edge), m ≤ j → E[j]? = some e → okG L n a (IntKind.i64.wrap (b - 1)) e = true)
  (fun r => (E.all (okG L n a (IntKind.i64.wrap (b - 1))) = true ∧ r = .inr (firstM (mG L n (IntKind.i64.wrap (b - 1))) E)) ∨ (E.all (okG L n a (IntKind.i64.wrap (b - 1))) = false ∧ r = .inl ())) (fun s => (s.2 + 1).toNat) (by
   rintro ⟨q, s2⟩ ⟨m, h1, h2, h3, h4⟩
   simp only at h1 h3
   subst h1; subst h3
   cases m with
   | zero =>
    right
    refine ⟨.inr (firstM (mG L n (IntKind.i64.wrap (b - 1))) E), ?_, .inl ⟨all_get.1 fun i e he => h4 i e (by omega) he, rfl⟩⟩
    unfold r7Good.l0
    rw [br_dec, if_neg (by simp only; omega)]
    rfl
   | succ m =>
    have hx : E[m]? = some (E[m]'(by omega)) := by simp
    have hd : E.drop m = E[m]'(by omega) :: E.drop (m + 1) := List.drop_eq_getElem_cons (by omega)
    generalize E[m]'(by omega) = e at hx hd
    have e0 : ((m + 1 : Nat) : Int) - 1 = (m : Int) := by omega
    have e1 : IntKind.i64.wrap ((m : Int) - 1) = (m : Int) - 1 := wr
    have hnext : firstM (mG L n (IntKind.i64.wrap (b - 1))) (E.drop m) = if mG L n (IntKind.i64.wrap (b - 1)) e = true then e.ID else firstM (mG L n (IntKind.i64.wrap (b - 1))) (E.drop (m + 1)) := by
     rw [hd]
     unfold firstM
     rw [List.find?_cons]
     cases mG L n (IntKind.i64.wrap (b - 1)) e <;> simp
    have hstep : r7Good.l0 n [a, b, c] c37 c38 ds E L (firstM (mG L n (IntKind.i64.wrap (b - 1))) (E.drop (m + 1)), (m : Int)) = if okG L n a (IntKind.i64.wrap (b - 1)) e = true then some (.cont (firstM (mG L n (IntKind.i64.wrap (b - 1))) (E.drop m), (m : Int) - 1)) else some (.done (.inl ())) := by
     unfold r7Good.l0
     rw [br_dec, if_pos (by simp only; omega)]
     simp only
     rw [getR_s hx, Other3_eq, bd_s, Find7_eq L _ hL, bd_s, e1, hnext]
     cases hs : sees L (otherP e n) with
     | none =>
      have ho : okG L n a (IntKind.i64.wrap (b - 1)) e = false := by unfold okG; rw [hs]
      rw [ho]; rfl
     | some o =>
      cases o with
      | none =>
       have ho : okG L n a (IntKind.i64.wrap (b - 1)) e = false := by unfold okG; rw [hs]
       rw [ho]; rfl
      | some l =>
       obtain ⟨x, y, z, rfl⟩ := sees_len hs
       have ho : okG L n a (IntKind.i64.wrap (b - 1)) e = (x == a && !(decide (y < IntKind.i64.wrap (b - 1)))) := by unfold okG; rw [hs]
       have hm : mG L n (IntKind.i64.wrap (b - 1)) e = (y == IntKind.i64.wrap (b - 1)) := by unfold mG; rw [hs]
       rw [hm, ho]
       show br (((3 : Nat) : Int) == 0) _ (br (x != a) _ (br (decide (y < IntKind.i64.wrap (b - 1))) _ (br (y == IntKind.i64.wrap (b - 1)) (getR E (m : Int) _) _))) = _
       rw [show (((3 : Nat) : Int) == 0) = false from rfl, br_f, getR_s hx]
       by_cases h1 : x = a
       ·rw [show (x != a) = false by simp [h1], br_f, beq_iff_eq.2 h1]
        by_cases h2 : y < IntKind.i64.wrap (b - 1)
        ·rw [decide_eq_true h2]; rfl
        ·rw [decide_eq_false h2, br_f, show (true && !false) = true from rfl, if_pos rfl]
         cases y == IntKind.i64.wrap (b - 1) <;> rfl
       ·rw [show (x != a) = true by simpa using h1, br_t, beq_eq_false_iff_ne.2 h1]; rfl
    cases ho : okG L n a (IntKind.i64.wrap (b - 1)) e with
    | true =>
     left
     rw [ho, if_pos rfl] at hstep
     rw [e0]
     refine ⟨_, hstep, ⟨m, rfl, by omega, rfl, fun j f hj hf => ?_⟩, by simp only; omega⟩
     by_cases hjm : j = m
     ·subst hjm; rw [hx] at hf; cases hf; exact ho
     ·exact h4 j f (by omega) hf
    | false =>
     right
     rw [ho] at hstep
     rw [e0]
     refine ⟨_, hstep, .inr ⟨?_, rfl⟩⟩
     rw [Bool.eq_false_iff]
     intro h
     rw [all_get.2 h m e hx] at ho; cases ho)
  fuel (-1, IntKind.i64.wrap (((E.length : Nat) : Int) - 1)) ⟨E.length, wr, by omega, by rw [List.drop_length]; rfl, fun j e hj he => by have := (List.getElem?_eq_some_iff.1 he).1; omega⟩ (by
   have := fuel_pos
   simp only
   rw [wr (n := ((E.length : Nat) : Int) - 1)]
   omega)
 rcases h2 with ⟨h2, rfl⟩ | ⟨h2, rfl⟩
 ·exact .inl ⟨h2, h1⟩
 ·exact .inr ⟨h2, h1⟩
theorem Good_same (v : View) (hl : v.Labels.length ≤ 1000) (hE : v.Edges.length ≤ 1000) : ∃ r, forest_Good v = some r ∧ r7Good v = some r := by
 obtain ⟨ar, h1, h2, h3⟩ := around_same v hE
 obtain ⟨M, m1, m2⟩ := seen_eq v hl
 unfold forest_Good r7Good
 rw [m1, bd_s, m2, Find7_eq v.Labels _ hl, bd_s, h1, h2, bd_s, bd_s]
 cases hs : sees v.Labels v.Vertex.ID with
 | none => exact ⟨false, by cases ar <;> rfl, by cases ar <;> rfl⟩
 | some o =>
  cases o with
  | none => exact ⟨false, by cases ar <;> rfl, by cases ar <;> rfl⟩
  | some l =>
   obtain ⟨a, b, c, rfl⟩ := sees_len hs
   rw [oc_s, oc_s]
   cases ar with
   | false => exact ⟨false, rfl, rfl⟩
   | true =>
    have hnn := h3 rfl
    rw [bd_s, show (!true) = false from rfl, br_f, br_f, gd_t (show [a, b, c].isEmpty = false from rfl)]
    show ∃ r, (br (decide (a < 0)) _ (br (decide (a > v.Vertex.ID)) _ (br (decide (b < 0)) _ (br (!((b == 0) == (a == v.Vertex.ID))) _ _)))) = some r ∧
     (br (decide (a > v.Vertex.ID)) _ (br (decide (a < 0)) _ (br (decide (b < 0)) _ (br (!((b == 0) == (a == v.Vertex.ID))) _ (br (b == 0) (br (c != -1) _ _) _))))) = some r
    by_cases c1 : a < 0
    ·rw [decide_eq_true c1]
     refine ⟨false, rfl, ?_⟩
     cases decide (a > v.Vertex.ID) <;> rfl
    ·rw [decide_eq_false c1, br_f]
     by_cases c2 : a > v.Vertex.ID
     ·rw [decide_eq_true c2]; exact ⟨false, rfl, rfl⟩
     ·rw [decide_eq_false c2, br_f, br_f, br_f]
      by_cases c3 : b < 0
      ·rw [decide_eq_true c3]; exact ⟨false, rfl, rfl⟩
      ·rw [decide_eq_false c3, br_f, br_f]
       cases c4 : (b == 0) == (a == v.Vertex.ID) with
       | false => exact ⟨false, rfl, rfl⟩
       | true =>
        rw [show (!true) = false from rfl, br_f, br_f]
        rcases good_fwd v.Labels M m2 v.Vertex.ID a b c v.Edges hE hnn with ⟨f1, f2⟩ | ⟨f1, f2⟩
        ·rcases good_bwd v.Labels hl v.Vertex.ID v.Vertex.ID v.Vertex.Side a b c v.Depots v.Edges hE with ⟨g1, g2⟩ | ⟨g1, _⟩
         ·rw [f2, bd_s]
          simp only [g2, bd_s]
          show ∃ r, br (b == 0) (some (c == -1)) (br (decide (firstM (mG v.Labels v.Vertex.ID (IntKind.i64.wrap (b - 1))) v.Edges ≥ 0)) (some (c == firstM (mG v.Labels v.Vertex.ID (IntKind.i64.wrap (b - 1))) v.Edges)) (some false)) = some r ∧
           br (b == 0) (br (c != -1) (some false) (br (b == 0) (some true) _)) (br (b == 0) (some true) (br (decide (firstM (mG v.Labels v.Vertex.ID (IntKind.i64.wrap (b - 1))) v.Edges ≥ 0)) (some (c == firstM (mG v.Labels v.Vertex.ID (IntKind.i64.wrap (b - 1))) v.Edges)) (some false))) = some r
          cases b == 0 with
          | true =>
           refine ⟨c == -1, rfl, ?_⟩
           show br (!(c == -1)) _ _ = _
           cases c == -1 <;> rfl
          | false =>
           rw [br_f, br_f, br_f]
           cases decide (firstM (mG v.Labels v.Vertex.ID (IntKind.i64.wrap (b - 1))) v.Edges ≥ 0)
           ·exact ⟨_, rfl, rfl⟩
           ·exact ⟨_, rfl, rfl⟩
         ·rw [f1] at g1; cases g1
        ·rcases good_bwd v.Labels hl v.Vertex.ID v.Vertex.ID v.Vertex.Side a b c v.Depots v.Edges hE with ⟨g1, _⟩ | ⟨g1, g2⟩
         ·rw [f1] at g1; cases g1
         ·rw [f2, bd_s]
          simp only [g2, bd_s]
          refine ⟨false, rfl, ?_⟩
          cases b == 0
          ·rfl
          ·show br (c != -1) _ _ = _
           cases c != -1 <;> rfl
end Go.Fw.Gen
