/- The finder: roots, arcs inside components, ranks. -/
import Derived.Test.YtpdjphpjejjkpaaSC
namespace Go.Fx.Gen
open Go.Proofs
set_option linter.unusedVariables false
namespace Str
open Go.Fx.Str
theorem r_clsW {P : Program} {β : Type} {f i : Nat} {M : List (List Int)} {l : List Int} {k : List (List Int) → Prg P β} (h : l ≠ []) : (clsW f i M l k).run = (k (M.set i l)).run := by
 show bd (if l ≠ [] then some (M.set i l) else none) (fun y => (k y).run) = _
 rw [if_pos h]; rfl
theorem r_frz2 {P : Program} {β : Type} {f n1 n2 : Nat} {M : List (List Int)} {k : List (List Int) → List (List Int) → Prg P β} (h : M.length = n1 + n2) : (frz2 f n1 n2 M k).run = (k (M.take n1) (M.drop n1)).run := by
 show bd (if M.length = n1 + n2 then some (M.take n1, M.drop n1) else none) (fun y => (k y.1 y.2).run) = _
 rw [if_pos h]; rfl
/-! 24 numbers. -/
abbrev vec (f : Nat → Int) : List Int := (List.range 24).map f
theorem vec_get {f : Nat → Int} {i : Nat} (h : i < 24) : (vec f)[i]? = some (f i) := by simp [vec, h]
theorem vec_len (f : Nat → Int) : (vec f).length = 24 := by simp [vec]
theorem vec_set (f : Nat → Int) {i : Nat} (h : i < 24) (x : Int) : (vec f).set i x = vec fun j => if j = i then x else f j := by
 refine List.ext_getElem? fun j => ?_
 rw [List.getElem?_set]
 by_cases hj : j < 24
 ·rw [vec_get hj, vec_len, if_pos h, vec_get hj]
  by_cases e : i = j
  ·subst e; simp
  ·rw [if_neg e, if_neg (Ne.symm e)]
 ·rw [vec_len, if_pos h, List.getElem?_eq_none (by rw [vec_len]; omega), List.getElem?_eq_none (by rw [vec_len]; omega), if_neg (by omega)]
theorem vec_zero : List.replicate 24 (0 : Int) = vec fun _ => 0 := rfl
theorem vec_congr {f f' : Nat → Int} (h : ∀ v, v < 24 → f v = f' v) : vec f = vec f' := List.map_congr_left fun v hv => h v (List.mem_range.1 hv)
theorem vec_inj {f f' : Nat → Int} (h : vec f = vec f') {v : Nat} (hv : v < 24) : f v = f' v := by
 have := vec_get (f := f) hv
 rw [h, vec_get hv] at this
 exact (Option.some.inj this).symm
theorem int_eqL (l1 l2 : List Int) : eqL l1 l2 = decide (l1 = l2) := by
 have hi : ∀ l : List Int, l.map ICel.i = l := fun l => List.map_id l
 rw [eqL_iff (fun a b h => h), hi, hi]
abbrev gI (l : List Int) (v : Nat) : Int := l.getD v 0
theorem gI_vec {f : Nat → Int} {v : Nat} (h : v < 24) : gI (vec f) v = f v := by simp [gI, vec_get h]
variable {g : Graph}
/-! Roots. -/
abbrev both (R : List Nat) (v u : Nat) : Bool := (gD R v).testBit u && (gD R u).testBit v
def rootOf (R : List Nat) (v : Nat) : Nat := ((List.range 24).findIdx? fun u => both R v u).getD 0
theorem rootOf_spec {R : List Nat} (h : Sm g) (hR : RR g R) {v : Nat} (hv : isV g v) : rootOf R v < 24 ∧ both R v (rootOf R v) = true ∧ (∀ u, u < rootOf R v → both R v u = false) ∧ (List.range 24).findIdx? (fun u => both R v u) = some (rootOf R v) := by
 have hb : both R v v = true := by
  have := (hR.iff v v).2 ⟨hv, hv, .refl v⟩
  show ((gD R v).testBit v && (gD R v).testBit v) = true
  rw [this]; rfl
 cases e : (List.range 24).findIdx? fun u => both R v u with
 | none =>
  have := List.findIdx?_eq_none_iff.1 e v (List.mem_range.2 (isV_lt h hv))
  rw [hb] at this; cases this
 | some i =>
  obtain ⟨h1, h2, h3⟩ := List.findIdx?_eq_some_iff_getElem.1 e
  have h1' : i < 24 := by simpa using h1
  have : rootOf R v = i := by simp [rootOf, e]
  rw [this]
  refine ⟨h1', by simpa using h2, fun u hu => ?_, rfl⟩
  have := h3 u hu
  simpa using this
theorem scc_of {R : List Nat} (h : Sm g) (hR : RR g R) : Scc (arcG g) (isV g) (rootOf R) := by
 refine ⟨fun v hv => isV_lt h hv, fun a b hab => h.arcN hab, fun v hv => ?_, fun v u hv hu h1 h2 => ?_, fun v hv => ?_⟩
 ·obtain ⟨k1, k2, k3, _⟩ := rootOf_spec h hR hv
  simp only [both, Bool.and_eq_true] at k2
  obtain ⟨a1, a2, a3⟩ := (hR.iff _ _).1 k2.1
  exact ⟨a2, a3, ((hR.iff _ _).1 k2.2).2.2⟩
 ·obtain ⟨k1, k2, k3, _⟩ := rootOf_spec h hR hv
  refine Nat.le_of_not_lt fun hlt => ?_
  have := k3 u hlt
  have h1 := (hR.iff v u).2 ⟨hv, hu, h1⟩
  have h2 := (hR.iff u v).2 ⟨hu, hv, h2⟩
  have this : ((gD R v).testBit u && (gD R u).testBit v) = false := this
  rw [h1, h2] at this; cases this
 ·have : ∀ u, both R v u = false := fun u => by
   cases e : both R v u with
   | false => rfl
   | true =>
    simp only [both, Bool.and_eq_true] at e
    exact absurd ((hR.iff _ _).1 e.1).1 hv
  unfold rootOf
  rw [List.findIdx?_eq_none_iff.2 fun u _ => this u]; rfl
theorem root_run (h : Sm g) {R : List Nat} (hR : RR g R) :
  loopN fuel (fun s : Int × List Int => (f22v1.l2 g (enc32 R) s.1 s.2).run) ((0 : Int), List.replicate 24 (0 : Int)) = some (.a (vec fun v => (rootOf R v : Int))) := by
 obtain ⟨r, h1, rfl⟩ := loop_ix (f := fun s : Int × List Int => (f22v1.l2 g (enc32 R) s.1 s.2).run) (n := g.Vertices.length) (fun i a => ((i : Int), a))
  (fun i a => ∃ f : Nat → Int, a = vec f ∧ ∀ v, v < 24 → f v = (rootOf R v : Int) ∨ (f v = 0 ∧ ∀ (j : Nat) (u : Vertex), j < i → g.Vertices[j]? = some u → u.ID.toNat ≠ v))
  (fun r => r = .a (vec fun v => (rootOf R v : Int)))
  (fun i a hi ⟨f, ha, hf⟩ => by
   subst ha
   have hx : g.Vertices[i]? = some g.Vertices[i] := by simp [hi]
   have hm : g.Vertices[i] ∈ g.Vertices := List.getElem_mem hi
   generalize hq : g.Vertices[i] = v at *
   have hv := h.v v hm
   have hvV : isV g v.ID.toNat := ⟨v, hm, rfl⟩
   have hw : IntKind.i64.wrap ((i : Int) + 1) = ((i + 1 : Nat) : Int) := succ_wr hi (by have := h.vl; omega)
   obtain ⟨k1, k2, k3, k4⟩ := rootOf_spec h hR hvV
   have step : ∀ u : Nat, u < 24 → (f22v1.l1 g (enc32 R) (i : Int) (vec f) v (u : Int)).run = if both R v.ID.toNat u then some (.done (.a ((vec f).set v.ID.toNat (u : Int)))) else some (.cont ((u + 1 : Nat) : Int)) := by
    intro u hu
    unfold f22v1.l1
    rw [r_brr, show decide ((u : Int) < 24) = true by simpa using by omega, br_t, r_join1, r_cl, has_run hR.toBts hv (by omega), bd_s, r_brr]
    have e2 : (f33v1 (enc32 R) (u : Int) v.ID).run = some ((gD R u).testBit v.ID.toNat) := has_run (a := (u : Int)) (b := v.ID) hR.toBts (by omega) hv
    rw [Int.toNat_natCast]
    have hw2 : IntKind.i64.wrap ((u : Int) + 1) = ((u + 1 : Nat) : Int) := wr
    cases e1 : (gD R v.ID.toNat).testBit u with
    | false => rw [br_f]; simp only [both, e1, Bool.false_and]; rw [← hw2]; rfl
    | true =>
     rw [br_t, r_cl, e2, bd_s]
     cases e3 : (gD R u).testBit v.ID.toNat with
     | false => simp only [both, e1, e3, Bool.and_false]; rw [← hw2]; rfl
     | true =>
      simp only [both, e1, e3, Bool.and_true, if_true]
      show (ck v.ID 24 <| st (vec f) v.ID.toNat (fun _ => (u : Int)) fun l34 => doneA l34).run = _
      rw [ck_t (by omega), st_s (vec_get (by omega))]; rfl
   have key := loop_find (f := fun s : Int => (f22v1.l1 g (enc32 R) (i : Int) (vec f) v s).run) (l := List.range 24) (fun i => (i : Int)) (fun u => both R v.ID.toNat u) (fun _ u => Ex.a ((vec f).set v.ID.toNat (u : Int))) (Ex.a (vec f))
    (fun j x hj => by
     have hj' : j < 24 := by have := (List.getElem?_eq_some_iff.1 hj).1; simpa using this
     have : x = j := by rw [List.getElem?_range hj'] at hj; exact (Option.some.inj hj).symm
     subst this
     exact step x hj') (by
     show (f22v1.l1 g (enc32 R) (i : Int) (vec f) v (((List.range 24).length : Nat) : Int)).run = _
     unfold f22v1.l1
     rw [r_brr, show decide ((((List.range 24).length : Nat) : Int) < 24) = false by simp, br_f]; rfl) (k := fuel) (by have := fuel_pos; simp; omega)
   rw [k4] at key
   simp only [List.getElem?_range k1] at key
   left
   refine ⟨(vec f).set v.ID.toNat (rootOf R v.ID.toNat : Int), ?_, _, vec_set f (by omega) _, fun x hx24 => ?_⟩
   ·show (f22v1.l2 g (enc32 R) (i : Int) (vec f)).run = _
    unfold f22v1.l2
    rw [r_brr, L_eq, cast_lt_t hi, br_t, getR_s hx, r_loop1]
    have key : loopN fuel (fun s : Int => (f22v1.l1 g (enc32 R) (i : Int) (vec f) v s).run) (0 : Int) = some (Ex.a ((vec f).set v.ID.toNat (rootOf R v.ID.toNat : Int))) := key
    rw [key, bd_s, ex_a, hw]; rfl
   ·show (if x = v.ID.toNat then _ else f x) = _ ∨ _
    split
    ·rename_i e; subst e; exact .inl rfl
    ·rename_i e
     rcases hf x hx24 with k | ⟨k, k'⟩
     ·exact .inl k
     ·refine .inr ⟨k, fun j u hj hu => ?_⟩
      by_cases hji : j = i
      ·subst hji; rw [hx] at hu; cases hu; exact Ne.symm e
      ·exact k' j u (by omega) hu)
  (fun a ⟨f, ha, hf⟩ => by
   subst ha
   refine ⟨.a (vec f), ?_, ?_⟩
   ·show (f22v1.l2 g (enc32 R) (g.Vertices.length : Int) (vec f)).run = _
    unfold f22v1.l2
    rw [r_brr, L_eq, cast_lt_f (by omega), br_f]; rfl
   ·refine congrArg Ex.a (vec_congr fun v hv => ?_)
    rcases hf v hv with k | ⟨k, k'⟩
    ·exact k
    ·rw [k, (scc_of h hR).other v]
     ·rfl
     ·rintro ⟨u, hu, rfl⟩
      obtain ⟨j, hj, e⟩ := List.getElem_of_mem hu
      exact k' j u hj (by rw [← e]; simp [hj]) rfl) (k := fuel) (a := List.replicate 24 (0 : Int)) (by have := fuel_pos; have := h.vl; omega)
  ⟨fun _ => 0, vec_zero, fun v hv => .inr ⟨rfl, fun j u hj => by omega⟩⟩
 exact h1
/-! Arcs inside components. -/
def insF (root : Nat → Nat) (M : List (List Int)) (p : Edge × Int × Int) : List (List Int) :=
 if root p.2.1.toNat = root p.2.2.toNat then (M.set (24 + p.2.2.toNat) ((M.getD (24 + p.2.2.toNat) []) ++ [p.2.1])).set p.2.1.toNat ((M.getD p.2.1.toNat []) ++ [p.2.2]) else M
theorem gL_set (M : List (List Int)) (i j : Nat) (l : List Int) (hi : i < M.length) : (M.set i l).getD j [] = if i = j then l else M.getD j [] := by
 simp only [List.getD_eq_getElem?_getD, List.getElem?_set]
 split
 ·simp [hi]
 ·rfl
theorem gL_get {M : List (List Int)} {i : Nat} (hi : i < M.length) : M[i]? = some (M.getD i []) := by simp [hi]
structure MI (root : Nat → Nat) (l : List (Edge × Int × Int)) (M : List (List Int)) : Prop where
 len : M.length = 48
 on : ∀ (a : Nat) (x : Int), a < 24 → (x ∈ M.getD a [] ↔ ∃ p ∈ l, root p.2.1.toNat = root p.2.2.toNat ∧ p.2.1.toNat = a ∧ x = p.2.2)
 back : ∀ (b : Nat) (x : Int), b < 24 → (x ∈ M.getD (24 + b) [] ↔ ∃ p ∈ l, root p.2.1.toNat = root p.2.2.toNat ∧ p.2.2.toNat = b ∧ x = p.2.1)
 le : ∀ i, (M.getD i []).length ≤ l.length
theorem MI.next {root : Nat → Nat} {l : List (Edge × Int × Int)} {M : List (List Int)} (h : MI root l M) {p : Edge × Int × Int} (ha : p.2.1.toNat < 24) (hb : p.2.2.toNat < 24) : MI root (l ++ [p]) (insF root M p) := by
 have hl := h.len
 unfold insF
 split
 ·rename_i hr
  have g1 : ∀ j, ((M.set (24 + p.2.2.toNat) ((M.getD (24 + p.2.2.toNat) []) ++ [p.2.1])).set p.2.1.toNat ((M.getD p.2.1.toNat []) ++ [p.2.2])).getD j [] =
    if p.2.1.toNat = j then (M.getD p.2.1.toNat []) ++ [p.2.2] else if 24 + p.2.2.toNat = j then (M.getD (24 + p.2.2.toNat) []) ++ [p.2.1] else M.getD j [] := fun j => by
   rw [gL_set _ _ _ _ (by simp [hl]; omega)]
   split
   ·rfl
   ·rw [gL_set _ _ _ _ (by rw [hl]; omega)]
  refine ⟨by simp [hl], fun a x hx => ?_, fun b x hx => ?_, fun i => ?_⟩
  ·rw [g1]
   split
   ·rename_i e
    subst e
    rw [List.mem_append, h.on _ _ ha, List.mem_singleton]
    constructor
    ·rintro (⟨q, k1, k2⟩ | k)
     ·exact ⟨q, List.mem_append.2 (.inl k1), k2⟩
     ·exact ⟨p, by simp, hr, rfl, k⟩
    ·rintro ⟨q, k1, k2, k3, k4⟩
     rcases List.mem_append.1 k1 with k1 | k1
     ·exact .inl ⟨q, k1, k2, k3, k4⟩
     ·simp only [List.mem_singleton] at k1; subst k1; exact .inr k4
   ·rename_i e
    rw [if_neg (by omega), h.on _ _ hx]
    constructor
    ·rintro ⟨q, k1, k2⟩; exact ⟨q, List.mem_append.2 (.inl k1), k2⟩
    ·rintro ⟨q, k1, k2, k3, k4⟩
     rcases List.mem_append.1 k1 with k1 | k1
     ·exact ⟨q, k1, k2, k3, k4⟩
     ·simp only [List.mem_singleton] at k1; subst k1; exact absurd k3 e
  ·rw [g1, if_neg (by omega)]
   split
   ·rename_i e
    have e : b = p.2.2.toNat := by omega
    subst e
    rw [List.mem_append, h.back _ _ hb, List.mem_singleton]
    constructor
    ·rintro (⟨q, k1, k2⟩ | k)
     ·exact ⟨q, List.mem_append.2 (.inl k1), k2⟩
     ·exact ⟨p, by simp, hr, rfl, k⟩
    ·rintro ⟨q, k1, k2, k3, k4⟩
     rcases List.mem_append.1 k1 with k1 | k1
     ·exact .inl ⟨q, k1, k2, k3, k4⟩
     ·simp only [List.mem_singleton] at k1; subst k1; exact .inr k4
   ·rename_i e
    rw [h.back _ _ hx]
    constructor
    ·rintro ⟨q, k1, k2⟩; exact ⟨q, List.mem_append.2 (.inl k1), k2⟩
    ·rintro ⟨q, k1, k2, k3, k4⟩
     rcases List.mem_append.1 k1 with k1 | k1
     ·exact ⟨q, k1, k2, k3, k4⟩
     ·simp only [List.mem_singleton] at k1; subst k1; exact absurd (by omega) e
  ·rw [g1]
   have := h.le i
   have := h.le p.2.1.toNat
   have := h.le (24 + p.2.2.toNat)
   simp only [List.length_append, List.length_singleton]
   split
   ·simp only [List.length_append, List.length_singleton]; omega
   ·split
    ·simp only [List.length_append, List.length_singleton]; omega
    ·omega
 ·rename_i hr
  refine ⟨hl, fun a x hx => ?_, fun b x hx => ?_, fun i => by have := h.le i; simp only [List.length_append, List.length_singleton]; omega⟩
  ·rw [h.on _ _ hx]
   constructor
   ·rintro ⟨q, k1, k2⟩; exact ⟨q, List.mem_append.2 (.inl k1), k2⟩
   ·rintro ⟨q, k1, k2, k3, k4⟩
    rcases List.mem_append.1 k1 with k1 | k1
    ·exact ⟨q, k1, k2, k3, k4⟩
    ·simp only [List.mem_singleton] at k1; subst k1; exact absurd k2 hr
  ·rw [h.back _ _ hx]
   constructor
   ·rintro ⟨q, k1, k2⟩; exact ⟨q, List.mem_append.2 (.inl k1), k2⟩
   ·rintro ⟨q, k1, k2, k3, k4⟩
    rcases List.mem_append.1 k1 with k1 | k1
    ·exact ⟨q, k1, k2, k3, k4⟩
    ·simp only [List.mem_singleton] at k1; subst k1; exact absurd k2 hr
theorem arcsE_len (es : List Edge) : (arcsE es).length ≤ 2 * es.length := by
 induction es with
 | nil => simp [arcsE]
 | cons e es ih =>
  have h1 : (arcs1 e).length ≤ 2 := by
   unfold arcs1
   split
   ·simp
   ·split <;> simp
  have : arcsE (e :: es) = arcs1 e ++ arcsE es := by simp [arcsE]
  rw [this]; simp; omega
theorem inner_run (h : Sm g) (hel : g.Edges.length ≤ 1000) {root : Nat → Nat} {k : List Int} (vs : List Vertex) (es : List Edge) (ds : List Int) : ∃ M, MI root (arcsE g.Edges) M ∧ (f61v8 g.Edges vs es ds (vec fun v => (root v : Int)) k (List.replicate 48 [])).run = some M := by
 have hb : ∀ p ∈ arcsE g.Edges, p.2.1.toNat < 24 ∧ p.2.2.toNat < 24 := fun p hp => by have := h.arcE hp; omega
 have M0 : MI root [] (List.replicate 48 []) := by
  have e : ∀ i, (List.replicate 48 ([] : List Int)).getD i [] = [] := fun i => by simp only [List.getD_eq_getElem?_getD, List.getElem?_replicate]; split <;> rfl
  exact ⟨by simp, fun a x _ => by rw [e]; simp, fun a x _ => by rw [e]; simp, fun i => by rw [e]; simp⟩
 have hal := arcsE_len g.Edges
 obtain ⟨M, k1, k2⟩ := arcs_ind (S := List (List Int)) (F := fun s => (f61v8.l1 g.Edges vs es ds (vec fun v => (root v : Int)) k s.1 s.2).run) (stp := fun a e s => (r22_0v1 a e vs es ds (vec fun v => (root v : Int)) k s).run) (es := g.Edges) h.el (fun v s => rfl)
  (fun pre M => MI root pre M) (fun pre p suf e M hM => by
   have hp : p ∈ arcsE g.Edges := by rw [e]; simp
   obtain ⟨ha, hb2, _, _⟩ := h.arcE hp
   obtain ⟨h1, h2⟩ := hb p hp
   have hpl : pre.length ≤ 2000 := by
    have : (arcsE g.Edges).length = pre.length + (suf.length + 1) := by rw [e]; simp
    omega
   refine ⟨insF root M p, ?_, hM.next h1 h2⟩
   have l1 := hM.le p.2.1.toNat
   have l2 := hM.le (24 + p.2.2.toNat)
   have e1 : M[0 + p.2.1.toNat]? = some (M.getD p.2.1.toNat []) := by rw [Nat.zero_add]; exact gL_get (by rw [hM.len]; omega)
   have e2 : M[24 + p.2.2.toNat]? = some (M.getD (24 + p.2.2.toNat) []) := gL_get (by rw [hM.len]; omega)
   have c1 : (0 : Int) ≤ p.2.1 ∧ p.2.1 < ((24 : Nat) : Int) := by omega
   have c2 : (0 : Int) ≤ p.2.2 ∧ p.2.2 < ((24 : Nat) : Int) := by omega
   unfold r22_0v1
   show (ck p.2.1 24 <| rd (vec fun v => (root v : Int)) p.2.1.toNat fun a9 => ck p.2.2 24 <| rd (vec fun v => (root v : Int)) p.2.2.toNat fun a10 => brr (a9 == a10) _ _).run = _
   rw [ck_t c1, rd_s (vec_get h1), ck_t c2, rd_s (vec_get h2), r_brr]
   unfold insF
   by_cases er : root p.2.1.toNat = root p.2.2.toNat
   ·rw [if_pos er, er, beq_self_eq_true, br_t, r_opnW, if_pos ⟨h1, by simp⟩, e1, bd_s, r_opnW, if_pos ⟨h2, by simp; omega⟩, e2, bd_s, ck_t c1, r_ldW, chk_t ⟨h1, rfl⟩, bd_s, ap_s (by simp only [List.length_append, List.length_singleton]; unfold bigLen; omega),
     ck_t c2, r_ldW, chk_t ⟨h2, rfl⟩, bd_s, ap_s (by simp only [List.length_append, List.length_singleton]; unfold bigLen; omega), ck_t c1, r_stW, chk_t ⟨h1, rfl⟩, bd_s, ck_t c2, r_stW, chk_t ⟨h2, rfl⟩, bd_s,
     r_clsW (by simp), r_clsW (by simp), r_ret, Nat.zero_add]
   ·rw [if_neg er, show (((root p.2.1.toNat : Nat) : Int) == ((root p.2.2.toNat : Nat) : Int)) = false from beq_eq_false_iff_ne.2 fun h => er (by omega), br_f, r_ret]) M0
 refine ⟨M, k2, ?_⟩
 unfold f61v8
 rw [r_loop1, k1, bd_s, ex_a, r_ret]
/-! Ranks. -/
theorem ranks_run (h : Sm g) {root : Nat → Nat} (hs : Scc (arcG g) (isV g) root) {k : Nat → Int} (hk : ∀ v, v < 24 → 0 ≤ k v ∧ k v ≤ 1000) (vs : List Vertex) (ds : List Int) (m1 m2 : List (List Int)) :
  ∃ k', (f60v1 vs g.Edges ds (vec fun v => (root v : Int)) (vec k) m1 m2).run = some (vec k') ∧ RStep (arcG g) root k k' ∧ ∀ v, 24 ≤ v → k' v = 0 := by
 obtain ⟨s', k1, f, rfl, k2, k3, k4⟩ := arcs_ind (S := List Int) (F := fun s => (f61v9.l1 g.Edges vs g.Edges ds (vec fun v => (root v : Int)) (vec k) m1 m2 s.1 s.2).run)
  (stp := fun a e s => (r60_0v1 a e s vs g.Edges ds (vec fun v => (root v : Int)) (vec k) m1 m2).run) (es := g.Edges) h.el (fun v s => rfl)
  (fun pre s => ∃ f : Nat → Int, s = vec f ∧ (∀ v, v < 24 → k v ≤ f v) ∧ (∀ p ∈ pre, root p.2.1.toNat ≠ root p.2.2.toNat → ∀ v, v < 24 → root v = root p.2.2.toNat → k p.2.1.toNat + 1 ≤ f v) ∧
   ∀ v, v < 24 → f v = k v ∨ ∃ p ∈ pre, root p.2.1.toNat ≠ root p.2.2.toNat ∧ root v = root p.2.2.toNat ∧ f v = k p.2.1.toNat + 1) (fun pre p suf e s ⟨f, hs', i1, i2, i3⟩ => by
   subst hs'
   have hp : p ∈ arcsE g.Edges := by rw [e]; simp
   obtain ⟨ha, hb, _, _⟩ := h.arcE hp
   have h1 : p.2.1.toNat < 24 := by omega
   have h2 : p.2.2.toNat < 24 := by omega
   have c1 : (0 : Int) ≤ p.2.1 ∧ p.2.1 < ((24 : Nat) : Int) := by omega
   have c2 : (0 : Int) ≤ p.2.2 ∧ p.2.2 < ((24 : Nat) : Int) := by omega
   have hr : ∀ X : List Int → Option (List Int), True := fun _ => trivial
   by_cases er : root p.2.1.toNat = root p.2.2.toNat
   ·refine ⟨vec f, ?_, f, rfl, i1, fun q hq hc => ?_, fun v hv => ?_⟩
    ·unfold r60_0v1
     show (ck p.2.1 24 <| rd (vec fun v => (root v : Int)) p.2.1.toNat fun a9 => ck p.2.2 24 <| rd (vec fun v => (root v : Int)) p.2.2.toNat fun a10 => brr (a9 == a10) _ _).run = _
     rw [ck_t c1, rd_s (vec_get h1), ck_t c2, rd_s (vec_get h2), r_brr, er, beq_self_eq_true, br_t, r_ret]
    ·rcases List.mem_append.1 hq with hq | hq
     ·exact i2 q hq hc
     ·simp only [List.mem_singleton] at hq; subst hq; exact absurd er hc
    ·rcases i3 v hv with k | ⟨q, q1, q2⟩
     ·exact .inl k
     ·exact .inr ⟨q, List.mem_append.2 (.inl q1), q2⟩
   ·have hw1 : IntKind.i64.wrap (k p.2.1.toNat + 1) = k p.2.1.toNat + 1 := wr (by have := hk _ h1; omega)
    obtain ⟨r, q1, f', rfl, q2⟩ := loop_ix (f := fun s : Int × List Int => (r60_0v1.l1 (A2_Int.mk p.2.1 p.2.2) (vec fun v => (root v : Int)) (vec k) s.1 s.2).run) (n := 24) (fun i a => ((i : Int), a))
     (fun i a => ∃ f' : Nat → Int, a = vec f' ∧ ∀ v, v < 24 → f' v = if v < i ∧ root v = root p.2.2.toNat then max (f v) (k p.2.1.toNat + 1) else f v)
     (fun r => ∃ f' : Nat → Int, r = Ex.a (vec f') ∧ ∀ v, v < 24 → f' v = if root v = root p.2.2.toNat then max (f v) (k p.2.1.toNat + 1) else f v)
     (fun i a hi ⟨f', ha, hf'⟩ => by
      subst ha
      have hw : IntKind.i64.wrap ((i : Int) + 1) = ((i + 1 : Nat) : Int) := wr
      have c3 : (0 : Int) ≤ (i : Int) ∧ (i : Int) < ((24 : Nat) : Int) := by omega
      have hfi : f' i = f i := by rw [hf' i hi, if_neg (by omega)]
      left
      show ∃ a', (r60_0v1.l1 (A2_Int.mk p.2.1 p.2.2) (vec fun v => (root v : Int)) (vec k) (i : Int) (vec f')).run = _ ∧ _
      unfold r60_0v1.l1
      rw [r_brr, show decide ((i : Int) < 24) = true by simpa using by omega, br_t, ck_t c3, Int.toNat_natCast, rd_s (vec_get hi), ck_t c2, rd_s (vec_get h2), r_brr]
      by_cases ei : root i = root p.2.2.toNat
      ·rw [ei, beq_self_eq_true, br_t, ck_t c3, rd_s (vec_get hi), ck_t c1, rd_s (vec_get h1), ck_t c3, st_s (vec_get hi), vec_set _ hi, hw1, hw]
       refine ⟨_, rfl, _, rfl, fun v hv => ?_⟩
       by_cases ev : v = i
       ·subst ev
        rw [if_pos rfl, if_pos (show v < v + 1 ∧ root v = root p.2.2.toNat from ⟨by omega, ei⟩), hfi]
        split <;> omega
       ·rw [if_neg ev, hf' v hv]
        by_cases e2 : v < i ∧ root v = root p.2.2.toNat
        ·rw [if_pos e2, if_pos ⟨by omega, e2.2⟩]
        ·rw [if_neg e2, if_neg (fun k => e2 ⟨by omega, k.2⟩)]
      ·rw [show (((root i : Nat) : Int) == ((root p.2.2.toNat : Nat) : Int)) = false from beq_eq_false_iff_ne.2 fun h => ei (by omega), br_f, hw]
       refine ⟨_, rfl, f', rfl, fun v hv => ?_⟩
       rw [hf' v hv]
       by_cases e2 : v < i ∧ root v = root p.2.2.toNat
       ·rw [if_pos e2, if_pos ⟨by omega, e2.2⟩]
       ·rw [if_neg e2, if_neg]
        rintro ⟨k1, k2⟩
        by_cases ev : v = i
        ·subst ev; exact ei k2
        ·exact e2 ⟨by omega, k2⟩)
     (fun a ⟨f', ha, hf'⟩ => by
      subst ha
      refine ⟨Ex.a (vec f'), ?_, f', rfl, fun v hv => ?_⟩
      ·show (r60_0v1.l1 (A2_Int.mk p.2.1 p.2.2) (vec fun v => (root v : Int)) (vec k) ((24 : Nat) : Int) (vec f')).run = _
       unfold r60_0v1.l1
       rw [r_brr, show decide (((24 : Nat) : Int) < 24) = false by decide, br_f]; rfl
      ·rw [hf' v hv]
       by_cases e2 : root v = root p.2.2.toNat
       ·rw [if_pos e2, if_pos ⟨hv, e2⟩]
       ·rw [if_neg e2, if_neg (fun k => e2 k.2)]) (k := fuel) (a := vec f) (by have := fuel_pos; omega) ⟨f, rfl, fun v hv => by rw [if_neg (by omega)]⟩
    refine ⟨vec f', ?_, f', rfl, fun v hv => ?_, fun q hq hc v hv hrv => ?_, fun v hv => ?_⟩
    ·unfold r60_0v1
     show (ck p.2.1 24 <| rd (vec fun v => (root v : Int)) p.2.1.toNat fun a9 => ck p.2.2 24 <| rd (vec fun v => (root v : Int)) p.2.2.toNat fun a10 => brr (a9 == a10) _ _).run = _
     rw [ck_t c1, rd_s (vec_get h1), ck_t c2, rd_s (vec_get h2), r_brr, show (((root p.2.1.toNat : Nat) : Int) == ((root p.2.2.toNat : Nat) : Int)) = false from beq_eq_false_iff_ne.2 fun h => er (by omega), br_f, r_loop1]
     have q1 : loopN fuel (fun s : Int × List Int => (r60_0v1.l1 (A2_Int.mk p.2.1 p.2.2) (vec fun v => (root v : Int)) (vec k) s.1 s.2).run) ((0 : Int), vec f) = _ := q1
     rw [q1, bd_s, ex_a, r_ret]
    ·have := i1 v hv
     rw [q2 v hv]
     split <;> omega
    ·rw [q2 v hv]
     rcases List.mem_append.1 hq with hq | hq
     ·have := i2 q hq hc v hv hrv
      split <;> omega
     ·simp only [List.mem_singleton] at hq; subst hq
      rw [if_pos hrv]; omega
    ·have hcase : f' v = f v ∨ (root v = root p.2.2.toNat ∧ f' v = k p.2.1.toNat + 1) := by
      rw [q2 v hv]
      split
      ·rename_i e2
       by_cases hm : f v ≤ k p.2.1.toNat + 1
       ·exact .inr ⟨e2, by omega⟩
       ·exact .inl (by omega)
      ·exact .inl rfl
     rcases hcase with hc | ⟨hc, hc'⟩
     ·rw [hc]
      rcases i3 v hv with k | ⟨q, q1, q2⟩
      ·exact .inl k
      ·exact .inr ⟨q, List.mem_append.2 (.inl q1), q2⟩
     ·exact .inr ⟨p, by simp, er, hc, hc'⟩) (s := vec k) ⟨k, rfl, fun _ _ => Int.le_refl _, fun q hq => by simp at hq, fun v _ => .inl rfl⟩
 refine ⟨fun v => if v < 24 then f v else 0, ?_, ⟨fun v hv => ?_, fun a b v hab hv hrv => ?_, fun v hv => ?_⟩, fun v hv => if_neg (by omega)⟩
 ·unfold f60v1
  rw [r_cl, show (f27 g.Edges).run = some () from rfl, bd_s, r_rf0]
  unfold f61v9
  rw [r_loop1, k1, bd_s, ex_a, r_ret, bd_s, r_ret]
  exact congrArg some (vec_congr fun v hv => (if_pos hv).symm)
 ·show k v ≤ if v < 24 then f v else 0
  rw [if_pos hv]; exact k2 v hv
 ·obtain ⟨p, hp, rfl, rfl⟩ := arcN_mem.1 hab.1
  show _ ≤ if v < 24 then f v else 0
  rw [if_pos hv]; exact k3 p hp hab.2 v hv hrv
 ·show (if v < 24 then f v else 0) = k v ∨ ∃ a b, _ ∧ _ ∧ (if v < 24 then f v else 0) = _
  rw [if_pos hv]
  rcases k4 v hv with k | ⟨p, p1, p2, p3, p4⟩
  ·exact .inl k
  ·exact .inr ⟨_, _, ⟨arcN_mem.2 ⟨p, p1, rfl, rfl⟩, p2⟩, p3, p4⟩
end Str
end Go.Fx.Gen
