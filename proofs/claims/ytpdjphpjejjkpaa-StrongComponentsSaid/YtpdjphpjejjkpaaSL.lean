/- The law's own walk finds what is reached. -/
import Derived.Test.YtpdjphpjejjkpaaSJ
namespace Go.Fx.Gen
open Go.Proofs
set_option linter.unusedVariables false
namespace Str
open Go.Fx.Str
variable {g : Graph}
/-! 24 truth values. -/
abbrev bv (f : Nat → Bool) : List Bool := (List.range 24).map f
theorem bv_get {f : Nat → Bool} {i : Nat} (h : i < 24) : (bv f)[i]? = some (f i) := by simp [bv, h]
theorem bv_len (f : Nat → Bool) : (bv f).length = 24 := by simp [bv]
abbrev updB (f : Nat → Bool) (i : Nat) : Nat → Bool := fun j => if j = i then true else f j
theorem bv_set (f : Nat → Bool) {i : Nat} (h : i < 24) : (bv f).set i true = bv (updB f i) := by
 refine List.ext_getElem? fun j => ?_
 rw [List.getElem?_set]
 by_cases hj : j < 24
 ·rw [bv_get hj, bv_len, if_pos h, bv_get hj]
  by_cases e : i = j
  ·subst e; simp
  ·rw [if_neg e]; simp [Ne.symm e]
 ·rw [bv_len, if_pos h, List.getElem?_eq_none (by rw [bv_len]; omega), List.getElem?_eq_none (by rw [bv_len]; omega), if_neg (by omega)]
def Nf (f : Nat → Bool) : Nat := (List.range 24).countP fun v => !f v
theorem Nf_upd {f : Nat → Bool} {u : Nat} (hu : u < 24) (h : f u = false) : Nf f = Nf (updB f u) + 1 :=
 countP_one List.nodup_range (List.mem_range.2 hu) (by simp [h]) (by simp) fun v _ hv => by simp [hv]
theorem Nf_le (f : Nat → Bool) : Nf f ≤ 24 := by have := List.countP_le_length (p := fun v => !f v) (l := List.range 24); simpa [Nf] using this
def nxt (e : Edge) (v : Int) : Int := if (e.To == v && !e.Directed) = true then e.From else if (e.From == v) = true then e.To else -1
theorem nxt_rch (h : Sm g) {e : Edge} (he : e ∈ g.Edges) {v : Int} (hn : 0 ≤ nxt e v) : nxt e v ≤ 23 ∧ Rch (arcG g) v.toNat (nxt e v).toNat := by
 obtain ⟨k1, k2, _, _⟩ := h.e e he
 unfold nxt at hn ⊢
 split at hn
 ·rename_i c
  simp only [Bool.and_eq_true, beq_iff_eq, Bool.not_eq_true'] at c
  rw [if_pos (by simp [c.1, c.2])]
  refine ⟨k1.2, ?_⟩
  rw [← c.1]
  by_cases e0 : e.From = e.To
  ·rw [e0]; exact .refl _
  ·exact .arc (arcN_mem.2 ⟨(e, e.To, e.From), arcsE_mem.2 ⟨he, e0, .inr ⟨c.2, rfl⟩⟩, rfl, rfl⟩)
 ·rename_i c
  rw [if_neg c]
  split at hn
  ·rename_i c2
   rw [if_pos c2]
   simp only [beq_iff_eq] at c2
   refine ⟨k2.2, ?_⟩
   rw [← c2]
   by_cases e0 : e.From = e.To
   ·rw [e0]; exact .refl _
   ·exact .arc (arcN_mem.2 ⟨(e, e.From, e.To), arcsE_mem.2 ⟨he, e0, .inl rfl⟩, rfl, rfl⟩)
  ·omega
theorem nxt_arc (h : Sm g) {v : Int} (hv : 0 ≤ v ∧ v ≤ 23) {b : Nat} (hab : (v.toNat, b) ∈ arcG g) : ∃ e ∈ g.Edges, nxt e v = (b : Int) := by
 obtain ⟨p, hp, h1, h2⟩ := arcN_mem.1 hab
 obtain ⟨a1, a2, _, _⟩ := h.arcE hp
 obtain ⟨e, x, y⟩ := p
 obtain ⟨he, hne, hc⟩ := arcsE_mem.1 hp
 simp only [Prod.mk.injEq] at hc he hne h1 h2 a1 a2
 refine ⟨e, he, ?_⟩
 unfold nxt
 rcases hc with ⟨rfl, rfl⟩ | ⟨hd, rfl, rfl⟩
 ·have e1 : e.From = v := by omega
  rw [if_neg (by simp only [Bool.and_eq_true, beq_iff_eq]; rintro ⟨k, _⟩; exact hne (e1.trans k.symm)), if_pos (by simp [e1])]
  omega
 ·have e1 : e.To = v := by omega
  rw [if_pos (by simp [e1, hd])]
  omega
structure WI (g : Graph) (s : Nat) (f : Nat → Bool) (q : List Int) (ex : Nat → Prop) : Prop where
 snd : ∀ x, x < 24 → f x = true → Rch (arcG g) s x
 beg : f s = true
 rng : ∀ x ∈ q, 0 ≤ x ∧ x ≤ 23 ∧ f x.toNat = true
 done : ∀ x, x < 24 → f x = true → (x : Int) ∈ q ∨ ex x ∨ ∀ y, (x, y) ∈ arcG g → f y = true
theorem edges_run (h : Sm g) {s : Nat} {f : Nat → Bool} {v : Int} {q : List Int} (hv : 0 ≤ v ∧ v ≤ 23) (hf : f v.toNat = true) (w : WI g s f q fun x => x = v.toNat) (hq : q.length ≤ 1000) :
  ∃ f' q', loopN fuel (fun s : Int × List Bool × List Int => (f9.l1 g v s.1 s.2.1 s.2.2).run) ((0 : Int), bv f, q) = some (.a (bv f', q')) ∧ WI g s f' q' (fun _ => False) ∧ q'.length + Nf f' = q.length + Nf f := by
 obtain ⟨r, h1, f', q', rfl, h2, h3, h4, h5⟩ := loop_ix (f := fun s : Int × List Bool × List Int => (f9.l1 g v s.1 s.2.1 s.2.2).run) (n := g.Edges.length) (fun i (a : List Bool × List Int) => ((i : Int), a.1, a.2))
  (fun i a => ∃ f' q', a = (bv f', q') ∧ WI g s f' q' (fun x => x = v.toNat) ∧ q'.length + Nf f' = q.length + Nf f ∧ f' v.toNat = true ∧ ∀ (j : Nat) (e : Edge), j < i → g.Edges[j]? = some e → 0 ≤ nxt e v → f' (nxt e v).toNat = true)
  (fun r => ∃ f' q', r = Ex.a (bv f', q') ∧ WI g s f' q' (fun x => x = v.toNat) ∧ q'.length + Nf f' = q.length + Nf f ∧ f' v.toNat = true ∧ ∀ e ∈ g.Edges, 0 ≤ nxt e v → f' (nxt e v).toNat = true)
  (fun i a hi ⟨f', q', ha, w, hc, hfv, hp⟩ => by
   subst ha
   have hx : g.Edges[i]? = some g.Edges[i] := by simp [hi]
   have hm : g.Edges[i] ∈ g.Edges := List.getElem_mem hi
   generalize g.Edges[i] = e at *
   have hw : IntKind.i64.wrap ((i : Int) + 1) = ((i + 1 : Nat) : Int) := succ_wr hi (by have := h.el; omega)
   have hql : q'.length ≤ 2000 := by have := Nf_le f; omega
   left
   show ∃ a', (f9.l1 g v (i : Int) (bv f') q').run = _ ∧ _
   have keyR : (f9.l1 g v (i : Int) (bv f') q').run = if 0 ≤ nxt e v ∧ f' (nxt e v).toNat = false then some (.cont (((i + 1 : Nat) : Int), (bv f').set (nxt e v).toNat true, q' ++ [nxt e v])) else some (.cont (((i + 1 : Nat) : Int), bv f', q')) := by
    unfold f9.l1
    rw [r_brr, L_eq, cast_lt_t hi, br_t, getR_s hx, r_join1, r_brr, hw]
    have tail : ∀ x50 : Int, (0 ≤ x50 → x50 ≤ 23) → (join1 (.reg 16) (brr (decide (x50 ≥ 0)) (ck x50 (L (bv f')) <| rd (bv f') (at0 x50) fun a51 => retA' (!a51)) (retA' false)) (.cut .nat fun x52 => ([(2, R 101), (5, H Bool 103), (6, H Int 105), (7, V v), (8, V (i : Int)), (10, V x50), (62, V x52)], [(101, B g), (103, O (bv f')), (105, O q')])) fun x52 =>
      brr x52 (ck x50 (L (bv f')) <| st (bv f') (at0 x50) (fun x53 => true) fun l54 => ap q' ([x50] : List Int) fun l55 => cont (((i + 1 : Nat) : Int), l54, l55)) (cont (((i + 1 : Nat) : Int), bv f', q')) : Pg (Nx (Int × (List Bool) × (List Int)) (Ex ((List Bool) × (List Int)) Empty Empty))).run =
      if 0 ≤ x50 ∧ f' x50.toNat = false then some (.cont (((i + 1 : Nat) : Int), (bv f').set x50.toNat true, q' ++ [x50])) else some (.cont (((i + 1 : Nat) : Int), bv f', q')) := by
     intro x50 hx50
     rw [r_join1, r_brr]
     by_cases h0 : 0 ≤ x50
     ·have c : (0 : Int) ≤ x50 ∧ x50 < ((L (bv f') : Nat) : Int) := by rw [L_eq, bv_len]; have := hx50 h0; omega
      have hlt : x50.toNat < 24 := by have := hx50 h0; omega
      have ha : at0 x50 = x50.toNat := by
       have := at0_nat (n := x50.toNat)
       rwa [Int.toNat_of_nonneg h0] at this
      rw [decide_eq_true h0, br_t, ck_t c, ha, rd_s (bv_get hlt), r_retA, bd_s, ex_a, r_brr]
      cases hb : f' x50.toNat with
      | true => rw [Bool.not_true, br_f, if_neg (by simp), r_cont]
      | false => rw [Bool.not_false, br_t, ck_t c, st_s (bv_get hlt), ap_s (by simp only [List.length_append, List.length_singleton]; unfold bigLen; omega), if_pos ⟨h0, rfl⟩, r_cont]
     ·rw [decide_eq_false h0, br_f, r_retA, bd_s, ex_a, r_brr, br_f, if_neg (fun k => h0 k.1), r_cont]
    have hle : ∀ x, x = nxt e v → (0 ≤ x → x ≤ 23) := fun x hx h0 => by subst hx; exact (nxt_rch h hm h0).1
    unfold nxt at hle ⊢
    cases c1 : e.From == v with
    | true =>
     rw [br_t, r_retA, bd_s, ex_a, r_join1, r_brr]
     cases c2 : e.To == v with
     | true =>
      rw [br_t, r_retA, bd_s, ex_a, r_join1, r_brr]
      cases c3 : e.Directed with
      | true =>
       rw [Bool.not_true, br_f, r_retA, bd_s, ex_a]
       simp only [c1, c2, c3, Bool.not_true, Bool.and_false, Bool.false_eq_true, if_false, if_true] at hle ⊢
       exact tail _ (hle _ rfl)
      | false =>
       rw [Bool.not_false, br_t, r_retA, bd_s, ex_a]
       simp only [c1, c2, c3, Bool.not_false, Bool.and_self, if_true] at hle ⊢
       exact tail _ (hle _ rfl)
     | false =>
      rw [br_f, r_retA, bd_s, ex_a, r_join1, r_brr, br_f, r_retA, bd_s, ex_a]
      simp only [c1, c2, Bool.false_and, Bool.false_eq_true, if_false, if_true] at hle ⊢
      exact tail _ (hle _ rfl)
    | false =>
     rw [br_f, r_retA, bd_s, ex_a, r_join1, r_brr]
     cases c2 : e.To == v with
     | true =>
      rw [br_t, r_retA, bd_s, ex_a, r_join1, r_brr]
      cases c3 : e.Directed with
      | true =>
       rw [Bool.not_true, br_f, r_retA, bd_s, ex_a]
       simp only [c1, c2, c3, Bool.not_true, Bool.and_false, Bool.false_eq_true, if_false] at hle ⊢
       exact tail _ (hle _ rfl)
      | false =>
       rw [Bool.not_false, br_t, r_retA, bd_s, ex_a]
       simp only [c1, c2, c3, Bool.not_false, Bool.and_self, if_true] at hle ⊢
       exact tail _ (hle _ rfl)
     | false =>
      rw [br_f, r_retA, bd_s, ex_a, r_join1, r_brr, br_f, r_retA, bd_s, ex_a]
      simp only [c1, c2, Bool.false_and, Bool.false_eq_true, if_false] at hle ⊢
      exact tail _ (hle _ rfl)
   rw [keyR]
   by_cases hc2 : 0 ≤ nxt e v ∧ f' (nxt e v).toNat = false
   ·rw [if_pos hc2]
    obtain ⟨k1, k2⟩ := nxt_rch h hm hc2.1
    have hlt : (nxt e v).toNat < 24 := by omega
    have hsv := w.snd v.toNat (by omega) hfv
    have up : ∀ x, f' x = true → updB f' (nxt e v).toNat x = true := fun x hx => by
     show (if x = _ then true else f' x) = true
     split
     ·rfl
     ·exact hx
    refine ⟨(bv (updB f' (nxt e v).toNat), q' ++ [nxt e v]), by rw [bv_set f' hlt], _, _, rfl, ⟨fun x hx hfx => ?_, up _ w.beg, fun x hx => ?_, fun x hx hfx => ?_⟩, ?_, up _ hfv, fun j e' hj he' h0 => ?_⟩
    ·by_cases ex : x = (nxt e v).toNat
     ·subst ex; exact hsv.trans k2
     ·exact w.snd x hx (by rw [show updB f' (nxt e v).toNat x = f' x from if_neg ex] at hfx; exact hfx)
    ·rcases List.mem_append.1 hx with hx | hx
     ·obtain ⟨a1, a2, a3⟩ := w.rng x hx
      exact ⟨a1, a2, up _ a3⟩
     ·simp only [List.mem_singleton] at hx
      subst hx
      exact ⟨hc2.1, k1, if_pos rfl⟩
    ·by_cases ex : x = (nxt e v).toNat
     ·left; subst ex; rw [Int.toNat_of_nonneg hc2.1]; simp
     ·rw [show updB f' (nxt e v).toNat x = f' x from if_neg ex] at hfx
      rcases w.done x hx hfx with k | k | k
      ·exact .inl (List.mem_append.2 (.inl k))
      ·exact .inr (.inl k)
      ·exact .inr (.inr fun y hy => up _ (k y hy))
    ·have := Nf_upd hlt hc2.2
     simp only [List.length_append, List.length_singleton]; omega
    ·by_cases hji : j = i
     ·subst hji; rw [hx] at he'; cases he'; exact if_pos rfl
     ·exact up _ (hp j e' (by omega) he' h0)
   ·rw [if_neg hc2]
    refine ⟨(bv f', q'), rfl, f', q', rfl, w, hc, hfv, fun j e' hj he' h0 => ?_⟩
    by_cases hji : j = i
    ·subst hji; rw [hx] at he'; cases he'
     cases hb : f' (nxt e v).toNat with
     | true => rfl
     | false => exact absurd ⟨h0, hb⟩ hc2
    ·exact hp j e' (by omega) he' h0)
  (fun a ⟨f', q', ha, w, hc, hfv, hp⟩ => by
   subst ha
   refine ⟨Ex.a (bv f', q'), ?_, f', q', rfl, w, hc, hfv, fun e he h0 => ?_⟩
   ·show (f9.l1 g v (g.Edges.length : Int) (bv f') q').run = _
    unfold f9.l1
    rw [r_brr, L_eq, cast_lt_f (by omega), br_f]; rfl
   ·obtain ⟨j, hj, e'⟩ := List.getElem_of_mem he
    exact hp j e hj (by rw [← e']; simp [hj]) h0) (k := fuel) (a := (bv f, q)) (by have := fuel_pos; have := h.el; omega) ⟨f, q, rfl, w, rfl, hf, fun j e hj => by omega⟩
 refine ⟨f', q', h1, ⟨h2.snd, h2.beg, h2.rng, fun x hx hfx => ?_⟩, h3⟩
 rcases h2.done x hx hfx with k | k | k
 ·exact .inl k
 ·refine .inr (.inr fun y hy => ?_)
  subst k
  obtain ⟨e, he, e2⟩ := nxt_arc h hv hy
  have := h5 e he (by rw [e2]; omega)
  rwa [e2, Int.toNat_natCast] at this
 ·exact .inr (.inr k)
theorem walk_run (h : Sm g) {s : Int} (hs : 0 ≤ s ∧ s ≤ 23) : ∃ f, (f9 g s).run = some (bv f) ∧ ∀ x, x < 24 → (f x = true ↔ Rch (arcG g) s.toNat x) := by
 have hs24 : s.toNat < 24 := by omega
 have hat : at0 s = s.toNat := by
  have := at0_nat (n := s.toNat)
  rwa [Int.toNat_of_nonneg hs.1] at this
 have w0 : WI g s.toNat (updB (fun _ => false) s.toNat) [s] (fun _ => False) := by
  refine ⟨fun x hx hfx => ?_, if_pos rfl, fun x hx => ?_, fun x hx hfx => ?_⟩
  ·by_cases e : x = s.toNat
   ·subst e; exact .refl _
   ·rw [show updB (fun _ => false) s.toNat x = false from if_neg e] at hfx; cases hfx
  ·simp only [List.mem_singleton] at hx; subst hx; exact ⟨hs.1, hs.2, if_pos rfl⟩
  ·by_cases e : x = s.toNat
   ·subst e; left; rw [Int.toNat_of_nonneg hs.1]; simp
   ·rw [show updB (fun _ => false) s.toNat x = false from if_neg e] at hfx; cases hfx
 obtain ⟨r, h1, f, rfl, h2⟩ := loop_of (f := fun t : List Bool × List Int => (f9.l2 g t.1 t.2).run) (I := fun t => ∃ f q, t = (bv f, q) ∧ WI g s.toNat f q (fun _ => False) ∧ q.length ≤ 500 ∧ q.length + Nf f ≤ 100)
  (Q := fun r => ∃ f, r = Ex.a (bv f) ∧ WI g s.toNat f [] (fun _ => False)) (m := fun t => t.2.length + Nf fun v => t.1.getD v false) (fun t ⟨f, q, ht, w, hq, hc⟩ => by
   subst ht
   have hNg : ∀ f : Nat → Bool, Nf (fun v => (bv f).getD v false) = Nf f := fun f => by
    unfold Nf
    exact List.countP_congr fun v hv => by
     show (!(bv f).getD v false) = true ↔ _
     rw [List.getD_eq_getElem?_getD, bv_get (List.mem_range.1 hv)]; rfl
   cases q with
   | nil =>
    right
    refine ⟨Ex.a (bv f), ?_, f, rfl, w⟩
    show (f9.l2 g (bv f) []).run = _
    unfold f9.l2
    rw [r_brr, L_eq, show decide ((([] : List Int).length : Int) > 0) = false by decide, br_f]; rfl
   | cons v t =>
    left
    obtain ⟨v1, v2, v3⟩ := w.rng v (.head _)
    have w' : WI g s.toNat f t fun x => x = v.toNat := ⟨w.snd, w.beg, fun x hx => w.rng x (.tail _ hx), fun x hx hfx => by
     rcases w.done x hx hfx with k | k | k
     ·rcases List.mem_cons.1 k with k | k
      ·exact .inr (.inl (by omega))
      ·exact .inl k
     ·exact k.elim
     ·exact .inr (.inr k)⟩
    obtain ⟨f', q', n1, n2, n3⟩ := edges_run h ⟨v1, v2⟩ v3 w' (by simp only [List.length_cons] at hq; omega)
    refine ⟨(bv f', q'), ?_, ⟨f', q', rfl, n2, ?_, ?_⟩, ?_⟩
    ·show (f9.l2 g (bv f) (v :: t)).run = _
     unfold f9.l2
     rw [r_brr, L_eq, show decide ((((v :: t) : List Int).length : Int) > 0) = true from decide_eq_true (by rw [List.length_cons]; omega), br_t, ck_t ⟨by decide, by rw [List.length_cons]; omega⟩, show at0 (0 : Int) = 0 from rfl,
      rd_s (show (v :: t)[0]? = some v from rfl), r_cutLo1, if_pos ⟨by decide, by rw [List.length_cons]; omega⟩, bd_s, show ((v :: t).drop (1 : Int).toNat) = t from rfl, r_loop1, n1, bd_s, ex_a, r_cont]
    ·simp only [List.length_cons] at hc; omega
    ·simp only [List.length_cons] at hc; omega
    ·show q'.length + Nf (fun v => (bv f').getD v false) < (v :: t).length + Nf (fun v => (bv f).getD v false)
     rw [hNg, hNg, List.length_cons]; omega) fuel (bv (updB (fun _ => false) s.toNat), [s]) ⟨_, _, rfl, w0, by simp, by have := Nf_le (updB (fun _ => false) s.toNat); simp only [List.length_singleton]; omega⟩ (by
   have := fuel_pos
   have := Nf_le fun v => (bv (updB (fun _ => false) s.toNat)).getD v false
   show ([s] : List Int).length + Nf (fun v => (bv (updB (fun _ => false) s.toNat)).getD v false) < fuel
   simp only [List.length_singleton]
   omega)
 refine ⟨f, ?_, fun x hx => ⟨h2.snd x hx, fun hr => ?_⟩⟩
 ·unfold f9
  rw [show ∀ k : List Bool → Pg (List Bool), (mk (24 : Int) (24 : Int) (false : Bool) k).run = (k (List.replicate (24 : Int).toNat false)).run from fun k => by
   show bd (if (0 : Int) ≤ 24 ∧ (24 : Int) ≤ 24 ∧ (24 : Int) ≤ (bigLen : Int) then some (List.replicate (24 : Int).toNat false) else none) (fun l => (k l).run) = _
   rw [if_pos (by unfold bigLen; decide), bd_s], show List.replicate (24 : Int).toNat false = bv fun _ => false from rfl, ck_t (by rw [L_eq, bv_len]; omega), hat, st_s (bv_get hs24), bv_set _ hs24, r_loop1, h1, bd_s, ex_a, r_ret]
 ·have := hr.fore (S := fun x => x < 24 ∧ f x = true) (fun a b hab ⟨ha, hfa⟩ => by
   refine ⟨isV_lt h (h.arcN hab).2, ?_⟩
   rcases h2.done a ha hfa with k | k | k
   ·simp at k
   ·exact k.elim
   ·exact k b hab) ⟨hs24, h2.beg⟩
  exact this.2
end Str
end Go.Fx.Gen
