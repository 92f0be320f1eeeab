/- The search in breadth finds distances. -/
import Derived.Test.YtpdjphpjejjkpaaSE
namespace Go.Fx.Str
open Classical
abbrev FAR : Int := 1048576
def Fc (d : Nat → Int) : Nat := (List.range 24).countP fun v => decide (d v = FAR)
abbrev upd (d : Nat → Int) (u : Nat) (x : Int) : Nat → Int := fun v => if v = u then x else d v
theorem countP_one {p q : Nat → Bool} {M : Nat} : ∀ {l : List Nat}, l.Nodup → M ∈ l → p M = true → q M = false → (∀ x ∈ l, x ≠ M → q x = p x) → l.countP p = l.countP q + 1
 | [], _, h, _, _, _ => by simp at h
 | y :: l, hn, hm, hp, hq, h => by
  rw [List.countP_cons, List.countP_cons]
  obtain ⟨hn1, hn2⟩ := List.nodup_cons.1 hn
  rcases List.mem_cons.1 hm with rfl | hm
  ·have : l.countP p = l.countP q := List.countP_congr fun x hx => by rw [h x (.tail _ hx) (by rintro rfl; exact hn1 hx)]
   rw [if_pos hp, if_neg (by rw [hq]; simp), this]
  ·have hy : y ≠ M := by rintro rfl; exact hn1 hm
   have ih := countP_one hn2 hm hp hq fun x hx => h x (.tail _ hx)
   rw [ih, h y (.head _) hy]; omega
theorem Fc_upd {d : Nat → Int} {u : Nat} {x : Int} (hu : u < 24) (h : d u = FAR) (hx : x ≠ FAR) : Fc d = Fc (upd d u x) + 1 := by
 refine countP_one List.nodup_range (List.mem_range.2 hu) (by simp [h]) ?_ fun v _ hv => ?_
 ·have : upd d u x u = x := if_pos rfl
  rw [this]; exact decide_eq_false hx
 ·have : upd d u x v = d v := if_neg hv
  rw [this]
theorem Fc_le (d : Nat → Int) : Fc d ≤ 24 := by have := List.countP_le_length (p := fun v => decide (d v = FAR)) (l := List.range 24); simpa [Fc] using this
structure BQ (nx : Nat → Nat → Prop) (S : Nat → Prop) (d : Nat → Int) (q : List Int) : Prop where
 rng : ∀ x ∈ q, 0 ≤ x ∧ x ≤ 23 ∧ d x.toNat ≠ FAR
 val : ∀ v, v < 24 → d v = FAR ∨ (0 ≤ d v ∧ d v + 1 + Fc d ≤ 24)
 zero : ∀ v, v < 24 → (d v = 0 ↔ S v)
 why : ∀ v, v < 24 → d v ≠ FAR → 0 < d v → ∃ u, u < 24 ∧ nx u v ∧ d u ≠ FAR ∧ d u = d v - 1
 srt : q.Pairwise fun x y => d x.toNat ≤ d y.toNat
 top : ∀ x r, q = x :: r → ∀ v, v < 24 → d v ≠ FAR → d v ≤ d x.toNat + 1
 done : ∀ v, v < 24 → d v ≠ FAR → (v : Int) ∈ q ∨ ∀ u, u < 24 → nx v u → d u ≠ FAR ∧ d u ≤ d v + 1
variable {nx : Nat → Nat → Prop} {S : Nat → Prop} {d : Nat → Int}
theorem BQ.visit {h : Int} {t : List Int} (b : BQ nx S d (h :: t)) {u : Nat} (hu : u < 24) (hn : nx h.toNat u) (hf : d u = FAR) :
  BQ nx S (upd d u (d h.toNat + 1)) (h :: (t ++ [(u : Int)])) ∧ Fc d = Fc (upd d u (d h.toNat + 1)) + 1 ∧ d h.toNat + 1 ≠ FAR ∧ 0 ≤ d h.toNat ∧ d h.toNat ≤ 23 := by
 obtain ⟨h1, h2, h3⟩ := b.rng h (.head _)
 have hh : h.toNat < 24 := by omega
 have hv := (b.val h.toNat hh).resolve_left h3
 have hne : d h.toNat + 1 ≠ FAR := by show _ ≠ (1048576 : Int); omega
 have hFc := Fc_upd hu hf hne
 have old : ∀ v, d v ≠ FAR → upd d u (d h.toNat + 1) v = d v := fun v hv => if_neg (by rintro rfl; exact hv hf)
 have oldq : ∀ x ∈ h :: t, upd d u (d h.toNat + 1) x.toNat = d x.toNat := fun x hx => old _ (b.rng x hx).2.2
 have new : upd d u (d h.toNat + 1) u = d h.toNat + 1 := if_pos rfl
 refine ⟨⟨fun x hx => ?_, fun v hv24 => ?_, fun v hv24 => ?_, fun v hv24 hnf hp => ?_, ?_, fun x r e v hv24 hnf => ?_, fun v hv24 hnf => ?_⟩, hFc, hne, by omega, by omega⟩
 ·rw [← List.cons_append] at hx
  rcases List.mem_append.1 hx with hx | hx
  ·obtain ⟨k1, k2, k3⟩ := b.rng x hx
   exact ⟨k1, k2, by rw [oldq x hx]; exact k3⟩
  ·simp only [List.mem_singleton] at hx
   subst hx
   exact ⟨by omega, by omega, by rw [Int.toNat_natCast, new]; exact hne⟩
 ·by_cases e : v = u
  ·subst e; right; rw [new]; omega
  ·rw [show upd d u (d h.toNat + 1) v = d v from if_neg e]
   rcases b.val v hv24 with k | k
   ·exact .inl k
   ·right; omega
 ·by_cases e : v = u
  ·subst e
   rw [new, ← b.zero v hv24, hf]
   constructor
   ·intro k; omega
   ·intro k; have : (1048576 : Int) = 0 := k; omega
  ·rw [show upd d u (d h.toNat + 1) v = d v from if_neg e]; exact b.zero v hv24
 ·by_cases e : v = u
  ·subst e
   refine ⟨h.toNat, hh, hn, by rw [old _ h3]; exact h3, by rw [old _ h3, new]; omega⟩
  ·rw [show upd d u (d h.toNat + 1) v = d v from if_neg e] at hnf hp ⊢
   obtain ⟨w, k1, k2, k3, k4⟩ := b.why v hv24 hnf hp
   exact ⟨w, k1, k2, by rw [old _ k3]; exact k3, by rw [old _ k3]; exact k4⟩
 ·rw [← List.cons_append, List.pairwise_append]
  refine ⟨List.Pairwise.imp_of_mem (fun {x y} hx hy k => ?_) b.srt, List.pairwise_singleton _ _, fun x hx y hy => ?_⟩
  ·rw [oldq x hx, oldq y hy]; exact k
  ·simp only [List.mem_singleton] at hy
   subst hy
   rw [oldq x hx, Int.toNat_natCast, new]
   have := b.rng x hx
   exact b.top h t rfl x.toNat (by omega) this.2.2
 ·cases e
  rw [old _ h3]
  by_cases e : v = u
  ·subst e; rw [new]; omega
  ·rw [show upd d u (d h.toNat + 1) v = d v from if_neg e] at hnf ⊢
   exact b.top h t rfl v hv24 hnf
 ·by_cases e : v = u
  ·subst e; left; simp
  ·rw [show upd d u (d h.toNat + 1) v = d v from if_neg e] at hnf ⊢
   rcases b.done v hv24 hnf with k | k
   ·left
    rw [← List.cons_append]
    exact List.mem_append.2 (.inl k)
   ·right
    intro w hw hnw
    obtain ⟨k1, k2⟩ := k w hw hnw
    rw [old _ k1]; exact ⟨k1, k2⟩
theorem BQ.pop {h : Int} {t : List Int} (b : BQ nx S d (h :: t)) (hd : ∀ u, u < 24 → nx h.toNat u → d u ≠ FAR ∧ d u ≤ d h.toNat + 1) : BQ nx S d t := by
 refine ⟨fun x hx => b.rng x (.tail _ hx), b.val, b.zero, b.why, (List.pairwise_cons.1 b.srt).2, fun x r e v hv hnf => ?_, fun v hv hnf => ?_⟩
 ·have h1 := b.top h t rfl v hv hnf
  have h2 := (List.pairwise_cons.1 b.srt).1 x (by rw [e]; simp)
  omega
 ·rcases b.done v hv hnf with k | k
  ·rcases List.mem_cons.1 k with k | k
   ·right
    have : h.toNat = v := by omega
    subst this; exact hd
   ·exact .inl k
  ·exact .inr k
theorem BQ.dist (b : BQ nx S d []) : Dist nx S FAR d := by
 refine ⟨fun v hv => ?_, b.zero, fun v u hv hu hnf hn => ?_, b.why⟩
 ·rcases b.val v hv with k | k
  ·exact .inl k
  ·right; omega
 ·rcases b.done v hv hnf with k | k
  ·simp at k
  ·exact k u hu hn
end Go.Fx.Str
namespace Go.Fx.Gen
open Go.Proofs
set_option linter.unusedVariables false
namespace Str
open Go.Fx.Str
variable {g : Graph}
theorem clone_run {l : List Int} (h : l.length ≤ 1000000) : (f40v1 l).run = some l := by
 unfold f40v1
 refine bothN_s ?_ (fun h => h)
 rw [ap_s (by rw [List.nil_append]; unfold bigLen; omega), r_ret]; rfl
theorem nbrs_run {nx : Nat → Nat → Prop} {S : Nat → Prop} {d : Nat → Int} {h : Int} {t y : List Int} (b : BQ nx S d (h :: t)) (hy : ∀ x, x ∈ y ↔ ∃ u : Nat, x = (u : Int) ∧ nx h.toNat u) (hlt : ∀ u, nx h.toNat u → u < 24) (hyl : y.length ≤ 1000000)
  (hql : (h :: t).length + Fc d ≤ 1000000) :
  ∃ d' t', loopN fuel (fun s : Int × List Int × List Int => (f25v2.l3 y s.1 s.2.1 s.2.2).run) ((0 : Int), vec d, h :: t) = some (.a (vec d', h :: t')) ∧ BQ nx S d' t' ∧ (h :: t').length + Fc d' = (h :: t).length + Fc d := by
 obtain ⟨r, h1, d', t', rfl, h2, h3, h4⟩ := loop_ix (f := fun s : Int × List Int × List Int => (f25v2.l3 y s.1 s.2.1 s.2.2).run) (n := y.length) (fun i (a : List Int × List Int) => ((i : Int), a.1, a.2))
  (fun i a => ∃ d' t', a = (vec d', h :: t') ∧ BQ nx S d' (h :: t') ∧ (h :: t').length + Fc d' = (h :: t).length + Fc d ∧ ∀ (j : Nat) (x : Int), j < i → y[j]? = some x → d' x.toNat ≠ FAR ∧ d' x.toNat ≤ d' h.toNat + 1)
  (fun r => ∃ d' t', r = Ex.a (vec d', h :: t') ∧ BQ nx S d' (h :: t') ∧ (h :: t').length + Fc d' = (h :: t).length + Fc d ∧ ∀ x ∈ y, d' x.toNat ≠ FAR ∧ d' x.toNat ≤ d' h.toNat + 1)
  (fun i a hi ⟨d', t', ha, hb, hc, hd⟩ => by
   subst ha
   have hx : y[i]? = some y[i] := by simp [hi]
   have hm : y[i] ∈ y := List.getElem_mem hi
   generalize hq : y[i] = x at *
   obtain ⟨u, rfl, hnu⟩ := (hy x).1 hm
   have hu := hlt u hnu
   have cu : (0 : Int) ≤ (u : Int) ∧ (u : Int) < ((24 : Nat) : Int) := by omega
   obtain ⟨q1, q2, q3⟩ := hb.rng h (.head _)
   have hh : h.toNat < 24 := by omega
   have hw : IntKind.i64.wrap ((i : Int) + 1) = ((i + 1 : Nat) : Int) := succ_wr hi (by omega)
   left
   show ∃ a', (f25v2.l3 y (i : Int) (vec d') (h :: t')).run = _ ∧ _
   unfold f25v2.l3
   rw [r_brr, L_eq, cast_lt_t hi, br_t, getR_s hx, ck_t cu, Int.toNat_natCast, rd_s (vec_get hu), r_brr]
   by_cases e : d' u = FAR
   ·obtain ⟨b1, b2, b3, b4, b5⟩ := hb.visit hu hnu e
    rw [show (d' u == 1048576) = true by rw [e]; rfl, br_t, ck_t ⟨by decide, by rw [L_eq, List.length_cons]; omega⟩, show at0 (0 : Int) = 0 from rfl, rd_s (show (h :: t')[0]? = some h from rfl), ck_t (by omega), rd_s (vec_get hh), ck_t cu, st_s (vec_get hu), vec_set _ hu,
     ap_s (by simp only [List.length_append, List.length_cons, List.length_nil] at hc hql ⊢; have := Fc_le d'; unfold bigLen; omega), wr (n := d' h.toNat + 1) (by omega), hw]
    refine ⟨(vec (upd d' u (d' h.toNat + 1)), h :: (t' ++ [(u : Int)])), rfl, _, _, rfl, b1, by simp only [List.length_append, List.length_cons, List.length_nil] at hc ⊢; omega, fun j z hj hz => ?_⟩
    have hho : upd d' u (d' h.toNat + 1) h.toNat = d' h.toNat := if_neg (by rintro rfl; exact q3 e)
    by_cases hji : j = i
    ·subst hji; rw [hx] at hz; cases hz
     rw [Int.toNat_natCast, hho, show upd d' u (d' h.toNat + 1) u = d' h.toNat + 1 from if_pos rfl]
     exact ⟨b3, Int.le_refl _⟩
    ·obtain ⟨k1, k2⟩ := hd j z (by omega) hz
     rw [hho, show upd d' u (d' h.toNat + 1) z.toNat = d' z.toNat from if_neg (by rintro rfl; exact k1 e)]
     exact ⟨k1, k2⟩
   ·rw [show (d' u == 1048576) = false from beq_eq_false_iff_ne.2 e, br_f, hw]
    refine ⟨(vec d', h :: t'), rfl, d', t', rfl, hb, hc, fun j z hj hz => ?_⟩
    by_cases hji : j = i
    ·subst hji; rw [hx] at hz; cases hz
     rw [Int.toNat_natCast]
     exact ⟨e, hb.top h t' rfl u hu e⟩
    ·exact hd j z (by omega) hz)
  (fun a ⟨d', t', ha, hb, hc, hd⟩ => by
   subst ha
   refine ⟨Ex.a (vec d', h :: t'), ?_, d', t', rfl, hb, hc, fun x hx => ?_⟩
   ·show (f25v2.l3 y (y.length : Int) (vec d') (h :: t')).run = _
    unfold f25v2.l3
    rw [r_brr, L_eq, cast_lt_f (by omega), br_f]; rfl
   ·obtain ⟨j, hj, e⟩ := List.getElem_of_mem hx
    exact hd j x hj (by rw [← e]; simp [hj])) (k := fuel) (a := (vec d, h :: t)) (by have := fuel_pos; omega) ⟨d, t, rfl, b, rfl, fun j x hj => by omega⟩
 refine ⟨d', t', h1, h2.pop fun u hu hn => ?_, h3⟩
 have := h4 (u : Int) ((hy _).2 ⟨u, rfl, hn⟩)
 rw [Int.toNat_natCast] at this
 exact this
theorem search_gen {nx : Nat → Nat → Prop} {F4 : List Int × List Int → Option (Nx (List Int × List Int) (Ex (List Int) Empty Empty))} {nb : Int → Option (List Int)}
  (h4 : ∀ s, F4 s = br (decide ((L s.2 : Int) > 0)) (bd (chk ((0 : Int) ≤ 0 ∧ (0 : Int) < ((L s.2 : Nat) : Int))) fun _ => bd s.2[at0 (0 : Int)]? fun a => bd (nb a) fun y => bd (loopN fuel (fun s : Int × List Int × List Int => (f25v2.l3 y s.1 s.2.1 s.2.2).run) ((0 : Int), s.1, s.2)) fun e =>
   ex3 e (fun x => bd (if (0 : Int) ≤ 1 ∧ (1 : Int) ≤ (x.2.length : Int) then some (x.2.drop (1 : Int).toNat) else none) fun l => some (.cont (x.1, l))) nofun nofun) (some (.done (.a s.1))))
  (hnb : ∀ v : Nat, v < 24 → ∃ l, nb (v : Int) = some l ∧ l.length ≤ 2000 ∧ ∀ x, x ∈ l ↔ ∃ u : Nat, x = (u : Int) ∧ nx v u) (hlt : ∀ v u, nx v u → u < 24)
  {fr : List Int} (hfr : ∀ x ∈ fr, 0 ≤ x ∧ x ≤ 23) (hl : fr.length ≤ 100000) :
  ∃ d, (bd (loopN fuel (fun s : Int × List Int => (f25v2.l1 s.1 s.2).run) ((0 : Int), List.replicate 24 (0 : Int))) fun e => ex3 e (fun x16 => bd (f40v1 fr).run fun y17 => bd (loopN fuel (fun s : Int × List Int => (f25v2.l2 y17 s.1 s.2).run) ((0 : Int), x16)) fun e => ex3 e (fun x27 =>
   bd (loopN fuel F4 (x27, y17)) fun e => ex3 e (fun x => some x) nofun nofun) nofun nofun) nofun nofun) = some (vec d) ∧ Dist nx (fun v => (v : Int) ∈ fr) FAR d := by
 have e1 : loopN fuel (fun s : Int × List Int => (f25v2.l1 s.1 s.2).run) ((0 : Int), List.replicate 24 (0 : Int)) = some (Ex.a (vec fun _ => FAR)) := by
  obtain ⟨r, h1, rfl⟩ := loop_ix (f := fun s : Int × List Int => (f25v2.l1 s.1 s.2).run) (n := 24) (fun i a => ((i : Int), a)) (fun i a => a = vec fun v => if v < i then FAR else 0) (fun r => r = Ex.a (vec fun _ => FAR))
   (fun i a hi ha => by
    subst ha
    have hw : IntKind.i64.wrap ((i : Int) + 1) = ((i + 1 : Nat) : Int) := wr
    left
    show ∃ a', (f25v2.l1 (i : Int) _).run = _ ∧ _
    unfold f25v2.l1
    rw [r_brr, show decide ((i : Int) < 24) = true by simpa using by omega, br_t, ck_t (by omega), Int.toNat_natCast, st_s (vec_get hi), vec_set _ hi, hw]
    refine ⟨_, rfl, vec_congr fun v hv => ?_⟩
    by_cases e : v = i
    ·subst e; rw [if_pos rfl, if_pos (by omega)]
    ·rw [if_neg e]
     by_cases e2 : v < i
     ·rw [if_pos e2, if_pos (by omega)]
     ·rw [if_neg e2, if_neg (by omega)])
   (fun a ha => by
    subst ha
    refine ⟨_, ?_, rfl⟩
    show (f25v2.l1 ((24 : Nat) : Int) _).run = _
    unfold f25v2.l1
    rw [r_brr, show decide (((24 : Nat) : Int) < 24) = false by decide, br_f]
    show some (Nx.done (Ex.a (vec fun v => if v < 24 then FAR else 0))) = _
    rw [show vec (fun v => if v < 24 then FAR else 0) = vec fun _ => FAR from vec_congr fun v hv => if_pos hv]) (k := fuel) (a := List.replicate 24 (0 : Int)) (by have := fuel_pos; omega) vec_zero
  exact h1
 have e2 : ∃ d0, loopN fuel (fun s : Int × List Int => (f25v2.l2 fr s.1 s.2).run) ((0 : Int), vec fun _ => FAR) = some (Ex.a (vec d0)) ∧ ∀ v, v < 24 → (d0 v = 0 ∧ (v : Int) ∈ fr) ∨ (d0 v = FAR ∧ (v : Int) ∉ fr) := by
  obtain ⟨r, h1, d0, rfl, h2⟩ := loop_ix (f := fun s : Int × List Int => (f25v2.l2 fr s.1 s.2).run) (n := fr.length) (fun i a => ((i : Int), a))
   (fun i a => ∃ d0, a = vec d0 ∧ ∀ v, v < 24 → (d0 v = 0 ∧ (v : Int) ∈ fr) ∨ (d0 v = FAR ∧ ∀ j, j < i → fr[j]? ≠ some (v : Int))) (fun r => ∃ d0, r = Ex.a (vec d0) ∧ ∀ v, v < 24 → (d0 v = 0 ∧ (v : Int) ∈ fr) ∨ (d0 v = FAR ∧ (v : Int) ∉ fr))
   (fun i a hi ⟨d0, ha, hd⟩ => by
    subst ha
    have hx : fr[i]? = some fr[i] := by simp [hi]
    have hm : fr[i] ∈ fr := List.getElem_mem hi
    generalize hq : fr[i] = x at *
    have hxr := hfr x hm
    have hw : IntKind.i64.wrap ((i : Int) + 1) = ((i + 1 : Nat) : Int) := succ_wr hi (by omega)
    left
    show ∃ a', (f25v2.l2 fr (i : Int) _).run = _ ∧ _
    unfold f25v2.l2
    rw [r_brr, L_eq, cast_lt_t hi, br_t, ck_t (by omega), at0_nat, rd_s hx, ck_t (by omega), st_s (vec_get (by omega)), vec_set _ (by omega), hw]
    refine ⟨_, rfl, _, rfl, fun v hv => ?_⟩
    by_cases e : v = x.toNat
    ·subst e; left; rw [if_pos rfl]; exact ⟨rfl, by rw [Int.toNat_of_nonneg hxr.1]; exact hm⟩
    ·rw [if_neg e]
     rcases hd v hv with k | ⟨k, k'⟩
     ·exact .inl k
     ·refine .inr ⟨k, fun j hj hjx => ?_⟩
      by_cases hji : j = i
      ·subst hji; rw [hx] at hjx; cases hjx; simp at e
      ·exact k' j (by omega) hjx)
   (fun a ⟨d0, ha, hd⟩ => by
    subst ha
    refine ⟨Ex.a (vec d0), ?_, d0, rfl, fun v hv => ?_⟩
    ·show (f25v2.l2 fr (fr.length : Int) _).run = _
     unfold f25v2.l2
     rw [r_brr, L_eq, cast_lt_f (by omega), br_f]; rfl
    ·rcases hd v hv with k | ⟨k, k'⟩
     ·exact .inl k
     ·refine .inr ⟨k, fun hm => ?_⟩
      obtain ⟨j, hj, e⟩ := List.getElem_of_mem hm
      exact k' j hj (by rw [← e]; simp [hj])) (k := fuel) (a := vec fun _ => FAR) (by have := fuel_pos; omega) ⟨_, rfl, fun v _ => .inr ⟨rfl, fun j hj => by omega⟩⟩
  exact ⟨d0, h1, h2⟩
 obtain ⟨d0, e2, hd0⟩ := e2
 have b0 : BQ nx (fun v => (v : Int) ∈ fr) d0 fr := by
  have nf : ∀ v, v < 24 → d0 v ≠ FAR → d0 v = 0 ∧ (v : Int) ∈ fr := fun v hv h => (hd0 v hv).resolve_right fun k => h k.1
  have fm : ∀ x ∈ fr, d0 x.toNat = 0 := fun x hx => by
   have := hfr x hx
   rcases hd0 x.toNat (by omega) with k | k
   ·exact k.1
   ·exact absurd (by rw [Int.toNat_of_nonneg this.1]; exact hx) k.2
  refine ⟨fun x hx => ⟨(hfr x hx).1, (hfr x hx).2, by rw [fm x hx]; decide⟩, fun v hv => ?_, fun v hv => ?_, fun v hv hn hp => by rw [(nf v hv hn).1] at hp; omega, ?_, fun x r e v hv hn => by rw [(nf v hv hn).1, fm x (by rw [e]; simp)]; decide, fun v hv hn => .inl (nf v hv hn).2⟩
  ·rcases hd0 v hv with k | k
   ·right
    rw [k.1]
    have : Fc d0 < (List.range 24).countP fun _ => true := countP_lt (fun _ _ _ => rfl) ⟨v, List.mem_range.2 hv, rfl, by simp [k.1, show ¬ (0 : Int) = FAR by decide]⟩
    simp at this; omega
   ·exact .inl k.1
  ·rcases hd0 v hv with k | k
   ·simp [k.1, k.2]
   ·simp [k.1, k.2, show ¬ FAR = (0 : Int) by decide]
  ·exact List.Pairwise.imp_of_mem (R := fun _ _ => True) (fun {x y} hx hy _ => by rw [fm x hx, fm y hy]; exact Int.le_refl _) (List.pairwise_of_forall fun _ _ => trivial)
 have c0 := Fc_le d0
 obtain ⟨r, h1, d, rfl, h2⟩ := loop_of (f := F4) (I := fun s => ∃ d q, s = (vec d, q) ∧ BQ nx (fun v => (v : Int) ∈ fr) d q ∧ q.length + Fc d ≤ 200000) (Q := fun r => ∃ d, r = Ex.a (vec d) ∧ BQ nx (fun v => (v : Int) ∈ fr) d [])
  (m := fun s => s.2.length + Fc fun v => gI s.1 v) (fun s ⟨d, q, hs, hb, hc⟩ => by
   subst hs
   have hFg : ∀ d : Nat → Int, Fc (fun v => gI (vec d) v) = Fc d := fun d => by
    unfold Fc
    exact List.countP_congr fun v hv => by show decide (gI (vec d) v = FAR) = true ↔ _; rw [gI_vec (List.mem_range.1 hv)]
   cases q with
   | nil =>
    right
    refine ⟨Ex.a (vec d), ?_, d, rfl, hb⟩
    rw [h4, L_eq, show decide ((([] : List Int).length : Int) > 0) = false by decide, br_f]
   | cons h t =>
    left
    obtain ⟨q1, q2, q3⟩ := hb.rng h (.head _)
    have hh : h.toNat < 24 := by omega
    obtain ⟨y, y1, y2, y3⟩ := hnb h.toNat hh
    rw [Int.toNat_of_nonneg q1] at y1
    obtain ⟨d', t', n1, n2, n3⟩ := nbrs_run hb y3 (fun u => hlt _ u) (by omega) (by omega)
    refine ⟨(vec d', t'), ?_, ⟨d', t', rfl, n2, ?_⟩, ?_⟩
    ·rw [h4, L_eq, show decide ((((h :: t) : List Int).length : Int) > 0) = true from decide_eq_true (by rw [List.length_cons]; omega), br_t, chk_t ⟨by decide, by rw [List.length_cons]; omega⟩, bd_s, show at0 (0 : Int) = 0 from rfl, show (h :: t)[0]? = some h from rfl, bd_s, y1, bd_s, n1, bd_s, ex_a, if_pos ⟨by decide, by rw [List.length_cons]; omega⟩, bd_s]; rfl
    ·simp only [List.length_cons] at n3 hc; omega
    ·show t'.length + Fc (fun v => gI (vec d') v) < (h :: t).length + Fc (fun v => gI (vec d) v)
     rw [hFg, hFg]
     simp only [List.length_cons] at n3 ⊢; omega) fuel (vec d0, fr) ⟨d0, fr, rfl, b0, by omega⟩ (by
   have := fuel_pos
   have := Fc_le fun v => gI (vec d0) v
   show fr.length + Fc (fun v => gI (vec d0) v) < fuel
   omega)
 exact ⟨d, by rw [e1, bd_s, ex_a, clone_run (by omega), bd_s, e2, bd_s, ex_a, h1, bd_s, ex_a], h2.dist⟩
end Str
end Go.Fx.Gen
