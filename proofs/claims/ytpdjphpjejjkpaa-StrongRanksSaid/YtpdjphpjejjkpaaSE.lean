/- The finder, and the search in breadth. -/
import Derived.Test.YtpdjphpjejjkpaaSD
namespace Go.Fx.Gen
open Go.Proofs
set_option linter.unusedVariables false
namespace Str
open Go.Fx.Str
variable {g : Graph}
theorem _root_.Go.Fx.Str.RkOk.le23 {A : Arcs} {V : Nat → Prop} {root : Nat → Nat} (hs : Scc A V root) {k : Nat → Int} (h : RkOk A V root k) {v : Nat} (hv : v < 24) : 0 ≤ k v ∧ k v ≤ 23 := by
 refine ⟨h.pos v, ?_⟩
 by_cases hp : 0 < k v
 ·obtain ⟨a, b, c1, c2, _⟩ := h.sup v hv hp
  have vb := (hs.arc a b c1.1).2
  have := h.bd b vb
  have := NN_lt (A := A) (hs.lt b vb)
  rw [h.cls v b hv (hs.lt b vb) c2.symm]; omega
 ·omega
def Ins (g : Graph) (root : Nat → Nat) (a b : Nat) : Prop := (a, b) ∈ arcG g ∧ root a = root b
structure Fnd (g : Graph) (root : Nat → Nat) (rank : Nat → Int) (af ah : List (List Int)) : Prop where
 scc : Scc (arcG g) (isV g) root
 rk : Rank (arcG g) (isV g) root rank
 l1 : af.length = 24
 l2 : ah.length = 24
 on : ∀ a, a < 24 → ∃ l, af[a]? = some l ∧ l.length ≤ 2000 ∧ ∀ x, x ∈ l ↔ ∃ b : Nat, x = (b : Int) ∧ Ins g root a b
 back : ∀ b, b < 24 → ∃ l, ah[b]? = some l ∧ l.length ≤ 2000 ∧ ∀ x, x ∈ l ↔ ∃ a : Nat, x = (a : Int) ∧ Ins g root a b
theorem begin_run (h : Sm g) (hel : g.Edges.length ≤ 1000) : ∃ root rank af ah, Fnd g root rank af ah ∧ (f22v1 g).run = some (vec (fun v => (root v : Int)), vec rank, af, ah) := by
 obtain ⟨R, hR, eR⟩ := reaches_run h
 have hs := scc_of h hR
 have hroot := root_run h hR
 generalize rootOf R = root at hs hroot
 obtain ⟨M, hM, eM⟩ := inner_run h hel (root := root) (k := vec fun _ => 0) g.Vertices g.Edges g.Depots
 have hal := arcsE_len g.Edges
 have k0 : RkOk (arcG g) (isV g) root fun _ => 0 := ⟨fun _ => Int.le_refl 0, fun _ _ _ _ _ => rfl, fun v _ => Int.natCast_nonneg _, fun v _ hp => absurd hp (by decide)⟩
 obtain ⟨k1, e1, st1, z1⟩ := ranks_run h hs (k := fun _ => 0) (fun _ _ => by omega) g.Vertices g.Depots (M.take 24) (M.drop 24)
 obtain ⟨r, e2, k, rfl, hk⟩ := loop_of (f := fun s : List Int × List Int × List Int => (f22v1.l3 g (vec fun v => (root v : Int)) (M.take 24) (M.drop 24) s.1 s.2.1 s.2.2).run)
  (I := fun s => ∃ k k', s = (vec k, vec k', vec k) ∧ RkOk (arcG g) (isV g) root k ∧ RkOk (arcG g) (isV g) root k' ∧ RStep (arcG g) root k k') (Q := fun r => ∃ k, r = Ex.a (vec k) ∧ Rank (arcG g) (isV g) root k)
  (m := fun s => 24 * 24 - (s.1.map Int.toNat).sum) (fun s ⟨k, k', hs', hk, hk', hst⟩ => by
   subst hs'
   by_cases e : vec k = vec k'
   ·right
    refine ⟨Ex.a (vec k), ?_, k, rfl, Rank.of hs hk ⟨fun v hv => Int.le_refl _, fun a b v c hv hr => by rw [vec_inj e hv]; exact hst.arc a b v c hv hr, fun v hv => .inl rfl⟩⟩
    show (f22v1.l3 g _ _ _ (vec k) (vec k') (vec k)).run = _
    unfold f22v1.l3
    rw [r_eqW, r_brr, int_eqL, decide_eq_true e, Bool.not_true, br_f]; rfl
   ·left
    obtain ⟨k'', e3, st2, z2⟩ := ranks_run h hs (k := k') (fun v hv => by have := hk'.le23 hs hv; omega) g.Vertices g.Depots (M.take 24) (M.drop 24)
    refine ⟨(vec k', vec k'', vec k'), ?_, ⟨k', k'', rfl, hk', hk'.next hs st2 z2, st2⟩, ?_⟩
    ·show (f22v1.l3 g _ _ _ (vec k) (vec k') (vec k)).run = _
     unfold f22v1.l3
     rw [r_eqW, r_brr, int_eqL, decide_eq_false e, Bool.not_false, br_t, r_clK, e3, bd_s]; rfl
    ·have gg : ∀ (f : Nat → Int) (i : Nat), gD ((vec f).map Int.toNat) i = if i < 24 then (f i).toNat else 0 := fun f i => by
      unfold gD
      rw [List.getD_eq_getElem?_getD, List.getElem?_map]
      by_cases hi : i < 24
      ·rw [vec_get hi, if_pos hi]; rfl
      ·rw [List.getElem?_eq_none (by rw [vec_len]; omega), if_neg hi]; rfl
     have le : LeL ((vec k).map Int.toNat) ((vec k').map Int.toNat) := by
      refine ⟨by simp, fun i => ?_⟩
      rw [gg, gg]
      split
      ·rename_i hi; have := hst.le i hi; omega
      ·exact Nat.le_refl _
     have s1 := (le.sum (fun e' => e (vec_congr fun v hv => by
      have h1 := gg k v
      rw [e', gg, if_pos hv, if_pos hv] at h1
      have := hk.pos v
      have := hk'.pos v
      omega))).1
     have s2 := sum_le (R := (vec k').map Int.toNat) (B := 24) fun i => by
      rw [gg]
      split
      ·rename_i hi; have := hk'.le23 hs hi; omega
      ·omega
     rw [List.length_map, vec_len] at s2
     show 24 * 24 - ((vec k').map Int.toNat).sum < 24 * 24 - ((vec k).map Int.toNat).sum
     omega) fuel (vec (fun _ => 0), vec k1, vec fun _ => 0) ⟨_, k1, rfl, k0, k0.next hs st1 z1, st1⟩ (by have := fuel_pos; show 24 * 24 - _ < _; omega)
 have hb : ∀ p ∈ arcsE g.Edges, (0 ≤ p.2.1 ∧ p.2.1 ≤ 23) ∧ (0 ≤ p.2.2 ∧ p.2.2 ≤ 23) := fun p hp => ⟨(h.arcE hp).1, (h.arcE hp).2.1⟩
 refine ⟨root, k, M.take 24, M.drop 24, ⟨hs, hk, by simp [hM.len], by simp [hM.len], fun a ha => ⟨M.getD a [], ?_, ?_, fun x => ?_⟩, fun b hb' => ⟨M.getD (24 + b) [], ?_, ?_, fun x => ?_⟩⟩, ?_⟩
 ·rw [List.getElem?_take, if_pos ha]; exact gL_get (by rw [hM.len]; omega)
 ·have := hM.le a; omega
 ·rw [hM.on a x ha]
  constructor
  ·rintro ⟨p, hp, hr, rfl, rfl⟩
   exact ⟨p.2.2.toNat, by have := (hb p hp).2; omega, arcN_mem.2 ⟨p, hp, rfl, rfl⟩, hr⟩
  ·rintro ⟨b, rfl, hab, hr⟩
   obtain ⟨p, hp, rfl, rfl⟩ := arcN_mem.1 hab
   exact ⟨p, hp, hr, rfl, by have := (hb p hp).2; omega⟩
 ·rw [List.getElem?_drop]; exact gL_get (by rw [hM.len]; omega)
 ·have := hM.le (24 + b); omega
 ·rw [hM.back b x hb']
  constructor
  ·rintro ⟨p, hp, hr, rfl, rfl⟩
   exact ⟨p.2.1.toNat, by have := (hb p hp).1; omega, arcN_mem.2 ⟨p, hp, rfl, rfl⟩, hr⟩
  ·rintro ⟨a, rfl, hab, hr⟩
   obtain ⟨p, hp, rfl, rfl⟩ := arcN_mem.1 hab
   exact ⟨p, hp, hr, rfl, by have := (hb p hp).1; omega⟩
 ·unfold f22v1
  have e2 : loopN fuel (fun s : List Int × List Int × List Int => (f22v1.l3 g (vec fun v => (root v : Int)) (M.take 24) (M.drop 24) s.1 s.2.1 s.2.2).run) (List.replicate 24 (0 : Int), vec k1, List.replicate 24 (0 : Int)) = some (Ex.a (vec k)) := e2
  have eM : (f61v8 g.Edges g.Vertices g.Edges g.Depots (vec fun v => (root v : Int)) (List.replicate 24 (0 : Int)) (List.replicate 48 [])).run = some M := eM
  have e1 : (f60v1 g.Vertices g.Edges g.Depots (vec fun v => (root v : Int)) (List.replicate 24 (0 : Int)) (M.take 24) (M.drop 24)).run = some (vec k1) := e1
  rw [r_bxN, r_cl, eR, bd_s, r_loop1, hroot, bd_s, ex_a, r_cl, show (f27 g.Edges).run = some () from rfl, bd_s, r_born2, r_rf0, eM, bd_s, r_frz2 (by rw [hM.len]), r_clK, e1, bd_s, r_loop1, e2, bd_s, ex_a, r_ret]
end Str
end Go.Fx.Gen
