/- The law StrongComponents. -/
import Derived.Test.YtpdjphpjejjkpaaSL
import Derived.Test.YtpdjphpjejjkpaaSS
namespace Go.Fx.Gen
open Go.Proofs
set_option linter.unusedVariables false
namespace Str
open Go.Fx.Str Classical
variable {g : Graph}
theorem getR_t {P : Program} {α β : Type} [Cel α] {l : List α} {i : Int} {x : α} {k : α → Prg P β} (h0 : 0 ≤ i) (h : l[i.toNat]? = some x) : (getR l i k).run = (k x).run := by
 have := getR_s (P := P) (i := i.toNat) h (k := k)
 rwa [Int.toNat_of_nonneg h0] at this
theorem is_run (hl : g.Vertices.length < 1000000000) {x : Int} (hx : ∃ v ∈ g.Vertices, v.ID = x) : (f29v1 x g).run = some true := by
 obtain ⟨r, h1, n, rfl⟩ := loop_ix (A := Unit) (f := fun s : Int => (f62v3.l1 g.Vertices x s).run) (n := g.Vertices.length) (fun i _ => (i : Int)) (fun i _ => ∀ j v, j < i → g.Vertices[j]? = some v → v.ID ≠ x)
  (fun r => ∃ n : Nat, r = Ex.a (n : Int)) (fun i _ hi hI => by
   have hv : g.Vertices[i]? = some g.Vertices[i] := by simp [hi]
   have hw : IntKind.i64.wrap ((i : Int) + 1) = ((i + 1 : Nat) : Int) := succ_wr hi (by omega)
   have e : (f62v3.l1 g.Vertices x (i : Int)).run = br (g.Vertices[i].ID == x) (some (.done (.a (i : Int)))) (some (.cont ((i + 1 : Nat) : Int))) := by
    unfold f62v3.l1
    rw [r_brr, L_eq, cast_lt_t hi, br_t, getR_s hv, r_cl, show (f31v1 g.Vertices[i] x).run = some () from rfl, bd_s, r_brr, hw]; rfl
   by_cases c : g.Vertices[i].ID = x
   ·exact .inr ⟨Ex.a (i : Int), by show (f62v3.l1 g.Vertices x (i : Int)).run = _; rw [e, beq_iff_eq.2 c, br_t], i, rfl⟩
   ·refine .inl ⟨(), by show (f62v3.l1 g.Vertices x (i : Int)).run = _; rw [e, beq_eq_false_iff_ne.2 c, br_f], fun j v hj hjv => ?_⟩
    by_cases hji : j = i
    ·subst hji; rw [hv] at hjv; cases hjv; exact c
    ·exact hI j v (by omega) hjv)
  (fun _ hI => by
   obtain ⟨v, hv, rfl⟩ := hx
   obtain ⟨j, hj, e⟩ := List.getElem_of_mem hv
   exact absurd rfl (hI j v hj (by rw [← e]; simp [hj]))) (k := fuel) (a := ()) (by have := fuel_pos; omega) (fun j v hj => by omega)
 have h1 : loopN fuel (fun s : Int => (f62v3.l1 g.Vertices x s).run) (0 : Int) = some (Ex.a (n : Int)) := h1
 have e1 : (f62v3 g.Vertices x).run = some (n : Int) := by
  unfold f62v3
  rw [r_loop2, h1, bd_s, ex_a, r_ret]
 have e2 : (f30v2 g.Vertices x).run = some true := by
  unfold f30v2
  rw [r_cl, e1, bd_s, r_ret, decide_eq_true (by omega)]
 unfold f29v1
 rw [r_cl, e2, bd_s, r_ret]
theorem reachesV_run (hs : Trd.Small g) (hv : Trd.GV g) {a b : Vertex} (ha : a ∈ g.Vertices) (hb : b ∈ g.Vertices) : (f10v1 g a.ID b.ID).run = some (decide (Rch (arcG g) a.ID.toNat b.ID.toNat), 0) := by
 have h := gv_sm hv
 obtain ⟨R, hR, eR⟩ := reaches_run h
 have hh : (f33v3 (enc32 R) a.ID b.ID).run = some ((gD R a.ID.toNat).testBit b.ID.toNat) := has_run hR.toBts (h.v a ha) (h.v b hb)
 have hbit : (gD R a.ID.toNat).testBit b.ID.toNat = decide (Rch (arcG g) a.ID.toNat b.ID.toNat) := by
  have := hR.iff a.ID.toNat b.ID.toNat
  by_cases k : Rch (arcG g) a.ID.toNat b.ID.toNat
  ·rw [decide_eq_true k, this.2 ⟨⟨a, ha, rfl⟩, ⟨b, hb, rfl⟩, k⟩]
  ·rw [decide_eq_false k]
   cases e : (gD R a.ID.toNat).testBit b.ID.toNat with
   | false => rfl
   | true => exact absurd (this.1 e).2.2 k
 unfold f10v1
 rw [r_join1, r_cl, gv_val hs hv, bd_s, r_brr, Bool.not_true, br_f, r_cl, is_run h.vl ⟨a, ha, rfl⟩, bd_s, r_brr, Bool.not_true, br_f, r_cl, is_run h.vl ⟨b, hb, rfl⟩, bd_s, r_retA, bd_s, ex_a, r_brr, Bool.not_true, br_f, r_cl, eR, bd_s, r_cl, hh, bd_s, r_ret, hbit]
noncomputable abbrev wl (g : Graph) (v : Vertex) : List Bool := bv fun x => decide (Rch (arcG g) v.ID.toNat x)
theorem walkV_run (h : Sm g) {v : Vertex} (hv : v ∈ g.Vertices) : (f9 g v.ID).run = some (wl g v) := by
 obtain ⟨f, h1, h2⟩ := walk_run h (h.v v hv)
 rw [h1]
 refine congrArg some (List.map_congr_left fun x hx => ?_)
 have := h2 x (List.mem_range.1 hx)
 by_cases k : Rch (arcG g) v.ID.toNat x
 ·rw [this.2 k]; exact (decide_eq_true k).symm
 ·cases e : f x with
  | false => exact (decide_eq_false k).symm
  | true => exact absurd (this.1 e) k
variable {root : Nat → Nat} {rank out inn wit : Nat → Int}
theorem labs_get {i : Nat} {v : Vertex} (h : g.Vertices[i]? = some v) : (labs g root rank out inn wit)[i]? = some (Named.mk v.ID (row g root rank out inn wit v.ID.toNat)) := by simp [labs, h]
theorem lab0 {P : Program} {β : Type} {a : Int} {n : Nat} {k : Int → Prg P β} : (getR (Named.mk a (row g root rank out inn wit n)).Label (0 : Int) k).run = (k (root n : Int)).run := getR_t (by decide) rfl
theorem lab5 {P : Program} {β : Type} {a : Int} {n : Nat} {k : Int → Prg P β} : (getR (Named.mk a (row g root rank out inn wit n)).Label (5 : Int) k).run = (k (rank n)).run := getR_t (by decide) rfl
theorem labs_len : (labs g root rank out inn wit).length = g.Vertices.length := by simp [labs]
theorem comp_law {p1 : Int} {p2 : List A5_Int} {p3 : Bool} (h1 : inI64 p1) (h5 : ∀ a ∈ p2, Frs.A5ok a) : (f3 p1 p2 p3).run = some true := by
 obtain ⟨g, hg, hs, hv, _, _⟩ := Frs.made_run (p3 := p3) h1 h5
 obtain ⟨root, rank, out, inn, wit, lab, hl⟩ := labelsV_run hs hv
 have h := gv_sm hv
 have hvl := gv_vlen hv
 have S := lab.scc
 have dec : ∀ i, i < g.Vertices.length → ∃ v, g.Vertices[i]? = some v ∧ v ∈ g.Vertices := fun i hi => ⟨g.Vertices[i], by simp [hi], List.getElem_mem hi⟩
 have e1 : loopN fuel (fun s : Int × List (List Bool) => (f3.l1 true g (labs g root rank out inn wit, 0) s.1 s.2).run) ((0 : Int), ([] : List (List Bool))) = some (Ex.b (g.Vertices.map (wl g))) := by
  obtain ⟨r, k1, rfl⟩ := loop_ix (f := fun s : Int × List (List Bool) => (f3.l1 true g (labs g root rank out inn wit, 0) s.1 s.2).run) (n := g.Vertices.length) (fun i a => ((i : Int), a)) (fun i a => a = (g.Vertices.take i).map (wl g)) (fun r => r = Ex.b (g.Vertices.map (wl g)))
   (fun i a hi ha => by
    subst ha
    have hx : g.Vertices[i]? = some g.Vertices[i] := by simp [hi]
    have hm : g.Vertices[i] ∈ g.Vertices := List.getElem_mem hi
    have ht : (g.Vertices.take (i + 1)).map (wl g) = (g.Vertices.take i).map (wl g) ++ [wl g g.Vertices[i]] := by
     rw [List.take_succ_eq_append_getElem hi, List.map_append]; rfl
    rw [ht]
    generalize g.Vertices[i] = v at *
    have hw : IntKind.i64.wrap ((i : Int) + 1) = ((i + 1 : Nat) : Int) := succ_wr hi (by omega)
    left
    refine ⟨_, ?_, rfl⟩
    show (f3.l1 true g (labs g root rank out inn wit, 0) (i : Int) _).run = _
    unfold f3.l1
    dsimp only
    rw [r_brr, L_eq, cast_lt_t hi, br_t, r_join1, getR_s (labs_get hx), getR_s hx, r_brr, bne_self_eq_false, br_f, getR_s (labs_get hx), r_retA, bd_s, ex_a, r_brr, L_eq,
     show (((row g root rank out inn wit v.ID.toNat).length : Int) != 7) = false from rfl, br_f, getR_s hx, r_cl, walkV_run h hm, bd_s, ap_s (by simp only [List.length_append, List.length_singleton, List.length_map, List.length_take]; unfold bigLen; omega), hw, r_cont])
   (fun a ha => by
    subst ha
    refine ⟨_, ?_, rfl⟩
    show (f3.l1 true g (labs g root rank out inn wit, 0) (g.Vertices.length : Int) _).run = _
    unfold f3.l1
    rw [r_brr, L_eq, cast_lt_f (by omega), br_f, List.take_length]; rfl) (k := fuel) (a := []) (by have := fuel_pos; omega) (by simp)
  exact k1
 have wget : ∀ {i : Nat} {v : Vertex}, g.Vertices[i]? = some v → (g.Vertices.map (wl g))[i]? = some (wl g v) := fun h => by simp [h]
 have e2 : ∀ (i : Nat) (v : Vertex), g.Vertices[i]? = some v → loopN fuel (fun s : Int × Int => (f3.l2 true g (labs g root rank out inn wit, 0) (g.Vertices.map (wl g)) (i : Int) s.1 s.2).run) (v.ID, (0 : Int)) = some (Ex.b (root v.ID.toNat : Int)) := by
  intro i v hiv
  have hi := (List.getElem?_eq_some_iff.1 hiv).1
  have hvm : v ∈ g.Vertices := List.mem_of_getElem? hiv
  have hvr := h.v v hvm
  have hvV : isV g v.ID.toNat := ⟨v, hvm, rfl⟩
  obtain ⟨r, k1, rfl⟩ := loop_ix (f := fun s : Int × Int => (f3.l2 true g (labs g root rank out inn wit, 0) (g.Vertices.map (wl g)) (i : Int) s.1 s.2).run) (n := g.Vertices.length) (fun k a => (a, (k : Int)))
   (fun k a => (∃ u ∈ g.Vertices, a = u.ID ∧ Rch (arcG g) v.ID.toNat u.ID.toNat ∧ Rch (arcG g) u.ID.toNat v.ID.toNat) ∧ ∀ (j : Nat) (u : Vertex), j < k → g.Vertices[j]? = some u → Rch (arcG g) v.ID.toNat u.ID.toNat → Rch (arcG g) u.ID.toNat v.ID.toNat → a ≤ u.ID)
   (fun r => r = Ex.b (root v.ID.toNat : Int))
   (fun k a hk ⟨⟨u0, u1, u2, u3, u4⟩, hmin⟩ => by
    have hx : g.Vertices[k]? = some g.Vertices[k] := by simp [hk]
    have hm : g.Vertices[k] ∈ g.Vertices := List.getElem_mem hk
    generalize g.Vertices[k] = u at *
    have hur := h.v u hm
    have huV : isV g u.ID.toNat := ⟨u, hm, rfl⟩
    have hw : IntKind.i64.wrap ((k : Int) + 1) = ((k + 1 : Nat) : Int) := succ_wr hk (by omega)
    have ci : (0 : Int) ≤ (i : Int) ∧ (i : Int) < ((L (g.Vertices.map (wl g)) : Nat) : Int) := by rw [L_eq, List.length_map]; omega
    have ck' : (0 : Int) ≤ (k : Int) ∧ (k : Int) < ((L (g.Vertices.map (wl g)) : Nat) : Int) := by rw [L_eq, List.length_map]; omega
    have g1 := bv_get (f := fun x => decide (Rch (arcG g) v.ID.toNat x)) (i := u.ID.toNat) (by omega)
    have g2 := bv_get (f := fun x => decide (Rch (arcG g) u.ID.toNat x)) (i := v.ID.toNat) (by omega)
    have hroot := S.eq_iff hvV huV
    left
    show ∃ a', (f3.l2 true g (labs g root rank out inn wit, 0) (g.Vertices.map (wl g)) (i : Int) a (k : Int)).run = _ ∧ _
    unfold f3.l2
    dsimp only
    rw [r_brr, L_eq, labs_len, cast_lt_t hk, br_t, ck_t ci, at0_nat, rd_s (wget hiv), getR_s (labs_get hx), getR_t hur.1 g1, ck_t ck', at0_nat, rd_s (wget hx), getR_s (labs_get hiv), getR_t hvr.1 g2, getR_s (labs_get hiv), getR_s (labs_get hx), r_cl, reachesV_run hs hv hvm hm, bd_s, r_join1, r_brr,
     bne_self_eq_false, Bool.false_or, beq_self_eq_true, Bool.not_true, br_f, getR_s (labs_get hiv), lab0, getR_s (labs_get hx), lab0, r_retA, bd_s, ex_a]
    have hand : (decide (Rch (arcG g) v.ID.toNat u.ID.toNat) && decide (Rch (arcG g) u.ID.toNat v.ID.toNat)) = decide (Rch (arcG g) v.ID.toNat u.ID.toNat ∧ Rch (arcG g) u.ID.toNat v.ID.toNat) := by simp
    have heq : (((root v.ID.toNat : Nat) : Int) == ((root u.ID.toNat : Nat) : Int)) = decide (Rch (arcG g) v.ID.toNat u.ID.toNat ∧ Rch (arcG g) u.ID.toNat v.ID.toNat) := by
     by_cases c : Rch (arcG g) v.ID.toNat u.ID.toNat ∧ Rch (arcG g) u.ID.toNat v.ID.toNat
     ·rw [decide_eq_true c, hroot.2 c, beq_self_eq_true]
     ·rw [decide_eq_false c]
      exact beq_eq_false_iff_ne.2 fun e => c (hroot.1 (by omega))
    rw [hand, heq, beq_self_eq_true, Bool.not_true, r_brr, br_f, r_brr]
    by_cases c : Rch (arcG g) v.ID.toNat u.ID.toNat ∧ Rch (arcG g) u.ID.toNat v.ID.toNat
    ·rw [decide_eq_true c, br_t, getR_s (labs_get hx), hw, r_cont]
     refine ⟨_, rfl, ?_, fun j w hj hjw r1 r2 => ?_⟩
     ·by_cases hlt : u.ID < a
      ·exact ⟨u, hm, if_pos hlt, c.1, c.2⟩
      ·exact ⟨u0, u1, by rw [if_neg hlt]; exact u2, u3, u4⟩
     ·show (if u.ID < a then u.ID else a) ≤ w.ID
      by_cases hjk : j = k
      ·subst hjk; rw [hx] at hjw; cases hjw
       split <;> omega
      ·have := hmin j w (by omega) hjw r1 r2
       split <;> omega
    ·rw [decide_eq_false c, br_f, hw, r_cont]
     refine ⟨_, rfl, ⟨u0, u1, u2, u3, u4⟩, fun j w hj hjw r1 r2 => ?_⟩
     by_cases hjk : j = k
     ·subst hjk; rw [hx] at hjw; cases hjw; exact absurd ⟨r1, r2⟩ c
     ·exact hmin j w (by omega) hjw r1 r2)
   (fun a ⟨⟨u0, u1, u2, u3, u4⟩, hmin⟩ => by
    refine ⟨Ex.b a, ?_, ?_⟩
    ·show (f3.l2 true g (labs g root rank out inn wit, 0) (g.Vertices.map (wl g)) (i : Int) a (g.Vertices.length : Int)).run = _
     unfold f3.l2
     dsimp only
     rw [r_brr, L_eq, labs_len, cast_lt_f (by omega), br_f]; rfl
    ·obtain ⟨m1, m2, m3⟩ := S.mem _ hvV
     obtain ⟨w, w1, w2⟩ := m1
     obtain ⟨j, hj, e⟩ := List.getElem_of_mem w1
     have c1 := hmin j w hj (by rw [← e]; simp [hj]) (by rw [w2]; exact m2) (by rw [w2]; exact m3)
     have c2 := S.least v.ID.toNat u0.ID.toNat hvV ⟨u0, u1, rfl⟩ u3 u4
     have := h.v w w1
     have := h.v u0 u1
     exact congrArg Ex.b (by omega)) (k := fuel) (a := v.ID) (by have := fuel_pos; omega) ⟨⟨v, hvm, rfl, .refl _, .refl _⟩, fun j u hj => by omega⟩
  exact k1
 have e3 : loopN fuel (fun s : Int => (f3.l3 true g (labs g root rank out inn wit, 0) (g.Vertices.map (wl g)) s).run) (0 : Int) = some (Ex.b ()) := by
  obtain ⟨r, k1, rfl⟩ := loop_ix (A := Unit) (f := fun s : Int => (f3.l3 true g (labs g root rank out inn wit, 0) (g.Vertices.map (wl g)) s).run) (n := g.Vertices.length) (fun i _ => (i : Int)) (fun _ _ => True) (fun r => r = Ex.b ())
   (fun i _ hi _ => by
    have hx : g.Vertices[i]? = some g.Vertices[i] := by simp [hi]
    have hw : IntKind.i64.wrap ((i : Int) + 1) = ((i + 1 : Nat) : Int) := succ_wr hi (by omega)
    left
    refine ⟨(), ?_, trivial⟩
    show (f3.l3 true g (labs g root rank out inn wit, 0) (g.Vertices.map (wl g)) (i : Int)).run = _
    unfold f3.l3
    dsimp only
    rw [r_brr, L_eq, labs_len, cast_lt_t hi, br_t, getR_s (labs_get hx), r_loop2, e2 i _ hx, bd_s, ex_b, getR_s (labs_get hx), lab0, r_brr, bne_self_eq_false, br_f, hw, r_cont])
   (fun _ _ => by
    refine ⟨_, ?_, rfl⟩
    show (f3.l3 true g (labs g root rank out inn wit, 0) (g.Vertices.map (wl g)) (g.Vertices.length : Int)).run = _
    unfold f3.l3
    dsimp only
    rw [r_brr, L_eq, labs_len, cast_lt_f (by omega), br_f]; rfl) (k := fuel) (a := ()) (by have := fuel_pos; omega) trivial
  exact k1
 unfold f3
 rw [r_cl, sane_run, bd_s, r_brr, Bool.not_true, br_f, r_cl, hg, bd_s, r_cl, hl, bd_s, r_join1, r_brr]
 dsimp only
 rw [bne_self_eq_false, br_f, r_retA, bd_s, ex_a, r_brr, L_eq, L_eq, labs_len, bne_self_eq_false, br_f, r_loop2, e1, bd_s, ex_b, r_loop2, e3, bd_s, ex_b, r_ret]
end Str
end Go.Fx.Gen
