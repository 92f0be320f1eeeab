/- The labels of a valid graph. -/
import Derived.Test.YtpdjphpjejjkpaaSF
namespace Go.Fx
section
variable {P : Program} {β : Type}
theorem r_cutLo1 {α : Type} [Cel α] {l : List α} {a : Int} {k : List α → Prg P β} : (cutLoO l a k).run = bd (if 0 ≤ a ∧ a ≤ (l.length : Int) then some (l.drop a.toNat) else none) fun y => (k y).run := rfl
theorem r_cont {S R : Type} {s : S} : (cont s : Prg P (Nx S R)).run = some (.cont s) := rfl
theorem r_doneA {S A B C : Type} {x : A} : (doneA x : Prg P (Nx S (Ex A B C))).run = some (.done (.a x)) := rfl
theorem r_retA {A B C : Type} {x : A} : (retA' x : Prg P (Ex A B C)).run = some (.a x) := rfl
end
namespace Gen
open Go.Proofs
set_option linter.unusedVariables false
namespace Str
open Go.Fx.Str
variable {g : Graph} {root : Nat → Nat} {rank : Nat → Int} {af ah : List (List Int)}
theorem searchOn_run (F : Fnd g root rank af ah) {fr : List Int} (hfr : ∀ x ∈ fr, 0 ≤ x ∧ x ≤ 23) (hl : fr.length ≤ 100000) (vs : List Vertex) (es : List Edge) (ds rt rk : List Int) :
  ∃ d, (f25v2 fr vs es ds rt rk af ah).run = some (vec d) ∧ Dist (Ins g root) (fun v => (v : Int) ∈ fr) FAR d := by
 obtain ⟨d, h1, h2⟩ := search_gen (nx := Ins g root) (F4 := fun s => (f25v2.l4 vs es ds rt rk af ah s.1 s.2).run) (nb := fun a => (f23v1 a vs es ds rt rk af ah).run)
  (fun s => by simp only [f25v2.l4, r_brr, r_ck, r_rd, r_cl, r_loop1, r_cutLo1, r_cont, r_doneA]; rfl) (fun v hv => by
   obtain ⟨l, l1, l2, l3⟩ := F.on v hv
   refine ⟨l, ?_, l2, l3⟩
   show (f23v1 (v : Int) vs es ds rt rk af ah).run = _
   unfold f23v1
   rw [ck_t (by omega), Int.toNat_natCast, rd_s l1, r_ret]) (fun v u h => F.scc.lt u (F.scc.arc v u h.1).2) hfr hl
 exact ⟨d, by rw [← h1]; simp only [f25v2, r_loop1, r_cl, r_ret]; rfl, h2⟩
theorem searchBack_run (F : Fnd g root rank af ah) {fr : List Int} (hfr : ∀ x ∈ fr, 0 ≤ x ∧ x ≤ 23) (hl : fr.length ≤ 100000) (vs : List Vertex) (es : List Edge) (ds rt rk : List Int) :
  ∃ d, (f25v3 fr vs es ds rt rk af ah).run = some (vec d) ∧ Dist (fun v u => Ins g root u v) (fun v => (v : Int) ∈ fr) FAR d := by
 obtain ⟨d, h1, h2⟩ := search_gen (nx := fun v u => Ins g root u v) (F4 := fun s => (f25v3.l4 vs es ds rt rk af ah s.1 s.2).run) (nb := fun a => (f24v1 a vs es ds rt rk af ah).run)
  (fun s => by
   simp only [f25v3.l4, r_brr, r_ck, r_rd, r_cl, r_loop1, r_cutLo1, r_cont, r_doneA]; rfl) (fun v hv => by
   obtain ⟨l, l1, l2, l3⟩ := F.back v hv
   refine ⟨l, ?_, l2, l3⟩
   show (f24v1 (v : Int) vs es ds rt rk af ah).run = _
   unfold f24v1
   rw [ck_t (by omega), Int.toNat_natCast, rd_s l1, r_ret]) (fun v u h => F.scc.lt u (F.scc.arc u v h.1).1) hfr hl
 exact ⟨d, by rw [← h1]; simp only [f25v3, r_loop1, r_cl, r_ret]; rfl, h2⟩
def Wit (g : Graph) (root : Nat → Nat) (rank : Nat → Int) (b : Nat) : Prop := (∃ a, Cross (arcG g) root a b ∧ rank a = rank b - 1) ∨ (isV g b ∧ rank b = 0)
theorem wit_run (h : Sm g) (hel : g.Edges.length ≤ 1000) (hvl : g.Vertices.length ≤ 1000) (F : Fnd g root rank af ah) (ds : List Int) :
  ∃ w, (f26v1 g.Vertices g.Edges ds (vec fun v => (root v : Int)) (vec rank) af ah).run = some w ∧ w.length ≤ 10000 ∧ ∀ x, x ∈ w ↔ ∃ b : Nat, x = (b : Int) ∧ Wit g root rank b := by
 have hal := arcsE_len g.Edges
 have hb := fun p (hp : p ∈ arcsE g.Edges) => h.arcE hp
 obtain ⟨w1, k1, k2, k3⟩ := arcs_ind (S := List Int) (F := fun s => (f61v10.l1 g.Edges g.Vertices g.Edges ds (vec fun v => (root v : Int)) (vec rank) af ah s.1 s.2).run)
  (stp := fun a e s => (r26_0v5 a e g.Vertices g.Edges ds (vec fun v => (root v : Int)) (vec rank) af ah s).run) (es := g.Edges) h.el (fun v s => rfl)
  (fun pre s => s.length ≤ pre.length ∧ ∀ x, x ∈ s ↔ ∃ p ∈ pre, root p.2.1.toNat ≠ root p.2.2.toNat ∧ rank p.2.1.toNat = rank p.2.2.toNat - 1 ∧ x = p.2.2) (fun pre p suf e s ⟨i1, i2⟩ => by
   have hp : p ∈ arcsE g.Edges := by rw [e]; simp
   obtain ⟨ha, hb, va, vb⟩ := h.arcE hp
   have h1 : p.2.1.toNat < 24 := by omega
   have h2 : p.2.2.toNat < 24 := by omega
   have c1 : (0 : Int) ≤ p.2.1 ∧ p.2.1 < ((24 : Nat) : Int) := by omega
   have c2 : (0 : Int) ≤ p.2.2 ∧ p.2.2 < ((24 : Nat) : Int) := by omega
   have hr := F.rk.le F.scc vb
   have hpl : pre.length ≤ 2000 := by
    have : (arcsE g.Edges).length = pre.length + (suf.length + 1) := by rw [e]; simp
    omega
   have hw : IntKind.i64.wrap (rank p.2.2.toNat - 1) = rank p.2.2.toNat - 1 := wr
   have keep : ¬ (root p.2.1.toNat ≠ root p.2.2.toNat ∧ rank p.2.1.toNat = rank p.2.2.toNat - 1) → s.length ≤ (pre ++ [p]).length ∧ ∀ x, x ∈ s ↔ ∃ q ∈ pre ++ [p], root q.2.1.toNat ≠ root q.2.2.toNat ∧ rank q.2.1.toNat = rank q.2.2.toNat - 1 ∧ x = q.2.2 := by
    intro hn
    refine ⟨by simp only [List.length_append, List.length_singleton]; omega, fun x => ?_⟩
    rw [i2]
    constructor
    ·rintro ⟨q, q1, q2⟩; exact ⟨q, List.mem_append.2 (.inl q1), q2⟩
    ·rintro ⟨q, q1, q2, q3, q4⟩
     rcases List.mem_append.1 q1 with q1 | q1
     ·exact ⟨q, q1, q2, q3, q4⟩
     ·simp only [List.mem_singleton] at q1; subst q1; exact absurd ⟨q2, q3⟩ hn
   by_cases er : root p.2.1.toNat = root p.2.2.toNat
   ·refine ⟨s, ?_, keep (fun k => k.1 er)⟩
    unfold r26_0v5
    dsimp only
    rw [r_mvW, ck_t c1, rd_s (vec_get h1), ck_t c2, rd_s (vec_get h2), r_brr, er, bne_self_eq_false, br_f, r_ret]
   ·by_cases ek : rank p.2.1.toNat = rank p.2.2.toNat - 1
    ·refine ⟨s ++ [p.2.2], ?_, by simp only [List.length_append, List.length_singleton]; omega, fun x => ?_⟩
     ·unfold r26_0v5
      dsimp only
      rw [r_mvW, ck_t c1, rd_s (vec_get h1), ck_t c2, rd_s (vec_get h2), r_brr, show (((root p.2.1.toNat : Nat) : Int) != ((root p.2.2.toNat : Nat) : Int)) = true from bne_iff_ne.2 fun h => er (by omega), br_t, ck_t c1, rd_s (vec_get h1), ck_t c2, rd_s (vec_get h2), r_brr, hw, ek, beq_self_eq_true, br_t,
       ap_s (by simp only [List.length_append, List.length_singleton]; unfold bigLen; omega), r_ret]
     ·rw [List.mem_append, i2, List.mem_singleton]
      constructor
      ·rintro (⟨q, q1, q2⟩ | q)
       ·exact ⟨q, List.mem_append.2 (.inl q1), q2⟩
       ·exact ⟨p, by simp, er, ek, q⟩
      ·rintro ⟨q, q1, q2, q3, q4⟩
       rcases List.mem_append.1 q1 with q1 | q1
       ·exact .inl ⟨q, q1, q2, q3, q4⟩
       ·simp only [List.mem_singleton] at q1; subst q1; exact .inr q4
    ·refine ⟨s, ?_, keep (fun k => ek k.2)⟩
     unfold r26_0v5
     dsimp only
     rw [r_mvW, ck_t c1, rd_s (vec_get h1), ck_t c2, rd_s (vec_get h2), r_brr, show (((root p.2.1.toNat : Nat) : Int) != ((root p.2.2.toNat : Nat) : Int)) = true from bne_iff_ne.2 fun h => er (by omega), br_t, ck_t c1, rd_s (vec_get h1), ck_t c2, rd_s (vec_get h2), r_brr, hw, beq_eq_false_iff_ne.2 ek, br_f, r_ret])
  (s := []) ⟨by simp, fun x => by simp⟩
 obtain ⟨r, k4, w, rfl, k5, k6⟩ := loop_ix (f := fun s : Int × List Int => (f26v1.l1 g.Vertices (vec rank) s.1 s.2).run) (n := g.Vertices.length) (fun i a => ((i : Int), a))
  (fun i a => a.length ≤ 2000 + i ∧ ∀ x, x ∈ a ↔ x ∈ w1 ∨ ∃ (j : Nat) (v : Vertex), j < i ∧ g.Vertices[j]? = some v ∧ rank v.ID.toNat = 0 ∧ x = v.ID)
  (fun r => ∃ w, r = Ex.a w ∧ w.length ≤ 10000 ∧ ∀ x, x ∈ w ↔ x ∈ w1 ∨ ∃ v ∈ g.Vertices, rank v.ID.toNat = 0 ∧ x = v.ID)
  (fun i a hi ⟨i1, i2⟩ => by
   have hx : g.Vertices[i]? = some g.Vertices[i] := by simp [hi]
   have hm : g.Vertices[i] ∈ g.Vertices := List.getElem_mem hi
   generalize hq : g.Vertices[i] = v at *
   have hv := h.v v hm
   have hw : IntKind.i64.wrap ((i : Int) + 1) = ((i + 1 : Nat) : Int) := succ_wr hi (by omega)
   left
   show ∃ a', (f26v1.l1 g.Vertices (vec rank) (i : Int) a).run = _ ∧ _
   unfold f26v1.l1
   rw [r_brr, L_eq, cast_lt_t hi, br_t, getR_s hx, ck_t (by omega), rd_s (vec_get (by omega)), r_brr]
   by_cases e : rank v.ID.toNat = 0
   ·rw [e, show ((0 : Int) == 0) = true from rfl, br_t, ap_s (by simp only [List.length_append, List.length_singleton]; unfold bigLen; omega), hw]
    refine ⟨_, rfl, by simp only [List.length_append, List.length_singleton]; omega, fun x => ?_⟩
    rw [List.mem_append, i2, List.mem_singleton]
    constructor
    ·rintro ((k | ⟨j, u, j1, j2, j3⟩) | k)
     ·exact .inl k
     ·exact .inr ⟨j, u, by omega, j2, j3⟩
     ·exact .inr ⟨i, v, by omega, hx, e, k⟩
    ·rintro (k | ⟨j, u, j1, j2, j3⟩)
     ·exact .inl (.inl k)
     ·by_cases hji : j = i
      ·subst hji; rw [hx] at j2; cases j2; exact .inr j3.2
      ·exact .inl (.inr ⟨j, u, by omega, j2, j3⟩)
   ·rw [show (rank v.ID.toNat == 0) = false from beq_eq_false_iff_ne.2 e, br_f, hw]
    refine ⟨_, rfl, by omega, fun x => ?_⟩
    rw [i2]
    constructor
    ·rintro (k | ⟨j, u, j1, j2, j3⟩)
     ·exact .inl k
     ·exact .inr ⟨j, u, by omega, j2, j3⟩
    ·rintro (k | ⟨j, u, j1, j2, j3⟩)
     ·exact .inl k
     ·by_cases hji : j = i
      ·subst hji; rw [hx] at j2; cases j2; exact absurd j3.1 e
      ·exact .inr ⟨j, u, by omega, j2, j3⟩)
  (fun a ⟨i1, i2⟩ => by
   refine ⟨Ex.a a, ?_, a, rfl, by omega, fun x => ?_⟩
   ·show (f26v1.l1 g.Vertices (vec rank) (g.Vertices.length : Int) a).run = _
    unfold f26v1.l1
    rw [r_brr, L_eq, cast_lt_f (by omega), br_f]; rfl
   ·rw [i2]
    constructor
    ·rintro (k | ⟨j, u, j1, j2, j3⟩)
     ·exact .inl k
     ·exact .inr ⟨u, List.mem_of_getElem? j2, j3⟩
    ·rintro (k | ⟨u, u1, u2⟩)
     ·exact .inl k
     ·obtain ⟨j, hj, e⟩ := List.getElem_of_mem u1
      exact .inr ⟨j, u, hj, by rw [← e]; simp [hj], u2⟩) (k := fuel) (a := w1) (by have := fuel_pos; omega) ⟨by omega, fun x => by simp⟩
 refine ⟨w, ?_, k5, fun x => ?_⟩
 ·unfold f26v1
  rw [r_cl, show (f27 g.Edges).run = some () from rfl, bd_s, r_rf0]
  unfold f61v10
  have k4 : loopN fuel (fun s : Int × List Int => (f26v1.l1 g.Vertices (vec rank) s.1 s.2).run) ((0 : Int), w1) = some (Ex.a w) := k4
  rw [r_loop1, k1, bd_s, ex_a, r_ret, bd_s, r_loop1, k4, bd_s, ex_a, r_ret]
 ·rw [k6, k3]
  constructor
  ·rintro (⟨p, p1, p2, p3, rfl⟩ | ⟨v, v1, v2, rfl⟩)
   ·exact ⟨p.2.2.toNat, by have := (hb p p1).2.1; omega, .inl ⟨p.2.1.toNat, ⟨arcN_mem.2 ⟨p, p1, rfl, rfl⟩, p2⟩, p3⟩⟩
   ·exact ⟨v.ID.toNat, by have := h.v v v1; omega, .inr ⟨⟨v, v1, rfl⟩, v2⟩⟩
  ·rintro ⟨b, rfl, ⟨a, ⟨hab, hr⟩, hk⟩ | ⟨⟨v, v1, rfl⟩, v2⟩⟩
   ·obtain ⟨p, p1, rfl, rfl⟩ := arcN_mem.1 hab
    exact .inl ⟨p, p1, hr, hk, by have := (hb p p1).2.1; omega⟩
   ·exact .inr ⟨v, v1, v2, by have := h.v v v1; omega⟩
theorem roots_run (h : Sm g) (hvl : g.Vertices.length ≤ 1000) (y : (List Int) × (List Int) × (List (List Int)) × (List (List Int))) (hy : y.1 = vec fun v => (root v : Int)) :
  ∃ rl, loopN fuel (fun s : Int × List Int => (f8v2.l1 g y s.1 s.2).run) ((0 : Int), ([] : List Int)) = some (.a rl) ∧ rl.length ≤ 1000 ∧ ∀ x, x ∈ rl ↔ ∃ b : Nat, x = (b : Int) ∧ isV g b ∧ root b = b := by
 obtain ⟨r, k4, w, rfl, k5, k6⟩ := loop_ix (f := fun s : Int × List Int => (f8v2.l1 g y s.1 s.2).run) (n := g.Vertices.length) (fun i a => ((i : Int), a))
  (fun i a => a.length ≤ i ∧ ∀ x, x ∈ a ↔ ∃ (j : Nat) (v : Vertex), j < i ∧ g.Vertices[j]? = some v ∧ root v.ID.toNat = v.ID.toNat ∧ x = v.ID)
  (fun r => ∃ w, r = Ex.a w ∧ w.length ≤ 1000 ∧ ∀ x, x ∈ w ↔ ∃ v ∈ g.Vertices, root v.ID.toNat = v.ID.toNat ∧ x = v.ID)
  (fun i a hi ⟨i1, i2⟩ => by
   have hx : g.Vertices[i]? = some g.Vertices[i] := by simp [hi]
   have hm : g.Vertices[i] ∈ g.Vertices := List.getElem_mem hi
   generalize hq : g.Vertices[i] = v at *
   have hv := h.v v hm
   have hw : IntKind.i64.wrap ((i : Int) + 1) = ((i + 1 : Nat) : Int) := succ_wr hi (by omega)
   left
   show ∃ a', (f8v2.l1 g y (i : Int) a).run = _ ∧ _
   unfold f8v2.l1
   rw [r_brr, L_eq, cast_lt_t hi, br_t, getR_s hx, ck_t (by omega), hy, rd_s (vec_get (by omega)), r_brr]
   by_cases e : root v.ID.toNat = v.ID.toNat
   ·rw [show (((root v.ID.toNat : Nat) : Int) == v.ID) = true from beq_iff_eq.2 (by omega), br_t, ap_s (by simp only [List.length_append, List.length_singleton]; unfold bigLen; omega), hw]
    refine ⟨_, rfl, by simp only [List.length_append, List.length_singleton]; omega, fun x => ?_⟩
    rw [List.mem_append, i2, List.mem_singleton]
    constructor
    ·rintro (⟨j, u, j1, j2, j3⟩ | k)
     ·exact ⟨j, u, by omega, j2, j3⟩
     ·exact ⟨i, v, by omega, hx, e, k⟩
    ·rintro ⟨j, u, j1, j2, j3⟩
     by_cases hji : j = i
     ·subst hji; rw [hx] at j2; cases j2; exact .inr j3.2
     ·exact .inl ⟨j, u, by omega, j2, j3⟩
   ·rw [show (((root v.ID.toNat : Nat) : Int) == v.ID) = false from beq_eq_false_iff_ne.2 (by omega), br_f, hw]
    refine ⟨_, rfl, by omega, fun x => ?_⟩
    rw [i2]
    constructor
    ·rintro ⟨j, u, j1, j2, j3⟩
     exact ⟨j, u, by omega, j2, j3⟩
    ·rintro ⟨j, u, j1, j2, j3⟩
     by_cases hji : j = i
     ·subst hji; rw [hx] at j2; cases j2; exact absurd j3.1 e
     ·exact ⟨j, u, by omega, j2, j3⟩)
  (fun a ⟨i1, i2⟩ => by
   refine ⟨Ex.a a, ?_, a, rfl, by omega, fun x => ?_⟩
   ·show (f8v2.l1 g y (g.Vertices.length : Int) a).run = _
    unfold f8v2.l1
    rw [r_brr, L_eq, cast_lt_f (by omega), br_f]; rfl
   ·rw [i2]
    constructor
    ·rintro ⟨j, u, j1, j2, j3⟩
     exact ⟨u, List.mem_of_getElem? j2, j3⟩
    ·rintro ⟨u, u1, u2⟩
     obtain ⟨j, hj, e⟩ := List.getElem_of_mem u1
     exact ⟨j, u, hj, by rw [← e]; simp [hj], u2⟩) (k := fuel) (a := []) (by have := fuel_pos; omega) ⟨by simp, fun x => by simp⟩
 refine ⟨w, k4, k5, fun x => ?_⟩
 rw [k6]
 constructor
 ·rintro ⟨v, v1, v2, rfl⟩
  exact ⟨v.ID.toNat, by have := h.v v v1; omega, ⟨v, v1, rfl⟩, v2⟩
 ·rintro ⟨b, rfl, ⟨v, v1, rfl⟩, v2⟩
  exact ⟨v, v1, v2, by have := h.v v v1; omega⟩
end Str
end Gen
end Go.Fx
