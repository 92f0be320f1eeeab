/- The law StrongPaths. -/
import Derived.Test.YtpdjphpjejjkpaaGreatSJ
import Derived.Test.YtpdjphpjejjkpaaGreatSS
namespace Go.Fx.Gen
open Go.Proofs
set_option linter.unusedVariables false
namespace Str
open Go.Fx.Str
variable {g : Graph} {root : Nat → Nat} {rank out inn wit : Nat → Int}
theorem getR_t {P : Program} {α β : Type} [Cel α] {l : List α} {i : Int} {x : α} {k : α → Prg P β} (h0 : 0 ≤ i) (h : l[i.toNat]? = some x) : (getR l i k).run = (k x).run := by
 have := getR_s (P := P) (i := i.toNat) h (k := k)
 rwa [Int.toNat_of_nonneg h0] at this
theorem labs_get {i : Nat} {v : Vertex} (h : g.Vertices[i]? = some v) : (labs g root rank out inn wit)[i]? = some (Named.mk v.ID (row g root rank out inn wit v.ID.toNat)) := by simp [labs, h]
theorem lab0 {P : Program} {β : Type} {a : Int} {n : Nat} {k : Int → Prg P β} : (getR (Named.mk a (row g root rank out inn wit n)).Label (0 : Int) k).run = (k (root n : Int)).run := getR_t (by decide) rfl
theorem labs_len : (labs g root rank out inn wit).length = g.Vertices.length := by simp [labs]
theorem out_fin (L : Lab g root rank out inn wit) {a v : Nat} (h : Rch (arcG g) a v) (hb : Rch (arcG g) v a) (ha : isV g a) (hf : out a ≠ FAR) : out v ≠ FAR := by
 induction h with
 | refl => exact hf
 | step k h ih =>
  rename_i a c v
  have vc := (L.scc.arc a c k).2
  have hca : Rch (arcG g) c a := h.trans hb
  have e : root a = root c := (L.scc.eq_iff ha vc).2 ⟨.arc k, hca⟩
  exact ih (hb.snoc k) vc (L.out.step a c (L.scc.lt a ha) (L.scc.lt c vc) hf ⟨k, e⟩).1
theorem inn_fin (L : Lab g root rank out inn wit) {v a : Nat} (h : Rch (arcG g) v a) (hb : Rch (arcG g) a v) (hv : isV g v) (hf : inn a ≠ FAR) : inn v ≠ FAR := by
 induction h with
 | refl => exact hf
 | step k h ih =>
  rename_i v c a
  have vc := (L.scc.arc v c k).2
  have hcv : Rch (arcG g) c v := h.trans hb
  have e : root v = root c := (L.scc.eq_iff hv vc).2 ⟨.arc k, hcv⟩
  exact (L.inn.step c v (L.scc.lt c vc) (L.scc.lt v hv) (ih (hb.snoc k) vc hf) ⟨k, e⟩).1
theorem dist_fin (L : Lab g root rank out inn wit) {v : Nat} (hv : isV g v) : out v ≠ FAR ∧ inn v ≠ FAR := by
 obtain ⟨m1, m2, m3⟩ := L.scc.mem v hv
 have hr := L.scc.root2 hv
 have h24 := L.scc.lt _ m1
 have o0 : out (root v) ≠ FAR := by rw [(L.out.zero _ h24).2 ⟨m1, hr⟩]; decide
 have i0 : inn (root v) ≠ FAR := by rw [(L.inn.zero _ h24).2 ⟨m1, hr⟩]; decide
 exact ⟨out_fin L m3 m2 m1 o0, inn_fin L m2 m3 hv i0⟩
theorem place_run (hl : g.Vertices.length < 1000000000) {x : Int} (hx : ∃ v ∈ g.Vertices, v.ID = x) : ∃ (n : Nat) (v : Vertex), (f25 g x).run = some (n : Int) ∧ g.Vertices[n]? = some v ∧ v.ID = x := by
 obtain ⟨r, h1, n, v, rfl, h2, h3⟩ := loop_ix (A := Unit) (f := fun s : Int => (f25.l1 g x s).run) (n := g.Vertices.length) (fun i _ => (i : Int)) (fun i _ => ∀ j v, j < i → g.Vertices[j]? = some v → v.ID ≠ x)
  (fun r => ∃ (n : Nat) (v : Vertex), r = Ex.a (n : Int) ∧ g.Vertices[n]? = some v ∧ v.ID = x) (fun i _ hi hI => by
   have hv : g.Vertices[i]? = some g.Vertices[i] := by simp [hi]
   have hw : IntKind.i64.wrap ((i : Int) + 1) = ((i + 1 : Nat) : Int) := succ_wr hi (by omega)
   have e : (f25.l1 g x (i : Int)).run = br (g.Vertices[i].ID == x) (some (.done (.a (i : Int)))) (some (.cont ((i + 1 : Nat) : Int))) := by
    unfold f25.l1
    rw [r_brr, L_eq, cast_lt_t hi, br_t, getR_s hv, r_brr, hw]; rfl
   by_cases c : g.Vertices[i].ID = x
   ·exact .inr ⟨Ex.a (i : Int), by show (f25.l1 g x (i : Int)).run = _; rw [e, beq_iff_eq.2 c, br_t], i, _, rfl, hv, c⟩
   ·refine .inl ⟨(), by show (f25.l1 g x (i : Int)).run = _; rw [e, beq_eq_false_iff_ne.2 c, br_f], fun j v hj hjv => ?_⟩
    by_cases hji : j = i
    ·subst hji; rw [hv] at hjv; cases hjv; exact c
    ·exact hI j v (by omega) hjv)
  (fun _ hI => by
   obtain ⟨v, hv, rfl⟩ := hx
   obtain ⟨j, hj, e⟩ := List.getElem_of_mem hv
   exact absurd rfl (hI j v hj (by rw [← e]; simp [hj]))) (k := fuel) (a := ()) (by have := fuel_pos; omega) (fun j v hj => by omega)
 refine ⟨n, v, ?_, h2, h3⟩
 have h1 : loopN fuel (fun s : Int => (f25.l1 g x s).run) (0 : Int) = some (Ex.a (n : Int)) := h1
 unfold f25
 rw [r_loop2, h1, bd_s, ex_a, r_ret]
theorem find_run (hl : g.Edges.length < 1000000000) {x : Int} (hx : ∃ v ∈ g.Edges, v.ID = x) : ∃ (n : Nat) (v : Edge), (f22 g x).run = some (n : Int) ∧ g.Edges[n]? = some v ∧ v.ID = x := by
 obtain ⟨r, h1, n, v, rfl, h2, h3⟩ := loop_ix (A := Unit) (f := fun s : Int => (f22.l1 g x s).run) (n := g.Edges.length) (fun i _ => (i : Int)) (fun i _ => ∀ j v, j < i → g.Edges[j]? = some v → v.ID ≠ x)
  (fun r => ∃ (n : Nat) (v : Edge), r = Ex.a (n : Int) ∧ g.Edges[n]? = some v ∧ v.ID = x) (fun i _ hi hI => by
   have hv : g.Edges[i]? = some g.Edges[i] := by simp [hi]
   have hw : IntKind.i64.wrap ((i : Int) + 1) = ((i + 1 : Nat) : Int) := succ_wr hi (by omega)
   have e : (f22.l1 g x (i : Int)).run = br (g.Edges[i].ID == x) (some (.done (.a (i : Int)))) (some (.cont ((i + 1 : Nat) : Int))) := by
    unfold f22.l1
    rw [r_brr, L_eq, cast_lt_t hi, br_t, getR_s hv, r_brr, hw]; rfl
   by_cases c : g.Edges[i].ID = x
   ·exact .inr ⟨Ex.a (i : Int), by show (f22.l1 g x (i : Int)).run = _; rw [e, beq_iff_eq.2 c, br_t], i, _, rfl, hv, c⟩
   ·refine .inl ⟨(), by show (f22.l1 g x (i : Int)).run = _; rw [e, beq_eq_false_iff_ne.2 c, br_f], fun j v hj hjv => ?_⟩
    by_cases hji : j = i
    ·subst hji; rw [hv] at hjv; cases hjv; exact c
    ·exact hI j v (by omega) hjv)
  (fun _ hI => by
   obtain ⟨v, hv, rfl⟩ := hx
   obtain ⟨j, hj, e⟩ := List.getElem_of_mem hv
   exact absurd rfl (hI j v hj (by rw [← e]; simp [hj]))) (k := fuel) (a := ()) (by have := fuel_pos; omega) (fun j v hj => by omega)
 refine ⟨n, v, ?_, h2, h3⟩
 have h1 : loopN fuel (fun s : Int => (f22.l1 g x s).run) (0 : Int) = some (Ex.a (n : Int)) := h1
 unfold f22
 rw [r_loop2, h1, bd_s, ex_a, r_ret]
theorem edge_uniq (hv : Trd.GV g) {i j : Nat} {a b : Edge} (hi : g.Edges[i]? = some a) (hj : g.Edges[j]? = some b) (h : a.ID = b.ID) : a = b := by
 obtain ⟨i1, rfl⟩ := List.getElem?_eq_some_iff.1 hi
 obtain ⟨j1, rfl⟩ := List.getElem?_eq_some_iff.1 hj
 rcases Nat.lt_trichotomy i j with k | k | k
 ·have := hv.ea i j i1 j1 k; omega
 ·subst k; rfl
 ·have := hv.ea j i j1 i1 k; omega
structure Way (g : Graph) (root : Nat → Nat) (rank out inn wit : Nat → Int) (w : Nat) (d E : Nat → Int) : Prop where
 hw : w = 0 ∨ w = 1
 r1 : ∀ v, (row g root rank out inn wit v)[1 + 2 * w]? = some (d v)
 r2 : ∀ v, (row g root rank out inn wit v)[2 + 2 * w]? = some (E v)
 rng : ∀ v, isV g v → 0 ≤ d v ∧ d v ≤ 23 ∧ (d v = 0 ↔ root v = v)
 nil : ∀ v, isV g v → E v < 0 → d v = 0
 ex : ∀ v : Vertex, v ∈ g.Vertices → 0 ≤ E v.ID.toNat → ∃ e ∈ g.Edges, e.ID = E v.ID.toNat ∧ ∃ u ∈ g.Vertices, (f23v1 e v.ID).run = some u.ID ∧ (f24 e (if w = 0 then u.ID else v.ID) (if w = 0 then v.ID else u.ID)).run = some true ∧ root u.ID.toNat = root v.ID.toNat ∧ d u.ID.toNat = d v.ID.toNat - 1
theorem other_run {e : Edge} (hne : e.From ≠ e.To) : (f23v1 e e.From).run = some e.To ∧ (f23v1 e e.To).run = some e.From := by
 unfold f23v1
 constructor
 ·rw [r_brr, beq_self_eq_true, br_t, r_ret]
 ·rw [r_brr, beq_eq_false_iff_ne.2 (Ne.symm hne), br_f, r_brr, beq_self_eq_true, br_t, r_ret]
theorem arc_run {e : Edge} (hne : e.From ≠ e.To) : (f24 e e.From e.To).run = some true ∧ (e.Directed = false → (f24 e e.To e.From).run = some true) := by
 unfold f24
 constructor
 ·rw [r_brr, beq_eq_false_iff_ne.2 hne, br_f, r_brr, beq_self_eq_true, br_t, r_brr, beq_self_eq_true, br_t, r_ret]
 ·intro hd
  rw [r_brr, beq_eq_false_iff_ne.2 hne, br_f, r_brr, br_f, r_brr, hd, Bool.not_false, br_t, r_brr, beq_self_eq_true, br_t, r_ret, beq_self_eq_true]
theorem at_mem (h : Sm g) {p : Edge × Int × Int} (hp : p ∈ arcsE g.Edges) {id : Int} (hi : p.2.1 = id ∨ p.2.2 = id) : p ∈ arcsE (atG g id) := by
 obtain ⟨e, a, b⟩ := p
 obtain ⟨h1, h2, h3⟩ := arcsE_mem.1 hp
 refine arcsE_mem.2 ⟨?_, h2, h3⟩
 simp only [Prod.mk.injEq] at h3 hi h1 ⊢
 simp only [atG, List.mem_filter, Bool.or_eq_true, beq_iff_eq]
 refine ⟨h1, ?_⟩
 rcases h3 with ⟨rfl, rfl⟩ | ⟨_, rfl, rfl⟩
 ·exact hi
 ·exact hi.symm
theorem vert_of (h : Sm g) {n : Nat} {x : Int} (hn : isV g n) (hx : x.toNat = n) (h0 : 0 ≤ x) : ∃ u ∈ g.Vertices, u.ID = x := by
 obtain ⟨u, hu, e⟩ := hn
 exact ⟨u, hu, by have := h.v u hu; omega⟩
theorem way0 (h : Sm g) (hid : ∀ e ∈ g.Edges, 0 ≤ e.ID) (L : Lab g root rank out inn wit) : Way g root rank out inn wit 0 out (fun v => firstE (arcsE (atG g (v : Int))) (P2 root out v)) := by
 refine ⟨.inl rfl, fun v => rfl, fun v => rfl, fun v hv => ?_, fun v hv hE => ?_, fun v hv hE => ?_⟩
 ·have := L.out.nn v (L.scc.lt v hv)
  have := (dist_fin L hv).1
  have := L.out.zero v (L.scc.lt v hv)
  exact ⟨by omega, by omega, this.trans ⟨fun k => k.2, fun k => ⟨hv, k⟩⟩⟩
 ·have hlt := L.scc.lt v hv
  have hf := (dist_fin L hv).1
  rcases L.out.nn v hlt with k | ⟨k, _⟩
  ·exact absurd k hf
  ·by_cases h0 : out v = 0
   ·exact h0
   ·exfalso
    obtain ⟨u, hu, ⟨hab, hr⟩, hu2, hu3⟩ := L.out.why v hlt hf (by omega)
    obtain ⟨p, hp, rfl, hb⟩ := arcN_mem.1 hab
    have hp2 := (h.arcE hp).2.1
    have hm := at_mem h hp (id := (v : Int)) (.inr (by omega))
    have hP : P2 root out v p = true := decide_eq_true ⟨by rw [hb]; exact hr, hb, hu3⟩
    revert hE
    show ¬ firstE (arcsE (atG g (v : Int))) (P2 root out v) < 0
    unfold firstE
    cases e : (arcsE (atG g (v : Int))).find? (P2 root out v) with
    | none => exact absurd hP (List.find?_eq_none.1 e p hm)
    | some q =>
     have := hid q.1 (arcsE_mem.1 (atG_sm h _ (List.mem_of_find?_eq_some e)).1).1
     simp only; omega
 ·have hv24 := h.v v hv
  have hcast : ((v.ID.toNat : Nat) : Int) = v.ID := Int.toNat_of_nonneg hv24.1
  revert hE
  show 0 ≤ firstE (arcsE (atG g ((v.ID.toNat : Nat) : Int))) (P2 root out v.ID.toNat) → ∃ e ∈ g.Edges, e.ID = firstE (arcsE (atG g ((v.ID.toNat : Nat) : Int))) (P2 root out v.ID.toNat) ∧ _
  unfold firstE
  cases e : (arcsE (atG g ((v.ID.toNat : Nat) : Int))).find? (P2 root out v.ID.toNat) with
  | none => intro k; simp only at k; omega
  | some q =>
   intro _
   have hq : P2 root out v.ID.toNat q = true := List.find?_some e
   obtain ⟨q1, q2, q3⟩ := of_decide_eq_true hq
   obtain ⟨qm, _⟩ := atG_sm h _ (List.mem_of_find?_eq_some e)
   obtain ⟨a1, a2, va, vb⟩ := h.arcE qm
   obtain ⟨he, hne, hc⟩ := arcsE_mem.1 qm
   obtain ⟨u, hu, hue⟩ := vert_of h va rfl a1.1
   have hb : q.2.2 = v.ID := by omega
   refine ⟨q.1, he, rfl, u, hu, ?_, ?_, by rw [hue, q1, q2], by rw [hue, q3]⟩
   ·rw [hue, ← hb]
    rcases hc with hc | ⟨_, hc⟩
    ·rw [hc]; exact (other_run hne).2
    ·rw [hc]; exact (other_run hne).1
   ·rw [if_pos rfl, if_pos rfl, hue, ← hb]
    rcases hc with hc | ⟨hd, hc⟩
    ·rw [hc]; exact (arc_run hne).1
    ·rw [hc]; exact (arc_run hne).2 hd
theorem way1 (h : Sm g) (hid : ∀ e ∈ g.Edges, 0 ≤ e.ID) (L : Lab g root rank out inn wit) : Way g root rank out inn wit 1 inn (fun v => firstE (arcsE (atG g (v : Int))) (P4 root inn v)) := by
 refine ⟨.inr rfl, fun v => rfl, fun v => rfl, fun v hv => ?_, fun v hv hE => ?_, fun v hv hE => ?_⟩
 ·have := L.inn.nn v (L.scc.lt v hv)
  have := (dist_fin L hv).2
  have := L.inn.zero v (L.scc.lt v hv)
  exact ⟨by omega, by omega, this.trans ⟨fun k => k.2, fun k => ⟨hv, k⟩⟩⟩
 ·have hlt := L.scc.lt v hv
  have hf := (dist_fin L hv).2
  rcases L.inn.nn v hlt with k | ⟨k, _⟩
  ·exact absurd k hf
  ·by_cases h0 : inn v = 0
   ·exact h0
   ·exfalso
    obtain ⟨u, hu, ⟨hab, hr⟩, hu2, hu3⟩ := L.inn.why v hlt hf (by omega)
    obtain ⟨p, hp, hb, rfl⟩ := arcN_mem.1 hab
    have hp2 := (h.arcE hp).1
    have hm := at_mem h hp (id := (v : Int)) (.inl (by omega))
    have hP : P4 root inn v p = true := decide_eq_true ⟨by rw [hb]; exact hr, hb, hu3⟩
    revert hE
    show ¬ firstE (arcsE (atG g (v : Int))) (P4 root inn v) < 0
    unfold firstE
    cases e : (arcsE (atG g (v : Int))).find? (P4 root inn v) with
    | none => exact absurd hP (List.find?_eq_none.1 e p hm)
    | some q =>
     have := hid q.1 (arcsE_mem.1 (atG_sm h _ (List.mem_of_find?_eq_some e)).1).1
     simp only; omega
 ·have hv24 := h.v v hv
  revert hE
  show 0 ≤ firstE (arcsE (atG g ((v.ID.toNat : Nat) : Int))) (P4 root inn v.ID.toNat) → ∃ e ∈ g.Edges, e.ID = firstE (arcsE (atG g ((v.ID.toNat : Nat) : Int))) (P4 root inn v.ID.toNat) ∧ _
  unfold firstE
  cases e : (arcsE (atG g ((v.ID.toNat : Nat) : Int))).find? (P4 root inn v.ID.toNat) with
  | none => intro k; simp only at k; omega
  | some q =>
   intro _
   have hq : P4 root inn v.ID.toNat q = true := List.find?_some e
   obtain ⟨q1, q2, q3⟩ := of_decide_eq_true hq
   obtain ⟨qm, _⟩ := atG_sm h _ (List.mem_of_find?_eq_some e)
   obtain ⟨a1, a2, va, vb⟩ := h.arcE qm
   obtain ⟨he, hne, hc⟩ := arcsE_mem.1 qm
   obtain ⟨u, hu, hue⟩ := vert_of h vb rfl a2.1
   have hb : q.2.1 = v.ID := by omega
   refine ⟨q.1, he, rfl, u, hu, ?_, ?_, by rw [hue, ← q1, q2], by rw [hue, q3]⟩
   ·rw [hue, ← hb]
    rcases hc with hc | ⟨_, hc⟩
    ·rw [hc]; exact (other_run hne).1
    ·rw [hc]; exact (other_run hne).2
   ·rw [if_neg (by decide), if_neg (by decide), hue, ← hb]
    rcases hc with hc | ⟨hd, hc⟩
    ·rw [hc]; exact (arc_run hne).1
    ·rw [hc]; exact (arc_run hne).2 hd
theorem rowN {P : Program} {β : Type} {a : Int} {n i : Nat} {x y : Int} {k : Int → Prg P β} (hx : x = (i : Int)) (h : (row g root rank out inn wit n)[i]? = some y) : (getR (Named.mk a (row g root rank out inn wit n)).Label x k).run = (k y).run := by
 subst hx; exact getR_s h
theorem follow_run (h : Sm g) (hv : Trd.GV g) {w : Nat} {d E : Nat → Int} (W : Way g root rank out inn wit w d E) {b : Nat} {vb : Vertex} (hb : g.Vertices[b]? = some vb) :
  loopN fuel (fun s : Int × Int => (f5.l1 true g (labs g root rank out inn wit, 0) (b : Int) (w : Int) s.1 s.2).run) ((b : Int), (0 : Int)) = some (Ex.b ()) := by
 have vbm := List.mem_of_getElem? hb
 have vbV : isV g vb.ID.toNat := ⟨vb, vbm, rfl⟩
 have hbd := W.rng _ vbV
 have hw2 : IntKind.i64.wrap (2 + (IntKind.i64.wrap (2 * (w : Int)))) = ((2 + 2 * w : Nat) : Int) := by
  rcases W.hw with rfl | rfl <;> decide
 have hw1 : IntKind.i64.wrap (1 + (IntKind.i64.wrap (2 * (w : Int)))) = ((1 + 2 * w : Nat) : Int) := by
  rcases W.hw with rfl | rfl <;> decide
 obtain ⟨r, h1, rfl⟩ := loop_of (f := fun s : Int × Int => (f5.l1 true g (labs g root rank out inn wit, 0) (b : Int) (w : Int) s.1 s.2).run)
  (I := fun s => ∃ (j n : Nat) (v : Vertex), s = ((j : Int), (n : Int)) ∧ g.Vertices[j]? = some v ∧ root v.ID.toNat = root vb.ID.toNat ∧ d v.ID.toNat + n = d vb.ID.toNat)
  (Q := fun r => r = Ex.b ()) (m := fun s => 24 - s.2.toNat) (fun s ⟨j, n, v, hs, hj, hr, hd⟩ => by
   subst hs
   have hvm := List.mem_of_getElem? hj
   have vV : isV g v.ID.toNat := ⟨v, hvm, rfl⟩
   have hvd := W.rng _ vV
   have hvr := h.v v hvm
   have e0 : (f5.l1 true g (labs g root rank out inn wit, 0) (b : Int) (w : Int) (j : Int) (n : Int)).run =
     br (decide (E v.ID.toNat < 0)) ((join1 (.reg 19) (getR (labs g root rank out inn wit) (j : Int) fun a113 => getR (Named.mk v.ID (row g root rank out inn wit v.ID.toNat)).Label (0 : Int) fun a114 => brr (a113.ID != a114) (retA' true) (getR (labs g root rank out inn wit) (b : Int) fun a115 =>
      getR a115.Label (IntKind.i64.wrap (1 + (IntKind.i64.wrap (2 * (w : Int))))) fun a116 => retA' (a116 != (n : Int)))) (.cut .nat fun x117 => ([(9, V true), (10, R 101), (11, V (labs g root rank out inn wit)), (13, V (b : Int)), (14, V (w : Int)), (107, V x117)], [(101, B g)])) fun x117 =>
      brr x117 (doneA (false)) (doneB ()) : Pg (Nx (Int × Int) (Ex (Bool) Unit Empty))).run)
     ((getR (Named.mk v.ID (row g root rank out inn wit v.ID.toNat)).Label (IntKind.i64.wrap (2 + (IntKind.i64.wrap (2 * (w : Int))))) fun a118 => cl (f22.ok g a118) fun y119 => brr (decide (y119 < 0)) (doneA (false)) (getR g.Edges y119 fun a120 => getR (labs g root rank out inn wit) (j : Int) fun a121 =>
      cl (f23v1.ok a120 a121.ID) fun y122 => join1 (.reg 25) (brr ((w : Int) == 0) (getR g.Edges y119 fun a123 => getR (labs g root rank out inn wit) (j : Int) fun a124 => cl (f24.ok a123 y122 a124.ID) fun y125 => brr (!y125) (retA' true) (
       brr ((w : Int) == 1) (getR g.Edges y119 fun a126 => getR (labs g root rank out inn wit) (j : Int) fun a127 => cl (f24.ok a126 a127.ID y122) fun y128 => retA' (!y128)) (retA' false))) (brr ((w : Int) == 1) (getR g.Edges y119 fun a129 => getR (labs g root rank out inn wit) (j : Int) fun a130 =>
       cl (f24.ok a129 a130.ID y122) fun y131 => retA' (!y131)) (retA' false))) (.cut .nat fun x132 => ([(9, V true), (10, R 101), (11, V (labs g root rank out inn wit)), (13, V (b : Int)), (14, V (w : Int)), (16, V (n : Int)), (19, V y122), (164, V x132)], [(101, B g)])) fun x132 =>
      brr x132 (doneA (false)) (cl (f25.ok g y122) fun y133 => brr (decide (y133 < 0)) (doneA (false)) (cont (y133, (IntKind.i64.wrap ((n : Int) + 1))))) ) : Pg (Nx (Int × Int) (Ex (Bool) Unit Empty))).run) := by
    unfold f5.l1
    dsimp only
    rw [getR_s (labs_get hj), r_join1, r_brr, L_eq, show (((row g root rank out inn wit v.ID.toNat).length : Int) != 7) = false from rfl, br_f, lab0, getR_s (labs_get hb), lab0, r_retA, bd_s, ex_a, hr, bne_self_eq_false, Bool.false_or, decide_eq_false (by omega), r_brr, br_f,
     rowN hw2 (W.r2 _), r_brr]
   by_cases hE : E v.ID.toNat < 0
   ·right
    refine ⟨Ex.b (), ?_, rfl⟩
    show (f5.l1 true g (labs g root rank out inn wit, 0) (b : Int) (w : Int) (j : Int) (n : Int)).run = _
    have hd0 := W.nil _ vV hE
    have hroot := hvd.2.2.1 hd0
    rw [e0, decide_eq_true hE, br_t, r_join1, getR_s (labs_get hj), lab0, r_brr, show (v.ID != ((root v.ID.toNat : Nat) : Int)) = false by rw [hroot, Int.toNat_of_nonneg hvr.1]; exact bne_self_eq_false _, br_f, getR_s (labs_get hb), rowN hw1 (W.r1 _), r_retA, bd_s, ex_a, r_brr,
     show (d vb.ID.toNat != (n : Int)) = false by rw [← hd, hd0]; simp, br_f]
    rfl
   ·left
    obtain ⟨e, he, heid, u, hu, ho, ha, hru, hdu⟩ := W.ex v hvm (by omega)
    obtain ⟨k, e', f1, f2, f3⟩ := find_run h.el (x := E v.ID.toNat) ⟨e, he, heid⟩
    obtain ⟨k', hk', e2⟩ := List.getElem_of_mem he
    have hee : e' = e := edge_uniq hv f2 (j := k') (by rw [← e2]; simp [hk']) (by rw [f3, heid])
    subst hee
    obtain ⟨j', u', p1, p2, p3⟩ := place_run h.vl (x := u.ID) ⟨u, hu, rfl⟩
    have hwn : IntKind.i64.wrap ((n : Int) + 1) = ((n + 1 : Nat) : Int) := wr (by have := hvd.1; omega)
    refine ⟨((j' : Int), ((n + 1 : Nat) : Int)), ?_, ⟨j', n + 1, u', rfl, p2, by rw [p3, hru, hr], by rw [p3, hdu]; omega⟩, ?_⟩
    ·show (f5.l1 true g (labs g root rank out inn wit, 0) (b : Int) (w : Int) (j : Int) (n : Int)).run = _
     rw [e0, decide_eq_false hE, br_f, rowN hw2 (W.r2 _), r_cl, f1, bd_s, r_brr, decide_eq_false (by omega), br_f, getR_s f2, getR_s (labs_get hj), r_cl, ho, bd_s, r_join1]
     rcases W.hw with rfl | rfl
     ·rw [if_pos rfl, if_pos rfl] at ha
      rw [r_brr, show (((0 : Nat) : Int) == 0) = true from rfl, br_t, getR_s f2, getR_s (labs_get hj), r_cl, ha, bd_s, r_brr, Bool.not_true, br_f, r_brr, show (((0 : Nat) : Int) == 1) = false from rfl, br_f, r_retA, bd_s, ex_a, r_brr, br_f, r_cl, p1, bd_s, r_brr, decide_eq_false (by omega), br_f, hwn, r_cont]
     ·rw [if_neg (by decide), if_neg (by decide)] at ha
      rw [r_brr, show (((1 : Nat) : Int) == 0) = false from rfl, br_f, r_brr, show (((1 : Nat) : Int) == 1) = true from rfl, br_t, getR_s f2, getR_s (labs_get hj), r_cl, ha, bd_s, r_retA, Bool.not_true, bd_s, ex_a, r_brr, br_f, r_cl, p1, bd_s, r_brr, decide_eq_false (by omega), br_f, hwn, r_cont]
    ·show 24 - (((n + 1 : Nat) : Int)).toNat < 24 - ((n : Int)).toNat
     have := (W.rng _ ⟨u, hu, rfl⟩).1
     omega) fuel ((b : Int), (0 : Int)) ⟨b, 0, vb, rfl, hb, rfl, by simp⟩ (by have := fuel_pos; show 24 - _ < fuel; omega)
 exact h1
theorem paths_law {p1 : Int} {p2 : List A5_Int} {p3 : Bool} {p4 : Int} (h1 : inI64 p1) (h5 : ∀ a ∈ p2, Frs.A5ok a) (h4 : inI64 p4) : (f5 p1 p2 p3 p4).run = some true := by
 obtain ⟨g, hg, hs, hv, hne, _⟩ := Frs.made_run (p3 := p3) h1 h5
 obtain ⟨root, rank, out, inn, wit, lab, hl⟩ := labelsV_run hs hv
 have h := gv_sm hv
 have hlen : 1 ≤ g.Vertices.length := List.length_pos_iff.2 hne
 have hpk := Frs.pk_range h4 (n := (g.Vertices.length : Int)) (by omega)
 obtain ⟨b, hb⟩ := Int.eq_ofNat_of_zero_le hpk.1
 have hbl : b < g.Vertices.length := by omega
 have hbv : g.Vertices[b]? = some g.Vertices[b] := by simp [hbl]
 have e1 : ∀ w : Nat, w = 0 ∨ w = 1 → (f5.l2 true g (labs g root rank out inn wit, 0) (b : Int) (w : Int)).run = some (.cont ((w + 1 : Nat) : Int)) := by
  intro w hw
  have hf : loopN fuel (fun s : Int × Int => (f5.l1 true g (labs g root rank out inn wit, 0) (b : Int) (w : Int) s.1 s.2).run) ((b : Int), (0 : Int)) = some (Ex.b ()) := by
   rcases hw with rfl | rfl
   ·exact follow_run h hv (way0 h (gv_id hv) lab) hbv
   ·exact follow_run h hv (way1 h (gv_id hv) lab) hbv
  have hww : IntKind.i64.wrap ((w : Int) + 1) = ((w + 1 : Nat) : Int) := wr
  unfold f5.l2
  rw [r_brr, show decide ((w : Int) < 2) = true from decide_eq_true (by omega), br_t, r_loop2, hf, bd_s, ex_b, hww, r_cont]
 have e2 : loopN fuel (fun s : Int => (f5.l2 true g (labs g root rank out inn wit, 0) (b : Int) s).run) (0 : Int) = some (Ex.b ()) := by
  obtain ⟨r, k1, rfl⟩ := loop_ix (A := Unit) (f := fun s : Int => (f5.l2 true g (labs g root rank out inn wit, 0) (b : Int) s).run) (n := 2) (fun i _ => (i : Int)) (fun _ _ => True) (fun r => r = Ex.b ())
   (fun i _ hi _ => .inl ⟨(), e1 i (by omega), trivial⟩)
   (fun _ _ => by
    refine ⟨_, ?_, rfl⟩
    show (f5.l2 true g (labs g root rank out inn wit, 0) (b : Int) ((2 : Nat) : Int)).run = _
    unfold f5.l2
    rw [r_brr, show decide (((2 : Nat) : Int) < 2) = false from rfl, br_f]; rfl) (k := fuel) (a := ()) (by have := fuel_pos; omega) trivial
  exact k1
 have hp : (f15 p4 (g.Vertices.length : Int)).run = some (b : Int) := by
  show (f29 p4 (g.Vertices.length : Int)).run = _
  rw [Frs.pick50 (by omega), hb]
 have hz : (((labs g root rank out inn wit, (0 : Int)) : (List Named) × Int).2 != 0) = false := rfl
 have hc : (((L ((labs g root rank out inn wit, (0 : Int)) : (List Named) × Int).1 : Nat) : Int) != ((L g.Vertices : Nat) : Int)) = false := by
  rw [L_eq, L_eq]
  show (((labs g root rank out inn wit).length : Int) != (g.Vertices.length : Int)) = false
  rw [labs_len]; exact bne_self_eq_false _
 have hp' : (f15 p4 ((L ((labs g root rank out inn wit, (0 : Int)) : (List Named) × Int).1 : Nat) : Int)).run = some (b : Int) := by
  rw [L_eq]
  show (f15 p4 ((labs g root rank out inn wit).length : Int)).run = _
  rw [labs_len]; exact hp
 unfold f5
 rw [r_cl, sane_run, bd_s, r_brr, Bool.not_true, br_f, r_cl, hg, bd_s, r_cl, hl, bd_s, r_join1, r_brr, hz, br_f, r_retA, bd_s, ex_a, r_brr, hc, br_f, r_cl, hp', bd_s, r_loop2, e2, bd_s, ex_b, r_ret]
end Str
end Go.Fx.Gen
