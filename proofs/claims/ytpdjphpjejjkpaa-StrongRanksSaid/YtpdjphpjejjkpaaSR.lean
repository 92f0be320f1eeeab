/- The law StrongRanks. -/
import Derived.Test.YtpdjphpjejjkpaaSN
import Derived.Test.YtpdjphpjejjkpaaSS
namespace Go.Fx.Gen
open Go.Proofs
set_option linter.unusedVariables false
namespace Str
open Go.Fx.Str
variable {g : Graph} {root : Nat → Nat} {rank out inn wit : Nat → Int}
theorem grp_head (h : Sm g) (L : Lab g root rank out inn wit) {ws : List Vertex} {D : List (List Vertex)} (hP : ws.Perm g.Vertices) (hS : ws.Pairwise (lt3 root rank)) (hG : Grp root ws D) :
  (∀ d ∈ D, ∃ v t, d = v :: t ∧ d.Pairwise (fun a b => a.ID < b.ID) ∧ ∀ u ∈ d, u ∈ g.Vertices ∧ (root u.ID.toNat : Int) = v.ID) ∧ D.Pairwise (fun d d' => ∀ u ∈ d, ∀ v ∈ d', ltK root rank u v) := by
 have hV : ∀ d ∈ D, ∀ u ∈ d, u ∈ g.Vertices := fun d hd u hu => hP.mem_iff.1 (by rw [← hG.flat]; exact List.mem_flatten.2 ⟨d, hd, hu⟩)
 have iv : ∀ d ∈ D, ∀ u ∈ d, isV g u.ID.toNat := fun d hd u hu => ⟨u, hV d hd u hu, rfl⟩
 rw [← hG.flat, List.pairwise_flatten] at hS
 obtain ⟨s1, s2⟩ := hS
 have asc : ∀ d ∈ D, d.Pairwise fun a b => a.ID < b.ID := fun d hd => (s1 d hd).imp_of_mem fun {a b} ha hb k => by
  have e := hG.eq d hd a ha b hb
  have er := L.rk.cls _ _ (L.scc.lt _ (iv d hd a ha)) (L.scc.lt _ (iv d hd b hb)) e
  unfold lt3 ltK at k
  omega
 refine ⟨fun d hd => ?_, ?_⟩
 ·cases d with
  | nil => exact absurd rfl (hG.ne _ hd)
  | cons v t =>
   refine ⟨v, t, rfl, asc _ hd, fun u hu => ⟨hV _ hd u hu, ?_⟩⟩
   have hv := iv _ hd v (by simp)
   obtain ⟨m1, m2, m3⟩ := L.scc.mem _ hv
   obtain ⟨w, w1, w2⟩ := m1
   have hww : w ∈ ws := hP.mem_iff.2 w1
   rw [← hG.flat] at hww
   obtain ⟨d', hd', hw'⟩ := List.mem_flatten.1 hww
   have hroot : root w.ID.toNat = root v.ID.toNat := by rw [w2]; exact L.scc.root2 hv
   have hdd : w ∈ v :: t := by
    obtain ⟨i, hi, ei⟩ := List.getElem_of_mem hd
    obtain ⟨j, hj, ej⟩ := List.getElem_of_mem hd'
    rcases Nat.lt_trichotomy i j with k | k | k
    ·exact absurd hroot.symm (List.pairwise_iff_getElem.1 hG.apart i j hi hj k v (by rw [ei]; simp) w (by rw [ej]; exact hw'))
    ·subst k; rw [← ei, ej]; exact hw'
    ·exact absurd hroot (List.pairwise_iff_getElem.1 hG.apart j i hj hi k w (by rw [ej]; exact hw') v (by rw [ei]; simp))
   have hle : v.ID ≤ w.ID := by
    rcases List.mem_cons.1 hdd with rfl | k
    ·exact Int.le_refl _
    ·exact Int.le_of_lt ((List.pairwise_cons.1 (asc _ hd)).1 w k)
   have h1 := L.scc.le hv
   have h2 := h.v v (hV _ hd v (by simp))
   have h3 := h.v w w1
   have e := hG.eq _ hd u hu v (by simp)
   rw [e]; omega
 ·refine (List.Pairwise.and hG.apart s2).imp_of_mem fun {d d'} hd hd' ⟨k1, k2⟩ u hu v hv => ?_
  have := k2 u hu v hv
  have hne := k1 u hu v hv
  unfold lt3 at this
  rcases this with k | ⟨_, k, _⟩
  ·exact k
  ·exact absurd k hne
theorem getR_t {P : Program} {α β : Type} [Cel α] {l : List α} {i : Int} {x : α} {k : α → Prg P β} (h0 : 0 ≤ i) (h : l[i.toNat]? = some x) : (getR l i k).run = (k x).run := by
 have := getR_s (P := P) (i := i.toNat) h (k := k)
 rwa [Int.toNat_of_nonneg h0] at this
theorem ln_get {i : Nat} {v : Vertex} (h : g.Vertices[i]? = some v) : (labs g root rank out inn wit)[i]? = some (nm g root rank out inn wit v) := by simp [labs, h]
theorem ln_len : (labs g root rank out inn wit).length = g.Vertices.length := by simp [labs]
theorem at_t {x : Int} (h : 0 ≤ x) : at0 x = x.toNat := by
 have := at0_nat (n := x.toNat)
 rwa [Int.toNat_of_nonneg h] at this
theorem ckv {P : Program} {β : Type} {x : Int} {f : Nat → Int} {k : Prg P β} (h : 0 ≤ x ∧ x ≤ 23) : (ck x (L (vec f)) k).run = k.run := ck_t (by rw [L_eq, vec_len]; omega)
theorem rdv {P : Program} {β : Type} {x : Int} {f : Nat → Int} {k : Int → Prg P β} (h : 0 ≤ x ∧ x ≤ 23) : (rd (vec f) (at0 x) k).run = (k (f x.toNat)).run := by rw [at_t h.1]; exact rd_s (vec_get (by omega))
theorem stv {P : Program} {β : Type} {x y : Int} {f : Nat → Int} {k : List Int → Prg P β} (h : 0 ≤ x ∧ x ≤ 23) : (st (vec f) (at0 x) (fun _ => y) k).run = (k (vec fun j => if j = x.toNat then y else f j)).run := by
 rw [at_t h.1, st_s (vec_get (by omega)), vec_set _ (by omega)]
theorem arrays_run (h : Sm g) (hvl : g.Vertices.length ≤ 24) (Lb : Lab g root rank out inn wit) (y : (List (List Int)) × Int) (l11 : List Bool) :
  ∃ k : Nat → Int, loopN fuel (fun s : Int × List Int × List Int => (f4.l1 true g (labs g root rank out inn wit, 0) y l11 s.1 s.2.1 s.2.2).run) ((0 : Int), List.replicate (24 : Int).toNat (0 : Int), List.replicate (24 : Int).toNat (0 : Int)) = some (Ex.b (vec (fun v => (root v : Int)), vec k)) ∧ ∀ v, isV g v → k v = rank v := by
 obtain ⟨r, h1, k, rfl, h2⟩ := loop_ix (f := fun s : Int × List Int × List Int => (f4.l1 true g (labs g root rank out inn wit, 0) y l11 s.1 s.2.1 s.2.2).run) (n := g.Vertices.length) (fun i (a : List Int × List Int) => ((i : Int), a.1, a.2))
  (fun i a => ∃ f k : Nat → Int, a = (vec f, vec k) ∧ (∀ (j : Nat) (u : Vertex), j < i → g.Vertices[j]? = some u → f u.ID.toNat = root u.ID.toNat ∧ k u.ID.toNat = rank u.ID.toNat) ∧ ∀ v, (∀ (j : Nat) (u : Vertex), j < i → g.Vertices[j]? = some u → u.ID.toNat ≠ v) → f v = 0)
  (fun r => ∃ k : Nat → Int, r = Ex.b (vec (fun v => (root v : Int)), vec k) ∧ ∀ v, isV g v → k v = rank v)
  (fun i a hi ⟨f, k, ha, h1, h2⟩ => by
   subst ha
   have hx : g.Vertices[i]? = some g.Vertices[i] := by simp [hi]
   have hm : g.Vertices[i] ∈ g.Vertices := List.getElem_mem hi
   generalize g.Vertices[i] = v at *
   have hv := h.v v hm
   have hr24 := Lb.scc.lt _ (Lb.scc.mem _ (⟨v, hm, rfl⟩ : isV g v.ID.toNat)).1
   have hw : IntKind.i64.wrap ((i : Int) + 1) = ((i + 1 : Nat) : Int) := succ_wr hi (by omega)
   left
   show ∃ a', (f4.l1 true g (labs g root rank out inn wit, 0) y l11 (i : Int) (vec f) (vec k)).run = _ ∧ _
   unfold f4.l1
   dsimp only
   rw [r_brr, L_eq, ln_len, cast_lt_t hi, br_t, r_join1, getR_s (ln_get hx), r_brr, L_eq, show (((nm g root rank out inn wit v).Label.length : Int) != 7) = false from rfl, br_f, getR_s (ln_get hx), getR_s hx, r_brr, show ((nm g root rank out inn wit v).ID != v.ID) = false from bne_self_eq_false _, br_f,
    getR_s (ln_get hx), lab0', r_brr, decide_eq_false (by omega), br_f, getR_s (ln_get hx), lab0', r_retA, decide_eq_false (by omega), bd_s, ex_a, r_brr, br_f, getR_s (ln_get hx), getR_s (ln_get hx), lab0', ckv hv, stv hv, getR_s (ln_get hx), getR_s (ln_get hx), lab5', ckv hv, stv hv, hw, r_cont]
   refine ⟨(vec fun j => if j = v.ID.toNat then (root v.ID.toNat : Int) else f j, vec fun j => if j = v.ID.toNat then rank v.ID.toNat else k j), rfl, _, _, rfl, fun j u hj hu => ?_, fun x hx' => ?_⟩
   ·by_cases e : u.ID.toNat = v.ID.toNat
    ·show (if u.ID.toNat = v.ID.toNat then _ else _) = _ ∧ (if u.ID.toNat = v.ID.toNat then _ else _) = _
     rw [if_pos e, if_pos e, e]; exact ⟨rfl, rfl⟩
    ·show (if u.ID.toNat = v.ID.toNat then _ else f u.ID.toNat) = _ ∧ (if u.ID.toNat = v.ID.toNat then _ else k u.ID.toNat) = _
     rw [if_neg e, if_neg e]
     refine h1 j u ?_ hu
     by_cases hji : j = i
     ·subst hji; rw [hx] at hu; cases hu; exact absurd rfl e
     ·omega
   ·show (if x = v.ID.toNat then _ else f x) = 0
    rw [if_neg (fun e => hx' i v (by omega) hx e.symm)]
    exact h2 x fun j u hj hu => hx' j u (by omega) hu)
  (fun a ⟨f, k, ha, h1, h2⟩ => by
   subst ha
   refine ⟨Ex.b (vec f, vec k), ?_, k, ?_, fun v ⟨u, hu, e⟩ => ?_⟩
   ·show (f4.l1 true g (labs g root rank out inn wit, 0) y l11 (g.Vertices.length : Int) (vec f) (vec k)).run = _
    unfold f4.l1
    dsimp only
    rw [r_brr, L_eq, ln_len, cast_lt_f (by omega), br_f]; rfl
   ·refine congrArg (fun l => Ex.b (l, vec k)) (vec_congr fun v hv => ?_)
    by_cases hV : isV g v
    ·obtain ⟨u, hu, e⟩ := hV
     obtain ⟨j, hj, ej⟩ := List.getElem_of_mem hu
     rw [← e]; exact (h1 j u hj (by rw [← ej]; simp [hj])).1
    ·rw [Lb.scc.other v hV]
     refine h2 v fun j u hj hu e => hV ⟨u, List.mem_of_getElem? hu, e⟩
   ·obtain ⟨j, hj, ej⟩ := List.getElem_of_mem hu
    rw [← e]; exact (h1 j u hj (by rw [← ej]; simp [hj])).2) (k := fuel) (a := (List.replicate (24 : Int).toNat (0 : Int), List.replicate (24 : Int).toNat (0 : Int))) (by have := fuel_pos; omega)
  ⟨fun _ => 0, fun _ => 0, rfl, fun j u hj => by omega, fun _ _ => rfl⟩
 exact ⟨k, h1, h2⟩
/-! 24 truth values. -/
abbrev bv (f : Nat → Bool) : List Bool := (List.range 24).map f
theorem bv_get {f : Nat → Bool} {i : Nat} (h : i < 24) : (bv f)[i]? = some (f i) := by simp [bv, h]
theorem bv_len (f : Nat → Bool) : (bv f).length = 24 := by simp [bv]
abbrev updB (f : Nat → Bool) (i : Nat) : Nat → Bool := fun j => if j = i then true else f j
theorem bv_set (f : Nat → Bool) {i : Nat} (h : i < 24) : (bv f).set i true = bv (updB f i) := by
 refine List.ext_getElem? fun j => ?_
 rw [List.getElem?_set]
 by_cases hj : j < 24
 ·rw [bv_get hj, bv_len, if_pos h, bv_get hj]
  by_cases e : i = j
  ·subst e; simp
  ·rw [if_neg e]; simp [Ne.symm e]
 ·rw [bv_len, if_pos h, List.getElem?_eq_none (by rw [bv_len]; omega), List.getElem?_eq_none (by rw [bv_len]; omega), if_neg (by omega)]
def fedS (root : Nat → Nat) (rank : Nat → Int) (f : Nat → Bool) (p : Edge × Int × Int) : Nat → Bool :=
 if root p.2.1.toNat ≠ root p.2.2.toNat ∧ rank p.2.1.toNat = rank p.2.2.toNat - 1 then updB f (root p.2.2.toNat) else f
theorem fed_iff {l : List (Edge × Int × Int)} : ∀ {f : Nat → Bool} {r : Nat}, (l.foldl (fedS root rank) f) r = true ↔ f r = true ∨ ∃ p ∈ l, root p.2.1.toNat ≠ root p.2.2.toNat ∧ rank p.2.1.toNat = rank p.2.2.toNat - 1 ∧ root p.2.2.toNat = r := by
 induction l with
 | nil => intro f r; simp
 | cons p l ih =>
  intro f r
  rw [List.foldl_cons, ih]
  have h1 : (fedS root rank f p) r = true ↔ f r = true ∨ (root p.2.1.toNat ≠ root p.2.2.toNat ∧ rank p.2.1.toNat = rank p.2.2.toNat - 1 ∧ root p.2.2.toNat = r) := by
   unfold fedS
   by_cases c : root p.2.1.toNat ≠ root p.2.2.toNat ∧ rank p.2.1.toNat = rank p.2.2.toNat - 1
   ·rw [if_pos c]
    show (if r = root p.2.2.toNat then true else f r) = true ↔ _
    by_cases e : r = root p.2.2.toNat
    ·rw [if_pos e]; simp [c, e]
    ·rw [if_neg e]
     constructor
     ·exact .inl
     ·rintro (k | ⟨_, _, k⟩)
      ·exact k
      ·exact absurd k.symm e
   ·rw [if_neg c]
    constructor
    ·exact .inl
    ·rintro (k | ⟨k1, k2, _⟩)
     ·exact k
     ·exact absurd ⟨k1, k2⟩ c
  rw [h1]
  constructor
  ·rintro ((k | k) | ⟨q, hq, k⟩)
   ·exact .inl k
   ·exact .inr ⟨p, .head _, k⟩
   ·exact .inr ⟨q, .tail _ hq, k⟩
  ·rintro (k | ⟨q, hq, k⟩)
   ·exact .inl (.inl k)
   ·rcases List.mem_cons.1 hq with rfl | hq
    ·exact .inl (.inr k)
    ·exact .inr ⟨q, hq, k⟩
theorem arc_run' (e : Edge) : (f12 e e.From e.To).run = some (decide (e.From ≠ e.To)) ∧ (f12 e e.To e.From).run = some (decide (e.From ≠ e.To) && !e.Directed) := by
 unfold f12
 by_cases hne : e.From = e.To
 ·constructor
  ·rw [r_brr, beq_iff_eq.2 hne, br_t, r_ret]; simp [hne]
  ·rw [r_brr, beq_iff_eq.2 hne, br_t, r_ret]; simp [hne]
 ·constructor
  ·rw [r_brr, beq_eq_false_iff_ne.2 hne, br_f, r_brr, beq_self_eq_true, br_t, r_brr, beq_self_eq_true, br_t, r_ret]; simp [hne]
  ·rw [r_brr, beq_eq_false_iff_ne.2 hne, br_f, r_brr, br_f, r_brr]
   cases e.Directed with
   | true => rw [Bool.not_true, br_f, r_ret]; simp
   | false => rw [Bool.not_false, br_t, r_brr, beq_self_eq_true, br_t, r_ret, beq_self_eq_true]; simp [hne]
theorem end_run (h : Sm g) (Lb : Lab g root rank out inn wit) {k : Nat → Int} (hk : ∀ v, isV g v → k v = rank v) {y7 : (List (List Int)) × Int} {n t : Nat} {e : Edge} (hn : g.Edges[n]? = some e) (ht : t < 2) {p : Edge × Int × Int} (ha : 0 ≤ p.2.1 ∧ p.2.1 ≤ 23) (hb : 0 ≤ p.2.2 ∧ p.2.2 ≤ 23)
  (hpt : ([(A2_Int.mk e.From e.To), (A2_Int.mk e.To e.From)] : List A2_Int)[t]? = some (A2_Int.mk p.2.1 p.2.2)) {fl : Bool} (hfl : (f12 e p.2.1 p.2.2).run = some fl) (hp : fl = true → p ∈ arcsE g.Edges) (f : Nat → Bool) :
  (f4.l2 true g (labs g root rank out inn wit, 0) y7 (vec (fun v => (root v : Int)), vec k) (n : Int) e e e e (t : Int) (bv f)).run = some (.cont (((t + 1 : Nat) : Int), bv (if fl = true then fedS root rank f p else f))) := by
 have hw : IntKind.i64.wrap ((t : Int) + 1) = ((t + 1 : Nat) : Int) := wr
 have hlt : decide ((t : Int) < ((L ([(A2_Int.mk e.From e.To), (A2_Int.mk e.To e.From)] : List A2_Int) : Nat) : Int)) = true := decide_eq_true (by rw [L_eq]; simp; omega)
 have hc : (0 : Int) ≤ (t : Int) ∧ (t : Int) < ((L ([(A2_Int.mk e.From e.To), (A2_Int.mk e.To e.From)] : List A2_Int) : Nat) : Int) := by rw [L_eq]; simp; omega
 unfold f4.l2
 dsimp only
 rw [r_brr, hlt, br_t, ck_t hc, at0_nat, rd_s hpt, getR_s hn, r_cl]
 dsimp only
 rw [hfl, bd_s, r_brr, hw]
 cases fl with
 | false => rw [Bool.not_false, br_t, r_cont]; rfl
 | true =>
  obtain ⟨_, _, va, vb⟩ := h.arcE (hp rfl)
  have ka := hk _ va
  have kb := hk _ vb
  have hrb := Lb.rk.le Lb.scc vb
  have hra := Lb.rk.le Lb.scc va
  have hroot := Lb.scc.lt _ (Lb.scc.mem _ vb).1
  have hwk : IntKind.i64.wrap (k p.2.2.toNat - 1) = k p.2.2.toNat - 1 := wr
  rw [Bool.not_true, br_f, r_join1, ckv ha, rdv ha, ckv hb, rdv hb, r_brr, if_pos rfl]
  unfold fedS
  by_cases er : root p.2.1.toNat = root p.2.2.toNat
  ·rw [er, bne_self_eq_false, br_f, r_retA, bd_s, ex_a, r_brr, br_f, r_join1, ckv ha, rdv ha, ckv hb, rdv hb, r_brr, er, bne_self_eq_false, br_f, r_retA, bd_s, ex_a, r_brr, br_f, r_cont, if_neg (fun c => c.1 rfl)]
  ·have hbne : (((root p.2.1.toNat : Nat) : Int) != ((root p.2.2.toNat : Nat) : Int)) = true := bne_iff_ne.2 fun c => er (by omega)
   have hup := Lb.rk.up _ _ ⟨arcN_mem.2 ⟨p, hp rfl, rfl, rfl⟩, er⟩
   rw [hbne, br_t, ckv ha, rdv ha, ckv hb, rdv hb, r_retA, decide_eq_false (by omega), bd_s, ex_a, r_brr, br_f, r_join1, ckv ha, rdv ha, ckv hb, rdv hb, r_brr, hbne, br_t, ckv ha, rdv ha, ckv hb, rdv hb, r_retA, bd_s, ex_a, r_brr, hwk]
   by_cases et : k p.2.1.toNat = k p.2.2.toNat - 1
   ·rw [beq_iff_eq.2 et, br_t, ckv hb, rdv hb, ck_t (by rw [L_eq, bv_len]; omega), at0_nat, st_s (bv_get hroot), bv_set _ hroot, r_cont, if_pos ⟨er, by omega⟩]
   ·rw [beq_eq_false_iff_ne.2 et, br_f, r_cont, if_neg (fun c => et (by omega))]
theorem feds_run (h : Sm g) (hel : g.Edges.length ≤ 40) (Lb : Lab g root rank out inn wit) {k : Nat → Int} (hk : ∀ v, isV g v → k v = rank v) (y7 : (List (List Int)) × Int) :
  loopN fuel (fun s : Int × List Bool => (f4.l3 true g (labs g root rank out inn wit, 0) y7 (vec (fun v => (root v : Int)), vec k) s.1 s.2).run) ((0 : Int), List.replicate (24 : Int).toNat false) = some (Ex.b (bv ((arcsE g.Edges).foldl (fedS root rank) fun _ => false))) := by
 obtain ⟨r, h1, rfl⟩ := loop_ix (f := fun s : Int × List Bool => (f4.l3 true g (labs g root rank out inn wit, 0) y7 (vec (fun v => (root v : Int)), vec k) s.1 s.2).run) (n := g.Edges.length) (fun i a => ((i : Int), a))
  (fun i a => a = bv ((arcsE (g.Edges.take i)).foldl (fedS root rank) fun _ => false)) (fun r => r = Ex.b (bv ((arcsE g.Edges).foldl (fedS root rank) fun _ => false)))
  (fun i a hi ha => by
   subst ha
   have hx : g.Edges[i]? = some g.Edges[i] := by simp [hi]
   have hm : g.Edges[i] ∈ g.Edges := List.getElem_mem hi
   have ht : arcsE (g.Edges.take (i + 1)) = arcsE (g.Edges.take i) ++ arcs1 g.Edges[i] := by
    unfold arcsE
    rw [List.take_succ_eq_append_getElem hi, List.flatMap_append]
    simp only [List.flatMap_cons, List.flatMap_nil, List.append_nil]
   rw [ht, List.foldl_append]
   generalize ((arcsE (g.Edges.take i)).foldl (fedS root rank) fun _ => false) = f
   generalize g.Edges[i] = e at *
   obtain ⟨b1, b2, _, _⟩ := h.e e hm
   have hw : IntKind.i64.wrap ((i : Int) + 1) = ((i + 1 : Nat) : Int) := succ_wr hi (by omega)
   obtain ⟨q1, q2⟩ := arc_run' e
   have s0 := end_run h Lb hk (y7 := y7) (n := i) (t := 0) hx (by omega) (p := (e, e.From, e.To)) b1 b2 rfl q1 (fun c => arcsE_mem.2 ⟨hm, of_decide_eq_true c, .inl rfl⟩) f
   have s1 := fun f => end_run h Lb hk (y7 := y7) (n := i) (t := 1) hx (by omega) (p := (e, e.To, e.From)) b2 b1 rfl q2 (fun c => by
    simp only [Bool.and_eq_true, Bool.not_eq_true', decide_eq_true_eq] at c
    exact arcsE_mem.2 ⟨hm, c.1, .inr ⟨c.2, rfl⟩⟩) f
   have e2 : ∀ f, (f4.l2 true g (labs g root rank out inn wit, 0) y7 (vec (fun v => (root v : Int)), vec k) (i : Int) e e e e ((2 : Nat) : Int) (bv f)).run = some (.done (.b (bv f))) := fun f => by
    unfold f4.l2
    dsimp only
    rw [r_brr, show decide (((2 : Nat) : Int) < ((L ([(A2_Int.mk e.From e.To), (A2_Int.mk e.To e.From)] : List A2_Int) : Nat) : Int)) = false from decide_eq_false (by rw [L_eq]; simp), br_f]; rfl
   have hfold : (if (decide (e.From ≠ e.To) && !e.Directed) = true then fedS root rank (if decide (e.From ≠ e.To) = true then fedS root rank f (e, e.From, e.To) else f) (e, e.To, e.From) else (if decide (e.From ≠ e.To) = true then fedS root rank f (e, e.From, e.To) else f)) = (arcs1 e).foldl (fedS root rank) f := by
    unfold arcs1
    by_cases c : e.From = e.To
    ·simp [c]
    ·cases hd : e.Directed <;> simp [c]
   have inner : loopN fuel (fun s : Int × List Bool => (f4.l2 true g (labs g root rank out inn wit, 0) y7 (vec (fun v => (root v : Int)), vec k) (i : Int) e e e e s.1 s.2).run) ((0 : Int), bv f) = some (Ex.b (bv ((arcs1 e).foldl (fedS root rank) f))) := by
    obtain ⟨m, hm3⟩ : ∃ m, fuel = m + 3 := ⟨fuel - 3, by have := fuel_pos; omega⟩
    rw [hm3, loopN_succ, show (f4.l2 true g (labs g root rank out inn wit, 0) y7 (vec (fun v => (root v : Int)), vec k) (i : Int) e e e e (0 : Int) (bv f)).run = _ from s0, stp_c, loopN_succ]
    show stp (f4.l2 true g (labs g root rank out inn wit, 0) y7 (vec (fun v => (root v : Int)), vec k) (i : Int) e e e e ((1 : Nat) : Int) (bv _)).run _ = _
    rw [s1, stp_c, loopN_succ]
    show stp (f4.l2 true g (labs g root rank out inn wit, 0) y7 (vec (fun v => (root v : Int)), vec k) (i : Int) e e e e ((2 : Nat) : Int) (bv _)).run _ = _
    rw [e2, stp_d, hfold]
   left
   refine ⟨_, ?_, rfl⟩
   show (f4.l3 true g (labs g root rank out inn wit, 0) y7 (vec (fun v => (root v : Int)), vec k) (i : Int) (bv f)).run = _
   unfold f4.l3
   rw [r_brr, L_eq, cast_lt_t hi, br_t, getR_s hx, getR_s hx, getR_s hx, getR_s hx, r_loop2, inner, bd_s, ex_b, hw, r_cont])
  (fun a ha => by
   subst ha
   refine ⟨_, ?_, rfl⟩
   show (f4.l3 true g (labs g root rank out inn wit, 0) y7 (vec (fun v => (root v : Int)), vec k) (g.Edges.length : Int) _).run = _
   unfold f4.l3
   rw [r_brr, L_eq, cast_lt_f (by omega), br_f, List.take_length]; rfl) (k := fuel) (a := List.replicate (24 : Int).toNat false) (by have := fuel_pos; omega) rfl
 exact h1
theorem check_run (h : Sm g) (hvl : g.Vertices.length ≤ 24) (Lb : Lab g root rank out inn wit) {k : Nat → Int} (hk : ∀ v, isV g v → k v = rank v) :
  loopN fuel (fun s : Int => (f4.l4 (labs g root rank out inn wit, 0) (vec (fun v => (root v : Int)), vec k) (bv ((arcsE g.Edges).foldl (fedS root rank) fun _ => false)) s).run) (0 : Int) = some (Ex.b ()) := by
 obtain ⟨r, h1, rfl⟩ := loop_ix (A := Unit) (f := fun s : Int => (f4.l4 (labs g root rank out inn wit, 0) (vec (fun v => (root v : Int)), vec k) (bv ((arcsE g.Edges).foldl (fedS root rank) fun _ => false)) s).run) (n := g.Vertices.length) (fun i _ => (i : Int)) (fun _ _ => True) (fun r => r = Ex.b ())
  (fun i _ hi _ => by
   have hx : g.Vertices[i]? = some g.Vertices[i] := by simp [hi]
   have hm : g.Vertices[i] ∈ g.Vertices := List.getElem_mem hi
   generalize g.Vertices[i] = v at *
   have hv := h.v v hm
   have hV : isV g v.ID.toNat := ⟨v, hm, rfl⟩
   have hrV := (Lb.scc.mem _ hV).1
   have hr24 := Lb.scc.lt _ hrV
   have hr : (0 : Int) ≤ (root v.ID.toNat : Int) ∧ (root v.ID.toNat : Int) ≤ 23 := by omega
   have hw : IntKind.i64.wrap ((i : Int) + 1) = ((i + 1 : Nat) : Int) := succ_wr hi (by omega)
   have kv := hk _ hV
   have kr := hk _ hrV
   have ec := Lb.rk.cls _ _ hr24 (Lb.scc.lt _ hV) (Lb.scc.root2 hV)
   have hpos := Lb.rk.pos v.ID.toNat
   have hfed : (decide (k v.ID.toNat > 0) == ((arcsE g.Edges).foldl (fedS root rank) fun _ => false) (root v.ID.toNat)) = true := by
    rw [beq_iff_eq, Bool.eq_iff_iff, decide_eq_true_eq, fed_iff]
    constructor
    ·intro hp
     obtain ⟨a, b, ⟨c1, c2⟩, c3, c4⟩ := Lb.rk.why _ (Lb.scc.lt _ hV) (by omega)
     obtain ⟨p, hp1, rfl, rfl⟩ := arcN_mem.1 c1
     have vb := (h.arcE hp1).2.2.2
     have := Lb.rk.cls _ _ (Lb.scc.lt _ vb) (Lb.scc.lt _ hV) c3
     exact .inr ⟨p, hp1, c2, by omega, c3⟩
    ·rintro (c | ⟨p, hp1, c1, c2, c3⟩)
     ·cases c
     ·have vb := (h.arcE hp1).2.2.2
      have := Lb.rk.cls _ _ (Lb.scc.lt _ vb) (Lb.scc.lt _ hV) c3
      have := Lb.rk.pos p.2.1.toNat
      omega
   left
   refine ⟨(), ?_, trivial⟩
   show (f4.l4 (labs g root rank out inn wit, 0) (vec (fun v => (root v : Int)), vec k) (bv _) (i : Int)).run = _
   unfold f4.l4
   dsimp only
   have hv' : 0 ≤ (nm g root rank out inn wit v).ID ∧ (nm g root rank out inn wit v).ID ≤ 23 := hv
   rw [r_brr, L_eq, ln_len, cast_lt_t hi, br_t, getR_s (ln_get hx), ckv hv', rdv hv', ckv hv', rdv hv', ckv hr, rdv hr, r_brr, Int.toNat_natCast,
    show (k (nm g root rank out inn wit v).ID.toNat != k (root (nm g root rank out inn wit v).ID.toNat)) = false from by
     show (k v.ID.toNat != k (root v.ID.toNat)) = false
     rw [show k v.ID.toNat = k (root v.ID.toNat) by omega]; exact bne_self_eq_false _, br_f, ckv hv', rdv hv', r_brr, show decide (k (nm g root rank out inn wit v).ID.toNat < 0) = false from decide_eq_false (by show ¬ k v.ID.toNat < 0; omega), br_f, ckv hv', rdv hv', ckv hv', rdv hv', ck_t (by rw [L_eq, bv_len]; show (0 : Int) ≤ (root v.ID.toNat : Int) ∧ (root v.ID.toNat : Int) < _; omega), at0_nat, rd_s (bv_get hr24), r_brr]
   rw [show (!(decide (k (nm g root rank out inn wit v).ID.toNat > 0) == ((arcsE g.Edges).foldl (fedS root rank) fun _ => false) (root (nm g root rank out inn wit v).ID.toNat))) = false by
    show (!(decide (k v.ID.toNat > 0) == ((arcsE g.Edges).foldl (fedS root rank) fun _ => false) (root v.ID.toNat))) = false
    rw [hfed]; rfl, br_f, hw, r_cont])
  (fun _ _ => by
   refine ⟨_, ?_, rfl⟩
   show (f4.l4 (labs g root rank out inn wit, 0) (vec (fun v => (root v : Int)), vec k) (bv _) (g.Vertices.length : Int)).run = _
   unfold f4.l4
   dsimp only
   rw [r_brr, L_eq, ln_len, cast_lt_f (by omega), br_f]; rfl) (k := fuel) (a := ()) (by have := fuel_pos; omega) trivial
 exact h1
theorem comp1_run (h : Sm g) {Dm : List (List Int)} {i : Nat} {v : Vertex} {t : List Vertex} (hi : Dm[i]? = some ((v :: t).map (·.ID))) (hl : (v :: t).length ≤ 24) (hasc : (v :: t).Pairwise fun a b => a.ID < b.ID) (hd : ∀ u ∈ v :: t, u ∈ g.Vertices ∧ (root u.ID.toNat : Int) = v.ID) (k : Nat → Int) {m : Nat} (hm : m ≤ 100) :
  loopN fuel (fun s : Int × Int => (f4.l5 true (labs g root rank out inn wit, 0) (Dm, 0) (vec (fun v => (root v : Int)), vec k) (i : Int) s.1 s.2).run) ((m : Int), (0 : Int)) = some (Ex.b ((m + (v :: t).length : Nat) : Int)) := by
 have h0 : (getR ((v :: t).map (·.ID)) (0 : Int) : (Int → Pg (Ex Bool Empty Empty)) → _) = getR ((v :: t).map (·.ID)) (0 : Int) := rfl
 obtain ⟨r, h1, rfl⟩ := loop_ix (A := Unit) (f := fun s : Int × Int => (f4.l5 true (labs g root rank out inn wit, 0) (Dm, 0) (vec (fun v => (root v : Int)), vec k) (i : Int) s.1 s.2).run) (n := (v :: t).length) (fun j _ => (((m + j : Nat) : Int), (j : Int))) (fun _ _ => True) (fun r => r = Ex.b ((m + (v :: t).length : Nat) : Int))
  (fun j _ hj _ => by
   have hx : ((v :: t).map (·.ID))[j]? = some ((v :: t)[j]).ID := by rw [List.getElem?_map, List.getElem?_eq_getElem hj]; rfl
   have hmem : (v :: t)[j] ∈ v :: t := List.getElem_mem hj
   obtain ⟨u1, u2⟩ := hd _ hmem
   have hu := h.v _ u1
   have hw : IntKind.i64.wrap ((j : Int) + 1) = ((j + 1 : Nat) : Int) := wr
   have hwm : IntKind.i64.wrap (((m + j : Nat) : Int) + 1) = ((m + (j + 1) : Nat) : Int) := by rw [wr]; omega
   have hhead : ((v :: t).map (·.ID))[(0 : Int).toNat]? = some v.ID := rfl
   have hb : (((root ((v :: t)[j]).ID.toNat : Nat) : Int) != v.ID) = false := by rw [u2]; exact bne_self_eq_false _
   left
   refine ⟨(), ?_, trivial⟩
   show (f4.l5 true (labs g root rank out inn wit, 0) (Dm, 0) (vec (fun v => (root v : Int)), vec k) (i : Int) ((m + j : Nat) : Int) (j : Int)).run = _
   unfold f4.l5
   dsimp only
   rw [getR_s hi, r_brr, L_eq, List.length_map, cast_lt_t hj, br_t, getR_s hi, getR_s hx, r_join1, r_brr, show (decide (((v :: t)[j]).ID < 0) || decide (((v :: t)[j]).ID ≥ 24)) = false from by
    rw [decide_eq_false (by omega), decide_eq_false (by omega)]; rfl, br_f, r_brr]
   by_cases hj0 : j = 0
   ·subst hj0
    rw [show decide (((0 : Nat) : Int) > 0) = false from rfl, br_f, ckv hu, rdv hu, getR_s hi, getR_t (by decide) hhead, r_retA, bd_s, ex_a, hb, r_brr, br_f, hw, hwm, r_cont]
   ·have hj1 : j - 1 < (v :: t).length := by omega
    have hx1 : ((v :: t).map (·.ID))[j - 1]? = some ((v :: t)[j - 1]).ID := by rw [List.getElem?_map, List.getElem?_eq_getElem hj1]; rfl
    have hwj : IntKind.i64.wrap ((j : Int) - 1) = ((j - 1 : Nat) : Int) := by rw [wr]; omega
    have hlt := List.pairwise_iff_getElem.1 hasc (j - 1) j hj1 hj (by omega)
    rw [decide_eq_true (show (j : Int) > 0 by omega), br_t, getR_s hi, hwj, getR_s hx1, r_brr, decide_eq_false (by omega), br_f, ckv hu, rdv hu, getR_s hi, getR_t (by decide) hhead, r_retA, bd_s, ex_a, hb, r_brr, br_f, hw, hwm, r_cont])
  (fun _ _ => by
   refine ⟨_, ?_, rfl⟩
   show (f4.l5 true (labs g root rank out inn wit, 0) (Dm, 0) (vec (fun v => (root v : Int)), vec k) (i : Int) ((m + (v :: t).length : Nat) : Int) ((v :: t).length : Int)).run = _
   unfold f4.l5
   dsimp only
   rw [getR_s hi, r_brr, L_eq, List.length_map, cast_lt_f (by omega), br_f]; rfl) (k := fuel) (a := ()) (by have := fuel_pos; omega) trivial
 exact h1
theorem order_run (h : Sm g) (Lb : Lab g root rank out inn wit) {D : List (List Vertex)} (h1 : ∀ d ∈ D, ∃ v t, d = v :: t ∧ d.Pairwise (fun a b => a.ID < b.ID) ∧ ∀ u ∈ d, u ∈ g.Vertices ∧ (root u.ID.toNat : Int) = v.ID)
  (h2 : D.Pairwise (fun d d' => ∀ u ∈ d, ∀ v ∈ d', ltK root rank u v)) (hfl : D.flatten.length ≤ 24) {k : Nat → Int} (hk : ∀ v, isV g v → k v = rank v) :
  loopN fuel (fun s : Int × Int => (f4.l6 true (labs g root rank out inn wit, 0) (D.map (List.map (·.ID)), 0) (vec (fun v => (root v : Int)), vec k) s.1 s.2).run) ((0 : Int), (0 : Int)) = some (Ex.b (D.flatten.length : Int)) := by
 have hDl : D.length ≤ 24 := by
  have : D.length ≤ D.flatten.length := by
   clear h2 hfl
   induction D with
   | nil => simp
   | cons d D ih =>
    obtain ⟨v, t, e, _⟩ := h1 d (by simp)
    have := ih fun d' hd' => h1 d' (by simp [hd'])
    have : 1 ≤ d.length := by rw [e]; simp
    simp only [List.flatten_cons, List.length_append, List.length_cons]; omega
  omega
 obtain ⟨r, e1, rfl⟩ := loop_ix (A := Unit) (f := fun s : Int × Int => (f4.l6 true (labs g root rank out inn wit, 0) (D.map (List.map (·.ID)), 0) (vec (fun v => (root v : Int)), vec k) s.1 s.2).run) (n := D.length) (fun i _ => (((D.take i).flatten.length : Int), (i : Int))) (fun _ _ => True) (fun r => r = Ex.b (D.flatten.length : Int))
  (fun i _ hi _ => by
   have hm : D[i] ∈ D := List.getElem_mem hi
   have ht : (D.take (i + 1)).flatten.length = (D.take i).flatten.length + D[i].length := by
    rw [List.take_succ_eq_append_getElem hi, List.flatten_append, List.length_append, List.flatten_cons, List.flatten_nil, List.append_nil]
   have hle : (D.take (i + 1)).flatten.length ≤ 24 := by
    have : D.flatten.length = (D.take (i + 1)).flatten.length + (D.drop (i + 1)).flatten.length := by
     rw [← List.length_append, ← List.flatten_append, List.take_append_drop]
    omega
   obtain ⟨v, t, e, hasc, hd⟩ := h1 _ hm
   have hx : (D.map (List.map (·.ID)))[i]? = some ((v :: t).map (·.ID)) := by rw [List.getElem?_map, List.getElem?_eq_getElem hi, e]; rfl
   rw [e] at ht hasc hd
   have hw : IntKind.i64.wrap ((i : Int) + 1) = ((i + 1 : Nat) : Int) := wr
   have hin := comp1_run (g := g) (root := root) (rank := rank) (out := out) (inn := inn) (wit := wit) h hx (by omega) hasc hd k (m := (D.take i).flatten.length) (by omega)
   have hlen : (((L ((v :: t).map (·.ID)) : Nat) : Int) == 0) = false := beq_eq_false_iff_ne.2 (by rw [L_eq]; simp; omega)
   obtain ⟨vm, vr⟩ := hd v (by simp)
   have hv := h.v v vm
   have hhead : ((v :: t).map (·.ID))[(0 : Int).toNat]? = some v.ID := rfl
   left
   refine ⟨(), ?_, trivial⟩
   show (f4.l6 true (labs g root rank out inn wit, 0) (D.map (List.map (·.ID)), 0) (vec (fun v => (root v : Int)), vec k) ((D.take i).flatten.length : Int) (i : Int)).run = some (.cont (((D.take (i + 1)).flatten.length : Int), ((i + 1 : Nat) : Int)))
   rw [ht]
   unfold f4.l6
   dsimp only
   rw [r_brr, L_eq, List.length_map, cast_lt_t hi, br_t, r_loop2, hin, bd_s, ex_b, getR_s hx, r_brr, hlen, br_f, r_brr, hw]
   by_cases hi0 : i = 0
   ·subst hi0
    rw [show decide (((0 : Nat) : Int) > 0) = false from rfl, br_f, r_cont]
   ·have hi1 : i - 1 < D.length := by omega
    obtain ⟨v', t', e', hasc', hd'⟩ := h1 _ (List.getElem_mem hi1)
    have hx1 : (D.map (List.map (·.ID)))[i - 1]? = some ((v' :: t').map (·.ID)) := by rw [List.getElem?_map, List.getElem?_eq_getElem hi1, e']; rfl
    rw [e'] at hd'
    obtain ⟨vm', vr'⟩ := hd' v' (by simp)
    have hv' := h.v v' vm'
    have hhead' : ((v' :: t').map (·.ID))[(0 : Int).toNat]? = some v'.ID := rfl
    have hwj : IntKind.i64.wrap ((i : Int) - 1) = ((i - 1 : Nat) : Int) := by rw [wr]; omega
    have hlt := List.pairwise_iff_getElem.1 h2 (i - 1) i hi1 hi (by omega) v' (by rw [e']; simp) v (by rw [e]; simp)
    have k1 := hk _ (⟨v, vm, rfl⟩ : isV g v.ID.toNat)
    have k2 := hk _ (⟨v', vm', rfl⟩ : isV g v'.ID.toNat)
    unfold ltK at hlt
    rw [decide_eq_true (show (i : Int) > 0 by omega), br_t, hwj, getR_s hx1, getR_t (by decide) hhead', ckv hv', rdv hv', getR_s hx, getR_t (by decide) hhead, ckv hv, rdv hv, r_brr, decide_eq_false (by omega), br_f, getR_s hx1, getR_t (by decide) hhead', ckv hv', rdv hv', getR_s hx, getR_t (by decide) hhead, ckv hv, rdv hv, r_brr]
    by_cases ek : k v'.ID.toNat = k v.ID.toNat
    ·rw [beq_iff_eq.2 ek, br_t, getR_s hx1, getR_t (by decide) hhead', getR_s hx, getR_t (by decide) hhead, r_brr, decide_eq_false (by omega), br_f, r_cont]
    ·rw [beq_eq_false_iff_ne.2 ek, br_f, r_cont])
  (fun _ _ => by
   refine ⟨_, ?_, rfl⟩
   show (f4.l6 true (labs g root rank out inn wit, 0) (D.map (List.map (·.ID)), 0) (vec (fun v => (root v : Int)), vec k) ((D.take D.length).flatten.length : Int) (D.length : Int)).run = _
   unfold f4.l6
   dsimp only
   rw [r_brr, L_eq, List.length_map, cast_lt_f (by omega), br_f, List.take_length]; rfl) (k := fuel) (a := ()) (by have := fuel_pos; omega) trivial
 exact e1
theorem ranks_law {p1 : Int} {p2 : List A5_Int} {p3 : Bool} (h1 : inI64 p1) (h5 : ∀ a ∈ p2, Frs.A5ok a) : (f4 p1 p2 p3).run = some true := by
 obtain ⟨g, hg, hs, hv, hne, hids⟩ := Frs.made_run (p3 := p3) h1 h5
 obtain ⟨root, rank, out, inn, wit, lab, hl⟩ := labelsV_run hs hv
 have h := gv_sm hv
 have hvl := gv_vlen hv
 have hpk := Frs.pk_range h1 (n := 8) (by omega)
 have hlen : g.Vertices.length < 20 := by
  have := congrArg List.length hids
  rw [List.length_map, List.length_map, List.length_range] at this
  rw [this]
  split <;> omega
 obtain ⟨ws, D, c1, c2, c3, c4⟩ := comps_run hs hv hlen lab hl
 obtain ⟨d1, d2⟩ := grp_head h lab c1 c2 c3
 have hfl : D.flatten.length = g.Vertices.length := by rw [c3.flat, c1.length_eq]
 have hmk : ∀ {β γ : Type} [Cel γ] (z : γ) (k : List γ → Pg β), (mk (24 : Int) (24 : Int) z k).run = (k (List.replicate (24 : Int).toNat z)).run := fun z k => by
  show bd (if (0 : Int) ≤ 24 ∧ (24 : Int) ≤ 24 ∧ (24 : Int) ≤ (bigLen : Int) then some (List.replicate (24 : Int).toNat z) else none) (fun l => (k l).run) = _
  rw [if_pos (by unfold bigLen; decide), bd_s]
 obtain ⟨k, e1, hk⟩ := arrays_run h hvl lab (D.map (List.map (·.ID)), 0) (List.replicate (24 : Int).toNat false)
 have e2 := feds_run h (gv_elen hv) lab hk (D.map (List.map (·.ID)), 0)
 have e3 := check_run h hvl lab hk
 have e4 := order_run h lab d1 d2 (by rw [hfl]; exact hvl) hk
 have hz : ((((labs g root rank out inn wit, (0 : Int)) : (List Named) × Int).2 != 0) || (((D.map (List.map (·.ID)), (0 : Int)) : (List (List Int)) × Int).2 != 0)) = false := rfl
 have hc : (((L ((labs g root rank out inn wit, (0 : Int)) : (List Named) × Int).1 : Nat) : Int) != ((L g.Vertices : Nat) : Int)) = false := by
  rw [L_eq, L_eq]
  show (((labs g root rank out inn wit).length : Int) != (g.Vertices.length : Int)) = false
  rw [ln_len]; exact bne_self_eq_false _
 have hend : (((D.flatten.length : Nat) : Int) == ((L ((labs g root rank out inn wit, (0 : Int)) : (List Named) × Int).1 : Nat) : Int)) = true := by
  rw [L_eq]
  show (((D.flatten.length : Nat) : Int) == (((labs g root rank out inn wit).length : Nat) : Int)) = true
  rw [ln_len, hfl]; exact beq_self_eq_true _
 unfold f4
 rw [r_cl, sane_run, bd_s, r_brr, Bool.not_true, br_f, r_cl, hg, bd_s, r_cl, hl, bd_s, r_cl, c4, bd_s, r_join1, r_brr, hz, br_f, r_retA, bd_s, ex_a, r_brr, hc, br_f, hmk, hmk, hmk, r_loop2, e1, bd_s, ex_b, r_loop2, e2, bd_s, ex_b, r_loop2, e3, bd_s, ex_b, r_loop2, e4, bd_s, ex_b, r_ret, hend]
 rfl
end Str
end Go.Fx.Gen
