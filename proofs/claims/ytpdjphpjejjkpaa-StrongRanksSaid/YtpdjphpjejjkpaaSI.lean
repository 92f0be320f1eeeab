/- Inputs of the laws: Made graphs are valid. -/
import Derived.Test.YtpdjphpjejjkpaaTC
import Derived.Test.YtpdjphpjejjkpaaFxM
namespace Go.Fx.Gen
open Go.Fx Go.Proofs
set_option linter.unusedVariables false
namespace Frs
open Trd
theorem wrap_range (x : Int) : inI64 (IntKind.i64.wrap x) := by
 unfold inI64
 rw [IntKind.wrap_i64]
 omega
def pk (c n : Int) : Int := if c < 0 then (IntKind.i64.wrap (0 - (IntKind.i64.wrap (c + 1)))).tmod n else c.tmod n
theorem pk_range {c n : Int} (hc : inI64 c) (hn : 1 ≤ n) : 0 ≤ pk c n ∧ pk c n < n := by
 obtain ⟨h1, h2⟩ := hc
 unfold pk
 split
 ·have e1 : IntKind.i64.wrap (c + 1) = c + 1 := wr
  have e2 : IntKind.i64.wrap (0 - (c + 1)) = 0 - (c + 1) := wr
  rw [e1, e2]
  exact ⟨Int.tmod_nonneg _ (by omega), Int.tmod_lt_of_pos _ (by omega)⟩
 ·exact ⟨Int.tmod_nonneg _ (by omega), Int.tmod_lt_of_pos _ (by omega)⟩
theorem pick50 {c n : Int} (hn : n ≠ 0) : (f20 c n).run = some (pk c n) := by
 unfold pk
 simp only [f20, r_brr, br_dec, r_nzD]
 rw [chk_t hn, bd_s, bd_s, r_ret, r_ret]
 split <;> rfl
structure A5ok (a : A5_Int) : Prop where
 x0 : inI64 a.x0
 x1 : inI64 a.x1
 x2 : inI64 a.x2
 x3 : inI64 a.x3
 x4 : inI64 a.x4
def idf (two : Bool) (i : Nat) : Int := if two then ((i + i / 2 : Nat) : Int) else (i : Int)
theorem idf_lt {two : Bool} {i j : Nat} (h : i < j) : idf two i < idf two j := by unfold idf; split <;> omega
theorem made_v (p1 : Int) (p2 : List A5_Int) (p3 : Bool) (m : Nat) (hm : m ≤ 18) (hm2 : p3 = false → m ≤ 8) (h1 : inI64 p1) :
  ∃ (two : Bool) (vs : List Vertex), loopN fuel (fun s : Int × List Vertex => (f7.l1 p1 p2 p3 (m : Int) s.1 s.2).run) ((0 : Int), ([] : List Vertex)) = some (.a vs) ∧ vs.length = m ∧ (two = true → p3 = false) ∧ two = (!p3 && (pk (IntKind.i64.wrap (p1.tdiv 8)) 2 == 1)) ∧
   ∀ i (h : i < vs.length), vs[i].ID = idf two i ∧ 0 ≤ vs[i].Side ∧ vs[i].Side ≤ 3 := by
 refine ⟨!p3 && (pk (IntKind.i64.wrap (p1.tdiv 8)) 2 == 1), ?_⟩
 obtain ⟨q, hq, vs, rfl, h2, h3⟩ := loop_ix (A := List Vertex) (f := fun s : Int × List Vertex => (f7.l1 p1 p2 p3 (m : Int) s.1 s.2).run) (n := m) (fun i a => ((i : Int), a))
  (fun i a => a.length = i ∧ ∀ j (h : j < a.length), a[j].ID = idf (!p3 && (pk (IntKind.i64.wrap (p1.tdiv 8)) 2 == 1)) j ∧ 0 ≤ a[j].Side ∧ a[j].Side ≤ 3)
  (fun q => ∃ vs, q = .a vs ∧ vs.length = m ∧ ∀ j (h : j < vs.length), vs[j].ID = idf (!p3 && (pk (IntKind.i64.wrap (p1.tdiv 8)) 2 == 1)) j ∧ 0 ≤ vs[j].Side ∧ vs[j].Side ≤ 3)
  (fun i a hi ⟨a1, a2⟩ => by
   have w1 : IntKind.i64.wrap ((i : Int).tdiv 2) = ((i / 2 : Nat) : Int) := by rw [show (2 : Int) = ((2 : Nat) : Int) from rfl, ← Int.ofNat_tdiv]; exact wr
   have w2 : IntKind.i64.wrap ((i : Int) + ((i / 2 : Nat) : Int)) = ((i + i / 2 : Nat) : Int) := Eq.trans wr (by omega)
   have hb : br (!p3) ((cl (f20.ok (IntKind.i64.wrap (p1.tdiv 8)) (2 : Int)) fun y22 => (retA' (y22 == 1) : Pg (Ex Bool Empty Empty))).run) ((retA' false : Pg (Ex Bool Empty Empty)).run) = some (.a (!p3 && (pk (IntKind.i64.wrap (p1.tdiv 8)) 2 == 1))) := by
    rw [r_cl, pick50 (by omega), bd_s, r_ret, r_ret]
    cases p3 <;> rfl
   simp only [f7.l1, r_brr, cast_lt_t hi, br_t, r_join1, hb, bd_s, ex_a, w1, w2, succ_wr hi (by omega)]
   have hb2 : br (!p3 && (pk (IntKind.i64.wrap (p1.tdiv 8)) 2 == 1)) ((retA' ((i + i / 2 : Nat) : Int) : Pg (Ex Int Empty Empty)).run) ((retA' (i : Int) : Pg (Ex Int Empty Empty)).run) = some (.a (idf (!p3 && (pk (IntKind.i64.wrap (p1.tdiv 8)) 2 == 1)) i)) := by
    unfold idf
    cases (!p3 && (pk (IntKind.i64.wrap (p1.tdiv 8)) 2 == 1)) <;> rfl
   rw [hb2, bd_s, ex_a, r_cl, pick50 (by omega), bd_s, r_cl, pick50 (by omega), bd_s, ap_s (by simp; unfold bigLen; omega), r_ret]
   refine .inl ⟨_, rfl, by simp; omega, ?_⟩
   intro j hj
   rw [List.getElem_append]
   split
   ·exact a2 j _
   ·have e : j = i := by rw [List.length_append] at hj; simp at hj; omega
    have := pk_range (wrap_range ((IntKind.i64.wrap (p1.tdiv 16)) + (IntKind.i64.wrap ((i : Int) * (IntKind.i64.wrap (1 + pk (IntKind.i64.wrap (p1.tdiv 64)) 3)))))) (n := 4) (by omega)
    simp only [List.getElem_singleton]
    rw [e]
    exact ⟨rfl, this.1, by omega⟩)
  (fun a ⟨a1, a2⟩ => ⟨.a a, by simp only [f7.l1, r_brr, cast_lt_f (Nat.lt_irrefl _), br_f, r_ret], a, rfl, a1, a2⟩)
  (k := fuel) (by have := fuel_pos; omega) (a := []) ⟨rfl, by intro j h; simp at h⟩
 exact ⟨vs, hq, h2, by cases p3 <;> simp, rfl, h3⟩
theorem made_e (p1 : Int) (p2 : List A5_Int) (m : Nat) (hm : 1 ≤ m ∧ m ≤ 18) (vs : List Vertex) (hv : vs.length = m) (hid : ∀ v ∈ vs, 0 ≤ v.ID ∧ v.ID ≤ 23) (h1 : inI64 p1) (h5 : ∀ a ∈ p2, A5ok a) :
  ∃ (c : Int) (es : List Edge), loopN fuel (fun s : Int × List Edge => (f7.l2 p1 p2 (m : Int) vs s.1 s.2).run) ((0 : Int), ([] : List Edge)) = some (.a es) ∧ es.length ≤ 20 ∧ 0 ≤ c ∧ c ≤ 19 ∧
   ∀ i (h : i < es.length), es[i].ID = (i : Int) + c ∧ EOk es[i] ∧ (∃ v ∈ vs, v.ID = es[i].From) ∧ ∃ v ∈ vs, v.ID = es[i].To := by
 have hc := pk_range (wrap_range (p1.tdiv 4)) (n := 20) (by omega)
 refine ⟨pk (IntKind.i64.wrap (p1.tdiv 4)) 20, ?_⟩
 generalize hcc : pk (IntKind.i64.wrap (p1.tdiv 4)) 20 = c at hc ⊢
 obtain ⟨q, hq, es, rfl, h2, h3⟩ := loop_ix (A := List Edge) (f := fun s : Int × List Edge => (f7.l2 p1 p2 (m : Int) vs s.1 s.2).run) (n := min p2.length 20) (fun i a => ((i : Int), a))
  (fun i a => a.length = i ∧ ∀ j (h : j < a.length), a[j].ID = (j : Int) + c ∧ EOk a[j] ∧ (∃ v ∈ vs, v.ID = a[j].From) ∧ ∃ v ∈ vs, v.ID = a[j].To)
  (fun q => ∃ es, q = .a es ∧ es.length ≤ 20 ∧ ∀ j (h : j < es.length), es[j].ID = (j : Int) + c ∧ EOk es[j] ∧ (∃ v ∈ vs, v.ID = es[j].From) ∧ ∃ v ∈ vs, v.ID = es[j].To)
  (fun i a hi ⟨a1, a2⟩ => by
   have hi1 : i < p2.length := by omega
   have hi2 : i < 20 := by omega
   have hx : p2[i]? = some p2[i] := by simp [hi1]
   have h5i := h5 _ (List.getElem_mem hi1)
   generalize p2[i] = z at hx h5i
   have hcond : ((decide ((i : Int) < ((L p2 : Nat) : Int))) && (decide ((i : Int) < 20))) = true := by rw [L_eq]; simp; omega
   have r0 := pk_range h5i.x0 (n := (m : Int)) (by omega)
   have r1 := pk_range h5i.x1 (n := (m : Int)) (by omega)
   have r3 := pk_range h5i.x3 (n := 12) (by omega)
   have r32 := pk_range h5i.x3 (n := 2001) (by omega)
   have r4 := pk_range h5i.x4 (n := 6) (by omega)
   have hm0 : (m : Int) ≠ 0 := by omega
   obtain ⟨u0, hu0⟩ : ∃ u : Nat, pk z.x0 (m : Int) = (u : Int) := ⟨(pk z.x0 (m : Int)).toNat, by omega⟩
   obtain ⟨u1, hu1⟩ : ∃ u : Nat, pk z.x1 (m : Int) = (u : Int) := ⟨(pk z.x1 (m : Int)).toNat, by omega⟩
   have g0 : vs[u0]? = some vs[u0] := List.getElem?_eq_getElem (by omega)
   have g1 : vs[u1]? = some vs[u1] := List.getElem?_eq_getElem (by omega)
   have m0 : vs[u0] ∈ vs := List.getElem_mem _
   have m1 : vs[u1] ∈ vs := List.getElem_mem _
   have wid : IntKind.i64.wrap ((i : Int) + c) = (i : Int) + c := wr
   have ww1 : IntKind.i64.wrap (pk z.x3 2001 - 1000) = pk z.x3 2001 - 1000 := wr
   have ww2 : IntKind.i64.wrap (pk z.x3 12 - 3) = pk z.x3 12 - 3 := wr
   simp only [f7.l2, r_brr, hcond, br_t, r_cl, pick50 (show (20 : Int) ≠ 0 by omega), pick50 (show (2 : Int) ≠ 0 by omega), pick50 (show (12 : Int) ≠ 0 by omega), pick50 (show (6 : Int) ≠ 0 by omega), pick50 (show (11 : Int) ≠ 0 by omega), pick50 (show (2001 : Int) ≠ 0 by omega), pick50 hm0, bd_s, getR_s hx, hu0, hu1, hcc, wid, ww1, ww2, succ_wr hi2 (by omega)]
   rw [ck_t (by rw [L_eq]; omega), at0_nat, rd_s g0]
   simp only [getR_s hx, r_cl, pick50 hm0, bd_s, hu1]
   rw [ck_t (by rw [L_eq]; omega), at0_nat, rd_s g1]
   simp only [getR_s hx, r_cl, pick50 (show (20 : Int) ≠ 0 by omega), pick50 (show (2 : Int) ≠ 0 by omega), pick50 (show (12 : Int) ≠ 0 by omega), pick50 (show (6 : Int) ≠ 0 by omega), pick50 (show (11 : Int) ≠ 0 by omega), pick50 (show (2001 : Int) ≠ 0 by omega), bd_s, r_join1, r_brr, r_ret, ww1, ww2]
   have fin : ∀ wt : Int, -1000 ≤ wt ∧ wt ≤ 1000 → (∃ a', (ap a ([(Edge.mk ((i : Int) + c) vs[u0].ID vs[u1].ID (pk z.x2 2 == 1) wt (pk z.x4 6))] : List Edge) fun l89 => (cont (((i + 1 : Nat) : Int), l89) : Pg (Nx (Int × List Edge) (Ex (List Edge) Empty Empty)))).run = some (.cont (((i + 1 : Nat) : Int), a')) ∧ (a'.length = i + 1 ∧ ∀ j (h : j < a'.length), a'[j].ID = (j : Int) + c ∧ EOk a'[j] ∧ (∃ v ∈ vs, v.ID = a'[j].From) ∧ ∃ v ∈ vs, v.ID = a'[j].To)) := by
    intro wt hwt
    refine ⟨_, by rw [ap_s (by simp; unfold bigLen; omega), r_ret], by simp; omega, ?_⟩
    intro j hj
    rw [List.getElem_append]
    split
    ·exact a2 j _
    ·have e : j = i := by rw [List.length_append] at hj; simp at hj; omega
     subst e
     simp only [List.getElem_singleton]
     exact ⟨by first | trivial | rfl, ⟨by simp only; omega, hid _ m0, hid _ m1, hwt, by simp only; omega⟩, ⟨_, m0, rfl⟩, ⟨_, m1, rfl⟩⟩
   cases (pk z.x4 11 == 10) with
   | true =>
    rw [br_t, bd_s, ex_a]
    exact .inl (fin _ (by omega))
   | false =>
    rw [br_f, bd_s, ex_a]
    exact .inl (fin _ (by omega)))
  (fun a ⟨a1, a2⟩ => by
   have hcond : ((decide (((min p2.length 20 : Nat) : Int) < ((L p2 : Nat) : Int))) && (decide (((min p2.length 20 : Nat) : Int) < 20))) = false := by rw [L_eq]; simp; omega
   exact ⟨.a a, by simp only [f7.l2, r_brr, hcond, br_f, r_ret], a, rfl, by omega, a2⟩)
  (k := fuel) (by have := fuel_pos; omega) (a := []) ⟨rfl, by intro j h; simp at h⟩
 exact ⟨es, hq, h2, hc.1, by omega, h3⟩
theorem made_d (p1 : Int) (m : Nat) (hm : 1 ≤ m ∧ m ≤ 18) (vs : List Vertex) (hv : vs.length = m) (hA : Asc Vertex.ID vs) (h1 : inI64 p1) :
  ∃ ds : List Int, loopN fuel (fun s : Int × List Int => (f7.l3 p1 (m : Int) vs s.1 s.2).run) ((0 : Int), ([] : List Int)) = some (.a ds) ∧ ds.length ≤ 3 ∧ Asc id ds ∧ ∀ x ∈ ds, ∃ v ∈ vs, v.ID = x := by
 have hc := pk_range (wrap_range (p1.tdiv 32)) (n := 4) (by omega)
 obtain ⟨k, hk⟩ : ∃ k : Nat, pk (IntKind.i64.wrap (p1.tdiv 32)) 4 = (k : Int) := ⟨(pk (IntKind.i64.wrap (p1.tdiv 32)) 4).toNat, by omega⟩
 have hk3 : k ≤ 3 := by omega
 obtain ⟨q, hq, ds, rfl, h2, h3⟩ := loop_ix (A := List Int) (f := fun s : Int × List Int => (f7.l3 p1 (m : Int) vs s.1 s.2).run) (n := min k m) (fun i a => ((i : Int), a))
  (fun i a => a = (vs.take i).map Vertex.ID)
  (fun q => ∃ ds, q = .a ds ∧ ds.length ≤ 3 ∧ ds = (vs.take (min k m)).map Vertex.ID)
  (fun i a hi ha => by
   have hx : vs[i]? = some vs[i] := List.getElem?_eq_getElem (by omega)
   have hcond : ((decide ((i : Int) < (k : Int))) && (decide ((i : Int) < (m : Int)))) = true := by simp; omega
   have hlen : a.length ≤ i := by rw [ha]; simp; omega
   simp only [f7.l3, r_cl, pick50 (show (4 : Int) ≠ 0 by omega), bd_s, hk, r_brr, hcond, br_t, succ_wr hi (by omega)]
   rw [ck_t (by rw [L_eq]; omega), at0_nat, rd_s hx, ap_s (by simp; unfold bigLen; omega), r_ret]
   exact .inl ⟨_, rfl, by rw [List.take_succ_eq_append_getElem (by omega), List.map_append, ← ha]; rfl⟩)
  (fun a ha => by
   have hcond : ((decide (((min k m : Nat) : Int) < (k : Int))) && (decide (((min k m : Nat) : Int) < (m : Int)))) = false := by simp; omega
   exact ⟨.a a, by simp only [f7.l3, r_cl, pick50 (show (4 : Int) ≠ 0 by omega), bd_s, hk, r_brr, hcond, br_f, r_ret], a, rfl, by rw [ha]; simp; omega, ha⟩)
  (k := fuel) (by have := fuel_pos; omega) (a := []) (by simp)
 refine ⟨ds, hq, h2, ?_, ?_⟩
 ·subst h3
  intro i j hi hj hij
  simp only [id, List.getElem_map, List.getElem_take]
  simp at hi hj
  exact hA i j (by omega) (by omega) hij
 ·subst h3
  intro x hx
  rw [List.mem_map] at hx
  obtain ⟨v, hv, rfl⟩ := hx
  exact ⟨v, List.mem_of_mem_take hv, rfl⟩
theorem made_run {p1 : Int} {p2 : List A5_Int} {p3 : Bool} (h1 : inI64 p1) (h5 : ∀ a ∈ p2, A5ok a) :
  ∃ g, (f7 p1 p2 p3).run = some g ∧ Small g ∧ GV g ∧ g.Vertices ≠ [] ∧ g.Vertices.map (·.ID) = (List.range (if p3 then ((1 + pk p1 8) + 10).toNat else (1 + pk p1 8).toNat)).map (idf (!p3 && (pk (IntKind.i64.wrap (p1.tdiv 8)) 2 == 1))) := by
 have r4 := pk_range h1 (n := 8) (by omega)
 obtain ⟨m, hme, hm, hm1, hmj⟩ : ∃ m : Nat, m = (if p3 then ((1 + pk p1 8) + 10).toNat else (1 + pk p1 8).toNat) ∧ (1 ≤ m ∧ m ≤ 18) ∧ (p3 = false → m ≤ 8) ∧
   br p3 ((retA' (IntKind.i64.wrap ((IntKind.i64.wrap (1 + pk p1 8)) + 10)) : Pg (Ex Int Empty Empty)).run) ((retA' (IntKind.i64.wrap (1 + pk p1 8)) : Pg (Ex Int Empty Empty)).run) = some (.a (m : Int)) := by
  have w1 : IntKind.i64.wrap (1 + pk p1 8) = 1 + pk p1 8 := wr
  have w2 : IntKind.i64.wrap ((1 + pk p1 8) + 10) = (1 + pk p1 8) + 10 := wr
  rw [w1, w2]
  cases p3 with
  | true => exact ⟨((1 + pk p1 8) + 10).toNat, rfl, by omega, by simp, by rw [br_t, r_ret]; congr 2; omega⟩
  | false => exact ⟨(1 + pk p1 8).toNat, rfl, by omega, by intro _; omega, by rw [br_f, r_ret]; congr 2; omega⟩
 obtain ⟨two, vs, v1, v2, v3, vt, v4⟩ := made_v p1 p2 p3 m hm.2 hm1 h1
 have hidv : ∀ i (h : i < vs.length), 0 ≤ vs[i].ID ∧ vs[i].ID ≤ 23 := by
  intro i h
  rw [(v4 i h).1]
  unfold idf
  cases two with
  | true => have := hm1 (v3 rfl); simp only [if_true]; omega
  | false => simp only [Bool.false_eq_true, if_false]; omega
 have hA : Asc Vertex.ID vs := by
  intro i j hi hj hij
  rw [(v4 i hi).1, (v4 j hj).1]; exact idf_lt hij
 have hidm : ∀ v ∈ vs, 0 ≤ v.ID ∧ v.ID ≤ 23 := fun v hv => by
  obtain ⟨i, hi, rfl⟩ := List.getElem_of_mem hv; exact hidv i hi
 obtain ⟨c, es, e1, e2, e3, e4, e5⟩ := made_e p1 p2 m hm vs v2 hidm h1 h5
 obtain ⟨ds, d1, d2, d3, d4⟩ := made_d p1 m hm vs v2 hA h1
 refine ⟨⟨vs, es, ds⟩, ?_, ⟨by simp only; omega, by simp only; omega, by simp only; omega⟩, ⟨hA, ?_, d3, ?_, ?_, fun x hx => d4 x hx, d2⟩, fun h => ?_, ?_⟩
 ·simp only [f7]
  rw [r_cl, pick50 (by omega), bd_s, r_join1, r_brr, hmj, bd_s, ex_a, r_loop1, v1, bd_s, ex_a, r_loop1, e1, bd_s, ex_a, r_loop1, d1, bd_s, ex_a, r_ret]
 ·intro i j hi hj hij
  have hi' : i < es.length := hi
  have hj' : j < es.length := hj
  show es[i].ID < es[j].ID
  rw [(e5 i hi').1, (e5 j hj').1]; omega
 ·intro v hv
  obtain ⟨i, hi, rfl⟩ := List.getElem_of_mem hv
  exact ⟨hidv i hi, (v4 i hi).2⟩
 ·intro e he
  obtain ⟨i, hi, rfl⟩ := List.getElem_of_mem he
  exact ⟨(e5 i hi).2.1, (e5 i hi).2.2.1, (e5 i hi).2.2.2⟩
 ·have : vs = [] := h
  rw [this] at v2; simp at v2; omega
 ·show vs.map (·.ID) = _
  rw [← hme, ← vt]
  refine List.ext_getElem (by simp [v2]) fun i h h' => ?_
  rw [List.getElem_map, List.getElem_map, List.getElem_range]
  exact (v4 i (by simpa using h)).1
end Frs
end Go.Fx.Gen
