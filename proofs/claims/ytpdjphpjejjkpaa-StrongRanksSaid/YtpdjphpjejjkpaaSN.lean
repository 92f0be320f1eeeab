/- Components: sorted, and put together. -/
import Derived.Test.YtpdjphpjejjkpaaSM
namespace Go.Fx
section
variable {P : Program} {β : Type}
theorem r_sloW {t m : Nat} {k : Prg P β} : (sloW t m k).run = k.run := rfl
theorem r_bsN {d : Nat} {k : Prg P β} : (bsN d k).run = k.run := rfl
theorem r_lastW {t m : Nat} {R : List (List Int)} {k : Prg P β} : (lastW t m R k).run = k.run := rfl
theorem r_shutW {t : Nat} {R : List (List Int)} {b : Bool} {l : List Int} {k : List (List Int) → Prg P β} : (shutW t R b l k).run = (k (allR R b l)).run := rfl
theorem apNil_s {R : List (List Int)} {k : Prg P β} (h : R.length < bigLen) : (apNil R k).run = k.run := by
 show bd (if R.length < bigLen then some () else none) (fun _ => k.run) = _
 rw [if_pos h]; rfl
theorem ldL_s {R : List (List Int)} {ri : Nat} {k : Prg P β} (h : ri = R.length) : (ldL R true ri k).run = k.run := by
 show bd (chk (true = true ∧ ri = R.length)) (fun _ => k.run) = _
 rw [chk_t ⟨rfl, h⟩]; rfl
theorem stL_s {R : List (List Int)} {ri : Nat} {k : Prg P β} (h : ri = R.length) : (stL R true ri k).run = k.run := by
 show bd (chk (true = true ∧ ri = R.length)) (fun _ => k.run) = _
 rw [chk_t ⟨rfl, h⟩]; rfl
end
namespace Gen
open Go.Proofs
set_option linter.unusedVariables false
namespace Str
open Go.Fx.Str
variable {g : Graph} {root : Nat → Nat} {rank out inn wit : Nat → Int}
theorem insert_run {ws : List Vertex} (hl : ws.length < 20) (hA : ws.Pairwise fun a b => a.ID < b.ID) :
  ∃ B : List Vertex, (f81v1 0 (ws.length : Int) (ws.map (nm g root rank out inn wit))).run = some (B.map (nm g root rank out inn wit)) ∧ B.Pairwise (lt3 root rank) ∧ B.Perm ws := by
 have step : ∀ (i : Nat) (B : List Vertex) (hi : i < ws.length), B.Pairwise (lt3 root rank) → B.Perm (ws.take i) → ∃ B' : List Vertex, (f81v1.l2 0 (ws.length : Int) (i : Int) ((B ++ ws.drop i).map (nm g root rank out inn wit))).run = some (.cont (((i + 1 : Nat) : Int), (B' ++ ws.drop (i + 1)).map (nm g root rank out inn wit))) ∧ B'.Pairwise (lt3 root rank) ∧ B'.Perm (ws.take (i + 1)) := by
  intro i B hi hB hP
  have hBl : B.length = i := by rw [hP.length_eq, List.length_take]; omega
  have hd : ws.drop i = ws[i] :: ws.drop (i + 1) := List.drop_eq_getElem_cons hi
  have hx : ∀ a ∈ B, a.ID < ws[i].ID := fun a ha => by
   have ha := hP.mem_iff.1 ha
   obtain ⟨j, hj, e⟩ := List.getElem_of_mem ha
   rw [List.length_take] at hj
   rw [← e, List.getElem_take]
   exact List.pairwise_iff_getElem.1 hA j i (by omega) hi (by omega)
  obtain ⟨B', h1, h2, h3⟩ := inner_sort (g := g) (root := root) (rank := rank) (out := out) (inn := inn) (wit := wit) (i := i) (A0 := B) (x := ws[i]) (D := ws.drop (i + 1)) (by simp; omega) hB hx (ws.length : Int) (i : Int)
  refine ⟨B', ?_, h2, h3.trans ?_⟩
  ·rw [hd]
   unfold f81v1.l2
   rw [r_brr, show decide ((i : Int) < (ws.length : Int)) = true from decide_eq_true (by omega), br_t, r_loop1]
   rw [hBl] at h1
   rw [h1, bd_s, ex_a, r_cont, wr]
   rfl
  ·rw [List.take_succ_eq_append_getElem hi]
   exact hP.append_right _
 have fin : ∀ (n : Nat) (B : List Vertex), ws.length ≤ n → (f81v1.l2 0 (ws.length : Int) (n : Int) (B.map (nm g root rank out inn wit))).run = some (.done (.a (B.map (nm g root rank out inn wit)))) := by
  intro n B hn
  unfold f81v1.l2
  rw [r_brr, show decide ((n : Int) < (ws.length : Int)) = false from decide_eq_false (by omega), br_f]; rfl
 obtain ⟨r, h1, B, rfl, h2, h3⟩ := loop_of (f := fun s : Int × List Named => (f81v1.l2 0 (ws.length : Int) s.1 s.2).run)
  (I := fun s => ∃ (i : Nat) (B : List Vertex), s = ((i : Int), (B ++ ws.drop i).map (nm g root rank out inn wit)) ∧ B.Pairwise (lt3 root rank) ∧ B.Perm (ws.take i))
  (Q := fun r => ∃ B : List Vertex, r = Ex.a (B.map (nm g root rank out inn wit)) ∧ B.Pairwise (lt3 root rank) ∧ B.Perm ws) (m := fun s => 100 - s.1.toNat) (fun s ⟨i, B, hs, hB, hP⟩ => by
   subst hs
   by_cases hi : i < ws.length
   ·left
    obtain ⟨B', e1, e2, e3⟩ := step i B hi hB hP
    exact ⟨_, e1, ⟨i + 1, B', rfl, e2, e3⟩, by show 100 - (((i + 1 : Nat) : Int)).toNat < 100 - ((i : Int)).toNat; omega⟩
   ·right
    have hd : ws.drop i = [] := List.drop_eq_nil_of_le (by omega)
    have ht : ws.take i = ws := List.take_of_length_le (by omega)
    refine ⟨_, fin i (B ++ ws.drop i) (by omega), B, by rw [hd, List.append_nil], hB, by rw [ht] at hP; exact hP⟩) fuel ((1 : Int), ws.map (nm g root rank out inn wit))
  (by
   cases ws with
   | nil => exact ⟨1, [], rfl, .nil, .nil⟩
   | cons w ws => exact ⟨1, [w], by simp, List.pairwise_singleton _ _, by simp⟩) (by have := fuel_pos; show 100 - _ < fuel; omega)
 refine ⟨B, ?_, h2, h3⟩
 unfold f81v1
 rw [r_loop1, show IntKind.i64.wrap ((0 : Int) + 1) = 1 from rfl, h1, bd_s, ex_a, r_ret]
theorem sort_run {ws : List Vertex} (hl : ws.length < 20) (hA : ws.Pairwise fun a b => a.ID < b.ID) :
  ∃ B : List Vertex, (f34v1 (ws.map (nm g root rank out inn wit))).run = some (B.map (nm g root rank out inn wit)) ∧ B.Pairwise (lt3 root rank) ∧ B.Perm ws := by
 obtain ⟨B, h1, h2, h3⟩ := insert_run (g := g) (root := root) (rank := rank) (out := out) (inn := inn) (wit := wit) hl hA
 refine ⟨B, ?_, h2, h3⟩
 obtain ⟨m, hm⟩ : ∃ m, fuel = m + 1 := ⟨fuel - 1, by have := fuel_pos; omega⟩
 have e1 : ∀ l : List Named, loopN fuel (fun s : Int × Int × List Named => (f63v1.l1 (ws.length : Int) s.1 s.2.1 s.2.2).run) ((0 : Int), (20 : Int), l) = some (Ex.a ((0 : Int), l)) := by
  intro l
  rw [hm, loopN_succ]
  have : (f63v1.l1 (ws.length : Int) (0 : Int) (20 : Int) l).run = some (.done (.a ((0 : Int), l))) := by
   unfold f63v1.l1
   rw [r_brr, show decide ((20 : Int) ≤ (ws.length : Int)) = false from decide_eq_false (by omega), br_f]; rfl
  rw [this, stp_d]
 have e2 : ∀ l : List Named, loopN fuel (fun s : Int × List Named => (f63v1.l3 (ws.length : Int) s.1 s.2).run) ((20 : Int), l) = some (Ex.a l) := by
  intro l
  rw [hm, loopN_succ]
  have : (f63v1.l3 (ws.length : Int) (20 : Int) l).run = some (.done (.a l)) := by
   unfold f63v1.l3
   rw [r_brr, show decide ((20 : Int) < (ws.length : Int)) = false from decide_eq_false (by omega), br_f]; rfl
  rw [this, stp_d]
 have e3 : (f63v1 (ws.length : Int) (ws.map (nm g root rank out inn wit))).run = some (B.map (nm g root rank out inn wit)) := by
  unfold f63v1
  rw [r_loop1, e1, bd_s, ex_a, r_cl, h1, bd_s, r_loop1, e2, bd_s, ex_a, r_ret]
 have e4 : (f63v1 ((L (ws.map (nm g root rank out inn wit)) : Nat) : Int) (ws.map (nm g root rank out inn wit))).run = some (B.map (nm g root rank out inn wit)) := by
  rw [L_eq, List.length_map]; exact e3
 unfold f34v1
 rw [r_cl, e4, bd_s, r_ret]
structure Grp (root : Nat → Nat) (ws : List Vertex) (D : List (List Vertex)) : Prop where
 flat : D.flatten = ws
 ne : ∀ d ∈ D, d ≠ []
 eq : ∀ d ∈ D, ∀ u ∈ d, ∀ v ∈ d, root u.ID.toNat = root v.ID.toNat
 apart : D.Pairwise fun d d' => ∀ u ∈ d, ∀ v ∈ d', root u.ID.toNat ≠ root v.ID.toNat
theorem Grp.new {ws : List Vertex} {D : List (List Vertex)} (h : Grp root ws D) {v : Vertex} (hv : ∀ u ∈ ws, root u.ID.toNat ≠ root v.ID.toNat) : Grp root (ws ++ [v]) (D ++ [[v]]) := by
 refine ⟨by simp [h.flat], fun d hd => ?_, fun d hd u hu w hw => ?_, ?_⟩
 ·rcases List.mem_append.1 hd with hd | hd
  ·exact h.ne d hd
  ·simp only [List.mem_singleton] at hd; subst hd; simp
 ·rcases List.mem_append.1 hd with hd | hd
  ·exact h.eq d hd u hu w hw
  ·simp only [List.mem_singleton] at hd; subst hd
   simp only [List.mem_singleton] at hu hw
   rw [hu, hw]
 ·rw [List.pairwise_append]
  refine ⟨h.apart, List.pairwise_singleton _ _, fun d hd d' hd' u hu w hw => ?_⟩
  simp only [List.mem_singleton] at hd'; subst hd'
  simp only [List.mem_singleton] at hw; subst hw
  exact hv u (by rw [← h.flat]; exact List.mem_flatten.2 ⟨d, hd, hu⟩)
theorem Grp.more {ws : List Vertex} {D : List (List Vertex)} {d : List Vertex} (h : Grp root ws (D ++ [d])) {v u : Vertex} (hu : u ∈ d) (hv : root u.ID.toNat = root v.ID.toNat) : Grp root (ws ++ [v]) (D ++ [d ++ [v]]) := by
 have h1 := h.eq d (by simp)
 have h2 := List.pairwise_append.1 h.apart
 refine ⟨?_, fun d' hd => ?_, fun d' hd a ha b hb => ?_, ?_⟩
 ·have := h.flat; simp at this ⊢; rw [← this]; simp
 ·rcases List.mem_append.1 hd with hd | hd
  ·exact h.ne d' (List.mem_append.2 (.inl hd))
  ·simp only [List.mem_singleton] at hd; subst hd; simp
 ·rcases List.mem_append.1 hd with hd | hd
  ·exact h.eq d' (List.mem_append.2 (.inl hd)) a ha b hb
  ·simp only [List.mem_singleton] at hd; subst hd
   have key : ∀ x ∈ d ++ [v], root x.ID.toNat = root v.ID.toNat := fun x hx => by
    rcases List.mem_append.1 hx with hx | hx
    ·exact (h1 x hx u hu).trans hv
    ·simp only [List.mem_singleton] at hx; rw [hx]
   rw [key a ha, key b hb]
 ·rw [List.pairwise_append]
  refine ⟨h2.1, List.pairwise_singleton _ _, fun d' hd' d'' hd'' a ha b hb => ?_⟩
  simp only [List.mem_singleton] at hd''; subst hd''
  rcases List.mem_append.1 hb with hb | hb
  ·exact h2.2.2 d' hd' d (by simp) a ha b hb
  ·simp only [List.mem_singleton] at hb; subst hb
   rw [← hv]; exact h2.2.2 d' hd' d (by simp) a ha u hu
theorem group_run (L : Lab g root rank out inn wit) {ws : List Vertex} (hl : ws.length < 20) (hS : ws.Pairwise (lt3 root rank)) (hV : ∀ v ∈ ws, isV g v.ID.toNat) :
  ∃ D, Grp root ws D ∧ ∃ R b l, loopN fuel (fun s : Int × (List (List Int)) × Bool × (List Int) => (f11v1.l1 (ws.map (nm g root rank out inn wit)) s.1 s.2.1 s.2.2.1 s.2.2.2).run) ((0 : Int), ([] : List (List Int)), false, ([] : List Int)) = some (.a (R, b, l)) ∧ allR R b l = D.map (List.map (·.ID)) := by
 have rk : ∀ u v : Vertex, u ∈ ws → v ∈ ws → root u.ID.toNat = root v.ID.toNat → rank u.ID.toNat = rank v.ID.toNat := fun u v hu hv e => L.rk.cls _ _ (L.scc.lt _ (hV u hu)) (L.scc.lt _ (hV v hv)) e
 obtain ⟨r, h1, D, h2, R, b, l, rfl, h3⟩ := loop_ix (f := fun s : Int × (List (List Int)) × Bool × (List Int) => (f11v1.l1 (ws.map (nm g root rank out inn wit)) s.1 s.2.1 s.2.2.1 s.2.2.2).run) (n := ws.length) (fun i (a : (List (List Int)) × Bool × (List Int)) => ((i : Int), a.1, a.2.1, a.2.2))
  (fun i a => ∃ D, Grp root (ws.take i) D ∧ allR a.1 a.2.1 a.2.2 = D.map (List.map (·.ID)) ∧ (a.2.1 = true ↔ i ≠ 0) ∧ a.1.length ≤ i ∧ a.2.2.length ≤ i)
  (fun r => ∃ D, Grp root ws D ∧ ∃ R b l, r = Ex.a (R, b, l) ∧ allR R b l = D.map (List.map (·.ID)))
  (fun i a hi ⟨D, hG, hR, hb, hlen, hll⟩ => by
   obtain ⟨R, b, l⟩ := a
   simp only at hR hb hlen hll
   have hx : (ws.map (nm g root rank out inn wit))[i]? = some (nm g root rank out inn wit ws[i]) := by simp [hi]
   have hm : ws[i] ∈ ws := List.getElem_mem hi
   have ht : ws.take (i + 1) = ws.take i ++ [ws[i]] := List.take_succ_eq_append_getElem hi
   have ci : (0 : Int) ≤ (i : Int) ∧ (i : Int) < ((Go.Fx.L (ws.map (nm g root rank out inn wit)) : Nat) : Int) := by rw [L_eq, List.length_map]; omega
   have hw : IntKind.i64.wrap ((i : Int) + 1) = ((i + 1 : Nat) : Int) := wr
   have ask : ∃ n : Bool, (∀ k : Bool → Pg (Nx (Int × (List (List Int)) × Bool × (List Int)) (Ex ((List (List Int)) × Bool × (List Int)) Empty Empty)), ∀ xa, (join1 (.reg 9) (brr ((i : Int) == 0) (retA' true) (ck (IntKind.i64.wrap ((i : Int) - 1)) (Go.Fx.L (ws.map (nm g root rank out inn wit))) <| rd (ws.map (nm g root rank out inn wit)) (at0 (IntKind.i64.wrap ((i : Int) - 1))) fun a17 =>
     getR a17.Label (0 : Int) fun a18 => getR (nm g root rank out inn wit ws[i]).Label (0 : Int) fun a19 => retA' (a18 != a19))) xa k).run = (k n).run) ∧
     ((n = true ∧ ∀ u ∈ ws.take i, root u.ID.toNat ≠ root ws[i].ID.toNat) ∨ (n = false ∧ i ≠ 0 ∧ ∃ (h : i - 1 < ws.length), root ws[i - 1].ID.toNat = root ws[i].ID.toNat)) := by
    by_cases h0 : i = 0
    ·subst h0
     refine ⟨true, fun k xa => ?_, .inl ⟨rfl, by simp⟩⟩
     rw [r_join1, r_brr, show (((0 : Nat) : Int) == 0) = true from rfl, br_t, r_retA, bd_s, ex_a]
    ·have hi1 : i - 1 < ws.length := by omega
     have hwm : IntKind.i64.wrap ((i : Int) - 1) = ((i - 1 : Nat) : Int) := by rw [wr]; omega
     have hx1 : (ws.map (nm g root rank out inn wit))[i - 1]? = some (nm g root rank out inn wit ws[i - 1]) := by simp [hi1]
     have c1 : (0 : Int) ≤ ((i - 1 : Nat) : Int) ∧ ((i - 1 : Nat) : Int) < ((Go.Fx.L (ws.map (nm g root rank out inn wit)) : Nat) : Int) := by rw [L_eq, List.length_map]; omega
     refine ⟨((root ws[i - 1].ID.toNat : Int) != (root ws[i].ID.toNat : Int)), fun k xa => ?_, ?_⟩
     ·rw [r_join1, r_brr, show ((i : Int) == 0) = false from beq_eq_false_iff_ne.2 (by omega), br_f, hwm, ck_t c1, at0_nat, rd_s hx1, lab0', lab0', r_retA, bd_s, ex_a]
     ·by_cases e : root ws[i - 1].ID.toNat = root ws[i].ID.toNat
      ·exact .inr ⟨by rw [e]; exact bne_self_eq_false _, h0, hi1, e⟩
      ·refine .inl ⟨bne_iff_ne.2 fun k => e (by omega), fun u hu hr => e ?_⟩
       obtain ⟨j, hj, ej⟩ := List.getElem_of_mem hu
       rw [List.length_take] at hj
       rw [List.getElem_take] at ej
       have hjw : j < ws.length := by omega
       by_cases hji : j = i - 1
       ·subst hji; rw [ej]; exact hr
       ·have o1 := List.pairwise_iff_getElem.1 hS j (i - 1) hjw hi1 (by omega)
        have o2 := List.pairwise_iff_getElem.1 hS (i - 1) i hi1 hi (by omega)
        rw [ej] at o1
        have hum : u ∈ ws := by rw [← ej]; exact List.getElem_mem hjw
        have hrk := rk u ws[i] hum hm hr
        unfold lt3 ltK at o1 o2
        omega
   obtain ⟨n, hn, hcase⟩ := ask
   left
   show ∃ a', (f11v1.l1 (ws.map (nm g root rank out inn wit)) (i : Int) R b l).run = _ ∧ _
   unfold f11v1.l1
   rw [r_brr, L_eq, List.length_map, show decide ((i : Int) < (ws.length : Int)) = true from decide_eq_true (by omega), br_t]
   have ci' : (0 : Int) ≤ (i : Int) ∧ (i : Int) < ((ws.length : Nat) : Int) := by omega
   have hn' := hn
   rw [L_eq, List.length_map] at hn'
   rw [ck_t ci', at0_nat, rd_s hx, hn', r_join1, r_brr]
   have tail : ∀ (R : List (List Int)) (l : List Int), R.length ≤ i → l.length ≤ i → ∀ j : Int, j = IntKind.i64.wrap ((((toks R true).length : Nat) : Int) - 1) →
     (ck j (toks R true).length <| ldL R true (at0 j) <| ap l ([ws[i].ID] : List Int) fun l23 => ck j (toks R true).length <| stL R true (at0 j) <| (cont ((IntKind.i64.wrap ((i : Int) + 1)), R, true, l23) : Pg (Nx (Int × (List (List Int)) × Bool × (List Int)) (Ex ((List (List Int)) × Bool × (List Int)) Empty Empty)))).run =
      some (.cont (((i + 1 : Nat) : Int), R, true, l ++ [ws[i].ID])) := by
    intro R l hR hl' j hj
    have htl : (toks R true).length = R.length + 1 := by rw [toks_len]; rfl
    have hjR : j = (R.length : Int) := by
     rw [hj, htl, wr (by omega)]; omega
    have c : (0 : Int) ≤ j ∧ j < (((toks R true).length : Nat) : Int) := by rw [htl, hjR]; omega
    have ha : at0 j = R.length := by rw [hjR, at0_nat]
    rw [ck_t c, ha, ldL_s rfl, ap_s (by simp only [List.length_append, List.length_singleton]; unfold bigLen; omega), ck_t c, stL_s rfl, r_cont, hw]
   rcases hcase with ⟨rfl, hnew⟩ | ⟨rfl, h0, hi1, hold⟩
   ·rw [br_t, r_shutW, r_bsN, apNil_s (by
     have : (allR R b l).length ≤ R.length + 1 := by cases b <;> simp [allR]
     unfold bigLen; omega), r_lastW, r_retA, bd_s, ex_a]
    refine ⟨(allR R b l, true, [] ++ [ws[i].ID]), tail (allR R b l) [] ?_ (by simp) _ rfl, D ++ [[ws[i]]], ?_, ?_, ?_, ?_, ?_⟩
    ·cases b with
     | false =>
      have : i = 0 := Classical.byContradiction fun k => by simpa using hb.2 k
      have : R.length ≤ i := hlen
      simpa [allR] using this
     | true =>
      have hD : (allR R true l).length = D.length := by rw [hR, List.length_map]
      have : D.length ≤ (ws.take i).length := by
       rw [← hG.flat]
       clear hR hb hD
       have ne := hG.ne
       clear hG hn hn' hnew
       induction D with
       | nil => simp
       | cons d D ih =>
        have h1 := ne d (by simp)
        have h2 := ih fun d' hd' => ne d' (by simp [hd'])
        have : 1 ≤ d.length := List.length_pos_iff.2 h1
        simp only [List.flatten_cons, List.length_append, List.length_cons]; omega
      rw [hD]
      have := List.length_take_le i ws
      omega
    ·rw [ht]; exact hG.new hnew
    ·show allR (allR R b l) true ([] ++ [ws[i].ID]) = _
     rw [hR]; simp [allR]
    ·simp
    ·show (allR R b l).length ≤ i + 1
     have : (allR R b l).length ≤ R.length + 1 := by cases b <;> simp [allR]
     omega
    ·simp
   ·have hbt : b = true := hb.2 h0
    subst hbt
    rw [br_f, r_retA, bd_s, ex_a]
    have hDne : D ≠ [] := by
     rintro rfl
     simp [allR] at hR
    obtain ⟨D', d, rfl⟩ : ∃ D' d, D = D' ++ [d] := ⟨D.dropLast, D.getLast hDne, (List.dropLast_concat_getLast hDne).symm⟩
    have hRl : R = D'.map (List.map (·.ID)) ∧ l = d.map (·.ID) := by
     simp [allR] at hR
     exact hR
    have hu : ws[i - 1] ∈ d := by
     have hfl := hG.flat
     have hdn := hG.ne d (by simp)
     obtain ⟨d', x, rfl⟩ : ∃ d' x, d = d' ++ [x] := ⟨d.dropLast, d.getLast hdn, (List.dropLast_concat_getLast hdn).symm⟩
     have hlast : (ws.take i)[i - 1]? = some x := by
      have hlen : (ws.take i).length = i := by rw [List.length_take]; omega
      have e : ws.take i = (D'.flatten ++ d') ++ [x] := by rw [← hfl]; simp
      have hl2 : (D'.flatten ++ d').length = i - 1 := by
       have := congrArg List.length e
       rw [hlen, List.length_append, List.length_singleton] at this
       omega
      rw [e, ← hl2]; simp
     rw [List.getElem?_take, if_pos (by omega)] at hlast
     have : ws[i - 1] = x := by
      have := hlast
      rw [List.getElem?_eq_getElem hi1] at this
      exact Option.some.inj this
     rw [this]; simp
    refine ⟨(R, true, l ++ [ws[i].ID]), tail R l hlen hll _ rfl, D' ++ [d ++ [ws[i]]], ?_, ?_, ?_, by show R.length ≤ i + 1; omega, ?_⟩
    ·rw [ht]; exact hG.more hu hold
    ·show allR R true (l ++ [ws[i].ID]) = _
     rw [hRl.1, hRl.2]; simp [allR]
    ·simp
    ·show (l ++ [ws[i].ID]).length ≤ i + 1
     simp; omega)
  (fun a ⟨D, hG, hR, hb, hlen, hll⟩ => by
   obtain ⟨R, b, l⟩ := a
   rw [List.take_length] at hG
   refine ⟨Ex.a (R, b, l), ?_, D, hG, R, b, l, rfl, hR⟩
   show (f11v1.l1 (ws.map (nm g root rank out inn wit)) (ws.length : Int) R b l).run = _
   unfold f11v1.l1
   rw [r_brr, L_eq, List.length_map, show decide ((ws.length : Int) < (ws.length : Int)) = false from decide_eq_false (by omega), br_f]; rfl) (k := fuel) (a := ([], false, [])) (by have := fuel_pos; omega)
  ⟨[], ⟨rfl, by simp, by simp, .nil⟩, rfl, by simp, by simp, by simp⟩
 exact ⟨D, h2, R, b, l, h1, h3⟩
theorem comps_run (hs : Trd.Small g) (hv : Trd.GV g) (hl : g.Vertices.length < 20) (Lb : Lab g root rank out inn wit) (hlab : (f8v2 g).run = some (labs g root rank out inn wit, 0)) :
  ∃ ws D, ws.Perm g.Vertices ∧ ws.Pairwise (lt3 root rank) ∧ Grp root ws D ∧ (f11v1 g).run = some (D.map (List.map (·.ID)), 0) := by
 have hA : g.Vertices.Pairwise fun a b => a.ID < b.ID := List.pairwise_iff_getElem.2 fun i j hi hj hij => hv.va i j hi hj hij
 obtain ⟨ws, h1, h2, h3⟩ := sort_run (g := g) (root := root) (rank := rank) (out := out) (inn := inn) (wit := wit) hl hA
 obtain ⟨D, hG, R, b, l, h4, h5⟩ := group_run Lb (ws := ws) (by rw [h3.length_eq]; exact hl) h2 (fun v hv' => ⟨v, h3.mem_iff.1 hv', rfl⟩)
 refine ⟨ws, D, h3, h2, hG, ?_⟩
 have hlo := labelsO_run (gv_val hs hv) hlab
 unfold f11v1
 rw [r_cl, hlo, bd_s, r_brr]
 dsimp only
 rw [bne_self_eq_false, br_f, r_cl, labs_map, h1, bd_s, r_nilA, r_sloW, r_loop1, h4, bd_s, ex_a]
 dsimp only
 rw [r_shutW, r_ret, h5]
end Str
end Gen
end Go.Fx
