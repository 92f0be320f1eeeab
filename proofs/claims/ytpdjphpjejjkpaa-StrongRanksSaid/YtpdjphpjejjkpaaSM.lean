/- Components: the labels sorted, and put together. -/
import Derived.Test.YtpdjphpjejjkpaaSJ
namespace Go.Fx.Gen
open Go.Proofs
set_option linter.unusedVariables false
namespace Str
open Go.Fx.Str
variable {g : Graph} {root : Nat → Nat} {rank out inn wit : Nat → Int}
theorem bd_map {α β γ : Type} {o : Option α} {k : α → Option β} {k' : α → Option γ} {f : β → γ} (h : ∀ x, k' x = (k x).map f) : bd o k' = (bd o k).map f := by
 cases o with
 | none => rfl
 | some x => exact h x
theorem labelsO_run (hv : (f21v1 g).run = some true) {l : List Named} (h : (f8v2 g).run = some (l, 0)) : (f8v3 g).run = some (0, l) := by
 have key : (f8v3 g).run = (f8v2 g).run.map fun p => (p.2, p.1) := by
  unfold f8v2 f8v3
  rw [r_cl, r_cl, hv, bd_s, bd_s, r_brr, r_brr, Bool.not_true, br_f, br_f, r_cl, r_cl]
  refine bd_map fun y3 => ?_
  rw [r_loop1, r_loop1]
  refine bd_map fun e => ?_
  cases e with
  | b x => cases x
  | c x => cases x
  | a x16 =>
   rw [ex_a, ex_a, r_clK, r_clK]
   refine bd_map fun y17 => ?_
   rw [r_clK, r_clK]
   refine bd_map fun y18 => ?_
   rw [r_clK, r_clK]
   refine bd_map fun y19 => ?_
   rw [r_clK, r_clK]
   refine bd_map fun y20 => ?_
   rw [r_loop1, r_loop1]
   refine bd_map fun e => ?_
   cases e with
   | b x => cases x
   | c x => cases x
   | a x54 => rfl
 rw [key, h]; rfl
/-! The order. -/
abbrev nm (g : Graph) (root : Nat → Nat) (rank out inn wit : Nat → Int) (v : Vertex) : Named := Named.mk v.ID (row g root rank out inn wit v.ID.toNat)
theorem labs_map : labs g root rank out inn wit = g.Vertices.map (nm g root rank out inn wit) := rfl
def ltK (root : Nat → Nat) (rank : Nat → Int) (a b : Vertex) : Prop := rank a.ID.toNat < rank b.ID.toNat ∨ (rank a.ID.toNat = rank b.ID.toNat ∧ root a.ID.toNat < root b.ID.toNat)
def lt3 (root : Nat → Nat) (rank : Nat → Int) (a b : Vertex) : Prop := ltK root rank a b ∨ (rank a.ID.toNat = rank b.ID.toNat ∧ root a.ID.toNat = root b.ID.toNat ∧ a.ID < b.ID)
theorem lt3_trans {a b c : Vertex} (h : lt3 root rank a b) (k : lt3 root rank b c) : lt3 root rank a c := by
 unfold lt3 ltK at *
 omega
theorem cmp_int (a b : Int) : (f37 a b).run = some (if a < b then -1 else if a > b then 1 else 0) := by
 unfold f37
 rw [r_cl, show (f64 a).run = some () from rfl, bd_s, r_cl, show (f64 b).run = some () from rfl, bd_s, r_brr, bne_self_eq_false, br_f, r_brr, bne_self_eq_false, br_f, r_brr, br_dec, r_ret, r_brr, br_dec, r_ret, r_ret]
 split
 ·rfl
 ·split <;> rfl
theorem or_run (a b : Int) : (f36 [a, b]).run = some (if a ≠ 0 then a else b) := by
 have l : ∀ i : Nat, i < 2 → (f36.l1 [a, b] (i : Int)).run = br ((if i = 0 then a else b) != 0) (some (.done (.a (if i = 0 then a else b)))) (some (.cont ((i + 1 : Nat) : Int))) := by
  intro i hi
  have hw : IntKind.i64.wrap ((i : Int) + 1) = ((i + 1 : Nat) : Int) := wr
  unfold f36.l1
  rw [r_brr, L_eq, show decide ((i : Int) < (([a, b] : List Int).length : Int)) = true from decide_eq_true (by simp; omega), br_t, getR_s (x := if i = 0 then a else b) (by rcases (by omega : i = 0 ∨ i = 1) with rfl | rfl <;> rfl), r_brr, hw]; rfl
 obtain ⟨m, hm⟩ : ∃ m, fuel = m + 3 := ⟨fuel - 3, by have := fuel_pos; omega⟩
 unfold f36
 rw [r_loop2]
 have e : loopN fuel (fun s : Int => (f36.l1 [a, b] s).run) (0 : Int) = some (if a ≠ 0 then .a a else if b ≠ 0 then .a b else .b ()) := by
  rw [hm, loopN_succ, show (f36.l1 [a, b] (0 : Int)).run = _ from l 0 (by omega)]
  by_cases ha : a = 0
  ·subst ha
   rw [show ((if 0 = 0 then (0 : Int) else b) != 0) = false from rfl, br_f, stp_c, loopN_succ, show (f36.l1 [0, b] ((0 + 1 : Nat) : Int)).run = _ from l 1 (by omega)]
   by_cases hb : b = 0
   ·subst hb
    rw [show ((if 1 = 0 then (0 : Int) else 0) != 0) = false from rfl, br_f, stp_c, loopN_succ]
    rfl
   ·rw [show ((if 1 = 0 then (0 : Int) else b) != 0) = true from bne_iff_ne.2 hb, br_t, stp_d, if_neg (by simp), if_pos hb]; rfl
  ·rw [show ((if 0 = 0 then a else b) != 0) = true from bne_iff_ne.2 ha, br_t, stp_d, if_pos ha]; rfl
 rw [e]
 by_cases ha : a = 0
 ·subst ha
  by_cases hb : b = 0
  ·subst hb; rfl
  ·rw [if_neg (by simp), if_pos hb, bd_s, ex_a, r_ret, if_neg (by simp)]
 ·rw [if_pos ha, bd_s, ex_a, r_ret, if_pos ha]
theorem lab0' {P : Program} {β : Type} {v : Vertex} {k : Int → Prg P β} : (getR (nm g root rank out inn wit v).Label (0 : Int) k).run = (k (root v.ID.toNat : Int)).run := by
 have := getR_s (P := P) (i := 0) (show (nm g root rank out inn wit v).Label[0]? = some (root v.ID.toNat : Int) from rfl) (k := k)
 exact this
theorem lab5' {P : Program} {β : Type} {v : Vertex} {k : Int → Prg P β} : (getR (nm g root rank out inn wit v).Label (5 : Int) k).run = (k (rank v.ID.toNat)).run := by
 have := getR_s (P := P) (i := 5) (show (nm g root rank out inn wit v).Label[5]? = some (rank v.ID.toNat) from rfl) (k := k)
 exact this
theorem cmp_run (a b : Vertex) : ∃ c, (f35 (nm g root rank out inn wit a) (nm g root rank out inn wit b)).run = some c ∧ (c < 0 ↔ ltK root rank a b) := by
 unfold f35
 rw [lab5', lab5', r_cl, cmp_int, bd_s, lab0', lab0', r_cl, cmp_int, bd_s, r_cl, or_run, bd_s, r_ret]
 refine ⟨_, rfl, ?_⟩
 unfold ltK
 by_cases h1 : rank a.ID.toNat < rank b.ID.toNat
 ·rw [if_pos h1]; simp; omega
 ·rw [if_neg h1]
  by_cases h2 : rank a.ID.toNat > rank b.ID.toNat
  ·rw [if_pos h2]; simp; omega
  ·rw [if_neg h2]
   by_cases h3 : (root a.ID.toNat : Int) < (root b.ID.toNat : Int)
   ·rw [if_pos h3]; simp; omega
   ·rw [if_neg h3]
    split <;> simp <;> omega
/-! Sorting by insertion. -/
theorem set_mid {α : Type} {A C : List α} {x y z : α} : (A ++ x :: y :: C).set A.length z = A ++ z :: y :: C := by simp
theorem get_mid {α : Type} {A C : List α} {x : α} : (A ++ x :: C)[A.length]? = some x := by simp
theorem inner_sort {i : Nat} {A0 : List Vertex} {x : Vertex} {D : List Vertex} (hl : (A0 ++ x :: D).length ≤ 100) (hA : A0.Pairwise (lt3 root rank)) (hx : ∀ a ∈ A0, a.ID < x.ID) (p2 v28 : Int) :
  ∃ B, loopN fuel (fun s : Int × List Named => (f81v1.l1 0 p2 v28 s.1 s.2).run) ((A0.length : Int), (A0 ++ x :: D).map (nm g root rank out inn wit)) = some (.a ((B ++ D).map (nm g root rank out inn wit))) ∧ B.Pairwise (lt3 root rank) ∧ B.Perm (A0 ++ [x]) := by
 obtain ⟨r, h1, B, rfl, h2, h3⟩ := loop_of (f := fun s : Int × List Named => (f81v1.l1 0 p2 v28 s.1 s.2).run)
  (I := fun s => ∃ A C, s = ((A.length : Int), (A ++ x :: (C ++ D)).map (nm g root rank out inn wit)) ∧ A0 = A ++ C ∧ ∀ c ∈ C, lt3 root rank x c)
  (Q := fun r => ∃ B, r = Ex.a ((B ++ D).map (nm g root rank out inn wit)) ∧ B.Pairwise (lt3 root rank) ∧ B.Perm (A0 ++ [x])) (m := fun s => s.1.toNat) (fun s ⟨A, C, hs, hAC, hC⟩ => by
   subst hs
   have fin : (∀ a ∈ A, lt3 root rank a x) → ∃ B, (Ex.a ((A ++ x :: (C ++ D)).map (nm g root rank out inn wit)) : Ex (List Named) Empty Empty) = Ex.a ((B ++ D).map (nm g root rank out inn wit)) ∧ B.Pairwise (lt3 root rank) ∧ B.Perm (A0 ++ [x]) := by
    intro hb
    rw [hAC, List.pairwise_append] at hA
    refine ⟨A ++ x :: C, by simp, ?_, ?_⟩
    ·rw [List.pairwise_append]
     refine ⟨hA.1, List.pairwise_cons.2 ⟨hC, hA.2.1⟩, fun a ha b hb' => ?_⟩
     rcases List.mem_cons.1 hb' with rfl | hb'
     ·exact hb a ha
     ·exact hA.2.2 a ha b hb'
    ·rw [hAC]
     exact (List.perm_middle).trans ((List.perm_append_singleton x (A ++ C)).symm)
   have hlen : (A ++ x :: (C ++ D)).length ≤ 100 := by rw [hAC] at hl; simp at hl ⊢; omega
   rcases List.eq_nil_or_concat A with rfl | ⟨A', a, rfl⟩
   ·right
    refine ⟨_, ?_, fin (by simp)⟩
    show (f81v1.l1 0 p2 v28 ((([] : List Vertex).length : Nat) : Int) _).run = _
    unfold f81v1.l1
    rw [r_join1, r_brr, show decide (((([] : List Vertex).length : Nat) : Int) > 0) = false from rfl, br_f, r_retA, bd_s, ex_a, r_brr, br_f]; rfl
   ·simp only [List.concat_eq_append] at *
    have hlast : ∀ b ∈ A', lt3 root rank b a := by
     rw [hAC, List.append_assoc, List.pairwise_append] at hA
     exact fun b hb => hA.2.2 b hb a (by simp)
    have e1 : ((A' ++ [a]) ++ x :: (C ++ D)).map (nm g root rank out inn wit) = (A'.map (nm g root rank out inn wit)) ++ (nm g root rank out inn wit a) :: (nm g root rank out inn wit x) :: (C ++ D).map (nm g root rank out inn wit) := by simp
    have hn : (((A' ++ [a]).length : Nat) : Int) = ((A'.length + 1 : Nat) : Int) := by simp
    have hal : A'.length ≤ 99 := by simp at hlen; omega
    have hw : IntKind.i64.wrap (((A'.length + 1 : Nat) : Int) - 1) = (A'.length : Int) := by rw [wr]; omega
    generalize hM : (C ++ D).map (nm g root rank out inn wit) = M at *
    generalize hT : A'.map (nm g root rank out inn wit) = T at *
    have hTl : T.length = A'.length := by rw [← hT]; simp
    have hT0 : (A'.length : Int) = (T.length : Int) := by rw [hTl]
    generalize ha' : nm g root rank out inn wit a = na at *
    generalize hx' : nm g root rank out inn wit x = nx at *
    have g1 : (T ++ na :: nx :: M)[T.length]? = some na := by simp
    have g2 : (T ++ na :: nx :: M)[T.length + 1]? = some nx := by
     rw [List.getElem?_append_right (by omega)]; simp
    have c1 : (0 : Int) ≤ ((T.length : Nat) : Int) ∧ ((T.length : Nat) : Int) < ((L (T ++ na :: nx :: M) : Nat) : Int) := by rw [L_eq]; simp; omega
    have c2 : (0 : Int) ≤ ((T.length + 1 : Nat) : Int) ∧ ((T.length + 1 : Nat) : Int) < ((L (T ++ na :: nx :: M) : Nat) : Int) := by rw [L_eq]; simp; omega
    rw [← hTl] at hw hn
    obtain ⟨c, k1, k2⟩ := cmp_run (g := g) (root := root) (rank := rank) (out := out) (inn := inn) (wit := wit) x a
    rw [ha', hx'] at k1
    have start : (f81v1.l1 0 p2 v28 (((A' ++ [a]).length : Nat) : Int) (((A' ++ [a]) ++ x :: (C ++ D)).map (nm g root rank out inn wit))).run = br (decide (c < 0)) (some (.cont ((T.length : Int), T ++ nx :: na :: M))) (some (.done (.a (T ++ na :: nx :: M)))) := by
     rw [e1, hn]
     unfold f81v1.l1
     have s1 : (T ++ na :: nx :: M).set (T.length + 1) na = T ++ na :: na :: M := by
      rw [List.set_append_right _ _ (by omega)]; simp
     have s2 : (T ++ na :: na :: M).set T.length nx = T ++ nx :: na :: M := by simp
     have c3 : (0 : Int) ≤ ((T.length : Nat) : Int) ∧ ((T.length : Nat) : Int) < ((L (T ++ na :: na :: M) : Nat) : Int) := by rw [L_eq]; simp; omega
     have g3 : (T ++ na :: na :: M)[T.length]? = some na := by simp
     rw [r_join1, r_brr, show decide (((T.length + 1 : Nat) : Int) > 0) = true from decide_eq_true (by omega), br_t, ck_t c2, at0_nat, rd_s g2, hw, ck_t c1, at0_nat, rd_s g1, r_cl, k1, bd_s, r_retA, bd_s, ex_a, r_brr]
     rw [ck_t c1, rd_s g1, ck_t c2, rd_s g2, ck_t c2, st_s g2, s1, ck_t c3, st_s g3, s2]
     rfl
    by_cases hc : c < 0
    ·left
     refine ⟨((T.length : Int), T ++ nx :: na :: M), ?_, ⟨A', a :: C, ?_, by rw [hAC]; simp, fun b hb => ?_⟩, ?_⟩
     ·show (f81v1.l1 0 p2 v28 (((A' ++ [a]).length : Nat) : Int) (((A' ++ [a]) ++ x :: (C ++ D)).map (nm g root rank out inn wit))).run = _
      rw [start, decide_eq_true hc, br_t]
     ·rw [hTl]
      refine congrArg (Prod.mk _) ?_
      rw [← hT, ← hM, ← ha', ← hx']; simp
     ·rcases List.mem_cons.1 hb with rfl | hb
      ·exact .inl (k2.1 hc)
      ·exact hC b hb
     ·show ((T.length : Int)).toNat < ((((A' ++ [a]).length : Nat) : Int)).toNat
      rw [hn]; omega
    ·right
     refine ⟨Ex.a (((A' ++ [a]) ++ x :: (C ++ D)).map (nm g root rank out inn wit)), ?_, ?_⟩
     ·show (f81v1.l1 0 p2 v28 (((A' ++ [a]).length : Nat) : Int) (((A' ++ [a]) ++ x :: (C ++ D)).map (nm g root rank out inn wit))).run = _
      rw [start, decide_eq_false hc, br_f, e1]
     ·have hax : lt3 root rank a x := by
       have h0 : ¬ ltK root rank x a := fun k => hc (k2.2 k)
       have hid := hx a (by rw [hAC]; simp)
       unfold ltK at h0
       unfold lt3 ltK
       omega
      rw [← hM] at *
      exact fin fun b hb => by
       rcases List.mem_append.1 hb with hb | hb
       ·exact lt3_trans (hlast b hb) hax
       ·simp only [List.mem_singleton] at hb; subst hb; exact hax) fuel ((A0.length : Int), (A0 ++ x :: D).map (nm g root rank out inn wit)) ⟨A0, [], by simp, by simp, by simp⟩ (by have := fuel_pos; simp at hl; show ((A0.length : Int)).toNat < fuel; omega)
 exact ⟨B, h1, h2, h3⟩
end Str
end Go.Fx.Gen
