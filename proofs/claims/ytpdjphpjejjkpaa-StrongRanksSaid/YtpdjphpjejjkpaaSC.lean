/- Who reaches whom, as bits. -/
import Derived.Test.YtpdjphpjejjkpaaSB
namespace Go.Fx.Gen
open Go.Proofs
set_option linter.unusedVariables false
namespace Str
open Go.Fx.Str
/-! Bits. -/
theorem or32 {m n : Nat} (hm : m < 2 ^ 24) (hn : n < 2 ^ 24) : orI .u32 (m : Int) (n : Int) = ((m ||| n : Nat) : Int) := by
 have h := Nat.or_lt_two_pow hm hn
 have hm' : m < 2 ^ 32 := Nat.lt_of_lt_of_le hm (by decide)
 have hn' : n < 2 ^ 32 := Nat.lt_of_lt_of_le hn (by decide)
 have h4 : (2 : Nat) ^ 24 = 16777216 := by decide
 unfold orI
 rw [show IntKind.u32.bits = 32 from rfl, BitVec.ofInt_natCast, BitVec.ofInt_natCast, BitVec.toNat_or, BitVec.toNat_ofNat, BitVec.toNat_ofNat, Nat.mod_eq_of_lt hm', Nat.mod_eq_of_lt hn']
 exact IntWalk.u32_in _ (by omega)
theorem pow32 {v : Int} (hv : 0 ≤ v ∧ v ≤ 23) : IntKind.u32.wrap (1 * (2 ^ (min (v : Int).toNat IntKind.u32.bits))) = ((2 ^ v.toNat : Nat) : Int) := by
 obtain ⟨n, rfl⟩ := Int.eq_ofNat_of_zero_le hv.1
 have hn : n ≤ 23 := by omega
 have h1 : (2 : Nat) ^ n ≤ 2 ^ 23 := Nat.pow_le_pow_right (by decide) hn
 have h2 : (2 : Nat) ^ 23 = 8388608 := by decide
 have h3 : min (n : Int).toNat IntKind.u32.bits = n := by rw [Int.toNat_natCast, show IntKind.u32.bits = 32 from rfl]; omega
 rw [h3, Int.toNat_natCast, Int.one_mul]
 have h4 : ((2 : Int) ^ n) = ((2 ^ n : Nat) : Int) := by simp
 rw [h4]
 have h5 : ∀ k : Nat, k ≤ 8388608 → IntKind.u32.wrap (k : Int) = (k : Int) := fun k hk => IntWalk.u32_in _ (by omega)
 exact h5 _ (by omega)
theorem bit32 {m : Nat} {v : Int} (hm : m < 2 ^ 24) (hv : 0 ≤ v ∧ v ≤ 23) : (andI .u32 ((m : Int).fdiv (2 ^ (min (v : Int).toNat IntKind.u32.bits))) 1 == 1) = m.testBit v.toNat := by
 obtain ⟨n, rfl⟩ := Int.eq_ofNat_of_zero_le hv.1
 have hn : n ≤ 23 := by omega
 have h3 : min (n : Int).toNat IntKind.u32.bits = n := by rw [Int.toNat_natCast, show IntKind.u32.bits = 32 from rfl]; omega
 have h4 : ((2 : Int) ^ n) = ((2 ^ n : Nat) : Int) := by simp
 rw [h3, Int.toNat_natCast, h4, Int.fdiv_eq_ediv_of_nonneg _ (Int.natCast_nonneg _), ← Int.natCast_ediv]
 have h5 : m / 2 ^ n < 2 ^ 32 := Nat.lt_of_le_of_lt (Nat.div_le_self _ _) (Nat.lt_of_lt_of_le hm (by decide))
 unfold andI
 rw [show IntKind.u32.bits = 32 from rfl, BitVec.ofInt_natCast, show (1 : Int) = ((1 : Nat) : Int) from rfl, BitVec.ofInt_natCast, BitVec.toNat_and, BitVec.toNat_ofNat, BitVec.toNat_ofNat, Nat.mod_eq_of_lt h5, show 1 % 2 ^ 32 = 1 from rfl, Nat.and_one_is_mod]
 have h6 : m / 2 ^ n % 2 = 0 ∨ m / 2 ^ n % 2 = 1 := by omega
 rw [IntWalk.u32_in _ (by omega), Nat.testBit_eq_decide_div_mod_eq]
 rcases h6 with h6 | h6 <;> rw [h6] <;> rfl
def toU (n : Nat) : U32 := ((n : Nat) : Int)
def ofU (x : U32) : Nat := Int.toNat x
def enc32 (R : List Nat) : List U32 := R.map toU
theorem ofU_enc (R : List Nat) : (enc32 R).map ofU = R := by
 unfold enc32
 rw [List.map_map]
 exact (List.map_congr_left fun x _ => Int.toNat_natCast x).trans (List.map_id R)
theorem enc32_get {R : List Nat} {i n : Nat} (h : R[i]? = some n) : (enc32 R)[i]? = some (toU n) := by simp [enc32, h]
theorem enc32_set (R : List Nat) (i n : Nat) : (enc32 R).set i (toU n) = enc32 (R.set i n) := by simp [enc32, List.map_set]
theorem enc32_eq (R S : List Nat) : eqL (enc32 R) (enc32 S) = decide (R = S) := by
 refine (eqL_iff (α := U32) (fun a b h => h) _ _).trans ?_
 have hi : ∀ T : List Nat, (enc32 T).map ICel.i = T.map fun n => ((n : Nat) : Int) := fun T => by
  unfold enc32; rw [List.map_map]; exact List.map_congr_left fun _ _ => rfl
 have : ((enc32 R).map ICel.i = (enc32 S).map ICel.i) ↔ R = S := by
  rw [hi, hi]
  constructor
  ·intro h
   have h2 : ∀ T : List Nat, (T.map fun n => ((n : Nat) : Int)).map Int.toNat = T := fun T => by rw [List.map_map]; exact (List.map_congr_left fun x _ => by simp).trans (List.map_id T)
   rw [← h2 R, h, h2]
  ·rintro rfl; rfl
 exact decide_eq_decide.2 this
abbrev gD (R : List Nat) (i : Nat) : Nat := R.getD i 0
theorem gD_set (R : List Nat) (i j n : Nat) (hi : i < R.length) : gD (R.set i n) j = if i = j then n else gD R j := by
 simp only [gD, List.getD_eq_getElem?_getD, List.getElem?_set]
 split
 ·simp [hi]
 ·rfl
theorem gD_get {R : List Nat} {i : Nat} (hi : i < R.length) : R[i]? = some (gD R i) := by simp [gD, hi]
structure Bts (R : List Nat) : Prop where
 len : R.length = 24
 lt : ∀ i, gD R i < 2 ^ 24
def orS (R : List Nat) (a b : Nat) : List Nat := R.set a (gD R a ||| gD R b)
theorem Bts.orS {R : List Nat} (h : Bts R) {a b : Nat} (ha : a < 24) : Bts (orS R a b) := by
 refine ⟨by simp [Str.orS, h.len], fun i => ?_⟩
 unfold Str.orS
 rw [gD_set _ _ _ _ (by rw [h.len]; exact ha)]
 split
 ·exact Nat.or_lt_two_pow (h.lt a) (h.lt b)
 ·exact h.lt i
def LeL (R S : List Nat) : Prop := R.length = S.length ∧ ∀ i, gD R i ≤ gD S i
theorem LeL.refl (R : List Nat) : LeL R R := ⟨rfl, fun _ => Nat.le_refl _⟩
theorem LeL.trans {R S T : List Nat} (h : LeL R S) (k : LeL S T) : LeL R T := ⟨h.1.trans k.1, fun i => Nat.le_trans (h.2 i) (k.2 i)⟩
theorem ext_gD {R S : List Nat} (hl : R.length = S.length) (h : ∀ i, gD R i = gD S i) : R = S := by
 refine List.ext_getElem? fun i => ?_
 by_cases hi : i < R.length
 ·rw [gD_get hi, gD_get (by omega), h]
 ·rw [List.getElem?_eq_none (by omega), List.getElem?_eq_none (by omega)]
theorem LeL.anti {R S : List Nat} (h : LeL R S) (k : LeL S R) : R = S := ext_gD h.1 fun i => Nat.le_antisymm (h.2 i) (k.2 i)
theorem LeL.sum : ∀ {R S : List Nat}, LeL R S → R ≠ S → R.sum < S.sum ∧ True
 | [], [], _, h => absurd rfl h
 | [], _ :: _, h, _ => by have := h.1; simp at this
 | _ :: _, [], h, _ => by have := h.1; simp at this
 | x :: R, y :: S, h, hne => by
  have h0 : x ≤ y := h.2 0
  have ht : LeL R S := ⟨by have := h.1; simp at this; exact this, fun i => h.2 (i + 1)⟩
  simp only [List.sum_cons]
  by_cases e : R = S
  ·subst e
   have : x ≠ y := by rintro rfl; exact hne rfl
   exact ⟨by omega, trivial⟩
  ·have := (LeL.sum ht e).1
   exact ⟨by omega, trivial⟩
theorem sum_le {B : Nat} : ∀ {R : List Nat}, (∀ i, gD R i ≤ B) → R.sum ≤ R.length * B
 | [], _ => by simp
 | x :: R, h => by
  have h0 : x ≤ B := h 0
  have := sum_le (R := R) fun i => h (i + 1)
  simp only [List.sum_cons, List.length_cons, Nat.succ_mul]
  omega
theorem orS_le {R : List Nat} (h : Bts R) {a b : Nat} (ha : a < 24) : LeL R (orS R a b) := by
 refine ⟨by simp [orS], fun i => ?_⟩
 unfold orS
 rw [gD_set _ _ _ _ (by rw [h.len]; exact ha)]
 split
 ·rename_i e; subst e; exact Nat.left_le_or
 ·exact Nat.le_refl _
abbrev orF (R : List Nat) (p : Edge × Int × Int) : List Nat := orS R p.2.1.toNat p.2.2.toNat
theorem orF_all {l : List (Edge × Int × Int)} (hl : ∀ p ∈ l, p.2.1.toNat < 24) : ∀ {R : List Nat}, Bts R → Bts (l.foldl orF R) ∧ LeL R (l.foldl orF R) ∧ (l.foldl orF R = R → ∀ p ∈ l, orF R p = R) := by
 induction l with
 | nil => intro R h; exact ⟨h, .refl R, by simp⟩
 | cons p l ih =>
  intro R h
  have hp := hl p (.head _)
  obtain ⟨h1, h2, h3⟩ := ih (fun q hq => hl q (.tail _ hq)) (R := orF R p) (h.orS hp)
  have hle : LeL R (orF R p) := orS_le h hp
  refine ⟨h1, hle.trans h2, fun e q hq => ?_⟩
  simp only [List.foldl_cons] at e h2 h3
  have e1 : orF R p = R := LeL.anti (by rw [e] at h2; exact h2) hle
  rcases List.mem_cons.1 hq with rfl | hq
  ·exact e1
  ·rw [e1] at h3 e; exact h3 e q hq
structure Sm (g : Graph) : Prop where
 vl : g.Vertices.length < 1000000000
 el : g.Edges.length < 1000000000
 v : ∀ v ∈ g.Vertices, 0 ≤ v.ID ∧ v.ID ≤ 23
 e : ∀ e ∈ g.Edges, (0 ≤ e.From ∧ e.From ≤ 23) ∧ (0 ≤ e.To ∧ e.To ≤ 23) ∧ (∃ v ∈ g.Vertices, v.ID = e.From) ∧ ∃ v ∈ g.Vertices, v.ID = e.To
def isV (g : Graph) (n : Nat) : Prop := ∃ v ∈ g.Vertices, v.ID.toNat = n
abbrev arcG (g : Graph) : Arcs := arcN g.Edges
variable {g : Graph}
theorem Sm.arcE (h : Sm g) {p : Edge × Int × Int} (hp : p ∈ arcsE g.Edges) : (0 ≤ p.2.1 ∧ p.2.1 ≤ 23) ∧ (0 ≤ p.2.2 ∧ p.2.2 ≤ 23) ∧ isV g p.2.1.toNat ∧ isV g p.2.2.toNat := by
 obtain ⟨e, a, b⟩ := p
 obtain ⟨h1, _, h3⟩ := arcsE_mem.1 hp
 simp only [Prod.mk.injEq] at h3 h1 ⊢
 obtain ⟨k1, k2, ⟨v, k3, k4⟩, ⟨u, k5, k6⟩⟩ := h.e e h1
 rcases h3 with ⟨rfl, rfl⟩ | ⟨_, rfl, rfl⟩
 ·exact ⟨k1, k2, ⟨v, k3, by rw [k4]⟩, ⟨u, k5, by rw [k6]⟩⟩
 ·exact ⟨k2, k1, ⟨u, k5, by rw [k6]⟩, ⟨v, k3, by rw [k4]⟩⟩
theorem isV_lt (h : Sm g) {n : Nat} (hv : isV g n) : n < 24 := by
 obtain ⟨v, h1, rfl⟩ := hv
 have := h.v v h1
 omega
theorem Sm.arcN (h : Sm g) {a b : Nat} (hp : (a, b) ∈ arcG g) : isV g a ∧ isV g b := by
 obtain ⟨p, h1, rfl, rfl⟩ := arcN_mem.1 hp
 exact (h.arcE h1).2.2
theorem pass_run (h : Sm g) {R : List Nat} (hR : Bts R) : (f61 g.Edges (enc32 R)).run = some (enc32 ((arcsE g.Edges).foldl orF R)) := by
 have key := arcs_loop (S := List U32) (F := fun s => (f61.l1 g.Edges s.1 s.2).run) (stp := fun a e s => (r32_0 a e s).run) (es := g.Edges) h.el (fun v s => rfl)
  (fun s => ∃ R, Bts R ∧ s = enc32 R) (fun s p => enc32 (orF (s.map ofU) p)) (fun p hp s ⟨R, hR, hs⟩ => by
   subst hs
   obtain ⟨ha, hb, _, _⟩ := h.arcE hp
   have hm := ofU_enc R
   have e1 := enc32_get (gD_get (R := R) (i := p.2.1.toNat) (by rw [hR.len]; omega))
   have e2 := enc32_get (gD_get (R := R) (i := p.2.2.toNat) (by rw [hR.len]; omega))
   refine ⟨?_, _, hR.orS (a := p.2.1.toNat) (b := p.2.2.toNat) (by omega), by rw [hm]⟩
   rw [hm]
   unfold r32_0
   rw [ck_t (by show 0 ≤ p.2.1 ∧ p.2.1 < _; omega), rd_s e1, ck_t (by show 0 ≤ p.2.2 ∧ p.2.2 < _; omega), rd_s e2, ck_t (by show 0 ≤ p.2.1 ∧ p.2.1 < _; omega)]
   refine (st_s (α := U32) e1).trans ?_
   have := or32 (hR.lt p.2.1.toNat) (hR.lt p.2.2.toNat)
   show some ((enc32 R).set p.2.1.toNat (orI .u32 (gD R p.2.1.toNat : Int) (gD R p.2.2.toNat : Int) : Int)) = _
   rw [this]; exact congrArg some (enc32_set _ _ _)) (s := enc32 R) ⟨R, hR, rfl⟩
 unfold f61
 rw [r_loop1, key.1, bd_s, ex_a, r_ret]
 congr 1
 have : ∀ (l : List (Edge × Int × Int)) (R : List Nat), l.foldl (fun (s : List U32) p => enc32 (orF (s.map ofU) p)) (enc32 R) = enc32 (l.foldl orF R) := by
  intro l
  induction l with
  | nil => intro R; rfl
  | cons p l ih =>
   intro R
   have hm := ofU_enc R
   simp only [List.foldl_cons]
   rw [hm]
   exact ih _
 exact this _ _
structure RI (g : Graph) (R : List Nat) : Prop extends Bts R where
 snd : ∀ a b, (gD R a).testBit b = true → isV g a ∧ isV g b ∧ Rch (arcG g) a b
 rfl' : ∀ a, isV g a → (gD R a).testBit a = true
theorem RI.orF (h : Sm g) {R : List Nat} (hR : RI g R) {p : Edge × Int × Int} (hp : p ∈ arcsE g.Edges) : RI g (orF R p) := by
 obtain ⟨ha, hb, va, vb⟩ := h.arcE hp
 refine ⟨hR.toBts.orS (by omega), fun a b hab => ?_, fun a hv => ?_⟩
 ·unfold Str.orF orS at hab
  rw [gD_set _ _ _ _ (by rw [hR.len]; omega)] at hab
  split at hab
  ·rename_i e
   rw [Nat.testBit_or, Bool.or_eq_true] at hab
   subst e
   rcases hab with k | k
   ·exact hR.snd _ _ k
   ·obtain ⟨k1, k2, k3⟩ := hR.snd _ _ k
    exact ⟨va, k2, .step (arcN_mem.2 ⟨p, hp, rfl, rfl⟩) k3⟩
  ·exact hR.snd _ _ hab
 ·unfold Str.orF orS
  rw [gD_set _ _ _ _ (by rw [hR.len]; omega)]
  split
  ·rename_i e
   subst e
   rw [Nat.testBit_or, hR.rfl' _ hv]; rfl
  ·exact hR.rfl' a hv
theorem RI.fold (h : Sm g) : ∀ {l : List (Edge × Int × Int)}, (∀ p ∈ l, p ∈ arcsE g.Edges) → ∀ {R : List Nat}, RI g R → RI g (l.foldl Str.orF R)
 | [], _, _, hR => hR
 | p :: l, hl, R, hR => RI.fold h (fun q hq => hl q (.tail _ hq)) (hR.orF h (hl p (.head _)))
theorem start_run (h : Sm g) : ∃ R, RI g R ∧ loopN fuel (fun s : Int × List U32 => (f32v1.l1 g s.1 s.2).run) ((0 : Int), (List.replicate 24 (0 : Int) : List U32)) = some (.a (enc32 R)) := by
 obtain ⟨r, h1, R, h2, h3, h4, rfl⟩ := loop_ix (f := fun s : Int × List U32 => (f32v1.l1 g s.1 s.2).run) (n := g.Vertices.length) (fun i a => ((i : Int), a))
  (fun i a => ∃ R, Bts R ∧ (∀ a b, (gD R a).testBit b = true → a = b ∧ isV g a) ∧ (∀ (j : Nat) (v : Vertex), j < i → g.Vertices[j]? = some v → (gD R v.ID.toNat).testBit v.ID.toNat = true) ∧ a = enc32 R)
  (fun r => ∃ R, Bts R ∧ (∀ a b, (gD R a).testBit b = true → a = b ∧ isV g a) ∧ (∀ a, isV g a → (gD R a).testBit a = true) ∧ r = .a (enc32 R))
  (fun i a hi ⟨R, h1, h2, h3, h4⟩ => by
   subst h4
   have hx : g.Vertices[i]? = some g.Vertices[i] := by simp [hi]
   have hm : g.Vertices[i] ∈ g.Vertices := List.getElem_mem hi
   generalize hq : g.Vertices[i] = v at *
   have hv := h.v v hm
   have e1 := enc32_get (gD_get (R := R) (i := v.ID.toNat) (by rw [h1.len]; omega))
   have hw : IntKind.i64.wrap ((i : Int) + 1) = ((i + 1 : Nat) : Int) := succ_wr hi (by have := h.vl; omega)
   have hp2 : (2 : Nat) ^ v.ID.toNat < 2 ^ 24 := Nat.pow_lt_pow_right (by decide) (by omega)
   have hor := or32 (h1.lt v.ID.toNat) hp2
   left
   refine ⟨enc32 (R.set v.ID.toNat (gD R v.ID.toNat ||| 2 ^ v.ID.toNat)), ?_, _, ⟨by simp [h1.len], fun j => ?_⟩, fun a b hab => ?_, fun j u hj hu => ?_, rfl⟩
   ·show (f32v1.l1 g (i : Int) (enc32 R)).run = _
    unfold f32v1.l1
    rw [r_brr, L_eq, cast_lt_t hi, br_t, getR_s hx, ck_t (by omega), rd_s e1, r_nnS, chk_t (by omega), bd_s, ck_t (by omega)]
    refine (st_s (α := U32) e1).trans ?_
    rw [hw]
    rw [← enc32_set]
    show some (Nx.cont (_, (enc32 R).set v.ID.toNat (orI .u32 (gD R v.ID.toNat : Int) (IntKind.u32.wrap (1 * (2 ^ (min (v.ID : Int).toNat IntKind.u32.bits)))) : Int))) = _
    rw [pow32 hv, hor]; rfl
   ·rw [gD_set _ _ _ _ (by rw [h1.len]; omega)]
    split
    ·exact Nat.or_lt_two_pow (h1.lt _) hp2
    ·exact h1.lt j
   ·rw [gD_set _ _ _ _ (by rw [h1.len]; omega)] at hab
    split at hab
    ·rename_i e
     subst e
     rw [Nat.testBit_or, Bool.or_eq_true] at hab
     rcases hab with k | k
     ·exact h2 _ _ k
     ·rw [Nat.testBit_two_pow] at k
      exact ⟨by simpa using k, v, hm, rfl⟩
    ·exact h2 a b hab
   ·rw [gD_set _ _ _ _ (by rw [h1.len]; omega)]
    split
    ·rename_i e
     rw [Nat.testBit_or, ← e, Nat.testBit_two_pow]; simp
    ·rename_i e
     refine h3 j u ?_ hu
     by_cases hji : j = i
     ·subst hji; rw [hx] at hu; cases hu; exact absurd rfl e
     ·omega)
  (fun a ⟨R, h1, h2, h3, h4⟩ => by
   subst h4
   refine ⟨.a (enc32 R), ?_, R, h1, h2, fun a ⟨v, hv, hva⟩ => ?_, rfl⟩
   ·show (f32v1.l1 g (g.Vertices.length : Int) (enc32 R)).run = _
    unfold f32v1.l1
    rw [r_brr, L_eq, cast_lt_f (by omega), br_f]; rfl
   ·obtain ⟨j, hj, e⟩ := List.getElem_of_mem hv
    subst hva
    exact h3 j v hj (by rw [← e]; simp [hj])) (k := fuel) (a := (List.replicate 24 (0 : Int) : List U32)) (by have := fuel_pos; have := h.vl; omega)
  ⟨List.replicate 24 0, ⟨by simp, fun i => by simp only [gD, List.getD_eq_getElem?_getD, List.getElem?_replicate]; split <;> simp⟩, fun a b hab => by
   simp only [gD, List.getD_eq_getElem?_getD, List.getElem?_replicate] at hab
   split at hab <;> simp at hab, fun j v hj => by omega, rfl⟩
 exact ⟨R, ⟨h2, fun a b hab => by obtain ⟨rfl, k⟩ := h3 a b hab; exact ⟨k, k, .refl a⟩, h4⟩, h1⟩
structure RR (g : Graph) (R : List Nat) : Prop extends Bts R where
 iff : ∀ a b, (gD R a).testBit b = true ↔ isV g a ∧ isV g b ∧ Rch (arcG g) a b
theorem reaches_run (h : Sm g) : ∃ R, RR g R ∧ (f32v1 g).run = some (enc32 R) := by
 obtain ⟨R0, h0, e0⟩ := start_run h
 have hlt : ∀ p ∈ arcsE g.Edges, p.2.1.toNat < 24 := fun p hp => by have := (h.arcE hp).1; omega
 obtain ⟨r, h1, R, h2, rfl, h3⟩ := loop_of (f := fun s : List U32 => (f32v1.l2 g s).run) (I := fun s => ∃ R, RI g R ∧ s = enc32 R)
  (Q := fun r => ∃ R, RI g R ∧ r = Ex.a (enc32 R) ∧ (arcsE g.Edges).foldl orF R = R) (m := fun s => 24 * 2 ^ 24 - (s.map ofU).sum)
  (fun s ⟨R, hR, hs⟩ => by
   subst hs
   have hm := ofU_enc
   obtain ⟨b1, b2, b3⟩ := orF_all hlt hR.toBts
   have hr : (f32v1.l2 g (enc32 R)).run = br (decide ((arcsE g.Edges).foldl orF R = R)) (some (.done (.a (enc32 R)))) (some (.cont (enc32 ((arcsE g.Edges).foldl orF R)))) := by
    unfold f32v1.l2
    rw [r_cl, show (f27 g.Edges).run = some () from rfl, bd_s, r_rf0, pass_run h hR.toBts, bd_s, r_eqW, r_brr, enc32_eq]
    rfl
   by_cases e : (arcsE g.Edges).foldl orF R = R
   ·right
    refine ⟨_, ?_, R, hR, rfl, e⟩
    show (f32v1.l2 g (enc32 R)).run = _
    rw [hr, decide_eq_true e, br_t]
   ·left
    refine ⟨enc32 ((arcsE g.Edges).foldl orF R), ?_, ⟨_, hR.fold h (fun _ hp => hp), rfl⟩, ?_⟩
    ·show (f32v1.l2 g (enc32 R)).run = _
     rw [hr, decide_eq_false e, br_f]
    ·rw [hm, hm]
     have s1 := (b2.sum (fun k => e k.symm)).1
     have s2 : ((arcsE g.Edges).foldl orF R).sum ≤ 24 * 2 ^ 24 := by
      have := sum_le (R := (arcsE g.Edges).foldl orF R) (B := 2 ^ 24) fun i => Nat.le_of_lt (b1.lt i)
      rw [b1.len] at this; exact this
     omega) fuel (enc32 R0) ⟨R0, h0, rfl⟩ (by
   have := fuel_pos
   have : 24 * 2 ^ 24 = 402653184 := by decide
   omega)
 refine ⟨R, ⟨h2.toBts, fun a b => ⟨h2.snd a b, fun ⟨va, vb, hr⟩ => ?_⟩⟩, ?_⟩
 ·have hc := (orF_all hlt h2.toBts).2.2 h3
  refine hr.back (S := fun a => (gD R a).testBit b = true) (fun a c hac hcb => ?_) (h2.rfl' b vb)
  obtain ⟨p, hp, rfl, rfl⟩ := arcN_mem.1 hac
  have := hc p hp
  rw [← this]
  unfold orF orS
  rw [gD_set _ _ _ _ (by rw [h2.len]; exact hlt p hp), if_pos rfl, Nat.testBit_or, hcb, Bool.or_true]
 ·unfold f32v1
  rw [r_loop1, e0, bd_s, ex_a, r_loop1, h1, bd_s, ex_a, r_ret]
theorem has_run {R : List Nat} (hR : Bts R) {a b : Int} (ha : 0 ≤ a ∧ a ≤ 23) (hb : 0 ≤ b ∧ b ≤ 23) : (f33 (enc32 R) a b).run = some ((gD R a.toNat).testBit b.toNat) := by
 have e1 := enc32_get (gD_get (R := R) (i := a.toNat) (by rw [hR.len]; omega))
 unfold f33
 rw [ck_t (by omega), rd_s e1, r_nnS, chk_t (by omega), bd_s, r_ret]
 exact congrArg some (bit32 (hR.lt _) hb)
end Str
end Go.Fx.Gen
