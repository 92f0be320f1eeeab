/- Trade: graphs whose traders point alike have the same labels. -/
import Derived.Test.YtdbcggbkdljfiaaGreatTR
namespace Go.TT
variable {α : Type} [DecidableEq α] {nx nx' : List α → α → α} {tr : List α}
theorem onC_eq (hc : Closed nx) {S : List α} (h : ∀ u ∈ S, nx' S u = nx S u) {x : α} (hx : x ∈ S) : onC nx' S x = onC nx S x := by
  unfold onC
  have : ∀ k, it (nx' S) (k + 1) x = it (nx S) (k + 1) x := fun k => it_congr (hc _) h (k + 1) x hx
  simp only [this]
theorem Sq_eq (hc : Closed nx) (h : ∀ t u, u ∈ Sq nx tr t → nx' (Sq nx tr t) u = nx (Sq nx tr t) u) : ∀ t, Sq nx' tr t = Sq nx tr t := by
  intro t
  induction t with
  | zero => rfl
  | succ t ih =>
    show (Sq nx' tr t).filter _ = (Sq nx tr t).filter _
    rw [ih]
    refine List.filter_congr fun x hx => ?_
    rw [onC_eq hc (h t) hx]
end Go.TT
namespace Go.Fx.Gen
open Go.Fx Go.Proofs
set_option linter.unusedVariables false
namespace Trd
open Go.TT

/-- What of a wish counts: its weight, its number, and to whom it leads. -/
def key (e : Edge) : Int × Int × Int := (e.Weight, e.ID, e.To)
def kl (ws : List (List Edge)) (v : Int) : List (Int × Int × Int) := (row ws v).map key
def ptk (l : List (Int × Int × Int)) (A : List Int) (v : Int) : Int × Int := match l.find? fun k => decide (k.2.2 ∈ A) with
  | some k => (k.2.2, k.2.1)
  | none => (v, -1)
def wtk (l : List (Int × Int × Int)) (rx ex : Int → Int) (v : Int) : Bool := match l.find? fun k => k.2.1 == ex v || rx k.2.2 == rx v - 1 with
  | some k => !(k.2.1 == ex v)
  | none => false

theorem pt_key (ws : List (List Edge)) (A : List Int) (v : Int) : pt ws A v = ptk (kl ws v) A v := by
  rw [pt_row]
  unfold ptk kl
  rw [List.find?_map]
  show _ = match ((row ws v).find? fun e => decide (e.To ∈ A)).map key with
    | some k => (k.2.2, k.2.1)
    | none => (v, -1)
  cases (row ws v).find? fun e => decide (e.To ∈ A) <;> rfl
theorem wts_key (ws : List (List Edge)) (rx ex : Int → Int) (v : Int) : wts ws rx ex v = wtk (kl ws v) rx ex v := by
  unfold wts wtk kl
  rw [List.find?_map]
  show _ = match ((row ws v).find? fun e => e.ID == ex v || rx e.To == rx v - 1).map key with
    | some k => !(k.2.1 == ex v)
    | none => false
  cases (row ws v).find? fun e => e.ID == ex v || rx e.To == rx v - 1 <;> rfl

theorem find_congr {β : Type} {p q : β → Bool} : ∀ {l : List β}, (∀ x ∈ l, p x = q x) → l.find? p = l.find? q
  | [], _ => rfl
  | x :: l, h => by
    simp only [List.find?_cons, h x List.mem_cons_self]
    cases q x with
    | true => rfl
    | false => exact find_congr fun y hy => h y (List.mem_cons_of_mem _ hy)

theorem wtk_congr {l : List (Int × Int × Int)} {rx ex rx' ex' : Int → Int} {v : Int} (h : ∀ k ∈ l, rx' k.2.2 = rx k.2.2) (h1 : rx' v = rx v) (h2 : ex' v = ex v) : wtk l rx' ex' v = wtk l rx ex v := by
  unfold wtk
  have e : (l.find? fun k : Int × Int × Int => k.2.1 == ex' v || rx' k.2.2 == rx' v - 1) = l.find? fun k : Int × Int × Int => k.2.1 == ex v || rx k.2.2 == rx v - 1 := find_congr fun k hk => by rw [h k hk, h1, h2]
  rw [e, h2]

variable {g g' : Graph} {N N' : Nat} {rx ex nn rx' ex' nn' : Int → Int}

theorem same_fin (H : Ready g) (H' : Ready g') (hT : trd g' = trd g) (O : Out g N rx ex nn) (O' : Out g' N' rx' ex' nn')
    (hp : ∀ r v, LG g r v → ∀ t, t ≤ r → pt (wsh g') (SG g t) v = pt (wsh g) (SG g t) v)
    (hw : ∀ v ∈ trd g, wtk (kl (wsh g') v) rx ex v = wtk (kl (wsh g) v) rx ex v) : ∀ v ∈ trd g, rx' v = rx v ∧ ex' v = ex v ∧ nn' v = nn v := by
  have hc := nx_closed (wsh g)
  have hnx : ∀ t u, u ∈ SG g t → nx (wsh g') (SG g t) u = nx (wsh g) (SG g t) u := by
    intro t u hu
    obtain ⟨r, hr⟩ := leaves hc (Sq_mono (Nat.zero_le t) hu : u ∈ trd g)
    exact congrArg Prod.fst (hp r u hr t ((Lv.left (trd g) hr).1 hu))
  have hS : ∀ t, SG g' t = SG g t := by
    intro t
    show Sq (nx (wsh g')) (trd g') t = Sq (nx (wsh g)) (trd g) t
    rw [hT]
    exact Sq_eq hc hnx t
  have hL : ∀ r v, LG g r v → LG g' r v := by
    intro r v h
    refine ⟨by show v ∈ SG g' r; rw [hS]; exact h.1, ?_⟩
    show onC (nx (wsh g')) (SG g' r) v = true
    rw [hS, onC_eq hc (hnx r) h.1]
    exact h.2
  have hre : ∀ v ∈ trd g, rx' v = rx v ∧ ex' v = ex v := by
    intro v hv
    obtain ⟨r, hr⟩ := leaves hc hv
    obtain ⟨a1, a2⟩ := O.fin.tr r v hr
    obtain ⟨b1, b2⟩ := O'.fin.tr r v (hL r v hr)
    refine ⟨b1.trans a1.symm, b2.trans ?_⟩
    rw [a2]
    show (pt (wsh g') (SG g' r) v).2 = _
    rw [hS, hp r v hr r (Nat.le_refl _)]
  intro v hv
  refine ⟨(hre v hv).1, (hre v hv).2, ?_⟩
  obtain ⟨r, hr⟩ := leaves hc hv
  obtain ⟨n, hn, C⟩ := O.cnt r v hr
  obtain ⟨n', hn', C'⟩ := O'.cnt r v (hL r v hr)
  rw [hn, hn']
  have hwt : ∀ u ∈ trd g, wts (wsh g') rx' ex' u = wts (wsh g) rx ex u := by
    intro u hu
    rw [wts_key, wts_key, ← hw u hu]
    refine wtk_congr (fun k hk => ?_) (hre u hu).1 (hre u hu).2
    obtain ⟨e, he, rfl⟩ := List.mem_map.1 hk
    have := ((mem_row H' (by rw [hT]; exact hu)).1 he).2.2.2.2
    rw [hT] at this
    exact (hre _ this).1
  have hit : ∀ j, it (nx (wsh g') (S (wsh g') (trd g') r)) j v = it (nx (wsh g) (SG g r)) j v := by
    intro j
    show it (nx (wsh g') (SG g' r)) j v = _
    rw [hS]
    exact it_congr (hc _) (hnx r) j v hr.1
  have hin : ∀ j, it (nx (wsh g) (SG g r)) j v ∈ trd g := fun j => Sq_mono (Nat.zero_le r) (it_mem (hc _) j v hr.1)
  by_cases hr0 : r = 0
  · rw [C.zero hr0, C'.zero hr0]
  · have c1 := C.none hr0
    have c2 := C.stop hr0
    have d1 := C'.none hr0
    have d2 := C'.stop hr0
    simp only [hit] at d1 d2
    have l1 := C.le
    have l2 := C'.le
    have c1 : ∀ j, j < n → wts (wsh g) rx ex (it (nx (wsh g) (SG g r)) j v) = false := c1
    have c2 : n = 24 ∨ wts (wsh g) rx ex (it (nx (wsh g) (SG g r)) n v) = true := c2
    have d1 : ∀ j, j < n' → wts (wsh g) rx ex (it (nx (wsh g) (SG g r)) j v) = false := fun j hj => by rw [← hwt _ (hin j)]; exact d1 j hj
    have d2 : n' = 24 ∨ wts (wsh g) rx ex (it (nx (wsh g) (SG g r)) n' v) = true := by rw [← hwt _ (hin n')]; exact d2
    rcases Nat.lt_trichotomy n n' with h | h | h
    · rcases c2 with c2 | c2
      · omega
      · rw [d1 n h] at c2; cases c2
    · rw [h]
    · rcases d2 with d2 | d2
      · omega
      · rw [c1 n' h] at d2; cases d2

/-! Strictly sorted lists. -/
theorem strict_eq {β : Type} {lt : β → β → Prop} (irr : ∀ x, ¬ lt x x) (asy : ∀ x y, lt x y → ¬ lt y x) : ∀ {l m : List β}, l.Pairwise lt → m.Pairwise lt → (∀ x, x ∈ l ↔ x ∈ m) → l = m
  | [], m, _, _, h => by
    cases m with
    | nil => rfl
    | cons y m => exact absurd ((h y).2 List.mem_cons_self) (by simp)
  | x :: l, m, hl, hm, h => by
    cases m with
    | nil => exact absurd ((h x).1 List.mem_cons_self) (by simp)
    | cons y m =>
      rw [List.pairwise_cons] at hl hm
      have hxy : x = y := by
        rcases List.mem_cons.1 ((h x).1 List.mem_cons_self) with e | e
        · exact e
        · rcases List.mem_cons.1 ((h y).2 List.mem_cons_self) with e' | e'
          · exact e'.symm
          · exact absurd (hl.1 y e') (asy _ _ (hm.1 x e))
      subst hxy
      rw [strict_eq irr asy hl.2 hm.2 fun z => ?_]
      constructor
      · intro hz
        rcases List.mem_cons.1 ((h z).1 (List.mem_cons_of_mem _ hz)) with e | e
        · subst e; exact absurd (hl.1 z hz) (irr z)
        · exact e
      · intro hz
        rcases List.mem_cons.1 ((h z).2 (List.mem_cons_of_mem _ hz)) with e | e
        · subst e; exact absurd (hm.1 z hz) (irr z)
        · exact e

def klt (a b : Int × Int × Int) : Prop := b.1 < a.1 ∨ (a.1 = b.1 ∧ a.2.1 < b.2.1)
theorem kl_sorted (H : Ready g) {v : Int} (hv : v ∈ trd g) : (kl (wsh g) v).Pairwise klt := by
  unfold kl
  rw [List.pairwise_map, List.pairwise_iff_getElem]
  intro i j hi hj hij
  have := row_lt H hv hi hj hij
  rw [elt_iff] at this
  exact this
theorem kl_eq (H : Ready g) (H' : Ready g') {v : Int} (hv : v ∈ trd g) (hv' : v ∈ trd g') (h : ∀ k, k ∈ kl (wsh g') v ↔ k ∈ kl (wsh g) v) : kl (wsh g') v = kl (wsh g) v :=
  strict_eq (fun x => by unfold klt; omega) (fun x y => by unfold klt; omega) (kl_sorted H' hv') (kl_sorted H hv) h
end Trd
end Go.Fx.Gen
