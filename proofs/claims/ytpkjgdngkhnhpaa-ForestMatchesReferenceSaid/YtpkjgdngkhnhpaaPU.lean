/- The reference's path and its goodness of views, in plain words: they are the forest's. -/
import Derived.Test.YtpkjgdngkhnhpaaPT
namespace Go.Fw.Gen
open Go.Fw
theorem chk_loopE {α S R : Type} (l : List α) (hl : l.length ≤ 1000000) (e : Nat → S) (f : S → Option (Nx S R)) (ok : Nat → α → Bool) (bad : Nat → α → R) (fin : R)
  (hs : ∀ (i : Nat) (x : α), i < l.length → l[i]? = some x → (∀ (j : Nat) (y : α), j < i → l[j]? = some y → ok j y = true) → f (e i) = if ok i x then some (.cont (e (i + 1))) else some (.done (bad i x)))
  (he : (∀ (i : Nat) (x : α), l[i]? = some x → ok i x = true) → f (e l.length) = some (.done fin)) :
  ((∀ (i : Nat) (x : α), l[i]? = some x → ok i x = true) ∧ loopN fuel f (e 0) = some fin) ∨ ∃ (i : Nat) (x : α), l[i]? = some x ∧ ok i x = false ∧ loopN fuel f (e 0) = some (bad i x) ∧ ∀ (j : Nat) (y : α), j < i → l[j]? = some y → ok j y = true := by
 have key : ∀ (m i k : Nat), i + m = l.length → m < k → (∀ (j : Nat) (y : α), j < i → l[j]? = some y → ok j y = true) →
   ((∀ (i : Nat) (x : α), l[i]? = some x → ok i x = true) ∧ loopN k f (e i) = some fin) ∨ ∃ (i' : Nat) (x : α), l[i']? = some x ∧ ok i' x = false ∧ loopN k f (e i) = some (bad i' x) ∧ ∀ (j : Nat) (y : α), j < i' → l[j]? = some y → ok j y = true := by
  intro m
  induction m with
  | zero =>
   intro i k hi hk hP
   cases k with
   | zero => omega
   | succ k =>
    obtain rfl : i = l.length := by omega
    have hall : ∀ (i : Nat) (x : α), l[i]? = some x → ok i x = true := fun j x hx => hP j x (List.getElem?_eq_some_iff.1 hx).1 hx
    left
    simp only [loopN]
    rw [he hall]
    exact ⟨hall, rfl⟩
  | succ m ih =>
   intro i k hi hk hP
   cases k with
   | zero => omega
   | succ k =>
    have hx : l[i]? = some (l[i]'(by omega)) := by simp
    generalize l[i]'(by omega) = x at hx
    have hf := hs i x (by omega) hx hP
    simp only [loopN]
    cases ho : ok i x with
    | true =>
     rw [hf, ho, if_pos rfl]
     exact ih (i + 1) k (by omega) (by omega) (fun j y hj hy => by
      by_cases e : j = i
      ·subst e; rw [hx] at hy; cases hy; exact ho
      ·exact hP j y (by omega) hy)
    | false =>
     rw [hf, ho]
     exact .inr ⟨i, x, hx, ho, rfl, hP⟩
 exact key l.length 0 fuel (by omega) (by have := fuel_pos; omega) (fun j y hj => by omega)
theorem path_l1 (U A D B : List Int) (i : Nat) (z : Int) (hz : A[i]? = some z) (hi : i ≤ U.length) (hU : U.length ≤ 900) (hB : B.length = D.length + 1) (hD : D.length ≤ 900) :
  (z ∉ B ∧ loopN fuel (r7Path.l1 U A D B (i : Int)) 0 = some (.inr ())) ∨ ∃ k, B[k]? = some z ∧ loopN fuel (r7Path.l1 U A D B (i : Int)) 0 = some (.inl (U.take i ++ (D.take k).reverse)) ∧ ∀ j y, j < k → B[j]? = some y → y ≠ z := by
 rcases chk_loopE B (by omega) (fun k => (k : Int)) (r7Path.l1 U A D B (i : Int)) (fun _ y => !(z == y)) (fun k _ => .inl (U.take i ++ (D.take k).reverse)) (.inr ())
  (by
   intro k y hk hy _
   have e1 : IntKind.i64.wrap ((k : Int) + 1) = ((k + 1 : Nat) : Int) := by rw [wr]; omega
   unfold r7Path.l1
   rw [br_dec, if_pos (by omega), getR_s hz, getR_s hy, e1]
   cases z == y with
   | false => rfl
   | true =>
    rw [br_t, gd_t (by omega), gd_t (by rw [List.length_map]; omega), Int.toNat_natCast, gd_t (by rw [List.length_take]; unfold bigLen; omega), path_l0 D (U.take i) k (by omega) (by omega) (by rw [List.length_take]; omega), bd_s]
    rfl)
  (by
   intro _
   unfold r7Path.l1
   rw [br_dec, if_neg (by omega)]) with ⟨h1, h2⟩ | ⟨k, y, h1, h2, h3, h4⟩
 ·left
  refine ⟨fun hm => ?_, h2⟩
  obtain ⟨k, hk⟩ := List.getElem?_of_mem hm
  have := h1 k z hk
  simp at this
 ·right
  have h2 : z = y := by simpa using h2
  subst h2
  refine ⟨k, h1, h3, fun j y hj hy => ?_⟩
  have := h4 j y hj hy
  intro e
  subst e
  simp at this
theorem Path3_eq {g : Graph} (hg : VG g) (hs : SmallG g) (hv : validP g = true) {a b : Int} (ha : hasV g a = true) (hb : hasV g b = true) (hr : rt g a = rt g b) {es vs : List Int} (hc : Climb g a b es vs) : r7Path g a b = some (es, 0) := by
 obtain ⟨U, A, hU⟩ := Up.ex hg (dp g a).toNat ha (by have := dp_range hg ha; omega)
 obtain ⟨D, B, hD⟩ := Up.ex hg (dp g b).toNat hb (by have := dp_range hg hb; omega)
 have lU := hU.low hg
 have lD := hD.low hg
 have ra := dp_range hg ha
 have rb := dp_range hg hb
 unfold r7Path
 rw [Connected3_eq hg hs hv ha hb, bd_s, Labels3_eq hg hs hv, bd_s]
 simp only
 rw [beq_iff_eq.2 hr, show ((0 : Int) != 0) = false from rfl, br_f, br_f, show (!true) = false from rfl, br_f, way_eq hg hs hU, bd_s, way_eq hg hs hD, bd_s]
 simp only
 have main : loopN fuel (r7Path.l2 U A D B) 0 = some (.inl es) := by
  rcases chk_loopE A (by omega) (fun k => (k : Int)) (r7Path.l2 U A D B) (fun _ y => !(B.contains y)) (fun i _ => match loopN fuel (r7Path.l1 U A D B (i : Int)) 0 with | some (.inl r) => .inl r | _ => .inr ()) (.inr ())
   (by
    intro i z hi hz _
    have e1 : IntKind.i64.wrap ((i : Int) + 1) = ((i + 1 : Nat) : Int) := by rw [wr]; omega
    unfold r7Path.l2
    rw [br_dec, if_pos (by omega), e1]
    rcases path_l1 U A D B i z hz (by omega) (by omega) lD.1 (by omega) with ⟨h1, h2⟩ | ⟨k, h1, h2, _⟩
    ·have : B.contains z = false := by rw [Bool.eq_false_iff]; intro h; exact h1 (List.contains_iff_mem.1 h)
     rw [h2, bd_s, this]; rfl
    ·have : B.contains z = true := List.contains_iff_mem.2 (List.mem_of_getElem? h1)
     rw [h2, bd_s, this]; rfl)
   (by
    intro _
    unfold r7Path.l2
    rw [br_dec, if_neg (by omega)]) with ⟨h1, h2⟩ | ⟨i, z, h1, h2, h3, h4⟩
  ·exfalso
   obtain ⟨i, hi⟩ := List.getElem?_of_mem lU.2.2.1
   have := h1 i _ hi
   rw [List.contains_iff_mem.2 (by rw [hr]; exact lD.2.2.1)] at this
   cases this
  ·have hil := (List.getElem?_eq_some_iff.1 h1).1
   rcases path_l1 U A D B i z h1 (by omega) (by omega) lD.1 (by omega) with ⟨k1, k2⟩ | ⟨k, k1, k2, k3⟩
   ·have h2 : B.contains z = true := by simpa using h2
    exact absurd (List.contains_iff_mem.1 h2) k1
   ·rw [k2] at h3
    have h3' : loopN fuel (r7Path.l2 U A D B) 0 = some (.inl (U.take i ++ (D.take k).reverse)) := h3
    rw [h3', meet_eq hg hc hU hD i k z h1 k1 (fun j y hj hy hm => by
     have := h4 j y hj hy
     rw [List.contains_iff_mem.2 hm] at this; cases this) k3]
 rw [main, bd_s]
theorem Path3_no {g : Graph} (hs : SmallG g) {a b : Int} (h : (validP g && (hasV g a && hasV g b)) = false) (hL : ∃ q, r7Labels g = some q) : r7Path g a b = some ([], 70) := by
 obtain ⟨q, hq⟩ := hL
 unfold r7Path
 rw [Connected3_no hs h, bd_s, hq, bd_s]; rfl
theorem Path3_no2 {g : Graph} (hg : VG g) (hs : SmallG g) (hv : validP g = true) {a b : Int} (ha : hasV g a = true) (hb : hasV g b = true) (hr : rt g a ≠ rt g b) : r7Path g a b = some ([], 70) := by
 unfold r7Path
 rw [Connected3_eq hg hs hv ha hb, bd_s, Labels3_eq hg hs hv, bd_s, beq_eq_false_iff_ne.2 hr]; rfl
theorem Path_no2 {g : Graph} (hs : SmallG g) {a b : Int} (h : (validP g && (hasV g a && hasV g b)) = false) : forest_Path g a b = some ([], 70) := by
 unfold forest_Path
 rw [Connected_no hs h, bd_s]; rfl
theorem Find7_eq (L : List Named) (x : Int) (hl : L.length ≤ 1000) : r7Find L x 3 = some (match sees L x with | some (some l) => l | _ => []) := by
 unfold r7Find
 rcases chk_loopE L (by omega) (fun k => (k : Int)) (r7Find.l0 L x 3) (fun _ l => !(l.ID == x)) (fun _ l => if l.Label.length = 3 then .inr (.inl l.Label) else .inl ()) (.inr (.inr ()))
  (by
   intro i l hi hx _
   have e1 : IntKind.i64.wrap ((i : Int) + 1) = ((i + 1 : Nat) : Int) := by rw [wr]; omega
   unfold r7Find.l0
   rw [br_dec, if_pos (by omega), getR_s hx, e1]
   cases hxe : l.ID == x with
   | false => rfl
   | true =>
    rw [br_t, getR_s hx, getR_s hx, br_if]
    by_cases h : l.Label.length = 3
    ·rw [if_neg (by simp [h]), if_pos h]; rfl
    ·rw [if_pos (by simp only [bne_iff_ne]; omega), if_neg h]; rfl)
  (by
   intro _
   unfold r7Find.l0
   rw [br_dec, if_neg (by omega)]) with ⟨h1, h2⟩ | ⟨i, l, h1, h2, h3, h4⟩
 ·have h2' : loopN fuel (r7Find.l0 L x 3) 0 = some (.inr (.inr ())) := h2
  have hn : sees L x = none := by
   unfold sees
   rw [List.find?_eq_none.2]
   ·rfl
   ·intro l hl
    obtain ⟨i, hi⟩ := List.getElem?_of_mem hl
    have := h1 i l hi
    simpa using this
  rw [h2', bd_s, hn]
 ·have hs : L.find? (fun l => l.ID == x) = some l := by
   rw [List.find?_eq_some_iff_getElem]
   obtain ⟨hi, hx⟩ := List.getElem?_eq_some_iff.1 h1
   refine ⟨by simpa using h2, i, hi, hx, fun j hj => ?_⟩
   have := h4 j (L[j]'(by omega)) hj (by simp)
   simpa using this
  have h3' : loopN fuel (r7Find.l0 L x 3) 0 = some (if l.Label.length = 3 then .inr (.inl l.Label) else .inl ()) := h3
  unfold sees
  rw [h3', bd_s, hs, Option.map_some]
  by_cases h : l.Label.length = 3
  ·rw [if_pos h, if_pos h]
  ·rw [if_neg h, if_neg h]
theorem sees_len {L : List Named} {x : Int} {l : List Int} (h : sees L x = some (some l)) : ∃ a b c, l = [a, b, c] := by
 unfold sees at h
 cases hf : L.find? (fun l => l.ID == x) with
 | none => rw [hf] at h; cases h
 | some y =>
  rw [hf, Option.map_some] at h
  by_cases hl : y.Label.length = 3
  ·rw [if_pos hl] at h
   cases h
   match y.Label, hl with
   | [a, b, c], _ => exact ⟨a, b, c, rfl⟩
  ·rw [if_neg hl] at h; cases h
theorem Count_same (v : View) (hl : v.Labels.length ≤ 1000) : ∃ n, forest_Count v = some n ∧ r7Count v = some n := by
 unfold forest_Count r7Count
 obtain ⟨M, h1, h2⟩ := seen_eq v hl
 rw [h1, bd_s, h2, Find7_eq v.Labels _ hl, bd_s]
 cases hs : sees v.Labels v.Vertex.ID with
 | none => exact ⟨0, rfl, rfl⟩
 | some o =>
  cases o with
  | none => exact ⟨0, rfl, rfl⟩
  | some l =>
   obtain ⟨a, b, c, rfl⟩ := sees_len hs
   rw [oc_s, oc_s, gd_t (show [a, b, c].isEmpty = false from rfl)]
   refine ⟨if b == 0 then 1 else 0, ?_, ?_⟩
   ·show br (b == 0) _ _ = _
    cases b == 0 <;> rfl
   ·show br (b == 0) _ _ = _
    cases b == 0 <;> rfl
end Go.Fw.Gen
