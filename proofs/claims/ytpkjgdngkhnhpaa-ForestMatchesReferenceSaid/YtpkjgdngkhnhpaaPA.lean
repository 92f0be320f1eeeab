/- Plain laws of loops over lists, by number; no program in sight. -/
import Derived.Test.YtpkjgdngkhnhpaaG1
import Derived.IntWalk
namespace Go.Fw.Gen
open Go.Fw
theorem wr {n : Int} (h : -9223372036854775808 ≤ n ∧ n ≤ 9223372036854775807 := by omega) : IntKind.i64.wrap n = n := IntWalk.i64_in n h
section
variable {S R A α β : Type}
theorem br_t {t f : Option α} : br true t f = t := rfl
theorem br_f {t f : Option α} : br false t f = f := rfl
theorem br_if {b : Bool} {t f : Option α} : br b t f = if b then t else f := by cases b <;> rfl
theorem br_dec {p : Prop} [Decidable p] {t f : Option α} : br (decide p) t f = if p then t else f := by
 by_cases h : p <;> simp [h, br]
theorem gd_t {p : Prop} [Decidable p] (h : p) {t : Option α} : gd p t = t := by unfold gd; rw [if_pos h]
theorem bd_s {a : α} {k : α → Option β} : bd (some a) k = k a := rfl
theorem bd_n {k : α → Option β} : bd none k = none := rfl
theorem oc_s {a : α} {z : Option β} {k : α → Option β} : oc (some a) z k = k a := rfl
theorem oc_n {z : Option β} {k : α → Option β} : oc none z k = z := rfl
theorem getR_nat {l : List α} {i : Nat} {k : α → Option β} : getR l (i : Int) k = bd l[i]? k := by
 unfold getR; rw [if_pos (by omega)]; rfl
theorem getR_s {l : List α} {i : Nat} {a : α} (h : l[i]? = some a) {k : α → Option β} : getR l (i : Int) k = k a := by rw [getR_nat, h]; rfl
theorem fuel_pos : 18446744073709551615 < fuel := by unfold fuel; decide
theorem loopN_of {f : S → Option (Nx S R)} (I : S → Prop) (Q : R → Prop) (m : S → Nat)
  (h : ∀ s, I s → (∃ s', f s = some (.cont s') ∧ I s' ∧ m s' < m s) ∨ ∃ r, f s = some (.done r) ∧ Q r) : ∀ (k : Nat) (s : S), I s → m s < k → ∃ r, loopN k f s = some r ∧ Q r := by
 intro k
 induction k with
 | zero => intro s _ hm; omega
 | succ k ih =>
  intro s hI hm
  simp only [loopN]
  rcases h s hI with ⟨s', h1, h2, h3⟩ | ⟨r, h1, h2⟩
  ·rw [h1]; exact ih s' h2 (by omega)
  ·rw [h1]; exact ⟨r, rfl, h2⟩
def foldX (g : A → α → Option (A ⊕ R)) : List α → A → Option (A ⊕ R)
 | [], a => some (.inl a)
 | x :: l, a => match g a x with
  | none => none
  | some (.inl a') => foldX g l a'
  | some (.inr r) => some (.inr r)
def outX (fin : A → R) : A ⊕ R → R
 | .inl a => fin a
 | .inr r => r
def nx (e : A → S) : Option (A ⊕ R) → Option (Nx S R)
 | none => none
 | some (.inl a) => some (.cont (e a))
 | some (.inr r) => some (.done r)
theorem loop_fold {f : S → Option (Nx S R)} {l : List α} (e : Nat → A → S) (g : A → α → Option (A ⊕ R)) (fin : A → R)
  (hs : ∀ (i : Nat) (x : α) (a : A), l[i]? = some x → f (e i a) = nx (e (i + 1)) (g a x)) (he : ∀ a, f (e l.length a) = some (.done (fin a))) {k : Nat} (hk : l.length < k) (a : A) :
  loopN k f (e 0 a) = (foldX g l a).map (outX fin) := by
 have key : ∀ (m i : Nat) (k : Nat) (a : A), i + m = l.length → m < k → loopN k f (e i a) = (foldX g (l.drop i) a).map (outX fin) := by
  intro m
  induction m with
  | zero =>
   intro i k a hi hk
   have : i = l.length := by omega
   subst this
   cases k with
   | zero => omega
   | succ k => simp [loopN, he, foldX, outX]
  | succ m ih =>
   intro i k a hi hk
   cases k with
   | zero => omega
   | succ k =>
    have hlt : i < l.length := by omega
    have hx : l[i]? = some l[i] := by simp [hlt]
    have hd : l.drop i = l[i] :: l.drop (i + 1) := List.drop_eq_getElem_cons hlt
    simp only [loopN, hs i _ a hx, hd, foldX]
    cases hg : g a l[i] with
    | none => simp [nx]
    | some y =>
     cases y with
     | inl a' => simp only [nx]; exact ih (i + 1) k a' (by omega) (by omega)
     | inr r => simp [nx, outX]
 have := key l.length 0 k a (by omega) hk
 simpa using this
theorem foldX_inl (g : A → α → Option (A ⊕ R)) (h : A → α → A) : ∀ (l : List α) (a : A), (∀ x ∈ l, ∀ a, g a x = some (.inl (h a x))) → foldX g l a = some (.inl (l.foldl h a))
 | [], a, _ => rfl
 | x :: l, a, H => by
  simp only [foldX, H x (.head _) a, List.foldl]
  exact foldX_inl g h l _ fun y hy => H y (.tail _ hy)
theorem foldX_find (g : A → α → Option (A ⊕ R)) (p : α → Bool) (r : α → R) (a : A) : ∀ (l : List α), (∀ x ∈ l, g a x = if p x then some (.inr (r x)) else some (.inl a)) →
  foldX g l a = some (match l.find? p with | some x => .inr (r x) | none => .inl a)
 | [], _ => rfl
 | x :: l, H => by
  simp only [foldX, H x (.head _), List.find?]
  cases h : p x with
  | true => simp
  | false => simp only [Bool.false_eq_true, if_false]; exact foldX_find g p r a l fun y hy => H y (.tail _ hy)
theorem foldX_append (g : A → α → Option (A ⊕ R)) : ∀ (l m : List α) (a a' : A), foldX g l a = some (.inl a') → foldX g (l ++ m) a = foldX g m a'
 | [], m, a, a', h => by simp only [foldX, Option.some.injEq, Sum.inl.injEq] at h; subst h; rfl
 | x :: l, m, a, a', h => by
  simp only [foldX, List.cons_append] at h ⊢
  cases hg : g a x with
  | none => rw [hg] at h; cases h
  | some y =>
   rw [hg] at h
   cases y with
   | inl b => exact foldX_append g l m b a' h
   | inr r => cases h
end
theorem cast_lt {i n : Nat} : (decide ((i : Int) < (n : Int))) = decide (i < n) := by simp
def pickZ (c n : Int) : Int := if c < 0 then (-(c + 1)) % n else c % n
end Go.Fw.Gen
