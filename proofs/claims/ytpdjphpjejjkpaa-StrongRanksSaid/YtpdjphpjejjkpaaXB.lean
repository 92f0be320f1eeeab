/- Loops of printed trees, by what holds at their heads. -/
import Derived.Test.YtpdjphpjejjkpaaXA
namespace Go.Fx
variable {S R A α β : Type}
theorem loop_of {f : S → Option (Nx S R)} (I : S → Prop) (Q : R → Prop) (m : S → Nat)
  (h : ∀ s, I s → (∃ s', f s = some (.cont s') ∧ I s' ∧ m s' < m s) ∨ ∃ r, f s = some (.done r) ∧ Q r) : ∀ (k : Nat) (s : S), I s → m s < k → ∃ r, loopN k f s = some r ∧ Q r := by
 intro k
 induction k with
 | zero => intro s _ hm; omega
 | succ k ih =>
  intro s hI hm
  rw [loopN_succ]
  rcases h s hI with ⟨s', h1, h2, h3⟩ | ⟨r, h1, h2⟩
  ·rw [h1, stp_c]; exact ih s' h2 (by omega)
  ·rw [h1, stp_d]; exact ⟨r, rfl, h2⟩
theorem loop_ix {f : S → Option (Nx S R)} {n : Nat} (e : Nat → A → S) (I : Nat → A → Prop) (Q : R → Prop)
  (hs : ∀ i a, i < n → I i a → (∃ a', f (e i a) = some (.cont (e (i + 1) a')) ∧ I (i + 1) a') ∨ ∃ r, f (e i a) = some (.done r) ∧ Q r)
  (he : ∀ a, I n a → ∃ r, f (e n a) = some (.done r) ∧ Q r) : ∀ {k : Nat} {a : A}, n < k → I 0 a → ∃ r, loopN k f (e 0 a) = some r ∧ Q r := by
 have key : ∀ (m i k : Nat) (a : A), i + m = n → m < k → I i a → ∃ r, loopN k f (e i a) = some r ∧ Q r := by
  intro m
  induction m with
  | zero =>
   intro i k a hi hk hI
   obtain rfl : i = n := by omega
   obtain ⟨k, rfl⟩ : ∃ k', k = k' + 1 := ⟨k - 1, by omega⟩
   obtain ⟨r, h1, h2⟩ := he a hI
   rw [loopN_succ, h1, stp_d]; exact ⟨r, rfl, h2⟩
  | succ m ih =>
   intro i k a hi hk hI
   obtain ⟨k, rfl⟩ : ∃ k', k = k' + 1 := ⟨k - 1, by omega⟩
   rw [loopN_succ]
   rcases hs i a (by omega) hI with ⟨a', h1, h2⟩ | ⟨r, h1, h2⟩
   ·rw [h1, stp_c]; exact ih (i + 1) k a' (by omega) (by omega) h2
   ·rw [h1, stp_d]; exact ⟨r, rfl, h2⟩
 intro k a hk h0
 exact key n 0 k a (by omega) hk h0
theorem loop_fold {f : S → Option (Nx S R)} {l : List α} (e : Nat → A → S) (g : A → α → A) (fin : A → R)
  (hs : ∀ (i : Nat) (x : α) (a : A), l[i]? = some x → f (e i a) = some (.cont (e (i + 1) (g a x)))) (he : ∀ a, f (e l.length a) = some (.done (fin a))) {k : Nat} (hk : l.length < k) (a : A) :
  loopN k f (e 0 a) = some (fin (l.foldl g a)) := by
 obtain ⟨r, h1, rfl⟩ := loop_ix (f := f) (n := l.length) e (fun i b => b = (l.take i).foldl g a) (fun r => r = fin (l.foldl g a))
  (fun i b hi hb => by
   have hx : l[i]? = some l[i] := by simp [hi]
   refine .inl ⟨_, hs i _ b hx, ?_⟩
   rw [hb, List.take_succ_eq_append_getElem hi, List.foldl_append]; rfl)
  (fun b hb => ⟨_, he b, by rw [hb, List.take_length]⟩) hk (a := a) (by simp)
 exact h1
theorem loop_find {f : S → Option (Nx S R)} {l : List α} (e : Nat → S) (p : α → Bool) (r : Nat → α → R) (none_ : R)
  (hs : ∀ (i : Nat) (x : α), l[i]? = some x → f (e i) = if p x then some (.done (r i x)) else some (.cont (e (i + 1)))) (he : f (e l.length) = some (.done none_)) {k : Nat} (hk : l.length < k) :
  loopN k f (e 0) = some (match l.findIdx? p with | some i => (match l[i]? with | some x => r i x | none => none_) | none => none_) := by
 obtain ⟨q, h1, rfl⟩ := loop_ix (A := Unit) (f := f) (n := l.length) (fun i _ => e i) (fun i _ => ∀ j (h : j < l.length), j < i → p l[j] = false)
  (fun q => q = (match l.findIdx? p with | some i => (match l[i]? with | some x => r i x | none => none_) | none => none_))
  (fun i b hi hb => by
   have hx : l[i]? = some l[i] := by simp [hi]
   have := hs i _ hx
   by_cases hp : p l[i] = true
   ·rw [if_pos hp] at this
    refine .inr ⟨_, this, ?_⟩
    have : l.findIdx? p = some i := List.findIdx?_eq_some_iff_getElem.2 ⟨hi, hp, fun j hj => by simp [hb j (by omega) hj]⟩
    simp only [this, hx]
   ·rw [if_neg hp] at this
    refine .inl ⟨(), this, ?_⟩
    intro j h hj
    by_cases e : j = i
    ·subst e; simpa using hp
    ·exact hb j h (by omega))
  (fun b hb => by
   refine ⟨_, he, ?_⟩
   have : l.findIdx? p = none := List.findIdx?_eq_none_iff.2 (fun x hx => by
    obtain ⟨j, hj, rfl⟩ := List.getElem_of_mem hx
    exact hb j hj hj)
   rw [this]) hk (a := ()) (by intro j _ hj; omega)
 exact h1
theorem cast_lt {i n : Nat} : (decide ((i : Int) < (n : Int))) = decide (i < n) := by simp
theorem cast_lt_t {i n : Nat} (h : i < n) : (decide ((i : Int) < (n : Int))) = true := by simp; exact h
theorem cast_lt_f {i n : Nat} (h : ¬ i < n) : (decide ((i : Int) < (n : Int))) = false := by simp; omega
theorem succ_wr {i n : Nat} (h : i < n) (hn : n ≤ 9223372036854775807) : IntKind.i64.wrap ((i : Int) + 1) = ((i + 1 : Nat) : Int) := by rw [wr]; omega
theorem getR_s {P : Program} [Cel α] {l : List α} {i : Nat} {x : α} (h : l[i]? = some x) {k : α → Prg P β} : (getR l (i : Int) k).run = (k x).run := by rw [r_getR, gi_s h, bd_s]
theorem rd_s {P : Program} [Cel α] {l : List α} {i : Nat} {x : α} (h : l[i]? = some x) {k : α → Prg P β} : (rd l i k).run = (k x).run := by rw [r_rd, h, bd_s]
theorem st_s {P : Program} [Cel α] {l : List α} {i : Nat} {x : α} {g : α → α} (h : l[i]? = some x) {k : List α → Prg P β} : (st l i g k).run = (k (l.set i (g x))).run := by rw [r_st, h]; rfl
theorem ap_s {P : Program} [Cel α] {l l2 : List α} (h : (l ++ l2).length ≤ bigLen) {k : List α → Prg P β} : (ap l l2 k).run = (k (l ++ l2)).run := by rw [r_ap, if_pos h, bd_s]
end Go.Fx
