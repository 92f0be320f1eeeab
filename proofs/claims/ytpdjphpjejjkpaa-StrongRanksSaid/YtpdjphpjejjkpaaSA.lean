/- Walks, strong components, ranks: no program in sight. -/
import Derived.Test.YtpdjphpjejjkpaaFxP
namespace Go.Fx.Str
open Classical
abbrev Arcs := List (Nat × Nat)
inductive Rch (A : Arcs) : Nat → Nat → Prop
 | refl (a : Nat) : Rch A a a
 | step {a b c : Nat} : (a, b) ∈ A → Rch A b c → Rch A a c
variable {A : Arcs} {a b c u v w : Nat}
theorem Rch.arc (h : (a, b) ∈ A) : Rch A a b := .step h (.refl b)
theorem Rch.trans (h : Rch A a b) (k : Rch A b c) : Rch A a c := by
 induction h with
 | refl => exact k
 | step h _ ih => exact .step h (ih k)
theorem Rch.snoc (h : Rch A a b) (k : (b, c) ∈ A) : Rch A a c := h.trans (.arc k)
theorem Rch.back {S : Nat → Prop} (hS : ∀ a b, (a, b) ∈ A → S b → S a) (h : Rch A a b) (k : S b) : S a := by
 induction h with
 | refl => exact k
 | step h _ ih => exact hS _ _ h (ih k)
theorem Rch.fore {S : Nat → Prop} (hS : ∀ a b, (a, b) ∈ A → S a → S b) (h : Rch A a b) (k : S a) : S b := by
 induction h with
 | refl => exact k
 | step h _ ih => exact ih (hS _ _ h k)
theorem Rch.sub {B : Arcs} (hs : ∀ p ∈ A, p ∈ B) (h : Rch A a b) : Rch B a b := by
 induction h with
 | refl => exact .refl _
 | step h _ ih => exact .step (hs _ h) ih
theorem Rch.last (h : Rch A a b) : a = b ∨ ∃ c, Rch A a c ∧ (c, b) ∈ A := by
 induction h with
 | refl => exact .inl rfl
 | step h _ ih =>
  rcases ih with rfl | ⟨c, h1, h2⟩
  ·exact .inr ⟨_, .refl _, h⟩
  ·exact .inr ⟨c, .step h h1, h2⟩
structure Scc (A : Arcs) (V : Nat → Prop) (root : Nat → Nat) : Prop where
 lt : ∀ v, V v → v < 24
 arc : ∀ a b, (a, b) ∈ A → V a ∧ V b
 mem : ∀ v, V v → V (root v) ∧ Rch A v (root v) ∧ Rch A (root v) v
 least : ∀ v u, V v → V u → Rch A v u → Rch A u v → root v ≤ u
 other : ∀ v, ¬ V v → root v = 0
variable {V : Nat → Prop} {root : Nat → Nat}
theorem Scc.rch (h : Scc A V root) (hv : V v) (hr : Rch A v u) : V u := by
 induction hr with
 | refl => exact hv
 | step k _ ih => exact ih (h.arc _ _ k).2
theorem Scc.eq_iff (h : Scc A V root) (hv : V v) (hu : V u) : root v = root u ↔ Rch A v u ∧ Rch A u v := by
 obtain ⟨v1, v2, v3⟩ := h.mem v hv
 obtain ⟨u1, u2, u3⟩ := h.mem u hu
 constructor
 ·intro e
  rw [e] at v2 v3
  exact ⟨v2.trans u3, u2.trans v3⟩
 ·rintro ⟨h1, h2⟩
  have e1 := h.least v (root u) hv u1 (h1.trans u2) (u3.trans h2)
  have e2 := h.least u (root v) hu v1 (h2.trans v2) (v3.trans h1)
  omega
theorem Scc.root2 (h : Scc A V root) (hv : V v) : root (root v) = root v := by
 obtain ⟨v1, v2, v3⟩ := h.mem v hv
 exact (h.eq_iff v1 hv).2 ⟨v3, v2⟩
theorem Scc.le (h : Scc A V root) (hv : V v) : root v ≤ v := h.least v v hv hv (.refl v) (.refl v)
/-! Ranks. -/
noncomputable def NN (A : Arcs) (v : Nat) : Nat := (List.range 24).countP fun u => decide (Rch A u v ∧ ¬ Rch A v u)
theorem countP_lt {p q : Nat → Bool} : ∀ {l : List Nat}, (∀ x ∈ l, p x = true → q x = true) → (∃ x ∈ l, q x = true ∧ p x = false) → l.countP p < l.countP q
 | [], _, ⟨x, hx, _⟩ => by simp at hx
 | y :: l, h, ⟨x, hx, hq, hp⟩ => by
  rw [List.countP_cons, List.countP_cons]
  have hle : l.countP p ≤ l.countP q := List.countP_mono_left fun z hz hzp => h z (.tail _ hz) hzp
  rcases List.mem_cons.1 hx with rfl | hx
  ·rw [if_pos hq, if_neg (by rw [hp]; simp)]; omega
  ·have ih := countP_lt (p := p) (q := q) (l := l) (fun z hz => h z (.tail _ hz)) ⟨x, hx, hq, hp⟩
   by_cases hy : p y = true
   ·rw [if_pos hy, if_pos (h y (.head _) hy)]; omega
   ·rw [if_neg hy]; split <;> omega
theorem NN_lt (hv : v < 24) : NN A v < 24 := by
 have : NN A v < (List.range 24).countP fun _ => true := countP_lt (fun _ _ _ => rfl) ⟨v, List.mem_range.2 hv, rfl, by simp [Rch.refl]⟩
 simpa using this
theorem Scc.NN_arc (h : Scc A V root) (hab : (a, b) ∈ A) (hr : root a ≠ root b) : NN A a < NN A b := by
 obtain ⟨va, vb⟩ := h.arc a b hab
 have hba : ¬ Rch A b a := fun k => hr ((h.eq_iff va vb).2 ⟨.arc hab, k⟩)
 refine countP_lt (fun u _ hu => ?_) ⟨a, List.mem_range.2 (h.lt a va), by simp [Rch.arc hab, hba], by simp [Rch.refl]⟩
 simp only [decide_eq_true_eq] at hu ⊢
 exact ⟨hu.1.snoc hab, fun k => hba (k.trans hu.1)⟩
theorem Scc.NN_eq (h : Scc A V root) (hv : V v) (hu : V u) (e : root v = root u) : NN A v = NN A u := by
 obtain ⟨h1, h2⟩ := (h.eq_iff hv hu).1 e
 refine congrArg (fun p => (List.range 24).countP p) (funext fun x => ?_)
 have : (Rch A x v ∧ ¬ Rch A v x) ↔ (Rch A x u ∧ ¬ Rch A u x) := ⟨fun ⟨k1, k2⟩ => ⟨k1.trans h1, fun k => k2 (h1.trans k)⟩, fun ⟨k1, k2⟩ => ⟨k1.trans h2, fun k => k2 (h2.trans k)⟩⟩
 simp [this]
def Cross (A : Arcs) (root : Nat → Nat) (a b : Nat) : Prop := (a, b) ∈ A ∧ root a ≠ root b
structure RkOk (A : Arcs) (V : Nat → Prop) (root : Nat → Nat) (k : Nat → Int) : Prop where
 pos : ∀ v, 0 ≤ k v
 cls : ∀ v w, v < 24 → w < 24 → root v = root w → k v = k w
 bd : ∀ v, V v → k v ≤ NN A v
 sup : ∀ v, v < 24 → 0 < k v → ∃ a b, Cross A root a b ∧ root b = root v ∧ k v ≤ k a + 1
structure RStep (A : Arcs) (root : Nat → Nat) (k k' : Nat → Int) : Prop where
 le : ∀ v, v < 24 → k v ≤ k' v
 arc : ∀ a b v, Cross A root a b → v < 24 → root v = root b → k a + 1 ≤ k' v
 why : ∀ v, v < 24 → k' v = k v ∨ ∃ a b, Cross A root a b ∧ root v = root b ∧ k' v = k a + 1
theorem RkOk.next (h : Scc A V root) {k k' : Nat → Int} (hk : RkOk A V root k) (s : RStep A root k k') (h0 : ∀ v, 24 ≤ v → k' v = 0) : RkOk A V root k' := by
 have nn : ∀ v, v < 24 → 0 ≤ k' v := fun v hv => Int.le_trans (hk.pos v) (s.le v hv)
 have cl : ∀ v w, v < 24 → w < 24 → root v = root w → k' v ≤ k' w := by
  intro v w hv hw e
  rcases s.why v hv with h1 | ⟨a, b, h1, h2, h3⟩
  ·rw [h1, hk.cls v w hv hw e]; exact s.le w hw
  ·rw [h3]; exact s.arc a b w h1 hw (by rw [← e, h2])
 refine ⟨fun v => ?_, fun v w hv hw e => Int.le_antisymm (cl v w hv hw e) (cl w v hw hv e.symm), fun v hv => ?_, fun v hv hp => ?_⟩
 ·by_cases hv : v < 24
  ·exact nn v hv
  ·rw [h0 v (by omega)]; exact Int.le_refl 0
 ·rcases s.why v (h.lt v hv) with h1 | ⟨a, b, h1, h2, h3⟩
  ·rw [h1]; exact hk.bd v hv
  ·obtain ⟨va, vb⟩ := h.arc a b h1.1
   have := hk.bd a va
   have := h.NN_arc h1.1 h1.2
   rw [h3, h.NN_eq hv vb h2]; omega
 ·rcases s.why v hv with h1 | ⟨a, b, h1, h2, h3⟩
  ·rw [h1] at hp
   obtain ⟨a, b, c1, c2, c3⟩ := hk.sup v hv hp
   refine ⟨a, b, c1, c2, ?_⟩
   have := s.le a (h.lt a (h.arc a b c1.1).1)
   rw [h1]; omega
  ·refine ⟨a, b, h1, h2.symm, ?_⟩
   have := s.le a (h.lt a (h.arc a b h1.1).1)
   rw [h3]; omega
structure Rank (A : Arcs) (V : Nat → Prop) (root : Nat → Nat) (k : Nat → Int) : Prop extends RkOk A V root k where
 up : ∀ a b, Cross A root a b → k a + 1 ≤ k b
 why : ∀ v, v < 24 → 0 < k v → ∃ a b, Cross A root a b ∧ root b = root v ∧ k a = k v - 1
theorem Rank.of (h : Scc A V root) {k : Nat → Int} (hk : RkOk A V root k) (s : RStep A root k k) : Rank A V root k := by
 have up : ∀ a b, Cross A root a b → k a + 1 ≤ k b := fun a b c => s.arc a b b c (h.lt b (h.arc a b c.1).2) rfl
 refine ⟨hk, up, fun v hv hp => ?_⟩
 obtain ⟨a, b, c1, c2, c3⟩ := hk.sup v hv hp
 refine ⟨a, b, c1, c2, ?_⟩
 have := up a b c1
 have := hk.cls b v (h.lt b (h.arc a b c1.1).2) hv c2
 omega
theorem Rank.le {k : Nat → Int} (h : Rank A V root k) (hs : Scc A V root) (hv : V v) : 0 ≤ k v ∧ k v ≤ 23 := by
 have := h.bd v hv
 have := NN_lt (A := A) (hs.lt v hv)
 exact ⟨h.pos v, by omega⟩
theorem Rank.uniq (hs : Scc A V root) {k k' : Nat → Int} (h : Rank A V root k) (h' : Rank A V root k') : ∀ (n v : Nat), V v → NN A v < n → k v = k' v := by
 have half : ∀ {k k' : Nat → Int}, Rank A V root k → Rank A V root k' → ∀ (n : Nat), (∀ v, V v → NN A v < n → k v = k' v) → ∀ v, V v → NN A v < n + 1 → k v ≤ k' v := by
  intro k k' h h' n ih v hv hn
  by_cases hp : 0 < k v
  ·obtain ⟨a, b, c1, c2, c3⟩ := h.why v (hs.lt v hv) hp
   obtain ⟨va, vb⟩ := hs.arc a b c1.1
   have e := ih a va (by have := hs.NN_arc c1.1 c1.2; rw [hs.NN_eq vb hv c2] at this; omega)
   have := h'.up a b c1
   have := h'.cls b v (hs.lt b vb) (hs.lt v hv) c2
   omega
  ·have := h'.pos v
   have := h.pos v
   omega
 intro n
 induction n with
 | zero => intro v _ hn; omega
 | succ n ih =>
  intro v hv hn
  exact Int.le_antisymm (half h h' n ih v hv hn) (half h' h n (fun v hv hn => (ih v hv hn).symm) v hv hn)
/-! Distances. -/
structure Dist (N : Nat → Nat → Prop) (S : Nat → Prop) (far : Int) (d : Nat → Int) : Prop where
 nn : ∀ v, v < 24 → d v = far ∨ 0 ≤ d v ∧ d v ≤ 23
 zero : ∀ v, v < 24 → (d v = 0 ↔ S v)
 step : ∀ v u, v < 24 → u < 24 → d v ≠ far → N v u → d u ≠ far ∧ d u ≤ d v + 1
 why : ∀ v, v < 24 → d v ≠ far → 0 < d v → ∃ u, u < 24 ∧ N u v ∧ d u ≠ far ∧ d u = d v - 1
theorem Dist.uniq {N : Nat → Nat → Prop} {S : Nat → Prop} {far far' : Int} (hf : 23 < far) (hf' : 23 < far') {d d' : Nat → Int} (h : Dist N S far d) (h' : Dist N S far' d') :
  ∀ v, v < 24 → (d v = far ∧ d' v = far') ∨ (d v ≠ far ∧ d' v = d v) := by
 have half : ∀ {far far' : Int} {d d' : Nat → Int}, 23 < far → 23 < far' → Dist N S far d → Dist N S far' d' → ∀ (n : Nat) (v : Nat), v < 24 → d v ≠ far → d v ≤ (n : Int) → d' v ≠ far' ∧ d' v ≤ d v := by
  intro far far' d d' hf hf' h h' n
  have base : ∀ v, v < 24 → d v = 0 → d' v ≠ far' ∧ d' v ≤ d v := by
   intro v hv h0
   have := (h'.zero v hv).2 ((h.zero v hv).1 h0)
   omega
  induction n with
  | zero =>
   intro v hv hn hle
   rcases h.nn v hv with e | ⟨e, _⟩
   ·exact absurd e hn
   ·exact base v hv (by omega)
  | succ n ih =>
   intro v hv hn hle
   rcases h.nn v hv with e | ⟨e, _⟩
   ·exact absurd e hn
   ·by_cases h0 : d v = 0
    ·exact base v hv h0
    ·obtain ⟨u, hu, h1, h2, h3⟩ := h.why v hv hn (by omega)
     obtain ⟨k1, k2⟩ := ih u hu h2 (by omega)
     obtain ⟨k3, k4⟩ := h'.step u v hu hv k1 h1
     exact ⟨k3, by omega⟩
 intro v hv
 by_cases e : d v = far
 ·left
  refine ⟨e, ?_⟩
  refine Classical.byContradiction fun e' => ?_
  rcases h'.nn v hv with k | ⟨k1, k2⟩
  ·exact e' k
  ·exact (half hf' hf h' h 23 v hv e' (by omega)).1 e
 ·right
  refine ⟨e, ?_⟩
  rcases h.nn v hv with k | ⟨k1, k2⟩
  ·exact absurd k e
  ·obtain ⟨l1, l2⟩ := half hf hf' h h' 23 v hv e (by omega)
   rcases h'.nn v hv with k | ⟨k3, k4⟩
   ·exact absurd k l1
   ·have := (half hf' hf h' h 23 v hv l1 (by omega)).2
    omega
theorem Dist.reach {B : Arcs} {S : Nat → Prop} {far : Int} {d : Nat → Int} (h : Dist (fun a b => (a, b) ∈ B) S far d) (hl : ∀ a b, (a, b) ∈ B → a < 24 ∧ b < 24) {s v : Nat} (hs : S s) (h24 : s < 24) (hf : far ≠ 0) (hr : Rch B s v) : d v ≠ far := by
 have h0 : d s ≠ far := by rw [(h.zero s h24).2 hs]; exact hf.symm
 exact hr.fore (S := fun v => d v ≠ far) (fun a b hab ha => (h.step a b (hl a b hab).1 (hl a b hab).2 ha hab).1) h0
end Go.Fx.Str
