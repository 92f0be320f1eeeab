/- The edges at a vertex, and the forest's search, in plain lists. -/
import Derived.Test.YtpkjgdngkhnhpaaPB
namespace Go.Fw.Gen
open Go.Fw
theorem foldX_inv {A α R : Type} (g : A → α → Option (A ⊕ R)) (h : A → α → A) (I : Nat → A → Prop) : ∀ (l : List α) (i : Nat) (a : A), I i a →
  (∀ (j : Nat) (x : α) (a : A), l[j]? = some x → I (i + j) a → g a x = some (.inl (h a x)) ∧ I (i + j + 1) (h a x)) → foldX g l a = some (.inl (l.foldl h a))
 | [], i, a, _, _ => rfl
 | x :: l, i, a, hI, H => by
  obtain ⟨h1, h2⟩ := H 0 x a rfl hI
  simp only [foldX, h1, List.foldl]
  refine foldX_inv g h I l (i + 1) _ h2 fun j y b hy hb => ?_
  have e : i + 1 + j = i + (j + 1) := by omega
  rw [e] at hb ⊢
  exact H (j + 1) y b (by simpa using hy) hb
theorem foldl_filter {α : Type} (p : α → Bool) : ∀ (l acc : List α), l.foldl (fun a x => if p x then a ++ [x] else a) acc = acc ++ l.filter p
 | [], acc => by simp
 | x :: l, acc => by
  simp only [List.foldl, foldl_filter p l, List.filter]
  cases p x <;> simp
theorem foldl_fm {α β : Type} (f : α → Option β) : ∀ (l : List α) (acc : List β), l.foldl (fun a x => match f x with | some y => a ++ [y] | none => a) acc = acc ++ l.filterMap f
 | [], acc => by simp
 | x :: l, acc => by
  simp only [List.foldl, foldl_fm f l, List.filterMap]
  cases f x <;> simp
theorem foldl_app {α β : Type} (f : α → β) : ∀ (l : List α) (acc : List β), l.foldl (fun a x => a ++ [f x]) acc = acc ++ l.map f
 | [], acc => by simp
 | x :: l, acc => by simp [List.foldl, foldl_app f l]
theorem nx_gd {S R A : Type} {e : A → S} {p : Prop} [Decidable p] {t : Option (A ⊕ R)} : nx e (gd p t) = gd p (nx e t) := by
 unfold gd; split <;> rfl
theorem nx_br {S R A : Type} {e : A → S} {b : Bool} {t f : Option (A ⊕ R)} : nx e (br b t f) = br b (nx e t) (nx e f) := by cases b <;> rfl
theorem nx_bd {S R A α : Type} {e : A → S} {o : Option α} {k : α → Option (A ⊕ R)} : nx e (bd o k) = bd o fun a => nx e (k a) := by cases o <;> rfl
theorem nx_inl {S R A : Type} {e : A → S} {a : A} : nx (R := R) e (some (.inl a)) = some (.cont (e a)) := rfl
theorem nx_inr {S R A : Type} {e : A → S} {r : R} : nx e (some (.inr r)) = some (.done r) := rfl
theorem loop_foldF {S R A α : Type} (f : S → Option (Nx S R)) (l : List α) (e : Nat → A → S) (g : A → α → Option (A ⊕ R)) (fin : A → R) (s0 : S) (a : A) (h0 : s0 = e 0 a) (hl : l.length ≤ 1000000)
  (hs : ∀ (i : Nat) (x : α) (a : A), i < l.length → l[i]? = some x → f (e i a) = nx (e (i + 1)) (g a x)) (he : ∀ a, f (e l.length a) = some (.done (fin a))) :
  loopN fuel f s0 = (foldX g l a).map (outX fin) := by
 rw [h0]
 exact loop_fold e g fin (fun i x a hx => hs i x a (List.getElem?_eq_some_iff.1 hx).1 hx) he (by have := fuel_pos; omega) a
def otherP (e : Edge) (id : Int) : Int := if id = e.From then e.To else if id = e.To then e.From else -1
def atB (id : Int) (e : Edge) : Bool := e.From == id || e.To == id
def atP (g : Graph) (id : Int) : List Edge := g.Edges.filter (atB id)
theorem Other_eq (e : Edge) (id : Int) : graph_Other e id = some (otherP e id) := by
 unfold graph_Other otherP
 simp only [br_if, beq_iff_eq]
 by_cases h : id = e.From
 ·simp [h]
 ·by_cases h' : id = e.To
  ·rw [if_neg h, if_neg h, if_pos h', if_pos h']
  ·rw [if_neg h, if_neg h, if_neg h', if_neg h']
theorem At_eq (g : Graph) (hs : SmallG g) (id : Int) : graph_At g id = some (atP g id) := by
 unfold graph_At
 have hl := hs.e
 rw [loop_foldF (graph_At.l0 id g.Edges ((g.Edges.length : Nat) : Int)) g.Edges (fun i (a : List Edge) => ((i : Int), a)) (fun a x => br (atB id x) (gd ((a ++ [x]).length ≤ bigLen) (some (.inl (a ++ [x])))) (some (.inl a))) (fun a => a) (0, []) [] rfl (by omega)
  (by
   intro i x a hi hx
   unfold graph_At.l0
   have e1 : IntKind.i64.wrap ((i : Int) + 1) = ((i + 1 : Nat) : Int) := by rw [wr]; omega
   rw [br_dec, if_pos (by simp only; omega), getR_s hx]
   simp only [e1, nx_br, nx_gd, nx_inl, atB]
   cases h1 : (x.From == id) <;> cases h2 : (x.To == id) <;> rfl)
  (by intro a; unfold graph_At.l0; rw [br_dec, if_neg (by simp only; omega)])]
 rw [foldX_inv _ (fun a x => if atB id x then a ++ [x] else a) (fun i a => a.length ≤ i) g.Edges 0 [] (by simp) (by
  intro j x a hx ha
  have hj := (List.getElem?_eq_some_iff.1 hx).1
  rw [br_if]
  split
  ·rw [gd_t (by simp only [List.length_append, List.length_singleton, bigLen]; omega)]
   exact ⟨rfl, by simp; omega⟩
  ·exact ⟨rfl, by omega⟩)]
 rw [foldl_filter]
 rfl
end Go.Fw.Gen
