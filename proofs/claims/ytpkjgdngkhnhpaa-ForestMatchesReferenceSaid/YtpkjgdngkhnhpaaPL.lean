/- The tree path, the side, and their checks, in plain words. -/
import Derived.Test.YtpkjgdngkhnhpaaPJ
namespace Go.Fw.Gen
open Go.Fw
def stepP (g : Graph) (x id : Int) : Int := match g.Edges.find? (fun e => e.ID == id) with
 | some e => otherP e x
 | none => -1
theorem step_eq {g : Graph} (hs : SmallG g) (x id : Int) : forest_step g x id = some (stepP g x id) := by
 unfold forest_step
 have hl := hs.e
 rw [loop_foldF (forest_step.l0 x id g.Edges ((g.Edges.length : Nat) : Int)) g.Edges (fun i (_ : Unit) => (i : Int)) (fun a e => if e.ID == id then some (.inr (.inl (otherP e x))) else some (.inl a)) (fun _ => .inr ()) 0 () rfl (by omega)
  (by
   intro i e a hi hx
   have e1 : IntKind.i64.wrap ((i : Int) + 1) = ((i + 1 : Nat) : Int) := by rw [wr]; omega
   unfold forest_step.l0
   rw [br_dec, if_pos (by omega), getR_s hx, br_if, Other_eq, bd_s, e1]
   cases e.ID == id <;> rfl)
  (by intro a; unfold forest_step.l0; rw [br_dec, if_neg (by omega)]),
  foldX_find _ (fun e => e.ID == id) (fun e => .inl (otherP e x)) () g.Edges (fun e _ => by cases e.ID == id <;> rfl)]
 unfold stepP
 cases g.Edges.find? (fun e => e.ID == id) <;> rfl
theorem stepP_of {g : Graph} (hg : VG g) {e : Edge} (he : e ∈ g.Edges) (x : Int) : stepP g x e.ID = otherP e x := by
 unfold stepP
 cases hf : g.Edges.find? (fun f => f.ID == e.ID) with
 | none =>
  rw [List.find?_eq_none] at hf
  exact absurd (beq_self_eq_true _) (hf e he)
 | some f =>
  have h1 := List.mem_of_find?_eq_some hf
  have h2 := List.find?_some hf
  rw [edge_uniq hg h1 he (by simpa using h2)]
theorem stepP_back {g : Graph} {x id : Int} (h : 0 ≤ stepP g x id) : ∃ e ∈ g.Edges, e.ID = id ∧ atB x e = true ∧ stepP g x id = otherP e x := by
 unfold stepP at h ⊢
 cases hf : g.Edges.find? (fun f => f.ID == id) with
 | none => rw [hf] at h; simp at h
 | some e =>
  rw [hf] at h
  have h1 := List.mem_of_find?_eq_some hf
  have h2 := List.find?_some hf
  refine ⟨e, h1, by simpa using h2, ?_, rfl⟩
  simp only [otherP] at h
  unfold atB
  by_cases a : x = e.From
  ·simp [a]
  ·by_cases b : x = e.To
   ·simp [b]
   ·rw [if_neg a, if_neg b] at h; omega
theorem hasV_nn {g : Graph} (hg : VG g) {x : Int} (h : hasV g x = true) : 0 ≤ x := by
 obtain ⟨v, hv, rfl⟩ := hasV_iff.1 h
 exact (hg.vid v hv).1
def par (g : Graph) (x : Int) : Int := stepP g x (ed g x)
theorem par_spec {g : Graph} (hg : VG g) {x : Int} (hx : hasV g x = true) (h0 : dp g x ≠ 0) :
  ∃ e ∈ g.Edges, atB x e = true ∧ e.ID = ed g x ∧ par g x = otherP e x ∧ hasV g (par g x) = true ∧ dp g (par g x) = dp g x - 1 ∧ rt g (par g x) = rt g x := by
 rcases ed_spec hg hx with ⟨h, _⟩ | ⟨_, e, he, h1, h2⟩
 ·exact absurd h h0
 ·obtain ⟨a, b⟩ := List.mem_filter.1 he
  have hp : par g x = otherP e x := by unfold par; rw [← h1]; exact stepP_of hg a x
  exact ⟨e, a, b, h1, hp, by rw [hp]; exact hg.other a b, by rw [hp]; exact h2, by rw [hp]; exact (edge_rt hg hx a b).1⟩
inductive Climb (g : Graph) : Int → Int → List Int → List Int → Prop
 | refl (a : Int) : hasV g a = true → Climb g a a [] [a]
 | up (a b : Int) (es vs : List Int) : hasV g a = true → dp g a ≠ 0 → a ≠ b → dp g b ≤ dp g a → Climb g (par g a) b es vs → Climb g a b (ed g a :: es) (a :: vs)
 | down (a b : Int) (es vs : List Int) : hasV g b = true → dp g b ≠ 0 → a ≠ b → dp g a < dp g b → Climb g a (par g b) es vs → Climb g a b (es ++ [ed g b]) (vs ++ [b])
theorem Climb.det {g : Graph} (hg : VG g) {a b : Int} {es vs : List Int} (h : Climb g a b es vs) : ∀ {es' vs' : List Int}, Climb g a b es' vs' → es = es' ∧ vs = vs' := by
 induction h with
 | refl a ha =>
  intro es' vs' h'
  cases h' with
  | refl => exact ⟨rfl, rfl⟩
  | up _ _ _ _ _ _ h1 => exact absurd rfl h1
  | down _ _ _ _ _ _ h1 => exact absurd rfl h1
 | up a b es vs ha h0 hne hle _ ih =>
  intro es' vs' h'
  cases h' with
  | refl => exact absurd rfl hne
  | up _ _ _ _ _ _ _ _ h2 => obtain ⟨h3, h4⟩ := ih h2; rw [h3, h4]; exact ⟨rfl, rfl⟩
  | down _ _ _ _ _ _ _ h1 => omega
 | down a b es vs ha h0 hne hlt _ ih =>
  intro es' vs' h'
  cases h' with
  | refl => exact absurd rfl hne
  | up _ _ _ _ _ _ _ h1 => omega
  | down _ _ _ _ _ _ _ _ h2 => obtain ⟨h3, h4⟩ := ih h2; rw [h3, h4]; exact ⟨rfl, rfl⟩
theorem Climb.len {g : Graph} {a b : Int} {es vs : List Int} (h : Climb g a b es vs) : vs.length = es.length + 1 := by
 induction h with
 | refl => rfl
 | up _ _ _ _ _ _ _ _ _ ih => simp [ih]
 | down _ _ _ _ _ _ _ _ _ ih => simp [ih]
theorem Climb.low {g : Graph} (hg : VG g) {a b : Int} {es vs : List Int} (h : Climb g a b es vs) : ∀ x ∈ vs, hasV g x = true ∧ (dp g x ≤ dp g a ∨ dp g x ≤ dp g b) := by
 induction h with
 | refl a ha => intro x hx; rw [List.mem_singleton] at hx; subst hx; exact ⟨ha, .inl (Int.le_refl _)⟩
 | up a b es vs ha h0 hne hle _ ih =>
  intro x hx
  have := (par_spec hg ha h0)
  obtain ⟨_, _, _, _, _, _, hd, _⟩ := this
  cases hx with
  | head => exact ⟨ha, .inl (Int.le_refl _)⟩
  | tail _ hx =>
   obtain ⟨h1, h2⟩ := ih x hx
   exact ⟨h1, by omega⟩
 | down a b es vs hb h0 hne hlt _ ih =>
  intro x hx
  obtain ⟨_, _, _, _, _, _, hd, _⟩ := par_spec hg hb h0
  rw [List.mem_append, List.mem_singleton] at hx
  rcases hx with hx | rfl
  ·obtain ⟨h1, h2⟩ := ih x hx
   exact ⟨h1, by omega⟩
  ·exact ⟨hb, .inr (Int.le_refl _)⟩
theorem Climb.nodup {g : Graph} (hg : VG g) {a b : Int} {es vs : List Int} (h : Climb g a b es vs) : vs.Nodup := by
 induction h with
 | refl => simp
 | up a b es vs ha h0 hne hle hc ih =>
  obtain ⟨_, _, _, _, _, _, hd, _⟩ := par_spec hg ha h0
  refine List.nodup_cons.2 ⟨fun hm => ?_, ih⟩
  rcases Classical.em (dp g b < dp g a) with hlt | hlt
  ·have := (hc.low hg a hm).2
   omega
  ·cases hc with
   | refl _ h1 => rw [List.mem_singleton] at hm; exact hne hm
   | up _ _ es vs h1 h2 h3 h4 h5 => omega
   | down _ _ es vs h1 h2 h3 h4 h5 =>
    obtain ⟨_, _, _, _, _, _, hd2, _⟩ := par_spec hg h1 h2
    rw [List.mem_append, List.mem_singleton] at hm
    rcases hm with hm | hm
    ·have := (h5.low hg a hm).2; omega
    ·exact hne hm
 | down a b es vs hb h0 hne hlt hc ih =>
  obtain ⟨_, _, _, _, _, _, hd, _⟩ := par_spec hg hb h0
  rw [List.nodup_append]
  refine ⟨ih, by simp, fun x hx y hy => ?_⟩
  rw [List.mem_singleton] at hy
  subst hy
  rintro rfl
  have := (hc.low hg x hx).2
  omega
theorem Climb.short {g : Graph} (hg : VG g) {a b : Int} {es vs : List Int} (h : Climb g a b es vs) : es.length ≤ 23 := by
 have h1 := nodup_len (m := g.Vertices.map (·.ID)) (h.nodup hg) (by
  intro x hx
  obtain ⟨v, hv, e⟩ := hasV_iff.1 (h.low hg x hx).1
  exact List.mem_map.2 ⟨v, hv, e⟩)
 have h2 := h.len
 have h3 := hg.vlen
 rw [List.length_map] at h1
 omega
theorem Climb.symm {g : Graph} (hg : VG g) : ∀ (n : Nat) {a b : Int} {es vs : List Int}, es.length < n → Climb g a b es vs → Climb g b a es.reverse vs.reverse := by
 intro n
 induction n with
 | zero => intro a b es vs hn; omega
 | succ n IH =>
  intro a b es vs hn h
  cases h with
  | refl _ ha => exact .refl a ha
  | up _ _ es vs ha h0 hne hle hc =>
   simp only [List.length_cons] at hn
   obtain ⟨_, _, _, _, _, _, hd, _⟩ := par_spec hg ha h0
   rw [List.reverse_cons, List.reverse_cons]
   rcases Classical.em (dp g b < dp g a) with hlt | hlt
   ·exact .down b a _ _ ha h0 hne.symm hlt (IH (by omega) hc)
   ·generalize hp : par g a = p at hc
    cases hc with
    | refl _ h1 => subst hp; omega
    | up _ _ es vs h1 h2 h3 h4 h5 => subst hp; omega
    | down _ _ es vs h1 h2 h3 h4 h5 =>
     subst hp
     obtain ⟨_, _, _, _, _, _, hd2, _⟩ := par_spec hg h1 h2
     rw [List.length_append, List.length_singleton] at hn
     have k := IH (by omega) h5
     rw [List.reverse_append, List.reverse_append]
     have k2 : Climb g (par g b) a (es.reverse ++ [ed g a]) (vs.reverse ++ [a]) := .down _ _ _ _ ha h0 (by rintro h; rw [h] at hd2; omega) (by omega) k
     exact .up b a _ _ h1 h2 hne.symm (by omega) k2
  | down _ _ es vs hb h0 hne hlt hc =>
   rw [List.length_append, List.length_singleton] at hn
   rw [List.reverse_append, List.reverse_append]
   exact .up b a _ _ hb h0 hne.symm (by omega) (IH (by omega) hc)
inductive Way (g : Graph) : Int → List Int → List Int → Int → Prop
 | nil (a : Int) : hasV g a = true → Way g a [] [a] a
 | cons (a : Int) (e : Edge) (es vs : List Int) (b : Int) : hasV g a = true → e ∈ g.Edges → atB a e = true → Way g (otherP e a) es vs b → Way g a (e.ID :: es) (a :: vs) b
theorem Way.snoc {g : Graph} (hg : VG g) {a c b : Int} {es vs : List Int} (h : Way g a es vs c) {e : Edge} (he : e ∈ g.Edges) (hb : atB b e = true) (hc : otherP e b = c) (hv : hasV g b = true) : Way g a (es ++ [e.ID]) (vs ++ [b]) b := by
 induction h with
 | nil a ha =>
  obtain ⟨h1, h2⟩ := other_back hb
  rw [hc] at h1 h2
  refine .cons a e [] [b] b ha he h1 ?_
  rw [h2]; exact .nil b hv
 | cons a f es vs c ha hf hfa _ ih => exact .cons a f _ _ b ha hf hfa (ih hc)
theorem Climb.way {g : Graph} (hg : VG g) {a b : Int} {es vs : List Int} (h : Climb g a b es vs) : Way g a es vs b := by
 induction h with
 | refl a ha => exact .nil a ha
 | up a b es vs ha h0 hne hle _ ih =>
  obtain ⟨e, he, h1, h2, h3, _⟩ := par_spec hg ha h0
  rw [← h2]
  rw [h3] at ih
  exact .cons a e es vs b ha he h1 ih
 | down a b es vs hb h0 hne hlt _ ih =>
  obtain ⟨e, he, h1, h2, h3, _⟩ := par_spec hg hb h0
  rw [← h2]
  exact ih.snoc hg he h1 h3.symm hb
def walkB (g : Graph) : Int → List Int → Option Int
 | a, [] => some a
 | a, id :: l => if stepP g a id < 0 then none else walkB g (stepP g a id) l
theorem Way.walk {g : Graph} (hg : VG g) {a b : Int} {es vs : List Int} (h : Way g a es vs b) : walkB g a es = some b := by
 induction h with
 | nil => rfl
 | cons a e es vs b ha he hb _ ih =>
  unfold walkB
  have := hasV_nn hg (hg.other he hb)
  rw [stepP_of hg he, if_neg (by omega), ih]
theorem walkB_rt {g : Graph} (hg : VG g) : ∀ (l : List Int) {a b : Int}, hasV g a = true → walkB g a l = some b → rt g b = rt g a
 | [], a, b, _, h => by cases h; rfl
 | id :: l, a, b, ha, h => by
  unfold walkB at h
  by_cases hn : stepP g a id < 0
  ·rw [if_pos hn] at h; cases h
  ·rw [if_neg hn] at h
   obtain ⟨e, he, _, hb, h1⟩ := stepP_back (g := g) (x := a) (id := id) (by omega)
   rw [h1] at h
   rw [walkB_rt hg l (hg.other he hb) h, (edge_rt hg ha he hb).1]
theorem CheckPath_eq {g : Graph} (hg : VG g) (hs : SmallG g) (hv : validP g = true) {a b : Int} (ha : hasV g a = true) (hb : hasV g b = true) (l : List Int) (hl : l.length ≤ 1000) :
  forest_CheckPath g a b l = some (decide (l.length ≤ 40) && (walkB g a l == some b)) := by
 unfold forest_CheckPath
 rw [known_eq g hs _ (by simp), bd_s, hv]
 simp only [List.all_cons, List.all_nil, ha, hb, Bool.and_self, Bool.not_true, br_f]
 rw [br_dec]
 by_cases h40 : l.length ≤ 40
 ·rw [if_neg (by omega), decide_eq_true h40, Bool.true_and]
  have key : ∀ (m i k : Nat) (x : Int), i + m = l.length → m < k → loopN k (forest_CheckPath.l0 b l ((l.length : Nat) : Int) g.Vertices g.Edges g.Depots) (x, (i : Int)) =
    some (match walkB g x (l.drop i) with | some y => .inr y | none => .inl ()) := by
   intro m
   induction m with
   | zero =>
    intro i k x hi hk
    cases k with
    | zero => omega
    | succ k =>
     have : i = l.length := by omega
     subst this
     simp only [loopN]
     rw [show forest_CheckPath.l0 b l ((l.length : Nat) : Int) g.Vertices g.Edges g.Depots (x, ((l.length : Nat) : Int)) = some (.done (.inr x)) by
      unfold forest_CheckPath.l0; rw [br_dec, if_neg (by simp only; omega)]]
     rw [List.drop_length]; rfl
   | succ m ih =>
    intro i k x hi hk
    cases k with
    | zero => omega
    | succ k =>
     have hx : l[i]? = some (l[i]'(by omega)) := by simp
     have hd : l.drop i = l[i]'(by omega) :: l.drop (i + 1) := List.drop_eq_getElem_cons (by omega)
     generalize l[i]'(by omega) = id at hx hd
     have e1 : IntKind.i64.wrap ((i : Int) + 1) = ((i + 1 : Nat) : Int) := by rw [wr]; omega
     have hstep : forest_CheckPath.l0 b l ((l.length : Nat) : Int) g.Vertices g.Edges g.Depots (x, (i : Int)) = if stepP g x id < 0 then some (.done (.inl ())) else some (.cont (stepP g x id, ((i + 1 : Nat) : Int))) := by
      unfold forest_CheckPath.l0
      rw [br_dec, if_pos (by simp only; omega)]
      simp only
      rw [getR_s hx, step_eq hs, bd_s, br_dec, e1]
     simp only [loopN]
     rw [hstep, hd]
     unfold walkB
     by_cases hn : stepP g x id < 0
     ·rw [if_pos hn, if_pos hn]
     ·rw [if_neg hn, if_neg hn]
      exact ih (i + 1) k _ (by omega) (by omega)
  have := key l.length 0 fuel a (by omega) (by have := fuel_pos; omega)
  rw [show ((0 : Nat) : Int) = 0 from rfl] at this
  rw [this, bd_s, List.drop_zero]
  cases walkB g a l <;> rfl
 ·rw [if_pos (by omega), decide_eq_false h40]; rfl
end Go.Fw.Gen
