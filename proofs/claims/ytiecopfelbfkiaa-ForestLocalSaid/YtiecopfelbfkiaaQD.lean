/- Labels of the forest: what plays no part; an edge more. No program in sight. -/
import Derived.Test.YtiecopfelbfkiaaQC
namespace Go.Fx.Gen
open Go.Fx Go.Proofs
set_option linter.unusedVariables false
namespace Frs

/-! Graphs that are alike. -/
def phi (e : Edge) : Int × (Int → Int) × (Int → Bool) := (e.ID, otherP e, fun x => atB x e)
structure Like (g g' : Graph) : Prop where
  vs : g'.Vertices.map (·.ID) = g.Vertices.map (·.ID)
  es : g'.Edges.map phi = g.Edges.map phi
def visitP (r x d : Int) (T : List Tr) (p : Int × (Int → Int) × (Int → Bool)) : List Tr := if T.any (fun t => t.1 == p.2.1 x) then T else T ++ [(p.2.1 x, r, d + 1)]
theorem visit_phi (r x d : Int) (T : List Tr) (l : List Edge) : l.foldl (visit r x d) T = (l.map phi).foldl (visitP r x d) T := by rw [List.foldl_map]; rfl
theorem filter_phi (x : Int) (l : List Edge) : (l.filter (atB x)).map phi = (l.map phi).filter fun p => p.2.2 x := by rw [List.filter_map]; rfl

variable {g g' : Graph}

theorem Like.at (h : Like g g') (x : Int) : (atP g' x).map phi = (atP g x).map phi := by
  unfold atP
  rw [filter_phi, filter_phi, h.es]
theorem Like.bfs (h : Like g g') : ∀ (n k : Nat) (T : List Tr), Frs.bfs g' n k T = Frs.bfs g n k T
  | 0, _, _ => rfl
  | n + 1, k, T => by
    unfold Frs.bfs
    cases T[k]? with
    | none => rfl
    | some t =>
      simp only
      rw [visit_phi, visit_phi, h.at, h.bfs n]
theorem Like.outer (h : Like g g') : ∀ (vs vs' : List Vertex) (T : List Tr), vs'.map (·.ID) = vs.map (·.ID) → Frs.outer g' vs' T = Frs.outer g vs T
  | [], vs', T, e => by
    have : vs' = [] := List.map_eq_nil_iff.1 e
    subst this; rfl
  | v :: vs, vs', T, e => by
    cases vs' with
    | nil => simp at e
    | cons u us =>
      simp only [List.map_cons, List.cons.injEq] at e
      unfold Frs.outer
      rw [e.1, h.outer vs us _ e.2, h.bfs, h.outer vs us _ e.2]
theorem Like.allT (h : Like g g') : Frs.allT g' = Frs.allT g := h.outer _ _ _ h.vs
theorem edgeOf_phi (g : Graph) (T : List Tr) (t : Tr) : edgeOf g T t = match ((atP g t.1).map phi).find? (fun p => dep? T (p.2.1 t.1) == some (t.2.2 - 1)) with | some p => p.1 | none => -1 := by
  unfold edgeOf
  rw [List.find?_map]
  show _ = match ((atP g t.1).find? fun e => dep? T (otherP e t.1) == some (t.2.2 - 1)).map phi with | some p => p.1 | none => -1
  cases (atP g t.1).find? fun e => dep? T (otherP e t.1) == some (t.2.2 - 1) <;> rfl
theorem Like.lb (h : Like g g') (x : Int) : Frs.lb g' x = Frs.lb g x := by
  unfold Frs.lb rt dp ed look
  rw [h.allT, edgeOf_phi, edgeOf_phi, h.at]
theorem labs_map (g : Graph) : labs g = (g.Vertices.map (·.ID)).map fun x => ⟨x, lb g x⟩ := by unfold labs; rw [List.map_map]; rfl
theorem Like.labs (h : Like g g') : Frs.labs g' = Frs.labs g := by
  rw [labs_map, labs_map, h.vs]
  exact List.map_congr_left fun x _ => by rw [h.lb]

/-! An edge more. -/
structure More (g g' : Graph) (e : Edge) : Prop where
  vs : g'.Vertices = g.Vertices
  es : g'.Edges = g.Edges ++ [e]
/-- It leads nowhere else. -/
def Idle (g : Graph) (e : Edge) : Prop := ∀ x, atB x e = true → otherP e x = x ∨ ∃ y ∈ g.Edges, atB x y = true ∧ otherP y x = otherP e x

variable {e : Edge}
theorem More.at (h : More g g' e) (x : Int) : atP g' x = atP g x ++ if atB x e = true then [e] else [] := by
  unfold atP
  rw [h.es, List.filter_append]
  by_cases hx : atB x e = true
  · rw [if_pos hx, List.filter_cons_of_pos hx]; rfl
  · rw [if_neg hx, List.filter_cons_of_neg hx]; rfl
theorem visit_sub {r x d y : Int} : ∀ (l : List Edge) (T : List Tr), y ∈ ids T → y ∈ ids (l.foldl (visit r x d) T)
  | [], _, h => h
  | f :: l, T, h => by
    refine visit_sub l _ ?_
    unfold visit
    split
    · exact h
    · simp only [ids, List.map_append, List.mem_append]; exact .inl h
theorem visit_in {r x d : Int} (T : List Tr) (f : Edge) : otherP f x ∈ ids (visit r x d T f) := by
  unfold visit
  by_cases ha : T.any (fun t => t.1 == otherP f x) = true
  · rw [if_pos ha]; exact any_ids.1 ha
  · rw [if_neg ha]; simp [ids]
theorem visit_has {r x d : Int} {f : Edge} : ∀ (l : List Edge) (T : List Tr), f ∈ l → otherP f x ∈ ids (l.foldl (visit r x d) T)
  | [], _, h => by cases h
  | a :: l, T, h => by
    rcases List.mem_cons.1 h with rfl | h
    · exact visit_sub l _ (visit_in T f)
    · exact visit_has l _ h
theorem visit_same {r x d : Int} {T : List Tr} {f : Edge} (h : T.any (fun t => t.1 == otherP f x) = true) : visit r x d T f = T := by unfold visit; rw [if_pos h]
theorem More.step (h : More g g' e) (hI : Idle g e) {T : List Tr} {t : Tr} (ht : t ∈ T) : (atP g' t.1).foldl (visit t.2.1 t.1 t.2.2) T = (atP g t.1).foldl (visit t.2.1 t.1 t.2.2) T := by
  rw [h.at, List.foldl_append]
  by_cases hx : atB t.1 e = true
  · rw [if_pos hx]
    have hin : otherP e t.1 ∈ ids ((atP g t.1).foldl (visit t.2.1 t.1 t.2.2) T) := by
      rcases hI t.1 hx with h1 | ⟨y, y1, y2, y3⟩
      · rw [h1]; exact visit_sub _ _ (List.mem_map.2 ⟨t, ht, rfl⟩)
      · rw [← y3]; exact visit_has _ _ (List.mem_filter.2 ⟨y1, y2⟩)
    exact visit_same (any_ids.2 hin)
  · rw [if_neg hx]; rfl
theorem More.bfs (h : More g g' e) (hI : Idle g e) : ∀ (n k : Nat) (T : List Tr), Frs.bfs g' n k T = Frs.bfs g n k T
  | 0, _, _ => rfl
  | n + 1, k, T => by
    unfold Frs.bfs
    cases ht : T[k]? with
    | none => rfl
    | some t =>
      simp only
      rw [h.step hI (List.mem_of_getElem? ht), h.bfs hI n]
theorem More.outer (h : More g g' e) (hI : Idle g e) : ∀ (vs : List Vertex) (T : List Tr), Frs.outer g' vs T = Frs.outer g vs T
  | [], _ => rfl
  | v :: vs, T => by
    unfold Frs.outer
    rw [h.outer hI vs, h.bfs hI, h.outer hI vs]
theorem More.allT (h : More g g' e) (hI : Idle g e) : Frs.allT g' = Frs.allT g := by
  unfold Frs.allT
  rw [h.vs]; exact h.outer hI _ _
theorem More.edgeOf (h : More g g' e) (hI : Idle g e) {T : List Tr} (hn : (ids T).Nodup) {t : Tr} (ht : t ∈ T) : Frs.edgeOf g' T t = Frs.edgeOf g T t := by
  unfold Frs.edgeOf
  rw [h.at, List.find?_append]
  cases hf : (atP g t.1).find? fun e => dep? T (otherP e t.1) == some (t.2.2 - 1) with
  | some a => rfl
  | none =>
    rw [Option.none_or]
    by_cases hx : atB t.1 e = true
    · rw [if_pos hx, List.find?_cons]
      have : (dep? T (otherP e t.1) == some (t.2.2 - 1)) = false := by
        rcases hI t.1 hx with h1 | ⟨y, y1, y2, y3⟩
        · rw [h1, dep_of hn ht]
          exact beq_eq_false_iff_ne.2 (by simp; omega)
        · rw [← y3]
          have := List.find?_eq_none.1 hf y (List.mem_filter.2 ⟨y1, y2⟩)
          simpa using this
      rw [this]; rfl
    · rw [if_neg hx]; rfl
theorem More.labs (h : More g g' e) (hI : Idle g e) (hg : VG g) : Frs.labs g' = Frs.labs g := by
  rw [labs_map, labs_map, h.vs]
  refine List.map_congr_left fun x hx => ?_
  obtain ⟨v, hv, rfl⟩ := List.mem_map.1 hx
  have hm := (look_mem hg (hasV_iff.2 ⟨v, hv, rfl⟩)).1
  have hl : look g' v.ID = look g v.ID := by unfold look; rw [h.allT hI]
  unfold Frs.lb rt dp ed
  rw [hl, h.allT hI, h.edgeOf hI (allT_J hg).1.nd hm]

theorem idle_loop {id p w c : Int} {d : Bool} : Idle g ⟨id, p, p, d, w, c⟩ := by
  intro x hx
  left
  unfold atB at hx
  unfold otherP
  simp only [Bool.or_eq_true, beq_iff_eq, or_self] at hx
  rw [if_pos hx.symm]; exact hx
theorem idle_par {y : Edge} (hy : y ∈ g.Edges) {id w c : Int} {d : Bool} : Idle g ⟨id, y.To, y.From, d, w, c⟩ := by
  intro x hx
  right
  unfold atB at hx
  simp only [Bool.or_eq_true, beq_iff_eq] at hx
  refine ⟨y, hy, by unfold atB; simp only [Bool.or_eq_true, beq_iff_eq]; exact hx.symm, ?_⟩
  unfold otherP
  simp only
  by_cases h1 : x = y.From
  · rw [if_pos h1]
    by_cases h2 : x = y.To
    · rw [if_pos h2, ← h2, h1]
    · rw [if_neg h2, if_pos h1]
  · have h2 : x = y.To := by rcases hx with h | h; exact h.symm; exact absurd h.symm h1
    rw [if_neg h1, if_pos h2, if_pos h2]

/-! Components. -/
theorem rt_conn (hg : VG g) {f : Int → Int} (hf : ∀ a ∈ g.Edges, ∀ x, atB x a = true → f (otherP a x) = f x) : ∀ (n : Nat) (x : Int), hasV g x = true → dp g x ≤ (n : Int) → f (rt g x) = f x := by
  intro n
  induction n with
  | zero =>
    intro x hx hd
    have := (dp_range hg hx).1
    rw [(dp_zero hg hx).1 (by omega)]
  | succ n ih =>
    intro x hx hd
    by_cases h0 : dp g x = 0
    · rw [(dp_zero hg hx).1 h0]
    · obtain ⟨a, ha, h1⟩ := par_edge hg hx h0
      obtain ⟨a1, a2⟩ := List.mem_filter.1 ha
      rw [← (edge_rt hg hx a1 a2).1, ih _ (hg.other a1 a2) (by omega), hf a a1 x a2]
theorem rt_const (hg : VG g) {f : Int → Int} (hf : ∀ a ∈ g.Edges, ∀ x, atB x a = true → f (otherP a x) = f x) {x : Int} (hx : hasV g x = true) : f (rt g x) = f x :=
  rt_conn hg hf (dp g x).toNat x hx (by have := (dp_range hg hx).1; omega)
theorem rt_le (hg : VG g) {x : Int} (hx : hasV g x = true) : rt g x ≤ x := by
  obtain ⟨h1, h2⟩ := look_mem hg hx
  have := (allT_J hg).1.root _ h1
  rw [h2] at this; exact this
theorem rt_uniq (hg : VG g) {f : Int → Int} (hf : ∀ a ∈ g.Edges, ∀ x, atB x a = true → f (otherP a x) = f x) (hle : ∀ x, hasV g x = true → f x ≤ x)
    (hc : ∀ x, hasV g x = true → hasV g (f x) = true ∧ rt g (f x) = rt g x) {x : Int} (hx : hasV g x = true) : rt g x = f x := by
  have h1 := rt_const hg hf hx
  have h2 := hle _ (rt_root hg hx).1
  obtain ⟨h3, h4⟩ := hc x hx
  have h5 := rt_le hg h3
  omega

def roots (g : Graph) : Nat := (g.Vertices.map (·.ID)).countP fun x => dp g x == 0

theorem countP_less {p q : Int → Bool} {M : Int} : ∀ {l : List Int}, l.Nodup → M ∈ l → p M = true → q M = false → (∀ x ∈ l, x ≠ M → q x = p x) → l.countP p = l.countP q + 1
  | [], _, h, _, _, _ => by cases h
  | a :: l, hn, hm, h1, h2, h => by
    rw [List.nodup_cons] at hn
    by_cases ha : a = M
    · subst ha
      have : l.countP p = l.countP q := List.countP_congr fun x hx => by rw [h x (.tail _ hx) (fun e => hn.1 (e ▸ hx))]
      rw [List.countP_cons, List.countP_cons, this, h1, h2]; simp
    · have hm : M ∈ l := by rcases List.mem_cons.1 hm with h | h; exact absurd h.symm ha; exact h
      rw [List.countP_cons, List.countP_cons, countP_less hn.2 hm h1 h2 fun x hx => h x (.tail _ hx), h a (.head _) ha]; omega

theorem More.hasV (h : More g g' e) (x : Int) : Frs.hasV g' x = Frs.hasV g x := by unfold Frs.hasV; rw [h.vs]

/-- An edge more: its ends' components become one. -/
theorem joined (hg : VG g) (hg' : VG g') (h : More g g' e) : (rt g e.From = rt g e.To → roots g' = roots g) ∧ (rt g e.From ≠ rt g e.To → roots g' + 1 = roots g) := by
  have he' : e ∈ g'.Edges := by rw [h.es]; simp
  have sub : ∀ a ∈ g.Edges, a ∈ g'.Edges := fun a ha => by rw [h.es]; exact List.mem_append_left _ ha
  have hp : hasV g e.From = true := by rw [← h.hasV]; exact (hg'.ends e he').1
  have hq : hasV g e.To = true := by rw [← h.hasV]; exact (hg'.ends e he').2
  -- the new roots are constant on the old components
  have k1 : ∀ x, hasV g x = true → rt g' (rt g x) = rt g' x := fun x hx => by
    have : ∀ a ∈ g.Edges, ∀ y, atB y a = true → rt g' (otherP a y) = rt g' y := fun a ha y hy => by
      have hv : hasV g' y = true := by
        obtain ⟨b1, b2⟩ := other_back hy
        have := hg'.other (sub a ha) b1
        rw [b2] at this; exact this
      exact (edge_rt hg' hv (sub a ha) hy).1
    exact rt_const hg this hx
  have k2 : rt g' e.From = rt g' e.To := by
    have hat : atB e.From e = true := by unfold atB; simp
    have ho : otherP e e.From = e.To := by unfold otherP; rw [if_pos rfl]
    have := (edge_rt hg' (by rw [h.hasV]; exact hp) he' hat).1
    rw [ho] at this; exact this.symm
  have hends : ∀ x, atB x e = true → (x = e.From ∨ x = e.To) ∧ (otherP e x = e.From ∨ otherP e x = e.To) := by
    intro x hx
    unfold atB at hx
    simp only [Bool.or_eq_true, beq_iff_eq] at hx
    refine ⟨by rcases hx with h | h; exact .inl h.symm; exact .inr h.symm, ?_⟩
    unfold otherP
    split
    · exact .inr rfl
    · split
      · exact .inl rfl
      · rename_i h1 h2
        rcases hx with h | h
        · exact absurd h.symm h1
        · exact absurd h.symm h2
  have mk : ∀ f : Int → Int, (∀ x, f x = f x) → (∀ x y, rt g x = rt g y → f x = f y) → f e.From = f e.To → (∀ x, hasV g x = true → f x ≤ x) → (∀ x, hasV g x = true → hasV g (f x) = true ∧ rt g' (f x) = rt g' x) → ∀ x, hasV g x = true → rt g' x = f x := by
    intro f _ f1 f2 f3 f4 x hx
    refine rt_uniq hg' (f := f) ?_ (fun x hx => f3 x (by rw [← h.hasV]; exact hx)) (fun x hx => by rw [h.hasV]; exact f4 x (by rw [← h.hasV]; exact hx)) (by rw [h.hasV]; exact hx)
    intro a ha y hy
    rw [h.es, List.mem_append, List.mem_singleton] at ha
    rcases ha with ha | rfl
    · have hv : hasV g y = true := by
        obtain ⟨b1, b2⟩ := other_back hy
        have := hg.other ha b1
        rw [b2] at this; exact this
      exact f1 _ _ (edge_rt hg hv ha hy).1
    · obtain ⟨h1, h2⟩ := hends y hy
      rcases h1 with rfl | rfl <;> rcases h2 with h2 | h2 <;> rw [h2]
      · exact f2.symm
      · exact f2
  have hro : ∀ x, hasV g x = true → ((dp g' x == 0) = (rt g' x == x)) := fun x hx => by
    have := dp_zero hg' (by rw [h.hasV]; exact hx)
    rw [Bool.eq_iff_iff, beq_iff_eq, beq_iff_eq]; exact this
  have hr1 : ∀ x, hasV g x = true → ((dp g x == 0) = (rt g x == x)) := fun x hx => by
    rw [Bool.eq_iff_iff, beq_iff_eq, beq_iff_eq]; exact dp_zero hg hx
  have hin : ∀ x ∈ g.Vertices.map (·.ID), hasV g x = true := fun x hx => by
    obtain ⟨v, hv, rfl⟩ := List.mem_map.1 hx
    exact hasV_iff.2 ⟨v, hv, rfl⟩
  constructor
  · intro hab
    have key := mk (rt g) (fun _ => rfl) (fun _ _ h => h) hab (fun x hx => rt_le hg hx) (fun x hx => ⟨(rt_root hg hx).1, k1 x hx⟩)
    unfold roots
    rw [h.vs]
    refine List.countP_congr fun x hx => ?_
    rw [hro x (hin x hx), hr1 x (hin x hx), key x (hin x hx)]
  · intro hab
    -- the greater root is one no more
    obtain ⟨m, M, hmM, hset⟩ : ∃ m M, m < M ∧ ((rt g e.From = m ∧ rt g e.To = M) ∨ (rt g e.From = M ∧ rt g e.To = m)) := by
      rcases Int.lt_or_gt_of_ne hab with h | h
      · exact ⟨_, _, h, .inl ⟨rfl, rfl⟩⟩
      · exact ⟨_, _, h, .inr ⟨rfl, rfl⟩⟩
    have hM : hasV g M = true ∧ rt g M = M ∧ dp g M = 0 := by
      rcases hset with ⟨_, h2⟩ | ⟨h1, _⟩
      · rw [← h2]; exact rt_root hg hq
      · rw [← h1]; exact rt_root hg hp
    have hm : hasV g m = true ∧ rt g m = m ∧ dp g m = 0 := by
      rcases hset with ⟨h1, _⟩ | ⟨_, h2⟩
      · rw [← h1]; exact rt_root hg hp
      · rw [← h2]; exact rt_root hg hq
    have hmm : rt g' m = rt g' M := by
      rcases hset with ⟨h1, h2⟩ | ⟨h1, h2⟩
      · rw [← h1, ← h2, k1 _ hp, k1 _ hq]; exact k2
      · rw [← h1, ← h2, k1 _ hp, k1 _ hq]; exact k2.symm
    have key := mk (fun x => if rt g x = M then m else rt g x) (fun _ => rfl) (fun x y h => by simp only [h]) (by
        rcases hset with ⟨h1, h2⟩ | ⟨h1, h2⟩
        · simp only [h1, h2, if_true]; split <;> rfl
        · simp only [h1, h2, if_true]; split <;> rfl)
      (fun x hx => by
        have := rt_le hg hx
        show (if rt g x = M then m else rt g x) ≤ x
        split
        · omega
        · exact this)
      (fun x hx => by
        show hasV g (if rt g x = M then m else rt g x) = true ∧ rt g' (if rt g x = M then m else rt g x) = rt g' x
        split
        · rename_i hx1
          exact ⟨hm.1, by rw [hmm, ← hx1, k1 x hx]⟩
        · exact ⟨(rt_root hg hx).1, k1 x hx⟩)
    have hnd : (g.Vertices.map (·.ID)).Nodup := by
      have := hg.asc
      exact this.imp fun h => by omega
    unfold roots
    rw [h.vs]
    refine (countP_less (M := M) hnd ?_ ?_ ?_ ?_).symm
    · obtain ⟨v, hv, e⟩ := hasV_iff.1 hM.1
      exact List.mem_map.2 ⟨v, hv, e⟩
    · rw [hM.2.2]; rfl
    · rw [hro M hM.1, key M hM.1, if_pos hM.2.1]
      exact beq_eq_false_iff_ne.2 (by omega)
    · intro x hx hne
      have hx := hin x hx
      rw [hro x hx, hr1 x hx, key x hx]
      by_cases h1 : rt g x = M
      · rw [if_pos h1]
        have e1 : (m == x) = false := beq_eq_false_iff_ne.2 fun e => by
          subst e; rw [hm.2.1] at h1; omega
        have e2 : (rt g x == x) = false := beq_eq_false_iff_ne.2 fun e => hne (by rw [← e]; exact h1)
        rw [e1, e2]
      · rw [if_neg h1]
end Frs
end Go.Fx.Gen
