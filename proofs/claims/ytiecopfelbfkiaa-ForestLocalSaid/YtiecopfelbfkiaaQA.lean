/- The forest's search in breadth, in plain lists. No program in sight. -/
import Derived.Test.YtiecopfelbfkiaaTC
namespace Go.Fx.Gen
open Go.Fx
set_option linter.unusedVariables false
namespace Frs

def hasV (g : Graph) (id : Int) : Bool := g.Vertices.any fun v => v.ID == id
theorem foldl_filter {α : Type} (p : α → Bool) : ∀ (l acc : List α), l.foldl (fun a x => if p x then a ++ [x] else a) acc = acc ++ l.filter p
  | [], acc => by simp
  | x :: l, acc => by
    simp only [List.foldl, foldl_filter p l, List.filter]
    cases p x <;> simp
theorem foldl_app {α β : Type} (f : α → β) : ∀ (l : List α) (acc : List β), l.foldl (fun a x => a ++ [f x]) acc = acc ++ l.map f
  | [], acc => by simp
  | x :: l, acc => by simp [List.foldl, foldl_app f l]

def otherP (e : Edge) (id : Int) : Int := if id = e.From then e.To else if id = e.To then e.From else -1
def atB (id : Int) (e : Edge) : Bool := e.From == id || e.To == id
def atP (g : Graph) (id : Int) : List Edge := g.Edges.filter (atB id)

/-- A vertex that was found, its root, its depth. -/
abbrev Tr := Int × Int × Int
def ids (T : List Tr) : List Int := T.map (·.1)
def visit (r x d : Int) (T : List Tr) (e : Edge) : List Tr := if T.any (fun t => t.1 == otherP e x) then T else T ++ [(otherP e x, r, d + 1)]
def bfs (g : Graph) : Nat → Nat → List Tr → List Tr
  | 0, _, T => T
  | n + 1, k, T => match T[k]? with
    | none => T
    | some t => bfs g n (k + 1) ((atP g t.1).foldl (visit t.2.1 t.1 t.2.2) T)
def outer (g : Graph) : List Vertex → List Tr → List Tr
  | [], T => T
  | v :: vs, T => if T.any (fun t => t.1 == v.ID) then outer g vs T else outer g vs (bfs g 1000 T.length (T ++ [(v.ID, v.ID, 0)]))

theorem any_ids {T : List Tr} {x : Int} : T.any (fun t => t.1 == x) = true ↔ x ∈ ids T := by
  simp [ids]
theorem any_ids' {T : List Tr} {x : Int} : T.any (fun t => t.1 == x) = false ↔ x ∉ ids T := by
  rw [← any_ids, Bool.not_eq_true]

theorem other_back {e : Edge} {x : Int} (h : atB x e = true) : atB (otherP e x) e = true ∧ otherP e (otherP e x) = x := by
  unfold atB at *
  unfold otherP
  simp only [Bool.or_eq_true, beq_iff_eq] at *
  by_cases h1 : x = e.From
  · rw [if_pos h1]
    refine ⟨.inr rfl, ?_⟩
    by_cases h2 : e.To = e.From
    · rw [if_pos h2, h2, h1]
    · rw [if_neg h2, if_pos rfl, h1]
  · have h2 : x = e.To := by rcases h with h | h; exact absurd h.symm h1; exact h.symm
    rw [if_neg h1, if_pos h2]
    exact ⟨.inl rfl, by rw [if_pos rfl, h2]⟩

structure VG (g : Graph) : Prop where
  ends : ∀ e ∈ g.Edges, hasV g e.From = true ∧ hasV g e.To = true
  asc : (g.Vertices.map (·.ID)).Pairwise (· < ·)
  easc : (g.Edges.map (·.ID)).Pairwise (· < ·)
  vid : ∀ v ∈ g.Vertices, 0 ≤ v.ID ∧ v.ID ≤ 23
  eid : ∀ e ∈ g.Edges, 0 ≤ e.ID ∧ e.ID ≤ 39

theorem asc_len : ∀ (l : List Int) (a b : Int), l.Pairwise (· < ·) → (∀ x ∈ l, a ≤ x ∧ x ≤ b) → (l.length : Int) ≤ max 0 (b - a + 1)
  | [], a, b, _, _ => by simp; omega
  | x :: l, a, b, h, hb => by
    have h1 := hb x (.head _)
    have := asc_len l (x + 1) b (List.pairwise_cons.1 h).2 (fun y hy => ⟨by have := (List.pairwise_cons.1 h).1 y hy; omega, (hb y (.tail _ hy)).2⟩)
    simp only [List.length_cons]
    omega

theorem VG.vlen {g : Graph} (h : VG g) : g.Vertices.length ≤ 24 := by
  have := asc_len _ 0 23 h.asc (by intro x hx; obtain ⟨v, hv, rfl⟩ := List.mem_map.1 hx; exact h.vid v hv)
  simp at this; omega
theorem VG.elen {g : Graph} (h : VG g) : g.Edges.length ≤ 40 := by
  have := asc_len _ 0 39 h.easc (by intro x hx; obtain ⟨v, hv, rfl⟩ := List.mem_map.1 hx; exact h.eid v hv)
  simp at this; omega

theorem hasV_iff {g : Graph} {x : Int} : hasV g x = true ↔ ∃ v ∈ g.Vertices, v.ID = x := by simp [hasV]

theorem VG.other {g : Graph} (h : VG g) {e : Edge} (he : e ∈ g.Edges) {x : Int} (hx : atB x e = true) : hasV g (otherP e x) = true := by
  unfold atB at hx
  unfold otherP
  simp only [Bool.or_eq_true, beq_iff_eq] at hx
  by_cases h1 : x = e.From
  · rw [if_pos h1]; exact (h.ends e he).2
  · have h2 : x = e.To := by rcases hx with h | h; exact absurd h.symm h1; exact h.symm
    rw [if_neg h1, if_pos h2]; exact (h.ends e he).1

theorem nodup_len : ∀ {l m : List Int}, l.Nodup → (∀ x ∈ l, x ∈ m) → l.length ≤ m.length
  | [], _, _, _ => by simp
  | x :: l, m, h, hs => by
    have hx := hs x (.head _)
    have h2 := List.nodup_cons.1 h
    have := nodup_len (l := l) (m := m.erase x) h2.2 (fun y hy => by
      have : y ≠ x := by rintro rfl; exact h2.1 hy
      exact (List.mem_erase_of_ne this).2 (hs y (.tail _ hy)))
    rw [List.length_erase_of_mem hx] at this
    have : 0 < m.length := List.length_pos_of_mem hx
    simp; omega

structure J (g : Graph) (T : List Tr) (k : Nat) : Prop where
  kle : k ≤ T.length
  nd : (ids T).Nodup
  hv : ∀ t ∈ T, hasV g t.1 = true
  dn : ∀ t ∈ T, 0 ≤ t.2.2 ∧ t.2.2 < T.length
  edge : ∀ (i : Nat) (t : Tr) (e : Edge), i < k → T[i]? = some t → e ∈ g.Edges → atB t.1 e = true → ∃ u ∈ T, u.1 = otherP e t.1 ∧ u.2.1 = t.2.1 ∧ u.2.2 ≤ t.2.2 + 1 ∧ t.2.2 ≤ u.2.2 + 1
  par : ∀ (i : Nat) (t : Tr), T[i]? = some t → (t.2.2 = 0 ∧ t.2.1 = t.1) ∨ ∃ (j : Nat) (u : Tr) (e : Edge), j < i ∧ T[j]? = some u ∧ e ∈ g.Edges ∧ atB t.1 e = true ∧ otherP e t.1 = u.1 ∧ u.2.1 = t.2.1 ∧ u.2.2 + 1 = t.2.2
  mono : ∀ (i j : Nat) (t u : Tr), i < j → T[i]? = some t → T[j]? = some u → t.2.1 = u.2.1 → t.2.2 ≤ u.2.2
  near : ∀ (i j : Nat) (t u : Tr), k ≤ i → i ≤ j → T[i]? = some t → T[j]? = some u → t.2.1 = u.2.1 ∧ u.2.2 ≤ t.2.2 + 1
  low : ∀ (i : Nat) (t : Tr), k ≤ i → T[i]? = some t → ∀ v ∈ g.Vertices, v.ID < t.2.1 → v.ID ∈ ids T
  root : ∀ t ∈ T, t.2.1 ≤ t.1

theorem J.len {g : Graph} {T : List Tr} {k : Nat} (h : J g T k) (hg : VG g) : T.length ≤ 24 := by
  have := nodup_len (m := g.Vertices.map (·.ID)) h.nd (by
    intro x hx
    obtain ⟨t, ht, rfl⟩ := List.mem_map.1 hx
    obtain ⟨v, hv, e⟩ := hasV_iff.1 (h.hv t ht)
    exact List.mem_map.2 ⟨v, hv, e⟩)
  simp [ids] at this
  have := hg.vlen
  omega

theorem J.uniq {g : Graph} {T : List Tr} {k : Nat} (h : J g T k) {t u : Tr} (ht : t ∈ T) (hu : u ∈ T) (e : t.1 = u.1) : t = u := by
  obtain ⟨i, hi, rfl⟩ := List.mem_iff_getElem.1 ht
  obtain ⟨j, hj, rfl⟩ := List.mem_iff_getElem.1 hu
  have : i = j := by
    have := (List.nodup_iff_pairwise_ne.1 h.nd)
    rcases Nat.lt_trichotomy i j with h1 | h1 | h1
    · have := (List.pairwise_iff_getElem.1 this) i j (by simpa [ids] using hi) (by simpa [ids] using hj) h1
      simp [ids] at this; exact absurd e this
    · exact h1
    · have := (List.pairwise_iff_getElem.1 this) j i (by simpa [ids] using hj) (by simpa [ids] using hi) h1
      simp [ids] at this; exact absurd e.symm this
  subst this; rfl

/-- The round of one vertex: its edges, gone through. -/
structure Kk (g : Graph) (T : List Tr) (r x d : Int) (T' : List Tr) (done : List Edge) : Prop where
  ex : ∃ N, T' = T ++ N ∧ ∀ n ∈ N, n.2.1 = r ∧ n.2.2 = d + 1 ∧ n.1 ∉ ids T ∧ ∃ e ∈ g.Edges, atB x e = true ∧ n.1 = otherP e x
  nd : (ids T').Nodup
  all : ∀ e ∈ done, otherP e x ∈ ids T'

theorem visit_all {g : Graph} {T : List Tr} {r x d : Int} (hn : (ids T).Nodup) : ∀ (l done : List Edge) (T' : List Tr), (∀ e ∈ l, e ∈ g.Edges ∧ atB x e = true) → Kk g T r x d T' done →
    Kk g T r x d (l.foldl (visit r x d) T') (done ++ l)
  | [], done, T', _, h => by simpa using h
  | e :: l, done, T', hl, h => by
    have step : Kk g T r x d (visit r x d T' e) (done ++ [e]) := by
      unfold visit
      split
      · rename_i ha
        refine ⟨h.ex, h.nd, fun f hf => ?_⟩
        rw [List.mem_append, List.mem_singleton] at hf
        rcases hf with hf | rfl
        · exact h.all f hf
        · exact any_ids.1 ha
      · rename_i ha
        have ha : otherP e x ∉ ids T' := any_ids'.1 (by simpa only [Bool.not_eq_true] using ha)
        obtain ⟨N, rfl, hN⟩ := h.ex
        refine ⟨⟨N ++ [(otherP e x, r, d + 1)], by simp, ?_⟩, ?_, ?_⟩
        · intro n hn
          rw [List.mem_append, List.mem_singleton] at hn
          rcases hn with hn | rfl
          · exact hN n hn
          · refine ⟨rfl, rfl, ?_, e, (hl e (.head _)).1, (hl e (.head _)).2, rfl⟩
            intro hh; exact ha (by unfold ids at *; rw [List.map_append, List.mem_append]; exact .inl hh)
        · have : ids (T ++ N ++ [(otherP e x, r, d + 1)]) = ids (T ++ N) ++ [otherP e x] := by simp [ids]
          rw [this, List.nodup_append]
          refine ⟨h.nd, by simp, ?_⟩
          intro a ha' b hb
          rw [List.mem_singleton] at hb
          subst hb; rintro rfl; exact ha ha'
        · intro f hf
          rw [List.mem_append, List.mem_singleton] at hf
          have : ids (T ++ N ++ [(otherP e x, r, d + 1)]) = ids (T ++ N) ++ [otherP e x] := by simp [ids]
          rw [this, List.mem_append, List.mem_singleton]
          rcases hf with hf | rfl
          · exact .inl (h.all f hf)
          · exact .inr rfl
    have := visit_all (g := g) hn l (done ++ [e]) _ (fun f hf => hl f (.tail _ hf)) step
    simpa using this

theorem J.step {g : Graph} (hg : VG g) {T : List Tr} {k : Nat} (h : J g T k) {t : Tr} (ht : T[k]? = some t) : J g ((atP g t.1).foldl (visit t.2.1 t.1 t.2.2) T) (k + 1) := by
  obtain ⟨x, r, d⟩ := t
  have K : Kk g T r x d ((atP g x).foldl (visit r x d) T) ([] ++ atP g x) :=
    visit_all h.nd (atP g x) [] T (fun e he => ⟨(List.mem_filter.1 he).1, (List.mem_filter.1 he).2⟩) ⟨⟨[], by simp, by simp⟩, h.nd, by simp⟩
  have hk : k < T.length := (List.getElem?_eq_some_iff.1 ht).1
  have htm := List.mem_of_getElem? ht
  simp only [List.nil_append] at K
  generalize (atP g x).foldl (visit r x d) T = T' at K
  obtain ⟨⟨N, rfl, hN⟩, knd, kall⟩ := K
  have old : ∀ {i : Nat}, i < T.length → (T ++ N)[i]? = T[i]? := fun hi => List.getElem?_append_left hi
  have new : ∀ {i : Nat} {u : Tr}, T.length ≤ i → (T ++ N)[i]? = some u → u ∈ N := by
    intro i u hi hu
    rw [List.getElem?_append_right hi] at hu
    exact List.mem_of_getElem? hu
  have idsT : ∀ {y : Int}, y ∈ ids T → y ∈ ids (T ++ N) := by intro y hy; simp only [ids, List.map_append, List.mem_append]; exact .inl hy
  have case : ∀ {i : Nat} {u : Tr}, (T ++ N)[i]? = some u → (i < T.length ∧ T[i]? = some u) ∨ (T.length ≤ i ∧ u ∈ N) := by
    intro i u hu
    rcases Nat.lt_or_ge i T.length with hi | hi
    · rw [old hi] at hu; exact .inl ⟨hi, hu⟩
    · exact .inr ⟨hi, new hi hu⟩
  have kk : ∀ {i : Nat} {u : Tr}, k ≤ i → T[i]? = some u → r = u.2.1 ∧ d ≤ u.2.2 ∧ u.2.2 ≤ d + 1 := by
    intro i u hi hu
    have hnr := h.near k i _ u (Nat.le_refl _) hi ht hu
    refine ⟨hnr.1, ?_, hnr.2⟩
    by_cases e : i = k
    · subst e; rw [ht] at hu; cases hu; exact Int.le_refl _
    · exact h.mono k i _ u (by omega) ht hu hnr.1
  refine ⟨by simp; omega, knd, ?_, ?_, ?_, ?_, ?_, ?_, ?_, ?_⟩
  · intro t ht'
    rw [List.mem_append] at ht'
    rcases ht' with ht' | ht'
    · exact h.hv t ht'
    · obtain ⟨_, _, _, e, he, hx, hn⟩ := hN t ht'
      rw [hn]; exact hg.other he hx
  · intro t ht'
    rw [List.mem_append] at ht'
    rcases ht' with ht' | ht'
    · have := h.dn t ht'; simp only [List.length_append]; omega
    · obtain ⟨_, hd, _⟩ := hN t ht'
      have := h.dn _ htm
      have : 0 < N.length := List.length_pos_of_mem ht'
      simp only [List.length_append]; simp only at *; omega
  · intro i t e hi hti he hat
    rw [old (by omega)] at hti
    by_cases hik : i = k
    · subst hik
      rw [ht] at hti; cases hti
      have hmem := kall e (List.mem_filter.2 ⟨he, hat⟩)
      simp only [ids, List.map_append, List.mem_append, List.mem_map] at hmem
      simp only at hat ⊢
      rcases hmem with ⟨u, hu, hue⟩ | ⟨u, hu, hue⟩
      · obtain ⟨j, hj⟩ := List.getElem?_of_mem hu
        refine ⟨u, List.mem_append.2 (.inl hu), hue, ?_⟩
        rcases Nat.lt_or_ge j i with hji | hji
        · obtain ⟨b1, b2⟩ := other_back hat
          rw [← hue] at b1 b2
          obtain ⟨w, hw, w1, w2, w3, w4⟩ := h.edge j u e hji hj he b1
          rw [b2] at w1
          have := h.uniq hw htm (by rw [w1])
          subst this
          simp only at w2 w3 w4
          exact ⟨w2.symm, by omega, by omega⟩
        · obtain ⟨a1, a2, a3⟩ := kk hji hj
          exact ⟨a1.symm, by omega, by omega⟩
      · obtain ⟨n1, n2, _⟩ := hN u hu
        exact ⟨u, List.mem_append.2 (.inr hu), hue, n1, by omega, by omega⟩
    · obtain ⟨u, hu, h1⟩ := h.edge i t e (by omega) hti he hat
      exact ⟨u, List.mem_append.2 (.inl hu), h1⟩
  · intro i t hti
    rcases case hti with ⟨hi, hti⟩ | ⟨hi, hti⟩
    · rcases h.par i t hti with h1 | ⟨j, u, e, hj, hu, h2⟩
      · exact .inl h1
      · exact .inr ⟨j, u, e, hj, by rw [old (by omega)]; exact hu, h2⟩
    · obtain ⟨n1, n2, n3, e, he, hx, hn⟩ := hN t hti
      obtain ⟨b1, b2⟩ := other_back hx
      exact .inr ⟨k, (x, r, d), e, by omega, by rw [old hk]; exact ht, he, by rw [hn]; exact b1, by rw [hn]; exact b2, n1.symm, by simp only; omega⟩
  · intro i j t u hij hti huj hr
    rcases case hti with ⟨hi, hti⟩ | ⟨hi, hti⟩
    · rcases case huj with ⟨hj, huj⟩ | ⟨hj, huj⟩
      · exact h.mono i j t u hij hti huj hr
      · obtain ⟨n1, n2, _⟩ := hN u huj
        rcases Nat.lt_or_ge i k with hik | hik
        · have := h.mono i k t _ hik hti ht (by rw [hr, n1])
          simp only at this; omega
        · have := kk hik hti; omega
    · rcases case huj with ⟨hj, huj⟩ | ⟨hj, huj⟩
      · omega
      · have := (hN u huj).2.1; have := (hN t hti).2.1; omega
  · intro i j t u hi hij hti huj
    rcases case hti with ⟨hi', hti⟩ | ⟨hi', hti⟩
    · obtain ⟨a1, a2, a3⟩ := kk (by omega) hti
      rcases case huj with ⟨hj, huj⟩ | ⟨hj, huj⟩
      · exact h.near i j t u (by omega) hij hti huj
      · obtain ⟨n1, n2, _⟩ := hN u huj
        exact ⟨by rw [n1, a1], by omega⟩
    · rcases case huj with ⟨hj, huj⟩ | ⟨hj, huj⟩
      · omega
      · obtain ⟨n1, n2, _⟩ := hN u huj
        obtain ⟨m1, m2, _⟩ := hN t hti
        exact ⟨by rw [n1, m1], by omega⟩
  · intro i t hi hti v hv hlt
    rcases case hti with ⟨hi', hti⟩ | ⟨hi', hti⟩
    · exact idsT (h.low i t (by omega) hti v hv hlt)
    · refine idsT (h.low k _ (Nat.le_refl _) ht v hv ?_)
      rw [(hN t hti).1] at hlt; exact hlt
  · intro t ht'
    rw [List.mem_append] at ht'
    rcases ht' with ht' | ht'
    · exact h.root t ht'
    · obtain ⟨n1, n2, n3, e, he, hx, hn⟩ := hN t ht'
      rw [n1]
      rcases Int.lt_or_le t.1 r with hlt | hle
      · exfalso
        obtain ⟨v, hv, hve⟩ := hasV_iff.1 (hg.other he hx)
        rw [← hn] at hve
        have := h.low k _ (Nat.le_refl _) ht v hv (by rw [hve]; exact hlt)
        rw [hve] at this; exact n3 this
      · exact hle

theorem bfs_J {g : Graph} (hg : VG g) : ∀ (n k : Nat) (T : List Tr), J g T k → 24 ≤ n + k → J g (bfs g n k T) (bfs g n k T).length ∧ (∀ y ∈ ids T, y ∈ ids (bfs g n k T))
  | 0, k, T, h, hn => by
    have := h.len hg
    have := h.kle
    have e : k = T.length := by omega
    subst e
    exact ⟨h, fun y hy => hy⟩
  | n + 1, k, T, h, hn => by
    unfold bfs
    cases ht : T[k]? with
    | none =>
      have := h.kle
      have hk : T.length ≤ k := by simpa using ht
      have e : k = T.length := by omega
      subst e
      exact ⟨h, fun y hy => hy⟩
    | some t =>
      have h1 := h.step hg ht
      obtain ⟨a, b⟩ := bfs_J hg n (k + 1) _ h1 (by omega)
      refine ⟨a, fun y hy => b y ?_⟩
      have K := visit_all (g := g) (r := t.2.1) (x := t.1) (d := t.2.2) h.nd (atP g t.1) [] T (fun e he => ⟨(List.mem_filter.1 he).1, (List.mem_filter.1 he).2⟩) ⟨⟨[], by simp, by simp⟩, h.nd, by simp⟩
      obtain ⟨N, hN, _⟩ := K.ex
      rw [hN]
      simp only [ids, List.map_append, List.mem_append]
      exact .inl hy

theorem J.rootIn {g : Graph} {T : List Tr} {k : Nat} (h : J g T k) : ∀ (i : Nat) (t : Tr), T[i]? = some t → ∃ u ∈ T, u.1 = t.2.1 ∧ u.2.2 = 0 ∧ u.2.1 = t.2.1 := by
  intro i
  induction i using Nat.strongRecOn with
  | ind i ih =>
    intro t ht
    rcases h.par i t ht with ⟨h1, h2⟩ | ⟨j, u, e, hj, hu, _, _, _, h3, _⟩
    · exact ⟨t, List.mem_of_getElem? ht, h2.symm, h1, rfl⟩
    · obtain ⟨w, hw, w1, w2, w3⟩ := ih j hj u hu
      exact ⟨w, hw, by rw [w1, h3], w2, by rw [w3, h3]⟩

theorem J.start {g : Graph} {T : List Tr} (h : J g T T.length) {v : Int} (hv : hasV g v = true) (hn : v ∉ ids T) (hlow : ∀ u ∈ g.Vertices, u.ID < v → u.ID ∈ ids T) : J g (T ++ [(v, v, 0)]) T.length := by
  have old : ∀ {i : Nat}, i < T.length → (T ++ [((v, v, 0) : Tr)])[i]? = T[i]? := fun hi => List.getElem?_append_left hi
  have case : ∀ {i : Nat} {u : Tr}, (T ++ [((v, v, 0) : Tr)])[i]? = some u → (i < T.length ∧ T[i]? = some u) ∨ (i = T.length ∧ u = (v, v, 0)) := by
    intro i u hu
    rcases Nat.lt_or_ge i T.length with hi | hi
    · rw [old hi] at hu; exact .inl ⟨hi, hu⟩
    · have := (List.getElem?_eq_some_iff.1 hu).1
      have e : i = T.length := by simp at this; omega
      subst e
      simp at hu
      exact .inr ⟨rfl, hu.symm⟩
  have idsT : ∀ {y : Int}, y ∈ ids T → y ∈ ids (T ++ [((v, v, 0) : Tr)]) := by intro y hy; simp only [ids, List.map_append, List.mem_append]; exact .inl hy
  refine ⟨by simp, ?_, ?_, ?_, ?_, ?_, ?_, ?_, ?_, ?_⟩
  · have : ids (T ++ [((v, v, 0) : Tr)]) = ids T ++ [v] := by simp [ids]
    rw [this, List.nodup_append]
    refine ⟨h.nd, by simp, ?_⟩
    intro a ha b hb
    rw [List.mem_singleton] at hb; subst hb; rintro rfl; exact hn ha
  · intro t ht
    rw [List.mem_append, List.mem_singleton] at ht
    rcases ht with ht | rfl
    · exact h.hv t ht
    · exact hv
  · intro t ht
    rw [List.mem_append, List.mem_singleton] at ht
    rcases ht with ht | rfl
    · have := h.dn t ht; simp only [List.length_append, List.length_singleton]; omega
    · simp
  · intro i t e hi ht he hat
    rw [old hi] at ht
    obtain ⟨u, hu, h1⟩ := h.edge i t e hi ht he hat
    exact ⟨u, List.mem_append.2 (.inl hu), h1⟩
  · intro i t ht
    rcases case ht with ⟨hi, ht⟩ | ⟨hi, rfl⟩
    · rcases h.par i t ht with h1 | ⟨j, u, e, hj, hu, h2⟩
      · exact .inl h1
      · exact .inr ⟨j, u, e, hj, by rw [old (by omega)]; exact hu, h2⟩
    · exact .inl ⟨rfl, rfl⟩
  · intro i j t u hij ht hu hr
    rcases case ht with ⟨hi, ht⟩ | ⟨hi, rfl⟩
    · rcases case hu with ⟨hj, hu⟩ | ⟨hj, rfl⟩
      · exact h.mono i j t u hij ht hu hr
      · exfalso
        obtain ⟨w, hw, w1, _⟩ := h.rootIn i t ht
        simp only at hr
        rw [hr] at w1
        exact hn (List.mem_map.2 ⟨w, hw, w1⟩)
    · rcases case hu with ⟨hj, hu⟩ | ⟨hj, rfl⟩
      · omega
      · omega
  · intro i j t u hi hij ht hu
    rcases case ht with ⟨hi', ht⟩ | ⟨hi', rfl⟩
    · omega
    · rcases case hu with ⟨hj, hu⟩ | ⟨hj, rfl⟩
      · omega
      · exact ⟨rfl, by simp⟩
  · intro i t hi ht u hu hlt
    rcases case ht with ⟨hi', ht⟩ | ⟨hi', rfl⟩
    · omega
    · exact idsT (hlow u hu hlt)
  · intro t ht
    rw [List.mem_append, List.mem_singleton] at ht
    rcases ht with ht | rfl
    · exact h.root t ht
    · exact Int.le_refl _

theorem outer_J {g : Graph} (hg : VG g) : ∀ (vs pre : List Vertex) (T : List Tr), g.Vertices = pre ++ vs → (∀ v ∈ pre, v.ID ∈ ids T) → J g T T.length →
    J g (outer g vs T) (outer g vs T).length ∧ ∀ v ∈ g.Vertices, v.ID ∈ ids (outer g vs T)
  | [], pre, T, he, hp, h => by
    rw [List.append_nil] at he
    unfold outer
    exact ⟨h, fun v hv => hp v (by rw [← he]; exact hv)⟩
  | v :: vs, pre, T, he, hp, h => by
    unfold outer
    have he' : g.Vertices = (pre ++ [v]) ++ vs := by rw [he]; simp
    split
    · rename_i ha
      refine outer_J hg vs (pre ++ [v]) T he' ?_ h
      intro u hu
      rw [List.mem_append, List.mem_singleton] at hu
      rcases hu with hu | rfl
      · exact hp u hu
      · exact any_ids.1 ha
    · rename_i ha
      have ha : v.ID ∉ ids T := any_ids'.1 (by simpa only [Bool.not_eq_true] using ha)
      have hvm : v ∈ g.Vertices := by rw [he]; simp
      have hs := h.start (v := v.ID) (hasV_iff.2 ⟨v, hvm, rfl⟩) ha (by
        intro u hu hlt
        refine hp u ?_
        have hasc := hg.asc
        rw [he] at hu hasc
        rw [List.mem_append] at hu
        rcases hu with hu | hu
        · exact hu
        · exfalso
          rw [List.map_append, List.pairwise_append] at hasc
          cases hu with
          | head => omega
          | tail _ hu =>
            have : v.ID < u.ID := (List.pairwise_cons.1 hasc.2.1).1 u.ID (List.mem_map.2 ⟨u, hu, rfl⟩)
            omega)
      obtain ⟨a, b⟩ := bfs_J hg 1000 T.length _ hs (by omega)
      refine outer_J hg vs (pre ++ [v]) _ he' ?_ a
      intro u hu
      rw [List.mem_append, List.mem_singleton] at hu
      refine b _ ?_
      rcases hu with hu | rfl
      · simp only [ids, List.map_append, List.mem_append]; exact .inl (hp u hu)
      · simp [ids]

/-- All vertices, as the search finds them. -/
def allT (g : Graph) : List Tr := outer g g.Vertices []

theorem J.empty (g : Graph) : J g [] 0 := ⟨by simp, by simp [ids], by simp, by simp, by simp, by simp, by simp, by simp, by simp, by simp⟩

theorem allT_J {g : Graph} (hg : VG g) : J g (allT g) (allT g).length ∧ ∀ v ∈ g.Vertices, v.ID ∈ ids (allT g) :=
  outer_J hg g.Vertices [] [] (by simp) (by simp) (J.empty g)

theorem vg_of {g : Graph} (h : Trd.GV g) : VG g := by
  refine ⟨fun e he => ?_, ?_, ?_, fun v hv => (h.v v hv).id, fun e he => (h.e e he).1.id⟩
  · obtain ⟨_, ⟨a, ha, e1⟩, ⟨b, hb, e2⟩⟩ := h.e e he
    exact ⟨hasV_iff.2 ⟨a, ha, e1⟩, hasV_iff.2 ⟨b, hb, e2⟩⟩
  · rw [List.pairwise_iff_getElem]
    intro i j hi hj hij
    rw [List.getElem_map, List.getElem_map]
    exact h.va i j _ _ hij
  · rw [List.pairwise_iff_getElem]
    intro i j hi hj hij
    rw [List.getElem_map, List.getElem_map]
    exact h.ea i j _ _ hij
end Frs
end Go.Fx.Gen
