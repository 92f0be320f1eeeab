/- The program's search, to its end: all vertices with their roots, depths and edges. -/
import Derived.Test.YtpkjgdngkhnhpaaPE
namespace Go.Fw.Gen
open Go.Fw
theorem bfs_end {g : Graph} {n : Nat} {T : List Tr} : bfs g n T.length T = T := by
 cases n with
 | zero => rfl
 | succ n => simp [bfs]
theorem l1_eq {g : Graph} (hg : VG g) (hs : SmallG g) {T : List Tr} {k : Nat} (h : J g T k) {v : Int} (hv : ∀ i t, k ≤ i → T[i]? = some t → t.2.1 = v) (c14 : List Vertex) (c15 c16 c21 : Int)
  (off : Nat) (q : List Int) (ho : off ≤ q.length) (hq : q.drop off = ids (T.drop k)) (n : Nat) (hn : 24 ≤ n + k) :
  loopN fuel (forest_grow.l1 c14 c15 c16 g.Vertices g.Edges g.Depots v c21) (off, q.length - off, memOf T, mapOf T, q) = some (memOf (bfs g n k T), mapOf (bfs g n k T)) := by
 have := loopN_of (f := forest_grow.l1 c14 c15 c16 g.Vertices g.Edges g.Depots v c21)
  (fun s => ∃ (T' : List Tr) (k' : Nat) (off : Nat) (q : List Int) (m : Nat), s = (off, q.length - off, memOf T', mapOf T', q) ∧ off ≤ q.length ∧ q.drop off = ids (T'.drop k') ∧ J g T' k' ∧ (∀ i t, k' ≤ i → T'[i]? = some t → t.2.1 = v) ∧ bfs g m k' T' = bfs g n k T ∧ 24 ≤ m + k')
  (fun r => r = (memOf (bfs g n k T), mapOf (bfs g n k T))) (fun s => 24 + s.2.1 - s.2.2.1.length) (by
   rintro s ⟨T', k', off, q, m, rfl, ho, hq, hJ, hr, hb, hm⟩
   have hlen : q.length - off = T'.length - k' := by
    have := congrArg List.length hq
    simpa [ids] using this
   have hTl := hJ.len hg
   have hkl := hJ.kle
   unfold forest_grow.l1
   rw [br_dec]
   by_cases h0 : ((q.length - off : Nat) : Int) > 0
   ·left
    rw [if_pos (by simpa using h0)]
    have hk : k' < T'.length := by omega
    obtain ⟨t, ht⟩ : ∃ t, T'[k']? = some t := ⟨T'[k'], by simp [hk]⟩
    obtain ⟨x, r, d⟩ := t
    have hrv : r = v := hr k' _ (Nat.le_refl _) ht
    subst hrv
    have hqx : q[off]? = some x := by
     have e1 : (q.drop off)[0]? = q[off]? := by simp
     rw [← e1, hq]
     have : T'.drop k' = (x, r, d) :: T'.drop (k' + 1) := by
      rw [List.drop_eq_getElem_cons hk]
      rw [List.getElem?_eq_getElem hk] at ht
      rw [Option.some.inj ht]
     rw [this]; simp [ids]
    simp only
    rw [gd_t ⟨by decide, by omega⟩]
    rw [show off + (0 : Int).toNat = off from rfl, hqx, bd_s, show (Graph.mk g.Vertices g.Edges g.Depots) = g from rfl, At_eq g hs, bd_s]
    obtain ⟨off', q', g1, g2, g3⟩ := l0_eq hg hs hJ ht c14 c15 c16 g.Vertices g.Edges g.Depots c21 off q ho hq
    rw [g1, bd_s]
    have hJ' := hJ.step hg ht
    have K := visit_all (g := g) (r := r) (x := x) (d := d) hJ.nd (atP g x) [] T' (fun e he => ⟨(List.mem_filter.1 he).1, (List.mem_filter.1 he).2⟩) ⟨⟨[], by simp, by simp⟩, hJ.nd, by simp⟩
    simp only at hJ'
    obtain ⟨m', rfl⟩ : ∃ m', m = m' + 1 := ⟨m - 1, by omega⟩
    have hbs : bfs g (m' + 1) k' T' = bfs g m' (k' + 1) ((atP g x).foldl (visit r x d) T') := by
     conv => lhs; unfold bfs
     rw [ht]
    rw [hbs] at hb
    generalize (atP g x).foldl (visit r x d) T' = T'' at *
    obtain ⟨N, rfl, hN⟩ := K.ex
    have hlen' : q'.length - off' = (T' ++ N).length - k' := by
     have := congrArg List.length g3
     simpa [ids] using this
    have hTl' := hJ'.len hg
    have hl2 : (T' ++ N).length = T'.length + N.length := by simp
    have h1 : (1 : Int) ≤ ((q'.length - off' : Nat) : Int) := by omega
    rw [gd_t (by decide), gd_t h1]
    refine ⟨_, rfl, ⟨T' ++ N, k' + 1, off' + 1, q', m', ?_, by omega, ?_, hJ', ?_, hb, by omega⟩, ?_⟩
    ·simp only [Prod.mk.injEq, and_true, true_and]
     exact ⟨rfl, by show q'.length - off' - 1 = q'.length - (off' + 1); omega⟩
    ·rw [← List.drop_drop, g3]
     unfold ids
     rw [← List.map_drop, List.drop_drop]
    ·intro i t hi hti
     rcases Nat.lt_or_ge i T'.length with hlt | hge
     ·rw [List.getElem?_append_left hlt] at hti
      exact hr i t (by omega) hti
     ·rw [List.getElem?_append_right hge] at hti
      exact (hN t (List.mem_of_getElem? hti)).1
    ·simp only [memOf, List.length_map]
     show 24 + (q'.length - off' - 1) - _ < _
     omega
   ·right
    rw [if_neg (by simpa using h0)]
    refine ⟨_, rfl, ?_⟩
    have hk : k' = T'.length := by omega
    subst hk
    rw [← hb, bfs_end])
  fuel (off, q.length - off, memOf T, mapOf T, q) ⟨T, k, off, q, n, rfl, ho, hq, h, hv, rfl, hn⟩ (by
   have := fuel_pos
   have hlen : q.length - off = T.length - k := by
    have := congrArg List.length hq
    simpa [ids] using this
   simp only [memOf, List.length_map]
   have := h.len hg
   omega)
 obtain ⟨r, hr, rfl⟩ := this
 exact hr
def dep? (T : List Tr) (y : Int) : Option Int := (T.find? fun t => t.1 == y).map (·.2.2)
def edgeOf (g : Graph) (T : List Tr) (t : Tr) : Int := match (atP g t.1).find? (fun e => dep? T (otherP e t.1) == some (t.2.2 - 1)) with
 | some e => e.ID
 | none => -1
def fin1 (g : Graph) (T : List Tr) (t : Tr) : List Int := [t.2.1, t.2.2, edgeOf g T t]
theorem find_ids {T : List Tr} (hn : (ids T).Nodup) {t : Tr} (ht : t ∈ T) : T.find? (fun u => u.1 == t.1) = some t := by
 induction T with
 | nil => cases ht
 | cons u T ih =>
  simp only [ids, List.map_cons, List.nodup_cons] at hn
  rw [List.find?_cons]
  cases ht with
  | head => simp
  | tail _ ht =>
   have : (u.1 == t.1) = false := by
    rw [beq_eq_false_iff_ne]
    rintro e
    exact hn.1 (by rw [e]; exact List.mem_map.2 ⟨t, ht, rfl⟩)
   rw [this]; exact ih hn.2 ht
theorem dep_of {T : List Tr} (hn : (ids T).Nodup) {t : Tr} (ht : t ∈ T) : dep? T t.1 = some t.2.2 := by
 unfold dep?; rw [find_ids hn ht]; rfl
def memS (g : Graph) (T : List Tr) (S : List Nat) : List (List Int) := T.mapIdx fun j t => if j ∈ S then fin1 g T t else [t.2.1, t.2.2, -1]
theorem memS_get {g : Graph} {T : List Tr} {S : List Nat} {j : Nat} {t : Tr} (h : T[j]? = some t) : (memS g T S)[j]? = some (if j ∈ S then fin1 g T t else [t.2.1, t.2.2, -1]) := by
 simp [memS, h]
theorem memS_dep {g : Graph} {T : List Tr} {S : List Nat} {j : Nat} {t : Tr} (h : T[j]? = some t) : ∃ l, (memS g T S)[j]? = some l ∧ l[1]? = some t.2.2 ∧ l.length = 3 := by
 refine ⟨_, memS_get h, ?_, ?_⟩
 ·split <;> rfl
 ·split <;> rfl
theorem l2_eq {g : Graph} (hg : VG g) (hs : SmallG g) {T : List Tr} (h : J g T T.length) (hall : ∀ v ∈ g.Vertices, v.ID ∈ ids T) {i : Nat} {t : Tr} (ht : T[i]? = some t) {S : List Nat} (hi : i ∉ S) :
  loopN fuel (forest_grow.l2 t.1 (Ref.mk i 0 3) (atP g t.1) (((atP g t.1).length : Nat) : Int) (memS g T S) g.Vertices g.Edges g.Depots (mapOf T)) 0 = some (memS g T (S ++ [i])) := by
 have hl : (atP g t.1).length ≤ 1000 := Nat.le_trans (List.length_filter_le _ _) hs.e
 have hit := List.mem_of_getElem? ht
 have hd := h.dn t hit
 have hTl := h.len hg
 rw [loop_foldF (forest_grow.l2 t.1 (Ref.mk i 0 3) (atP g t.1) (((atP g t.1).length : Nat) : Int) (memS g T S) g.Vertices g.Edges g.Depots (mapOf T)) (atP g t.1) (fun i (_ : Unit) => (i : Int))
  (fun _ ed => if dep? T (otherP ed t.1) == some (t.2.2 - 1) then some (.inr ((memS g T S).set i [t.2.1, t.2.2, ed.ID])) else some (.inl ())) (fun _ => memS g T S) 0 () rfl (by omega)
  (by
   intro j ed _ hj hx
   have hem := List.mem_of_getElem? hx
   obtain ⟨he, hat⟩ := List.mem_filter.1 hem
   have e1 : IntKind.i64.wrap ((j : Int) + 1) = ((j + 1 : Nat) : Int) := by rw [wr]; omega
   unfold forest_grow.l2
   rw [br_dec, if_pos (by omega), getR_s hx, Other_eq, bd_s]
   obtain ⟨v, hv, hve⟩ := hasV_iff.1 (hg.other he hat)
   have hin := hall v hv
   rw [hve] at hin
   obtain ⟨u, hu, hue⟩ := List.mem_map.1 hin
   obtain ⟨m, hm⟩ := List.getElem?_of_mem hu
   have hget : mapGet (mapOf T) (otherP ed t.1) = some (Ref.mk (0 + m) 0 3) := by rw [← hue]; exact mapI_some 0 T m u h.nd hm
   obtain ⟨lu, u1, u2, _⟩ := memS_dep (g := g) (S := S) hm
   obtain ⟨lt, t1, t2, _⟩ := memS_dep (g := g) (S := S) ht
   have h3 : (0 : Int) ≤ 1 ∧ (1 : Int) < ((3 : Nat) : Int) := by decide
   rw [hget, oc_s, gd_t h3, Nat.zero_add, u1, bd_s, show (0 + (1 : Int).toNat) = 1 from rfl, u2, bd_s, gd_t h3, t1, bd_s, t2, bd_s]
   have e2 : IntKind.i64.wrap (t.2.2 - 1) = t.2.2 - 1 := wr
   have hdep : dep? T (otherP ed t.1) = some u.2.2 := by rw [← hue]; exact dep_of h.nd hu
   rw [e2, br_if, hdep]
   have hlt : lt = [t.2.1, t.2.2, -1] := by
    rw [memS_get ht, if_neg hi] at t1; exact (Option.some.inj t1).symm
   by_cases hc : u.2.2 = t.2.2 - 1
   ·have c1 : (u.2.2 == t.2.2 - 1) = true := by simpa using hc
    have c2 : ((some u.2.2 : Option Int) == some (t.2.2 - 1)) = true := by simpa using hc
    have h4 : (0 : Int) ≤ 2 ∧ (2 : Int) < ((3 : Nat) : Int) := by decide
    rw [if_pos c1, if_pos c2, gd_t h4, hlt, nx_inr]
    rfl
   ·have c1 : ¬ (u.2.2 == t.2.2 - 1) = true := by simpa using hc
    have c2 : ¬ ((some u.2.2 : Option Int) == some (t.2.2 - 1)) = true := by simpa using hc
    rw [if_neg c1, if_neg c2, e1, nx_inl])
  (by intro _; unfold forest_grow.l2; rw [br_dec, if_neg (by omega)])]
 rw [foldX_find _ (fun ed => dep? T (otherP ed t.1) == some (t.2.2 - 1)) (fun ed => (memS g T S).set i [t.2.1, t.2.2, ed.ID]) () (atP g t.1) (by
  intro x hx
  by_cases hc : (dep? T (otherP x t.1) == some (t.2.2 - 1)) = true
  ·simp only [hc, if_true]
  ·simp only [hc, if_false, Bool.false_eq_true])]
 have key : ∀ l : List Int, l = fin1 g T t → (memS g T S).set i l = memS g T (S ++ [i]) := by
  intro l hl
  apply List.ext_getElem?
  intro j
  rw [List.getElem?_set]
  by_cases hij : i = j
  ·subst hij
   have hil : i < (memS g T S).length := by have := (List.getElem?_eq_some_iff.1 ht).1; simpa [memS] using this
   rw [if_pos rfl, if_pos hil, memS_get ht, if_pos (by simp), hl]
  ·rw [if_neg hij]
   cases hj : T[j]? with
   | none =>
    have : T.length ≤ j := by simpa using hj
    rw [List.getElem?_eq_none (by simpa [memS] using this), List.getElem?_eq_none (by simpa [memS] using this)]
   | some u =>
    rw [memS_get hj, memS_get hj]
    have : (j ∈ S ++ [i]) ↔ j ∈ S := by simp; intro e; exact absurd e.symm hij
    simp only [this]
 cases hf : (atP g t.1).find? (fun ed => dep? T (otherP ed t.1) == some (t.2.2 - 1)) with
 | some ed =>
  simp only [Option.map_some, outX]
  rw [key]
  unfold fin1 edgeOf
  rw [hf]
 | none =>
  simp only [Option.map_some, outX]
  rw [← key (fin1 g T t) rfl]
  congr 1
  symm
  have hil : i < (memS g T S).length := by have := (List.getElem?_eq_some_iff.1 ht).1; simpa [memS] using this
  apply List.ext_getElem?
  intro j
  rw [List.getElem?_set]
  by_cases hij : i = j
  ·subst hij
   rw [if_pos rfl, if_pos hil, memS_get ht, if_neg hi]
   unfold fin1 edgeOf
   rw [hf]
  ·rw [if_neg hij]
theorem l3_eq {g : Graph} (hg : VG g) (hs : SmallG g) {T : List Tr} (h : J g T T.length) (hall : ∀ v ∈ g.Vertices, v.ID ∈ ids T) :
  mapL (forest_grow.l3 g.Vertices g.Edges g.Depots (mapOf T)) ((mapOf T).map mKey).length (memOf T) = some (.cont (T.map (fin1 g T))) := by
 have e0 : ((mapOf T).map mKey).length = T.length := by rw [List.length_map]; exact mapI_len 0 T
 rw [e0]
 apply mapL_of
 intro l hl
 have key : ∀ (l S : List Nat), (S ++ l).Nodup → (∀ i ∈ l, i < T.length) → runL (forest_grow.l3 g.Vertices g.Edges g.Depots (mapOf T)) l (memS g T S) = some (.cont (memS g T (S ++ l))) := by
  intro l
  induction l with
  | nil => intro S _ _; simp [runL]
  | cons i l ih =>
   intro S hn hb
   have hi : i < T.length := hb i (.head _)
   have hni : i ∉ S := fun hS => (List.nodup_append.1 hn).2.2 i hS i (.head _) rfl
   have ht : T[i]? = some T[i] := by simp [hi]
   simp only [runL]
   have : forest_grow.l3 g.Vertices g.Edges g.Depots (mapOf T) i (memS g T S) = some (.cont (memS g T (S ++ [i]))) := by
    unfold forest_grow.l3
    rw [show (mapOf T)[i]? = some (T[i].1, Ref.mk (0 + i) 0 3) by unfold mapOf; rw [mapI_get, ht]; rfl, bd_s]
    simp only [Nat.zero_add]
    rw [show (Graph.mk g.Vertices g.Edges g.Depots) = g from rfl, At_eq g hs, bd_s, l2_eq hg hs h hall ht hni, bd_s]
   rw [this]
   simp only
   rw [ih (S ++ [i]) (by simpa using hn) (fun j hj => hb j (.tail _ hj))]
   simp
 have h0 : memOf T = memS g T [] := by
  apply List.ext_getElem?
  intro j
  simp [memOf, memS]
 rw [h0, key l [] (by simpa using hl.nodup_iff.2 List.nodup_range) (fun i hi => by simpa using hl.mem_iff.1 hi)]
 congr 2
 apply List.ext_getElem?
 intro j
 cases hj : T[j]? with
 | none =>
  have : T.length ≤ j := by simpa using hj
  rw [List.getElem?_eq_none (by simpa [memS] using this), List.getElem?_eq_none (by simpa using this)]
 | some u =>
  have hjl := (List.getElem?_eq_some_iff.1 hj).1
  have hm : j ∈ l := hl.mem_iff.2 (by simpa using hjl)
  rw [memS_get hj, if_pos (by simpa using hm)]
  simp [hj]
def tree (g : Graph) : List (Int × Option (List Int)) := (allT g).map fun t => (t.1, some (fin1 g (allT g) t))
theorem mapO_all {α β : Type} {f : α → Option β} {h : α → β} : ∀ {l : List α}, (∀ x ∈ l, f x = some (h x)) → mapO f l = some (l.map h)
 | [], _ => rfl
 | x :: l, H => by
  unfold mapO
  rw [H x (.head _), mapO_all fun y hy => H y (.tail _ hy)]
  rfl
theorem grow_eq {g : Graph} (hg : VG g) (hs : SmallG g) : forest_grow g = some (tree g) := by
 have hv := hg.vlen
 let e : Nat → List Tr → Int × List (List Int) × List (Int × Ref) := fun i T => ((i : Int), memOf T, mapOf T)
 let h : List Tr → Vertex → List Tr := fun T v => if T.any (fun t => t.1 == v.ID) then T else bfs g 1000 T.length (T ++ [(v.ID, v.ID, 0)])
 have hout : ∀ (vs : List Vertex) (T : List Tr), vs.foldl h T = outer g vs T := by
  intro vs
  induction vs with
  | nil => intro T; rfl
  | cons v vs ih =>
   intro T
   simp only [List.foldl, ih]
   show outer g vs (if T.any (fun t => t.1 == v.ID) then T else _) = _
   conv => rhs; unfold outer
   split <;> rfl
 obtain ⟨hJ, hall⟩ := allT_J hg
 have main := loop_foldO (forest_grow.l4 g.Vertices ((g.Vertices.length : Nat) : Int) g.Vertices g.Edges g.Depots) g.Vertices e h
  (fun i T => J g T T.length ∧ ∀ v ∈ g.Vertices.take i, v.ID ∈ ids T) (0, [], ([] : List (Int × Ref))) [] ((allT g).map (fin1 g (allT g)), mapOf (allT g)) rfl (by omega) ⟨J.empty g, by simp⟩
  (by
   rintro i v T hi hx ⟨hT, hpre⟩
   have e1 : IntKind.i64.wrap ((i : Int) + 1) = ((i + 1 : Nat) : Int) := by rw [wr]; omega
   have hvm := List.mem_of_getElem? hx
   have htake : g.Vertices.take (i + 1) = g.Vertices.take i ++ [v] := by rw [List.take_add_one, hx]; rfl
   unfold forest_grow.l4
   rw [br_dec, if_pos (by simp only [e]; omega)]
   simp only [e]
   rw [getR_s hx]
   cases ha : T.any (fun t => t.1 == v.ID) with
   | true =>
    obtain ⟨t, htm, hte⟩ := List.mem_map.1 (any_ids.1 ha)
    obtain ⟨j, hj⟩ := List.getElem?_of_mem htm
    have hm : mapGet (mapOf T) v.ID = some (Ref.mk (0 + j) 0 3) := by rw [← hte]; exact mapI_some 0 T j t hT.nd hj
    have hh : h T v = T := by show (if T.any (fun t => t.1 == v.ID) then T else _) = T; rw [ha]; rfl
    rw [hm, oc_s, e1, hh]
    refine ⟨rfl, hT, ?_⟩
    intro u hu
    rw [htake, List.mem_append, List.mem_singleton] at hu
    rcases hu with hu | rfl
    ·exact hpre u hu
    ·exact any_ids.1 ha
   | false =>
    have hn := any_ids'.1 ha
    have hm : mapGet (mapOf T) v.ID = none := mapI_none 0 T _ hn
    have hh : h T v = bfs g 1000 T.length (T ++ [(v.ID, v.ID, 0)]) := by show (if T.any (fun t => t.1 == v.ID) then T else _) = _; rw [ha]; rfl
    have hlow : ∀ u ∈ g.Vertices, u.ID < v.ID → u.ID ∈ ids T := by
     intro u hu hlt
     refine hpre u ?_
     obtain ⟨m, hm⟩ := List.getElem?_of_mem hu
     have hasc := List.pairwise_iff_getElem.1 hg.asc
     have hml := (List.getElem?_eq_some_iff.1 hm).1
     have em := (List.getElem?_eq_some_iff.1 hm).2
     have ev := (List.getElem?_eq_some_iff.1 hx).2
     have hmi : m < i := by
      rcases Nat.lt_trichotomy m i with h1 | h1 | h1
      ·exact h1
      ·subst h1; rw [hm] at hx; cases hx; omega
      ·have := hasc i m (by simpa using hi) (by simpa using hml) h1
       simp only [List.getElem_map, em, ev] at this; omega
     exact List.mem_of_getElem? (i := m) (by rw [List.getElem?_take_of_lt hmi]; exact hm)
    have hst := hT.start (v := v.ID) (hasV_iff.2 ⟨v, hvm, rfl⟩) hn hlow
    have e3 : memOf (T ++ [(v.ID, v.ID, 0)]) = memOf T ++ [[v.ID, 0, -1]] := by simp [memOf]
    have e4 : mapOf (T ++ [(v.ID, v.ID, 0)]) = mapSet (mapOf T) v.ID (Ref.mk (memOf T).length 0 3) := by
     rw [mapSet_new _ _ _ hm]
     unfold mapOf
     rw [mapI_app]
     simp [memOf]
    have hl1 := l1_eq hg hs hst (v := v.ID) (by
     intro j t hj ht
     rw [List.getElem?_append_right hj] at ht
     have : j - T.length = 0 := by
      have := (List.getElem?_eq_some_iff.1 ht).1
      simp at this; omega
     rw [this] at ht
     simp at ht
     rw [← ht]) g.Vertices ((g.Vertices.length : Nat) : Int) (i : Int) v.Side 0 [v.ID] (by simp) (by simp [ids]) 1000 (by omega)
    rw [e3, e4] at hl1
    rw [hm, oc_n]
    have e5 : ([v.ID].map eInt).length = [v.ID].length - 0 := rfl
    rw [e5, hl1, bd_s, e1, hh]
    obtain ⟨b1, b2⟩ := bfs_J hg 1000 T.length _ hst (by omega)
    refine ⟨rfl, b1, ?_⟩
    intro u hu
    rw [htake, List.mem_append, List.mem_singleton] at hu
    refine b2 _ ?_
    rcases hu with hu | rfl
    ·simp only [ids, List.map_append, List.mem_append]; exact .inl (hpre u hu)
    ·simp [ids])
  (by
   intro _
   rw [hout]
   unfold forest_grow.l4
   rw [br_dec, if_neg (by simp only [e]; omega)]
   simp only [e]
   rw [show outer g g.Vertices [] = allT g from rfl]
   rw [l3_eq hg hs hJ hall]
   rfl)
 unfold forest_grow
 rw [main, bd_s]
 have : mapO (fun x : Int × Ref => bd (resRef ((allT g).map (fin1 g (allT g))) x.2) fun y19 => some ((x.1, some y19) : Int × (Option (List Int)))) (mapOf (allT g)) = some (tree g) := by
  have hgen : ∀ (T : List Tr) (j : Nat) (m : List (List Int)), (∀ i t, T[i]? = some t → m[j + i]? = some (fin1 g (allT g) t)) →
    mapO (fun x : Int × Ref => bd (resRef m x.2) fun y19 => some ((x.1, some y19) : Int × (Option (List Int)))) (mapI j T) = some (T.map fun t => (t.1, some (fin1 g (allT g) t))) := by
   intro T
   induction T with
   | nil => intro j m _; rfl
   | cons t T ih =>
    intro j m hm
    unfold mapI mapO
    have h0 := hm 0 t rfl
    rw [Nat.add_zero] at h0
    have : resRef m (Ref.mk j 0 3) = some (fin1 g (allT g) t) := by
     unfold resRef
     rw [h0]
     rfl
    rw [this, bd_s]
    rw [ih (j + 1) m (fun i u hu => by have := hm (i + 1) u (by simpa using hu); rw [show j + 1 + i = j + (i + 1) by omega]; exact this)]
    rfl
  exact hgen (allT g) 0 _ (fun i t ht => by simp [ht])
 simp only
 rw [this]
 rfl
end Go.Fw.Gen
