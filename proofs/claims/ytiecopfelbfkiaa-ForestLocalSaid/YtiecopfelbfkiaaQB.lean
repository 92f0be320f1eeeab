/- The program's search is the plain one: all vertices with their roots, depths and edges. -/
import Derived.Test.YtiecopfelbfkiaaQA
import Derived.Test.YtiecopfelbfkiaaFxY
namespace Go.Fx.Gen
open Go.Fx
set_option linter.unusedVariables false
namespace Frs

theorem other_run (e : Edge) (x : Int) : (f36 e x).run = some (otherP e x) := by
  simp only [f36, r_brr, r_ret, br_if, beq_iff_eq]
  unfold otherP
  split
  · rfl
  · split <;> rfl

theorem at_run {vs : List Vertex} {es : List Edge} (hl : es.length < 1000000000) (x : Int) : (f48 vs es x).run = some (es.filter (atB x)) := by
  obtain ⟨q, hq, rfl⟩ := loop_ix (A := List Edge) (f := fun s : Int × List Edge => (f48.l1 es x s.1 s.2).run) (n := es.length) (fun i a => ((i : Int), a)) (fun i a => a = (es.take i).filter (atB x)) (fun q => q = .a (es.filter (atB x)))
    (fun i a hi ha => by
      have hx := List.getElem?_eq_getElem hi
      have htk := List.take_succ_eq_append_getElem hi
      have hal : a.length ≤ i := by rw [ha]; exact Nat.le_trans (List.length_filter_le ..) (by simp; omega)
      have e1 : br (es[i].From == x) (some (Ex.a true)) (some (Ex.a (es[i].To == x))) = some (Ex.a (atB x es[i]) : Ex Bool Empty Empty) := by unfold atB; cases (es[i].From == x) <;> rfl
      simp only [f48.l1, r_brr, L_eq, cast_lt_t hi, br_t, getR_s hx, r_join1, r_ret, e1, bd_s, ex_a, succ_wr hi (by omega)]
      have e2 : (es.take (i + 1)).filter (atB x) = a ++ if atB x es[i] = true then [es[i]] else [] := by
        rw [htk, List.filter_append, ← ha]
        by_cases h : atB x es[i] = true
        · rw [if_pos h, List.filter_cons_of_pos h]; rfl
        · rw [if_neg h, List.filter_cons_of_neg h]; rfl
      by_cases h : atB x es[i] = true
      · rw [h, br_t, ap_s (by simp; unfold bigLen; omega), r_ret]
        exact .inl ⟨_, rfl, by rw [e2, if_pos h]⟩
      · rw [show atB x es[i] = false by simpa using h, br_f]
        exact .inl ⟨_, rfl, by rw [e2, if_neg h, List.append_nil]⟩)
    (fun a ha => ⟨_, by simp only [f48.l1, r_brr, L_eq, cast_lt_f (Nat.lt_irrefl _), br_f, r_ret] <;> rfl, by rw [ha, List.take_length]⟩)
    (k := fuel) (by have := fuel_pos; omega) (a := ([] : List Edge)) (by simp)
  have hq : loopN fuel (fun s : Int × List Edge => (f48.l1 es x s.1 s.2).run) ((0 : Int), ([] : List Edge)) = _ := hq
  simp only [f48]
  rw [r_loop1, hq, bd_s, ex_a, r_ret]

def memOf (T : List Tr) : List (List Int) := T.map fun t => [t.2.1, t.2.2, -1]
def mapI : Nat → List Tr → List (Int × Ref)
  | _, [] => []
  | j, t :: r => (t.1, Ref.mk j 0 3) :: mapI (j + 1) r
def mapOf (T : List Tr) : List (Int × Ref) := mapI 0 T

theorem mapI_len : ∀ (j : Nat) (T : List Tr), (mapI j T).length = T.length
  | _, [] => rfl
  | j, t :: r => by simp [mapI, mapI_len]
theorem mapI_app : ∀ (j : Nat) (T : List Tr) (t : Tr), mapI j (T ++ [t]) = mapI j T ++ [(t.1, Ref.mk (j + T.length) 0 3)]
  | j, [], t => by simp [mapI]
  | j, u :: r, t => by simp only [List.cons_append, mapI, mapI_app (j + 1) r t, List.length_cons]; rw [show j + (r.length + 1) = j + 1 + r.length by omega]
theorem mapI_get : ∀ (j : Nat) (T : List Tr) (i : Nat), (mapI j T)[i]? = (T[i]?).map fun t => (t.1, Ref.mk (j + i) 0 3)
  | j, [], i => by simp [mapI]
  | j, t :: r, 0 => by simp [mapI]
  | j, t :: r, i + 1 => by simp only [mapI, List.getElem?_cons_succ, mapI_get (j + 1) r i]; rw [show j + 1 + i = j + (i + 1) by omega]
theorem mapI_none : ∀ (j : Nat) (T : List Tr) (x : Int), x ∉ ids T → mapGet (mapI j T) x = none
  | _, [], _, _ => rfl
  | j, t :: r, x, h => by
    simp only [ids, List.map_cons, List.mem_cons, not_or] at h
    unfold mapI mapGet
    rw [if_neg (fun e => h.1 e.symm)]
    exact mapI_none (j + 1) r x h.2
theorem mapI_some : ∀ (j : Nat) (T : List Tr) (i : Nat) (t : Tr), (ids T).Nodup → T[i]? = some t → mapGet (mapI j T) t.1 = some (Ref.mk (j + i) 0 3)
  | _, [], _, _, _, h => by simp at h
  | j, u :: r, 0, t, _, h => by simp at h; subst h; simp [mapI, mapGet]
  | j, u :: r, i + 1, t, hn, h => by
    simp at h
    simp only [ids, List.map_cons, List.nodup_cons] at hn
    unfold mapI mapGet
    rw [if_neg (by rintro e; exact hn.1 (by rw [e]; exact List.mem_map.2 ⟨t, List.mem_of_getElem? h, rfl⟩))]
    rw [mapI_some (j + 1) r i t hn.2 h]
    rw [show j + 1 + i = j + (i + 1) by omega]
theorem mapSet_new {α : Type} : ∀ (l : List (Int × α)) (x : Int) (v : α), mapGet l x = none → mapSet l x v = l ++ [(x, v)]
  | [], _, _, _ => rfl
  | (k, u) :: r, x, v, h => by
    unfold mapGet at h
    unfold mapSet
    by_cases e : k = x
    · rw [if_pos e] at h; cases h
    · rw [if_neg e] at h ⊢
      rw [mapSet_new r x v h]; rfl
theorem memOf_get (T : List Tr) (i : Nat) (t : Tr) (h : T[i]? = some t) : (memOf T)[i]? = some [t.2.1, t.2.2, -1] := by simp [memOf, h]
theorem mapOf_snoc (T : List Tr) {y r d : Int} (h : mapGet (mapOf T) y = none) : mapOf (T ++ [(y, r, d)]) = mapSet (mapOf T) y (Ref.mk (LM (memOf T)) 0 3) := by
  rw [mapSet_new _ _ _ h, LM_eq]
  unfold mapOf
  rw [mapI_app]
  simp [memOf]

theorem Kk.len {g : Graph} (hg : VG g) {T : List Tr} {k : Nat} (h : J g T k) {r x d : Int} {T' : List Tr} {done : List Edge} (K : Kk g T r x d T' done) : T'.length ≤ 24 := by
  have := nodup_len (m := g.Vertices.map (·.ID)) K.nd (by
    obtain ⟨N, rfl, hN⟩ := K.ex
    intro y hy
    obtain ⟨t, ht, rfl⟩ := List.mem_map.1 hy
    rw [List.mem_append] at ht
    have : hasV g t.1 = true := by
      rcases ht with ht | ht
      · exact h.hv t ht
      · obtain ⟨_, _, _, e, he, hx, hn⟩ := hN t ht
        rw [hn]; exact hg.other he hx
    obtain ⟨v, hv, e⟩ := hasV_iff.1 this
    exact List.mem_map.2 ⟨v, hv, e⟩)
  simp [ids] at this
  have := hg.vlen
  omega

theorem h13 : (0 : Int) ≤ 1 ∧ (1 : Int) < ((3 : Nat) : Int) := by decide
theorem h23 : (0 : Int) ≤ 2 ∧ (2 : Int) < ((3 : Nat) : Int) := by decide
/-- One vertex's round. -/
theorem visit_run [Fm] {g : Graph} (hg : VG g) {T : List Tr} {k : Nat} (h : J g T k) {x d : Int} {v : Vertex} (ht : T[k]? = some (x, v.ID, d)) :
    loopN fuel (fun s : Int × List (List Int) × List (Int × Ref) × List Int => (f22.l1 v x (atP g x) s.1 s.2.1 s.2.2.1 s.2.2.2).run) ((0 : Int), memOf T, mapOf T, ids (T.drop k)) =
      some (.a (memOf ((atP g x).foldl (visit v.ID x d) T), mapOf ((atP g x).foldl (visit v.ID x d) T), ids (((atP g x).foldl (visit v.ID x d) T).drop k))) := by
  have hl : (atP g x).length ≤ 1000 := Nat.le_trans (List.length_filter_le _ _) (by have := hg.elen; omega)
  have hk : k < T.length := (List.getElem?_eq_some_iff.1 ht).1
  have hdb := h.dn _ (List.mem_of_getElem? ht)
  have hTl := h.len hg
  simp only at hdb
  obtain ⟨q, hq, rfl⟩ := loop_ix (A := List Tr) (f := fun s : Int × List (List Int) × List (Int × Ref) × List Int => (f22.l1 v x (atP g x) s.1 s.2.1 s.2.2.1 s.2.2.2).run) (n := (atP g x).length)
    (fun i T' => ((i : Int), memOf T', mapOf T', ids (T'.drop k))) (fun i T' => T' = ((atP g x).take i).foldl (visit v.ID x d) T)
    (fun q => q = .a (memOf ((atP g x).foldl (visit v.ID x d) T), mapOf ((atP g x).foldl (visit v.ID x d) T), ids (((atP g x).foldl (visit v.ID x d) T).drop k)))
    (fun i T' hi hT' => by
      have hx := List.getElem?_eq_getElem hi
      have htk : ((atP g x).take (i + 1)).foldl (visit v.ID x d) T = visit v.ID x d T' (atP g x)[i] := by rw [List.take_succ_eq_append_getElem hi, List.foldl_append, ← hT']; rfl
      have K : Kk g T v.ID x d T' ([] ++ (atP g x).take i) := by
        rw [hT']
        exact visit_all h.nd ((atP g x).take i) [] T (fun e he => ⟨(List.mem_filter.1 (List.mem_of_mem_take he)).1, (List.mem_filter.1 (List.mem_of_mem_take he)).2⟩) ⟨⟨[], by simp, by simp⟩, h.nd, by simp⟩
      have hlen := K.len hg h
      obtain ⟨N, hN, _⟩ := K.ex
      have hTx : T'[k]? = some (x, v.ID, d) := by rw [hN, List.getElem?_append_left hk]; exact ht
      have hkl : k ≤ T'.length := by rw [hN]; simp; omega
      generalize (atP g x)[i] = ed at hx htk
      simp only [f22.l1, r_brr, L_eq (atP g x), cast_lt_t hi, br_t, getR_s hx, r_cl, other_run, bd_s, r_ask, succ_wr hi (by omega)]
      cases ha : T'.any (fun t => t.1 == otherP ed x) with
      | true =>
        obtain ⟨t, htm, hte⟩ := List.mem_map.1 (any_ids.1 ha)
        obtain ⟨j, hj⟩ := List.getElem?_of_mem htm
        have hm : mapGet (mapOf T') (otherP ed x) = some (Ref.mk (0 + j) 0 3) := by rw [← hte]; exact mapI_some 0 T' j t K.nd hj
        have hv : visit v.ID x d T' ed = T' := by unfold visit; simp only [ha, if_true]
        rw [hm, Option.isSome_some, br_t, r_lookR, hm, bd_s, r_brr, show (!true) = false from rfl, br_f, r_ret]
        exact .inl ⟨T', rfl, by rw [htk, hv]⟩
      | false =>
        have hn := any_ids'.1 ha
        have hm : mapGet (mapOf T') (otherP ed x) = none := mapI_none 0 T' _ hn
        have hv : visit v.ID x d T' ed = T' ++ [(otherP ed x, v.ID, d + 1)] := by unfold visit; simp only [ha, Bool.false_eq_true, if_false]
        have hx' : mapGet (mapOf T') x = some (Ref.mk (0 + k) 0 3) := mapI_some 0 T' k (x, v.ID, d) K.nd hTx
        have w : IntKind.i64.wrap (d + 1) = d + 1 := wr
        have hmem : (memOf T')[0 + k]? = some [v.ID, d, -1] := by rw [Nat.zero_add]; exact memOf_get T' k _ hTx
        rw [hm, Option.isSome_none, br_f, r_lookA, hm, chk_t rfl, bd_s, r_brr, show (!false) = true from rfl, br_t, r_lookR, hx', bd_s, ck_t h13, rdM_s (j := 0 + (1 : Int).toNat) (l := [v.ID, d, -1]) (a := d) hmem rfl, r_bsM, r_mset, ap_s (by simp [ids]; unfold bigLen; omega), r_ret, w]
        refine .inl ⟨T' ++ [(otherP ed x, v.ID, d + 1)], ?_, by rw [htk, hv]⟩
        rw [mapOf_snoc T' hm, List.drop_append_of_le_length hkl]
        simp [memOf, ids])
    (fun T' hT' => ⟨_, by simp only [f22.l1, r_brr, L_eq, cast_lt_f (Nat.lt_irrefl _), br_f, r_ret] <;> rfl, by rw [hT', List.take_length]⟩)
    (k := fuel) (by have := fuel_pos; omega) (a := T) (by simp)
  exact hq

theorem bfs_end {g : Graph} {n : Nat} {T : List Tr} : bfs g n T.length T = T := by
  cases n with
  | zero => rfl
  | succ n => simp [bfs]

/-- One component. -/
theorem bfs_run [Fm] {g : Graph} (hg : VG g) {T : List Tr} {k : Nat} (h : J g T k) {v : Vertex} (hv : ∀ i t, k ≤ i → T[i]? = some t → t.2.1 = v.ID) (n : Nat) (hn : 24 ≤ n + k) (v62 : Int) :
    loopN fuel (fun s : List (List Int) × List (Int × Ref) × List Int => (f22.l2 g.Vertices g.Edges v62 v s.1 s.2.1 s.2.2).run) (memOf T, mapOf T, ids (T.drop k)) = some (.a (memOf (bfs g n k T), mapOf (bfs g n k T))) := by
  have hel := hg.elen
  obtain ⟨r, hr, rfl⟩ := loop_of (f := fun s : List (List Int) × List (Int × Ref) × List Int => (f22.l2 g.Vertices g.Edges v62 v s.1 s.2.1 s.2.2).run)
    (fun s => ∃ (T' : List Tr) (k' : Nat) (m : Nat), s = (memOf T', mapOf T', ids (T'.drop k')) ∧ J g T' k' ∧ (∀ i t, k' ≤ i → T'[i]? = some t → t.2.1 = v.ID) ∧ bfs g m k' T' = bfs g n k T ∧ 24 ≤ m + k')
    (fun r => r = .a (memOf (bfs g n k T), mapOf (bfs g n k T))) (fun s => 24 + s.2.2.length - s.1.length) (by
      rintro s ⟨T', k', m, rfl, hJ, hr, hb, hm⟩
      have hTl := hJ.len hg
      have hkl := hJ.kle
      have hql : (ids (T'.drop k')).length = T'.length - k' := by simp [ids]
      simp only [f22.l2, r_brr, L_eq]
      by_cases hk : k' < T'.length
      · left
        obtain ⟨t, ht⟩ : ∃ t, T'[k']? = some t := ⟨T'[k'], by simp [hk]⟩
        obtain ⟨x, r, d⟩ := t
        have hrv : r = v.ID := hr k' _ (Nat.le_refl _) ht
        subst hrv
        have hdr : T'.drop k' = (x, v.ID, d) :: T'.drop (k' + 1) := by
          rw [List.drop_eq_getElem_cons hk]
          rw [List.getElem?_eq_getElem hk] at ht
          rw [Option.some.inj ht]
        have hqx : (ids (T'.drop k'))[at0 (0 : Int)]? = some x := by rw [hdr]; rfl
        have hJ' := hJ.step hg ht
        have K := visit_all (g := g) (r := v.ID) (x := x) (d := d) hJ.nd (atP g x) [] T' (fun e he => ⟨(List.mem_filter.1 he).1, (List.mem_filter.1 he).2⟩) ⟨⟨[], by simp, by simp⟩, hJ.nd, by simp⟩
        have hvis := visit_run hg hJ ht
        simp only at hJ'
        obtain ⟨m', rfl⟩ : ∃ m', m = m' + 1 := ⟨m - 1, by omega⟩
        have hbs : bfs g (m' + 1) k' T' = bfs g m' (k' + 1) ((atP g x).foldl (visit v.ID x d) T') := by
          conv => lhs; unfold bfs
          rw [ht]
        rw [hbs] at hb
        rw [show decide (((ids (T'.drop k')).length : Int) > 0) = true from decide_eq_true (by rw [hql]; omega), br_t, ck_t (by rw [hql]; omega), rd_s hqx, r_cl, at_run (by omega), bd_s]
        rw [show g.Edges.filter (atB x) = atP g x from rfl, r_loop1, hvis, bd_s, ex_a]
        generalize (atP g x).foldl (visit v.ID x d) T' = T'' at *
        obtain ⟨N, rfl, hN⟩ := K.ex
        have hTl' := hJ'.len hg
        have hql' : (ids ((T' ++ N).drop k')).length = (T' ++ N).length - k' := by simp [ids]
        have hl2 : (T' ++ N).length = T'.length + N.length := by simp
        rw [r_cutLoO, if_pos (by rw [hql']; omega), bd_s, r_ret]
        refine ⟨_, rfl, ⟨T' ++ N, k' + 1, m', ?_, hJ', ?_, hb, by omega⟩, ?_⟩
        · simp only [Prod.mk.injEq, true_and]
          unfold ids
          rw [← List.map_drop, List.drop_drop]; rfl
        · intro i t hi hti
          rcases Nat.lt_or_ge i T'.length with hlt | hge
          · rw [List.getElem?_append_left hlt] at hti
            exact hr i t (by omega) hti
          · rw [List.getElem?_append_right hge] at hti
            exact (hN t (List.mem_of_getElem? hti)).1
        · simp only [memOf, List.length_map, List.length_drop, hql, hql']
          omega
      · right
        have e : k' = T'.length := by omega
        subst e
        rw [show decide (((ids (T'.drop T'.length)).length : Int) > 0) = false from decide_eq_false (by rw [hql]; omega), br_f, r_ret]
        exact ⟨_, rfl, by rw [← hb, bfs_end]⟩)
    fuel (memOf T, mapOf T, ids (T.drop k)) ⟨T, k, n, rfl, h, hv, rfl, hn⟩ (by
      have := fuel_pos
      simp only [memOf, List.length_map, ids, List.length_drop]
      have := h.len hg
      omega)
  exact hr

/-- The depth of a vertex. -/
def dep? (T : List Tr) (y : Int) : Option Int := (T.find? fun t => t.1 == y).map (·.2.2)
def edgeOf (g : Graph) (T : List Tr) (t : Tr) : Int := match (atP g t.1).find? (fun e => dep? T (otherP e t.1) == some (t.2.2 - 1)) with
  | some e => e.ID
  | none => -1
def fin1 (g : Graph) (T : List Tr) (t : Tr) : List Int := [t.2.1, t.2.2, edgeOf g T t]

theorem find_ids {T : List Tr} (hn : (ids T).Nodup) {t : Tr} (ht : t ∈ T) : T.find? (fun u => u.1 == t.1) = some t := by
  induction T with
  | nil => cases ht
  | cons u T ih =>
    simp only [ids, List.map_cons, List.nodup_cons] at hn
    rw [List.find?_cons]
    cases ht with
    | head => simp
    | tail _ ht =>
      have : (u.1 == t.1) = false := by
        rw [beq_eq_false_iff_ne]
        rintro e
        exact hn.1 (by rw [e]; exact List.mem_map.2 ⟨t, ht, rfl⟩)
      rw [this]; exact ih hn.2 ht

theorem dep_of {T : List Tr} (hn : (ids T).Nodup) {t : Tr} (ht : t ∈ T) : dep? T t.1 = some t.2.2 := by
  unfold dep?; rw [find_ids hn ht]; rfl

/-- The last entry of a label, for the vertices of some of the numbers. -/
def memS (g : Graph) (T : List Tr) (S : List Nat) : List (List Int) := T.mapIdx fun j t => if j ∈ S then fin1 g T t else [t.2.1, t.2.2, -1]

theorem memS_get {g : Graph} {T : List Tr} {S : List Nat} {j : Nat} {t : Tr} (h : T[j]? = some t) : (memS g T S)[j]? = some (if j ∈ S then fin1 g T t else [t.2.1, t.2.2, -1]) := by
  simp [memS, h]

theorem memS_dep {g : Graph} {T : List Tr} {S : List Nat} {j : Nat} {t : Tr} (h : T[j]? = some t) : ∃ l, (memS g T S)[j]? = some l ∧ l[1]? = some t.2.2 ∧ l.length = 3 := by
  refine ⟨_, memS_get h, ?_, ?_⟩
  · split <;> rfl
  · split <;> rfl

/-- The edge of one vertex is looked for. -/
theorem edge_run [Fm] {g : Graph} (hg : VG g) {T : List Tr} (h : J g T T.length) (hall : ∀ v ∈ g.Vertices, v.ID ∈ ids T) {i : Nat} {t : Tr} (ht : T[i]? = some t) {S : List Nat} (hi : i ∉ S) :
    ∃ q, loopN fuel (fun s => (f22.l4 (mapOf T) (memS g T S) t.1 (Ref.mk i 0 3) (atP g t.1) s).run) (0 : Int) = some q ∧ (q = .a (memS g T (S ++ [i])) ∨ q = .b () ∧ memS g T S = memS g T (S ++ [i])) := by
  have hl : (atP g t.1).length ≤ 1000 := Nat.le_trans (List.length_filter_le _ _) (by have := hg.elen; omega)
  have hit := List.mem_of_getElem? ht
  have hd := h.dn t hit
  have hTl := h.len hg
  have key0 : loopN fuel (fun s => (f22.l4 (mapOf T) (memS g T S) t.1 (Ref.mk i 0 3) (atP g t.1) s).run) (0 : Int) = _ := loop_find (l := atP g t.1) (fun i : Nat => (i : Int)) (fun ed => dep? T (otherP ed t.1) == some (t.2.2 - 1))
    (fun _ ed => (.a ((memS g T S).set i [t.2.1, t.2.2, ed.ID]) : Ex (List (List Int)) Unit Empty)) (.b ())
    (fun j ed hx => by
      have hlt : j < (atP g t.1).length := (List.getElem?_eq_some_iff.1 hx).1
      have hem := List.mem_of_getElem? hx
      obtain ⟨he, hat⟩ := List.mem_filter.1 hem
      obtain ⟨v, hv, hve⟩ := hasV_iff.1 (hg.other he hat)
      have hin := hall v hv
      rw [hve] at hin
      obtain ⟨u, hu, hue⟩ := List.mem_map.1 hin
      obtain ⟨m, hm⟩ := List.getElem?_of_mem hu
      have hget : mapGet (mapOf T) (otherP ed t.1) = some (Ref.mk (0 + m) 0 3) := by rw [← hue]; exact mapI_some 0 T m u h.nd hm
      obtain ⟨lu, u1, u2, _⟩ := memS_dep (g := g) (S := S) hm
      have t1 : (memS g T S)[i]? = some [t.2.1, t.2.2, -1] := by rw [memS_get ht, if_neg hi]
      have u1 : (memS g T S)[0 + m]? = some lu := by rw [Nat.zero_add]; exact u1
      have w : IntKind.i64.wrap (t.2.2 - 1) = t.2.2 - 1 := wr
      have hdep : dep? T (otherP ed t.1) = some u.2.2 := by rw [← hue]; exact dep_of h.nd hu
      simp only [f22.l4, r_brr, L_eq (atP g t.1), cast_lt_t hlt, br_t, getR_s hx, r_cl, other_run, bd_s, succ_wr hlt (by omega), r_lookR, hget]
      rw [ck_t h13, rdM_s (j := 0 + (1 : Int).toNat) (l := lu) (a := u.2.2) u1 u2, ck_t h13, rdM_s (j := 0 + (1 : Int).toNat) (l := [t.2.1, t.2.2, -1]) (a := t.2.2) t1 rfl, r_brr, w, hdep, ck_t h23, stM_s (j := 0 + (2 : Int).toNat) (l := [t.2.1, t.2.2, -1]) (a := -1) t1 rfl, r_ret, r_ret, br_if]
      have e : ((some u.2.2 : Option Int) == some (t.2.2 - 1)) = (u.2.2 == t.2.2 - 1) := rfl
      rw [e]; rfl)
    (by simp only [f22.l4, r_brr, L_eq, cast_lt_f (Nat.lt_irrefl _), br_f, r_ret]) (k := fuel) (by have := fuel_pos; omega)
  have key : ∀ l : List Int, l = fin1 g T t → (memS g T S).set i l = memS g T (S ++ [i]) := by
    intro l hl
    apply List.ext_getElem?
    intro j
    rw [List.getElem?_set]
    by_cases hij : i = j
    · subst hij
      have hil : i < (memS g T S).length := by have := (List.getElem?_eq_some_iff.1 ht).1; simpa [memS] using this
      rw [if_pos rfl, if_pos hil, memS_get ht, if_pos (by simp), hl]
    · rw [if_neg hij]
      cases hj : T[j]? with
      | none =>
        have : T.length ≤ j := by simpa using hj
        rw [List.getElem?_eq_none (by simpa [memS] using this), List.getElem?_eq_none (by simpa [memS] using this)]
      | some u =>
        rw [memS_get hj, memS_get hj]
        have : (j ∈ S ++ [i]) ↔ j ∈ S := by simp; intro e; exact absurd e.symm hij
        simp only [this]
  refine ⟨_, key0, ?_⟩
  cases hf : (atP g t.1).findIdx? (fun ed => dep? T (otherP ed t.1) == some (t.2.2 - 1)) with
  | some j =>
    obtain ⟨h1, h2, h3⟩ := List.findIdx?_eq_some_iff_getElem.1 hf
    have hx := List.getElem?_eq_getElem h1
    left
    simp only [hx]
    rw [key]
    unfold fin1 edgeOf
    have : (atP g t.1).find? (fun e => dep? T (otherP e t.1) == some (t.2.2 - 1)) = some (atP g t.1)[j] := List.find?_eq_some_iff_getElem.2 ⟨h2, j, h1, rfl, fun k hk => by simpa using h3 k hk⟩
    rw [this]
  | none =>
    right
    refine ⟨rfl, ?_⟩
    have hnone : (atP g t.1).find? (fun e => dep? T (otherP e t.1) == some (t.2.2 - 1)) = none := List.find?_eq_none.2 fun x hx => by simpa using List.findIdx?_eq_none_iff.1 hf x hx
    rw [← key (fin1 g T t) rfl]
    symm
    apply List.ext_getElem?
    intro j
    rw [List.getElem?_set]
    have hil : i < (memS g T S).length := by have := (List.getElem?_eq_some_iff.1 ht).1; simpa [memS] using this
    by_cases hij : i = j
    · subst hij
      rw [if_pos rfl, if_pos hil, memS_get ht, if_neg hi]
      unfold fin1 edgeOf
      rw [hnone]
    · rw [if_neg hij]

theorem edges_run [Fm] {g : Graph} (hg : VG g) {T : List Tr} (h : J g T T.length) (hall : ∀ v ∈ g.Vertices, v.ID ∈ ids T) :
    mapL (fun i s => runAll fun seen => (f22.l5 g.Vertices g.Edges (mapOf T) seen i s).run) ((mapOf T).map mKey).length (memOf T) = some (.cont (T.map (fin1 g T))) := by
  have hel := hg.elen
  have e0 : ((mapOf T).map mKey).length = T.length := by rw [List.length_map]; exact mapI_len 0 T
  rw [e0]
  apply mapL_of
  intro l hl
  have key : ∀ (l S : List Nat), (S ++ l).Nodup → (∀ i ∈ l, i < T.length) → runL (fun i s => runAll fun seen => (f22.l5 g.Vertices g.Edges (mapOf T) seen i s).run) l (memS g T S) = some (.cont (memS g T (S ++ l))) := by
    intro l
    induction l with
    | nil => intro S _ _; simp [runL]
    | cons i l ih =>
      intro S hn hb
      have hi : i < T.length := hb i (.head _)
      have hni : i ∉ S := fun hS => (List.nodup_append.1 hn).2.2 i hS i (.head _) rfl
      have ht : T[i]? = some T[i] := by simp [hi]
      simp only [runL]
      have : (runAll fun seen => (f22.l5 g.Vertices g.Edges (mapOf T) seen i (memS g T S)).run) = some (.cont (memS g T (S ++ [i]))) := by
        refine runAll_const fun seen => ?_
        obtain ⟨q, q1, q2⟩ := edge_run hg h hall ht hni
        simp only [f22.l5]
        rw [r_entM, show (mapOf T)[i]? = some (T[i].1, Ref.mk (0 + i) 0 3) by unfold mapOf; rw [mapI_get, ht]; rfl, bd_s]
        simp only [Nat.zero_add]
        rw [r_cl, at_run (by omega), bd_s, show g.Edges.filter (atB T[i].1) = atP g T[i].1 from rfl, r_loop2, q1, bd_s]
        rcases q2 with rfl | ⟨rfl, q2⟩
        · rw [ex_a, r_ret]
        · rw [ex_b, r_ret, q2]
      rw [this]
      simp only
      rw [ih (S ++ [i]) (by simpa using hn) (fun j hj => hb j (.tail _ hj))]
      simp
  have h0 : memOf T = memS g T [] := by
    apply List.ext_getElem?
    intro j
    simp [memOf, memS]
  rw [h0, key l [] (by simpa using hl.nodup_iff.2 List.nodup_range) (fun i hi => by simpa using hl.mem_iff.1 hi)]
  congr 2
  apply List.ext_getElem?
  intro j
  cases hj : T[j]? with
  | none =>
    have : T.length ≤ j := by simpa using hj
    rw [List.getElem?_eq_none (by simpa [memS] using this), List.getElem?_eq_none (by simpa using this)]
  | some u =>
    have hjl := (List.getElem?_eq_some_iff.1 hj).1
    have hm : j ∈ l := hl.mem_iff.2 (by simpa using hjl)
    rw [memS_get hj, if_pos (by simpa using hm)]
    simp [hj]

/-- What the search hands back. -/
def tree (g : Graph) : List (Int × List Int) := (allT g).map fun t => (t.1, fin1 g (allT g) t)

theorem told_eq {M : List (List Int)} : ∀ {T : List Tr} {j : Nat} {f : Tr → List Int}, (∀ i t, T[i]? = some t → M[j + i]? = some (f t) ∧ (f t).length = 3) → (mapI j T).mapM (told1 M) = some (T.map fun t => (t.1, f t))
  | [], _, _, _ => rfl
  | t :: T, j, f, h => by
    obtain ⟨h1, h2⟩ := h 0 t rfl
    have ih := told_eq (M := M) (T := T) (j := j + 1) (f := f) fun i u hu => by
      have := h (i + 1) u (by simpa using hu)
      rw [show j + 1 + i = j + (i + 1) by omega]; exact this
    simp only [mapI]
    rw [List.mapM_cons, ih]
    have e : told1 M (t.1, Ref.mk j 0 3) = some (t.1, f t) := by
      unfold told1
      rw [Nat.add_zero] at h1
      simp only [h1, Option.bind_some]
      rw [if_pos (by omega), List.drop_zero, List.take_of_length_le (by omega)]
    rw [e]; rfl

theorem growF_run [Fm] {g : Graph} (hg : VG g) : (f22.fm g.Vertices g.Edges).run = some (tree g) := by
  have hvl := hg.vlen
  obtain ⟨hJ, hall⟩ := allT_J hg
  let h : List Tr → Vertex → List Tr := fun T v => if T.any (fun t => t.1 == v.ID) then T else bfs g 1000 T.length (T ++ [(v.ID, v.ID, 0)])
  have hout : ∀ (vs : List Vertex) (T : List Tr), vs.foldl h T = outer g vs T := by
    intro vs
    induction vs with
    | nil => intro T; rfl
    | cons v vs ih =>
      intro T
      simp only [List.foldl, ih]
      show outer g vs (if T.any (fun t => t.1 == v.ID) then T else _) = _
      conv => rhs; unfold outer
      split <;> rfl
  obtain ⟨q, hq, rfl⟩ := loop_ix (A := List Tr) (f := fun s : Int × List (List Int) × List (Int × Ref) => (f22.l3 g.Vertices g.Edges s.1 s.2.1 s.2.2).run) (n := g.Vertices.length) (fun i T => ((i : Int), memOf T, mapOf T))
    (fun i T => T = (g.Vertices.take i).foldl h [] ∧ J g T T.length ∧ ∀ v ∈ g.Vertices.take i, v.ID ∈ ids T) (fun q => q = .a (memOf (allT g), mapOf (allT g)))
    (fun i T hi ⟨hT0, hT, hpre⟩ => by
      have hx := List.getElem?_eq_getElem hi
      have htake := List.take_succ_eq_append_getElem hi
      have hvm : g.Vertices[i] ∈ g.Vertices := List.getElem_mem hi
      have hfold : (g.Vertices.take (i + 1)).foldl h [] = h T g.Vertices[i] := by rw [htake, List.foldl_append, ← hT0]; rfl
      simp only [f22.l3, r_brr, L_eq, cast_lt_t hi, br_t, getR_s hx, r_ask, succ_wr hi (by omega)]
      cases ha : T.any (fun t => t.1 == g.Vertices[i].ID) with
      | true =>
        obtain ⟨t, htm, hte⟩ := List.mem_map.1 (any_ids.1 ha)
        obtain ⟨j, hj⟩ := List.getElem?_of_mem htm
        have hm : mapGet (mapOf T) g.Vertices[i].ID = some (Ref.mk (0 + j) 0 3) := by rw [← hte]; exact mapI_some 0 T j t hT.nd hj
        have hh : h T g.Vertices[i] = T := by show (if T.any (fun t => t.1 == g.Vertices[i].ID) then T else _) = T; rw [ha]; rfl
        rw [hm, Option.isSome_some, br_t, r_lookR, hm, bd_s, r_brr, br_t, r_ret]
        refine .inl ⟨T, rfl, by rw [hfold, hh], hT, fun u hu => ?_⟩
        rw [htake, List.mem_append, List.mem_singleton] at hu
        rcases hu with hu | rfl
        · exact hpre u hu
        · exact any_ids.1 ha
      | false =>
        have hn := any_ids'.1 ha
        have hm : mapGet (mapOf T) g.Vertices[i].ID = none := mapI_none 0 T _ hn
        have hh : h T g.Vertices[i] = bfs g 1000 T.length (T ++ [(g.Vertices[i].ID, g.Vertices[i].ID, 0)]) := by show (if T.any (fun t => t.1 == g.Vertices[i].ID) then T else _) = _; rw [ha]; rfl
        have hlow : ∀ u ∈ g.Vertices, u.ID < g.Vertices[i].ID → u.ID ∈ ids T := by
          intro u hu hlt
          refine hpre u ?_
          obtain ⟨m, hm, rfl⟩ := List.getElem_of_mem hu
          have hasc := List.pairwise_iff_getElem.1 hg.asc
          have hmi : m < i := by
            rcases Nat.lt_trichotomy m i with h1 | h1 | h1
            · exact h1
            · subst h1; omega
            · have := hasc i m (by simpa using hi) (by simpa using hm) h1
              simp only [List.getElem_map] at this; omega
          exact List.mem_of_getElem? (i := m) (by rw [List.getElem?_take_of_lt hmi]; exact List.getElem?_eq_getElem hm)
        have hst := hT.start (v := g.Vertices[i].ID) (hasV_iff.2 ⟨_, hvm, rfl⟩) hn hlow
        have e3 : memOf T ++ [[g.Vertices[i].ID, 0, -1]] = memOf (T ++ [(g.Vertices[i].ID, g.Vertices[i].ID, 0)]) := by simp [memOf]
        have e4 : mapSet (mapOf T) g.Vertices[i].ID (Ref.mk (LM (memOf T)) 0 3) = mapOf (T ++ [(g.Vertices[i].ID, g.Vertices[i].ID, 0)]) := (mapOf_snoc T hm).symm
        have e5 : [g.Vertices[i].ID] = ids ((T ++ [(g.Vertices[i].ID, g.Vertices[i].ID, (0 : Int))]).drop T.length) := by simp [ids]
        have hb := bfs_run hg hst (v := g.Vertices[i]) (fun j t hj htj => by
          have := (List.getElem?_eq_some_iff.1 htj).1
          have e : j = T.length := by simp at this; omega
          subst e
          simp at htj
          rw [← htj]) 1000 (by omega) (i : Int)
        obtain ⟨a1, a2⟩ := bfs_J hg 1000 T.length _ hst (by omega)
        rw [hm, Option.isSome_none, br_f, r_lookA, hm, chk_t rfl, bd_s, r_brr, br_f, r_bsM, r_mset, e3, e4, r_loop1, e5, hb, bd_s, ex_a, r_ret]
        refine .inl ⟨_, rfl, by rw [hfold, hh], a1, fun u hu => ?_⟩
        rw [htake, List.mem_append, List.mem_singleton] at hu
        refine a2 _ ?_
        rcases hu with hu | rfl
        · simp only [ids, List.map_append, List.mem_append]; exact .inl (hpre u hu)
        · simp [ids])
    (fun T ⟨hT0, _, _⟩ => ⟨_, by simp only [f22.l3, r_brr, L_eq, cast_lt_f (Nat.lt_irrefl _), br_f, r_ret] <;> rfl, by rw [hT0, List.take_length, hout]; rfl⟩)
    (k := fuel) (by have := fuel_pos; omega) (a := ([] : List Tr)) ⟨by simp, J.empty g, by simp⟩
  have hq : loopN fuel (fun s : Int × List (List Int) × List (Int × Ref) => (f22.l3 g.Vertices g.Edges s.1 s.2.1 s.2.2).run) ((0 : Int), ([] : List (List Int)), ([] : List (Int × Ref))) = _ := hq
  have ht : toldM ((allT g).map (fin1 g (allT g))) (mapOf (allT g)) = some (tree g) := told_eq (f := fin1 g (allT g)) fun i t hi => ⟨by rw [Nat.zero_add, List.getElem?_map, hi]; rfl, rfl⟩
  simp only [f22.fm]
  rw [r_loop1, hq, bd_s, ex_a, r_mloop0, edges_run hg hJ hall, bd_s]
  show (tellG 103 _ _ _).run = _
  rw [r_tellG, ht, bd_s, r_ret]
end Frs
end Go.Fx.Gen
