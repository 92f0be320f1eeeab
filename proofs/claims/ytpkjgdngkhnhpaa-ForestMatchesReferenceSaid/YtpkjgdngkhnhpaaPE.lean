/- The program's search is the plain one. -/
import Derived.Test.YtpkjgdngkhnhpaaPD
namespace Go.Fw.Gen
open Go.Fw
theorem foldX_inv2 {A α R : Type} (g : A → α → Option (A ⊕ R)) (h : A → α → A) (I : Nat → A → Prop) : ∀ (l : List α) (i : Nat) (a : A), I i a →
  (∀ (j : Nat) (x : α) (a : A), l[j]? = some x → I (i + j) a → g a x = some (.inl (h a x)) ∧ I (i + j + 1) (h a x)) → foldX g l a = some (.inl (l.foldl h a)) ∧ I (i + l.length) (l.foldl h a)
 | [], i, a, hI, _ => ⟨rfl, hI⟩
 | x :: l, i, a, hI, H => by
  obtain ⟨h1, h2⟩ := H 0 x a rfl hI
  simp only [foldX, h1, List.foldl]
  have := foldX_inv2 g h I l (i + 1) _ h2 fun j y b hy hb => by
   have e : i + 1 + j = i + (j + 1) := by omega
   rw [e] at hb ⊢
   exact H (j + 1) y b (by simpa using hy) hb
  rw [List.length_cons, show i + (l.length + 1) = i + 1 + l.length by omega]
  exact this
theorem loop_foldO {S R A α : Type} (f : S → Option (Nx S R)) (l : List α) (e : Nat → A → S) (h : A → α → A) (I : Nat → A → Prop) (s0 : S) (a : A) (r : R) (h0 : s0 = e 0 a) (hl : l.length ≤ 1000000) (hI : I 0 a)
  (hs : ∀ (i : Nat) (x : α) (a : A), i < l.length → l[i]? = some x → I i a → f (e i a) = some (.cont (e (i + 1) (h a x))) ∧ I (i + 1) (h a x))
  (he : I l.length (l.foldl h a) → f (e l.length (l.foldl h a)) = some (.done r)) : loopN fuel f s0 = some r := by
 subst h0
 have key : ∀ (m i k : Nat) (a : A), i + m = l.length → m < k → I i a → (I l.length ((l.drop i).foldl h a) → f (e l.length ((l.drop i).foldl h a)) = some (.done r)) → loopN k f (e i a) = some r := by
  intro m
  induction m with
  | zero =>
   intro i k a hi hk hI he
   have : i = l.length := by omega
   subst this
   cases k with
   | zero => omega
   | succ k =>
    rw [List.drop_length] at he
    simp only [loopN]
    rw [show f (e l.length a) = some (.done r) from he hI]
  | succ m ih =>
   intro i k a hi hk hI he
   cases k with
   | zero => omega
   | succ k =>
    have hlt : i < l.length := by omega
    have hx : l[i]? = some l[i] := by simp [hlt]
    have hd : l.drop i = l[i] :: l.drop (i + 1) := List.drop_eq_getElem_cons hlt
    obtain ⟨h1, h2⟩ := hs i _ a hlt hx hI
    rw [hd] at he
    simp only [loopN, h1]
    exact ih (i + 1) k _ (by omega) (by omega) h2 he
 exact key l.length 0 fuel a (by omega) (by have := fuel_pos; omega) hI (by simpa using he)
def memOf (T : List Tr) : List (List Int) := T.map fun t => [t.2.1, t.2.2, -1]
def mapI : Nat → List Tr → List (Int × Ref)
 | _, [] => []
 | j, t :: r => (t.1, Ref.mk j 0 3) :: mapI (j + 1) r
def mapOf (T : List Tr) : List (Int × Ref) := mapI 0 T
theorem mapI_len : ∀ (j : Nat) (T : List Tr), (mapI j T).length = T.length
 | _, [] => rfl
 | j, t :: r => by simp [mapI, mapI_len]
theorem mapI_app : ∀ (j : Nat) (T : List Tr) (t : Tr), mapI j (T ++ [t]) = mapI j T ++ [(t.1, Ref.mk (j + T.length) 0 3)]
 | j, [], t => by simp [mapI]
 | j, u :: r, t => by simp only [List.cons_append, mapI, mapI_app (j + 1) r t, List.length_cons]; rw [show j + (r.length + 1) = j + 1 + r.length by omega]
theorem mapI_get : ∀ (j : Nat) (T : List Tr) (i : Nat), (mapI j T)[i]? = (T[i]?).map fun t => (t.1, Ref.mk (j + i) 0 3)
 | j, [], i => by simp [mapI]
 | j, t :: r, 0 => by simp [mapI]
 | j, t :: r, i + 1 => by simp only [mapI, List.getElem?_cons_succ, mapI_get (j + 1) r i]; rw [show j + 1 + i = j + (i + 1) by omega]
theorem mapI_none : ∀ (j : Nat) (T : List Tr) (x : Int), x ∉ ids T → mapGet (mapI j T) x = none
 | _, [], _, _ => rfl
 | j, t :: r, x, h => by
  simp only [ids, List.map_cons, List.mem_cons, not_or] at h
  unfold mapI mapGet
  rw [if_neg (fun e => h.1 e.symm)]
  exact mapI_none (j + 1) r x h.2
theorem mapI_some : ∀ (j : Nat) (T : List Tr) (i : Nat) (t : Tr), (ids T).Nodup → T[i]? = some t → mapGet (mapI j T) t.1 = some (Ref.mk (j + i) 0 3)
 | _, [], _, _, _, h => by simp at h
 | j, u :: r, 0, t, _, h => by simp at h; subst h; simp [mapI, mapGet]
 | j, u :: r, i + 1, t, hn, h => by
  simp at h
  simp only [ids, List.map_cons, List.nodup_cons] at hn
  unfold mapI mapGet
  rw [if_neg (by rintro e; exact hn.1 (by rw [e]; exact List.mem_map.2 ⟨t, List.mem_of_getElem? h, rfl⟩))]
  rw [mapI_some (j + 1) r i t hn.2 h]
  rw [show j + 1 + i = j + (i + 1) by omega]
theorem mapSet_new {α : Type} : ∀ (l : List (Int × α)) (x : Int) (v : α), mapGet l x = none → mapSet l x v = l ++ [(x, v)]
 | [], _, _, _ => rfl
 | (k, u) :: r, x, v, h => by
  unfold mapGet at h
  unfold mapSet
  by_cases e : k = x
  ·rw [if_pos e] at h; cases h
  ·rw [if_neg e] at h ⊢
   rw [mapSet_new r x v h]; rfl
theorem memOf_get (T : List Tr) (i : Nat) (t : Tr) (h : T[i]? = some t) : (memOf T)[i]? = some [t.2.1, t.2.2, -1] := by simp [memOf, h]
theorem Kk.len {g : Graph} (hg : VG g) {T : List Tr} {k : Nat} (h : J g T k) {r x d : Int} {T' : List Tr} {done : List Edge} (K : Kk g T r x d T' done) : T'.length ≤ 24 := by
 have := nodup_len (m := g.Vertices.map (·.ID)) K.nd (by
  obtain ⟨N, rfl, hN⟩ := K.ex
  intro y hy
  obtain ⟨t, ht, rfl⟩ := List.mem_map.1 hy
  rw [List.mem_append] at ht
  have : hasV g t.1 = true := by
   rcases ht with ht | ht
   ·exact h.hv t ht
   ·obtain ⟨_, _, _, e, he, hx, hn⟩ := hN t ht
    rw [hn]; exact hg.other he hx
  obtain ⟨v, hv, e⟩ := hasV_iff.1 this
  exact List.mem_map.2 ⟨v, hv, e⟩)
 simp [ids] at this
 have := hg.vlen
 omega
def visitC (r x d : Int) (a : Nat × List Int × List Tr) (e : Edge) : Nat × List Int × List Tr :=
 if a.2.2.any (fun t => t.1 == otherP e x) then a else (0, a.2.1.drop a.1 ++ [otherP e x], a.2.2 ++ [(otherP e x, r, d + 1)])
theorem visitC_T (r x d : Int) : ∀ (l : List Edge) (a : Nat × List Int × List Tr), (l.foldl (visitC r x d) a).2.2 = l.foldl (visit r x d) a.2.2
 | [], a => rfl
 | e :: l, a => by
  simp only [List.foldl, visitC_T r x d l]
  congr 1
  unfold visitC visit
  split <;> rfl
theorem l0_eq {g : Graph} (hg : VG g) (hs : SmallG g) {T : List Tr} {k : Nat} (h : J g T k) {x r d : Int} (ht : T[k]? = some (x, r, d)) (c32 : List Vertex) (c33 c34 : Int) (c37 : List Vertex) (c38 : List Edge) (c39 : List Int) (c41 : Int)
  (off : Nat) (q : List Int) (ho : off ≤ q.length) (hq : q.drop off = ids (T.drop k)) :
  ∃ off' q', loopN fuel (forest_grow.l0 x c32 c33 c34 (atP g x) (((atP g x).length : Nat) : Int) c37 c38 c39 r c41) (off, q.length - off, 0, memOf T, mapOf T, q) =
    some (off', q'.length - off', memOf ((atP g x).foldl (visit r x d) T), mapOf ((atP g x).foldl (visit r x d) T), q') ∧ off' ≤ q'.length ∧ q'.drop off' = ids (((atP g x).foldl (visit r x d) T).drop k) := by
 let e : Nat → Nat × List Int × List Tr → Nat × Nat × Int × (List (List Int)) × (List (Int × Ref)) × (List Int) := fun i a => (a.1, a.2.1.length - a.1, (i : Int), memOf a.2.2, mapOf a.2.2, a.2.1)
 let I : Nat → Nat × List Int × List Tr → Prop := fun _ a => (∃ done, Kk g T r x d a.2.2 done) ∧ a.1 ≤ a.2.1.length ∧ a.2.1.drop a.1 = ids (a.2.2.drop k)
 have hl : (atP g x).length ≤ 1000 := Nat.le_trans (List.length_filter_le _ _) hs.e
 have hk : k < T.length := (List.getElem?_eq_some_iff.1 ht).1
 have step : ∀ (i : Nat) (ed : Edge) (a : Nat × List Int × List Tr), i < (atP g x).length → (atP g x)[i]? = some ed → I i a →
   forest_grow.l0 x c32 c33 c34 (atP g x) (((atP g x).length : Nat) : Int) c37 c38 c39 r c41 (e i a) = some (.cont (e (i + 1) (visitC r x d a ed))) ∧ I (i + 1) (visitC r x d a ed) := by
  rintro i ed ⟨o, p, T'⟩ hi hx ⟨⟨done, K⟩, ho', hq'⟩
  simp only at K ho' hq'
  have hmem : ed ∈ g.Edges ∧ atB x ed = true := ⟨(List.mem_filter.1 (List.mem_of_getElem? hx)).1, (List.mem_filter.1 (List.mem_of_getElem? hx)).2⟩
  have K' := visit_all h.nd [ed] done T' (by intro f hf; rw [List.mem_singleton] at hf; subst hf; exact hmem) K
  have e1 : IntKind.i64.wrap ((i : Int) + 1) = ((i + 1 : Nat) : Int) := by rw [wr]; omega
  have hlen := K.len hg h
  obtain ⟨N, hN, _⟩ := K.ex
  have hTx : T'[k]? = some (x, r, d) := by rw [hN, List.getElem?_append_left hk]; exact ht
  have hdb := h.dn _ (List.mem_of_getElem? ht)
  have hTl := h.len hg
  simp only at hdb
  unfold forest_grow.l0
  rw [br_dec, if_pos (by simp only [e]; omega)]
  simp only [e]
  rw [getR_s hx, Other_eq, bd_s]
  cases ha : T'.any (fun t => t.1 == otherP ed x) with
  | true =>
   obtain ⟨t, htm, hte⟩ := List.mem_map.1 (any_ids.1 ha)
   obtain ⟨j, hj⟩ := List.getElem?_of_mem htm
   have hv : visitC r x d (o, p, T') ed = (o, p, T') := by unfold visitC; simp only [ha, if_true]
   have hm : mapGet (mapOf T') (otherP ed x) = some (Ref.mk (0 + j) 0 3) := by rw [← hte]; exact mapI_some 0 T' j t K.nd hj
   rw [hm, oc_s, hv, e1]
   exact ⟨rfl, ⟨done, K⟩, ho', hq'⟩
  | false =>
   have hn := any_ids'.1 ha
   have hm : mapGet (mapOf T') (otherP ed x) = none := mapI_none 0 T' _ hn
   have hv : visitC r x d (o, p, T') ed = (0, p.drop o ++ [otherP ed x], T' ++ [(otherP ed x, r, d + 1)]) := by unfold visitC; simp only [ha, Bool.false_eq_true, if_false]
   have hx' : mapGet (mapOf T') x = some (Ref.mk (0 + k) 0 3) := mapI_some 0 T' k (x, r, d) K.nd hTx
   rw [hm, oc_n, hx', oc_s, gd_t (⟨by decide, by show (1 : Int) < ((3 : Nat) : Int); decide⟩), Nat.zero_add, memOf_get T' k _ hTx, bd_s]
   have : ([r, d, -1] : List Int)[0 + (1 : Int).toNat]? = some d := rfl
   simp only [this, bd_s]
   have hpl : (p.drop o).length ≤ 24 := by rw [hq']; simp [ids]; omega
   rw [gd_t (by rw [List.length_map]; omega), gd_t (by rw [List.length_append, List.length_singleton]; unfold bigLen; omega), e1, hv]
   have e2 : IntKind.i64.wrap (d + 1) = d + 1 := wr
   have e3 : memOf (T' ++ [(otherP ed x, r, d + 1)]) = memOf T' ++ [[r, d + 1, -1]] := by simp [memOf]
   have e4 : mapOf (T' ++ [(otherP ed x, r, d + 1)]) = mapSet (mapOf T') (otherP ed x) (Ref.mk (memOf T').length 0 3) := by
    unfold mapOf
    rw [mapI_app, mapSet_new _ _ _ (mapI_none 0 T' _ hn)]
    simp [memOf]
   refine ⟨?_, ⟨done ++ [ed], ?_⟩, by simp, ?_⟩
   ·simp only [e2, e3, e4, List.length_map, Nat.sub_zero]
   ·have := K'
    simp only [List.foldl] at this
    unfold visit at this
    simp only [ha, Bool.false_eq_true, if_false] at this
    exact this
   ·simp only [List.drop_zero]
    have hkl : k ≤ T'.length := by rw [hN]; simp; omega
    rw [hq', List.drop_append_of_le_length hkl]
    simp [ids]
 have hI0 : I 0 (off, q, T) := ⟨⟨[], ⟨⟨[], by simp, by simp⟩, h.nd, by simp⟩⟩, ho, hq⟩
 have main := loop_foldO (forest_grow.l0 x c32 c33 c34 (atP g x) (((atP g x).length : Nat) : Int) c37 c38 c39 r c41) (atP g x) e (visitC r x d) I (off, q.length - off, 0, memOf T, mapOf T, q) (off, q, T)
  (((atP g x).foldl (visitC r x d) (off, q, T)).1, ((atP g x).foldl (visitC r x d) (off, q, T)).2.1.length - ((atP g x).foldl (visitC r x d) (off, q, T)).1, memOf ((atP g x).foldl (visitC r x d) (off, q, T)).2.2, mapOf ((atP g x).foldl (visitC r x d) (off, q, T)).2.2, ((atP g x).foldl (visitC r x d) (off, q, T)).2.1)
  rfl (by omega) hI0 step (by
   intro _
   unfold forest_grow.l0
   rw [br_dec, if_neg (by simp only [e]; omega)])
 have hend : I (0 + (atP g x).length) ((atP g x).foldl (visitC r x d) (off, q, T)) := by
  have := foldX_inv2 (R := Empty) (fun a ed => some (.inl (visitC r x d a ed))) (visitC r x d) I (atP g x) 0 (off, q, T) hI0 (fun j y a hy ha => ⟨rfl, by rw [Nat.zero_add] at ha ⊢; exact (step j y a (List.getElem?_eq_some_iff.1 hy).1 hy ha).2⟩)
  exact this.2
 refine ⟨((atP g x).foldl (visitC r x d) (off, q, T)).1, ((atP g x).foldl (visitC r x d) (off, q, T)).2.1, ?_, hend.2.1, ?_⟩
 ·rw [main]
  simp only [visitC_T]
 ·have := hend.2.2
  rw [visitC_T] at this
  exact this
end Go.Fw.Gen
