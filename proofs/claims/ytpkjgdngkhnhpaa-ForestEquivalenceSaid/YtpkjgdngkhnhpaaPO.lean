/- The law of the equivalence holds, in plain words. -/
import Derived.Test.YtpkjgdngkhnhpaaPM
import Derived.Test.YtpkjgdngkhnhpaaG4
namespace Go.Fw.Gen
open Go.Fw

theorem pick7'_eq {c n : Int} (hc : inI64 c) (hn : 0 < n) : clearwaylaw07_pick c n = some (pickZ c n) := pick_core hc hn
theorem pick_get' {α : Type} (l : List α) (hl : 0 < l.length) (c : Int) : ∃ (i : Nat) (v : α), pickZ c ((l.length : Nat) : Int) = (i : Int) ∧ l[i]? = some v := by
  have h := pickZ_range (c := c) (n := ((l.length : Nat) : Int)) (by omega)
  refine ⟨(pickZ c ((l.length : Nat) : Int)).toNat, l[(pickZ c ((l.length : Nat) : Int)).toNat]'(by omega), by omega, by simp⟩

theorem Way.head {g : Graph} {a b : Int} {es vs : List Int} (h : Way g a es vs b) : ∃ t, vs = a :: t := by
  cases h with
  | nil => exact ⟨[], rfl⟩
  | cons e es vs => exact ⟨_, rfl⟩

theorem eqv_l0 (c96 : Int) (c97 c98 : List Int) (c99 nx : Int) (vs : List Vertex) (es : List Edge) (ds seen : List Int) (hn : 0 ≤ nx) (hl : seen.length ≤ 1000) (h : nx ∉ seen) :
    loopN fuel (clearwaylaw07_ForestEquivalence.l0 c96 c97 c98 c99 nx vs es ds seen) 0 = some (.inr ()) := by
  refine loop_foldO _ seen (fun i (_ : Unit) => (i : Int)) (fun _ _ => ()) (fun _ _ => True) 0 () _ rfl (by omega) trivial ?_ ?_
  · intro i x a hi hx _
    have e1 : IntKind.i64.wrap ((i : Int) + 1) = ((i + 1 : Nat) : Int) := by rw [wr]; omega
    refine ⟨?_, trivial⟩
    unfold clearwaylaw07_ForestEquivalence.l0
    rw [br_dec, if_pos (by omega), br_dec, if_neg (by omega), gd_t (by omega), Int.toNat_natCast, Nat.zero_add, hx, bd_s, br_if, if_neg (by
      rw [beq_iff_eq]; rintro rfl; exact h (List.mem_of_getElem? hx)), e1]
  · intro _
    unfold clearwaylaw07_ForestEquivalence.l0
    rw [br_dec, if_neg (by omega)]

theorem fold_one (x id r : Int) (P : Edge → Prop) : ∀ (l : List Edge) (s : Int), (∀ f ∈ l, f.ID = id → otherP f x = r) → ((∃ e ∈ l, e.ID = id) ∨ s = r) → l.foldl (fun (a : Int) (f : Edge) => if f.ID = id then otherP f x else a) s = r
  | [], s, _, h => by
    rcases h with ⟨e, he, _⟩ | h
    · cases he
    · exact h
  | f :: l, s, hu, h => by
    simp only [List.foldl]
    refine fold_one x id r P l _ (fun f hf => hu f (.tail _ hf)) ?_
    by_cases hf : f.ID = id
    · rw [if_pos hf]; exact .inr (hu f (.head _) hf)
    · rw [if_neg hf]
      rcases h with ⟨e, he, h⟩ | h
      · cases he with
        | head => exact absurd h hf
        | tail _ he => exact .inl ⟨e, he, h⟩
      · exact .inr h

theorem eqv_l1 {g : Graph} (hg : VG g) (q : Int) (c74 c75 : List Int) (x : Int) (i : Nat) (e : Edge) (he : e ∈ g.Edges) (hb : atB x e = true) (hi : c74[i]? = some e.ID) (seen : List Int) (hl : seen.length ≤ 1000) (hns : otherP e x ∉ seen) :
    loopN fuel (clearwaylaw07_ForestEquivalence.l1 q c74 c75 x (i : Int) (atP g x) g.Vertices g.Edges g.Depots seen) (-1, 0) = some (.inr (otherP e x)) := by
  have hal := atP_len hg x
  have hm : e ∈ atP g x := List.mem_filter.2 ⟨he, hb⟩
  have hfold : (atP g x).foldl (fun (a : Int) (f : Edge) => if f.ID = e.ID then otherP f x else a) (-1) = otherP e x :=
    fold_one x e.ID _ (fun _ => True) _ _ (fun f hf h => by rw [edge_uniq hg (List.mem_filter.1 hf).1 he h]) (.inl ⟨e, hm, rfl⟩)
  refine loop_foldO _ (atP g x) (fun k (a : Int) => (a, (k : Int))) (fun a f => if f.ID = e.ID then otherP f x else a) (fun _ _ => True) (-1, 0) (-1) _ rfl (by omega) trivial ?_ ?_
  · intro k f a hk hx _
    have e1 : IntKind.i64.wrap ((k : Int) + 1) = ((k + 1 : Nat) : Int) := by rw [wr]; omega
    refine ⟨?_, trivial⟩
    unfold clearwaylaw07_ForestEquivalence.l1
    rw [br_dec, if_pos (by simp only; omega)]
    simp only
    rw [getR_s hx, getR_s hi, br_if, e1]
    by_cases h : f.ID = e.ID
    · rw [if_pos (by simpa using h), if_pos h, getR_s hx, Other_eq, bd_s]
    · rw [if_neg (by simpa using h), if_neg h]
  · intro _
    unfold clearwaylaw07_ForestEquivalence.l1
    rw [br_dec, if_neg (by simp only; omega)]
    simp only [hfold]
    rw [eqv_l0 _ _ _ _ _ _ _ _ _ (hasV_nn hg (hg.other he hb)) hl hns, bd_s]

theorem eqv_l2 {g : Graph} (hg : VG g) (hs : SmallG g) {p q : Int} {es vs : List Int} (hw : Way g p es vs q) (hnd : vs.Nodup) (hlen : es.length ≤ 23) :
    loopN fuel (clearwaylaw07_ForestEquivalence.l2 q es es.reverse g.Vertices g.Edges g.Depots) (p, 0, [p]) = some (.inr (.inr q)) := by
  obtain ⟨r, h1, h2⟩ := loopN_of (f := clearwaylaw07_ForestEquivalence.l2 q es es.reverse g.Vertices g.Edges g.Depots)
    (fun s => ∃ (i : Nat) (t : List Int), s.2.1 = (i : Int) ∧ i ≤ es.length ∧ s.2.2.length = i + 1 ∧ Way g s.1 (es.drop i) (s.1 :: t) q ∧ (s.2.2 ++ t).Nodup)
    (fun r => r = .inr (.inr q)) (fun s => es.length - s.2.1.toNat) (by
      rintro ⟨x, s1, seen⟩ ⟨i, t, h1, h2, h3, h4, h5⟩
      simp only at h1 h3 h4 h5
      subst h1
      by_cases h : i = es.length
      · right
        subst h
        rw [List.drop_length] at h4
        refine ⟨.inr (.inr x), ?_, ?_⟩
        · unfold clearwaylaw07_ForestEquivalence.l2
          rw [br_dec, if_neg (by simp only; omega)]
        · cases h4; rfl
      · left
        have hx : es[i]? = some (es[i]'(by omega)) := by simp
        have hd : es.drop i = es[i]'(by omega) :: es.drop (i + 1) := List.drop_eq_getElem_cons (by omega)
        generalize es[i]'(by omega) = id at hx hd
        rw [hd] at h4
        generalize hr : es.drop (i + 1) = rest at h4
        cases h4 with
        | cons _ e _ vs' _ ha he hb hw' =>
          obtain ⟨t', ht'⟩ := hw'.head
          subst ht'
          have hns : otherP e x ∉ seen := by
            intro hm
            have := (List.nodup_append.1 h5).2.2 _ hm _ (.head _)
            exact this rfl
          have e1 : IntKind.i64.wrap ((i : Int) + 1) = ((i + 1 : Nat) : Int) := by rw [wr]; omega
          have hlr : es.reverse.length = es.length := List.length_reverse
          have e2 : IntKind.i64.wrap (IntKind.i64.wrap (((es.reverse.length : Nat) : Int) - 1) - (i : Int)) = ((es.length - 1 - i : Nat) : Int) := by
            rw [hlr, wr (n := ((es.length : Nat) : Int) - 1), wr]; omega
          have hrev : es.reverse[es.length - 1 - i]? = some e.ID := by
            rw [List.getElem?_reverse (by omega), ← hx]; congr 1; omega
          refine ⟨(otherP e x, ((i + 1 : Nat) : Int), seen ++ [otherP e x]), ?_, ⟨i + 1, t', rfl, by omega, by simp [h3], by rw [hr]; exact hw', by simpa using h5⟩, by simp only; omega⟩
          unfold clearwaylaw07_ForestEquivalence.l2
          rw [br_dec, if_pos (by simp only; omega)]
          simp only
          rw [getR_s hx, e2, getR_s hrev, show (e.ID != e.ID) = false by simp, br_f]
          show bd (graph_At g x) _ = _
          rw [At_eq g hs, bd_s, eqv_l1 hg q es es.reverse x i e he hb hx seen (by omega) hns, bd_s]
          simp only
          rw [gd_t (by rw [List.length_append, List.length_singleton]; unfold bigLen; omega), e1])
    fuel (p, 0, [p]) (by
      obtain ⟨t, rfl⟩ := hw.head
      exact ⟨0, t, rfl, by omega, rfl, hw, hnd⟩) (by have := fuel_pos; simp only; omega)
  rw [h1, h2]

theorem Equiv_true (n : Int) (l : List A5_Int) (wide : Bool) (a b c : Int) (hn : inI64 n) (hl : ∀ x ∈ l, A5ok x) (ha : inI64 a) (hb : inI64 b) (hc : inI64 c) :
    clearwaylaw07_ForestEquivalence n l wide a b c = some true := by
  obtain ⟨g, hm, hg, hs, hv, hpos⟩ := Made_eq (wide := wide) hn hl
  unfold clearwaylaw07_ForestEquivalence
  rw [sane_eq, bd_s, show (!true) = false from rfl, br_f, hm, bd_s, pick7'_eq ha (by omega), bd_s]
  obtain ⟨i, p, hi, hip⟩ := pick_get' g.Vertices hpos a
  rw [hi, getR_s hip, pick7'_eq hb (by omega), bd_s]
  obtain ⟨j, q, hj, hjq⟩ := pick_get' g.Vertices hpos b
  rw [hj, getR_s hjq, pick7'_eq hc (by omega), bd_s]
  obtain ⟨k, r, hk, hkr⟩ := pick_get' g.Vertices hpos c
  rw [hk, getR_s hkr]
  have hP := hasV_of hip
  have hQ := hasV_of hjq
  have hR := hasV_of hkr
  rw [Connected_eq hg hs hv hP hP, bd_s, Connected_eq hg hs hv hP hQ, bd_s, Connected_eq hg hs hv hQ hP, bd_s, Connected_eq hg hs hv hQ hR, bd_s, Connected_eq hg hs hv hP hR, bd_s]
  simp only
  rw [show ((0 : Int) != 0) = false from rfl, br_f, br_f, br_f, br_f, br_f, beq_self_eq_true, show (!true) = false from rfl, br_f]
  by_cases hpq : rt g p.ID = rt g q.ID
  · obtain ⟨es, vs, hpath, hcl⟩ := Path_eq hg hs hv hP hQ hpq
    obtain ⟨es', vs', hpath', hcl'⟩ := Path_eq hg hs hv hQ hP hpq.symm
    have hrev := ((hcl.symm hg (es.length + 1) (by omega)).det hg hcl').1
    subst hrev
    have T : (bd (forest_Path g p.ID q.ID) fun y48 =>
        bd (forest_Path g q.ID p.ID) fun y50 =>
        br (y48.2 != 0) (some false) (br (y50.2 != 0) (some false) (br (((y48.1.length : Nat) : Int) != ((y50.1.length : Nat) : Int)) (some false) (
          bd (loopN fuel (clearwaylaw07_ForestEquivalence.l2 q.ID y48.1 y50.1 g.Vertices g.Edges g.Depots) (p.ID, 0, [p.ID])) fun q74 =>
          match q74 with
          | .inl q74 => some false
          | .inr (.inl q74) => some false
          | .inr (.inr q74) => some (q74 == q.ID))))) = some true := by
      rw [hpath, bd_s, hpath', bd_s]
      simp only
      rw [show ((0 : Int) != 0) = false from rfl, br_f, br_f, List.length_reverse, show (((es.length : Nat) : Int) != ((es.length : Nat) : Int)) = false by simp, br_f,
        eqv_l2 hg hs (hcl.way hg) (hcl.nodup hg) (hcl.short hg), bd_s]
      simp
    rw [beq_iff_eq.2 hpq, beq_iff_eq.2 hpq.symm, show (!(true == true)) = false from rfl, br_f, br_t]
    by_cases hqr : rt g q.ID = rt g r.ID
    · rw [beq_iff_eq.2 hqr, br_t, beq_iff_eq.2 (hpq.trans hqr), show (!true) = false from rfl, br_f, br_f]
      exact T
    · rw [beq_eq_false_iff_ne.2 hqr, br_f, show (!true) = false from rfl, br_f]
      exact T
  · rw [beq_eq_false_iff_ne.2 hpq, beq_eq_false_iff_ne.2 (fun h => hpq h.symm)]
    rfl

end Go.Fw.Gen
