/- The law of the proofs holds, in plain words. -/
import Derived.Test.YtpkjgdngkhnhpaaPM
import Derived.Test.YtpkjgdngkhnhpaaG5
namespace Go.Fw.Gen
open Go.Fw

theorem pick7_eq {c n : Int} (hc : inI64 c) (hn : 0 < n) : clearwaylaw07_pick c n = some (pickZ c n) := pick_core hc hn

theorem pick_get {α : Type} (l : List α) (hl : 0 < l.length) (c : Int) : ∃ (i : Nat) (v : α), pickZ c ((l.length : Nat) : Int) = (i : Int) ∧ l[i]? = some v := by
  have h := pickZ_range (c := c) (n := ((l.length : Nat) : Int)) (by omega)
  refine ⟨(pickZ c ((l.length : Nat) : Int)).toNat, l[(pickZ c ((l.length : Nat) : Int)).toNat]'(by omega), by omega, by simp⟩

theorem prf_l0 (path : List Int) (set p q : Int) (is : Bool) (vs : List Vertex) (es : List Edge) (ds : List Int) (hset : inI64 set) (hv : vs.length ≤ 24) :
    ∃ r, loopN fuel (clearwaylaw07_ForestProofs.l0 path set p q is vs es ds) (0, []) = some r ∧ r.length ≤ 24 := by
  refine loopN_of (f := clearwaylaw07_ForestProofs.l0 path set p q is vs es ds) (fun s => ∃ i : Nat, s.1 = (i : Int) ∧ i ≤ vs.length ∧ s.2.length ≤ i) (fun r => r.length ≤ 24) (fun s => vs.length - s.1.toNat) ?_ fuel (0, []) ⟨0, rfl, by omega, by simp⟩ (by have := fuel_pos; simp only; omega)
  rintro ⟨s1, a⟩ ⟨i, h1, h2, h3⟩
  simp only at h1 h3
  subst h1
  by_cases h : i = vs.length
  · right
    refine ⟨a, ?_, by omega⟩
    unfold clearwaylaw07_ForestProofs.l0
    rw [br_dec, if_neg (by simp only; omega)]
  · left
    have hx : vs[i]? = some (vs[i]'(by omega)) := by simp
    generalize vs[i]'(by omega) = v at hx
    have e1 : IntKind.i64.wrap ((i : Int) + 1) = ((i + 1 : Nat) : Int) := by rw [wr]; omega
    unfold clearwaylaw07_ForestProofs.l0
    rw [br_dec, if_pos (by simp only; omega), pick7_eq hset (by decide), bd_s]
    simp only
    rw [gd_t (by omega), getR_s hx, gd_t (by rw [List.length_append, List.length_singleton]; unfold bigLen; omega), br_if, e1]
    split
    · exact ⟨_, rfl, ⟨i + 1, rfl, by omega, by simp only [List.length_append, List.length_singleton]; omega⟩, by simp only; omega⟩
    · exact ⟨_, rfl, ⟨i + 1, rfl, by omega, by simp only; omega⟩, by simp only; omega⟩

theorem prf_l1 (path : List Int) (p q : Int) (is : Bool) (vs : List Vertex) (es : List Edge) (ds o : List Int) (hp : ∀ x ∈ path, inI64 x) :
    ∃ r, loopN fuel (clearwaylaw07_ForestProofs.l1 path p q is vs es ds o) (0, []) = some r ∧ r.length ≤ 10 := by
  refine loopN_of (f := clearwaylaw07_ForestProofs.l1 path p q is vs es ds o) (fun s => ∃ i : Nat, s.1 = (i : Int) ∧ i ≤ 10 ∧ s.2.length ≤ i) (fun r => r.length ≤ 10) (fun s => 10 - s.1.toNat) ?_ fuel (0, []) ⟨0, rfl, by omega, by simp⟩ (by have := fuel_pos; simp only; omega)
  rintro ⟨s1, a⟩ ⟨i, h1, h2, h3⟩
  simp only at h1 h3
  subst h1
  unfold clearwaylaw07_ForestProofs.l1
  simp only
  by_cases h : i < path.length
  · rw [br_dec, if_pos (by omega)]
    by_cases h10 : i < 10
    · rw [br_dec, if_pos (by omega)]
      by_cases he : 0 < es.length
      · left
        rw [br_dec, if_pos (by omega)]
        have hx : path[i]? = some (path[i]'(by omega)) := by simp
        generalize path[i]'(by omega) = v at hx
        have e1 : IntKind.i64.wrap ((i : Int) + 1) = ((i + 1 : Nat) : Int) := by rw [wr]; omega
        obtain ⟨j, e, hj, hje⟩ := pick_get es he v
        rw [getR_s hx, pick7_eq (hp v (List.mem_of_getElem? hx)) (by omega), bd_s, hj, getR_s hje, gd_t (by rw [List.length_append, List.length_singleton]; unfold bigLen; omega), e1]
        exact ⟨_, rfl, ⟨i + 1, rfl, by omega, by simp only [List.length_append, List.length_singleton]; omega⟩, by simp only; omega⟩
      · right
        rw [br_dec, if_neg (by omega)]
        exact ⟨a, rfl, by omega⟩
    · right
      rw [br_dec, if_neg (by omega)]
      exact ⟨a, rfl, by omega⟩
  · right
    rw [br_dec, if_neg (by omega)]
    exact ⟨a, rfl, by omega⟩

theorem Proofs_true (n : Int) (l : List A5_Int) (wide : Bool) (a b : Int) (path : List Int) (set : Int) (hn : inI64 n) (hl : ∀ x ∈ l, A5ok x) (ha : inI64 a) (hb : inI64 b) (hp : ∀ x ∈ path, inI64 x) (hset : inI64 set) :
    clearwaylaw07_ForestProofs n l wide a b path set = some true := by
  obtain ⟨g, hm, hg, hs, hv, hpos⟩ := Made_eq (wide := wide) hn hl
  have hlen := hg.vlen
  unfold clearwaylaw07_ForestProofs
  rw [sane_eq, bd_s, show (!true) = false from rfl, br_f, hm, bd_s, pick7_eq ha (by omega), bd_s]
  obtain ⟨i, p, hi, hip⟩ := pick_get g.Vertices hpos a
  rw [hi, getR_s hip, pick7_eq hb (by omega), bd_s]
  obtain ⟨j, q, hj, hjq⟩ := pick_get g.Vertices hpos b
  rw [hj, getR_s hjq]
  have hP := hasV_of hip
  have hQ := hasV_of hjq
  rw [Connected_eq hg hs hv hP hQ, bd_s]
  have hsl := side_len hg p.ID
  obtain ⟨r0, h0, hr0⟩ := prf_l0 path set p.ID q.ID (rt g p.ID == rt g q.ID) g.Vertices g.Edges g.Depots hset hlen
  obtain ⟨r1, h1, hr1⟩ := prf_l1 path p.ID q.ID (rt g p.ID == rt g q.ID) g.Vertices g.Edges g.Depots r0 hp
  by_cases hr : rt g p.ID = rt g q.ID
  · obtain ⟨es, vs, hpath, hc⟩ := Path_eq hg hs hv hP hQ hr
    have hshort := hc.short hg
    have hcp : forest_CheckPath g p.ID q.ID es = some true := by
      rw [CheckPath_eq hg hs hv hP hQ es (by omega), decide_eq_true (by omega), (hc.way hg).walk hg]; simp
    have hcs : forest_CheckSide g p.ID q.ID (sideP g p.ID) = some false := by
      rw [CheckSide_eq hs hv hP hQ _ (by omega), side_yes hg hP hQ, beq_iff_eq.2 hr]; rfl
    have hco : forest_CheckSide g p.ID q.ID r0 = some false := by
      rw [CheckSide_eq hs hv hP hQ _ (by omega), side_no hg hP hQ hr]
    rw [beq_iff_eq.2 hr] at h0 h1 ⊢
    rw [hpath, bd_s, Side_eq hg hs hv hP, bd_s]
    show bd (forest_CheckPath g p.ID q.ID es) _ = _
    rw [hcp, bd_s]
    show bd (forest_CheckSide g p.ID q.ID (sideP g p.ID)) _ = _
    rw [hcs, bd_s]
    show bd (loopN fuel (clearwaylaw07_ForestProofs.l0 path set p.ID q.ID true g.Vertices g.Edges g.Depots) (0, [])) _ = _
    rw [h0, bd_s]
    show bd (loopN fuel (clearwaylaw07_ForestProofs.l1 path p.ID q.ID true g.Vertices g.Edges g.Depots r0) (0, [])) _ = _
    rw [h1, bd_s]
    show bd (forest_CheckSide g p.ID q.ID r0) _ = _
    rw [hco]; rfl
  · have hcs : forest_CheckSide g p.ID q.ID (sideP g p.ID) = some true := by
      rw [CheckSide_eq hs hv hP hQ _ (by omega), side_yes hg hP hQ, beq_eq_false_iff_ne.2 hr]; rfl
    have hcp : forest_CheckPath g p.ID q.ID r1 = some false := by
      rw [CheckPath_eq hg hs hv hP hQ r1 (by omega)]
      have : (walkB g p.ID r1 == some q.ID) = false := by
        rw [beq_eq_false_iff_ne]
        intro h
        exact hr (walkB_rt hg r1 hP h).symm
      rw [this, Bool.and_false]
    rw [beq_eq_false_iff_ne.2 hr] at h0 h1 ⊢
    rw [Path_no hg hs hv hP hQ hr, bd_s, Side_eq hg hs hv hP, bd_s]
    show bd (forest_CheckSide g p.ID q.ID (sideP g p.ID)) _ = _
    rw [hcs, bd_s]
    show bd (loopN fuel (clearwaylaw07_ForestProofs.l0 path set p.ID q.ID false g.Vertices g.Edges g.Depots) (0, [])) _ = _
    rw [h0, bd_s]
    show bd (loopN fuel (clearwaylaw07_ForestProofs.l1 path p.ID q.ID false g.Vertices g.Edges g.Depots r0) (0, [])) _ = _
    rw [h1, bd_s]
    show bd (forest_CheckPath g p.ID q.ID r1) _ = _
    rw [hcp]; rfl

end Go.Fw.Gen
