/- The law of the reference holds, in plain words: all functions agree. -/
import Derived.Test.YtpkjgdngkhnhpaaPX
namespace Go.Fw.Gen
open Go.Fw
theorem CheckPath3_eq {g : Graph} (hs : SmallG g) {a b : Int} (hab : (validP g && (hasV g a && hasV g b)) = true) (l : List Int) (hl : l.length ≤ 1000) :
  r7CheckPath g a b l = some (decide (l.length ≤ 40) && (walkB g a l == some b)) := by
 unfold r7CheckPath
 rw [ends_eq hs, bd_s, hab, show (!true) = false from rfl, br_f, br_dec]
 by_cases h40 : l.length ≤ 40
 ·rw [if_neg (by omega), decide_eq_true h40, Bool.true_and]
  have key : ∀ (m i k : Nat) (x : Int), i + m = l.length → m < k → loopN k (r7CheckPath.l0 b l g.Vertices g.Edges g.Depots) (x, (i : Int)) =
    some (match walkB g x (l.drop i) with | some y => .inr y | none => .inl ()) := by
   intro m
   induction m with
   | zero =>
    intro i k x hi hk
    cases k with
    | zero => omega
    | succ k =>
     have : i = l.length := by omega
     subst this
     simp only [loopN]
     rw [show r7CheckPath.l0 b l g.Vertices g.Edges g.Depots (x, ((l.length : Nat) : Int)) = some (.done (.inr x)) by
      unfold r7CheckPath.l0; rw [br_dec, if_neg (by simp only; omega)]]
     rw [List.drop_length]; rfl
   | succ m ih =>
    intro i k x hi hk
    cases k with
    | zero => omega
    | succ k =>
     have hx : l[i]? = some (l[i]'(by omega)) := by simp
     have hd : l.drop i = l[i]'(by omega) :: l.drop (i + 1) := List.drop_eq_getElem_cons (by omega)
     generalize l[i]'(by omega) = id at hx hd
     have e1 : IntKind.i64.wrap ((i : Int) + 1) = ((i + 1 : Nat) : Int) := by rw [wr]; omega
     have hstep : r7CheckPath.l0 b l g.Vertices g.Edges g.Depots (x, (i : Int)) = if stepP g x id < 0 then some (.done (.inl ())) else some (.cont (stepP g x id, ((i + 1 : Nat) : Int))) := by
      unfold r7CheckPath.l0
      rw [br_dec, if_pos (by simp only; omega)]
      simp only
      rw [getR_s hx]
      show bd (r3Find g id) _ = _
      rcases Find3_eq hs id with ⟨j, e, f1, f2, _, f4⟩ | ⟨f1, f4⟩
      ·rw [f1, bd_s, br_dec, if_neg (by omega), getR_s f2, Other3_eq, bd_s, getR_s f2, Other3_eq, bd_s, f4 x, br_dec, e1]
      ·rw [f1, bd_s, f4 x]; rfl
     simp only [loopN]
     rw [hstep, hd]
     unfold walkB
     by_cases hn : stepP g x id < 0
     ·rw [if_pos hn, if_pos hn]
     ·rw [if_neg hn, if_neg hn]
      exact ih (i + 1) k _ (by omega) (by omega)
  have := key l.length 0 fuel a (by omega) (by have := fuel_pos; omega)
  rw [show ((0 : Nat) : Int) = 0 from rfl] at this
  rw [this, bd_s, List.drop_zero]
  cases walkB g a l <;> rfl
 ·rw [if_pos (by omega), decide_eq_false h40]; rfl
structure Pair (g : Graph) (a b : Int) : Prop where
 con : ∃ r, forest_Connected g a b = some r ∧ r7Connected g a b = some r
 path : ∃ r, forest_Path g a b = some r ∧ r7Path g a b = some r ∧ r.1.length ≤ 500
 side : ∃ r, forest_Side g a = some r ∧ r7Side g a = some r ∧ r.1.length ≤ 500
 cp : ∀ l : List Int, l.length ≤ 500 → ∃ r, forest_CheckPath g a b l = some r ∧ r7CheckPath g a b l = some r
 cs : ∀ l : List Int, l.length ≤ 500 → ∃ r, forest_CheckSide g a b l = some r ∧ r7CheckSide g a b l = some r
theorem Labels_same {g : Graph} (hs : SmallG g) : ∃ q, forest_Labels g = some q ∧ r7Labels g = some q ∧ q.1.length ≤ 1000 ∧ ∀ l ∈ q.1, l.Label.length ≤ 1000 := by
 cases hv : validP g with
 | true =>
  have hg := VG_of hv
  have hl := hg.vlen
  exact ⟨_, Labels_eq hg hs hv, Labels3_eq hg hs hv, by simp only [labs_len]; omega, by intro l hl; obtain ⟨u, _, rfl⟩ := List.mem_map.1 hl; simp [lb]⟩
 | false =>
  refine ⟨([], 70), ?_, ?_, by simp, by simp⟩
  ·unfold forest_Labels
   rw [Valid_eq g hs, bd_s, hv]; rfl
  ·unfold r7Labels
   rw [Valid3_eq g hs, bd_s, hv]; rfl
theorem pair_all {g : Graph} (hs : SmallG g) (a b : Int) : Pair g a b := by
 have hcs : ∀ l : List Int, l.length ≤ 500 → ∃ r, forest_CheckSide g a b l = some r ∧ r7CheckSide g a b l = some r := by
  intro l hl
  refine ⟨_, ?_, CheckSide3_eq hs a b l hl⟩
  cases hab : (validP g && (hasV g a && hasV g b)) with
  | true =>
   have hab2 := hab
   simp only [Bool.and_eq_true] at hab2
   rw [CheckSide_eq hs hab2.1 hab2.2.1 hab2.2.2 l hl, Bool.true_and]
  | false =>
   unfold forest_CheckSide
   have h1 : ([a, b] ++ l).length ≤ 1000 := by simp; omega
   rw [gd_t (by unfold bigLen; omega), known_eq g hs _ h1, bd_s]
   have : (validP g && ([a, b] ++ l).all (hasV g)) = false := by
    simp only [List.cons_append, List.nil_append, List.all_cons]
    cases hv : validP g with
    | false => rfl
    | true =>
     rw [hv, Bool.true_and] at hab
     rw [← Bool.and_assoc (hasV g a), hab]; rfl
   rw [this]; rfl
 cases hab : (validP g && (hasV g a && hasV g b)) with
 | true =>
  have hab2 := hab
  simp only [Bool.and_eq_true] at hab2
  obtain ⟨hv, ha, hb⟩ := hab2
  have hg := VG_of hv
  have hsl := side_len hg a
  refine ⟨⟨_, Connected_eq hg hs hv ha hb, Connected3_eq hg hs hv ha hb⟩, ?_, ⟨_, Side_eq hg hs hv ha, Side3_eq hg hs hv ha, by simp only; omega⟩, fun l hl => ⟨_, CheckPath_eq hg hs hv ha hb l (by omega), CheckPath3_eq hs hab l (by omega)⟩, hcs⟩
  by_cases hr : rt g a = rt g b
  ·obtain ⟨es, vs, h1, h2⟩ := Path_eq hg hs hv ha hb hr
   have := h2.short hg
   exact ⟨_, h1, Path3_eq hg hs hv ha hb hr h2, by simp only; omega⟩
  ·exact ⟨_, Path_no hg hs hv ha hb hr, Path3_no2 hg hs hv ha hb hr, by simp⟩
 | false =>
  obtain ⟨q, _, hq, _⟩ := Labels_same hs
  refine ⟨⟨_, Connected_no hs hab, Connected3_no hs hab⟩, ⟨_, Path_no2 hs hab, Path3_no hs hab ⟨q, hq⟩, by simp⟩, ?_, fun l hl => ⟨false, ?_, ?_⟩, hcs⟩
  ·cases hva : (validP g && hasV g a) with
   | false => exact ⟨_, Side_no hs hva, Side3_no hs hva, by simp⟩
   | true =>
    have hva2 := hva
    simp only [Bool.and_eq_true] at hva2
    have hg := VG_of hva2.1
    have hsl := side_len hg a
    exact ⟨_, Side_eq hg hs hva2.1 hva2.2, Side3_eq hg hs hva2.1 hva2.2, by simp only; omega⟩
  ·unfold forest_CheckPath
   rw [known_eq g hs _ (by simp), bd_s]
   simp only [List.all_cons, List.all_nil, Bool.and_true, hab]
   rfl
  ·unfold r7CheckPath
   rw [ends_eq hs, bd_s, hab]; rfl
theorem mat_l0 {g : Graph} (hs : SmallG g) (a b : Int) (ms : List (List Int)) (hm : ms.length ≤ 10) (hml : ∀ m ∈ ms, m.length ≤ 500)
  (p1 p2 : Int) (p3 p4 : List Int) (p5 : List A3_Int) (p6 : List Named) (p7 : List Int) (p8 p9 p10 p11 p13 p14 : Int) (p15 : List Int) (p16 : List Edge) (p17 : List Named) (p18 : List Graph) (p19 : List A2_Int) :
  loopN fuel (w7ForestMatchesReference.l0 p1 p2 p3 p4 p5 p6 p7 p8 p9 p10 p11 ((ms.length : Nat) : Int) p13 p14 p15 p16 p17 g.Vertices g.Edges g.Depots a b p18 p19 ms) 0 = some (.inr ()) := by
 refine all_loop ms (by omega) (fun i => (i : Int)) _ _ ?_ ?_
 ·intro i m hi hx
  have e1 : IntKind.i64.wrap ((i : Int) + 1) = ((i + 1 : Nat) : Int) := by rw [wr]; omega
  obtain ⟨r, r1, r2⟩ := (pair_all hs a b).cp m (hml m (List.mem_of_getElem? hx))
  unfold w7ForestMatchesReference.l0
  rw [br_dec, if_pos (by omega), gd_t (by omega), Int.toNat_natCast, Nat.zero_add, hx, bd_s]
  show bd (forest_CheckPath g a b m) _ = _
  rw [r1, bd_s]
  show bd (r7CheckPath g a b m) _ = _
  rw [r2, bd_s, beq_self_eq_true, e1]; rfl
 ·unfold w7ForestMatchesReference.l0
  rw [br_dec, if_neg (by omega)]
theorem mat_l1 {g : Graph} (hs : SmallG g) (a b : Int) (ms : List (List Int)) (hm : ms.length ≤ 10) (hml : ∀ m ∈ ms, m.length ≤ 500)
  (p1 p2 : Int) (p3 p4 : List Int) (p5 : List A3_Int) (p6 : List Named) (p8 p9 p10 p11 p13 p14 : Int) (p15 : List Int) (p16 : List Edge) (p17 : List Named) (p18 : List Graph) (p19 : List A2_Int) :
  loopN fuel (w7ForestMatchesReference.l1 p1 p2 p3 p4 p5 p6 p8 p9 p10 p11 ((ms.length : Nat) : Int) p13 p14 p15 p16 p17 g.Vertices g.Edges g.Depots a b p18 p19 ms) 0 = some (.inr ()) := by
 refine all_loop ms (by omega) (fun i => (i : Int)) _ _ ?_ ?_
 ·intro i m hi hx
  have e1 : IntKind.i64.wrap ((i : Int) + 1) = ((i + 1 : Nat) : Int) := by rw [wr]; omega
  obtain ⟨r, r1, r2⟩ := (pair_all hs a b).cs m (hml m (List.mem_of_getElem? hx))
  unfold w7ForestMatchesReference.l1
  rw [br_dec, if_pos (by omega), gd_t (by omega), Int.toNat_natCast, Nat.zero_add, hx, bd_s]
  show bd (forest_CheckSide g a b m) _ = _
  rw [r1, bd_s]
  show bd (r7CheckSide g a b m) _ = _
  rw [r2, bd_s, beq_self_eq_true, e1]; rfl
 ·unfold w7ForestMatchesReference.l1
  rw [br_dec, if_neg (by omega)]
theorem mat_l2 {g : Graph} (hs : SmallG g) (ts : List A2_Int) (ht : ts.length ≤ 10)
  (p1 p2 : Int) (path side : List Int) (p5 : List A3_Int) (p6 : List Named) (p8 p9 p11 p12 : Int) (p15 : List Int) (p16 : List Edge) (p17 : List Named) (p18 : List Graph) :
  loopN fuel (w7ForestMatchesReference.l2 p1 p2 path side p5 p6 p8 p9 ((ts.length : Nat) : Int) p11 p12 p15 p16 p17 g.Vertices g.Edges g.Depots p18 ts) 0 = some (.inr (.inr (.inr ()))) := by
 refine all_loop ts (by omega) (fun i => (i : Int)) _ _ ?_ ?_
 ·intro i t hi hx
  have e1 : IntKind.i64.wrap ((i : Int) + 1) = ((i + 1 : Nat) : Int) := by rw [wr]; omega
  obtain ⟨⟨c, c1, c2⟩, ⟨q, q1, q2, q3⟩, ⟨d, d1, d2, d3⟩, _, _⟩ := pair_all hs t.x0 t.x1
  have m1 := min_if 12 (by omega) path.length
  have m2 := min_if 12 (by omega) side.length
  unfold w7ForestMatchesReference.l2
  rw [br_dec, if_pos (by omega), gd_t (by omega), Int.toNat_natCast, Nat.zero_add, hx, bd_s]
  show bd (forest_Connected g t.x0 t.x1) (fun y69 => bd (r7Connected g t.x0 t.x1) fun y71 => bd (forest_Path g t.x0 t.x1) fun y73 => bd (r7Path g t.x0 t.x1) fun y75 => bd (forest_Side g t.x0) fun y77 => bd (r7Side g t.x0) _) = _
  rw [c1, bd_s, c2, bd_s, q1, bd_s, q2, bd_s, d1, bd_s, d2, bd_s, beq_self_eq_true, show (!true) = false from rfl, br_f, show (c.2 != c.2) = false by simp, br_f, show (q.2 != q.2) = false by simp, br_f, show (d.2 != d.2) = false by simp, br_f,
   Ints_self _ (by omega), bd_s, show (!true) = false from rfl, br_f, Ints_self _ (by omega), bd_s, show (!true) = false from rfl, br_f]
  simp only [List.length_map]
  rw [gd_t m1.1, gd_t m1.2.1]
  have l0 := mat_l0 hs t.x0 t.x1 [path.take (if (12 : Int) < ((path.length : Nat) : Int) then 12 else ((path.length : Nat) : Int)).toNat, q.1, []] (by simp) (by
   intro m hm
   simp only [List.mem_cons, List.not_mem_nil, or_false] at hm
   rcases hm with rfl | rfl | rfl
   ·rw [List.length_take]; omega
   ·exact q3
   ·simp)
  have l1 := mat_l1 hs t.x0 t.x1 [side.take (if (12 : Int) < ((side.length : Nat) : Int) then 12 else ((side.length : Nat) : Int)).toNat, d.1] (by simp) (by
   intro m hm
   simp only [List.mem_cons, List.not_mem_nil, or_false] at hm
   rcases hm with rfl | rfl
   ·rw [List.length_take]; omega
   ·exact d3)
  simp only [List.length_cons, List.length_nil, Nat.zero_add] at l0 l1
  rw [l0, bd_s]
  simp only
  rw [gd_t m2.1, gd_t m2.2.1, l1, bd_s, e1]
 ·unfold w7ForestMatchesReference.l2
  rw [br_dec, if_neg (by omega)]
theorem mat_l3 (vs : List View) (hv : vs.length ≤ 10) (hvv : ∀ v ∈ vs, v.Labels.length ≤ 1000 ∧ v.Edges.length ≤ 1000)
  (p1 p2 : Int) (p3 p4 : List Int) (p5 : List A3_Int) (p6 p7 p9 p10 : Int) (p11 : List Int) (p12 : List Edge) (p13 : List Named) (p14 : List Graph) :
  loopN fuel (w7ForestMatchesReference.l3 p1 p2 p3 p4 p5 p6 p7 ((vs.length : Nat) : Int) p9 p10 p11 p12 p13 p14 vs) 0 = some (.inr ()) := by
 refine all_loop vs (by omega) (fun i => (i : Int)) _ _ ?_ ?_
 ·intro i v hi hx
  have e1 : IntKind.i64.wrap ((i : Int) + 1) = ((i + 1 : Nat) : Int) := by rw [wr]; omega
  obtain ⟨h1, h2⟩ := hvv v (List.mem_of_getElem? hx)
  obtain ⟨r, r1, r2⟩ := Good_same v h1 h2
  obtain ⟨n, n1, n2⟩ := Count_same v h1
  unfold w7ForestMatchesReference.l3
  rw [br_dec, if_pos (by omega), gd_t (by omega), Int.toNat_natCast, Nat.zero_add, hx, bd_s, r1, bd_s, r2, bd_s, beq_self_eq_true, show (!true) = false from rfl, br_f, n1, bd_s, n2, bd_s, show (n != n) = false by simp, br_f, e1]
 ·unfold w7ForestMatchesReference.l3
  rw [br_dec, if_neg (by omega)]
theorem Matches_true (n : Int) (l : List A5_Int) (wide : Bool) (raw : Graph) (a b : Int) (path side : List Int) (x : List A3_Int) (v : View) (hn : inI64 n) (hl : ∀ x ∈ l, A5ok x) (ha : inI64 a) (hb : inI64 b) (hx : ∀ y ∈ x, A3ok y) :
  w7ForestMatchesReference n l wide raw a b path side x v = some true := by
 obtain ⟨g, hm, hg, hs, hv, hpos⟩ := Made_eq (wide := wide) hn hl
 obtain ⟨h, hf, hfs⟩ := few_eq raw
 unfold w7ForestMatchesReference
 rw [sane_eq, bd_s, show (!true) = false from rfl, br_f, hm, bd_s, hf, bd_s]
 have main : loopN fuel (w7ForestMatchesReference.l4 a b path side x ((2 : Nat) : Int) v.Vertex.ID v.Vertex.Side v.Depots v.Edges v.Labels [g, h]) 0 = some (.inr (.inr (.inr (.inr (.inr ()))))) := by
  refine all_loop [g, h] (by simp) (fun i => (i : Int)) _ _ ?_ ?_
  ·intro i y hi hy
   have hys : SmallG y := by
    have := List.mem_of_getElem? hy
    simp only [List.mem_cons, List.not_mem_nil, or_false] at this
    rcases this with rfl | rfl
    ·exact hs
    ·exact hfs
   simp only [List.length_cons, List.length_nil] at hi
   have e1 : IntKind.i64.wrap ((i : Int) + 1) = ((i + 1 : Nat) : Int) := by rw [wr]; omega
   obtain ⟨q, q1, q2, q3, q4⟩ := Labels_same hys
   obtain ⟨w, w1, w2, w3⟩ := short_eq v
   obtain ⟨u, u1, u2, u3⟩ := View_ex hys q.1 q3 q4 (pickZ a 10)
   obtain ⟨B, b1, b2, b3⟩ := Bent_ex q.1 x hx q3 q4
   obtain ⟨z, z1, z2, z3⟩ := View_ex hys B b2 b3 (pickZ a 10)
   have l2 := mat_l2 hys [A2_Int.mk a b, A2_Int.mk (pickZ a 10) (pickZ b 10)] (by simp) a b path side x q.1 ((2 : Nat) : Int) (i : Int) v.Vertex.ID v.Vertex.Side v.Depots v.Edges v.Labels [g, h]
   have l3 := mat_l3 [w, u, z] (by simp) (by
    intro k hk
    simp only [List.mem_cons, List.not_mem_nil, or_false] at hk
    rcases hk with rfl | rfl | rfl
    ·exact ⟨w2, w3⟩
    ·exact ⟨u2, u3⟩
    ·exact ⟨z2, z3⟩) a b path side x ((2 : Nat) : Int) (i : Int) v.Vertex.ID v.Vertex.Side v.Depots v.Edges v.Labels [g, h]
   simp only [List.length_cons, List.length_nil, Nat.zero_add] at l2 l3
   unfold w7ForestMatchesReference.l4
   rw [br_dec, if_pos (by omega), gd_t (by simp only [List.length_cons, List.length_nil]; omega), Int.toNat_natCast, Nat.zero_add, hy, bd_s, q1, bd_s, q2, bd_s, show (q.2 != q.2) = false by simp, br_f,
    Same_self _ (by omega) (fun k hk => by have := q4 k hk; omega), bd_s, show (!true) = false from rfl, br_f, pick7_eq ha (by decide), bd_s, pick7_eq hb (by decide), bd_s, l2, bd_s]
   simp only
   rw [w1, bd_s, bd_s, u1, bd_s, b1, bd_s, bd_s, z1, bd_s, l3, bd_s, e1]
  ·unfold w7ForestMatchesReference.l4
   rfl
 rw [main, bd_s]
end Go.Fw.Gen
