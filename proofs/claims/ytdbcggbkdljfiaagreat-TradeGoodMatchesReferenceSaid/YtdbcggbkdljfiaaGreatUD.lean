/- Trade: views of a graph, and labels of which a number is changed. -/
import Derived.Test.YtdbcggbkdljfiaaGreatUC
import Derived.Test.YtdbcggbkdljfiaaGreatTS
namespace Go.Fx.Gen
open Go.Fx Go.Proofs
set_option linter.unusedVariables false
namespace Trd
open Go.TT

/-- Labels of a size that machines have. -/
def LabOk (l : List Named) : Prop := l.length < 1000000000 ∧ ∀ x ∈ l, x.Label.length < 1000000000

theorem cast_eq3 {n : Nat} : (((n : Nat) : Int) == 3) = decide (n = 3) := by
  by_cases h : n = 3
  · subst h; rfl
  · rw [decide_eq_false h, beq_eq_false_iff_ne]; omega

/-! Count -/
theorem count_same {v : View} (hs : SmallV v) : ∃ n, (f12 v).run = some n ∧ (f13 v).run = some n := by
  have hsl := hs.l
  have val : ∀ x : Named, x.Label.length = 3 → ∃ a, gi x.Label (1 : Int) = some a := fun x h => by
    obtain ⟨a, _, a2⟩ := of3 h; exact ⟨a.x1, by rw [a2]; rfl⟩
  let ans : Named → Int := fun x => if x.Label.length = 3 then (if ((gi x.Label (1 : Int)).getD 0) ≥ 0 then 1 else 0) else 0
  have k1 : loopN fuel (fun s => (f12.l1 v s).run) (0 : Int) = _ := loop_find (l := v.Labels) (fun i : Nat => (i : Int)) (fun x => x.ID == v.Vertex.ID) (fun _ x => (.a (ans x) : Ex Int Unit Empty)) (.b ())
    (fun i x hi => by
      have hlt : i < v.Labels.length := (List.getElem?_eq_some_iff.1 hi).1
      simp only [f12.l1, r_brr, L_eq, cast_lt_t hlt, br_t, getR_s hi, succ_wr hlt (by omega), cast_eq3, r_ret]
      by_cases h1 : x.ID = v.Vertex.ID
      · rw [show (x.ID == v.Vertex.ID) = true by simp [h1], br_t, if_pos rfl]
        by_cases h2 : x.Label.length = 3
        · obtain ⟨a, ha⟩ := val x h2
          rw [decide_eq_true h2, br_t, r_getR, ha, bd_s, r_brr, br_dec]
          simp only [ans, h2, ha, if_true, Option.getD_some]
          split <;> rfl
        · rw [decide_eq_false h2, br_f]; simp only [ans, h2, if_false]
      · rw [show (x.ID == v.Vertex.ID) = false by simp [h1], br_f, if_neg (by simp)])
    (by simp only [f12.l1, r_brr, L_eq, cast_lt_f (Nat.lt_irrefl _), br_f, r_ret]) (k := fuel) (by have := fuel_pos; omega)
  have k2 : loopN fuel (fun s => (f13.l1 v s).run) (0 : Int) = _ := loop_find (l := v.Labels) (fun i : Nat => (i : Int)) (fun x => x.ID == v.Vertex.ID) (fun _ x => (.a (ans x) : Ex Int Unit Empty)) (.b ())
    (fun i x hi => by
      have hlt : i < v.Labels.length := (List.getElem?_eq_some_iff.1 hi).1
      simp only [f13.l1, r_brr, L_eq, cast_lt_t hlt, br_t, getR_s hi, succ_wr hlt (by omega), cast_eq3, r_ret]
      by_cases h1 : x.ID = v.Vertex.ID
      · rw [show (x.ID == v.Vertex.ID) = true by simp [h1], br_t, if_pos rfl]
        by_cases h2 : x.Label.length = 3
        · obtain ⟨a, ha⟩ := val x h2
          rw [decide_eq_true h2, br_t, r_getR, ha, bd_s, r_brr, br_dec]
          simp only [ans, h2, ha, if_true, Option.getD_some]
          split <;> rfl
        · rw [decide_eq_false h2, br_f]; simp only [ans, h2, if_false]
      · rw [show (x.ID == v.Vertex.ID) = false by simp [h1], br_f, if_neg (by simp)])
    (by simp only [f13.l1, r_brr, L_eq, cast_lt_f (Nat.lt_irrefl _), br_f, r_ret]) (k := fuel) (by have := fuel_pos; omega)
  simp only [f12, f13]
  rw [r_loop2, k1, bd_s, r_loop2, k2, bd_s]
  cases v.Labels.findIdx? fun x => x.ID == v.Vertex.ID with
  | none => exact ⟨_, rfl, rfl⟩
  | some i =>
    cases h : v.Labels[i]? with
    | none => simp only [h]; exact ⟨_, rfl, rfl⟩
    | some x => simp only [h]; exact ⟨_, rfl, rfl⟩

/-! A view, cut. -/
theorem cut_run (v : View) : ∃ w, (f10 v).run = some w ∧ SmallV w := by
  have key : ∀ (a n : Nat), (if (a : Int) < (n : Int) then (a : Int) else (n : Int)) = ((min a n : Nat) : Int) := by intro a n; split <;> omega
  have k6 : (if (6 : Int) < (v.Edges.length : Int) then (6 : Int) else (v.Edges.length : Int)) = _ := key 6 v.Edges.length
  simp only [f10, L_eq]
  rw [k6, r_cutHi, if_pos (by omega), bd_s, Int.toNat_natCast]
  have hl : (v.Edges.take (min 6 v.Edges.length)).length < 65536 := by simp; omega
  generalize v.Edges.take (min 6 v.Edges.length) = es at hl
  obtain ⟨q, hq, l, rfl, h1, h2⟩ := loop_of (f := fun s : Int × List Named => (f10.l1 v es s.1 s.2).run)
    (fun s => ∃ i : Nat, s.1 = (i : Int) ∧ i ≤ v.Labels.length ∧ i ≤ 6 ∧ s.2.length = i ∧ ∀ x ∈ s.2, x.Label.length < 1000000000)
    (fun q => ∃ l, q = .a l ∧ l.length < 1000000000 ∧ ∀ x ∈ l, x.Label.length < 1000000000) (fun s => 6 - s.1.toNat)
    (fun s hs => by
      obtain ⟨j, o⟩ := s
      obtain ⟨i, rfl, h1, h2, h3, h4⟩ := hs
      dsimp only at h3 h4 ⊢
      simp only [f10.l1, r_brr, L_eq]
      by_cases hlt : i < v.Labels.length ∧ i < 6
      · have hx := List.getElem?_eq_getElem hlt.1
        rw [decide_eq_true (show (i : Int) < (v.Labels.length : Int) by omega), decide_eq_true (show (i : Int) < 6 by omega), Bool.and_self, br_t]
        generalize v.Labels[i] = x at hx
        have k5 : (if (5 : Int) < (x.Label.length : Int) then (5 : Int) else (x.Label.length : Int)) = _ := key 5 x.Label.length
        rw [getR_s hx, getR_s hx, getR_s hx, k5, r_cutHi, if_pos (by omega), bd_s, ap_s (by rw [List.length_append]; simp; unfold bigLen; omega), r_ret, succ_wr hlt.2 (by omega)]
        refine .inl ⟨_, rfl, ⟨i + 1, rfl, by omega, by omega, by simp; omega, fun y hy => ?_⟩, by simp; omega⟩
        rcases List.mem_append.1 hy with h | h
        · exact h4 y h
        · have := List.mem_singleton.1 h
          subst this; simp; omega
      · rw [show (decide ((i : Int) < (v.Labels.length : Int)) && decide ((i : Int) < 6)) = false by rw [Bool.and_eq_false_iff, decide_eq_false_iff_not, decide_eq_false_iff_not]; omega, br_f, r_ret]
        exact .inr ⟨_, rfl, o, rfl, by omega, h4⟩)
    (k := fuel) (s := ((0 : Int), [])) ⟨0, rfl, by omega, by omega, rfl, by simp⟩ (by have := fuel_pos; simp; omega)
  rw [r_loop1, hq, bd_s, ex_a, r_ret]
  exact ⟨_, rfl, hl, h1, h2⟩

variable {g : Graph}

/-! The view of a vertex. -/
theorem at_run (hs : Small g) (x : Int) : ∃ l, (f44v1 g x).run = some l ∧ l.length ≤ g.Edges.length := by
  have hse := hs.e
  obtain ⟨q, hq, l, rfl, hl⟩ := loop_ix (A := List Edge) (f := fun s : Int × List Edge => (f44v1.l1 g x s.1 s.2).run) (n := g.Edges.length) (fun i a => ((i : Int), a)) (fun i a => a.length ≤ i) (fun q => ∃ l, q = .a l ∧ l.length ≤ g.Edges.length)
    (fun i a hi ha => by
      have hx := List.getElem?_eq_getElem hi
      generalize g.Edges[i] = e at hx
      simp only [f44v1.l1, r_brr, L_eq, cast_lt_t hi, br_t, getR_s hx, succ_wr hi (by omega), r_join1, r_ret]
      have hb : ∃ b, (br (e.From == x) (some (.a true)) (some (.a (e.To == x))) : Option (Ex Bool Empty Empty)) = some (.a b) := by
        cases (e.From == x) <;> exact ⟨_, rfl⟩
      obtain ⟨b, hb⟩ := hb
      rw [hb, bd_s, ex_a, ap_s (by rw [List.length_append]; simp; unfold bigLen; omega), r_ret]
      cases b with
      | true => rw [br_t]; exact .inl ⟨_, rfl, by simp; omega⟩
      | false => rw [br_f]; exact .inl ⟨_, rfl, by omega⟩)
    (fun a ha => ⟨.a a, by simp only [f44v1.l1, r_brr, L_eq, cast_lt_f (Nat.lt_irrefl _), br_f, r_ret], a, rfl, ha⟩)
    (k := fuel) (by have := fuel_pos; omega) (a := []) (by simp)
  simp only [f44v1]
  have hq : loopN fuel (fun s : Int × List Edge => (f44v1.l1 g x s.1 s.2).run) ((0 : Int), []) = _ := hq
  rw [r_loop1, hq, bd_s, ex_a, r_ret]
  exact ⟨l, rfl, hl⟩

theorem near_run {l : List Named} {es : List Edge} (he : es.length < 65536) {k : Nat} (hk : k < l.length) (b0 : Bool) :
    ∃ b, loopN fuel (fun s : Bool × Int => (f15v1.l1 l es (k : Int) s.1 s.2).run) (b0, (0 : Int)) = some (.a b) := by
  have hy := List.getElem?_eq_getElem hk
  obtain ⟨q, hq, b, rfl⟩ := loop_ix (A := Bool) (f := fun s : Bool × Int => (f15v1.l1 l es (k : Int) s.1 s.2).run) (n := es.length) (fun i a => (a, (i : Int))) (fun _ _ => True) (fun q => ∃ b, q = .a b)
    (fun i a hi _ => by
      have hx := List.getElem?_eq_getElem hi
      generalize es[i] = e at hx
      simp only [f15v1.l1, r_brr, L_eq, cast_lt_t hi, br_t, getR_s hx, getR_s hy, succ_wr hi (by omega), r_ret]
      cases a with
      | true => rw [br_t]; exact .inl ⟨_, rfl, trivial⟩
      | false =>
        rw [br_f]
        cases (e.From == l[k].ID) with
        | true => rw [br_t]; exact .inl ⟨_, rfl, trivial⟩
        | false => rw [br_f]; exact .inl ⟨_, rfl, trivial⟩)
    (fun a _ => ⟨.a a, by simp only [f15v1.l1, r_brr, L_eq, cast_lt_f (Nat.lt_irrefl _), br_f, r_ret], a, rfl⟩)
    (k := fuel) (by have := fuel_pos; omega) (a := b0) trivial
  exact ⟨b, hq⟩

theorem view_run (hs : Small g) (he : g.Edges.length < 65536) {l : List Named} (hl : LabOk l) (id : Int) : ∃ v, (f15v1 g l id).run = some v ∧ SmallV v := by
  have hsd := hs.d
  have hll := hl.1
  obtain ⟨es, e1, e2⟩ := at_run hs id
  obtain ⟨r, r1, r2⟩ := place_run hs id
  have hj : ∃ x, (brr (decide (r ≥ 0)) (getR g.Vertices r fun a7 => retA' (a7.ID, a7.Side)) (retA' (id, (0 : Int))) : Pg (Ex (Int × Int) Empty Empty)).run = some (.a x) := by
    rcases r2 with ⟨i, rfl, v, hv, _⟩ | ⟨rfl, _⟩
    · rw [r_brr, decide_eq_true (by omega), br_t, getR_s hv, r_ret]; exact ⟨_, rfl⟩
    · rw [r_brr, show decide ((-1 : Int) ≥ 0) = false from rfl, br_f, r_ret]; exact ⟨_, rfl⟩
  obtain ⟨x, hx⟩ := hj
  simp only [f15v1]
  rw [ap_s (by simp; unfold bigLen; omega), r_cl, e1, bd_s, r_cl, r1, bd_s, r_join1, hx, bd_s, ex_a]
  obtain ⟨q, hq, o, rfl, h1, h2⟩ := loop_ix (A := List Named) (f := fun s : Int × List Named => (f15v1.l2 l id ([] ++ g.Depots) es x s.1 s.2).run) (n := l.length) (fun i a => ((i : Int), a)) (fun i a => a.length ≤ i ∧ ∀ y ∈ a, y.Label.length < 1000000000)
    (fun q => ∃ o, q = .a o ∧ o.length < 1000000000 ∧ ∀ y ∈ o, y.Label.length < 1000000000)
    (fun i a hi ⟨h1, h2⟩ => by
      have hx := List.getElem?_eq_getElem hi
      have hm := hl.2 _ (List.getElem_mem hi)
      obtain ⟨b, hb⟩ := near_run (l := l) (es := es) (by omega) hi (l[i].ID == id)
      simp only [f15v1.l2, r_brr, L_eq, cast_lt_t hi, br_t, getR_s hx, succ_wr hi (by omega)]
      rw [r_loop1, hb, bd_s, ex_a]
      clear hb
      generalize l[i] = y at hm hx
      rw [r_brr]
      cases b with
      | true =>
        rw [br_t, getR_s hx, getR_s hx, ap_s (by rw [List.length_append]; simp; unfold bigLen; omega), ap_s (by rw [List.length_append]; simp; unfold bigLen; omega), r_ret]
        refine .inl ⟨_, rfl, by simp; omega, fun z hz => ?_⟩
        rcases List.mem_append.1 hz with h | h
        · exact h2 z h
        · have := List.mem_singleton.1 h
          subst this; simpa using hm
      | false => rw [br_f, r_ret]; exact .inl ⟨_, rfl, by omega, h2⟩)
    (fun a ⟨h1, h2⟩ => ⟨.a a, by simp only [f15v1.l2, r_brr, L_eq, cast_lt_f (Nat.lt_irrefl _), br_f, r_ret], a, rfl, by omega, h2⟩)
    (k := fuel) (by have := fuel_pos; omega) (a := []) ⟨by simp, by simp⟩
  have hq : loopN fuel (fun s : Int × List Named => (f15v1.l2 l id ([] ++ g.Depots) es x s.1 s.2).run) ((0 : Int), []) = _ := hq
  rw [r_loop1, hq, bd_s, ex_a, r_ret]
  exact ⟨_, rfl, by show es.length < 65536; omega, h1, h2⟩

/-! Labels of which one is changed. -/
theorem pick11 {c n : Int} (hn : n ≠ 0) : (f43 c n).run = some (pk c n) := by
  simp only [f43, r_brr, r_nzD, chk_t hn, bd_s, r_ret, br_dec]
  unfold pk; split <;> rfl

/-- Every label is a whole member of the family. -/
def Fits (M : List (List Int)) (o : List NamedR) : Prop := ∀ x ∈ o, ∃ l, M[x.Label.i]? = some l ∧ x.Label.off = 0 ∧ x.Label.len = l.length ∧ l.length < 1000000000

theorem named_ok {M : List (List Int)} : ∀ {o : List NamedR}, Fits M o → ∃ y, named M o = some y ∧ y.length = o.length ∧ ∀ z ∈ y, z.Label.length < 1000000000 := by
  intro o
  induction o with
  | nil => intro _; exact ⟨[], rfl, rfl, by simp⟩
  | cons x o ih =>
    intro h
    obtain ⟨y, h1, h2, h3⟩ := ih fun z hz => h z (List.mem_cons_of_mem _ hz)
    obtain ⟨l, l1, l2, l3, l4⟩ := h x List.mem_cons_self
    have : named1 M x = some ⟨x.ID, l⟩ := by
      unfold named1
      rw [l1, Option.bind_some, if_pos (by omega), l2, l3]; simp
    refine ⟨⟨x.ID, l⟩ :: y, ?_, by simp [h2], fun z hz => ?_⟩
    · have h1 : o.mapM (named1 M) = some y := h1
      unfold named
      rw [List.mapM_cons, this, h1]; rfl
    · rcases List.mem_cons.1 hz with rfl | hz
      · exact l4
      · exact h3 z hz

theorem fits_set {M : List (List Int)} {o : List NamedR} (h : Fits M o) {i : Nat} {l l' : List Int} (hi : M[i]? = some l) (hl : l'.length = l.length) : Fits (M.set i l') o := by
  intro x hx
  obtain ⟨m, m1, m2, m3, m4⟩ := h x hx
  by_cases e : x.Label.i = i
  · have : m = l := by rw [e, hi] at m1; exact (Option.some.inj m1).symm
    subst this
    refine ⟨l', ?_, m2, by omega, by omega⟩
    have hlt : i < M.length := (List.getElem?_eq_some_iff.1 hi).1
    rw [e, List.getElem?_set_self hlt]
  · exact ⟨m, by rw [List.getElem?_set_ne (Ne.symm e)]; exact m1, m2, m3, m4⟩

theorem splice_len {l p : List Int} {off n : Nat} (h : off + n ≤ l.length) (hp : p.length ≤ n) : (splice l off p).length = l.length := by
  unfold splice
  simp only [List.length_append, List.length_take, List.length_drop]
  omega

theorem bent_run {l : List Named} (hl : LabOk l) {a b c : Int} (ha : inI64 a) (hb : inI64 b) (hc : inI64 c) : ∃ y, (f14 l a b c).run = some y ∧ LabOk y := by
  have hll := hl.1
  letI : Fm := ⟨0⟩
  have done : ∀ {M : List (List Int)} {o : List NamedR} (m : Nat), o.length = l.length → Fits M o → ∃ y, (tellN m M o (fun y => .ret y) : Pg (List Named)).run = some y ∧ LabOk y := by
    intro M o m h1 h2
    obtain ⟨y, y1, y2, y3⟩ := named_ok h2
    exact ⟨y, by rw [tellN_s y1, r_ret], by omega, y3⟩
  show ∃ y, (f14.fm l a b c).run = some y ∧ LabOk y
  obtain ⟨q, hq, M, o, rfl, h1, h2⟩ := loop_ix (A := List (List Int) × List NamedR) (f := fun s : Int × List (List Int) × List NamedR => (f14.l1 l a b c s.1 s.2.1 s.2.2).run) (n := l.length) (fun i s => ((i : Int), s.1, s.2))
    (fun i s => s.1.length = i ∧ s.2.length = i ∧ Fits s.1 s.2) (fun q => ∃ M o, q = .a (M, o) ∧ o.length = l.length ∧ Fits M o)
    (fun i s hi ⟨h1, h2, h3⟩ => by
      obtain ⟨M, o⟩ := s
      dsimp only at h1 h2 h3 ⊢
      have hx := List.getElem?_eq_getElem hi
      have hm := hl.2 _ (List.getElem_mem hi)
      generalize l[i] = x at hx hm
      simp only [f14.l1, r_brr, L_eq, cast_lt_t hi, br_t, getR_s hx, succ_wr hi (by omega), r_apM]
      rw [if_pos (by simp; unfold bigLen; omega), bd_s, ap_s (by rw [List.length_append]; simp; unfold bigLen; omega), r_ret]
      refine .inl ⟨(_, _), rfl, by simp [h1], by simp [h2], fun z hz => ?_⟩
      rcases List.mem_append.1 hz with h | h
      · obtain ⟨m, m1, m2⟩ := h3 z h
        have hlt : z.Label.i < M.length := (List.getElem?_eq_some_iff.1 m1).1
        exact ⟨m, by rw [List.getElem?_append_left hlt]; exact m1, m2⟩
      · have := List.mem_singleton.1 h
        subst this
        refine ⟨x.Label, ?_, rfl, by simp, hm⟩
        simp)
    (fun s ⟨h1, h2, h3⟩ => ⟨.a s, by simp only [f14.l1, r_brr, L_eq, cast_lt_f (Nat.lt_irrefl _), br_f, r_ret], s.1, s.2, rfl, h2, h3⟩)
    (k := fuel) (by have := fuel_pos; omega) (a := ([], [])) ⟨rfl, rfl, by intro x hx; simp at hx⟩
  have hq : loopN fuel (fun s : Int × List (List Int) × List NamedR => (f14.l1 l a b c s.1 s.2.1 s.2.2).run) ((0 : Int), [], []) = _ := hq
  simp only [f14.fm]
  rw [r_loop1, hq, bd_s, ex_a, r_brr]
  dsimp only
  by_cases h0 : o.length = 0
  · rw [show ((L o : Int) == 0) = true by simp [L_eq, h0], br_t]; exact done _ h1 h2
  · rw [show ((L o : Int) == 0) = false by rw [beq_eq_false_iff_ne, L_eq]; omega, br_f, r_cl, pick11 (by rw [L_eq]; omega), bd_s]
    have hp := pk_range ha (n := (o.length : Int)) (by omega)
    obtain ⟨i, hi, hil⟩ : ∃ i : Nat, pk a (L o : Int) = (i : Int) ∧ i < o.length := ⟨(pk a (o.length : Int)).toNat, by rw [L_eq]; omega, by omega⟩
    have hox := List.getElem?_eq_getElem hil
    obtain ⟨m, m1, m2, m3, m4⟩ := h2 _ (List.getElem_mem hil)
    generalize o[i] = x at hox m1 m2 m3
    rw [hi, ck_t (by rw [L_eq]; omega), at0_nat, rd_s hox, r_brr]
    by_cases hz : x.Label.len = 0
    · rw [show ((x.Label.len : Int) == 0) = true by simp [hz], br_t]; exact done _ h1 h2
    · have hp2 := pk_range hb (n := (x.Label.len : Int)) (by omega)
      have hp3 := pk_range hc (n := 4) (by omega)
      obtain ⟨j, hj, hjl⟩ : ∃ j : Nat, pk b (x.Label.len : Int) = (j : Int) ∧ j < x.Label.len := ⟨(pk b (x.Label.len : Int)).toNat, by omega, by omega⟩
      have hj64 : inI64 (IntKind.i64.wrap (c.tdiv 4)) := by
        have h4 : c.tdiv 4 ≤ 9223372036854775807 ∧ -9223372036854775808 ≤ c.tdiv 4 := by
          unfold inI64 at hc
          by_cases h : 0 ≤ c
          · rw [Int.tdiv_eq_ediv_of_nonneg h]; omega
          · have := Int.tdiv_eq_ediv_of_nonneg (a := -c) (b := 4) (by omega)
            rw [Int.neg_tdiv] at this; omega
        rw [wr (by omega)]; unfold inI64; omega
      have hget : m[0 + j]? = some m[j]! := by
        rw [Nat.zero_add, List.getElem?_eq_getElem (by omega), List.getElem!_eq_getElem?_getD, List.getElem?_eq_getElem (by omega)]; rfl
      have set_done : ∀ (v : Int) (t : Nat), ∃ y, (stM M x.Label.i (x.Label.off + (j : Int).toNat) v (fun M => tellN t M o fun y => .ret y) : Pg (List Named)).run = some y ∧ LabOk y := by
        intro v t
        rw [r_stM, m1, m2, Int.toNat_natCast]
        show ∃ y, bd ((m[0 + j]?).map _) _ = some y ∧ _
        rw [hget]
        exact done t h1 (fits_set h2 m1 (by simp))
      rw [show ((x.Label.len : Int) == 0) = false by rw [beq_eq_false_iff_ne]; omega, br_f, rd_s hox, r_cl, pick11 (by omega), bd_s, r_cl, pick11 (by omega), bd_s, hj, r_brr]
      by_cases c0 : pk c 4 = 0
      · rw [show (pk c 4 == 0) = true by simp [c0], br_t, rd_s hox, rd_s hox, ck_t (by omega), r_rdM, m1, m2, Int.toNat_natCast]
        show ∃ y, bd ((m[0 + j]?).map _) _ = some y ∧ _
        rw [hget]
        show ∃ y, (cl (f43.ok _ (5 : Int)) _ : Pg (List Named)).run = some y ∧ _
        rw [r_cl, pick11 (by omega), bd_s, ck_t (by omega)]
        have := set_done (IntKind.i64.wrap ((IntKind.i64.wrap (m[j]! + pk (IntKind.i64.wrap (c.tdiv 4)) 5)) - 2)) 101
        rw [m2, Int.toNat_natCast] at this
        exact this
      · rw [show (pk c 4 == 0) = false by simp [c0], br_f, r_brr]
        by_cases c1 : pk c 4 = 1
        · rw [show (pk c 4 == 1) = true by simp [c1], br_t, rd_s hox, r_cl, pick11 (by omega), bd_s, ck_t (by omega)]
          exact set_done _ _
        · rw [show (pk c 4 == 1) = false by simp [c1], br_f, r_brr]
          by_cases c2 : pk c 4 = 2
          · have hp4 := pk_range hj64 (n := (l.length : Int)) (by omega)
            obtain ⟨k, hk, hkl⟩ : ∃ k : Nat, pk (IntKind.i64.wrap (c.tdiv 4)) (L l : Int) = (k : Int) ∧ k < l.length := ⟨(pk (IntKind.i64.wrap (c.tdiv 4)) (l.length : Int)).toNat, by rw [L_eq]; omega, by omega⟩
            rw [show (pk c 4 == 2) = true by simp [c2], br_t, rd_s hox, r_cl, pick11 (by rw [L_eq]; omega), bd_s, hk, getR_s (List.getElem?_eq_getElem hkl), r_cpM, m1]
            show ∃ y, bd (if x.Label.off + x.Label.len ≤ m.length then _ else none) _ = some y ∧ _
            rw [if_pos (by omega), bd_s]
            exact done _ h1 (fits_set h2 m1 (splice_len (n := x.Label.len) (by omega) (by simp; omega)))
          · rw [show (pk c 4 == 2) = false by simp [c2], br_f, r_brr]
            by_cases c3 : pk c 4 = 3
            · rw [show (pk c 4 == 3) = true by simp [c3], br_t, rd_s hox, ck_t (by omega)]
              exact set_done _ _
            · rw [show (pk c 4 == 3) = false by simp [c3], br_f]; exact done _ h1 h2
end Trd
end Go.Fx.Gen
