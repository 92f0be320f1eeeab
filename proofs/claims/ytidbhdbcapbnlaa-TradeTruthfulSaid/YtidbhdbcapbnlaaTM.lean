/- The law TradeCore: whatever the integers, the program answers true. -/
import Derived.Test.YtidbhdbcapbnlaaTK
namespace Go.Fx.Gen
open Go.Fx Go.Proofs
set_option linter.unusedVariables false
namespace Trd
open Go.TT
variable {g : Graph} {N : Nat} {rx ex nn : Int → Int}

/-- What the traders of a set get among themselves. -/
structure Dealt (g : Graph) (B : Nat → Bool) (P : List Int) (mu ed : Int → Int) : Prop where
  in_ : ∀ u ∈ P, mu u ∈ trd g ∧ B (mu u).toNat = true
  inj : ∀ u ∈ P, ∀ w ∈ P, mu u = mu w → u = w
  way : ∀ u ∈ P, (ed u = -1 ∧ mu u = u) ∨ ∃ e ∈ row (wsh g) u, ed u = e.ID ∧ mu u = e.To

theorem Leaves.exle (H : Ready g) {r : Nat} {v : Int} (L : Leaves g rx ex r v) : plc g v (ex v) ≤ g.Edges.length := by
  rcases L.way with ⟨e, he, h1⟩ | ⟨_, h1⟩
  · rw [h1]; obtain ⟨i, h, _, h2⟩ := plc_mem H L.mem (fst_mem he).1; omega
  · rw [h1, plc_alone]; omega

/-- Whoever gets what it does not like less, gets it from one who left not later. -/
theorem not_later (H : Ready g) (O : Out g N rx ex nn) {u m d : Int} (hu : u ∈ trd g) (hw : (d = -1 ∧ m = u) ∨ ∃ e ∈ row (wsh g) u, d = e.ID ∧ m = e.To) (hl : ¬ plc g u (ex u) < plc g u d) :
    rx m ≤ rx u ∧ (plc g u d < plc g u (ex u) → rx m < rx u) := by
  obtain ⟨r, L⟩ := leaves_of O hu
  rcases hw with ⟨rfl, rfl⟩ | ⟨e, he, rfl, rfl⟩
  · exact ⟨by omega, fun h => by have := L.exle H; rw [plc_alone] at h; omega⟩
  · by_cases hlt : plc g u e.ID < plc g u (ex u)
    · have hb := L.before H he hlt
      have ht : e.To ∈ trd g := ((mem_row H hu).1 he).2.2.2.2
      obtain ⟨s, Ls, hs⟩ := left_before ht hb O
      have h1 := L.rx
      have h2 := Ls.rx
      exact ⟨by omega, fun _ => by omega⟩
    · refine ⟨?_, fun h => absurd h hlt⟩
      have heq : plc g u e.ID = plc g u (ex u) := by omega
      obtain ⟨i, i1, i2, i3⟩ := plc_mem H hu he
      rcases L.ex_cases H with ⟨h, _⟩ | ⟨_, e', he', h1, h2, _⟩
      · rw [h, plc_alone, i1] at heq; omega
      · obtain ⟨j, j1, j2, j3⟩ := plc_mem H hu he'
        rw [h1, i1, j1] at heq
        have : i = j := by omega
        subst this
        rw [i2] at j2
        cases j2
        rw [← h2, (tg_mem O hu).2]
        omega

theorem no_gain (H : Ready g) (O : Out g N rx ex nn) {B : Nat → Bool} {P : List Int} {mu ed : Int → Int} (hP : P.Nodup) (ht : ∀ u ∈ P, u ∈ trd g) (hB : ∀ x ∈ trd g, B x.toNat = true → x ∈ P)
    (D : Dealt g B P mu ed) (hl : ∀ u ∈ P, ¬ plc g u (ex u) < plc g u (ed u)) : ∀ u ∈ P, ¬ plc g u (ed u) < plc g u (ex u) := by
  intro w hw hlt
  have nl : ∀ u ∈ P, _ := fun u hu => not_later H O (ht u hu) (D.way u hu) (hl u hu)
  have hstrict := (nl w hw).2 hlt
  have hin : ∀ u ∈ P, mu u ∈ P := fun u hu => hB _ (D.in_ u hu).1 (D.in_ u hu).2
  have hQn : (w :: P.filter fun x => decide (rx x ≤ rx (mu w))).Nodup := by
    rw [List.nodup_cons]
    refine ⟨?_, hP.sublist (List.filter_sublist ..)⟩
    intro h
    have := (List.mem_filter.1 h).2
    have := of_decide_eq_true this
    omega
  have hQs : ∀ x ∈ (w :: P.filter fun x => decide (rx x ≤ rx (mu w))), x ∈ P ∧ (x = w ∨ rx x ≤ rx (mu w)) := by
    intro x hx
    rcases List.mem_cons.1 hx with rfl | hx
    · exact ⟨hw, .inl rfl⟩
    · have := List.mem_filter.1 hx
      exact ⟨this.1, .inr (of_decide_eq_true this.2)⟩
  have h1 : ((w :: P.filter fun x => decide (rx x ≤ rx (mu w))).map mu).Nodup := by
    rw [List.nodup_iff_pairwise_ne, List.pairwise_map]
    rw [List.nodup_iff_pairwise_ne] at hQn
    exact hQn.imp_of_mem fun {a b} ha hb hab h => hab (D.inj _ (hQs a ha).1 _ (hQs b hb).1 h)
  have h2 := nodup_le (s := P.filter fun x => decide (rx x ≤ rx (mu w))) h1 (by
    intro y hy
    obtain ⟨x, hx, rfl⟩ := List.mem_map.1 hy
    obtain ⟨x1, x2⟩ := hQs x hx
    refine List.mem_filter.2 ⟨hin x x1, decide_eq_true ?_⟩
    rcases x2 with rfl | x2
    · omega
    · have := (nl x x1).1; omega)
  simp at h2
  omega

/-! The walk. -/
theorem inset_run (H : Ready g) {p4 : Int} (h4 : inI64 p4) : ∃ B : Nat → Bool, loopN fuel (fun s : Int × List Bool => (f5.l1 p4 g s.1 s.2).run) ((0 : Int), List.replicate 24 false) = some (.a (tab24 B)) ∧ ∀ x : Nat, B x = true → (x : Int) ∈ trd g := by
  have hsv := H.small.v
  obtain ⟨q, hq, B, rfl, hB⟩ := loop_ix (A := List Bool) (f := fun s : Int × List Bool => (f5.l1 p4 g s.1 s.2).run) (n := g.Vertices.length) (fun i a => ((i : Int), a))
    (fun i a => ∃ B : Nat → Bool, a = tab24 B ∧ ∀ x : Nat, B x = true → (x : Int) ∈ trd g) (fun q => ∃ B : Nat → Bool, q = .a (tab24 B) ∧ ∀ x : Nat, B x = true → (x : Int) ∈ trd g)
    (fun i a hi ⟨B, ha, hB⟩ => by
      subst ha
      have hx := List.getElem?_eq_getElem hi
      have hm : g.Vertices[i] ∈ g.Vertices := List.getElem_mem hi
      generalize g.Vertices[i] = v at hx hm
      have hid := (H.gv.v _ hm).id
      have gB : (tab24 B)[v.ID.toNat]? = some (B v.ID.toNat) := tab_get _ (by omega)
      have key : ∀ b : Bool, (b = true → v.Side = 3) → ∃ B' : Nat → Bool, (tab24 B).set v.ID.toNat b = tab24 B' ∧ ∀ x : Nat, B' x = true → (x : Int) ∈ trd g := by
        intro b hb
        refine ⟨fun x => if x = v.ID.toNat then b else B x, tab_set fun j hj => rfl, fun x hx => ?_⟩
        by_cases e : x = v.ID.toNat
        · simp only [if_pos e] at hx
          exact mem_trs.2 ⟨v, hm, hb hx, by omega⟩
        · simp only [if_neg e] at hx; exact hB x hx
      simp only [f5.l1, r_brr, L_eq, cast_lt_t hi, br_t, getR_s hx, succ_wr hi (by omega)]
      by_cases h3 : v.Side = 3
      · have e1 : (v.Side == 3) = true := by simp [h3]
        rw [e1, br_t, r_cl, pick18 (by omega), bd_s, r_nnS, chk_t (by omega), bd_s, ck_t (by omega), st_s gB, r_ret]
        obtain ⟨B', k1, k2⟩ := key _ (fun _ => h3)
        rw [k1]
        exact .inl ⟨_, rfl, B', rfl, k2⟩
      · have e1 : (v.Side == 3) = false := by simp [h3]
        rw [e1, br_f, ck_t (by omega), st_s gB, r_ret]
        obtain ⟨B', k1, k2⟩ := key false (fun h => by cases h)
        rw [k1]
        exact .inl ⟨_, rfl, B', rfl, k2⟩)
    (fun a ⟨B, ha, hB⟩ => by
      subst ha
      exact ⟨.a (tab24 B), by simp only [f5.l1, r_brr, L_eq, cast_lt_f (Nat.lt_irrefl _), br_f, r_ret], B, rfl, hB⟩)
    (k := fuel) (by have := fuel_pos; omega) (a := List.replicate 24 false) ⟨fun _ => false, tab_rep _, by simp⟩
  exact ⟨B, hq, hB⟩

theorem free_run (H : Ready g) (p5 : List Int) (y8 : List Int × List Int × Bool) (B T : Nat → Bool) (a1 a2 : Bool) (i0 : Int) (v : Vertex) (hv : v.ID ∈ trd g) :
    ∃ l, loopN fuel (fun s : Int × List Edge => (f5.l2 p5 true g y8 (tab24 B) a1 a2 i0 (tab24 T) v (rw_ g v.ID) s.1 s.2).run) ((0 : Int), ([] : List Edge)) = some (.a l) ∧
      l.length ≤ 65536 ∧ ∀ e ∈ l, e ∈ rw_ g v.ID ∧ B e.To.toNat = true ∧ T e.To.toNat = false := by
  have hlen : (rw_ g v.ID).length ≤ 65536 := Nat.le_trans (List.length_filter_le ..) (by have := H.e; omega)
  obtain ⟨q, hq, l, rfl, hl⟩ := loop_ix (A := List Edge) (f := fun s : Int × List Edge => (f5.l2 p5 true g y8 (tab24 B) a1 a2 i0 (tab24 T) v (rw_ g v.ID) s.1 s.2).run) (n := (rw_ g v.ID).length) (fun i a => ((i : Int), a))
    (fun i a => a.length ≤ i ∧ ∀ e ∈ a, e ∈ rw_ g v.ID ∧ B e.To.toNat = true ∧ T e.To.toNat = false)
    (fun q => ∃ l, q = .a l ∧ l.length ≤ 65536 ∧ ∀ e ∈ l, e ∈ rw_ g v.ID ∧ B e.To.toNat = true ∧ T e.To.toNat = false)
    (fun i a hi ⟨ha, hb⟩ => by
      have hx := List.getElem?_eq_getElem hi
      have hm : (rw_ g v.ID)[i] ∈ rw_ g v.ID := List.getElem_mem hi
      generalize (rw_ g v.ID)[i] = e at hx hm
      have hto : e.To ∈ trd g := (mem_rw.1 hm).2.2.2.2
      have htr := trd_range H.gv hto
      have gB : (tab24 B)[e.To.toNat]? = some (B e.To.toNat) := tab_get _ (by omega)
      have gT : (tab24 T)[e.To.toNat]? = some (T e.To.toNat) := tab_get _ (by omega)
      simp only [f5.l2, r_join1, r_brr, L_eq, cast_lt_t hi, br_t, getR_s hx, succ_wr hi (by omega)]
      rw [ck_t (by omega), rd_s gB, r_brr]
      cases h1 : B e.To.toNat with
      | false => rw [br_f, r_ret, bd_s, ex_a, br_f, r_ret]; exact .inl ⟨a, rfl, by omega, hb⟩
      | true =>
        rw [br_t, getR_s hx, ck_t (by omega), rd_s gT, r_ret, bd_s, ex_a]
        cases h2 : T e.To.toNat with
        | true => rw [Bool.not_true, br_f, r_ret]; exact .inl ⟨a, rfl, by omega, hb⟩
        | false =>
          rw [Bool.not_false, br_t, ap_s (by rw [List.length_append]; simp; unfold bigLen; omega), r_ret]
          refine .inl ⟨a ++ [e], rfl, by simp; omega, fun e' he' => ?_⟩
          rcases List.mem_append.1 he' with h | h
          · exact hb e' h
          · rw [List.mem_singleton.1 h]; exact ⟨hm, h1, h2⟩)
    (fun a ⟨ha, hb⟩ => ⟨.a a, by simp only [f5.l2, r_brr, L_eq, cast_lt_f (Nat.lt_irrefl _), br_f, r_ret], a, rfl, by omega, hb⟩)
    (k := fuel) (by have := fuel_pos; omega) (a := []) ⟨by simp, by simp⟩
  exact ⟨l, hq, hl⟩

/-- What one trader of the set is given. -/
structure Gets (g : Graph) (B T : Nat → Bool) (v d m : Int) : Prop where
  way : (d = -1 ∧ m = v) ∨ ∃ e ∈ row (wsh g) v, d = e.ID ∧ m = e.To
  tr : m ∈ trd g
  b : B m.toNat = true
  t : T m.toNat = false

theorem choice_run (H : Ready g) {B T : Nat → Bool} {v : Vertex} (hv : v.ID ∈ trd g) (hB : B v.ID.toNat = true) {l : List Edge} (hl : l.length ≤ 65536) (hm : ∀ e ∈ l, e ∈ rw_ g v.ID ∧ B e.To.toNat = true ∧ T e.To.toNat = false)
    {c : Int} (hc : 0 ≤ c ∧ c < 1000) {b : Bool} (hb : b = true → 0 < l.length) {q : Option (Ex Bool (Int × List Bool) Empty)}
    (hq : q = (brr b (nzD (L l : Int) <| ck ((IntKind.i64.wrap (c.tdiv 5)).tmod (L l : Int)) (L l) <| rd l (at0 ((IntKind.i64.wrap (c.tdiv 5)).tmod (L l : Int))) fun a121 => ck a121.To 24 <|
      st (tab24 T) a121.To.toNat (fun _ => true) fun l123 => retB' (a121.ID, l123)) (ck v.ID 24 <| rd (tab24 T) v.ID.toNat fun a124 => brr a124 (retA' true) (ck v.ID 24 <| st (tab24 T) v.ID.toNat (fun _ => true) fun l126 => retB' (((-1) : Int), l126))) : Pg (Ex Bool (Int × List Bool) Empty)).run) :
    q = some (.a true) ∨ ∃ d m, Gets g B T v.ID d m ∧ q = some (.b (d, tab24 fun x => if x = m.toNat then true else T x)) := by
  have hr := trd_range H.gv hv
  subst hq
  rw [r_brr]
  cases b with
  | true =>
    have h0 := hb rfl
    have w : IntKind.i64.wrap (c.tdiv 5) = c.tdiv 5 := by
      have := Int.tdiv_eq_ediv_of_nonneg hc.1 (b := 5)
      exact wr
    have hn := Int.tdiv_nonneg hc.1 (show (0 : Int) ≤ 5 by omega)
    have hn2 := Int.tmod_nonneg (l.length : Int) hn
    have hn3 := Int.tmod_lt_of_pos (c.tdiv 5) (show (0 : Int) < (l.length : Int) by omega)
    rw [br_t, r_nzD, L_eq, chk_t (by omega), bd_s, w, ck_t ⟨hn2, hn3⟩]
    obtain ⟨j, hj⟩ : ∃ j : Nat, (c.tdiv 5).tmod (l.length : Int) = (j : Int) := ⟨((c.tdiv 5).tmod (l.length : Int)).toNat, by omega⟩
    have hjl : j < l.length := by omega
    rw [hj, at0_nat, rd_s (List.getElem?_eq_getElem hjl)]
    have hme := hm _ (List.getElem_mem hjl)
    generalize l[j] = e at hme
    obtain ⟨m1, m2, m3⟩ := hme
    have hto : e.To ∈ trd g := (mem_rw.1 m1).2.2.2.2
    have htr := trd_range H.gv hto
    have gT : (tab24 T)[e.To.toNat]? = some (T e.To.toNat) := tab_get _ (by omega)
    rw [ck_t (by omega), st_s gT, r_ret, tab_set (g := fun x => if x = e.To.toNat then true else T x) fun j _ => rfl]
    exact .inr ⟨e.ID, e.To, ⟨.inr ⟨e, (mem_rw_row H hv).1 m1, rfl, rfl⟩, hto, m2, m3⟩, rfl⟩
  | false =>
    have gT : (tab24 T)[v.ID.toNat]? = some (T v.ID.toNat) := tab_get _ (by omega)
    rw [br_f, ck_t (by omega), rd_s gT, r_brr]
    cases ht : T v.ID.toNat with
    | true => rw [br_t, r_ret]; exact .inl rfl
    | false =>
      rw [br_f, ck_t (by omega), st_s gT, r_ret, tab_set (g := fun x => if x = v.ID.toNat then true else T x) fun j _ => rfl]
      exact .inr ⟨-1, v.ID, ⟨.inl ⟨rfl, rfl⟩, hv, hB, ht⟩, rfl⟩

/-- The traders of the set among the first vertices. -/
abbrev mems (g : Graph) (B : Nat → Bool) (i : Nat) : List Int := (trs (g.Vertices.take i)).filter fun u => B u.toNat

structure CoreI (g : Graph) (ex : Int → Int) (B : Nat → Bool) (P : List Int) (a : Bool × Bool × List Bool) (mu ed : Int → Int) (T : Nat → Bool) : Prop where
  tk : a.2.2 = tab24 T
  tt : ∀ u ∈ P, T (mu u).toNat = true
  D : Dealt g B P mu ed
  ga : a.1 = true → ∃ u ∈ P, plc g u (ed u) < plc g u (ex u)
  lo : a.2.1 = false → ∀ u ∈ P, ¬ plc g u (ex u) < plc g u (ed u)

theorem CoreI.snoc (H : Ready g) {B : Nat → Bool} {P : List Int} {ga lo : Bool} {t : List Bool} {mu ed : Int → Int} {T : Nat → Bool} (C : CoreI g ex B P (ga, lo, t) mu ed T) {v d m : Int} (hv : v ∉ P) (hvt : v ∈ trd g) (G : Gets g B T v d m) :
    CoreI g ex B (P ++ [v]) (ga || decide (plc g v d < plc g v (ex v)), lo || decide (plc g v (ex v) < plc g v d), tab24 fun x => if x = m.toNat then true else T x)
      (fun u => if u = v then m else mu u) (fun u => if u = v then d else ed u) (fun x => if x = m.toNat then true else T x) := by
  have hne : ∀ u ∈ P, u ≠ v := fun u hu h => hv (h ▸ hu)
  have hm := trd_range H.gv G.tr
  have fresh : ∀ u ∈ P, mu u ≠ m := fun u hu h => by have := C.tt u hu; rw [h, G.t] at this; cases this
  refine ⟨rfl, ?_, ⟨?_, ?_, ?_⟩, ?_, ?_⟩
  · intro u hu
    rcases List.mem_append.1 hu with h | h
    · simp only [if_neg (hne u h)]; rw [C.tt u h]; simp
    · rw [List.mem_singleton.1 h]; simp
  · intro u hu
    rcases List.mem_append.1 hu with h | h
    · simp only [if_neg (hne u h)]; exact C.D.in_ u h
    · rw [List.mem_singleton.1 h]; simp only [if_pos]; exact ⟨G.tr, G.b⟩
  · intro u hu w hw e
    rcases List.mem_append.1 hu with h | h <;> rcases List.mem_append.1 hw with k | k
    · simp only [if_neg (hne u h), if_neg (hne w k)] at e; exact C.D.inj u h w k e
    · obtain rfl := List.mem_singleton.1 k
      simp only [if_neg (hne u h), if_pos] at e; exact absurd e (fresh u h)
    · obtain rfl := List.mem_singleton.1 h
      simp only [if_neg (hne w k), if_pos] at e; exact absurd e.symm (fresh w k)
    · rw [List.mem_singleton.1 h, List.mem_singleton.1 k]
  · intro u hu
    rcases List.mem_append.1 hu with h | h
    · simp only [if_neg (hne u h)]; exact C.D.way u h
    · rw [List.mem_singleton.1 h]; simp only [if_pos]; exact G.way
  · intro h
    rcases Bool.or_eq_true_iff.1 h with h | h
    · obtain ⟨u, u1, u2⟩ := C.ga h
      exact ⟨u, List.mem_append.2 (.inl u1), by simp only [if_neg (hne u u1)]; exact u2⟩
    · exact ⟨v, by simp, by simp only [if_pos]; exact of_decide_eq_true h⟩
  · intro h u hu
    obtain ⟨h1, h2⟩ := Bool.or_eq_false_iff.1 h
    rcases List.mem_append.1 hu with k | k
    · simp only [if_neg (hne u k)]; exact C.lo h1 u k
    · rw [List.mem_singleton.1 k]; simp only [if_pos]; exact of_decide_eq_false h2

theorem core_true {p1 p3 p4 : Int} {p2 : List A5_Int} {p5 : List Int} (h1 : inI64 p1) (h3 : inI64 p3) (h4 : inI64 p4) (h2 : ∀ a ∈ p2, A5ok a) (h5 : ∀ a ∈ p5, inI64 a) : (f5 p1 p2 p3 p4 p5).run = some true := by
  obtain ⟨g, hg, H, _⟩ := made_run (p3 := false) h1 h3 h2
  obtain ⟨N, rx, ex, nn, hl, hr, O⟩ := labels_rounds H
  have ho := outcome_run H hl
  obtain ⟨B, hB1, hB⟩ := inset_run H h4
  have hsv := H.small.v
  have memT : ∀ i, ∀ u ∈ mems g B i, u ∈ trd g ∧ B u.toNat = true := by
    intro i u hu
    obtain ⟨u1, u2⟩ := List.mem_filter.1 hu
    obtain ⟨w, w1, w2, w3⟩ := mem_trs.1 u1
    exact ⟨mem_trs.2 ⟨w, List.mem_of_mem_take w1, w2, w3⟩, u2⟩
  have hloop : ∃ q, loopN fuel (fun s : Bool × Bool × Int × List Bool => (f5.l3 p5 true g (tab24 (tabf g ex), tab24 (tabf g rx), true) (tab24 B) s.1 s.2.1 s.2.2.1 s.2.2.2).run) (false, false, (0 : Int), List.replicate 24 false) = some q ∧
      (q = .a true ∨ ∃ ga lo, q = .b (ga, lo) ∧ (ga = true → lo = true)) := by
    refine loop_ix (A := Bool × Bool × List Bool) (f := fun s : Bool × Bool × Int × List Bool => (f5.l3 p5 true g (tab24 (tabf g ex), tab24 (tabf g rx), true) (tab24 B) s.1 s.2.1 s.2.2.1 s.2.2.2).run) (n := g.Vertices.length) (fun i a => (a.1, a.2.1, (i : Int), a.2.2))
      (fun i a => ∃ mu ed T, CoreI g ex B (mems g B i) a mu ed T) _
      (fun i a hi ⟨mu, ed, T, C⟩ => ?_) (fun a ⟨mu, ed, T, C⟩ => ?_) (k := fuel) (by have := fuel_pos; omega) (a := (false, false, List.replicate 24 false))
      ⟨fun _ => 0, fun _ => 0, fun _ => false, tab_rep _, by simp [trs], ⟨by simp [trs], by simp [trs], by simp [trs]⟩, by simp, by simp [trs]⟩
    · obtain ⟨ga, lo, t⟩ := a
      obtain rfl : t = tab24 T := C.tk
      have hx := List.getElem?_eq_getElem hi
      have hm : g.Vertices[i] ∈ g.Vertices := List.getElem_mem hi
      have htk := List.take_succ_eq_append_getElem hi
      have hnd : (trs (g.Vertices.take (i + 1))).Nodup := by
        have : List.Sublist (trs (g.Vertices.take (i + 1))) (trd g) := ((List.take_sublist ..).filter _).map _
        exact (trd_nodup H.gv).sublist this
      have hms : mems g B (i + 1) = (trs (g.Vertices.take (i + 1))).filter fun u => B u.toNat := rfl
      rw [htk, trs_snoc] at hnd
      rw [htk, trs_snoc] at hms
      generalize g.Vertices[i] = v at hx hm hnd hms
      have hid := (H.gv.v _ hm).id
      have gB : (tab24 B)[v.ID.toNat]? = some (B v.ID.toNat) := tab_get _ (by omega)
      simp only [f5.l3, r_brr, L_eq, cast_lt_t hi, br_t, getR_s hx, succ_wr hi (by omega)]
      rw [ck_t (by omega), rd_s gB, r_brr]
      cases hb : B v.ID.toNat with
      | false =>
        rw [Bool.not_false, br_t, r_ret]
        refine .inl ⟨(ga, lo, tab24 T), rfl, mu, ed, T, ?_⟩
        have : mems g B (i + 1) = mems g B i := by
          rw [hms]
          split
          · rw [List.filter_append]; simp [hb]
          · rfl
        rw [this]; exact C
      | true =>
        have hvt : v.ID ∈ trd g := by have := hB _ hb; rwa [show ((v.ID.toNat : Nat) : Int) = v.ID by omega] at this
        have h3 : v.Side = 3 := by
          obtain ⟨w, w1, w2, w3⟩ := mem_trs.1 hvt
          rw [← same_v H.gv.va w1 hm w3]; exact w2
        rw [if_pos h3] at hnd hms
        have hms : mems g B (i + 1) = mems g B i ++ [v.ID] := by rw [hms, List.filter_append]; simp [hb]
        have hvn : v.ID ∉ mems g B i := by
          intro h
          have := (List.mem_filter.1 h).1
          rw [List.nodup_append] at hnd
          exact hnd.2.2 _ this _ (by simp) rfl
        obtain ⟨l, hl1, hl2, hl3⟩ := free_run H p5 (tab24 (tabf g ex), tab24 (tabf g rx), true) B T ga lo (i : Int) v hvt
        obtain ⟨r, Lr⟩ := leaves_of O hvt
        have hpl := Lr.exn H
        have gex := get_t H (f := ex) hvt
        have hch : ∃ c : Int, (0 ≤ c ∧ c < 1000) ∧ (brr (decide ((i : Int) < ((L p5 : Nat) : Int))) (getR p5 (i : Int) fun a116 => cl (f18.ok a116 (1000 : Int)) fun y117 => retA' y117) (retA' (0 : Int)) : Pg (Ex Int Empty Empty)).run = some (.a c) := by
          rw [r_brr, L_eq]
          by_cases hp : i < p5.length
          · have h5i := h5 _ (List.getElem_mem hp)
            rw [cast_lt_t hp, br_t, getR_s (List.getElem?_eq_getElem hp), r_cl, pick18 (by omega), bd_s, r_ret]
            exact ⟨_, pk_range h5i (by omega), rfl⟩
          · rw [cast_lt_f hp, br_f, r_ret]; exact ⟨0, by omega, rfl⟩
        obtain ⟨c, hc, hcr⟩ := hch
        have hbb : ∃ b : Bool, (b = true → 0 < l.length) ∧ (brr (decide (((L l : Nat) : Int) > 0)) (brr (decide ((c.tmod 5) > 0)) (retA' true) (ck v.ID 24 <| rd (tab24 T) v.ID.toNat fun a119 => retA' a119)) (retA' false) : Pg (Ex Bool Empty Empty)).run = some (.a b) := by
          have gT : (tab24 T)[v.ID.toNat]? = some (T v.ID.toNat) := tab_get _ (by omega)
          rw [r_brr, L_eq]
          by_cases h0 : 0 < l.length
          · rw [show decide ((l.length : Int) > 0) = true from decide_eq_true (by omega), br_t, r_brr, ck_t (by omega), rd_s gT, r_ret, r_ret, br_dec]
            split
            · exact ⟨_, fun _ => h0, rfl⟩
            · exact ⟨_, fun _ => h0, rfl⟩
          · rw [show decide ((l.length : Int) > 0) = false from decide_eq_false (by omega), br_f, r_ret]
            exact ⟨false, by simp, rfl⟩
        obtain ⟨b, hb1, hbr⟩ := hbb
        simp only [L_eq] at hcr hbr
        have hch := choice_run H hvt hb hl2 hl3 hc hb1 rfl
        simp only [L_eq] at hch
        simp only [Bool.not_true, br_f]
        rw [r_cl, refw_run H.small H.gv.va, bd_s, r_loop1, hl1, bd_s, ex_a, r_join1, hcr, bd_s, ex_a, r_join1, hbr, bd_s, ex_a, r_join2]
        rcases hch with hq | ⟨d, m, G, hq⟩
        · rw [hq, bd_s, ex_a, r_ret]
          exact .inr ⟨_, rfl, .inl rfl⟩
        · have hpd : 0 ≤ plc g v.ID d := by
            rcases G.way with ⟨rfl, _⟩ | ⟨e, he, rfl, _⟩
            · rw [plc_alone]; omega
            · obtain ⟨i, h, _⟩ := plc_mem H hvt he; omega
          rw [hq, bd_s, ex_b, ck_t (by omega), rd_s gex, r_cl, prefers_run H, if_pos ⟨hvt, hpd, hpl⟩, bd_s, ck_t (by omega), rd_s gex, r_cl, prefers_run H, if_pos ⟨hvt, hpl, hpd⟩, bd_s, r_brr]
          simp only [bne_self_eq_false, Bool.or_self, br_f, r_ret]
          have hC := C.snoc H hvn hvt G
          rw [← hms] at hC
          exact .inl ⟨(_, _, _), rfl, _, _, _, hC⟩
    · obtain ⟨ga, lo, t⟩ := a
      refine ⟨.b (ga, lo), by simp only [f5.l3, r_brr, L_eq, cast_lt_f (Nat.lt_irrefl _), br_f, r_ret], .inr ⟨ga, lo, rfl, fun hga => ?_⟩⟩
      cases hlo : lo with
      | true => rfl
      | false =>
        have hP : (mems g B g.Vertices.length).Nodup := by
          unfold mems; rw [List.take_length]; exact (trd_nodup H.gv).sublist (List.filter_sublist ..)
        have := no_gain H O hP (fun u hu => (memT _ u hu).1) (fun x hx hb => by unfold mems; rw [List.take_length]; exact List.mem_filter.2 ⟨hx, hb⟩) C.D (C.lo hlo)
        obtain ⟨u, u1, u2⟩ := C.ga hga
        exact absurd u2 (this u u1)
  obtain ⟨q, hq, hQ⟩ := hloop
  simp only [f5]
  rw [r_cl, sane_run, bd_s, r_brr, Bool.not_true, br_f, r_cl, hg, bd_s, r_cl, ho, bd_s, r_brr, Bool.not_true, br_f, r_loop1, hB1, bd_s, ex_a, r_loop2, hq, bd_s]
  rcases hQ with rfl | ⟨ga, lo, rfl, h⟩
  · rw [ex_a, r_ret]
  · rw [ex_b, r_ret]
    cases ga with
    | false => rfl
    | true => rw [h rfl]; rfl
end Trd
end Go.Fx.Gen
