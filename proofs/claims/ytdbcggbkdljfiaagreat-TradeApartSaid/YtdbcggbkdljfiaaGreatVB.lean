/- Trade, joined with package graph: an edge is removed, and what else the law TradeApart calls. -/
import Derived.Test.YtdbcggbkdljfiaaGreatVA
namespace Go.Fx.Gen
open Go.Fx Go.Proofs
set_option linter.unusedVariables false
namespace Trd
open Go.TT
variable {g : Graph}

theorem outcome_run (H : Ready g) {rx ex nn : Int → Int} (hl : (f16v1 g).run = some (g.Vertices.map fun v => ⟨v.ID, [rx v.ID, ex v.ID, nn v.ID]⟩, 0)) :
    (f26 g).run = some (tab24 (tabf g ex), tab24 (tabf g rx), true) := by
  have hsv := H.small.v
  generalize hL : (g.Vertices.map fun v => (⟨v.ID, [rx v.ID, ex v.ID, nn v.ID]⟩ : Named)) = l at hl
  have hll : l.length = g.Vertices.length := by rw [← hL]; simp
  have hget : ∀ (i : Nat) (v : Vertex), g.Vertices[i]? = some v → l[i]? = some ⟨v.ID, [rx v.ID, ex v.ID, nn v.ID]⟩ := by
    intro i v h; rw [← hL, List.getElem?_map, h]; rfl
  obtain ⟨q, hq, rfl⟩ := loop_ix (A := List Int × List Int) (f := fun s : Int × List Int × List Int => (f26.l1 g (l, 0) s.1 s.2.1 s.2.2).run) (n := g.Vertices.length) (fun i a => ((i : Int), a.1, a.2))
    (fun i a => a = (tab24 (tabf ⟨g.Vertices.take i, [], []⟩ ex), tab24 (tabf ⟨g.Vertices.take i, [], []⟩ rx))) (fun q => q = .b (tab24 (tabf g ex), tab24 (tabf g rx)))
    (fun i a hi ha => by
      have hx := List.getElem?_eq_getElem hi
      have htk := List.take_succ_eq_append_getElem hi
      have hid := (H.gv.v _ (List.getElem_mem hi)).id
      have hn := hget i _ hx
      have hset : ∀ f : Int → Int, (tab24 (tabf ⟨g.Vertices.take i, [], []⟩ f)).set g.Vertices[i].ID.toNat (f g.Vertices[i].ID) = tab24 (tabf ⟨g.Vertices.take (i + 1), [], []⟩ f) := by
        intro f
        apply tab_set
        intro j hj
        unfold tabf
        simp only [htk, List.any_append]
        by_cases e : j = g.Vertices[i].ID.toNat
        · have e' : (j : Int) = g.Vertices[i].ID := by omega
          have : (g.Vertices[i].ID == (j : Int)) = true := by simp [e']
          simp only [List.any_cons, e', beq_self_eq_true, Bool.true_or, Bool.or_true, if_true, if_pos e]
        · have : (g.Vertices[i].ID == (j : Int)) = false := by simp; omega
          simp [e, this]
      have g1 : ∀ f : Int → Int, ∃ y, (tab24 (tabf ⟨g.Vertices.take i, [], []⟩ f))[g.Vertices[i].ID.toNat]? = some y := fun f => ⟨_, tab_get _ (by omega)⟩
      obtain ⟨y1, hy1⟩ := g1 rx
      obtain ⟨y2, hy2⟩ := g1 ex
      have e1 : (g.Vertices[i].ID != g.Vertices[i].ID) = false := by simp
      have e2 : (((L ([rx g.Vertices[i].ID, ex g.Vertices[i].ID, nn g.Vertices[i].ID] : List Int) : Nat) : Int) != 3) = false := by rw [L_eq]; simp
      have gg0 : ∀ k : Int → Pg (Nx (Int × List Int × List Int) (Ex (List Int × List Int × Bool) (List Int × List Int) Empty)), (getR ([rx g.Vertices[i].ID, ex g.Vertices[i].ID, nn g.Vertices[i].ID] : List Int) (0 : Int) k).run = (k (rx g.Vertices[i].ID)).run := fun k => getR_s (i := 0) rfl
      have gg1 : ∀ k : Int → Pg (Nx (Int × List Int × List Int) (Ex (List Int × List Int × Bool) (List Int × List Int) Empty)), (getR ([rx g.Vertices[i].ID, ex g.Vertices[i].ID, nn g.Vertices[i].ID] : List Int) (1 : Int) k).run = (k (ex g.Vertices[i].ID)).run := fun k => getR_s (i := 1) rfl
      rw [ha]
      simp only [f26.l1, r_brr, L_eq l, hll, cast_lt_t hi, br_t, r_join1, getR_s hx, getR_s hn, e1, br_f, r_ret, bd_s, ex_a, e2, gg0, gg1, succ_wr hi (by omega)]
      rw [ck_t (by omega), st_s hy1]
      simp only [getR_s hn, gg1]
      rw [ck_t (by omega), st_s hy2, r_ret, hset rx, hset ex]
      exact .inl ⟨_, rfl, rfl⟩)
    (fun a ha => by
      rw [List.take_length] at ha
      subst ha
      exact ⟨.b (tab24 (tabf g ex), tab24 (tabf g rx)), by simp only [f26.l1, r_brr, L_eq l, hll, cast_lt_f (Nat.lt_irrefl _), br_f, r_ret]; rfl, rfl⟩)
    (k := fuel) (by have := fuel_pos; omega) (a := (List.replicate 24 (0 : Int), List.replicate 24 (0 : Int))) (by rw [tab_rep]; rfl)
  have e1 : ((0 : Int) != 0) = false := rfl
  have e2 : (((l.length : Nat) : Int) != ((g.Vertices.length : Nat) : Int)) = false := by rw [hll]; simp
  have hq : loopN fuel (fun s : Int × List Int × List Int => (f26.l1 g (l, 0) s.1 s.2.1 s.2.2).run) ((0 : Int), List.replicate 24 (0 : Int), List.replicate 24 (0 : Int)) = _ := hq
  simp only [f26]
  rw [r_cl, hl, bd_s, r_join1, r_brr]
  simp only [e1, br_f, r_ret, bd_s, ex_a, L_eq, e2, r_brr, r_loop2, hq, ex_b]

/-! The words of slices.Delete. -/
theorem r_ck3 {β : Type} {l h m : Int} {n : Nat} {k : Pg β} : (ck3 l h m n k).run = bd (chk (0 ≤ l ∧ l ≤ h ∧ h ≤ m ∧ m ≤ (n : Int))) fun _ => k.run := rfl
theorem r_front {β : Type} {h : Int} {n : Nat} {k : Pg β} : (front h n k).run = bd (chk (0 ≤ h ∧ h ≤ (n : Int) ∧ 0 < n)) fun _ => k.run := rfl
theorem r_bB {β : Type} {l h : Int} {n : Nat} {k : Pg β} : (bB l h n k).run = bd (chk (0 ≤ l ∧ l ≤ h ∧ h ≤ (n : Int))) fun _ => k.run := rfl
theorem r_apI {α β : Type} [Cel α] {l : List α} {i j : Int} {k : List α → Pg β} : (apI l i j k).run = bd (if 0 ≤ i ∧ i ≤ j ∧ j ≤ (l.length : Int) ∧ 0 < l.length then some (l.take i.toNat ++ l.drop j.toNat) else none) fun y => (k y).run := rfl
theorem r_clr {α β : Type} [Cel α] {l : List α} {z : α} {lo hi : Int} {k : List α → Pg β} : (clr l z lo hi k).run = (k (l.take lo.toNat ++ List.replicate (min (hi.toNat - lo.toNat) (l.length - lo.toNat)) z ++ l.drop (lo.toNat + (hi.toNat - lo.toNat)))).run := rfl

theorem dele_run {l : List Edge} {i : Nat} (hi : i < l.length) (hl : l.length < 1000000000) : (f102v1 (i : Int) ((i + 1 : Nat) : Int) l).run = some (l.take i ++ l.drop (i + 1)) := by
  have hlen : (l.take i ++ l.drop (i + 1)).length = l.length - 1 := by simp; omega
  simp only [f102v1, L_eq]
  rw [r_ck3, chk_t (by omega), bd_s, r_brr, show (((i : Nat) : Int) == ((i + 1 : Nat) : Int)) = false from beq_eq_false_iff_ne.2 (by omega), br_f, r_front, chk_t (by omega), bd_s, r_bLo, chk_t (by omega), bd_s, r_apI, if_pos (by omega), bd_s, r_bB, chk_t (by rw [Int.toNat_natCast, Int.toNat_natCast, hlen]; omega), bd_s, r_clr, r_ret]
  simp only [Int.toNat_natCast]
  congr 1
  rw [List.take_length]
  simp

/-! The edge with a number. -/
theorem esearch_run {l : List Edge} (hl : l.length < 1000000000) (hA : Asc Edge.ID l) {i : Nat} (hi : i < l.length) : (f126v1 l[i].ID l).run = some ((i : Int), true) := by
  generalize hid : l[i].ID = id
  obtain ⟨r, h1, q, rfl, h2, h3, h4⟩ := loop_of (f := fun s : Int × Int => (f126v1.l1 id l s.1 s.2).run)
    (fun s => ∃ i j : Nat, s = ((i : Int), (j : Int)) ∧ i ≤ j ∧ j ≤ l.length ∧ (∀ k (h : k < l.length), k < i → l[k].ID < id) ∧ ∀ k (h : k < l.length), j ≤ k → id ≤ l[k].ID)
    (fun r => ∃ q : Nat, r = .a (q : Int) ∧ q ≤ l.length ∧ (∀ k (h : k < l.length), k < q → l[k].ID < id) ∧ ∀ k (h : k < l.length), q ≤ k → id ≤ l[k].ID) (fun s => (s.2 - s.1).toNat)
    (by
      rintro _ ⟨i, j, rfl, h1, h2, h3, h4⟩
      simp only [f126v1.l1, r_brr]
      by_cases hij : i < j
      · have hm : (i + j) / 2 < l.length := by omega
        have hx : l[(i + j) / 2]? = some l[(i + j) / 2] := by simp [hm]
        have w : IntKind.i64.wrap ((((i + j) / 2 : Nat) : Int) + 1) = (((i + j) / 2 + 1 : Nat) : Int) := by rw [wr]; omega
        rw [cast_lt_t hij, br_t]
        simp only [mid_wr (show i < 1000000000 by omega) (show j < 1000000000 by omega)]
        rw [ck_t (by rw [L_eq]; omega), at0_nat, rd_s hx]
        simp only [w, f127, r_cl, cmp_run, bd_s, r_ret]
        by_cases hlt : l[(i + j) / 2].ID < id
        · have e : decide ((if l[(i + j) / 2].ID < id then (-1 : Int) else if l[(i + j) / 2].ID > id then 1 else 0) < 0) = true := by simp [hlt]
          refine .inl ⟨_, by rw [e, r_brr, br_t, r_ret], ⟨(i + j) / 2 + 1, j, rfl, by omega, h2, ?_, h4⟩, by simp; omega⟩
          intro k h hk
          by_cases e : k = (i + j) / 2
          · subst e; exact hlt
          · have := hA k ((i + j) / 2) h hm (by omega); omega
        · have e : decide ((if l[(i + j) / 2].ID < id then (-1 : Int) else if l[(i + j) / 2].ID > id then 1 else 0) < 0) = false := by
            simp only [hlt, if_false]; split <;> simp
          refine .inl ⟨_, by rw [e, r_brr, br_f, r_ret], ⟨i, (i + j) / 2, rfl, by omega, by omega, h3, ?_⟩, by simp; omega⟩
          intro k h hk
          by_cases e : k = (i + j) / 2
          · subst e; omega
          · have := hA ((i + j) / 2) k hm h (by omega); omega
      · obtain rfl : i = j := by omega
        exact .inr ⟨_, by simp only [cast_lt_f hij, br_f, r_ret], i, rfl, h2, h3, h4⟩)
    fuel ((0 : Int), (l.length : Int)) ⟨0, l.length, rfl, Nat.zero_le _, Nat.le_refl _, by intro k _ h; omega, by intro k h1 h2; omega⟩ (by have := fuel_pos; simp; omega)
  have hqi : q = i := by
    rcases Nat.lt_trichotomy q i with h | h | h
    · have := h4 q (by omega) (Nat.le_refl _)
      have := hA q i (by omega) hi h; omega
    · exact h
    · have := h3 i hi h; omega
  subst hqi
  have hx : l[q]? = some l[q] := List.getElem?_eq_getElem hi
  simp only [f126v1, L_eq]
  rw [r_loop1, h1, bd_s, ex_a, r_brr, cast_lt_t hi, br_t, ck_t (by omega), at0_nat, rd_s hx]
  simp only [f127, r_cl, cmp_run, bd_s, r_ret]
  rw [hid, if_neg (by omega), if_neg (by omega)]
  rfl

theorem clone_v {l : List Vertex} (hl : l.length < 1000000000) : (f53 l).run = some l := by
  simp only [f53]
  refine bothN_s (by rw [ap_s (by simp; unfold bigLen; omega), r_ret]; rfl) (fun h => h)
theorem clone_e {l : List Edge} (hl : l.length < 1000000000) : (f54v1 l).run = some l := by
  simp only [f54v1]
  refine bothN_s (by rw [ap_s (by simp; unfold bigLen; omega), r_ret]; rfl) (fun h => h)
theorem clone_d {l : List Int} (hl : l.length < 1000000000) : (f51 l).run = some l := by
  simp only [f51]
  refine bothN_s (by rw [ap_s (by simp; unfold bigLen; omega), r_ret]; rfl) (fun h => h)

theorem chg_run (x : Int) : (f52 4 0 0 0 0 0 false 0 0 x 0).run = some true := by kernel_rfl

/-- The graph without its edge i. -/
def dropE (g : Graph) (i : Nat) : Graph := ⟨g.Vertices, g.Edges.take i ++ g.Edges.drop (i + 1), g.Depots⟩

theorem apply_run (H : Ready g) {i : Nat} (hi : i < g.Edges.length) : (f17 g 4 0 0 0 0 0 false 0 0 g.Edges[i].ID 0).run = some (dropE g i, 0) := by
  obtain ⟨b, b1, b2⟩ := valid_run H.small
  have hb : b = true := b2.2 H.gv
  subst hb
  have hv := H.small.v
  have he := H.small.e
  have hd := H.small.d
  have hacts : ∃ m, f57.run = some m ∧ mapGet m 4 = some ⟨101⟩ := ⟨_, rfl, rfl⟩
  obtain ⟨m, m1, m2⟩ := hacts
  have hw : IntKind.i64.wrap ((i : Int) + 1) = ((i + 1 : Nat) : Int) := by rw [wr]; omega
  have hact : (f55v1 4 0 0 0 0 0 false 0 0 g.Edges[i].ID 0 g.Vertices g.Depots g.Edges).run = some (g.Edges.take i ++ g.Edges.drop (i + 1)) := by
    simp only [f55v1, f56v1, f101v1, f99v1]
    rw [r_cl, m1, bd_s]
    show bd (chk (mapGet m 4 = some ⟨101⟩)) _ = _
    rw [chk_t m2, bd_s]
    simp only [r_cl, esearch_run he H.gv.ea hi, bd_s, r_ret, f95, r_brr, Bool.not_true, br_f, hw, dele_run hi he]
  simp only [f17]
  rw [r_join1, r_cl, b1, bd_s, r_brr, Bool.not_true, br_f, r_cl, chg_run, bd_s, r_ret, bd_s, ex_a, Bool.not_true, r_brr, br_f, r_cl, clone_v hv, bd_s, r_cl, clone_e he, bd_s, r_cl, clone_d hd, bd_s, r_cl, hact, bd_s]
  rfl

/-! The same functions, of a graph in parts. -/
theorem v2_same (l : List Vertex) (e : List Edge) : (f46 l e).run = (f46v1 ⟨l, e, []⟩).run := by kernel_rfl
theorem o2_same (l : List Vertex) (e : List Edge) : (f47 l e).run = (f47v1 ⟨l, e, []⟩).run := by kernel_rfl
theorem l1_same (y4 y5 y6 v9 l10) : (f16.l1 y4 y5 y6 v9 l10).run = (f16v1.l1 y4 y5 y6 v9 l10).run := by kernel_rfl
theorem l2_same (l e y4 y5 y6) : (f16.l2 l y4 y5 y6).run = (f16v1.l2 ⟨l, e, []⟩ y4 y5 y6).run := by kernel_rfl
theorem lab_same (l : List Vertex) (e : List Edge) : (f16 l e).run = (f16v1 ⟨l, e, []⟩).run := by
  simp only [f16, f16v1]
  rw [r_cl, r_cl, v2_same]
  refine congrArg (bd _) (funext fun y => ?_)
  rw [r_brr, r_brr]
  refine congrArg (br _ _) ?_
  rw [r_cl, r_cl, o2_same]
  refine congrArg (bd _) (funext fun y4 => ?_)
  rw [r_cl, r_cl]
  refine congrArg (bd _) (funext fun y5 => ?_)
  rw [r_cl, r_cl]
  refine congrArg (bd _) (funext fun y6 => ?_)
  rw [r_loop1, r_loop1]
  simp only [l1_same]
  refine congrArg (bd _) (funext fun x => ?_)
  cases x with
  | a x =>
    rw [ex_a, ex_a, r_loop1, r_loop1]
    simp only [l2_same l e]
  | b x => cases x
  | c x => cases x
theorem place_own {l : List Vertex} (hl : l.length < 1000000000) (e : List Edge) (x : Int) : ∃ r, (f45v3 x l e).run = some r ∧ ((∃ i : Nat, r = (i : Int) ∧ ∃ v, l[i]? = some v ∧ v.ID = x) ∨ (r = -1 ∧ ¬ ∃ v ∈ l, v.ID = x)) := by
  have key : loopN fuel (fun s => (f45v3.l1 x l s).run) (0 : Int) = _ := loop_find (l := l) (fun i : Nat => (i : Int)) (fun v => v.ID == x) (fun i _ => (.a (i : Int) : Ex Int Unit Empty)) (.b ())
    (fun i v hi => by
      have hlt : i < l.length := (List.getElem?_eq_some_iff.1 hi).1
      simp only [f45v3.l1, r_brr, L_eq, cast_lt_t hlt, br_t, succ_wr hlt (by omega)]
      rw [ck_t (by omega), at0_nat, rd_s hi, r_brr, r_ret, r_ret, br_if])
    (by simp only [f45v3.l1, r_brr, L_eq, cast_lt_f (Nat.lt_irrefl _), br_f, r_ret]) (k := fuel) (by have := fuel_pos; omega)
  simp only [f45v3]
  rw [r_loop2, key, bd_s]
  cases h : l.findIdx? fun v => v.ID == x with
  | none =>
    refine ⟨-1, rfl, .inr ⟨rfl, ?_⟩⟩
    rintro ⟨v, hv, e⟩
    have := List.findIdx?_eq_none_iff.1 h v hv
    simp [e] at this
  | some i =>
    obtain ⟨h1, h2, _⟩ := List.findIdx?_eq_some_iff_getElem.1 h
    have hx := List.getElem?_eq_getElem h1
    simp only [hx, ex_a, r_ret]
    exact ⟨(i : Int), rfl, .inl ⟨i, rfl, _, hx, by simpa using h2⟩⟩
theorem tr_run {l : List Vertex} (hl : l.length < 1000000000) (e : List Edge) (hA : Asc Vertex.ID l) (x : Int) : (f23v2 x l e).run = some (decide (x ∈ trs l)) := by
  obtain ⟨r, h1, h2⟩ := place_own hl e x
  simp only [f23v2]
  rw [r_cl, h1, bd_s, r_brr]
  rcases h2 with ⟨i, rfl, v, hv, rfl⟩ | ⟨rfl, hn⟩
  · have hv : l[i]? = some v := hv
    have hlt : i < l.length := (List.getElem?_eq_some_iff.1 hv).1
    rw [show decide ((i : Int) ≥ 0) = true from decide_eq_true (by omega), br_t, ck_t (by rw [L_eq]; omega), at0_nat, rd_s hv, r_ret]
    congr 1
    rw [Bool.eq_iff_iff, beq_iff_eq, decide_eq_true_eq, mem_trs]
    constructor
    · intro h; exact ⟨v, List.mem_of_getElem? hv, h, rfl⟩
    · rintro ⟨u, hu, h3, h4⟩
      obtain ⟨j, hj, rfl⟩ := List.getElem_of_mem hu
      have hvi : l[i] = v := (List.getElem?_eq_some_iff.1 hv).2
      rcases Nat.lt_trichotomy i j with h | h | h
      · have := hA i j hlt hj h; rw [hvi] at this; omega
      · subst h; rw [← hvi]; exact h3
      · have := hA j i hj hlt h; rw [hvi] at this; omega
  · rw [show decide ((-1 : Int) ≥ 0) = false from rfl, br_f, r_ret]
    congr 1
    rw [eq_comm, decide_eq_false_iff_not, mem_trs]
    rintro ⟨u, hu, _, h4⟩
    exact hn ⟨u, hu, h4⟩

theorem copy_run (hs : Small g) : (f21v2 g).run = some (g.Depots, g.Vertices, g.Edges) := by
  have hv := hs.v
  have he := hs.e
  have hd := hs.d
  simp only [f21v2]
  rw [ap_s (by simp; unfold bigLen; omega), ap_s (by simp; unfold bigLen; omega), ap_s (by simp; unfold bigLen; omega), r_ret]
  rfl
end Trd
end Go.Fx.Gen
