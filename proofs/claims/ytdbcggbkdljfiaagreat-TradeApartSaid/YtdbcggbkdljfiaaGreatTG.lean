
/- Trade, walked: Concat, Labels, Rounds, Prefers. -/
import Derived.Test.YtdbcggbkdljfiaaGreatTF
namespace Go.Fx.Gen
open Go.Fx Go.Proofs
set_option linter.unusedVariables false
namespace Trd
open Go.TT

/-! slices.Concat -/
theorem grow_run {n : Nat} (h : n < 1000000) : (f88v1 (n : Int)).run = some [] := by
  have e0 : decide ((n : Int) < 0) = false := by simp
  have w : IntKind.i64.wrap ((n : Int) - (IntKind.i64.wrap (0 - 0))) = (n : Int) := by rw [wr (n := (0 : Int) - 0), wr] <;> omega
  simp only [f88v1, r_join1, r_brr, e0, br_f, r_ret, bd_s, ex_a, w]
  by_cases hn : n = 0
  · have e : decide ((n : Int) > 0) = false := by simp; omega
    rw [e, br_f, bd_s, ex_a]
  · have e : decide ((n : Int) > 0) = true := by simp; omega
    rw [e, br_t, r_bHi, chk_t (by omega), bd_s]
    show bd (bd (if _ then _ else _) _) _ = _
    rw [if_pos (by unfold bigLen; omega), bd_s]
    show bd (bd (if _ then _ else _) _) _ = _
    rw [if_pos (by simp), bd_s]
    rfl

theorem concat_run {l : List (List Int)} (hl : l.length ≤ 1000) (hb : ∀ x ∈ l, x.length ≤ 100) : (f49 l).run = some l.flatten := by
  obtain ⟨q, h1, n, rfl, hn⟩ := loop_ix (A := Nat) (f := fun s : Int × Int => (f49.l1 l s.1 s.2).run) (n := l.length) (fun i a => ((a : Int), (i : Int))) (fun i a => a ≤ i * 100) (fun q => ∃ n : Nat, q = .a (n : Int) ∧ n ≤ 100000)
    (fun i a hi ha => by
      have hx : l[i]? = some l[i] := by simp [hi]
      have := hb _ (List.getElem_mem hi)
      have w : IntKind.i64.wrap ((a : Int) + ((L l[i] : Nat) : Int)) = ((a + l[i].length : Nat) : Int) := by rw [L_eq, wr] <;> omega
      have e : decide (((a + l[i].length : Nat) : Int) < 0) = false := by simp; omega
      refine .inl ⟨a + l[i].length, ?_, by rw [Nat.add_mul]; omega⟩
      simp only [f49.l1, r_brr, w, succ_wr hi (by omega), getR_s hx, e, br_f, r_ret]
      rw [L_eq, cast_lt_t hi, br_t])
    (fun a ha => ⟨.a (a : Int), by simp only [f49.l1, r_brr, L_eq, cast_lt_f (Nat.lt_irrefl _), br_f, r_ret], a, rfl, by omega⟩) (k := fuel) (by have := fuel_pos; omega) (a := 0) (by omega)
  obtain ⟨q, h2, rfl⟩ := loop_ix (A := List Int) (f := fun s : Int × List Int => (f49.l2 l s.1 s.2).run) (n := l.length) (fun i a => ((i : Int), a)) (fun i a => a = (l.take i).flatten ∧ a.length ≤ i * 100) (fun q => q = .a l.flatten)
    (fun i a hi ⟨ha, hb'⟩ => by
      have hx : l[i]? = some l[i] := by simp [hi]
      have := hb _ (List.getElem_mem hi)
      refine .inl ⟨a ++ l[i], ?_, ?_, by rw [List.length_append, Nat.add_mul]; omega⟩
      · simp only [f49.l2, r_brr, succ_wr hi (by omega), getR_s hx]
        rw [L_eq, cast_lt_t hi, br_t, ap_s (by rw [List.length_append]; unfold bigLen; omega), r_ret]
      · rw [List.take_succ_eq_append_getElem hi, List.flatten_append, ← ha]; simp)
    (fun a ⟨ha, _⟩ => by
      rw [List.take_length] at ha; subst ha
      exact ⟨.a l.flatten, by simp only [f49.l2, r_brr, L_eq, cast_lt_f (Nat.lt_irrefl _), br_f, r_ret], rfl⟩) (k := fuel) (by have := fuel_pos; omega) (a := []) ⟨by simp, by simp⟩
  simp only [f49]
  have h1 : loopN fuel (fun s : Int × Int => (f49.l1 l s.1 s.2).run) ((0 : Int), (0 : Int)) = _ := h1
  have h2 : loopN fuel (fun s : Int × List Int => (f49.l2 l s.1 s.2).run) ((0 : Int), ([] : List Int)) = _ := h2
  rw [r_loop1, h1, bd_s, ex_a, r_cl, grow_run (by omega), bd_s, r_loop1, h2, bd_s, ex_a, r_ret]

/-! The market of a valid graph. -/
structure Ready (g : Graph) : Prop where
  small : Small g
  e : g.Edges.length < 65536
  gv : GV g

variable {g : Graph}

theorem more (H : Ready g) : WsMore (wsh g) (trd g) := by
  have mem : ∀ l ∈ wsh g, ∃ x, x < 24 ∧ l = wsf g.Edges (trd g) (trd g) x := by
    intro l hl
    unfold wsh tab24 at hl
    rw [List.mem_map] at hl
    obtain ⟨x, hx, rfl⟩ := hl
    exact ⟨x, List.mem_range.1 hx, rfl⟩
  have ok := eok_of H.gv
  have perm : ∀ v, (wish g.Edges (trd g) v).Perm _ := fun v => wish_perm H.e ok
  refine ⟨⟨tab_len _, ?_, trd_nodup H.gv, fun x hx => trd_range H.gv hx⟩, ?_, ?_, ?_⟩
  · intro l hl
    obtain ⟨x, _, rfl⟩ := mem l hl
    unfold wsf
    split
    · rw [(perm _).length_eq]
      have := List.length_filter_le (isW (trd g) (x : Int)) g.Edges
      have := H.e; omega
    · simp
  · intro l hl
    obtain ⟨x, _, rfl⟩ := mem l hl
    unfold wsf
    split
    · rw [((perm (x : Int)).map Edge.ID).nodup_iff]
      exact (asc_nodup H.gv.ea).sublist ((List.filter_sublist ..).map _)
    · simp
  · intro l hl e he
    obtain ⟨x, _, rfl⟩ := mem l hl
    unfold wsf at he
    split at he
    · exact ((mem_wish H.e ok).1 he).2.2.2.2
    · cases he
  · intro l hl e he
    obtain ⟨x, _, rfl⟩ := mem l hl
    unfold wsf at he
    split at he
    · exact (H.gv.e e ((mem_wish H.e ok).1 he).1).1.id.1
    · cases he

theorem row_wsh {v : Int} (h : 0 ≤ v ∧ v < 24) : row (wsh g) v = if v ∈ trd g then wish g.Edges (trd g) v else [] := by
  unfold row
  rw [tab_get _ (by omega), Option.getD_some]
  unfold wsf
  rw [show ((v.toNat : Nat) : Int) = v by omega]

theorem mem_row (H : Ready g) {v : Int} (hv : v ∈ trd g) {e : Edge} : e ∈ row (wsh g) v ↔ e ∈ g.Edges ∧ e.Directed = true ∧ e.From = v ∧ e.To ≠ v ∧ e.To ∈ trd g := by
  rw [row_wsh (trd_range H.gv hv), if_pos hv, mem_wish H.e (eok_of H.gv)]

/-- The rounds of a graph. -/
abbrev SG (g : Graph) (t : Nat) : List Int := S (wsh g) (trd g) t
abbrev LG (g : Graph) (r : Nat) (v : Int) : Prop := Lv (nx (wsh g)) (trd g) r v

/-- What Labels and Rounds say. -/
structure Out (g : Graph) (N : Nat) (rx ex nn : Int → Int) : Prop where
  fin : Fin (wsh g) (trd g) rx ex
  none : ∀ v ∈ g.Vertices, v.Side ≠ 3 → rx v.ID = 0 ∧ ex v.ID = -1 ∧ nn v.ID = 0
  cnt : ∀ r v, LG g r v → ∃ n : Nat, nn v = (n : Int) ∧ Cnt (wsh g) (trd g) rx ex r v n
  last : SG g N = []
  less : ∀ t, t < N → SG g t ≠ []
  n24 : N ≤ 24

def roundsOf (g : Graph) (N : Nat) : List (List Int) := (List.range N).map fun t => lvs (wsh g) (SG g t)

theorem labels_rounds (H : Ready g) : ∃ N rx ex nn, (f16v1 g).run = some (g.Vertices.map fun v => ⟨v.ID, [rx v.ID, ex v.ID, nn v.ID]⟩, 0) ∧ (f29v1 g).run = some (roundsOf g N, 0) ∧ Out g N rx ex nn := by
  have W := more H
  obtain ⟨b, hb1, hb2⟩ := valid_run H.small
  have hb : b = true := hb2.2 H.gv
  subst hb
  obtain ⟨N, lab, hp, hN, hless, hN24, hI⟩ := play_run W.toWsOk (lab0 g) (tab_len _)
  -- rounds and edges
  obtain ⟨rx, hrx⟩ : ∃ rx : Int → Int, rx = fun x => ((lab[x.toNat]?).map A3_Int.x0).getD 0 := ⟨_, rfl⟩
  obtain ⟨ex, hex⟩ : ∃ ex : Int → Int, ex = fun x => ((lab[x.toNat]?).map A3_Int.x1).getD 0 := ⟨_, rfl⟩
  have hLR : LabR lab rx ex := by
    refine ⟨hI.len, fun x h0 h1 => ?_⟩
    have hlt : x.toNat < lab.length := by rw [hI.len]; omega
    have hg := List.getElem?_eq_getElem hlt
    refine ⟨lab[x.toNat].x2, ?_⟩
    rw [hg]; simp only [hrx, hex, hg]; rfl
  have hlt : ∀ r v, LG g r v → r < N := by
    intro r v h
    apply Classical.byContradiction
    intro hn
    have := Sq_mono (n := N) (by omega) h.1
    rw [show Sq (nx (wsh g)) (trd g) N = [] from hN] at this; cases this
  have F : Fin (wsh g) (trd g) rx ex := by
    refine ⟨fun r v h => ?_, fun r v h => by have := hlt r v h; omega⟩
    have := hI.gone r v (hlt r v h) h
    rw [hrx, hex]
    simp only [this]
    exact ⟨rfl, rfl⟩
  have hnt : ∀ v ∈ g.Vertices, v.Side ≠ 3 → lab[v.ID.toNat]? = some ⟨0, -1, 0⟩ := by
    intro v hv h3
    have hid := (H.gv.v v hv).id
    have hc : ((v.ID.toNat : Nat) : Int) = v.ID := by omega
    rw [hI.kept _ (fun r _ h => by
      have hm := Sq_mono (Nat.zero_le _) h.1
      rw [hc] at hm
      obtain ⟨u, hu, hu3, e⟩ := mem_trs.1 hm
      obtain ⟨i, hi, rfl⟩ := List.getElem_of_mem hv
      obtain ⟨j, hj, rfl⟩ := List.getElem_of_mem hu
      have : i = j := by
        rcases Nat.lt_trichotomy i j with hh | hh | hh
        · have := H.gv.va i j hi hj hh; omega
        · exact hh
        · have := H.gv.va j i hj hi hh; omega
      subst this; exact h3 hu3), tab_get _ (by omega)]
    unfold labf
    have : g.Vertices.any (fun u => u.ID == ((v.ID.toNat : Nat) : Int)) = true := List.any_eq_true.2 ⟨v, hv, by rw [hc]; simp⟩
    rw [this]; rfl
  -- the steps
  have hall : ∀ v ∈ (roundsOf g N).flatten, ∃ r, LG g r v := by
    intro v hv
    unfold roundsOf at hv
    rw [List.mem_flatten] at hv
    obtain ⟨l, hl, hv⟩ := hv
    rw [List.mem_map] at hl
    obtain ⟨t, _, rfl⟩ := hl
    exact ⟨t, (mem_lvs W.toWsOk).1 hv⟩
  have hcat : (f49 (roundsOf g N)).run = some (roundsOf g N).flatten := concat_run (by unfold roundsOf; simp; omega) (fun x hx => by
    unfold roundsOf at hx
    rw [List.mem_map] at hx
    obtain ⟨t, _, rfl⟩ := hx
    unfold lvs
    refine Nat.le_trans (List.length_filter_le ..) ?_
    simp)
  obtain ⟨q, hq, lab2, rfl, hL2, hc2, hk2⟩ := loop_ix (A := List A3_Int) (f := fun s : Int × List A3_Int => (f16v1.l1 (wsh g, lab0 g, mk (trd g)) (roundsOf g N, lab, mk []) (roundsOf g N).flatten s.1 s.2).run) (n := (roundsOf g N).flatten.length) (fun i a => ((i : Int), a))
    (fun i a => LabR a rx ex ∧ (∀ v ∈ (roundsOf g N).flatten.take i, ∃ (r n : Nat), LG g r v ∧ a[v.toNat]? = some ⟨rx v, ex v, (n : Int)⟩ ∧ Cnt (wsh g) (trd g) rx ex r v n) ∧ ∀ x : Nat, (x : Int) ∉ trd g → a[x]? = lab[x]?)
    (fun q => ∃ lab2, q = .a lab2 ∧ LabR lab2 rx ex ∧ (∀ v ∈ (roundsOf g N).flatten, ∃ (r n : Nat), LG g r v ∧ lab2[v.toNat]? = some ⟨rx v, ex v, (n : Int)⟩ ∧ Cnt (wsh g) (trd g) rx ex r v n) ∧ ∀ x : Nat, (x : Int) ∉ trd g → lab2[x]? = lab[x]?)
    (fun i a hi ⟨a1, a2, a3⟩ => by
      have hx := List.getElem?_eq_getElem hi
      have htk := List.take_succ_eq_append_getElem hi
      have hmem := List.getElem_mem hi
      have hbig : (roundsOf g N).flatten.length ≤ 576 := by
        rw [List.length_flatten]
        have : ∀ l : List Nat, (∀ x ∈ l, x ≤ 24) → l.sum ≤ l.length * 24 := by
          intro l
          induction l with
          | nil => intro _; simp
          | cons y l ih => intro h; have := ih fun x hx => h x (.tail _ hx); have := h y (.head _); simp only [List.sum_cons, List.length_cons, Nat.add_mul]; omega
        have := this ((roundsOf g N).map List.length) (fun x hx => by
          rw [List.mem_map] at hx
          obtain ⟨l, hl, rfl⟩ := hx
          unfold roundsOf at hl
          rw [List.mem_map] at hl
          obtain ⟨t, _, rfl⟩ := hl
          unfold lvs
          refine Nat.le_trans (List.length_filter_le ..) ?_
          simp)
        have h2 : ((roundsOf g N).map List.length).length = N := by simp [roundsOf]
        rw [h2] at this; omega
      generalize (roundsOf g N).flatten[i] = v at hx htk hmem
      obtain ⟨r, hr⟩ := hall v hmem
      have hvr := S_rng W.toWsOk hr.1
      obtain ⟨n, n1, n2⟩ := count_run W F a1 hr (mk [])
      obtain ⟨k0, hk0⟩ := a1.at_ v hvr.1 hvr.2
      refine .inl ⟨a.set v.toNat ⟨rx v, ex v, (n : Int)⟩, ?_, ⟨by rw [List.length_set]; exact a1.len, ?_⟩, ?_, ?_⟩
      · simp only [f16v1.l1, r_brr, succ_wr hi (by omega), getR_s hx]
        rw [L_eq, cast_lt_t hi, br_t, r_cl, n1, bd_s, r_ret]
      · intro x h0 h1
        by_cases e : x = v
        · subst e; exact ⟨(n : Int), List.getElem?_set_self (by rw [a1.len]; omega)⟩
        · rw [List.getElem?_set_ne (by intro h; apply e; omega)]; exact a1.at_ x h0 h1
      · intro u hu
        by_cases e : u = v
        · subst e; exact ⟨r, n, hr, List.getElem?_set_self (by rw [a1.len]; omega), n2⟩
        · rw [htk, List.mem_append, List.mem_singleton] at hu
          obtain ⟨r', n', z1, z2, z3⟩ := a2 u (hu.resolve_right e)
          have := S_rng W.toWsOk z1.1
          exact ⟨r', n', z1, by rw [List.getElem?_set_ne (by intro h; apply e; omega)]; exact z2, z3⟩
      · intro x hx
        have hvt : v ∈ trd g := Sq_mono (Nat.zero_le _) hr.1
        rw [List.getElem?_set_ne (by intro h; apply hx; rw [show (x : Int) = v by omega]; exact hvt)]
        exact a3 x hx)
    (fun a ⟨a1, a2, a3⟩ => by
      rw [List.take_length] at a2
      exact ⟨.a a, by simp only [f16v1.l1, r_brr, L_eq, cast_lt_f (Nat.lt_irrefl _), br_f, r_ret], a, rfl, a1, a2, a3⟩)
    (k := fuel) (by
      have := fuel_pos
      have h2 : (roundsOf g N).flatten.length ≤ 1000000 := by
        rw [List.length_flatten]
        have : ∀ l : List Nat, (∀ x ∈ l, x ≤ 24) → l.sum ≤ l.length * 24 := by
          intro l
          induction l with
          | nil => intro _; simp
          | cons y l ih => intro h; have := ih fun x hx => h x (.tail _ hx); have := h y (.head _); simp only [List.sum_cons, List.length_cons, Nat.add_mul]; omega
        have := this ((roundsOf g N).map List.length) (fun x hx => by
          rw [List.mem_map] at hx
          obtain ⟨l, hl, rfl⟩ := hx
          unfold roundsOf at hl
          rw [List.mem_map] at hl
          obtain ⟨t, _, rfl⟩ := hl
          unfold lvs
          refine Nat.le_trans (List.length_filter_le ..) ?_
          simp)
        have h2 : ((roundsOf g N).map List.length).length = N := by simp [roundsOf]
        rw [h2] at this; omega
      omega) (a := lab) ⟨hLR, by simp, fun _ _ => rfl⟩
  obtain ⟨nn, hnn⟩ : ∃ nn : Int → Int, nn = fun x => ((lab2[x.toNat]?).map A3_Int.x2).getD 0 := ⟨_, rfl⟩
  have hget : ∀ x : Int, 0 ≤ x → x < 24 → lab2[x.toNat]? = some ⟨rx x, ex x, nn x⟩ := by
    intro x h0 h1
    obtain ⟨k, hk⟩ := hL2.at_ x h0 h1
    rw [hnn]; simp only [hk]; rfl
  -- the list
  have hlist : loopN fuel (fun s : Int × List Named => (f16v1.l2 g lab2 s.1 s.2).run) ((0 : Int), ([] : List Named)) = some (.a (g.Vertices.map fun v => ⟨v.ID, [rx v.ID, ex v.ID, nn v.ID]⟩)) := by
    obtain ⟨q, h1, rfl⟩ := loop_ix (A := List Named) (f := fun s : Int × List Named => (f16v1.l2 g lab2 s.1 s.2).run) (n := g.Vertices.length) (fun i a => ((i : Int), a))
      (fun i a => a = (g.Vertices.take i).map fun v => ⟨v.ID, [rx v.ID, ex v.ID, nn v.ID]⟩) (fun q => q = .a (g.Vertices.map fun v => ⟨v.ID, [rx v.ID, ex v.ID, nn v.ID]⟩))
      (fun i a hi ha => by
        have hx : g.Vertices[i]? = some g.Vertices[i] := by simp [hi]
        have hid := (H.gv.v _ (List.getElem_mem hi)).id
        have hlen : a.length ≤ i := by rw [ha]; simp; omega
        have hsm := H.small.v
        refine .inl ⟨a ++ [⟨g.Vertices[i].ID, [rx g.Vertices[i].ID, ex g.Vertices[i].ID, nn g.Vertices[i].ID]⟩], ?_, by rw [List.take_succ_eq_append_getElem hi, List.map_append, ← ha]; rfl⟩
        have hcl : (f51 ([rx g.Vertices[i].ID, ex g.Vertices[i].ID, nn g.Vertices[i].ID] : List Int)).run = some [rx g.Vertices[i].ID, ex g.Vertices[i].ID, nn g.Vertices[i].ID] := by
          simp only [f51]
          refine bothN_s (by rw [ap_s (by simp; unfold bigLen; omega), r_ret]; rfl) (fun h => by cases h)
        simp only [f16v1.l2, r_brr, succ_wr hi (by omega), getR_s hx]
        rw [L_eq, cast_lt_t hi, br_t, ck_t (by omega), rd_s (hget _ hid.1 (by omega)), r_cl, hcl, bd_s, ap_s (by simp; unfold bigLen; omega), r_ret])
      (fun a ha => by
        rw [List.take_length] at ha
        subst ha
        exact ⟨.a (g.Vertices.map fun v => ⟨v.ID, [rx v.ID, ex v.ID, nn v.ID]⟩), by simp only [f16v1.l2, r_brr, L_eq, cast_lt_f (Nat.lt_irrefl _), br_f, r_ret], rfl⟩)
      (k := fuel) (by have := fuel_pos; have := H.small.v; omega) (a := []) (by simp)
    exact h1
  have hop := open_run H.small H.e H.gv
  refine ⟨N, rx, ex, nn, ?_, ?_, F, ?_, ?_, hN, hless, hN24⟩
  · simp only [f16v1]
    rw [r_cl, hb1, bd_s, r_brr, Bool.not_true, br_f, r_cl, hop, bd_s, r_cl, hp, bd_s, r_cl]
    show bd (f49 (roundsOf g N)).run _ = _
    rw [hcat, bd_s, r_loop1]
    have hq : loopN fuel (fun s : Int × List A3_Int => (f16v1.l1 (wsh g, lab0 g, mk (trd g)) (roundsOf g N, lab, mk []) (roundsOf g N).flatten s.1 s.2).run) ((0 : Int), lab) = _ := hq
    show bd (loopN fuel (fun s : Int × List A3_Int => (f16v1.l1 (wsh g, lab0 g, mk (trd g)) (roundsOf g N, lab, mk []) (roundsOf g N).flatten s.1 s.2).run) ((0 : Int), lab)) _ = _
    rw [hq, bd_s, ex_a, r_loop1, hlist, bd_s, ex_a, r_ret]
  · simp only [f29v1]
    rw [r_cl, hb1, bd_s, r_brr, Bool.not_true, br_f, r_cl, hop, bd_s, r_cl, hp, bd_s, r_ret]; rfl
  · intro v hv h3
    have hid := (H.gv.v v hv).id
    have := hnt v hv h3
    have hx : v.ID ∉ trd g := by
      intro hm
      obtain ⟨u, hu, hu3, e⟩ := mem_trs.1 hm
      obtain ⟨i, hi, rfl⟩ := List.getElem_of_mem hv
      obtain ⟨j, hj, rfl⟩ := List.getElem_of_mem hu
      have : i = j := by
        rcases Nat.lt_trichotomy i j with hh | hh | hh
        · have := H.gv.va i j hi hj hh; omega
        · exact hh
        · have := H.gv.va j i hj hi hh; omega
      subst this; exact h3 hu3
    have h2 := hk2 v.ID.toNat (by rw [show ((v.ID.toNat : Nat) : Int) = v.ID by omega]; exact hx)
    rw [this] at h2
    rw [hrx, hex, hnn]
    simp only [this, h2]
    exact ⟨rfl, rfl, rfl⟩
  · intro r v hr
    have hvr := S_rng W.toWsOk hr.1
    have hm : v ∈ (roundsOf g N).flatten := by
      rw [List.mem_flatten]
      exact ⟨lvs (wsh g) (SG g r), List.mem_map.2 ⟨r, List.mem_range.2 (hlt r v hr), rfl⟩, (mem_lvs W.toWsOk).2 hr⟩
    obtain ⟨r', n, z1, z2, z3⟩ := hc2 v hm
    have : r' = r := Lv.unique z1 hr
    subst this
    refine ⟨n, ?_, z3⟩
    rw [hnn]; simp only [z2]; rfl
end Trd
end Go.Fx.Gen
