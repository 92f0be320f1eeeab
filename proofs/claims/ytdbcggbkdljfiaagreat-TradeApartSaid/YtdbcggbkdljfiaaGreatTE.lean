
/- Trade, walked: the rounds. -/
import Derived.Test.YtdbcggbkdljfiaaGreatTD
namespace Go.Fx.Gen
open Go.Fx Go.Proofs
set_option linter.unusedVariables false
namespace Trd
open Go.TT

/-- What the wishes of a market are like. -/
structure WsOk (ws : List (List Edge)) (T : List Int) : Prop where
  len : ws.length = 24
  row : ∀ l ∈ ws, l.length < 1000000
  nd : T.Nodup
  rng : ∀ x ∈ T, 0 ≤ x ∧ x < 24

variable {ws : List (List Edge)} {T : List Int}

abbrev S (ws : List (List Edge)) (T : List Int) (t : Nat) : List Int := Sq (nx ws) T t

theorem S_nodup (W : WsOk ws T) : ∀ t, (S ws T t).Nodup
  | 0 => W.nd
  | t + 1 => (S_nodup W t).filter _
theorem S_rng (W : WsOk ws T) {t : Nat} {x : Int} (h : x ∈ S ws T t) : 0 ≤ x ∧ x < 24 := W.rng x (Sq_mono (Nat.zero_le _) h)
theorem S_len (W : WsOk ws T) {t : Nat} : (S ws T t).length ≤ 24 := by
  have := nodup_le (s := (List.range 24).map fun n : Nat => (n : Int)) (S_nodup W t) (fun x hx => by
    have := S_rng W hx
    exact List.mem_map.2 ⟨x.toNat, List.mem_range.2 (by omega), by omega⟩)
  simpa using this

/-- Who leaves, by numbers. -/
def lvs (ws : List (List Edge)) (A : List Int) : List Int := ((List.range 24).map fun n : Nat => (n : Int)).filter fun v => decide (v ∈ A) && onC (nx ws) A v

theorem mem_lvs (W : WsOk ws T) {t : Nat} {x : Int} : x ∈ lvs ws (S ws T t) ↔ Lv (nx ws) T t x := by
  unfold lvs Lv
  simp only [List.mem_filter, List.mem_map, List.mem_range, Bool.and_eq_true, decide_eq_true_eq]
  constructor
  · rintro ⟨_, h1, h2⟩; exact ⟨h1, h2⟩
  · rintro ⟨h1, h2⟩
    have := S_rng W h1
    exact ⟨⟨x.toNat, by omega, by omega⟩, h1, h2⟩

theorem len_mk (A : List Int) : (((mk A).map mKey).length : Int) = (A.length : Int) := by simp [mk]

theorem look_mk (A : List Int) (x : Int) : (mapGet (mk A) x).getD false = decide (x ∈ A) := inL_mk A x

theorem inner_run (W : WsOk ws T) (lab : List A3_Int) {A : List Int} (hA : ∀ x ∈ A, 0 ≤ x ∧ x < 24) (hl : A.length ≤ 24) {v : Int} (hv : v ∈ A) (acc : List Int) (hacc : acc.length ≤ 1000) :
    loopN fuel (fun s : Int × Int => (f48.l1 ws lab (mk A) v acc s.1 s.2).run) (v, (0 : Int)) = some (if onC (nx ws) A v = true then .a (acc ++ [v]) else .b ()) := by
  obtain ⟨r, h1, h2⟩ := loop_ix (A := Unit) (f := fun s : Int × Int => (f48.l1 ws lab (mk A) v acc s.1 s.2).run) (n := A.length) (fun k _ => (it (nx ws A) k v, (k : Int)))
    (fun k _ => ∀ j, j < k → it (nx ws A) (j + 1) v ≠ v) (fun r => r = if onC (nx ws) A v = true then .a (acc ++ [v]) else .b ())
    (fun k _ hk hI => by
      have hm : it (nx ws A) k v ∈ A := it_mem (fun x hx => nx_closed ws A x hx) k v hv
      have hp := (points_run ws lab (S := A) (hA _ hm) W.len W.row).1
      have hlt : decide ((k : Int) < ((mk A).map mKey).length) = true := by rw [len_mk]; simp; exact hk
      have e1 : (pt ws A (it (nx ws A) k v)).1 = it (nx ws A) (k + 1) v := by rw [it_succ]; rfl
      simp only [f48.l1, r_brr, hlt, br_t, r_cl, hp, bd_s, e1, succ_wr hk (by omega)]
      by_cases he : it (nx ws A) (k + 1) v = v
      · have e : (it (nx ws A) (k + 1) v == v) = true := by simp [he]
        rw [e, br_t, ap_s (by simp; unfold bigLen; omega), r_ret]
        refine .inr ⟨_, rfl, ?_⟩
        have : onC (nx ws) A v = true := (onC_iff (nx_closed ws) hv).2 ⟨k, he⟩
        rw [if_pos this]
      · have e : (it (nx ws A) (k + 1) v == v) = false := by simp [he]
        rw [e, br_f, r_ret]
        refine .inl ⟨(), rfl, ?_⟩
        intro j hj
        by_cases ej : j = k
        · subst ej; exact he
        · exact hI j (by omega))
    (fun _ hI => by
      have hlt : decide (((A.length : Nat) : Int) < ((mk A).map mKey).length) = false := by rw [len_mk]; simp
      refine ⟨.b (), by simp only [f48.l1, r_brr, hlt, br_f, r_ret], ?_⟩
      have : ¬ onC (nx ws) A v = true := by
        intro h
        obtain ⟨k, hk, e⟩ := ((onC_iff (nx_closed ws) hv).1 h).short (fun x hx => nx_closed ws A x hx) hv
        exact hI k hk e
      rw [if_neg this])
    (k := fuel) (by have := fuel_pos; omega) (a := ()) (by intro j hj; omega)
  subst h2
  exact h1

theorem leaving_run (W : WsOk ws T) (lab : List A3_Int) {A : List Int} (hA : ∀ x ∈ A, 0 ≤ x ∧ x < 24) (hl : A.length ≤ 24) (round : Int) (outs : List (List Int)) :
    loopN fuel (fun s : Int × List Int => (f48.l2 ws round lab (mk A) outs s.1 s.2).run) ((0 : Int), ([] : List Int)) = some (.a (lvs ws A)) := by
  obtain ⟨r, h1, rfl⟩ := loop_ix (A := List Int) (f := fun s : Int × List Int => (f48.l2 ws round lab (mk A) outs s.1 s.2).run) (n := 24) (fun i a => ((i : Int), a))
    (fun i a => a = ((List.range i).map fun n : Nat => (n : Int)).filter fun v => decide (v ∈ A) && onC (nx ws) A v) (fun r => r = .a (lvs ws A))
    (fun i a hi ha => by
      have hlen : a.length ≤ 24 := by rw [ha]; exact Nat.le_trans (List.length_filter_le ..) (by simp; omega)
      have hs : ((List.range (i + 1)).map fun n : Nat => (n : Int)).filter (fun v => decide (v ∈ A) && onC (nx ws) A v) = if (decide ((i : Int) ∈ A) && onC (nx ws) A (i : Int)) = true then a ++ [(i : Int)] else a := by
        rw [List.range_succ, List.map_append, List.filter_append, ← ha]
        by_cases h : (decide ((i : Int) ∈ A) && onC (nx ws) A (i : Int)) = true <;> simp [h]
      have e0 : decide ((i : Int) < 24) = true := by simp; omega
      refine .inl ⟨_, ?_, hs.symm⟩
      simp only [f48.l2, r_brr, e0, br_t, r_look, look_mk, succ_wr hi (by omega)]
      by_cases hm : (i : Int) ∈ A
      · simp only [hm, decide_true, Bool.not_true, br_f, Bool.true_and]
        rw [r_loop2, inner_run W lab hA hl hm a (by omega), bd_s]
        by_cases ho : onC (nx ws) A (i : Int) = true
        · rw [if_pos ho, ex_a, r_ret, if_pos ho]
        · rw [if_neg ho, ex_b, r_ret, if_neg ho]
      · simp only [hm, decide_false, Bool.not_false, br_t, Bool.false_and, r_ret]
        rw [if_neg (by simp)])
    (fun a ha => by
      have e0 : decide (((24 : Nat) : Int) < 24) = false := by simp
      subst ha
      exact ⟨.a (lvs ws A), by simp only [f48.l2, r_brr, e0, br_f, r_ret]; rfl, rfl⟩)
    (k := fuel) (by have := fuel_pos; omega) (a := ([] : List Int)) (by simp)
  exact h1

/-- The labels of those who leave are set. -/
theorem labels_run (W : WsOk ws T) {A : List Int} (L : List Int) (hA : ∀ x ∈ L, 0 ≤ x ∧ x < 24) (hn : L.Nodup) (hL : L.length ≤ 24) (round : Int) (lab : List A3_Int) (hlab : lab.length = 24) :
    ∃ lab', loopN fuel (fun s : Int × List A3_Int => (f48.l3 ws round (mk A) L s.1 s.2).run) ((0 : Int), lab) = some (.a lab') ∧ lab'.length = 24 ∧
      (∀ v ∈ L, lab'[v.toNat]? = some ⟨round, (pt ws A v).2, 0⟩) ∧ ∀ x : Nat, (x : Int) ∉ L → lab'[x]? = lab[x]? := by
  obtain ⟨r, h1, lab', rfl, h2, h3, h4⟩ := loop_ix (A := List A3_Int) (f := fun s : Int × List A3_Int => (f48.l3 ws round (mk A) L s.1 s.2).run) (n := L.length) (fun i a => ((i : Int), a))
    (fun i a => a.length = 24 ∧ (∀ v ∈ L.take i, a[v.toNat]? = some ⟨round, (pt ws A v).2, 0⟩) ∧ ∀ x : Nat, (x : Int) ∉ L.take i → a[x]? = lab[x]?)
    (fun r => ∃ lab', r = .a lab' ∧ lab'.length = 24 ∧ (∀ v ∈ L, lab'[v.toNat]? = some ⟨round, (pt ws A v).2, 0⟩) ∧ ∀ x : Nat, (x : Int) ∉ L → lab'[x]? = lab[x]?)
    (fun i a hi ⟨a1, a2, a3⟩ => by
      have hx : L[i]? = some L[i] := by simp [hi]
      have hr := hA _ (List.getElem_mem hi)
      have htk := List.take_succ_eq_append_getElem hi
      have hp := (points_run ws a (S := A) hr W.len W.row).2
      have hg : a[L[i].toNat]? = some a[L[i].toNat] := List.getElem?_eq_getElem (by omega)
      refine .inl ⟨a.set L[i].toNat ⟨round, (pt ws A L[i]).2, 0⟩, ?_, ?_, ?_, ?_⟩
      · simp only [f48.l3, r_brr, L_eq, cast_lt_t hi, br_t, succ_wr hi (by omega)]
        rw [ck_t (by omega), at0_nat, rd_s hx, r_cl, hp, bd_s, ck_t (by omega), st_s hg, r_ret]
      · rw [List.length_set]; exact a1
      · intro v hv
        rw [htk, List.mem_append, List.mem_singleton] at hv
        by_cases e : v = L[i]
        · rw [e, List.getElem?_set_self (by omega)]
        · have hv : v ∈ L.take i := hv.resolve_right e
          have hvr := hA v (List.mem_of_mem_take hv)
          rw [List.getElem?_set_ne (by intro h; apply e; omega)]
          exact a2 v hv
      · intro x hx
        rw [htk, List.mem_append, List.mem_singleton, not_or] at hx
        rw [List.getElem?_set_ne (by intro h; apply hx.2; omega)]
        exact a3 x hx.1)
    (fun a ⟨a1, a2, a3⟩ => by
      rw [List.take_length] at a2 a3
      exact ⟨.a a, by simp only [f48.l3, r_brr, L_eq, cast_lt_f (Nat.lt_irrefl _), br_f, r_ret], a, rfl, a1, a2, a3⟩)
    (k := fuel) (by have := fuel_pos; omega) (a := lab) ⟨hlab, by simp, by simp⟩
  exact ⟨lab', h1, h2, h3, h4⟩

theorem delete_run (L : List Int) (hL : L.length ≤ 1000) (m : List (Int × Bool)) : loopN fuel (fun s : Int × List (Int × Bool) => (f48.l4 L s.1 s.2).run) ((0 : Int), m) = some (.a (L.foldl mapDel m)) := by
  have := loop_fold (l := L) (f := fun s : Int × List (Int × Bool) => (f48.l4 L s.1 s.2).run) (fun i (a : List (Int × Bool)) => ((i : Int), a)) mapDel (fun a => (.a a : Ex (List (Int × Bool)) Empty Empty))
    (fun i x a hx => by
      have hi : i < L.length := (List.getElem?_eq_some_iff.1 hx).1
      simp only [f48.l4, r_brr, L_eq, cast_lt_t hi, br_t, succ_wr hi (by omega)]
      rw [ck_t (by omega), at0_nat, rd_s hx, r_mdelW, r_ret])
    (fun a => by simp only [f48.l4, r_brr, L_eq, cast_lt_f (Nat.lt_irrefl _), br_f, r_ret]) (k := fuel) (by have := fuel_pos; omega) m
  exact this

theorem next_S (W : WsOk ws T) (t : Nat) : (S ws T t).filter (fun y => decide (y ∉ lvs ws (S ws T t))) = S ws T (t + 1) := by
  show _ = (S ws T t).filter _
  apply List.filter_congr
  intro x hx
  rw [Bool.eq_iff_iff, decide_eq_true_eq, mem_lvs W]
  unfold Lv
  simp [hx]

/-- The labels after t rounds. -/
structure LabI (ws : List (List Edge)) (T : List Int) (l0 : List A3_Int) (t : Nat) (lab : List A3_Int) : Prop where
  len : lab.length = 24
  gone : ∀ r v, r < t → Lv (nx ws) T r v → lab[v.toNat]? = some ⟨((r + 1 : Nat) : Int), (pt ws (S ws T r) v).2, 0⟩
  kept : ∀ x : Nat, (∀ r, r < t → ¬ Lv (nx ws) T r (x : Int)) → lab[x]? = l0[x]?

theorem play_run (W : WsOk ws T) (l0 : List A3_Int) (h0 : l0.length = 24) : ∃ N lab, (f48 ws l0 (mk T)).run = some ((List.range N).map (fun t => lvs ws (S ws T t)), lab, []) ∧ S ws T N = [] ∧ (∀ t, t < N → S ws T t ≠ []) ∧ N ≤ 24 ∧ LabI ws T l0 N lab := by
  obtain ⟨r, h1, N, lab, rfl, h2, h3, h4, h5⟩ := loop_of (f := fun s : Int × List A3_Int × List (Int × Bool) × List (List Int) => (f48.l5 ws s.1 s.2.1 s.2.2.1 s.2.2.2).run)
    (fun s => ∃ (t : Nat) (lab : List A3_Int), s = (((t + 1 : Nat) : Int), lab, mk (S ws T t), (List.range t).map (fun t => lvs ws (S ws T t))) ∧ LabI ws T l0 t lab ∧ (∀ u, u < t → S ws T u ≠ []) ∧ t ≤ 24)
    (fun r => ∃ (N : Nat) (lab : List A3_Int), r = .a (lab, mk ([] : List Int), (List.range N).map (fun t => lvs ws (S ws T t))) ∧ S ws T N = [] ∧ (∀ t, t < N → S ws T t ≠ []) ∧ N ≤ 24 ∧ LabI ws T l0 N lab)
    (fun s => s.2.2.1.length)
    (by
      rintro _ ⟨t, lab, rfl, hI, hne, ht⟩
      by_cases he : S ws T t = []
      · have e : decide ((((mk (S ws T t)).map mKey).length : Int) > 0) = false := by rw [len_mk, he]; simp
        refine .inr ⟨.a (lab, mk (S ws T t), (List.range t).map (fun t => lvs ws (S ws T t))), by simp only [f48.l5, r_brr, e, br_f, r_ret], t, lab, by rw [he], he, hne, ht, hI⟩
      · have hpos : 0 < (S ws T t).length := List.length_pos_iff.2 he
        have e : decide ((((mk (S ws T t)).map mKey).length : Int) > 0) = true := by rw [len_mk]; simp; omega
        have hlen := Sq_len (nx_closed ws) (tr := T) t
        have ht24 : t < 24 := by
          have h2 := S_len W (t := 0)
          have : T.length ≤ 24 := h2
          have : (S ws T t).length ≤ T.length - t := hlen
          omega
        have hrng : ∀ x ∈ S ws T t, 0 ≤ x ∧ x < 24 := fun x hx => S_rng W hx
        have hnd : (lvs ws (S ws T t)).Nodup := by
          unfold lvs
          refine List.Nodup.sublist (List.filter_sublist ..) ?_
          rw [List.nodup_iff_pairwise_ne, List.pairwise_map]
          exact List.pairwise_lt_range.imp (by intro a b h; omega)
        have hll : (lvs ws (S ws T t)).length ≤ 24 := by unfold lvs; exact Nat.le_trans (List.length_filter_le ..) (by simp)
        obtain ⟨lab', l1, l2, l3, l4⟩ := labels_run W (A := S ws T t) (lvs ws (S ws T t)) (fun x hx => hrng x ((mem_lvs W).1 hx).1) hnd hll ((t + 1 : Nat) : Int) lab hI.len
        have w : IntKind.i64.wrap (((t + 1 : Nat) : Int) + 1) = ((t + 1 + 1 : Nat) : Int) := by rw [wr]; omega
        refine .inl ⟨(((t + 1 + 1 : Nat) : Int), lab', mk (S ws T (t + 1)), (List.range (t + 1)).map (fun t => lvs ws (S ws T t))), ?_, ⟨t + 1, lab', rfl, ⟨l2, ?_, ?_⟩, ?_, by omega⟩, ?_⟩
        · simp only [f48.l5, r_brr, e, br_t, w]
          rw [r_loop1, leaving_run W lab hrng (S_len W), bd_s, ex_a, r_loop1, l1, bd_s, ex_a, r_loop1, delete_run _ (by omega), bd_s, ex_a, del_all _ (S_nodup W t), next_S W t,
            ap_s (by simp; unfold bigLen; omega), r_ret, List.range_succ, List.map_append]
          rfl
        · intro r v hr hv
          by_cases er : r = t
          · subst er; exact l3 v ((mem_lvs W).2 hv)
          · have hvr := S_rng W hv.1
            have hne : ((v.toNat : Nat) : Int) ∉ lvs ws (S ws T t) := by
              intro hm
              rw [show ((v.toNat : Nat) : Int) = v by omega] at hm
              exact er (Lv.unique hv ((mem_lvs W).1 hm))
            rw [l4 _ hne]
            exact hI.gone r v (by omega) hv
        · intro x hx
          have hne : (x : Int) ∉ lvs ws (S ws T t) := fun hm => hx t (by omega) ((mem_lvs W).1 hm)
          rw [l4 x hne]
          exact hI.kept x fun r hr => hx r (by omega)
        · intro u hu
          by_cases eu : u = t
          · subst eu; exact he
          · exact hne u (by omega)
        · show (mk (S ws T (t + 1))).length < (mk (S ws T t)).length
          have := (Sq_less (nx_closed ws) he).1
          simpa [mk] using this)
    fuel ((1 : Int), l0, mk T, ([] : List (List Int))) ⟨0, l0, rfl, ⟨h0, by intro r v hr; omega, fun x _ => rfl⟩, by intro u hu; omega, by omega⟩
    (by have := fuel_pos; have := S_len W (t := 0); have h : T.length ≤ 24 := this; simp [mk]; omega)
  refine ⟨N, lab, ?_, h2, h3, h4, h5⟩
  simp only [f48]
  rw [r_loop1, h1, bd_s, ex_a, r_ret]; rfl
end Trd
end Go.Fx.Gen
