/- Bent labels have the same vertices; the law ForestLocal. -/
import Derived.Test.YtiecopfelbfkiaaRF
import Derived.Test.YtiecopfelbfkiaaQE
namespace Go.Fx.Gen
open Go.Fx Go.Proofs
set_option linter.unusedVariables false
namespace Frs
open Trd
variable {g : Graph}

structure A3ok (a : A3_Int) : Prop where
  x0 : inI64 a.x0
  x1 : inI64 a.x1
  x2 : inI64 a.x2

theorem pick24 {c n : Int} (hn : n ≠ 0) : (f24 c n).run = some (pk c n) := by
  unfold pk
  simp only [f24, r_brr, br_dec, r_nzD]
  rw [chk_t hn, bd_s, bd_s, r_ret, r_ret]
  split <;> rfl

/-- Every label is a part of a member of the family. -/
def FitR (M : List (List Int)) (x : NamedR) : Prop := ∃ l, M[x.Label.i]? = some l ∧ x.Label.off + x.Label.len ≤ l.length ∧ x.Label.len ≤ 3
structure FitM (ids : List Int) (M : List (List Int)) (o : List NamedR) : Prop where
  fit : ∀ x ∈ o, FitR M x
  mem : ∀ l ∈ M, ∀ a ∈ l, inI64 a
  ids : o.map (·.ID) = ids

theorem named_fit {ids : List Int} {M : List (List Int)} {o : List NamedR} (h : FitM ids M o) : ∃ y, named M o = some y ∧ y.map (·.ID) = ids ∧ (∀ n ∈ y, n.Label.length ≤ 3) ∧ ∀ n ∈ y, ∀ a ∈ n.Label, inI64 a := by
  obtain ⟨h1, h2, rfl⟩ := h
  induction o with
  | nil => exact ⟨[], rfl, rfl, by simp, by simp⟩
  | cons x o ih =>
    obtain ⟨y, y1, y2, y3, y4⟩ := ih fun z hz => h1 z (List.mem_cons_of_mem _ hz)
    obtain ⟨l, l1, l2, l3⟩ := h1 x List.mem_cons_self
    have hx : named1 M x = some ⟨x.ID, (l.drop x.Label.off).take x.Label.len⟩ := by
      unfold named1
      rw [l1, Option.bind_some, if_pos l2]
    refine ⟨⟨x.ID, (l.drop x.Label.off).take x.Label.len⟩ :: y, ?_, by simp [y2], fun n hn => ?_, fun n hn a ha => ?_⟩
    · have y1 : o.mapM (named1 M) = some y := y1
      unfold named
      rw [List.mapM_cons, hx, y1]; rfl
    · rcases List.mem_cons.1 hn with rfl | hn
      · simp; omega
      · exact y3 n hn
    · rcases List.mem_cons.1 hn with rfl | hn
      · exact h2 l (List.mem_of_getElem? l1) a (List.mem_of_mem_drop (List.mem_of_mem_take ha))
      · exact y4 n hn a ha

theorem fit_ref {ids : List Int} {M : List (List Int)} {o : List NamedR} (h : FitM ids M o) {k : Nat} {y : NamedR} (hk : o[k]? = some y) {r : Ref} (hr : FitR M ⟨y.ID, r⟩) : FitM ids M (o.set k ⟨y.ID, r⟩) := by
  refine ⟨fun x hx => ?_, h.mem, ?_⟩
  · rcases List.mem_or_eq_of_mem_set hx with hx | rfl
    · exact h.fit x hx
    · exact hr
  · rw [List.map_set, ← h.ids]
    refine List.ext_getElem (by simp) fun i h1 h2 => ?_
    rw [List.getElem_set]
    split
    · rename_i e
      subst e
      obtain ⟨hk', e⟩ := List.getElem?_eq_some_iff.1 hk
      rw [List.getElem_map, e]
    · rfl

theorem fit_mem {ids : List Int} {M : List (List Int)} {o : List NamedR} (h : FitM ids M o) {i : Nat} {l : List Int} (hi : M[i]? = some l) {j : Nat} {v : Int} (hv : inI64 v) : FitM ids (M.set i (l.set j v)) o := by
  refine ⟨fun x hx => ?_, fun m hm a ha => ?_, h.ids⟩
  · obtain ⟨m, m1, m2, m3⟩ := h.fit x hx
    by_cases e : x.Label.i = i
    · have : m = l := by rw [e, hi] at m1; exact (Option.some.inj m1).symm
      subst this
      refine ⟨m.set j v, ?_, by simpa using m2, m3⟩
      have hlt : i < M.length := (List.getElem?_eq_some_iff.1 hi).1
      rw [e, List.getElem?_set_self hlt]
    · exact ⟨m, by rw [List.getElem?_set_ne (Ne.symm e)]; exact m1, m2, m3⟩
  · rcases List.mem_or_eq_of_mem_set hm with hm | rfl
    · exact h.mem m hm a ha
    · rcases List.mem_or_eq_of_mem_set ha with ha | rfl
      · exact h.mem l (List.mem_of_getElem? hi) a ha
      · exact hv

theorem idx {n : Nat} {c : Int} (h : 0 ≤ c ∧ c < (n : Int)) : ∃ i : Nat, c = (i : Int) ∧ i < n := ⟨c.toNat, by omega, by omega⟩

theorem bend_step {p : List A3_Int} {ids : List Int} [Fm] {M : List (List Int)} {o : List NamedR} (h : FitM ids M o) (hol : o.length < 1000000000) (h0 : o.length ≠ 0) {i : Nat} {a : A3_Int} (hlt : i < p.length ∧ i < 4) (hx : p[i]? = some a) (ha : A3ok a) :
    ∃ M' o', (f8.l2 p (i : Int) M o).run = some (.cont (((i + 1 : Nat) : Int), M', o')) ∧ o'.length = o.length ∧ FitM ids M' o' := by
  have w1 : IntKind.i64.wrap ((i : Int) + 1) = ((i + 1 : Nat) : Int) := succ_wr hlt.2 (by omega)
  obtain ⟨k, hk, hkl⟩ := idx (pk_range ha.x0 (n := (o.length : Int)) (by omega))
  have hok := List.getElem?_eq_getElem hkl
  have hfx := h.fit _ (List.getElem_mem hkl)
  generalize o[k] = x at hok hfx
  obtain ⟨l, l1, l2, l3⟩ := hfx
  have w2 : IntKind.i64.wrap ((x.Label.len : Int) + 1) = ((x.Label.len + 1 : Nat) : Int) := by rw [wr] <;> omega
  obtain ⟨n, hn, hnl⟩ := idx (pk_range ha.x1 (n := ((x.Label.len + 1 : Nat) : Int)) (by omega))
  simp only [f8.l2, r_brr]
  rw [show ((decide ((i : Int) < (L p : Int))) && (decide ((i : Int) < 4))) = true by rw [L_eq]; simp; omega, br_t, show decide ((L o : Int) > 0) = true by rw [L_eq]; simp; omega, br_t, getR_s hx, r_cl, pick24 (by rw [L_eq]; omega), bd_s]
  rw [show pk a.x0 (L o : Int) = (k : Int) by rw [L_eq]; exact hk, getR_s hx, ck_t (by rw [L_eq]; omega), at0_nat, rd_s hok, r_cl, pick24 (by rw [w2]; omega), bd_s]
  rw [show pk a.x1 (IntKind.i64.wrap ((x.Label.len : Int) + 1)) = (n : Int) by rw [w2]; exact hn, ck_t (by rw [L_eq]; omega), rd_s hok, r_brr]
  by_cases c1 : n = x.Label.len
  · obtain ⟨m, hm, hml⟩ := idx (pk_range ha.x2 (n := (o.length : Int)) (by omega))
    rw [show ((n : Int) == (x.Label.len : Int)) = true by simp [c1], br_t, getR_s hx, r_cl, pick24 (by rw [L_eq]; omega), bd_s, show pk a.x2 (L o : Int) = (m : Int) by rw [L_eq]; exact hm, getR_s hx, r_cl, pick24 (by omega), bd_s, r_brr]
    by_cases c2 : ((pk a.x2 5 == 0) && decide ((n : Int) > 0)) = true
    · have hn0 : 0 < n := by
        rw [Bool.and_eq_true] at c2
        have := of_decide_eq_true c2.2
        omega
      have w3 : IntKind.i64.wrap ((n : Int) - 1) = ((n - 1 : Nat) : Int) := by rw [wr] <;> omega
      rw [c2, br_t, ck_t (by rw [L_eq]; omega), rd_s hok, w3, r_bHi, chk_t (by omega), bd_s, ck_t (by rw [L_eq]; omega), st_s hok, r_ret, w1]
      refine ⟨_, _, rfl, by simp, fit_ref h hok ⟨l, l1, ?_, ?_⟩⟩
      · show x.Label.off + 0 + (((n - 1 : Nat) : Int).toNat - 0) ≤ l.length
        omega
      · show ((n - 1 : Nat) : Int).toNat - 0 ≤ 3
        omega
    · have hmk := List.getElem?_eq_getElem hml
      have hfm := h.fit _ (List.getElem_mem hml)
      have c2 : ((pk a.x2 5 == 0) && decide ((n : Int) > 0)) = false := by simpa using c2
      have hsw : ∃ y, (o.set k ⟨x.ID, o[m].Label⟩)[m]? = some y ∧ y.ID = o[m].ID := by
        by_cases e : k = m
        · subst e
          refine ⟨_, List.getElem?_set_self (by omega), ?_⟩
          rw [hok] at hmk
          cases hmk; rfl
        · exact ⟨_, by rw [List.getElem?_set_ne e]; exact hmk, rfl⟩
      obtain ⟨y, hy, hyid⟩ := hsw
      rw [c2, br_f, ck_t (by rw [L_eq]; omega), at0_nat, rd_s hmk, ck_t (by rw [L_eq]; omega), rd_s hok, ck_t (by rw [L_eq]; omega), st_s hok]
      generalize o[m] = z at hmk hfm hy hyid
      rw [ck_t (by rw [L_eq]; simp; omega), st_s hy, r_ret, w1]
      exact ⟨_, _, rfl, by simp, fit_ref (fit_ref h hok hfm) hy ⟨l, l1, l2, l3⟩⟩
  · have hnl : n < x.Label.len := by omega
    have hlj := List.getElem?_eq_getElem (show x.Label.off + n < l.length by omega)
    rw [show ((n : Int) == (x.Label.len : Int)) = false by rw [beq_eq_false_iff_ne]; omega, br_f, getR_s hx, r_cl, pick24 (by omega), bd_s, r_brr]
    by_cases c2 : pk a.x2 3 = 0
    · rw [beq_iff_eq.2 c2, br_t, ck_t (by rw [L_eq]; omega), rd_s hok, getR_s hx, r_cl, pick24 (by omega), bd_s, ck_t (by omega), Int.toNat_natCast, stM_s l1 hlj, r_ret, w1]
      exact ⟨_, _, rfl, rfl, fit_mem h l1 (wrap_range _)⟩
    · rw [beq_eq_false_iff_ne.2 c2, br_f, ck_t (by rw [L_eq]; omega), rd_s hok, ck_t (by rw [L_eq]; omega), rd_s hok, ck_t (by omega), Int.toNat_natCast, rdM_s l1 hlj, getR_s hx, r_cl, pick24 (by omega), bd_s, ck_t (by omega), stM_s l1 hlj, r_ret, w1]
      exact ⟨_, _, rfl, rfl, fit_mem h l1 (wrap_range _)⟩

theorem bend_run {p : List A3_Int} (hp : ∀ a ∈ p, A3ok a) {ids : List Int} [Fm] {M : List (List Int)} {o : List NamedR} (h : FitM ids M o) (hol : o.length < 1000000000) :
    ∃ M' o', loopN fuel (fun s : Int × List (List Int) × List NamedR => (f8.l2 p s.1 s.2.1 s.2.2).run) ((0 : Int), M, o) = some (.a (M', o')) ∧ FitM ids M' o' := by
  obtain ⟨q, hq, M', o', rfl, h1⟩ := loop_of (f := fun s : Int × List (List Int) × List NamedR => (f8.l2 p s.1 s.2.1 s.2.2).run)
    (fun s => ∃ (i : Nat) (M : List (List Int)) (o : List NamedR), s = ((i : Int), M, o) ∧ o.length < 1000000000 ∧ FitM ids M o) (fun q => ∃ M o, q = .a (M, o) ∧ FitM ids M o) (fun s => 4 - s.1.toNat)
    (by
      rintro _ ⟨i, M, o, rfl, hol, h⟩
      by_cases hlt : i < p.length ∧ i < 4
      · by_cases h0 : o.length = 0
        · simp only [f8.l2, r_brr]
          rw [show ((decide ((i : Int) < (L p : Int))) && (decide ((i : Int) < 4))) = true by rw [L_eq]; simp; omega, br_t, show decide ((L o : Int) > 0) = false by rw [L_eq, h0]; rfl, br_f, r_ret]
          exact .inr ⟨_, rfl, M, o, rfl, h⟩
        · obtain ⟨M', o', k1, k2, k3⟩ := bend_step h hol h0 hlt (List.getElem?_eq_getElem hlt.1) (hp _ (List.getElem_mem hlt.1))
          exact .inl ⟨_, k1, ⟨i + 1, M', o', rfl, by omega, k3⟩, by simp; omega⟩
      · simp only [f8.l2, r_brr]
        rw [show ((decide ((i : Int) < (L p : Int))) && (decide ((i : Int) < 4))) = false by rw [L_eq, Bool.and_eq_false_iff, decide_eq_false_iff_not, decide_eq_false_iff_not]; omega, br_f, r_ret]
        exact .inr ⟨_, rfl, M, o, rfl, h⟩)
    fuel ((0 : Int), M, o) ⟨0, M, o, rfl, hol, h⟩ (by have := fuel_pos; simp; omega)
  exact ⟨M', o', hq, h1⟩

theorem bent_run {l : List Named} (hl : l.length < 1000000) (h3 : ∀ n ∈ l, n.Label.length ≤ 3) (hr : ∀ n ∈ l, ∀ a ∈ n.Label, inI64 a) {p : List A3_Int} (hp : ∀ a ∈ p, A3ok a) :
    ∃ y, (f8 l p).run = some y ∧ y.map (·.ID) = l.map (·.ID) ∧ (∀ n ∈ y, n.Label.length ≤ 3) ∧ ∀ n ∈ y, ∀ a ∈ n.Label, inI64 a := by
  letI : Fm := ⟨0⟩
  show ∃ y, (f8.fm l p).run = some y ∧ _
  obtain ⟨q, hq, M, o, rfl, h1, h2⟩ := loop_ix (A := List (List Int) × List NamedR) (f := fun s : Int × List (List Int) × List NamedR => (f8.l1 l p s.1 s.2.1 s.2.2).run) (n := l.length) (fun i s => ((i : Int), s.1, s.2))
    (fun i s => s.1.length = i ∧ s.2.length = i ∧ FitM ((l.take i).map (·.ID)) s.1 s.2) (fun q => ∃ M o, q = .a (M, o) ∧ o.length = l.length ∧ FitM (l.map (·.ID)) M o)
    (fun i s hi ⟨h1, h2, h⟩ => by
      obtain ⟨M, o⟩ := s
      dsimp only at h1 h2 h ⊢
      have hx := List.getElem?_eq_getElem hi
      have hm := h3 _ (List.getElem_mem hi)
      have hr := hr _ (List.getElem_mem hi)
      have htk := List.take_succ_eq_append_getElem hi
      generalize l[i] = x at hx hm hr htk
      simp only [f8.l1, r_brr, L_eq, cast_lt_t hi, br_t, getR_s hx, succ_wr hi (by omega), r_apM]
      rw [if_pos (by simp; unfold bigLen; omega), bd_s, ap_s (by rw [List.length_append]; simp; unfold bigLen; omega), r_ret]
      refine .inl ⟨(_, _), rfl, by simp [h1], by simp [h2], fun z hz => ?_, fun m hm' a ha => ?_, ?_⟩
      · rcases List.mem_append.1 hz with h' | h'
        · obtain ⟨m, m1, m2⟩ := h.fit z h'
          have hlt : z.Label.i < M.length := (List.getElem?_eq_some_iff.1 m1).1
          exact ⟨m, by rw [List.getElem?_append_left hlt]; exact m1, m2⟩
        · have := List.mem_singleton.1 h'
          subst this
          exact ⟨x.Label, by simp, by simp, by simpa using hm⟩
      · rcases List.mem_append.1 hm' with h' | h'
        · exact h.mem m h' a ha
        · have := List.mem_singleton.1 h'
          subst this
          exact hr a (by simpa using ha)
      · rw [List.map_append, h.ids, htk, List.map_append]; rfl)
    (fun s ⟨h1, h2, h⟩ => ⟨.a s, by simp only [f8.l1, r_brr, L_eq, cast_lt_f (Nat.lt_irrefl _), br_f, r_ret], s.1, s.2, rfl, h2, by rw [List.take_length] at h; exact h⟩)
    (k := fuel) (by have := fuel_pos; omega) (a := ([], [])) ⟨rfl, rfl, by intro x hx; simp at hx, by intro x hx; simp at hx, rfl⟩
  have hq : loopN fuel (fun s : Int × List (List Int) × List NamedR => (f8.l1 l p s.1 s.2.1 s.2.2).run) ((0 : Int), [], []) = _ := hq
  obtain ⟨M', o', b1, b2⟩ := bend_run hp h2 (by omega)
  obtain ⟨y, y1, y2, y3, y4⟩ := named_fit b2
  simp only [f8.fm]
  rw [r_loop1, hq, bd_s, ex_a]
  dsimp only
  rw [r_loop1, b1, bd_s, ex_a]
  dsimp only
  rw [tellN_s y1, r_ret]
  exact ⟨y, rfl, y2, y3, y4⟩

theorem labs_labs (hg : VG g) : Labs g (labs g) := by
  refine ⟨by simp [labs], fun n hn => ?_, fun n hn a ha => ?_⟩
  · obtain ⟨v, _, rfl⟩ := List.mem_map.1 hn
    exact Nat.le_refl 3
  · obtain ⟨v, hv, rfl⟩ := List.mem_map.1 hn
    have hx : hasV g v.ID = true := hasV_iff.2 ⟨v, hv, rfl⟩
    have h1 := dp_range hg hx
    have h2 := rt_root hg hx
    obtain ⟨u, hu, e⟩ := hasV_iff.1 h2.1
    have h3 := hg.vid u hu
    have h4 : -1 ≤ ed g v.ID ∧ ed g v.ID ≤ 1000 := by
      rcases ed_spec hg hx with ⟨_, h⟩ | ⟨_, f, hf, h, _⟩
      · omega
      · have := hg.eid f (List.mem_filter.1 hf).1
        omega
    simp only [lb, List.mem_cons, List.not_mem_nil, or_false] at ha
    rcases ha with rfl | rfl | rfl
    · exact inI64_small (by omega)
    · exact inI64_small (by omega)
    · exact inI64_small h4

end Frs
end Go.Fx.Gen
