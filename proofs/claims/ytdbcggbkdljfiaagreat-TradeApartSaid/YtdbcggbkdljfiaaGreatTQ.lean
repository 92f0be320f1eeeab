
/- Trade, the reference: Played, Fixed. -/
import Derived.Test.YtdbcggbkdljfiaaGreatTP
namespace Go.Fx.Gen
open Go.Fx Go.Proofs
set_option linter.unusedVariables false
namespace Trd
open Go.TT
variable {g : Graph} {N : Nat} {rx ex nn : Int → Int}

theorem tab_ext {α : Type} {f f' : Nat → α} (h : ∀ x, x < 24 → f x = f' x) : tab24 f = tab24 f' := by
  unfold tab24
  exact List.map_congr_left fun x hx => h x (List.mem_range.1 hx)

/-- Who has left before a round, and when. -/
def gone (g : Graph) (rx : Int → Int) (t : Nat) (x : Nat) : Int := if (x : Int) ∈ trd g ∧ (x : Int) ∉ SG g t then rx (x : Int) else 0

theorem rx_pos (O : Out g N rx ex nn) {x : Int} (hx : x ∈ trd g) : 1 ≤ rx x := by
  obtain ⟨r, L⟩ := leaves_of O hx
  rw [L.rx]; omega

theorem gone_iff (O : Out g N rx ex nn) {x : Int} (hx : x ∈ trd g) (h0 : 0 ≤ x) (t : Nat) : x ∈ SG g t ↔ gone g rx t x.toNat = 0 := by
  unfold gone
  rw [show ((x.toNat : Nat) : Int) = x by omega]
  by_cases h : x ∈ SG g t
  · rw [if_neg (fun hh => hh.2 h)]; exact ⟨fun _ => rfl, fun _ => h⟩
  · rw [if_pos ⟨hx, h⟩]
    have := rx_pos O hx
    exact ⟨fun h' => absurd h' h, fun h' => by omega⟩

/-- One goes along the points for 24 steps. -/
theorem turn_run (H : Ready g) (O : Out g N rx ex nn) (t : Nat) (T : Nat → Int) {v : Vertex} (hv : v.ID ∈ SG g t) :
    loopN fuel (fun s : Int × Int × List Int => (f67.l1 g ((t + 1 : Nat) : Int) (tab24 (gone g rx t)) v s.1 s.2.1 s.2.2).run) (v.ID, (0 : Int), tab24 T) =
      some (.a (tab24 fun x => if x = v.ID.toNat ∧ onC (nx (wsh g)) (SG g t) v.ID = true then ((t + 1 : Nat) : Int) else T x)) := by
  have W := more H
  have hc := nx_closed (wsh g)
  have hvt : v.ID ∈ trd g := Sq_mono (Nat.zero_le _) hv
  have hvr := trd_range H.gv hvt
  obtain ⟨q, hq, rfl⟩ := loop_ix (A := List Int) (f := fun s : Int × Int × List Int => (f67.l1 g ((t + 1 : Nat) : Int) (tab24 (gone g rx t)) v s.1 s.2.1 s.2.2).run) (n := 24)
    (fun k a => (it (nx (wsh g) (SG g t)) k v.ID, (k : Int), a))
    (fun k a => ∃ T' : Nat → Int, a = tab24 T' ∧ (∀ x, x ≠ v.ID.toNat → T' x = T x) ∧ ((∃ j, j < k ∧ it (nx (wsh g) (SG g t)) (j + 1) v.ID = v.ID) → T' v.ID.toNat = ((t + 1 : Nat) : Int)) ∧
      ((¬ ∃ j, j < k ∧ it (nx (wsh g) (SG g t)) (j + 1) v.ID = v.ID) → T' v.ID.toNat = T v.ID.toNat))
    (fun q => q = .a (tab24 fun x => if x = v.ID.toNat ∧ onC (nx (wsh g)) (SG g t) v.ID = true then ((t + 1 : Nat) : Int) else T x))
    (fun k a hk ⟨T', ha, b1, b2, b3⟩ => by
      subst ha
      have hat := it_mem (hc (SG g t)) k v.ID hv
      have hatt : it (nx (wsh g) (SG g t)) k v.ID ∈ trd g := Sq_mono (Nat.zero_le _) hat
      have hp := rpoints_run H hatt (lf := gone g rx t) (A := SG g t) (fun x hx => gone_iff O hx (trd_range H.gv hx).1 t)
      have e0 : decide ((k : Int) < 24) = true := decide_eq_true (by omega)
      have gT : (tab24 T')[v.ID.toNat]? = some (T' v.ID.toNat) := tab_get _ (by omega)
      simp only [f67.l1, r_brr, e0, br_t, r_cl, hp, bd_s, succ_wr hk (by omega), bst_to]
      rw [← it_succ (nx (wsh g) (SG g t)) k v.ID]
      by_cases h : it (nx (wsh g) (SG g t)) (k + 1) v.ID = v.ID
      · rw [show (it (nx (wsh g) (SG g t)) (k + 1) v.ID == v.ID) = true by simp [h], br_t, ck_t (by omega), st_s gT, r_ret, tab_set (g := fun x => if x = v.ID.toNat then ((t + 1 : Nat) : Int) else T' x) fun j _ => rfl]
        refine .inl ⟨_, rfl, _, rfl, fun x hx => by simp only [if_neg hx]; exact b1 x hx, fun _ => by simp, fun hn => absurd ⟨k, by omega, h⟩ hn⟩
      · rw [show (it (nx (wsh g) (SG g t)) (k + 1) v.ID == v.ID) = false by simp [h], br_f, r_ret]
        refine .inl ⟨_, rfl, T', rfl, b1, fun ⟨j, hj, hj2⟩ => b2 ⟨j, ?_, hj2⟩, fun hn => b3 fun ⟨j, hj, hj2⟩ => hn ⟨j, by omega, hj2⟩⟩
        have : j ≠ k := fun e => h (e ▸ hj2)
        omega)
    (fun a ⟨T', ha, b1, b2, b3⟩ => by
      subst ha
      refine ⟨.a (tab24 T'), by simp only [f67.l1, r_brr, show decide (((24 : Nat) : Int) < 24) = false from rfl, br_f, r_ret], ?_⟩
      congr 1
      refine tab_ext fun x hx => ?_
      by_cases e : x = v.ID.toNat
      · subst e
        by_cases ho : onC (nx (wsh g)) (SG g t) v.ID = true
        · rw [if_pos ⟨rfl, ho⟩]
          apply b2
          unfold onC at ho
          obtain ⟨j, j1, j2⟩ := List.any_eq_true.1 ho
          have : (SG g t).length ≤ 24 := S_len W.toWsOk
          have := List.mem_range.1 j1
          exact ⟨j, by omega, by simpa using j2⟩
        · rw [if_neg (fun h => ho h.2)]
          apply b3
          rintro ⟨j, _, hj⟩
          exact ho ((onC_iff hc hv).2 ⟨j, hj⟩)
      · rw [if_neg (fun h => e h.1)]; exact b1 x e)
    (k := fuel) (by have := fuel_pos; omega) (a := tab24 T) ⟨T, rfl, fun _ _ => rfl, fun ⟨j, h, _⟩ => by omega, fun _ => rfl⟩
  exact hq

theorem round_run (H : Ready g) (O : Out g N rx ex nn) (t : Nat) :
    loopN fuel (fun s : Int × List Int => (f67.l2 g ((t + 1 : Nat) : Int) (tab24 (gone g rx t)) s.1 s.2).run) ((0 : Int), tab24 (gone g rx t)) = some (.a (tab24 (gone g rx (t + 1)))) := by
  have hsv := H.small.v
  obtain ⟨q, hq, rfl⟩ := loop_ix (A := List Int) (f := fun s : Int × List Int => (f67.l2 g ((t + 1 : Nat) : Int) (tab24 (gone g rx t)) s.1 s.2).run) (n := g.Vertices.length) (fun i a => ((i : Int), a))
    (fun i a => a = tab24 fun x => if (∃ v ∈ g.Vertices.take i, v.ID.toNat = x) ∧ (x : Int) ∈ SG g t ∧ onC (nx (wsh g)) (SG g t) (x : Int) = true then ((t + 1 : Nat) : Int) else gone g rx t x)
    (fun q => q = .a (tab24 (gone g rx (t + 1))))
    (fun i a hi ha => by
      have hx := List.getElem?_eq_getElem hi
      have htk := List.take_succ_eq_append_getElem hi
      have hm : g.Vertices[i] ∈ g.Vertices := List.getElem_mem hi
      rw [htk]
      generalize g.Vertices[i] = v at hx hm
      have hid := (H.gv.v _ hm).id
      have hcast : ((v.ID.toNat : Nat) : Int) = v.ID := by omega
      have gl : (tab24 (gone g rx t))[v.ID.toNat]? = some (gone g rx t v.ID.toNat) := tab_get _ (by omega)
      simp only [f67.l2, r_brr, r_join1, L_eq, cast_lt_t hi, br_t, getR_s hx, succ_wr hi (by omega)]
      rw [ck_t (by omega), rd_s gl, r_brr]
      have skip : ∀ a', a' = a → v.ID ∉ SG g t → a' = tab24 fun x => if (∃ u ∈ g.Vertices.take i ++ [v], u.ID.toNat = x) ∧ (x : Int) ∈ SG g t ∧ onC (nx (wsh g)) (SG g t) (x : Int) = true then ((t + 1 : Nat) : Int) else gone g rx t x := by
        intro a' e hn
        rw [e, ha]
        refine tab_ext fun x hx => ?_
        by_cases e : x = v.ID.toNat
        · subst e; rw [hcast, if_neg (fun h => hn h.2.1), if_neg (fun h => hn h.2.1)]
        · have : (∃ u ∈ g.Vertices.take i ++ [v], u.ID.toNat = x) ↔ ∃ u ∈ g.Vertices.take i, u.ID.toNat = x := by
            constructor
            · rintro ⟨u, hu, h⟩
              rcases List.mem_append.1 hu with hu | hu
              · exact ⟨u, hu, h⟩
              · rw [List.mem_singleton.1 hu] at h; exact absurd h.symm e
            · rintro ⟨u, hu, h⟩; exact ⟨u, List.mem_append.2 (.inl hu), h⟩
          simp only [this]
      by_cases hg : gone g rx t v.ID.toNat > 0
      · rw [decide_eq_true hg, br_t, r_ret, bd_s, ex_a, br_t, r_ret]
        refine .inl ⟨a, rfl, skip a rfl fun h => ?_⟩
        have := (gone_iff O (Sq_mono (Nat.zero_le _) h) hid.1 t).1 h
        omega
      · rw [decide_eq_false hg, br_f, r_cl, trader_run H.small H.gv.va, bd_s, r_ret, bd_s, ex_a]
        by_cases hvt : v.ID ∈ trd g
        · have hS : v.ID ∈ SG g t := by
            apply Classical.byContradiction
            intro h
            apply hg
            unfold gone
            rw [hcast, if_pos ⟨hvt, h⟩]
            have := rx_pos O hvt; omega
          have htr := fun T => turn_run H O t T hS
          rw [decide_eq_true hvt, Bool.not_true, br_f, ha, r_loop1, htr, bd_s, ex_a, r_ret]
          refine .inl ⟨_, rfl, ?_⟩
          refine tab_ext fun x hx => ?_
          by_cases e : x = v.ID.toNat
          · subst e
            rw [hcast]
            by_cases ho : onC (nx (wsh g)) (SG g t) v.ID = true
            · rw [if_pos ⟨rfl, ho⟩, if_pos ⟨⟨v, by simp, rfl⟩, hS, ho⟩]
            · rw [if_neg (fun h => ho h.2), if_neg (fun h => ho h.2.2), if_neg (fun h => ho h.2.2)]
          · rw [if_neg (fun h => e h.1)]
            have : (∃ u ∈ g.Vertices.take i ++ [v], u.ID.toNat = x) ↔ ∃ u ∈ g.Vertices.take i, u.ID.toNat = x := by
              constructor
              · rintro ⟨u, hu, h⟩
                rcases List.mem_append.1 hu with hu | hu
                · exact ⟨u, hu, h⟩
                · rw [List.mem_singleton.1 hu] at h; exact absurd h.symm e
              · rintro ⟨u, hu, h⟩; exact ⟨u, List.mem_append.2 (.inl hu), h⟩
            simp only [this]
        · rw [decide_eq_false hvt, Bool.not_false, br_t, r_ret]
          exact .inl ⟨a, rfl, skip a rfl fun h => hvt (Sq_mono (Nat.zero_le _) h)⟩)
    (fun a ha => by
      rw [List.take_length] at ha
      subst ha
      refine ⟨_, by simp only [f67.l2, r_brr, L_eq, cast_lt_f (Nat.lt_irrefl _), br_f, r_ret] <;> rfl, ?_⟩
      congr 1
      refine tab_ext fun x hx => ?_
      by_cases hS : (x : Int) ∈ SG g t
      · have hxt : (x : Int) ∈ trd g := Sq_mono (Nat.zero_le _) hS
        obtain ⟨v, hv, _, he⟩ := mem_trs.1 hxt
        by_cases ho : onC (nx (wsh g)) (SG g t) (x : Int) = true
        · rw [if_pos ⟨⟨v, hv, by omega⟩, hS, ho⟩]
          have hl : LG g t (x : Int) := ⟨hS, ho⟩
          unfold gone
          have hne : (x : Int) ∉ SG g (t + 1) := fun h => by have := (hl.left (trd g)).1 h; omega
          rw [if_pos ⟨hxt, hne⟩, (O.fin.tr _ _ hl).1]
        · rw [if_neg (fun h => ho h.2.2)]
          have h1 : (x : Int) ∈ SG g (t + 1) := List.mem_filter.2 ⟨hS, by simpa using ho⟩
          unfold gone
          rw [if_neg (fun h => h.2 hS), if_neg (fun h => h.2 h1)]
      · rw [if_neg (fun h => hS h.2.1)]
        have h1 : (x : Int) ∉ SG g (t + 1) := fun h => hS (Sq_sub h)
        unfold gone
        by_cases hxt : (x : Int) ∈ trd g
        · rw [if_pos ⟨hxt, hS⟩, if_pos ⟨hxt, h1⟩]
        · rw [if_neg (fun h => hxt h.1), if_neg (fun h => hxt h.1)])
    (k := fuel) (by have := fuel_pos; omega) (a := tab24 (gone g rx t)) (tab_ext fun x _ => by rw [if_neg]; rintro ⟨⟨v, hv, _⟩, _⟩; simp at hv)
  exact hq

theorem tabf_zero (H : Ready g) (O : Out g N rx ex nn) {x : Nat} (h : (x : Int) ∉ trd g) : tabf g rx x = 0 := by
  unfold tabf
  by_cases hv : g.Vertices.any (fun v => v.ID == (x : Int)) = true
  · rw [if_pos hv]
    obtain ⟨v, hv, e⟩ := List.any_eq_true.1 hv
    have e : v.ID = (x : Int) := by simpa using e
    have h3 : v.Side ≠ 3 := fun h3 => h (mem_trs.2 ⟨v, hv, h3, e⟩)
    rw [← e]; exact (O.none v hv h3).1
  · rw [if_neg hv]

theorem tabf_nat (H : Ready g) {f : Int → Int} {x : Nat} (h : (x : Int) ∈ trd g) : tabf g f x = f (x : Int) := by
  have := tabf_t H (f := f) h
  simpa using this

theorem played_run (H : Ready g) (O : Out g N rx ex nn) : (f67 g).run = some (tab24 (tabf g rx)) := by
  have W := more H
  obtain ⟨q, hq, rfl⟩ := loop_ix (A := List Int) (f := fun s : Int × List Int => (f67.l3 g s.1 s.2).run) (n := 24) (fun t a => (((t + 1 : Nat) : Int), a))
    (fun t a => a = tab24 (gone g rx t)) (fun q => q = .a (tab24 (tabf g rx)))
    (fun t a ht ha => by
      subst ha
      have e0 : decide (((t + 1 : Nat) : Int) ≤ 24) = true := decide_eq_true (by omega)
      simp only [f67.l3, r_brr, e0, br_t]
      rw [r_loop1, round_run H O t, bd_s, ex_a, r_ret, succ_wr (show t + 1 < 26 by omega) (by omega)]
      exact .inl ⟨_, rfl, rfl⟩)
    (fun a ha => by
      subst ha
      refine ⟨_, by simp only [f67.l3, r_brr, show decide (((24 + 1 : Nat) : Int) ≤ 24) = false from rfl, br_f, r_ret] <;> rfl, ?_⟩
      congr 1
      refine tab_ext fun x hx => ?_
      unfold gone
      by_cases hxt : (x : Int) ∈ trd g
      · obtain ⟨r, L⟩ := leaves_of O hxt
        have hne : (x : Int) ∉ SG g 24 := fun h => by
          have := (L.lv.left (trd g)).1 h
          have := L.r24
          omega
        rw [if_pos ⟨hxt, hne⟩, tabf_nat H hxt]
      · rw [if_neg (fun h => hxt h.1), tabf_zero H O hxt])
    (k := fuel) (by have := fuel_pos; omega) (a := List.replicate 24 (0 : Int)) (by
      rw [tab_rep]
      refine tab_ext fun x _ => ?_
      unfold gone
      rw [if_neg]
      rintro ⟨h1, h2⟩; exact h2 h1)
  have hq : loopN fuel (fun s : Int × List Int => (f67.l3 g s.1 s.2).run) ((1 : Int), List.replicate 24 (0 : Int)) = _ := hq
  simp only [f67]
  rw [r_loop1, hq, bd_s, ex_a, r_ret]

/-- Who left before one. -/
def prior (g : Graph) (rx : Int → Int) (v : Int) (n : Nat) (u : Nat) : Int := if u < n ∧ tabf g rx u > 0 ∧ tabf g rx u < tabf g rx v.toNat then 1 else 0

theorem prior_run (H : Ready g) {v : Vertex} (hid : 0 ≤ v.ID ∧ v.ID ≤ 23) :
    loopN fuel (fun s : Int × List Int => (f34.l1 (tab24 (tabf g rx)) v s.1 s.2).run) ((0 : Int), List.replicate 24 (0 : Int)) = some (.a (tab24 (prior g rx v.ID 24))) := by
  obtain ⟨q, hq, rfl⟩ := loop_ix (A := List Int) (f := fun s : Int × List Int => (f34.l1 (tab24 (tabf g rx)) v s.1 s.2).run) (n := 24) (fun i a => ((i : Int), a))
    (fun i a => a = tab24 (prior g rx v.ID i)) (fun q => q = .a (tab24 (prior g rx v.ID 24)))
    (fun i a hi ha => by
      subst ha
      have e0 : decide ((i : Int) < 24) = true := decide_eq_true (by omega)
      have g1 : (tab24 (tabf g rx))[((i : Int)).toNat]? = some (tabf g rx i) := by rw [tab_get _ (by omega)]; simp
      have g2 : (tab24 (tabf g rx))[v.ID.toNat]? = some (tabf g rx v.ID.toNat) := tab_get _ (by omega)
      have g3 : (tab24 (prior g rx v.ID i))[((i : Int)).toNat]? = some (prior g rx v.ID i i) := by rw [tab_get _ (by omega)]; simp
      simp only [f34.l1, r_brr, e0, br_t, succ_wr hi (by omega)]
      rw [ck_t (by omega), rd_s g1, r_brr]
      have step : ∀ b : Bool, (b = true ↔ tabf g rx i > 0 ∧ tabf g rx i < tabf g rx v.ID.toNat) → tab24 (prior g rx v.ID (i + 1)) = if b = true then tab24 (fun x => if x = i then 1 else prior g rx v.ID i x) else tab24 (prior g rx v.ID i) := by
        intro b hb
        by_cases h : b = true
        · rw [if_pos h]
          refine tab_ext fun x _ => ?_
          by_cases e : x = i
          · subst e; unfold prior; rw [if_pos ⟨by omega, hb.1 h⟩, if_pos rfl]
          · rw [if_neg e]; unfold prior
            by_cases hx : x < i
            · simp only [show x < i + 1 by omega, hx]
            · simp only [show ¬ x < i + 1 by omega, hx]
        · rw [if_neg h]
          refine tab_ext fun x _ => ?_
          unfold prior
          by_cases e : x = i
          · subst e; rw [if_neg (fun hh => h (hb.2 hh.2)), if_neg (fun hh => by omega)]
          · by_cases hx : x < i
            · simp only [show x < i + 1 by omega, hx]
            · simp only [show ¬ x < i + 1 by omega, hx]
      by_cases h1 : tabf g rx i > 0
      · rw [decide_eq_true h1, br_t, ck_t (by omega), rd_s g1, ck_t (by omega), rd_s g2, r_brr]
        by_cases h2 : tabf g rx i < tabf g rx v.ID.toNat
        · rw [decide_eq_true h2, br_t, ck_t (by omega), st_s g3, r_ret, tab_set (g := fun x => if x = i then 1 else prior g rx v.ID i x) fun j _ => by simp]
          exact .inl ⟨_, rfl, by rw [step true (by simp [h1, h2]), if_pos rfl]⟩
        · rw [decide_eq_false h2, br_f, r_ret]
          exact .inl ⟨_, rfl, by rw [step false ⟨fun h => (by cases h), fun h => absurd h.2 h2⟩, if_neg (by simp)]⟩
      · rw [decide_eq_false h1, br_f, r_ret]
        exact .inl ⟨_, rfl, by rw [step false ⟨fun h => (by cases h), fun h => absurd h.1 h1⟩, if_neg (by simp)]⟩)
    (fun a ha => by
      subst ha
      exact ⟨_, by simp only [f34.l1, r_brr, show decide (((24 : Nat) : Int) < 24) = false from rfl, br_f, r_ret] <;> rfl, rfl⟩)
    (k := fuel) (by have := fuel_pos; omega) (a := List.replicate 24 (0 : Int)) (by
      rw [tab_rep]
      refine tab_ext fun x _ => ?_
      unfold prior; rw [if_neg]; omega)
  exact hq

theorem prior_iff (H : Ready g) (O : Out g N rx ex nn) {r : Nat} {v : Int} (L : Leaves g rx ex r v) : ∀ x ∈ trd g, x ∈ SG g r ↔ prior g rx v 24 x.toNat = 0 := by
  intro x hx
  have hxr := trd_range H.gv hx
  have hvr := trd_range H.gv L.mem
  obtain ⟨s, Ls⟩ := leaves_of O hx
  have e1 : tabf g rx x.toNat = rx x := tabf_t H hx
  have e2 : tabf g rx v.toNat = rx v := tabf_t H L.mem
  have h1 := L.rx
  have h2 := Ls.rx
  have h3 : x ∈ SG g r ↔ r ≤ s := Ls.lv.left (trd g)
  rw [h3]
  unfold prior
  rw [e1, e2]
  by_cases h : x.toNat < 24 ∧ rx x > 0 ∧ rx x < rx v
  · rw [if_pos h]
    obtain ⟨_, _, h⟩ := h
    exact ⟨fun h' => by omega, fun h' => by omega⟩
  · rw [if_neg h]
    exact ⟨fun _ => rfl, fun _ => by omega⟩

/-- The rounds, and the edges with which traders leave. -/
theorem fixed_run (H : Ready g) (O : Out g N rx ex nn) : ∃ E : Nat → Edge, (f34 g).run = some (tab24 (tabf g rx), tab24 E) ∧ ∀ r v, Leaves g rx ex r v → E v.toNat = bst g (SG g r) v := by
  have hsv := H.small.v
  obtain ⟨q, hq, E, rfl, hE⟩ := loop_ix (A := List Edge) (f := fun s : Int × List Edge => (f34.l2 g (tab24 (tabf g rx)) s.1 s.2).run) (n := g.Vertices.length) (fun i a => ((i : Int), a))
    (fun i a => ∃ E : Nat → Edge, a = tab24 E ∧ ∀ u ∈ g.Vertices.take i, ∀ r, Leaves g rx ex r u.ID → E u.ID.toNat = bst g (SG g r) u.ID)
    (fun q => ∃ E : Nat → Edge, q = .a (tab24 E) ∧ ∀ u ∈ g.Vertices, ∀ r, Leaves g rx ex r u.ID → E u.ID.toNat = bst g (SG g r) u.ID)
    (fun i a hi ⟨E, ha, hE⟩ => by
      subst ha
      have hx := List.getElem?_eq_getElem hi
      have htk := List.take_succ_eq_append_getElem hi
      have hm : g.Vertices[i] ∈ g.Vertices := List.getElem_mem hi
      rw [htk]
      generalize g.Vertices[i] = v at hx hm
      have hid := (H.gv.v _ hm).id
      have gE : (tab24 E)[v.ID.toNat]? = some (E v.ID.toNat) := tab_get _ (by omega)
      obtain ⟨b, b1, _⟩ := best_run H v.ID (prior g rx v.ID 24)
      simp only [f34.l2, r_brr, L_eq, cast_lt_t hi, br_t, getR_s hx, succ_wr hi (by omega)]
      rw [r_loop1, prior_run H hid, bd_s, ex_a, r_cl, b1, bd_s, ck_t (by omega), st_s gE, r_ret, tab_set (g := fun x => if x = v.ID.toNat then b else E x) fun j _ => rfl]
      refine .inl ⟨_, rfl, _, rfl, fun u hu r L => ?_⟩
      have hur := trd_range H.gv L.mem
      by_cases e : u.ID = v.ID
      · rw [e] at L ⊢
        simp only [if_pos]
        have := rpoints_run H L.mem (prior_iff H O L)
        rw [b1] at this
        exact Option.some.inj this
      · rw [if_neg (by omega)]
        rcases List.mem_append.1 hu with h | h
        · exact hE u h r L
        · rw [List.mem_singleton.1 h] at e; exact absurd rfl e)
    (fun a ⟨E, ha, hE⟩ => by
      subst ha
      rw [List.take_length] at hE
      exact ⟨_, by simp only [f34.l2, r_brr, L_eq, cast_lt_f (Nat.lt_irrefl _), br_f, r_ret] <;> rfl, E, rfl, hE⟩)
    (k := fuel) (by have := fuel_pos; omega) (a := List.replicate 24 (Edge.mk 0 0 0 false 0 0)) ⟨fun _ => Edge.mk 0 0 0 false 0 0, tab_rep _, by simp⟩
  have hq : loopN fuel (fun s : Int × List Edge => (f34.l2 g (tab24 (tabf g rx)) s.1 s.2).run) ((0 : Int), List.replicate 24 (Edge.mk 0 0 0 false 0 0)) = _ := hq
  refine ⟨E, ?_, fun r v L => ?_⟩
  · simp only [f34]
    rw [r_cl, played_run H O, bd_s, r_loop1, hq, bd_s, ex_a, r_ret]
  · obtain ⟨u, hu, _, rfl⟩ := mem_trs.1 L.mem
    exact hE u hu r L
end Trd
end Go.Fx.Gen
