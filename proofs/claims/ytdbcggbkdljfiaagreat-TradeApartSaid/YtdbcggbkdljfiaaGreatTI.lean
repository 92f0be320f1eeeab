
/- Trade, walked: the reference's wishes, Prefers, and what the laws read off. -/
import Derived.Test.YtdbcggbkdljfiaaGreatTH
namespace Go.Fx.Gen
open Go.Fx Go.Proofs
set_option linter.unusedVariables false
namespace Trd
open Go.TT
variable {g : Graph}

/-! clearwayref03.Place, clearwayref14.Trader, clearwayref14.Wishes -/
theorem place_run (hs : Small g) (x : Int) : ∃ r, (f45v1 g x).run = some r ∧ ((∃ i : Nat, r = (i : Int) ∧ ∃ v, g.Vertices[i]? = some v ∧ v.ID = x) ∨ (r = -1 ∧ ¬ InV g x)) := by
  have hsv := hs.v
  have key : loopN fuel (fun s => (f45v1.l1 g x s).run) (0 : Int) = _ := loop_find (l := g.Vertices) (fun i : Nat => (i : Int)) (fun v => v.ID == x) (fun i _ => (.a (i : Int) : Ex Int Unit Empty)) (.b ())
    (fun i v hi => by
      have hlt : i < g.Vertices.length := (List.getElem?_eq_some_iff.1 hi).1
      simp only [f45v1.l1, r_brr, L_eq, cast_lt_t hlt, br_t, getR_s hi, succ_wr hlt (by omega), r_ret]
      rw [br_if])
    (by simp only [f45v1.l1, r_brr, L_eq, cast_lt_f (Nat.lt_irrefl _), br_f, r_ret]) (k := fuel) (by have := fuel_pos; omega)
  simp only [f45v1]
  rw [r_loop2, key, bd_s]
  cases h : g.Vertices.findIdx? fun v => v.ID == x with
  | none =>
    refine ⟨-1, rfl, .inr ⟨rfl, ?_⟩⟩
    rintro ⟨v, hv, e⟩
    have := List.findIdx?_eq_none_iff.1 h v hv
    simp [e] at this
  | some i =>
    obtain ⟨h1, h2, _⟩ := List.findIdx?_eq_some_iff_getElem.1 h
    have hx := List.getElem?_eq_getElem h1
    simp only [hx, ex_a, r_ret]
    exact ⟨(i : Int), rfl, .inl ⟨i, rfl, _, hx, by simpa using h2⟩⟩

theorem same_v (hA : Asc Vertex.ID g.Vertices) {u v : Vertex} (hu : u ∈ g.Vertices) (hv : v ∈ g.Vertices) (e : u.ID = v.ID) : u = v := by
  obtain ⟨i, hi, rfl⟩ := List.getElem_of_mem hu
  obtain ⟨j, hj, rfl⟩ := List.getElem_of_mem hv
  have : i = j := by
    rcases Nat.lt_trichotomy i j with hh | hh | hh
    · have := hA i j hi hj hh; omega
    · exact hh
    · have := hA j i hj hi hh; omega
  subst this; rfl

theorem trader_run (hs : Small g) (hA : Asc Vertex.ID g.Vertices) (x : Int) : (f23 g x).run = some (decide (x ∈ trd g)) := by
  obtain ⟨r, h1, h2⟩ := place_run hs x
  simp only [f23, r_cl, h1, bd_s, r_brr]
  rcases h2 with ⟨i, rfl, v, hv, rfl⟩ | ⟨rfl, hn⟩
  · rw [nneg, br_t, getR_s hv, r_ret]
    congr 1
    rw [Bool.eq_iff_iff, beq_iff_eq, decide_eq_true_eq, mem_trs]
    constructor
    · intro h3; exact ⟨v, List.mem_of_getElem? hv, h3, rfl⟩
    · rintro ⟨u, hu, h3, e⟩
      rw [← same_v hA hu (List.mem_of_getElem? hv) e]; exact h3
  · have e : decide ((-1 : Int) ≥ 0) = false := by decide
    rw [e, br_f, r_ret]
    congr 1
    symm
    rw [decide_eq_false_iff_not, mem_trs]
    rintro ⟨u, hu, _, e⟩
    exact hn ⟨u, hu, e⟩

theorem refw_run (hs : Small g) (hA : Asc Vertex.ID g.Vertices) (v : Int) : (f25 g v).run = some (g.Edges.filter (isW (trd g) v)) := by
  have hse := hs.e
  obtain ⟨r, h1, rfl⟩ := loop_ix (A := List Edge) (f := fun s : Int × List Edge => (f25.l1 g v s.1 s.2).run) (n := g.Edges.length) (fun i a => ((i : Int), a)) (fun i a => a = (g.Edges.take i).filter (isW (trd g) v)) (fun r => r = .a (g.Edges.filter (isW (trd g) v)))
    (fun i a hi ha => by
      have hx := List.getElem?_eq_getElem hi
      have ht : (g.Edges.take (i + 1)).filter (isW (trd g) v) = if isW (trd g) v g.Edges[i] = true then a ++ [g.Edges[i]] else a := by
        rw [List.take_succ_eq_append_getElem hi, List.filter_append, ← ha]
        by_cases h : isW (trd g) v g.Edges[i] = true <;> simp [h]
      have hlen : a.length ≤ i := by rw [ha]; exact Nat.le_trans (List.length_filter_le ..) (by simp; omega)
      refine .inl ⟨_, ?_, ht.symm⟩
      simp only [f25.l1, r_brr, L_eq, cast_lt_t hi, br_t, getR_s hx, succ_wr hi (by omega), r_join1]
      generalize g.Edges[i] = x
      have hb : (br x.Directed (br (x.From == v) (br (x.To != v) ((cl (f23.ok g x.To) fun y17 => (retA' y17 : Pg (Ex Bool Empty Empty))).run) ((retA' false : Pg (Ex Bool Empty Empty)).run)) ((retA' false : Pg (Ex Bool Empty Empty)).run)) ((retA' false : Pg (Ex Bool Empty Empty)).run)) = some (.a (isW (trd g) v x)) := by
        simp only [r_cl, trader_run hs hA, bd_s, r_ret]
        unfold isW
        cases x.Directed <;> cases (x.From == v) <;> cases (x.To != v) <;> simp [br]
      rw [hb, bd_s, ex_a]
      by_cases h : isW (trd g) v x = true
      · rw [h, br_t, ap_s (by rw [List.length_append]; simp; unfold bigLen; omega), r_ret, if_pos rfl]
      · have h : isW (trd g) v x = false := by simpa using h
        rw [h, br_f, r_ret, if_neg (by simp)])
    (fun a ha => by
      rw [List.take_length] at ha
      subst ha
      exact ⟨_, by simp only [f25.l1, r_brr, L_eq, cast_lt_f (Nat.lt_irrefl _), br_f, r_ret], rfl⟩)
    (k := fuel) (by have := fuel_pos; omega) (a := []) (by simp)
  have h1 : loopN fuel (fun s : Int × List Edge => (f25.l1 g v s.1 s.2).run) ((0 : Int), ([] : List Edge)) = _ := h1
  simp only [f25]
  rw [r_loop1, h1, bd_s, ex_a, r_ret]

/-- The wishes of a trader, by number and by preference. -/
abbrev rw_ (g : Graph) (v : Int) : List Edge := g.Edges.filter (isW (trd g) v)

theorem mem_rw {v : Int} {e : Edge} : e ∈ rw_ g v ↔ e ∈ g.Edges ∧ e.Directed = true ∧ e.From = v ∧ e.To ≠ v ∧ e.To ∈ trd g := by
  unfold rw_ isW
  rw [List.mem_filter]; simp

theorem mem_rw_row (H : Ready g) {v : Int} (hv : v ∈ trd g) {e : Edge} : e ∈ rw_ g v ↔ e ∈ row (wsh g) v := by rw [mem_rw, mem_row H hv]

/-! Prefers -/
def plc (g : Graph) (v : Int) (id : Int) : Int := if id = -1 then (g.Edges.length : Int) else match (row (wsh g) v).findIdx? (fun e => e.ID == id) with
  | some i => (i : Int)
  | none => -1

theorem plc_run (H : Ready g) {v : Int} (hv : 0 ≤ v ∧ v < 24) (id : Int) : (f61v1 id g v (wsh g) (lab0 g) (mk (trd g))).run = some (plc g v id) := by
  have W := more H
  obtain ⟨hx, hm⟩ := row_mem W.toWsOk hv
  have hlen := W.row _ hm
  unfold plc
  simp only [f61v1, r_brr]
  by_cases h : id = -1
  · have e : (id == -1) = true := by simp [h]
    rw [e, br_t, r_ret, L_eq, if_pos h]
  · have e : (id == -1) = false := by simp [h]
    have hmax : (if 0 > v then 0 else v) = v := by rw [if_neg (by omega)]
    rw [e, br_f, if_neg h]
    simp only [hmax]
    rw [ck_t (by omega), rd_s hx]
    generalize row (wsh g) v = l at hlen
    have key : loopN fuel (fun s => (f62v5.l1 l id s).run) (0 : Int) = _ := loop_find (l := l) (fun i : Nat => (i : Int)) (fun x => x.ID == id) (fun i _ => (.a (i : Int) : Ex Int Unit Empty)) (.b ())
      (fun i x hi => by
        have hlt : i < l.length := (List.getElem?_eq_some_iff.1 hi).1
        simp only [f62v5.l1, r_brr, L_eq, cast_lt_t hlt, br_t, getR_s hi, succ_wr hlt (by omega), r_cl, f63v1, r_ret, bd_s]
        rw [br_if])
      (by simp only [f62v5.l1, r_brr, L_eq, cast_lt_f (Nat.lt_irrefl _), br_f, r_ret]) (k := fuel) (by have := fuel_pos; omega)
    have hc : (f62v5 l id).run = some (match l.findIdx? (fun e => e.ID == id) with | some i => (i : Int) | none => -1) := by
      simp only [f62v5]
      rw [r_loop2, key, bd_s]
      cases h : l.findIdx? fun e => e.ID == id with
      | none => rfl
      | some i =>
        obtain ⟨h1, _⟩ := List.findIdx?_eq_some_iff_getElem.1 h
        simp only [List.getElem?_eq_getElem h1, ex_a, r_ret]
    rw [r_cl, hc, bd_s, r_ret]

theorem prefers_run (H : Ready g) (v a b : Int) : (f27v1 g v a b).run = some (if v ∈ trd g ∧ 0 ≤ plc g v a ∧ 0 ≤ plc g v b then (decide (plc g v a < plc g v b), 0) else (false, 140)) := by
  obtain ⟨c, hb1, hb2⟩ := valid_run H.small
  have hc : c = true := hb2.2 H.gv
  subst hc
  have hop := open_run H.small H.e H.gv
  simp only [f27v1]
  rw [r_cl, hb1, bd_s, r_brr, Bool.not_true, br_f, r_cl, hop, bd_s, r_join1, r_brr]
  by_cases h0 : v < 0
  · have e : decide (v < 0) = true := by simp [h0]
    rw [e, br_t, r_ret, bd_s, ex_a, r_brr, br_t, r_ret, if_neg]
    rintro ⟨hv, _⟩; have := trd_range H.gv hv; omega
  · have e : decide (v < 0) = false := by simp; omega
    rw [e, br_f, r_brr]
    by_cases h24 : v ≥ 24
    · have e : decide (v ≥ 24) = true := by simp; omega
      rw [e, br_t, r_ret, bd_s, ex_a, r_brr, br_t, r_ret, if_neg]
      rintro ⟨hv, _⟩; have := trd_range H.gv hv; omega
    · have e : decide (v ≥ 24) = false := by simp; omega
      have hp := fun id => plc_run H (v := v) (by omega) id
      rw [e, br_f, r_look, look_mk, r_brr]
      by_cases hv : v ∈ trd g
      · simp only [hv, decide_true, Bool.not_true, br_f, true_and]
        rw [r_cl, hp, bd_s, r_brr]
        by_cases ha : plc g v a < 0
        · have e : decide (plc g v a < 0) = true := by simp [ha]
          rw [e, br_t, r_ret, bd_s, ex_a, r_brr, br_t, r_ret, if_neg]; omega
        · have e : decide (plc g v a < 0) = false := by simp; omega
          rw [e, br_f, r_cl, hp, bd_s, r_ret, bd_s, ex_a, r_brr]
          by_cases hb : plc g v b < 0
          · have e : decide (plc g v b < 0) = true := by simp [hb]
            rw [e, br_t, r_ret, if_neg]; omega
          · have e : decide (plc g v b < 0) = false := by simp; omega
            rw [e, br_f, r_cl, hp, bd_s, r_cl, hp, bd_s, r_ret, if_pos]; omega
      · simp only [hv, decide_false, Bool.not_false, br_t, false_and, if_false, r_ret, bd_s, ex_a, r_brr]

/-- What stands at a place. -/
theorem plc_mem (H : Ready g) {v : Int} (hv : v ∈ trd g) {e : Edge} (he : e ∈ row (wsh g) v) : ∃ i : Nat, plc g v e.ID = (i : Int) ∧ (row (wsh g) v)[i]? = some e ∧ i < g.Edges.length := by
  have W := more H
  obtain ⟨_, hm⟩ := row_mem W.toWsOk (trd_range H.gv hv)
  obtain ⟨i, h1, h2⟩ := find_id (W.ids _ hm) he
  have hlt := (List.getElem?_eq_some_iff.1 h2).1
  refine ⟨i, ?_, h2, ?_⟩
  · unfold plc
    rw [if_neg (by have := W.nn _ hm e he; omega), h1]
  · have : (row (wsh g) v).length ≤ g.Edges.length := by
      rw [row_wsh (trd_range H.gv hv), if_pos hv, (wish_perm H.e (eok_of H.gv)).length_eq]
      exact List.length_filter_le ..
    omega
theorem plc_alone (v : Int) : plc g v (-1) = (g.Edges.length : Int) := by unfold plc; rw [if_pos rfl]

/-! What the laws read off the labels. -/
def tabf (g : Graph) (f : Int → Int) (x : Nat) : Int := if g.Vertices.any (fun v => v.ID == (x : Int)) then f (x : Int) else 0

theorem tabf_v {f : Int → Int} {v : Vertex} (hv : v ∈ g.Vertices) (h : 0 ≤ v.ID) : tabf g f v.ID.toNat = f v.ID := by
  unfold tabf
  have : g.Vertices.any (fun u => u.ID == ((v.ID.toNat : Nat) : Int)) = true := List.any_eq_true.2 ⟨v, hv, by simp; omega⟩
  rw [this, if_pos rfl, show ((v.ID.toNat : Nat) : Int) = v.ID by omega]

end Trd
end Go.Fx.Gen
