
/- Trade, walked: the steps are counted; Labels. -/
import Derived.Test.YtdbcggbkdljfiaaGreatTE
namespace Go.Fx.Gen
open Go.Fx Go.Proofs
set_option linter.unusedVariables false
namespace Trd
open Go.TT

/-- More about wishes: their edges are different, and lead to traders. -/
structure WsMore (ws : List (List Edge)) (T : List Int) : Prop extends WsOk ws T where
  ids : ∀ l ∈ ws, (l.map Edge.ID).Nodup
  tos : ∀ l ∈ ws, ∀ e ∈ l, e.To ∈ T
  nn : ∀ l ∈ ws, ∀ e ∈ l, 0 ≤ e.ID

variable {ws : List (List Edge)} {T : List Int}

/-- The wishes of one. -/
def row (ws : List (List Edge)) (v : Int) : List Edge := (ws[v.toNat]?).getD []
theorem row_mem (W : WsOk ws T) {v : Int} (h : 0 ≤ v ∧ v < 24) : ws[v.toNat]? = some (row ws v) ∧ row ws v ∈ ws := by
  have hlt : v.toNat < ws.length := by rw [W.len]; omega
  have : ws[v.toNat]? = some ws[v.toNat] := List.getElem?_eq_getElem hlt
  unfold row; rw [this]; exact ⟨rfl, List.getElem_mem hlt⟩
theorem pt_row (A : List Int) (v : Int) : pt ws A v = match (row ws v).find? fun e => decide (e.To ∈ A) with
    | some e => (e.To, e.ID)
    | none => (v, -1) := rfl

/-- Labels, as far as rounds and edges go. -/
structure LabR (lab : List A3_Int) (rx ex : Int → Int) : Prop where
  len : lab.length = 24
  at_ : ∀ x : Int, 0 ≤ x → x < 24 → ∃ n, lab[x.toNat]? = some ⟨rx x, ex x, n⟩

/-- What the rounds come to. -/
structure Fin (ws : List (List Edge)) (T : List Int) (rx ex : Int → Int) : Prop where
  tr : ∀ r v, Lv (nx ws) T r v → rx v = ((r + 1 : Nat) : Int) ∧ ex v = (pt ws (S ws T r) v).2
  small : ∀ r v, Lv (nx ws) T r v → r < 24

/-- Whether one was kept waiting. -/
def wts (ws : List (List Edge)) (rx ex : Int → Int) (v : Int) : Bool := match (row ws v).find? fun e => e.ID == ex v || rx e.To == rx v - 1 with
  | some e => !(e.ID == ex v)
  | none => false

theorem waits_run (W : WsMore ws T) {rx ex : Int → Int} {lab : List A3_Int} (hl : LabR lab rx ex) {v : Int} (hv : 0 ≤ v ∧ v < 24) (hr : -1000 ≤ rx v ∧ rx v ≤ 1000) (m : List (Int × Bool)) :
    (f89 v ws lab m).run = some (wts ws rx ex v) := by
  obtain ⟨hx, hm⟩ := row_mem W.toWsOk hv
  have hlen := W.row _ hm
  have htos := W.tos _ hm
  obtain ⟨n, hn⟩ := hl.at_ v hv.1 hv.2
  unfold wts
  generalize row ws v = l at hx hlen htos ⊢
  have key : loopN fuel (fun s => (f89.l1 v lab l s).run) (0 : Int) = _ := loop_find (l := l) (fun i : Nat => (i : Int)) (fun e => e.ID == ex v || rx e.To == rx v - 1) (fun _ e => (.a (!(e.ID == ex v)) : Ex Bool Unit Empty)) (.b ())
    (fun i e hi => by
      have hlt : i < l.length := (List.getElem?_eq_some_iff.1 hi).1
      have ht := W.rng _ (htos e (List.mem_of_getElem? hi))
      obtain ⟨k, hk⟩ := hl.at_ e.To ht.1 ht.2
      have w : IntKind.i64.wrap (rx v - 1) = rx v - 1 := wr
      simp only [f89.l1, r_brr, L_eq, cast_lt_t hlt, br_t, getR_s hi, succ_wr hlt (by omega)]
      rw [ck_t (by omega), rd_s hn, r_brr]
      cases h1 : (e.ID == ex v) with
      | true => simp only [br_t, r_ret, Bool.true_or, if_true, Bool.not_true]
      | false =>
        rw [br_f, ck_t (by omega), rd_s hk, ck_t (by omega), rd_s hn, r_brr]
        simp only [w, Bool.false_or, Bool.not_false]
        cases h2 : (rx e.To == rx v - 1) with
        | true => simp only [br_t, r_ret, if_true]
        | false => simp only [br_f, r_ret, Bool.false_eq_true, if_false])
    (by simp only [f89.l1, r_brr, L_eq, cast_lt_f (Nat.lt_irrefl _), br_f, r_ret]) (k := fuel) (by have := fuel_pos; omega)
  simp only [f89]
  rw [ck_t (by omega), rd_s hx, r_loop2, key, bd_s]
  cases h : l.findIdx? fun e => e.ID == ex v || rx e.To == rx v - 1 with
  | none =>
    have : (l.find? fun e => e.ID == ex v || rx e.To == rx v - 1) = none := List.find?_eq_none.2 fun x hx => by simpa using List.findIdx?_eq_none_iff.1 h x hx
    rw [this]; rfl
  | some i =>
    obtain ⟨h1, h2, h3⟩ := List.findIdx?_eq_some_iff_getElem.1 h
    have : (l.find? fun e => e.ID == ex v || rx e.To == rx v - 1) = some l[i] := by
      rw [List.find?_eq_some_iff_getElem]
      exact ⟨h2, i, h1, rfl, fun j hj => by simpa using h3 j hj⟩
    rw [this]; simp only [List.getElem?_eq_getElem h1]; rfl

/-- Who leaves alone in a later round was kept waiting. -/
theorem alone_waits (W : WsMore ws T) {rx ex : Int → Int} (F : Fin ws T rx ex) {r : Nat} {v : Int} (h : Lv (nx ws) T (r + 1) v) (ha : (row ws v).find? (fun e => decide (e.To ∈ S ws T (r + 1))) = none) : wts ws rx ex v = true := by
  have hv := S_rng W.toWsOk h.1
  have hm := (row_mem W.toWsOk hv).2
  have hex : ex v = -1 := by rw [(F.tr _ _ h).2, pt_row, ha]
  have hrx := (F.tr _ _ h).1
  -- a round earlier it pointed to somebody
  have hprev : v ∈ S ws T r := Sq_sub h.1
  have hnot : ¬ Lv (nx ws) T r v := fun k => by have := Lv.unique h k; omega
  have hex2 : ∃ e ∈ row ws v, e.To ∈ S ws T r := by
    apply Classical.byContradiction
    intro hn
    apply hnot
    refine ⟨hprev, (onC_iff (nx_closed ws) hprev).2 ⟨0, ?_⟩⟩
    show nx ws (S ws T r) v = v
    unfold nx
    rw [pt_row]
    have : (row ws v).find? (fun e => decide (e.To ∈ S ws T r)) = none := List.find?_eq_none.2 fun e he => by
      simp only [decide_eq_true_eq]; intro h; exact hn ⟨e, he, h⟩
    rw [this]
  obtain ⟨e, he, hS⟩ := hex2
  have hnS : e.To ∉ S ws T (r + 1) := by have := List.find?_eq_none.1 ha e he; simpa using this
  have hl : Lv (nx ws) T r e.To := by
    refine ⟨hS, ?_⟩
    cases ho : onC (nx ws) (S ws T r) e.To with
    | true => rfl
    | false => exact absurd (List.mem_filter.2 ⟨hS, by simp [ho]⟩) hnS
  have hre := (F.tr _ _ hl).1
  unfold wts
  have hp : (e.ID == ex v || rx e.To == rx v - 1) = true := by
    have : (rx e.To == rx v - 1) = true := by rw [hre, hrx, beq_iff_eq]; omega
    rw [this, Bool.or_true]
  cases hf : (row ws v).find? (fun e => e.ID == ex v || rx e.To == rx v - 1) with
  | none => have := List.find?_eq_none.1 hf e he; exact absurd hp this
  | some e' =>
    have := W.nn _ hm e' (List.mem_of_find?_eq_some hf)
    simp only [hex, Bool.not_eq_true', beq_eq_false_iff_ne]; omega

/-- What an edge's number stands for. -/
theorem find_id {l : List Edge} (hn : (l.map Edge.ID).Nodup) {e : Edge} (he : e ∈ l) : ∃ i, l.findIdx? (fun x => x.ID == e.ID) = some i ∧ l[i]? = some e := by
  obtain ⟨i, hi, rfl⟩ := List.getElem_of_mem he
  refine ⟨i, List.findIdx?_eq_some_iff_getElem.2 ⟨hi, by simp, fun j hj => ?_⟩, List.getElem?_eq_getElem hi⟩
  rw [List.nodup_iff_pairwise_ne, List.pairwise_map, List.pairwise_iff_getElem] at hn
  have := hn j i (by omega) hi hj
  simpa using this

theorem target_run (W : WsMore ws T) {rx ex : Int → Int} (F : Fin ws T rx ex) {lab : List A3_Int} (hl : LabR lab rx ex) {r : Nat} {v : Int} (h : Lv (nx ws) T r v) (hw : r ≠ 0 → wts ws rx ex v = false) (hr : r ≠ 0) (m : List (Int × Bool)) :
    ∃ (i : Nat) (e : Edge), (f62v1 (row ws v) v ws lab m).run = some (i : Int) ∧ (row ws v)[i]? = some e ∧ e.To = nx ws (S ws T r) v := by
  have hv := S_rng W.toWsOk h.1
  obtain ⟨hx, hm⟩ := row_mem W.toWsOk hv
  have hlen := W.row _ hm
  obtain ⟨n, hn⟩ := hl.at_ v hv.1 hv.2
  -- it does not leave alone
  have hsome : ∃ e, (row ws v).find? (fun e => decide (e.To ∈ S ws T r)) = some e := by
    cases hf : (row ws v).find? (fun e => decide (e.To ∈ S ws T r)) with
    | some e => exact ⟨e, rfl⟩
    | none =>
      obtain ⟨r', rfl⟩ : ∃ r', r = r' + 1 := ⟨r - 1, by omega⟩
      have := alone_waits W F h hf
      rw [hw hr] at this; cases this
  obtain ⟨e, hf⟩ := hsome
  have hptE : pt ws (S ws T r) v = (e.To, e.ID) := by rw [pt_row, hf]
  have hexE : ex v = e.ID := by rw [(F.tr _ _ h).2, hptE]
  obtain ⟨i, hi1, hi2⟩ := find_id (W.ids _ hm) (List.mem_of_find?_eq_some hf)
  refine ⟨i, e, ?_, hi2, by unfold nx; rw [hptE]⟩
  generalize row ws v = l at hlen hi1 hi2
  have key : loopN fuel (fun s => (f62v1.l1 l v ws lab m s).run) (0 : Int) = _ := loop_find (l := l) (fun i : Nat => (i : Int)) (fun x => x.ID == e.ID) (fun i _ => (.a (i : Int) : Ex Int Unit Empty)) (.b ())
    (fun i x hi => by
      have hlt : i < l.length := (List.getElem?_eq_some_iff.1 hi).1
      simp only [f62v1.l1, r_brr, L_eq, cast_lt_t hlt, br_t, getR_s hi, succ_wr hlt (by omega), r_cl, f90]
      rw [ck_t (by omega), rd_s hn, r_ret, bd_s, hexE, br_if, r_ret, r_ret])
    (by simp only [f62v1.l1, r_brr, L_eq, cast_lt_f (Nat.lt_irrefl _), br_f, r_ret]) (k := fuel) (by have := fuel_pos; omega)
  simp only [f62v1]
  rw [r_loop2, key, bd_s]
  simp only [hi1, hi2, ex_a, r_ret]

/-- The steps of one. -/
structure Cnt (ws : List (List Edge)) (T : List Int) (rx ex : Int → Int) (r : Nat) (v : Int) (n : Nat) : Prop where
  le : n ≤ 24
  zero : r = 0 → n = 0
  none : r ≠ 0 → ∀ j, j < n → wts ws rx ex (it (nx ws (S ws T r)) j v) = false
  stop : r ≠ 0 → n = 24 ∨ wts ws rx ex (it (nx ws (S ws T r)) n v) = true

theorem count_run (W : WsMore ws T) {rx ex : Int → Int} (F : Fin ws T rx ex) {lab : List A3_Int} (hl : LabR lab rx ex) {r : Nat} {v : Int} (h : Lv (nx ws) T r v) (m : List (Int × Bool)) :
    ∃ n : Nat, (f50 v ws lab m).run = some (lab.set v.toNat ⟨rx v, ex v, (n : Int)⟩) ∧ Cnt ws T rx ex r v n := by
  have hv := S_rng W.toWsOk h.1
  obtain ⟨k0, hk0⟩ := hl.at_ v hv.1 hv.2
  have hrx := (F.tr _ _ h).1
  have hrs := F.small _ _ h
  have hLv : ∀ n, Lv (nx ws) T r (it (nx ws (S ws T r)) n v) := by
    intro n
    induction n with
    | zero => exact h
    | succ n ih => rw [it_succ]; exact ih.next (nx_closed ws)
  obtain ⟨q, h1, n, rfl, hC⟩ := loop_of (f := fun s : Int × Int => (f50.l1 v ws lab m s.1 s.2).run)
    (fun s => ∃ n : Nat, s = ((n : Int), it (nx ws (S ws T r)) n v) ∧ n ≤ 24 ∧ (r = 0 → n = 0) ∧ (r ≠ 0 → ∀ j, j < n → wts ws rx ex (it (nx ws (S ws T r)) j v) = false))
    (fun q => ∃ n : Nat, q = .a (n : Int) ∧ Cnt ws T rx ex r v n) (fun s => (24 - s.1).toNat)
    (by
      rintro _ ⟨n, rfl, c1, c2, c3⟩
      have hat := hLv n
      have hav := S_rng W.toWsOk hat.1
      have hrat := (F.tr _ _ hat).1
      simp only [f50.l1, r_join1]
      rw [ck_t (by omega), rd_s hk0, r_brr]
      by_cases hr0 : r = 0
      · have e : decide (rx v > 1) = false := by rw [hrx, hr0]; simp
        rw [e, br_f, r_ret, bd_s, ex_a, r_brr, br_f, r_ret]
        exact .inr ⟨_, rfl, n, rfl, c1, c2, c3, fun hne => absurd hr0 hne⟩
      · have e : decide (rx v > 1) = true := by rw [hrx]; simp; omega
        rw [e, br_t, r_cl, waits_run W hl hav (by rw [hrat]; omega) m, bd_s, r_ret, bd_s, ex_a, r_brr]
        by_cases hw : wts ws rx ex (it (nx ws (S ws T r)) n v) = true
        · rw [hw]
          simp only [Bool.not_true, Bool.false_and, br_f, r_ret]
          exact .inr ⟨_, rfl, n, rfl, c1, c2, c3, fun _ => .inr hw⟩
        · have hw : wts ws rx ex (it (nx ws (S ws T r)) n v) = false := by simpa using hw
          rw [hw]
          by_cases h24 : n < 24
          · have e24 : decide ((n : Int) < 24) = true := by simp; omega
            simp only [e24, Bool.not_false, Bool.and_self, br_t]
            obtain ⟨hx, hm⟩ := row_mem W.toWsOk hav
            obtain ⟨i, e, t1, t2, t3⟩ := target_run W F hl hat (fun _ => hw) hr0 m
            have w : IntKind.i64.wrap ((n : Int) + 1) = ((n + 1 : Nat) : Int) := by rw [wr]; omega
            rw [ck_t (by omega), rd_s hx, r_cl, t1, bd_s, ck_t (by omega), rd_s hx, getR_s t2, r_ret, w, t3, ← it_succ (nx ws (S ws T r)) n v]
            refine .inl ⟨_, rfl, ⟨n + 1, rfl, by omega, fun h0 => absurd h0 hr0, ?_⟩, by simp; omega⟩
            intro _ j hj
            by_cases ej : j = n
            · subst ej; exact hw
            · exact c3 hr0 j (by omega)
          · have e24 : decide ((n : Int) < 24) = false := by simp; omega
            simp only [e24, Bool.and_false, br_f, r_ret]
            exact .inr ⟨_, rfl, n, rfl, c1, c2, c3, fun _ => .inl (by omega)⟩)
    fuel ((0 : Int), v) ⟨0, rfl, by omega, fun _ => rfl, by intro _ j hj; omega⟩ (by have := fuel_pos; simp; omega)
  refine ⟨n, ?_, hC⟩
  simp only [f50]
  rw [r_loop1, h1, bd_s, ex_a, ck_t (by omega), st_s hk0, r_ret]
end Trd
end Go.Fx.Gen
