
/- Trade, plain: who leaves with which edge. -/
import Derived.Test.YtdbcggbkdljfiaaGreatTI
namespace Go.Fx.Gen
open Go.Fx Go.Proofs
set_option linter.unusedVariables false
namespace Trd
open Go.TT
variable {g : Graph} {N : Nat} {rx ex nn : Int → Int}

abbrev fst_ (g : Graph) (A : List Int) (v : Int) : Option Edge := (row (wsh g) v).find? fun e => decide (e.To ∈ A)

theorem nx_fst (A : List Int) (v : Int) : nx (wsh g) A v = match fst_ g A v with | some e => e.To | none => v := by
  unfold nx fst_; rw [pt_row]
  cases (row (wsh g) v).find? fun e => decide (e.To ∈ A) <;> rfl

/-- How a trader leaves. -/
structure Leaves (g : Graph) (rx ex : Int → Int) (r : Nat) (v : Int) : Prop where
  lv : LG g r v
  rx : rx v = ((r + 1 : Nat) : Int)
  r24 : r < 24
  way : (∃ e, fst_ g (SG g r) v = some e ∧ ex v = e.ID) ∨ (fst_ g (SG g r) v = none ∧ ex v = -1)

theorem leaves_of (O : Out g N rx ex nn) {v : Int} (hv : v ∈ trd g) : ∃ r, Leaves g rx ex r v := by
  obtain ⟨r, hr⟩ := TT.leaves (nx_closed (wsh g)) hv
  refine ⟨r, hr, (O.fin.tr r v hr).1, O.fin.small r v hr, ?_⟩
  have h2 := (O.fin.tr r v hr).2
  rw [h2, pt_row]
  cases hf : (row (wsh g) v).find? (fun e => decide (e.To ∈ SG g r)) with
  | some e => exact .inl ⟨e, hf, rfl⟩
  | none => exact .inr ⟨hf, rfl⟩

theorem Leaves.mem {r : Nat} {v : Int} (L : Leaves g rx ex r v) : v ∈ trd g := Sq_mono (Nat.zero_le _) L.lv.1
theorem Leaves.next {r : Nat} {v : Int} (L : Leaves g rx ex r v) : LG g r (nx (wsh g) (SG g r) v) := L.lv.next (nx_closed _)

theorem fst_mem {A : List Int} {v : Int} {e : Edge} (h : fst_ g A v = some e) : e ∈ row (wsh g) v ∧ e.To ∈ A := ⟨List.mem_of_find?_eq_some h, by have := List.find?_some h; simpa using this⟩

theorem Leaves.exn (H : Ready g) {r : Nat} {v : Int} (L : Leaves g rx ex r v) : 0 ≤ plc g v (ex v) := by
  rcases L.way with ⟨e, he, h1⟩ | ⟨_, h1⟩
  · rw [h1]; obtain ⟨i, h, _⟩ := plc_mem H L.mem (fst_mem he).1; omega
  · rw [h1, plc_alone]; omega

/-- Whoever is preferred has left. -/
theorem Leaves.before (H : Ready g) {r : Nat} {v : Int} (L : Leaves g rx ex r v) {e : Edge} (he : e ∈ row (wsh g) v) (hp : plc g v e.ID < plc g v (ex v)) : e.To ∉ SG g r := by
  obtain ⟨i, i1, i2, i3⟩ := plc_mem H L.mem he
  rcases L.way with ⟨e', hf, h1⟩ | ⟨hf, h1⟩
  · intro hS
    obtain ⟨j, j1, j2, j3⟩ := plc_mem H L.mem (fst_mem hf).1
    rw [h1, i1, j1] at hp
    rw [List.find?_eq_some_iff_getElem] at hf
    obtain ⟨k1, k, k2, k3, k4⟩ := hf
    have W := more H
    obtain ⟨_, hm⟩ := row_mem W.toWsOk (trd_range H.gv L.mem)
    have hn := W.ids _ hm
    -- both stand at the same place
    have hkj : k = j := by
      have hj := (List.getElem?_eq_some_iff.1 j2).1
      have hjv := (List.getElem?_eq_some_iff.1 j2).2
      rw [List.nodup_iff_pairwise_ne, List.pairwise_map, List.pairwise_iff_getElem] at hn
      rcases Nat.lt_trichotomy k j with h | h | h
      · have := hn k j k2 hj h; rw [k3, hjv] at this; exact absurd rfl this
      · exact h
      · have := hn j k hj k2 h; rw [k3, hjv] at this; exact absurd rfl this
    have hi : i < (row (wsh g) v).length := (List.getElem?_eq_some_iff.1 i2).1
    have := k4 i (by omega)
    rw [(List.getElem?_eq_some_iff.1 i2).2] at this
    simp [hS] at this
  · have := List.find?_eq_none.1 hf e he; simpa using this

theorem left_before {r : Nat} {x : Int} (hx : x ∈ trd g) (h : x ∉ SG g r) (O : Out g N rx ex nn) : ∃ s, Leaves g rx ex s x ∧ s < r := by
  obtain ⟨s, hs⟩ := leaves_of O hx
  refine ⟨s, hs, ?_⟩
  apply Classical.byContradiction
  intro hn
  exact h ((hs.lv.left (trd g)).2 (by omega))

theorem edge_same (H : Ready g) {v : Int} (hv : v ∈ trd g) {e e' : Edge} (he : e ∈ row (wsh g) v) (he' : e' ∈ row (wsh g) v) (h : e.ID = e'.ID) : e = e' := by
  have W := more H
  obtain ⟨_, hm⟩ := row_mem W.toWsOk (trd_range H.gv hv)
  have hn := W.ids _ hm
  obtain ⟨i, hi, rfl⟩ := List.getElem_of_mem he
  obtain ⟨j, hj, rfl⟩ := List.getElem_of_mem he'
  rw [List.nodup_iff_pairwise_ne, List.pairwise_map, List.pairwise_iff_getElem] at hn
  rcases Nat.lt_trichotomy i j with hh | hh | hh
  · exact absurd h (hn i j hi hj hh)
  · subst hh; rfl
  · exact absurd h.symm (hn j i hj hi hh)

/-- To whom a trader's edge leads. -/
def tg (g : Graph) (rx : Int → Int) (v : Int) : Int := nx (wsh g) (SG g (rx v - 1).toNat) v
theorem Leaves.tg {r : Nat} {v : Int} (L : Leaves g rx ex r v) : tg g rx v = nx (wsh g) (SG g r) v := by
  unfold Trd.tg; rw [L.rx, show (((r + 1 : Nat) : Int) - 1).toNat = r by omega]

theorem Leaves.ex_cases (H : Ready g) {r : Nat} {v : Int} (L : Leaves g rx ex r v) :
    (ex v = -1 ∧ Trd.tg g rx v = v) ∨ (0 ≤ ex v ∧ ∃ e ∈ row (wsh g) v, ex v = e.ID ∧ Trd.tg g rx v = e.To ∧ e.To ≠ v) := by
  rw [L.tg, nx_fst]
  rcases L.way with ⟨e, hf, h1⟩ | ⟨hf, h1⟩
  · refine .inr ⟨?_, e, (fst_mem hf).1, h1, by rw [hf], ((mem_row H L.mem).1 (fst_mem hf).1).2.2.2.1⟩
    have W := more H
    obtain ⟨_, hm⟩ := row_mem W.toWsOk (trd_range H.gv L.mem)
    rw [h1]; exact W.nn _ hm e (fst_mem hf).1
  · exact .inl ⟨h1, by rw [hf]⟩

theorem tg_inj (O : Out g N rx ex nn) {u v : Int} (hu : u ∈ trd g) (hv : v ∈ trd g) (h : tg g rx u = tg g rx v) : u = v := by
  obtain ⟨r, Lu⟩ := leaves_of O hu
  obtain ⟨s, Lv⟩ := leaves_of O hv
  rw [Lu.tg, Lv.tg] at h
  have h1 := Lu.next
  have h2 := Lv.next
  rw [h] at h1
  have : r = s := h1.unique h2
  subst this
  exact TT.Lv.inj (nx_closed _) Lu.lv Lv.lv h

theorem tg_mem (O : Out g N rx ex nn) {u : Int} (hu : u ∈ trd g) : tg g rx u ∈ trd g ∧ rx (tg g rx u) = rx u := by
  obtain ⟨r, Lu⟩ := leaves_of O hu
  have h := Lu.next
  rw [← Lu.tg] at h
  exact ⟨Sq_mono (Nat.zero_le _) h.1, by rw [(O.fin.tr _ _ h).1, Lu.rx]⟩

theorem tg_surj (O : Out g N rx ex nn) {x : Int} (hx : x ∈ trd g) : ∃ u ∈ trd g, tg g rx u = x := by
  obtain ⟨r, L⟩ := leaves_of O hx
  obtain ⟨u, hu, e⟩ := TT.Lv.prev (nx_closed _) L.lv
  have hut : u ∈ trd g := Sq_mono (Nat.zero_le _) hu.1
  obtain ⟨s, Lu⟩ := leaves_of O hut
  have : s = r := Lu.lv.unique hu
  subst this
  exact ⟨u, hut, by rw [Lu.tg]; exact e⟩
end Trd
end Go.Fx.Gen
