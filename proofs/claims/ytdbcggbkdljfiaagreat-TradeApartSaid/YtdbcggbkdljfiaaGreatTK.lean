
/- The law TradeCycles: whatever the integers, the program answers true. -/
import Derived.Test.YtdbcggbkdljfiaaGreatTJ
import Derived.Test.YtdbcggbkdljfiaaGreatTS
namespace Go.Fx.Gen
open Go.Fx Go.Proofs
set_option linter.unusedVariables false
namespace Trd
open Go.TT
variable {g : Graph} {N : Nat} {rx ex nn : Int → Int}

/-- How many lead to x with an edge. -/
def led (g : Graph) (rx ex : Int → Int) (l : List Int) (x : Int) : Nat := (l.filter fun u => decide (0 ≤ ex u) && decide (tg g rx u = x)).length

theorem led_le (O : Out g N rx ex nn) {l : List Int} (hn : l.Nodup) (hl : ∀ u ∈ l, u ∈ trd g) (x : Int) : led g rx ex l x ≤ 1 := by
  unfold led
  have hsub : ∀ u ∈ l.filter (fun u => decide (0 ≤ ex u) && decide (tg g rx u = x)), ∀ v ∈ l.filter (fun u => decide (0 ≤ ex u) && decide (tg g rx u = x)), u = v := by
    intro u hu v hv
    rw [List.mem_filter] at hu hv
    simp only [Bool.and_eq_true, decide_eq_true_eq] at hu hv
    exact tg_inj O (hl u hu.1) (hl v hv.1) (by rw [hu.2.2, hv.2.2])
  have hnd : (l.filter (fun u => decide (0 ≤ ex u) && decide (tg g rx u = x))).Nodup := hn.sublist (List.filter_sublist ..)
  generalize l.filter (fun u => decide (0 ≤ ex u) && decide (tg g rx u = x)) = m at hsub hnd
  match m with
  | [] => simp
  | [_] => simp
  | a :: b :: m =>
    have := hsub a (.head _) b (.tail _ (.head _))
    subst this
    simp at hnd

theorem led_iff (H : Ready g) (O : Out g N rx ex nn) {x : Int} (hx : x ∈ trd g) : led g rx ex (trd g) x = 1 ↔ 0 ≤ ex x := by
  have hle := led_le O (trd_nodup H.gv) (fun u hu => hu) x
  obtain ⟨u, hu, hux⟩ := tg_surj O hx
  obtain ⟨r, L⟩ := leaves_of O hx
  obtain ⟨s, Lu⟩ := leaves_of O hu
  constructor
  · intro h1
    have hne : (trd g).filter (fun u => decide (0 ≤ ex u) && decide (tg g rx u = x)) ≠ [] := by
      intro h; unfold led at h1; rw [h] at h1; simp at h1
    obtain ⟨w, hw⟩ := List.exists_mem_of_ne_nil _ hne
    rw [List.mem_filter] at hw
    simp only [Bool.and_eq_true, decide_eq_true_eq] at hw
    have : w = u := tg_inj O hw.1 hu (by rw [hw.2.2, hux])
    subst this
    rcases L.ex_cases H with ⟨h, ht⟩ | ⟨h, _⟩
    · -- x leaves alone: then it leads to itself
      have : w = x := tg_inj O hu hx (by rw [hux, ht])
      subst this; exact hw.2.1
    · exact h
  · intro h1
    have hpos : 0 < led g rx ex (trd g) x := by
      unfold led
      refine List.length_pos_of_mem (a := u) (List.mem_filter.2 ⟨hu, ?_⟩)
      simp only [Bool.and_eq_true, decide_eq_true_eq]
      refine ⟨?_, hux⟩
      rcases Lu.ex_cases H with ⟨h, ht⟩ | ⟨h, _⟩
      · rw [ht] at hux; subst hux; exact h1
      · exact h
    omega

/-- The table of those counts. -/
abbrev ledt (g : Graph) (rx ex : Int → Int) (l : List Int) : List Int := tab24 fun x => ((led g rx ex l (x : Int) : Nat) : Int)

theorem led_snoc (l : List Int) (v x : Int) : led g rx ex (l ++ [v]) x = led g rx ex l x + if 0 ≤ ex v ∧ tg g rx v = x then 1 else 0 := by
  unfold led
  rw [List.filter_append, List.length_append]
  by_cases h : 0 ≤ ex v ∧ tg g rx v = x
  · simp [h]
  · rw [if_neg h]
    have : (decide (0 ≤ ex v) && decide (tg g rx v = x)) = false := by simp; intro h1; exact fun h2 => h ⟨h1, h2⟩
    simp [this]

theorem tabf_t (H : Ready g) {f : Int → Int} {x : Int} (hx : x ∈ trd g) : tabf g f x.toNat = f x := by
  obtain ⟨v, hv, _, rfl⟩ := mem_trs.1 hx
  exact tabf_v hv (H.gv.v v hv).id.1

theorem get_t (H : Ready g) {f : Int → Int} {x : Int} (hx : x ∈ trd g) : (tab24 (tabf g f))[x.toNat]? = some (f x) := by
  have := trd_range H.gv hx
  rw [tab_get _ (by omega), tabf_t H hx]

end Trd
end Go.Fx.Gen
