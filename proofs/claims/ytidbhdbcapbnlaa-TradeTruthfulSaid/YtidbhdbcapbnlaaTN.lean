/- Top trading cycles: what one's own wishes can change. No program in sight. -/
import Derived.Test.YtidbhdbcapbnlaaTA
namespace Go.TT
variable {α : Type} [DecidableEq α] {nx nx' : List α → α → α} {tr : List α} {v : α}

/-- Who points to one that stays still does. -/
def Firm (nx : List α → α → α) : Prop := ∀ S S' x, (∀ y ∈ S', y ∈ S) → nx S x ∈ S' → nx S' x = nx S x

omit [DecidableEq α] in
theorem Cyc_it {f : α → α} {x : α} (h : Cyc f x) : ∀ n, Cyc f (it f n x) := by
  intro n
  induction n with
  | zero => exact h
  | succ n ih => rw [it_succ]; exact ih.next

theorem Sq_tr {n : Nat} {x : α} (h : x ∈ Sq nx tr n) : x ∈ tr := Sq_mono (Nat.zero_le n) h

omit [DecidableEq α] in
/-- Cycles that v is not on. -/
theorem Cyc_other {f f' : α → α} {S : List α} (hS : ∀ x ∈ S, f x ∈ S) (h : ∀ u ∈ S, u ≠ v → f' u = f u) {x : α} (hxS : x ∈ S) (hx : Cyc f x) (hv : ¬ Cyc f v) : Cyc f' x := by
  have hit := Cyc_it hx
  obtain ⟨k, hk⟩ := hx
  have : ∀ n, it f' n x = it f n x := by
    intro n
    induction n with
    | zero => rfl
    | succ n ih => rw [it_succ, it_succ, ih]; exact h _ (it_mem hS n x hxS) fun e => hv (e ▸ hit n)
  exact ⟨k, by rw [this, hk]⟩

theorem not_cyc (hc : Closed nx) {r t : Nat} (hr : Lv nx tr r v) (h : t < r) : ¬ Cyc (nx (Sq nx tr t)) v := by
  intro hv
  have hm : v ∈ Sq nx tr t := (hr.left tr).2 (by omega)
  have := hr.unique ⟨hm, (onC_iff hc hm).2 hv⟩
  omega

theorem Sq_same (hc : Closed nx) (hc' : Closed nx') (h : ∀ S u, u ∈ tr → u ≠ v → nx S u = nx' S u) {r s : Nat} (hr : Lv nx tr r v) (hs : Lv nx' tr s v) : ∀ t, t ≤ r → t ≤ s → Sq nx tr t = Sq nx' tr t := by
  intro t
  induction t with
  | zero => intro _ _; rfl
  | succ t ih =>
    intro h1 h2
    have e := ih (by omega) (by omega)
    have n1 := not_cyc hc hr (t := t) (by omega)
    have n2 := not_cyc hc' hs (t := t) (by omega)
    have htr : ∀ x ∈ Sq nx tr t, x ∈ tr := fun x hx => Sq_tr hx
    show (Sq nx tr t).filter _ = (Sq nx' tr t).filter _
    rw [← e] at n2 ⊢
    refine List.filter_congr fun x hx => ?_
    congr 1
    rw [Bool.eq_iff_iff, onC_iff hc hx, onC_iff hc' hx]
    exact ⟨fun k => Cyc_other (hc _) (fun u hu hv => (h _ u (htr u hu) hv).symm) hx k n1, fun k => Cyc_other (hc' _) (fun u hu hv => h _ u (htr u hu) hv) hx k n2⟩

theorem reach {f f' : α → α} {S : List α} (hS : ∀ x ∈ S, f' x ∈ S) (h : ∀ u ∈ S, u ≠ v → f u = f' u) : ∀ (k : Nat) (y : α), y ∈ S → it f' k y = v → ∃ k', it f k' y = v
  | 0, y, _, e => ⟨0, e⟩
  | k + 1, y, hy, e => by
    by_cases hv : y = v
    · exact ⟨0, hv⟩
    · obtain ⟨k', e'⟩ := reach hS h k (f' y) (hS y hy) e
      exact ⟨k' + 1, by show it f k' (f y) = v; rw [h y hy hv]; exact e'⟩

/-- Who points to v, through others, stays as long as v does. -/
theorem stay (hc : Closed nx) (hf : Firm nx) {r : Nat} (hr : Lv nx tr r v) {y : α} : ∀ (m s : Nat), s + m = r → y ∈ Sq nx tr s → (∃ k, it (nx (Sq nx tr s)) k y = v) → y ∈ Sq nx tr r := by
  intro m
  induction m with
  | zero => intro s e hy _; rw [← e]; exact hy
  | succ m ih =>
    intro s e hy hk
    obtain ⟨k, hk⟩ := hk
    have nv := not_cyc hc hr (t := s) (by omega)
    have hsub : ∀ x ∈ Sq nx tr (s + 1), x ∈ Sq nx tr s := fun x hx => Sq_sub hx
    have hin : ∀ n, n ≤ k → it (nx (Sq nx tr s)) n y ∈ Sq nx tr (s + 1) := by
      intro n hn
      have hm := it_mem (hc (Sq nx tr s)) n y hy
      refine List.mem_filter.2 ⟨hm, ?_⟩
      have : ¬ Cyc (nx (Sq nx tr s)) (it (nx (Sq nx tr s)) n y) := by
        intro hcy
        have h2 := Cyc_it hcy (k - n)
        rw [← it_add, show k - n + n = k by omega, hk] at h2
        exact nv h2
      cases ho : onC nx (Sq nx tr s) (it (nx (Sq nx tr s)) n y) with
      | false => rfl
      | true => exact absurd ((onC_iff hc hm).1 ho) this
    have hsame : ∀ n, n ≤ k → it (nx (Sq nx tr (s + 1))) n y = it (nx (Sq nx tr s)) n y := by
      intro n
      induction n with
      | zero => intro _; rfl
      | succ n ihn =>
        intro hn
        rw [it_succ, it_succ, ihn (by omega)]
        refine hf _ _ _ hsub ?_
        have := hin (n + 1) hn
        rwa [it_succ] at this
    exact ih (s + 1) (by omega) (hin 0 (by omega)) ⟨k, by rw [hsame k (Nat.le_refl k), hk]⟩

/-- Whom v points to at last, with other wishes, is still there when v leaves with its own. -/
theorem still (hc : Closed nx) (hc' : Closed nx') (hf : Firm nx) (h : ∀ S u, u ∈ tr → u ≠ v → nx S u = nx' S u) {r s : Nat} (hr : Lv nx tr r v) (hs : Lv nx' tr s v) : nx' (Sq nx' tr s) v ∈ Sq nx tr r := by
  have hy := hc' _ _ hs.1
  by_cases hrs : r ≤ s
  · rw [Sq_same hc hc' h hr hs r (Nat.le_refl r) hrs]
    exact Sq_mono hrs hy
  · have e := Sq_same hc hc' h hr hs s (by omega) (Nat.le_refl s)
    obtain ⟨k, hk⟩ := (onC_iff hc' hs.1).1 hs.2
    have hk : it (nx' (Sq nx' tr s)) k (nx' (Sq nx' tr s) v) = v := hk
    obtain ⟨k', hk'⟩ := reach (f := nx (Sq nx' tr s)) (hc' _) (fun u hu hv => h _ u (Sq_tr hu) hv) k _ hy hk
    rw [← e] at hy hk' ⊢
    exact stay hc hf hr (r - s) s (by omega) hy ⟨k', hk'⟩
end Go.TT
