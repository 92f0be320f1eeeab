
/- Top trading cycles, in plain lists: who leaves in which round. No program in sight. -/
namespace Go.TT

/-- A list without repetitions inside another one is no longer. -/
theorem nodup_le {α : Type} [DecidableEq α] : ∀ {l s : List α}, l.Nodup → (∀ x ∈ l, x ∈ s) → l.length ≤ s.length
  | [], _, _, _ => Nat.zero_le _
  | x :: l, s, h, hs => by
    rw [List.nodup_cons] at h
    have hx : x ∈ s := hs x (.head _)
    have h2 : ∀ y ∈ l, y ∈ s.erase x := fun y hy => by
      rw [List.mem_erase_of_ne (by rintro rfl; exact h.1 hy)]
      exact hs y (.tail _ hy)
    have := nodup_le h.2 h2
    rw [List.length_erase_of_mem hx] at this
    have : 0 < s.length := List.length_pos_of_mem hx
    simp only [List.length_cons]; omega

section
variable {α : Type}

def it (f : α → α) : Nat → α → α
  | 0, x => x
  | n + 1, x => it f n (f x)

theorem it_succ (f : α → α) : ∀ (n : Nat) (x : α), it f (n + 1) x = f (it f n x)
  | 0, _ => rfl
  | n + 1, x => by show it f (n + 1) (f x) = f (it f n (f x)); exact it_succ f n (f x)
theorem it_add (f : α → α) : ∀ (m n : Nat) (x : α), it f (m + n) x = it f m (it f n x)
  | m, 0, x => rfl
  | m, n + 1, x => by show it f (m + n) (f x) = it f m (it f n (f x)); exact it_add f m n (f x)
theorem it_mem {f : α → α} {S : List α} (hf : ∀ x ∈ S, f x ∈ S) : ∀ (n : Nat) (x : α), x ∈ S → it f n x ∈ S
  | 0, _, h => h
  | n + 1, x, h => it_mem hf n (f x) (hf x h)
theorem it_congr {f g : α → α} {S : List α} (hf : ∀ x ∈ S, f x ∈ S) (h : ∀ x ∈ S, g x = f x) : ∀ (n : Nat) (x : α), x ∈ S → it g n x = it f n x
  | 0, _, _ => rfl
  | n + 1, x, hx => by show it g n (g x) = it f n (f x); rw [h x hx]; exact it_congr hf h n (f x) (hf x hx)

/-- It comes back. -/
def Cyc (f : α → α) (x : α) : Prop := ∃ k, it f (k + 1) x = x

theorem it_mul {f : α → α} {k : Nat} {x : α} (h : it f k x = x) : ∀ n, it f (n * k) x = x
  | 0 => by simp [it]
  | n + 1 => by rw [Nat.succ_mul, it_add, h]; exact it_mul h n

theorem Cyc.next {f : α → α} {x : α} (h : Cyc f x) : Cyc f (f x) := by
  obtain ⟨k, h⟩ := h
  refine ⟨k, ?_⟩
  show it f (k + 1) (f x) = f x
  have : it f (k + 1) (f x) = it f (k + 2) x := rfl
  rw [this, it_succ, h]

theorem Cyc.inj {f : α → α} {x y : α} (hx : Cyc f x) (hy : Cyc f y) (h : f x = f y) : x = y := by
  obtain ⟨a, ha⟩ := hx
  obtain ⟨b, hb⟩ := hy
  have h1 : it f ((b + 1) * (a + 1)) x = x := it_mul ha _
  have h2 : it f ((a + 1) * (b + 1)) y = y := it_mul hb _
  rw [Nat.mul_comm] at h2
  obtain ⟨m, hm⟩ : ∃ m, (b + 1) * (a + 1) = m + 1 := ⟨(b + 1) * (a + 1) - 1, by have := Nat.mul_pos (Nat.succ_pos b) (Nat.succ_pos a); simp only [Nat.succ_eq_add_one] at this; omega⟩
  rw [hm] at h1 h2
  have e1 : it f m (f x) = x := h1
  have e2 : it f m (f y) = y := h2
  rw [← e1, ← e2, h]

/-- Whoever it leads to comes from one. -/
theorem Cyc.prev {f : α → α} {x : α} (h : Cyc f x) : ∃ y, Cyc f y ∧ f y = x := by
  obtain ⟨k, hk⟩ := h
  have hit : ∀ n, Cyc f (it f n x) := by
    intro n
    induction n with
    | zero => exact ⟨k, hk⟩
    | succ n ih => rw [it_succ]; exact ih.next
  exact ⟨it f k x, hit k, (it_succ f k x).symm.trans hk⟩

variable [DecidableEq α]
/-- Among as many steps as there are places, one comes back. -/
theorem pigeon {S : List α} {f : α → α} (hf : ∀ x ∈ S, f x ∈ S) {x : α} (hx : x ∈ S) : ∃ i j, i < j ∧ j ≤ S.length ∧ it f i x = it f j x := by
  apply Classical.byContradiction
  intro hn
  have nd : ((List.range (S.length + 1)).map fun n => it f n x).Nodup := by
    rw [List.nodup_iff_pairwise_ne, List.pairwise_map]
    have hr : (List.range (S.length + 1)).Pairwise (· < ·) := List.pairwise_lt_range
    refine (List.Pairwise.and_mem.1 hr).imp ?_
    rintro i j ⟨hi, hj, hij⟩ e
    rw [List.mem_range] at hi hj
    exact hn ⟨i, j, hij, by omega, e⟩
  have := nodup_le (s := S) nd (fun y hy => by
    rw [List.mem_map] at hy
    obtain ⟨n, _, rfl⟩ := hy
    exact it_mem hf n x hx)
  simp at this
  omega

theorem pigeon_cyc {S : List α} {f : α → α} (hf : ∀ x ∈ S, f x ∈ S) {x : α} (hx : x ∈ S) : ∃ y ∈ S, ∃ k, k < S.length ∧ it f (k + 1) y = y := by
  obtain ⟨i, j, hij, hj, e⟩ := pigeon hf hx
  refine ⟨it f i x, it_mem hf i x hx, j - i - 1, by omega, ?_⟩
  rw [← it_add, show j - i - 1 + 1 + i = j by omega]; exact e.symm

/-- What comes back does so in as many steps as there are places. -/
theorem Cyc.short {S : List α} {f : α → α} (hf : ∀ x ∈ S, f x ∈ S) {x : α} (hx : x ∈ S) (h : Cyc f x) : ∃ k, k < S.length ∧ it f (k + 1) x = x := by
  obtain ⟨i, j, hij, hj, e⟩ := pigeon hf hx
  -- from the i-th on it comes back; so does x, being on the cycle
  have back : ∀ n m, it f n x = it f m x → n ≤ m → it f (m - n) x = x := by
    intro n
    induction n with
    | zero => intro m e _; exact e.symm
    | succ n ih =>
      intro m e hnm
      obtain ⟨m, rfl⟩ : ∃ m', m = m' + 1 := ⟨m - 1, by omega⟩
      rw [it_succ, it_succ] at e
      have hit : ∀ n, Cyc f (it f n x) := by
        intro n
        induction n with
        | zero => exact h
        | succ n ih => rw [it_succ]; exact ih.next
      have := ih m (Cyc.inj (hit n) (hit m) e) (by omega)
      rw [show m + 1 - (n + 1) = m - n by omega]; exact this
  refine ⟨j - i - 1, by omega, ?_⟩
  rw [show j - i - 1 + 1 = j - i by omega]
  exact back i j e (by omega)
end

/-! The rounds. -/
section
variable {α : Type} [DecidableEq α] (nx : List α → α → α)

def onC (S : List α) (v : α) : Bool := (List.range S.length).any fun k => it (nx S) (k + 1) v == v
def Sq (tr : List α) : Nat → List α
  | 0 => tr
  | n + 1 => (Sq tr n).filter fun v => !onC nx (Sq tr n) v

/-- Nobody points out of those who are left. -/
def Closed : Prop := ∀ S v, v ∈ S → nx S v ∈ S

variable {nx}
theorem onC_iff (hc : Closed nx) {S : List α} {v : α} (hv : v ∈ S) : onC nx S v = true ↔ Cyc (nx S) v := by
  unfold onC
  rw [List.any_eq_true]
  constructor
  · rintro ⟨k, _, h⟩; exact ⟨k, by simpa using h⟩
  · intro h
    obtain ⟨k, hk, e⟩ := h.short (hc S) hv
    exact ⟨k, List.mem_range.2 hk, by simpa using e⟩

theorem Sq_sub {tr : List α} : ∀ {n : Nat} {v : α}, v ∈ Sq nx tr (n + 1) → v ∈ Sq nx tr n := fun h => (List.mem_filter.1 h).1
theorem Sq_mono {tr : List α} {n : Nat} {v : α} : ∀ {m : Nat}, n ≤ m → v ∈ Sq nx tr m → v ∈ Sq nx tr n
  | m, h, hv => by
    induction m with
    | zero => rw [Nat.le_zero.1 h]; exact hv
    | succ m ih =>
      by_cases e : n = m + 1
      · rw [e]; exact hv
      · exact ih (by omega) (Sq_sub hv)

/-- As long as somebody is left, somebody leaves. -/
theorem Sq_less (hc : Closed nx) {tr : List α} {n : Nat} (h : Sq nx tr n ≠ []) : (Sq nx tr (n + 1)).length < (Sq nx tr n).length ∧ ∃ v ∈ Sq nx tr n, onC nx (Sq nx tr n) v = true := by
  obtain ⟨x, hx⟩ := List.exists_mem_of_ne_nil _ h
  obtain ⟨y, hy, k, hk, e⟩ := pigeon_cyc (hc (Sq nx tr n)) hx
  have hon : onC nx (Sq nx tr n) y = true := (onC_iff hc hy).2 ⟨k, e⟩
  refine ⟨?_, y, hy, hon⟩
  show ((Sq nx tr n).filter _).length < _
  rw [List.length_filter_lt_length_iff_exists]
  exact ⟨y, hy, by simp [hon]⟩

theorem Sq_len (hc : Closed nx) {tr : List α} : ∀ n, (Sq nx tr n).length ≤ tr.length - n
  | 0 => by simp [Sq]
  | n + 1 => by
    have ih := Sq_len hc (tr := tr) n
    by_cases h : Sq nx tr n = []
    · show ((Sq nx tr n).filter _).length ≤ _; rw [h]; simp
    · have := (Sq_less hc h).1; omega

theorem Sq_end (hc : Closed nx) {tr : List α} : Sq nx tr tr.length = [] := by
  have := Sq_len hc (tr := tr) tr.length
  exact List.eq_nil_of_length_eq_zero (by omega)

/-- Everybody leaves in one round. -/
theorem leaves (hc : Closed nx) {tr : List α} {v : α} (hv : v ∈ tr) : ∃ r, v ∈ Sq nx tr r ∧ onC nx (Sq nx tr r) v = true := by
  have key : ∀ n, v ∉ Sq nx tr n → ∃ r, v ∈ Sq nx tr r ∧ onC nx (Sq nx tr r) v = true := by
    intro n
    induction n with
    | zero => intro h; exact absurd hv h
    | succ n ih =>
      intro h
      by_cases hn : v ∈ Sq nx tr n
      · refine ⟨n, hn, ?_⟩
        cases ho : onC nx (Sq nx tr n) v with
        | true => rfl
        | false => exact absurd (List.mem_filter.2 ⟨hn, by simp [ho]⟩) h
      · exact ih hn
  exact key tr.length (by rw [Sq_end hc]; simp)

/-- In the r-th round (from 0 on). -/
def Lv (nx : List α → α → α) (tr : List α) (r : Nat) (v : α) : Prop := v ∈ Sq nx tr r ∧ onC nx (Sq nx tr r) v = true

theorem Lv.left (tr : List α) {r : Nat} {v : α} (h : Lv nx tr r v) {n : Nat} : v ∈ Sq nx tr n ↔ n ≤ r := by
  constructor
  · intro hv
    apply Classical.byContradiction
    intro hn
    have := Sq_mono (n := r + 1) (by omega) hv
    have := (List.mem_filter.1 this).2
    rw [h.2] at this; cases this
  · intro hn; exact Sq_mono hn h.1

theorem Lv.unique {tr : List α} {r s : Nat} {v : α} (h : Lv nx tr r v) (k : Lv nx tr s v) : r = s := by
  have h1 := (h.left tr (n := s)).1 k.1
  have h2 := (k.left tr (n := r)).1 h.1
  omega

/-- Whom it points to leaves with it. -/
theorem Lv.next (hc : Closed nx) {tr : List α} {r : Nat} {v : α} (h : Lv nx tr r v) : Lv nx tr r (nx (Sq nx tr r) v) := by
  have hn := hc _ _ h.1
  exact ⟨hn, (onC_iff hc hn).2 ((onC_iff hc h.1).1 h.2).next⟩

theorem Lv.inj (hc : Closed nx) {tr : List α} {r : Nat} {u v : α} (h : Lv nx tr r u) (k : Lv nx tr r v) (e : nx (Sq nx tr r) u = nx (Sq nx tr r) v) : u = v :=
  Cyc.inj ((onC_iff hc h.1).1 h.2) ((onC_iff hc k.1).1 k.2) e

theorem Lv.prev (hc : Closed nx) {tr : List α} {r : Nat} {v : α} (h : Lv nx tr r v) : ∃ u, Lv nx tr r u ∧ nx (Sq nx tr r) u = v := by
  -- the last one before it comes back
  obtain ⟨k, hk⟩ := (onC_iff hc h.1).1 h.2
  have hit : ∀ n, Lv nx tr r (it (nx (Sq nx tr r)) n v) := by
    intro n
    induction n with
    | zero => exact h
    | succ n ih => rw [it_succ]; exact ih.next hc
  exact ⟨_, hit k, (it_succ _ k v).symm.trans hk⟩
end
end Go.TT
