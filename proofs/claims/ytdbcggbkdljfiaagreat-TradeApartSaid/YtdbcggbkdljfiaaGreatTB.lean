
/- Trade, walked: who points where, and the wishes. -/
import Derived.Test.YtdbcggbkdljfiaaGreatXB
import Derived.Test.YtdbcggbkdljfiaaGreatXW
import Derived.Test.YtdbcggbkdljfiaaGreatTA
namespace Go.Fx.Gen
open Go.Fx Go.Proofs
set_option linter.unusedVariables false
namespace Trd

/-- Whether a vertex is in the map of those who are left. -/
def inL (m : List (Int × Bool)) (x : Int) : Bool := (mapGet m x).getD false

/-- The map of those who are left. -/
def mk (S : List Int) : List (Int × Bool) := S.map fun x => (x, true)

theorem inL_mk (S : List Int) (x : Int) : inL (mk S) x = decide (x ∈ S) := by
  unfold inL mk
  induction S with
  | nil => rfl
  | cons y S ih =>
    simp only [List.map_cons, mapGet]
    by_cases h : y = x
    · simp [h]
    · have : ¬ x = y := fun e => h e.symm
      simp only [h, if_false]
      rw [ih]; simp [this]

theorem del_mk {S : List Int} (h : S.Nodup) (x : Int) : mapDel (mk S) x = mk (S.filter fun y => y ≠ x) := by
  unfold mk
  induction S with
  | nil => rfl
  | cons y S ih =>
    rw [List.nodup_cons] at h
    simp only [List.map_cons, mapDel]
    by_cases e : y = x
    · subst e
      have : (y :: S).filter (fun z => decide (z ≠ y)) = S := by
        rw [List.filter_cons_of_neg (by simp)]
        exact List.filter_eq_self.2 fun z hz => by simp; rintro rfl; exact h.1 hz
      rw [this]; simp
    · simp [e, ih h.2]

theorem del_all : ∀ (L : List Int) {S : List Int}, S.Nodup → L.foldl mapDel (mk S) = mk (S.filter fun y => decide (y ∉ L))
  | [], S, h => by
    have : S.filter (fun y => decide (y ∉ ([] : List Int))) = S := List.filter_eq_self.2 fun z _ => by simp
    rw [this]; rfl
  | x :: L, S, h => by
    rw [List.foldl_cons, del_mk h x, del_all L (h.filter _), List.filter_filter]
    congr 1
    apply List.filter_congr
    intro y _
    by_cases h1 : y = x <;> by_cases h2 : y ∈ L <;> simp [h1, h2]

/-- To whom one points, and along which edge: the first wish to one who is left. -/
def pt (ws : List (List Edge)) (S : List Int) (v : Int) : Int × Int := match ((ws[v.toNat]?).getD []).find? fun e => decide (e.To ∈ S) with
  | some e => (e.To, e.ID)
  | none => (v, -1)
def nx (ws : List (List Edge)) (S : List Int) (v : Int) : Int := (pt ws S v).1

theorem nx_closed (ws : List (List Edge)) : TT.Closed (nx ws) := by
  intro S v hv
  unfold nx pt
  split
  · rename_i e h; have := List.find?_some h; simpa using this
  · exact hv

theorem find_idx {l : List Edge} (p : Edge → Bool) (v : Int) : (match l.findIdx? p with | some i => (match l[i]? with | some x => (x.To, x.ID) | none => (v, -1)) | none => ((v, -1) : Int × Int)) =
    match l.find? p with | some e => (e.To, e.ID) | none => (v, -1) := by
  cases h : l.findIdx? p with
  | none =>
    have : l.find? p = none := List.find?_eq_none.2 fun x hx => by simp [List.findIdx?_eq_none_iff.1 h x hx]
    rw [this]
  | some i =>
    obtain ⟨h1, h2, h3⟩ := List.findIdx?_eq_some_iff_getElem.1 h
    have : l.find? p = some l[i] := by
      rw [List.find?_eq_some_iff_getElem]
      exact ⟨h2, i, h1, rfl, fun j hj => by simpa using h3 j hj⟩
    rw [this]; simp [h1]

theorem points_run (ws : List (List Edge)) (lab : List A3_Int) {S : List Int} {v : Int} (hv : 0 ≤ v ∧ v < 24) (hw : ws.length = 24) (hb : ∀ l ∈ ws, l.length < 1000000) :
    (f87 v ws lab (mk S)).run = some (pt ws S v) ∧ (f87v1 v ws lab (mk S)).run = some (pt ws S v) := by
  have hlt : v.toNat < ws.length := by omega
  have hx : ws[v.toNat]? = some ws[v.toNat] := by simp [hlt]
  have hlen := hb _ (List.getElem_mem hlt)
  unfold pt
  rw [hx, Option.getD_some]
  generalize ws[v.toNat] = l at hx hlen ⊢
  rw [← find_idx]
  constructor
  · simp only [f87]
    have key : loopN fuel (fun s => (f87.l1 (mk S) l s).run) (0 : Int) = _ := loop_find (l := l) (fun i : Nat => (i : Int)) (fun e => decide (e.To ∈ S)) (fun _ e => (.a (e.To, e.ID) : Ex (Int × Int) Unit Empty)) (.b ())
      (fun i x hi => by
        have hlt : i < l.length := (List.getElem?_eq_some_iff.1 hi).1
        simp only [f87.l1, r_brr, L_eq, cast_lt_t hlt, br_t, getR_s hi, r_look, succ_wr hlt (by omega)]
        show br (inL (mk S) x.To) _ _ = _
        rw [inL_mk, br_if]; rfl)
      (by simp only [f87.l1, r_brr, L_eq, cast_lt_f (Nat.lt_irrefl _), br_f, r_ret]) (by have := fuel_pos; omega)
    rw [ck_t (by omega), rd_s hx, r_loop2, key, bd_s]
    cases l.findIdx? fun e => decide (e.To ∈ S) with
    | none => rfl
    | some i => cases h : l[i]? with
      | none => simp only [h]; rfl
      | some x => simp only [h]; rfl
  · simp only [f87v1]
    have key : loopN fuel (fun s => (f87v1.l1 (mk S) l s).run) (0 : Int) = _ := loop_find (l := l) (fun i : Nat => (i : Int)) (fun e => decide (e.To ∈ S)) (fun _ e => (.a (e.To, e.ID) : Ex (Int × Int) Unit Empty)) (.b ())
      (fun i x hi => by
        have hlt : i < l.length := (List.getElem?_eq_some_iff.1 hi).1
        simp only [f87v1.l1, r_brr, L_eq, cast_lt_t hlt, br_t, getR_s hi, r_look, succ_wr hlt (by omega)]
        show br (inL (mk S) x.To) _ _ = _
        rw [inL_mk, br_if]; rfl)
      (by simp only [f87v1.l1, r_brr, L_eq, cast_lt_f (Nat.lt_irrefl _), br_f, r_ret]) (by have := fuel_pos; omega)
    rw [ck_t (by omega), rd_s hx, r_loop2, key, bd_s]
    cases l.findIdx? fun e => decide (e.To ∈ S) with
    | none => rfl
    | some i => cases h : l[i]? with
      | none => simp only [h]; rfl
      | some x => simp only [h]; rfl

/-! The wishes, in the order of preference. -/
def eok (e : Edge) : Prop := -1000 ≤ e.Weight ∧ e.Weight ≤ 1000 ∧ 0 ≤ e.ID ∧ e.ID < 1000
def elt (a b : Edge) : Bool := decide (b.Weight < a.Weight) || (decide (a.Weight = b.Weight) && decide (a.ID < b.ID))

theorem elt_iff {a b : Edge} : elt a b = true ↔ b.Weight < a.Weight ∨ (a.Weight = b.Weight ∧ a.ID < b.ID) := by simp [elt]
theorem elt_not {a b : Edge} : elt a b = false ↔ ¬ (b.Weight < a.Weight ∨ (a.Weight = b.Weight ∧ a.ID < b.ID)) := by rw [← elt_iff]; simp

theorem cv_eq {x y : Edge} : (f74 x y).run = some (Srt.cv x y) ∧ Srt.cv x y = if x.Weight = y.Weight then IntKind.i64.wrap (x.ID - y.ID) else IntKind.i64.wrap (y.Weight - x.Weight) := by
  have : (f74 x y).run = some (if x.Weight = y.Weight then IntKind.i64.wrap (x.ID - y.ID) else IntKind.i64.wrap (y.Weight - x.Weight)) := by
    simp only [f74, r_brr]
    by_cases h : x.Weight = y.Weight
    · have e : (x.Weight != y.Weight) = false := by simp [h]
      rw [e, br_f, r_ret, if_pos h]
    · have e : (x.Weight != y.Weight) = true := by simp [h]
      rw [e, br_t, r_ret, if_neg h]
  have hc : Srt.cv x y = if x.Weight = y.Weight then IntKind.i64.wrap (x.ID - y.ID) else IntKind.i64.wrap (y.Weight - x.Weight) := by unfold Srt.cv; rw [this]; rfl
  exact ⟨by rw [hc]; exact this, hc⟩

theorem cmp_ok : Srt.Cmp eok elt where
  run := fun x y _ _ => cv_eq.1
  dec := by
    intro x y hx hy
    obtain ⟨a1, a2, a3, a4⟩ := hx
    obtain ⟨b1, b2, b3, b4⟩ := hy
    rw [Bool.eq_iff_iff, elt_iff, decide_eq_true_eq, cv_eq.2]
    by_cases h : x.Weight = y.Weight
    · rw [if_pos h, wr]; omega
    · rw [if_neg h, wr]; omega
  swo := by
    refine ⟨fun x => ?_, fun x y z h1 h2 => ?_, fun x y z h1 h2 => ?_⟩
    · rw [elt_not]; omega
    · rw [elt_iff] at *; omega
    · rw [elt_not] at *; omega

/-- The list, sorted. -/
def srt (l : List Edge) : List Edge := ((f73v1 l).run).getD []
theorem srt_ok {l : List Edge} (hl : l.length < 65536) (hok : ∀ x ∈ l, eok x) : (f73v1 l).run = some (srt l) ∧ (srt l).Perm l ∧ (srt l).Pairwise (fun x y => elt y x = false) := by
  obtain ⟨l', h1, h2, h3⟩ := Srt.sort_run cmp_ok l hl hok
  have : srt l = l' := by unfold srt; rw [h1]; rfl
  rw [this]; exact ⟨h1, h2, h3⟩

/-- An edge that is a wish. -/
def isW (S : List Int) (v : Int) (e : Edge) : Bool := e.Directed && (e.From == v && (e.To != v && decide (e.To ∈ S)))
def wish (es : List Edge) (S : List Int) (v : Int) : List Edge := srt (es.filter (isW S v))

theorem wishes_run (es : List Edge) (ws : List (List Edge)) (lab : List A3_Int) {S : List Int} {v : Int} (hl : es.length < 65536) (hok : ∀ x ∈ es, eok x) :
    (f38 es v ws lab (mk S)).run = some (wish es S v) := by
  have key : loopN fuel (fun s : Int × List Edge => (f38.l1 es v ws lab (mk S) s.1 s.2).run) ((0 : Int), ([] : List Edge)) = some (.a (es.filter (isW S v))) := by
    obtain ⟨r, h1, rfl⟩ := loop_ix (A := List Edge) (f := fun s : Int × List Edge => (f38.l1 es v ws lab (mk S) s.1 s.2).run) (n := es.length) (fun i a => ((i : Int), a)) (fun i a => a = (es.take i).filter (isW S v)) (fun r => r = .a (es.filter (isW S v)))
      (fun i a hi ha => by
        have hx : es[i]? = some es[i] := by simp [hi]
        have ht : (es.take (i + 1)).filter (isW S v) = if isW S v es[i] = true then a ++ [es[i]] else a := by
          rw [List.take_succ_eq_append_getElem hi, List.filter_append, ← ha]
          by_cases h : isW S v es[i] = true <;> simp [h]
        have hlen : a.length ≤ i := by rw [ha]; exact Nat.le_trans (List.length_filter_le ..) (by simp; omega)
        refine .inl ⟨_, ?_, ht.symm⟩
        simp only [f38.l1, r_brr, L_eq, cast_lt_t hi, br_t, getR_s hx, succ_wr hi (by omega), r_join1]
        generalize es[i] = x
        have hb : (br x.Directed (br (x.From == v) (br (x.To != v) ((cl (f86.ok x.To ws lab (mk S)) fun y17 => (retA' y17 : Pg (Ex Bool Empty Empty))).run) ((retA' false : Pg (Ex Bool Empty Empty)).run)) ((retA' false : Pg (Ex Bool Empty Empty)).run)) ((retA' false : Pg (Ex Bool Empty Empty)).run)) = some (.a (isW S v x)) := by
          have h63 : (f86 x.To ws lab (mk S)).run = some (decide (x.To ∈ S)) := by
            simp only [f86, r_look, r_ret]; exact congrArg some (inL_mk S x.To)
          simp only [r_cl, h63, bd_s, r_ret]
          unfold isW
          cases x.Directed <;> cases (x.From == v) <;> cases (x.To != v) <;> simp [br]
        rw [hb, bd_s, ex_a]
        by_cases h : isW S v x = true
        · rw [h, br_t, ap_s (by rw [List.length_append]; simp; unfold bigLen; omega), r_ret, if_pos rfl]
        · have h : isW S v x = false := by simpa using h
          rw [h, br_f, r_ret, if_neg (by simp)])
      (fun a ha => by
        rw [List.take_length] at ha
        subst ha
        exact ⟨_, by simp only [f38.l1, r_brr, L_eq, cast_lt_f (Nat.lt_irrefl _), br_f, r_ret], rfl⟩)
      (k := fuel) (by have := fuel_pos; omega) (a := []) (by simp)
    exact h1
  simp only [f38]
  rw [r_loop1, key, bd_s, ex_a, r_cl, (srt_ok (Nat.lt_of_le_of_lt (List.length_filter_le ..) hl) (fun x hx => hok x (List.mem_filter.1 hx).1)).1, bd_s, r_ret]
  rfl

theorem wish_perm {es : List Edge} {S : List Int} {v : Int} (hl : es.length < 65536) (hok : ∀ x ∈ es, eok x) : (wish es S v).Perm (es.filter (isW S v)) :=
  (srt_ok (Nat.lt_of_le_of_lt (List.length_filter_le ..) hl) (fun x hx => hok x (List.mem_filter.1 hx).1)).2.1
theorem wish_sorted {es : List Edge} {S : List Int} {v : Int} (hl : es.length < 65536) (hok : ∀ x ∈ es, eok x) : (wish es S v).Pairwise (fun x y => elt y x = false) :=
  (srt_ok (Nat.lt_of_le_of_lt (List.length_filter_le ..) hl) (fun x hx => hok x (List.mem_filter.1 hx).1)).2.2
theorem mem_wish {es : List Edge} {S : List Int} {v : Int} (hl : es.length < 65536) (hok : ∀ x ∈ es, eok x) {e : Edge} : e ∈ wish es S v ↔ e ∈ es ∧ e.Directed = true ∧ e.From = v ∧ e.To ≠ v ∧ e.To ∈ S := by
  rw [(wish_perm hl hok).mem_iff, List.mem_filter]
  unfold isW
  simp
end Trd
end Go.Fx.Gen
