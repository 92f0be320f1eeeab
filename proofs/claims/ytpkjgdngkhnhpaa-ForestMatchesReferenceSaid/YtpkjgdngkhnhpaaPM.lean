/- What Path, Side and CheckSide return, in plain words. -/
import Derived.Test.YtpkjgdngkhnhpaaPL
namespace Go.Fw.Gen
open Go.Fw
theorem lbz {g : Graph} {x : Int} {β : Type} {k : Int → Option β} : getR (lb g x) 0 k = k (rt g x) := rfl
theorem Reverse_eq (l : List Int) (hl : l.length ≤ 1000) : sReverse_int_int_1 l = some l.reverse := by
 unfold sReverse_int_int_1
 obtain ⟨r, h1, h2⟩ := loopN_of (f := sReverse_int_int_1.l0) (fun s => ∃ i : Nat, s.1 = (i : Int) ∧ s.2.1 = (l.length : Int) - 1 - (i : Int) ∧ 2 * i ≤ l.length + 1 ∧ s.2.2.length = l.length ∧ ∀ k, k < l.length → s.2.2[k]? = if k < i ∨ l.length ≤ k + i then l[l.length - 1 - k]? else l[k]?)
  (fun r => r = l.reverse) (fun s => l.length - s.1.toNat) (by
   rintro ⟨s1, s2, m⟩ ⟨i, h1, h2, h3, h4, h5⟩
   simp only at h1 h2 h4 h5
   subst h1
   by_cases hlt : 2 * i + 1 < l.length
   ·left
    have hj : s2 = ((l.length - 1 - i : Nat) : Int) := by omega
    subst hj
    have e1 : IntKind.i64.wrap ((i : Int) + 1) = ((i + 1 : Nat) : Int) := by rw [wr]; omega
    have e2 : IntKind.i64.wrap (((l.length - 1 - i : Nat) : Int) - 1) = (l.length : Int) - 1 - ((i + 1 : Nat) : Int) := by rw [wr]; omega
    have gi : m[i]? = l[i]? := by rw [h5 i (by omega), if_neg (by omega)]
    have gj : m[l.length - 1 - i]? = l[l.length - 1 - i]? := by rw [h5 _ (by omega), if_neg (by omega)]
    have hxi : l[i]? = some (l[i]'(by omega)) := by simp
    have hxj : l[l.length - 1 - i]? = some (l[l.length - 1 - i]'(by omega)) := by simp
    generalize l[i]'(by omega) = x at hxi
    generalize l[l.length - 1 - i]'(by omega) = y at hxj
    refine ⟨((i + 1 : Nat), (l.length : Int) - 1 - ((i + 1 : Nat) : Int), (m.set i y).set (l.length - 1 - i) x), ?_, ⟨i + 1, rfl, rfl, by omega, by simp [h4], ?_⟩, by simp only; omega⟩
    ·unfold sReverse_int_int_1.l0
     rw [br_dec, if_pos (by simp only; omega)]
     simp only
     rw [gd_t (by omega), Int.toNat_natCast, Int.toNat_natCast, Nat.zero_add, Nat.zero_add, gj, hxj, bd_s, gd_t (by omega), gi, hxi, bd_s, gd_t (by omega), bd_s, gd_t (by omega),
      List.getElem?_set_ne (by omega), gj, hxj, bd_s, e1, e2]
    ·intro k hk
     rw [List.getElem?_set]
     by_cases hkj : l.length - 1 - i = k
     ·rw [if_pos hkj, if_pos (by simp; omega), if_pos (by omega), ← hxi]
      congr 1; omega
     ·rw [if_neg hkj, List.getElem?_set]
      by_cases hki : i = k
      ·rw [if_pos hki, if_pos (by omega), if_pos (by omega), ← hxj, hki]
      ·rw [if_neg hki, h5 k hk]
       by_cases hc : k < i ∨ l.length ≤ k + i
       ·rw [if_pos hc, if_pos (by omega)]
       ·rw [if_neg hc, if_neg (by omega)]
   ·right
    refine ⟨m, ?_, ?_⟩
    ·unfold sReverse_int_int_1.l0
     rw [br_dec, if_neg (by simp only; omega)]
    ·apply List.ext_getElem?
     intro k
     by_cases hk : k < l.length
     ·rw [h5 k hk, List.getElem?_reverse hk]
      by_cases hc : k < i ∨ l.length ≤ k + i
      ·rw [if_pos hc]
      ·rw [if_neg hc]
       congr 1; omega
     ·rw [List.getElem?_eq_none (by omega), List.getElem?_eq_none (by simp; omega)])
  fuel (0, IntKind.i64.wrap (((l.length : Nat) : Int) - 1), l) ⟨0, rfl, by rw [wr]; simp, by omega, rfl, fun k hk => by rw [if_neg (by omega)]⟩ (by have := fuel_pos; simp only; omega)
 rw [h1, h2]; rfl
theorem Path_no {g : Graph} (hg : VG g) (hs : SmallG g) (hv : validP g = true) {a b : Int} (ha : hasV g a = true) (hb : hasV g b = true) (hr : rt g a ≠ rt g b) : forest_Path g a b = some ([], 70) := by
 unfold forest_Path
 rw [Connected_eq hg hs hv ha hb, bd_s, beq_eq_false_iff_ne.2 hr]
 rfl
theorem Path_eq {g : Graph} (hg : VG g) (hs : SmallG g) (hv : validP g = true) {a b : Int} (ha : hasV g a = true) (hb : hasV g b = true) (hr : rt g a = rt g b) : ∃ es vs, forest_Path g a b = some (es, 0) ∧ Climb g a b es vs := by
 unfold forest_Path
 rw [Connected_eq hg hs hv ha hb, bd_s, beq_iff_eq.2 hr]
 simp only
 rw [show ((0 : Int) != 0) = false from rfl, br_f, show (!true) = false from rfl, br_f, grow_eq hg hs, bd_s]
 have ra := dp_range hg ha
 have rb := dp_range hg hb
 obtain ⟨r, h1, h2⟩ := loopN_of (f := forest_Path.l0 (tree g) g.Vertices g.Edges g.Depots)
  (fun s => hasV g s.1 = true ∧ hasV g s.2.1 = true ∧ rt g s.1 = rt g s.2.1 ∧ (s.2.2.1.length : Int) + dp g s.1 ≤ 23 ∧ (s.2.2.2.length : Int) + dp g s.2.1 ≤ 23 ∧
   ∀ es vs, Climb g s.1 s.2.1 es vs → ∃ vs', Climb g a b (s.2.2.1 ++ es ++ s.2.2.2.reverse) vs')
  (fun r => r.1.length ≤ 23 ∧ r.2.length ≤ 23 ∧ ∃ vs, Climb g a b (r.1 ++ r.2.reverse) vs) (fun s => (dp g s.1 + dp g s.2.1).toNat) (by
   rintro ⟨x, y, u, d⟩ ⟨hx, hy, hxy, hu, hd, hc⟩
   simp only at hx hy hxy hu hd hc
   have rx := dp_range hg hx
   have ry := dp_range hg hy
   by_cases e : x = y
   ·right
    subst e
    refine ⟨(u, d), ?_, by simp only; omega, by simp only; omega, ?_⟩
    ·unfold forest_Path.l0
     rw [show (x != x) = false by simp, br_f]
    ·obtain ⟨vs, h⟩ := hc [] [x] (.refl x hx)
     rw [List.append_nil] at h
     exact ⟨vs, h⟩
   ·left
    have hb1 : (x != y) = true := by simpa using e
    by_cases hle : dp g y ≤ dp g x
    ·have h0 : dp g x ≠ 0 := by
      intro h0
      have h0y : dp g y = 0 := by omega
      exact e (by rw [← (dp_zero hg hx).1 h0, ← (dp_zero hg hy).1 h0y, hxy])
     obtain ⟨_, _, _, _, _, p1, p2, p3⟩ := par_spec hg hx h0
     refine ⟨(par g x, y, u ++ [ed g x], d), ?_, ⟨p1, hy, by rw [p3]; exact hxy, by simp only [List.length_append, List.length_singleton]; omega, hd, ?_⟩, by simp only; omega⟩
     ·unfold forest_Path.l0
      simp only [hb1, br_t, tree_get hg hx, tree_get hg hy, oc_s]
      show br (decide (dp g x ≥ dp g y)) _ _ = _
      rw [br_dec, if_pos (by omega)]
      show gd ((u ++ [ed g x]).length ≤ bigLen) (bd (forest_step g x (ed g x)) _) = _
      rw [gd_t (by rw [List.length_append, List.length_singleton]; unfold bigLen; omega), step_eq hs, bd_s]
      rfl
     ·intro es vs h
      have := hc _ _ (.up x y es vs hx h0 e hle h)
      simpa using this
    ·have h0 : dp g y ≠ 0 := by omega
     obtain ⟨_, _, _, _, _, p1, p2, p3⟩ := par_spec hg hy h0
     refine ⟨(x, par g y, u, d ++ [ed g y]), ?_, ⟨hx, p1, by rw [p3]; exact hxy, hu, by simp only [List.length_append, List.length_singleton]; omega, ?_⟩, by simp only; omega⟩
     ·unfold forest_Path.l0
      simp only [hb1, br_t, tree_get hg hx, tree_get hg hy, oc_s]
      show br (decide (dp g x ≥ dp g y)) _ _ = _
      rw [br_dec, if_neg (by omega)]
      show gd ((d ++ [ed g y]).length ≤ bigLen) (bd (forest_step g y (ed g y)) _) = _
      rw [gd_t (by rw [List.length_append, List.length_singleton]; unfold bigLen; omega), step_eq hs, bd_s]
      rfl
     ·intro es vs h
      have := hc _ _ (.down x y es vs hy h0 e (by omega) h)
      simpa using this)
  fuel (a, b, [], []) ⟨ha, hb, hr, by simp only [List.length_nil]; omega, by simp only [List.length_nil]; omega, fun es vs h => ⟨vs, by simpa using h⟩⟩ (by have := fuel_pos; simp only; omega)
 obtain ⟨h3, h4, vs, h5⟩ := h2
 refine ⟨_, vs, ?_, h5⟩
 rw [h1, bd_s, Reverse_eq _ (by omega), bd_s, gd_t (by simp)]
 have : (List.map eInt r.2).length = r.2.reverse.length := by simp
 rw [this, List.take_length, gd_t (by simp only [List.length_append, List.length_reverse]; unfold bigLen; omega)]
def sideP (g : Graph) (a : Int) : List Int := (g.Vertices.filter fun v => rt g v.ID == rt g a).map (·.ID)
theorem Side_eq {g : Graph} (hg : VG g) (hs : SmallG g) (hv : validP g = true) {a : Int} (ha : hasV g a = true) : forest_Side g a = some (sideP g a, 0) := by
 have hl := hg.vlen
 unfold forest_Side
 rw [known_eq g hs _ (by simp), bd_s, hv]
 simp only [List.all_cons, List.all_nil, ha, Bool.and_self, Bool.not_true, br_f]
 rw [grow_eq hg hs, bd_s]
 have main := loop_foldO (forest_Side.l0 a (tree g) g.Vertices ((g.Vertices.length : Nat) : Int)) g.Vertices (fun i (l : List Vertex) => ((i : Int), l.map (·.ID))) (fun l v => if rt g v.ID == rt g a then l ++ [v] else l)
  (fun i l => l.length ≤ i) (0, []) [] (sideP g a) rfl (by omega) (by simp)
  (by
   intro i v l hi hx hn
   have e1 : IntKind.i64.wrap ((i : Int) + 1) = ((i + 1 : Nat) : Int) := by rw [wr]; omega
   unfold forest_Side.l0
   rw [br_dec, if_pos (by simp only; omega)]
   simp only
   rw [getR_s hx, tree_get hg (hasV_of hx), oc_s, oc_s, lbz, tree_get hg ha, oc_s, oc_s, lbz, e1]
   have hgd : (l.map (·.ID) ++ [v.ID]).length ≤ bigLen := by rw [List.length_append, List.length_singleton, List.length_map]; unfold bigLen; omega
   rw [gd_t hgd]
   cases rt g v.ID == rt g a
   ·exact ⟨rfl, Nat.le_succ_of_le hn⟩
   ·refine ⟨?_, by simp; omega⟩
    rw [br_t, if_pos rfl, List.map_append]; rfl)
  (by
   intro _
   unfold forest_Side.l0
   rw [br_dec, if_neg (by simp only; omega)]
   simp only [foldl_filter, List.nil_append]; rfl)
 rw [main]; rfl
theorem Contains_eq (l : List Int) (x : Int) (hl : l.length ≤ 1000) : sContains_int_int l x = some (l.contains x) := by
 have := any_loop l _ rfl (by omega) (fun y => some (x == y)) (fun y => x == y) (fun _ _ => rfl) (sIndex_int_int.l0 l x ((l.length : Nat) : Int)) (fun _ => rfl)
 have h2 : sContains_int_int l x = some (l.any fun y => x == y) := by
  rw [← this]; rfl
 rw [h2, List.contains_eq_any_beq]
theorem ascB_idx : ∀ {l : List Int}, ascB l = true ↔ ∀ (k : Nat) (x y : Int), l[k]? = some x → l[k + 1]? = some y → x < y
 | [] => by simp [ascB]
 | [a] => by simp [ascB]
 | a :: b :: r => by
  simp only [ascB, Bool.and_eq_true, decide_eq_true_eq, ascB_idx (l := b :: r)]
  constructor
  ·rintro ⟨h1, h2⟩ k x y hx hy
   cases k with
   | zero => simp at hx hy; omega
   | succ k => exact h2 k x y (by simpa using hx) (by simpa using hy)
  ·intro h
   exact ⟨h 0 a b rfl rfl, fun k x y hx hy => h (k + 1) x y (by simpa using hx) (by simpa using hy)⟩
theorem asc_side (l : List Int) (hl : l.length ≤ 1000) (vs : List Vertex) (es : List Edge) (ds : List Int) :
  loopN fuel (forest_CheckSide.l0 l ((l.length : Nat) : Int) vs es ds l) 0 = some (if ascB l then .inr () else .inl ()) := by
 obtain ⟨r, h1, h2⟩ := loopN_of (f := forest_CheckSide.l0 l ((l.length : Nat) : Int) vs es ds l) (fun s => ∃ i : Nat, s = (i : Int) ∧ i ≤ l.length ∧ ∀ (k : Nat) (x y : Int), k + 1 < i → l[k]? = some x → l[k + 1]? = some y → x < y)
  (fun r => r = if ascB l then .inr () else .inl ()) (fun s => l.length - s.toNat) (by
   rintro s ⟨i, rfl, hi, hP⟩
   by_cases h : i = l.length
   ·right
    refine ⟨.inr (), ?_, ?_⟩
    ·unfold forest_CheckSide.l0
     rw [br_dec, if_neg (by omega)]
    ·rw [if_pos (ascB_idx.2 fun k x y hx hy => hP k x y (by have := (List.getElem?_eq_some_iff.1 hy).1; omega) hx hy)]
   ·have hx : l[i]? = some (l[i]'(by omega)) := by simp
    generalize l[i]'(by omega) = x at hx
    have e1 : IntKind.i64.wrap ((i : Int) + 1) = ((i + 1 : Nat) : Int) := by rw [wr]; omega
    have hstep : ∀ t, forest_CheckSide.l0 l ((l.length : Nat) : Int) vs es ds l (i : Int) = t ↔ br (decide ((i : Int) > 0)) (getR l (IntKind.i64.wrap ((i : Int) - 1)) fun a26 => br (decide (a26 ≥ x)) (some (.done (.inl ()))) (some (.cont ((i + 1 : Nat) : Int)))) (some (.cont ((i + 1 : Nat) : Int))) = t := by
     intro t
     unfold forest_CheckSide.l0
     rw [br_dec, if_pos (by omega), getR_s hx, e1]
    rcases Nat.eq_zero_or_pos i with h0 | h0
    ·left
     refine ⟨((i + 1 : Nat) : Int), ?_, ⟨i + 1, rfl, by omega, fun k x y hk => by omega⟩, by omega⟩
     rw [hstep, br_dec, if_neg (by omega)]
    ·have hy : l[i - 1]? = some (l[i - 1]'(by omega)) := by simp
     generalize l[i - 1]'(by omega) = y at hy
     have e2 : IntKind.i64.wrap ((i : Int) - 1) = ((i - 1 : Nat) : Int) := by rw [wr]; omega
     by_cases hc : y < x
     ·left
      refine ⟨((i + 1 : Nat) : Int), ?_, ⟨i + 1, rfl, by omega, fun k u w hk hu hw => ?_⟩, by omega⟩
      ·rw [hstep, br_dec, if_pos (by omega), e2, getR_s hy, br_dec, if_neg (by omega)]
      ·by_cases hki : k + 1 = i
       ·subst hki
        rw [hx] at hw
        rw [show k + 1 - 1 = k from rfl, hu] at hy
        cases hw; cases hy; exact hc
       ·exact hP k u w (by omega) hu hw
     ·right
      refine ⟨.inl (), ?_, ?_⟩
      ·rw [hstep, br_dec, if_pos (by omega), e2, getR_s hy, br_dec, if_pos (by omega)]
      ·rw [if_neg]
       intro ha
       exact hc (ascB_idx.1 ha (i - 1) y x hy (by rw [show i - 1 + 1 = i by omega]; exact hx)))
  fuel 0 ⟨0, rfl, by omega, fun k x y hk => by omega⟩ (by have := fuel_pos; omega)
 rw [h1, h2]
def sideB (g : Graph) (a b : Int) (l : List Int) : Bool := l.all (hasV g) && (l.contains a && (!(l.contains b) && (ascB l && g.Edges.all fun e => l.contains e.From == l.contains e.To)))
theorem CheckSide_eq {g : Graph} (hs : SmallG g) (hv : validP g = true) {a b : Int} (ha : hasV g a = true) (hb : hasV g b = true) (l : List Int) (hl : l.length ≤ 500) :
  forest_CheckSide g a b l = some (sideB g a b l) := by
 unfold forest_CheckSide sideB
 have h1 : ([a, b] ++ l).length ≤ 1000 := by simp; omega
 rw [gd_t (by unfold bigLen; omega), known_eq g hs _ h1, bd_s, hv]
 simp only [List.all_cons, List.cons_append, List.nil_append, ha, hb, Bool.true_and]
 cases l.all (hasV g) with
 | false => rfl
 | true =>
  rw [show (!true) = false from rfl, br_f, Contains_eq l a (by omega), bd_s]
  cases l.contains a with
  | false => rfl
  | true =>
   rw [show (!true) = false from rfl, br_f, Contains_eq l b (by omega), bd_s]
   cases l.contains b with
   | true => rfl
   | false =>
    rw [br_f, asc_side l (by omega), bd_s]
    cases ascB l with
    | false => rfl
    | true =>
     have he := hs.e
     have := any_loop g.Edges _ rfl (by omega) (fun e => forest_CheckSide_1 e l) (fun e => !(l.contains e.From == l.contains e.To)) (fun e _ => by
      unfold forest_CheckSide_1; rw [Contains_eq l _ (by omega), bd_s, Contains_eq l _ (by omega), bd_s]) (sIndexFuncEE_1.l0 g.Edges ((g.Edges.length : Nat) : Int) l) (fun _ => rfl)
     have h2 : sContainsFuncEE_1 g.Edges l = some (g.Edges.any fun e => !(l.contains e.From == l.contains e.To)) := by
      rw [← this]; rfl
     simp only [if_true]
     rw [h2, bd_s]
     simp only [Bool.not_false, Bool.true_and]
     congr 1
     clear this h2 he hs
     induction g.Edges with
     | nil => rfl
     | cons e r ih => simp only [List.any_cons, List.all_cons, Bool.not_or, Bool.not_not, ih]
theorem closed_root {g : Graph} (hg : VG g) {l : List Int} (h : ∀ e ∈ g.Edges, (l.contains e.From == l.contains e.To) = true) : ∀ (n : Nat) {x : Int}, hasV g x = true → dp g x ≤ n → l.contains x = l.contains (rt g x)
 | n, x, hx, hn => by
  by_cases h0 : dp g x = 0
  ·rw [(dp_zero hg hx).1 h0]
  ·obtain ⟨e, he, h1, _, h2, h3, h4, h5⟩ := par_spec hg hx h0
   have hc : l.contains x = l.contains (par g x) := by
    have := beq_iff_eq.1 (h e he)
    rw [h2]
    unfold atB at h1
    unfold otherP
    by_cases a : x = e.From
    ·rw [if_pos a, a, this]
    ·have b : x = e.To := by
      simp only [Bool.or_eq_true, beq_iff_eq] at h1
      rcases h1 with h | h
      ·exact absurd h.symm a
      ·exact h.symm
     rw [if_neg a, if_pos b, b, this]
   cases n with
   | zero => have := (dp_range hg hx).1; omega
   | succ n => rw [hc, closed_root hg h n h3 (by omega), h5]
theorem side_no {g : Graph} (hg : VG g) {a b : Int} (ha : hasV g a = true) (hb : hasV g b = true) (hr : rt g a = rt g b) (l : List Int) : sideB g a b l = false := by
 rw [Bool.eq_false_iff]
 intro h
 unfold sideB at h
 simp only [Bool.and_eq_true, Bool.not_eq_true'] at h
 obtain ⟨_, h1, h2, _, h3⟩ := h
 have h3 := List.all_eq_true.1 h3
 have k1 := closed_root hg h3 23 ha (dp_range hg ha).2
 have k2 := closed_root hg h3 23 hb (dp_range hg hb).2
 rw [k1, hr, ← k2, h2] at h1
 cases h1
theorem sideP_mem {g : Graph} {a x : Int} : (sideP g a).contains x = (hasV g x && (rt g x == rt g a)) := by
 rw [Bool.eq_iff_iff]
 simp only [List.contains_iff_mem, sideP, List.mem_map, List.mem_filter, Bool.and_eq_true, hasV_iff]
 constructor
 ·rintro ⟨v, ⟨h1, h2⟩, rfl⟩; exact ⟨⟨v, h1, rfl⟩, h2⟩
 ·rintro ⟨⟨v, h1, rfl⟩, h2⟩; exact ⟨v, ⟨h1, h2⟩, rfl⟩
theorem side_yes {g : Graph} (hg : VG g) {a b : Int} (ha : hasV g a = true) (hb : hasV g b = true) : sideB g a b (sideP g a) = !(rt g a == rt g b) := by
 unfold sideB
 have h1 : (sideP g a).all (hasV g) = true := by
  rw [List.all_eq_true]
  intro x hx
  have := sideP_mem (g := g) (a := a) (x := x)
  rw [List.contains_iff_mem.2 hx] at this
  simp only [Bool.true_eq, Bool.and_eq_true] at this
  exact this.1
 have h2 : (sideP g a).contains a = true := by rw [sideP_mem, ha]; simp
 have h3 : (sideP g a).contains b = (rt g b == rt g a) := by rw [sideP_mem, hb]; simp
 have h4 : ascB (sideP g a) = true := ascB_iff.2 (List.Pairwise.sublist (List.Sublist.map _ List.filter_sublist) hg.asc)
 have h5 : (g.Edges.all fun e => (sideP g a).contains e.From == (sideP g a).contains e.To) = true := by
  rw [List.all_eq_true]
  intro e he
  obtain ⟨hf, ht⟩ := hg.ends e he
  have hat : atB e.From e = true := by simp [atB]
  have := (edge_rt hg hf he hat).1
  rw [show otherP e e.From = e.To by unfold otherP; rw [if_pos rfl]] at this
  rw [sideP_mem, sideP_mem, hf, ht, this]; simp
 rw [h1, h2, h3, h4, h5]
 simp only [Bool.true_and, Bool.and_true]
 congr 1
 rw [Bool.eq_iff_iff]
 simp only [beq_iff_eq]
 exact eq_comm
theorem side_len {g : Graph} (hg : VG g) (a : Int) : (sideP g a).length ≤ 24 := by
 unfold sideP
 rw [List.length_map]
 exact Nat.le_trans (List.length_filter_le ..) hg.vlen
end Go.Fw.Gen
