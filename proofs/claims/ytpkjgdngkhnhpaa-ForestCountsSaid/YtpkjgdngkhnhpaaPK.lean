/- The law of the counts holds, in plain words. -/
import Derived.Test.YtpkjgdngkhnhpaaPJ
import Derived.Test.YtpkjgdngkhnhpaaG4
namespace Go.Fw.Gen
open Go.Fw

theorem lb0 {g : Graph} {x : Int} {β : Type} {k : Int → Option β} : getR (lb g x) 0 k = k (rt g x) := rfl
theorem lb1 {g : Graph} {x : Int} {β : Type} {k : Int → Option β} : getR (lb g x) 1 k = k (dp g x) := rfl
theorem lb2 {g : Graph} {x : Int} {β : Type} {k : Int → Option β} : getR (lb g x) 2 k = k (ed g x) := rfl

theorem count_none (d : Int) : ∀ (l : List Edge) (s : Int), (∀ e ∈ l, e.ID ≠ d) → l.foldl (fun (a : Int) (e : Edge) => if e.ID = d then a + 1 else a) s = s
  | [], _, _ => rfl
  | e :: l, s, h => by
    simp only [List.foldl]
    rw [if_neg (h e (.head _)), count_none d l s fun f hf => h f (.tail _ hf)]
theorem count_one (d : Int) : ∀ (l : List Edge) (s : Int), (l.map (·.ID)).Pairwise (· < ·) → (∃ e ∈ l, e.ID = d) → l.foldl (fun (a : Int) (e : Edge) => if e.ID = d then a + 1 else a) s = s + 1
  | [], _, _, h => by obtain ⟨e, he, _⟩ := h; cases he
  | f :: l, s, hp, h => by
    have h2 := List.pairwise_cons.1 hp
    simp only [List.foldl]
    by_cases hf : f.ID = d
    · rw [if_pos hf, count_none d l]
      intro e he hd
      have : f.ID < e.ID := h2.1 e.ID (List.mem_map.2 ⟨e, he, rfl⟩)
      omega
    · rw [if_neg hf]
      obtain ⟨e, he, hd⟩ := h
      refine count_one d l s h2.2 ⟨e, ?_, hd⟩
      cases he with
      | head => exact absurd hd hf
      | tail _ he => exact he

theorem atP_asc {g : Graph} (hg : VG g) (x : Int) : ((atP g x).map (·.ID)).Pairwise (· < ·) := by
  have := hg.easc
  unfold atP
  exact List.Pairwise.sublist (List.Sublist.map _ List.filter_sublist) this

theorem count_at {g : Graph} (hg : VG g) {x : Int} (hx : hasV g x = true) (s : Int) :
    (atP g x).foldl (fun (a : Int) (e : Edge) => if e.ID = ed g x then a + 1 else a) s = s + if dp g x = 0 then 0 else 1 := by
  rcases ed_spec hg hx with ⟨h0, h1⟩ | ⟨h0, e, he, h1, _⟩
  · rw [if_pos h0, count_none, Int.add_zero]
    intro e he
    have := hg.eid e (List.mem_filter.1 he).1
    omega
  · rw [if_neg h0, count_one _ _ _ (atP_asc hg x) ⟨e, he, h1⟩]

theorem cnt_l0 {g : Graph} (hg : VG g) (hs : SmallG g) {i : Nat} {v : Vertex} (hi : g.Vertices[i]? = some v) (c43 c44 : Int) (s : Int) (hs0 : 0 ≤ s) (hs1 : s ≤ 1000000) :
    loopN fuel (clearwaylaw07_ForestCounts.l0 (labs g) c43 c44 (i : Int) v.ID (atP g v.ID) g.Vertices g.Edges g.Depots) (s, 0) = some (.inr (s + if dp g v.ID = 0 then 0 else 1)) := by
  have hv := hasV_of hi
  have hal := atP_len hg v.ID
  refine loop_foldO _ (atP g v.ID) (fun k (a : Int) => (a, (k : Int))) (fun a e => if e.ID = ed g v.ID then a + 1 else a) (fun k a => 0 ≤ a ∧ a ≤ s + k) (s, 0) s _ rfl (by omega) (by omega)
    (by
      intro k e a hk hx ha
      have e1 : IntKind.i64.wrap ((k : Int) + 1) = ((k + 1 : Nat) : Int) := by rw [wr]; omega
      have e2 : IntKind.i64.wrap (a + 1) = a + 1 := by rw [wr]
      unfold clearwaylaw07_ForestCounts.l0
      rw [br_dec, if_pos (by simp only; omega)]
      simp only
      rw [getR_s hx, getR_s (labs_get hi), lb2, br_if, e1, e2]
      by_cases h : e.ID = ed g v.ID
      · rw [if_neg (by simp [h]), if_pos h, getR_s hx, Other_eq, bd_s]
        obtain ⟨he, hb⟩ := List.mem_filter.1 (List.mem_of_getElem? hx)
        have hdp : dp g (otherP e v.ID) = dp g v.ID - 1 := by
          rcases ed_spec hg hv with ⟨_, h1⟩ | ⟨_, f, hf, h1, h2⟩
          · have := hg.eid e he; omega
          · have := edge_uniq hg he (List.mem_filter.1 hf).1 (by omega)
            rw [this]; exact h2
        have ho := hg.other he hb
        obtain ⟨u, hu, hue⟩ := hasV_iff.1 ho
        obtain ⟨j, hj⟩ := List.getElem?_of_mem hu
        rw [← hue, Place_of hg hs hj, bd_s, br_dec, if_neg (by omega), getR_s (labs_get hj), lb1, getR_s (labs_get hi), lb1, br_dec, if_neg (by rw [hue]; omega)]
        exact ⟨rfl, by omega⟩
      · rw [if_pos (by simpa using h), if_neg h]
        exact ⟨rfl, by omega⟩)
    (by
      intro _
      unfold clearwaylaw07_ForestCounts.l0
      rw [br_dec, if_neg (by simp only; omega)]
      simp only
      rw [count_at hg hv])

/-- How many of the first vertices are roots. -/
def roots (g : Graph) (i : Nat) : Nat := ((g.Vertices.take i).filter fun v => decide (dp g v.ID = 0)).length
theorem roots_succ {g : Graph} {i : Nat} {v : Vertex} (hi : g.Vertices[i]? = some v) : roots g (i + 1) = roots g i + if dp g v.ID = 0 then 1 else 0 := by
  unfold roots
  rw [List.take_add_one, hi, List.filter_append, List.length_append]
  by_cases h : dp g v.ID = 0 <;> simp [h]
theorem roots_le (g : Graph) (i : Nat) : roots g i ≤ i := by
  unfold roots
  have := List.length_filter_le (fun v => decide (dp g v.ID = 0)) (g.Vertices.take i)
  have := List.length_take_le i g.Vertices
  omega

theorem Counts_true (n : Int) (l : List A5_Int) (wide : Bool) (hn : inI64 n) (hl : ∀ x ∈ l, A5ok x) : clearwaylaw07_ForestCounts n l wide = some true := by
  obtain ⟨g, hm, hg, hs, hv, _⟩ := Made_eq (wide := wide) hn hl
  have hlen := hg.vlen
  unfold clearwaylaw07_ForestCounts
  rw [sane_eq, bd_s, show (!true) = false from rfl, br_f, hm, bd_s, Labels_eq hg hs hv, bd_s]
  simp only
  rw [show ((0 : Int) != 0) = false from rfl, br_f, labs_len, show (((g.Vertices.length : Nat) : Int) != ((g.Vertices.length : Nat) : Int)) = false by simp, br_f]
  have main : loopN fuel (clearwaylaw07_ForestCounts.l1 (labs g) g.Vertices g.Edges g.Depots) (0, 0, 0, 0) = some (.inr (.inr ((roots g g.Vertices.length : Int), (g.Vertices.length : Int) - (roots g g.Vertices.length : Int), (roots g g.Vertices.length : Int)))) := by
    refine loop_foldO _ g.Vertices (fun i (a : Nat) => ((a : Int), (i : Int) - (a : Int), (a : Int), (i : Int))) (fun a v => a + if dp g v.ID = 0 then 1 else 0) (fun i a => a = roots g i) (0, 0, 0, 0) 0 _ rfl (by omega) rfl
      (by
        intro i v a hi hx ha
        have hr := roots_le g i
        have e1 : IntKind.i64.wrap ((i : Int) + 1) = ((i + 1 : Nat) : Int) := by rw [wr]; omega
        refine ⟨?_, by rw [ha, roots_succ hx]⟩
        unfold clearwaylaw07_ForestCounts.l1
        rw [br_dec, if_pos (by simp only [labs_len]; omega)]
        simp only
        rw [getR_s hx]
        have hcv := CountView hg hs hx
        show bd (clearwayref07_View g (labs g) v.ID) _ = _
        cases hw : clearwayref07_View g (labs g) v.ID with
        | none => rw [hw] at hcv; cases hcv
        | some w =>
          rw [hw, bd_s] at hcv
          rw [bd_s, hcv, bd_s, getR_s (labs_get hx)]
          have b1 : ((v.ID != v.ID) : Bool) = false := by simp
          have b2 : ((((lb g v.ID).length : Nat) : Int) != 3) = false := rfl
          simp only [b1, br_f, getR_s (labs_get hx), b2, lb0]
          show br (rt g v.ID == v.ID) (bd (graph_At g v.ID) _) (bd (graph_At g v.ID) _) = _
          have hz := dp_zero hg (hasV_of hx)
          rw [br_if, At_eq g hs, bd_s, cnt_l0 hg hs hx _ _ _ (by omega) (by omega), bd_s, bd_s, cnt_l0 hg hs hx _ _ _ (by omega) (by omega), bd_s]
          simp only
          by_cases h0 : dp g v.ID = 0
          · have e2 : IntKind.i64.wrap ((a : Int) + 1) = ((a + 1 : Nat) : Int) := by rw [wr]; omega
            have e3 : (i : Int) - (a : Int) + 0 = ((i + 1 : Nat) : Int) - ((a + 1 : Nat) : Int) := by omega
            rw [if_pos (by simpa using hz.1 h0), if_pos h0, if_pos h0, if_pos h0, e1, e2, e3]
          · have e2 : IntKind.i64.wrap ((a : Int) + 0) = ((a + 0 : Nat) : Int) := by rw [wr]; omega
            have e3 : (i : Int) - (a : Int) + 1 = ((i + 1 : Nat) : Int) - ((a + 0 : Nat) : Int) := by omega
            rw [if_neg (by simpa using fun c => h0 (hz.2 c)), if_neg h0, if_neg h0, if_neg h0, e1, e2, e3]
            rfl)
      (by
        intro hI
        rw [hI]
        unfold clearwaylaw07_ForestCounts.l1
        rw [br_dec, if_neg (by simp only [labs_len]; omega)])
  rw [main, bd_s]
  have hr := roots_le g g.Vertices.length
  have e4 : IntKind.i64.wrap (((g.Vertices.length : Nat) : Int) - (roots g g.Vertices.length : Int)) = ((g.Vertices.length : Nat) : Int) - (roots g g.Vertices.length : Int) := by rw [wr]
  simp only
  rw [e4, beq_self_eq_true, br_t, beq_self_eq_true]

end Go.Fw.Gen
