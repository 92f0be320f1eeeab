/- What the law of the reference needs of cut graphs, cut views and changed labels, in plain words. -/
import Derived.Test.YtpkjgdngkhnhpaaPV
namespace Go.Fw.Gen
open Go.Fw
theorem pick7_eq {c n : Int} (hc : inI64 c) (hn : 0 < n) : w7pick c n = some (pickZ c n) := pick_core hc hn
theorem pick_get {α : Type} (l : List α) (hl : 0 < l.length) (c : Int) : ∃ (i : Nat) (v : α), pickZ c ((l.length : Nat) : Int) = (i : Int) ∧ l[i]? = some v := by
 have h := pickZ_range (c := c) (n := ((l.length : Nat) : Int)) (by omega)
 refine ⟨(pickZ c ((l.length : Nat) : Int)).toNat, l[(pickZ c ((l.length : Nat) : Int)).toNat]'(by omega), by omega, by simp⟩
theorem all_loop {α S R : Type} (l : List α) (hl : l.length ≤ 1000000) (e : Nat → S) (f : S → Option (Nx S R)) (fin : R)
  (hs : ∀ (i : Nat) (x : α), i < l.length → l[i]? = some x → f (e i) = some (.cont (e (i + 1)))) (he : f (e l.length) = some (.done fin)) : loopN fuel f (e 0) = some fin := by
 rcases chk_loopE l hl e f (fun _ _ => true) (fun _ _ => fin) fin (fun i x hi hx _ => by rw [hs i x hi hx, if_pos rfl]) (fun _ => he) with ⟨_, h⟩ | ⟨_, _, _, h, _⟩
 ·exact h
 ·cases h
theorem VG_of {g : Graph} (h : validP g = true) : VG g := by
 unfold validP at h
 simp only [Bool.and_eq_true, List.all_eq_true] at h
 obtain ⟨h1, h2, h3, h4, _⟩ := h
 refine ⟨fun e he => (h4 e he).2, ascB_iff.1 h1, ascB_iff.1 h2, fun v hv => ?_, fun e he => ?_⟩
 ·have := h3 v hv
  unfold okV at this
  simp only [Bool.and_eq_true, decide_eq_true_eq] at this
  exact this.1
 ·have := (h4 e he).1
  unfold okE at this
  simp only [Bool.and_eq_true, decide_eq_true_eq] at this
  exact this.1
theorem min_if (n : Int) (hn : 0 ≤ n) (m : Nat) : 0 ≤ (if n < (m : Int) then n else (m : Int)) ∧ (if n < (m : Int) then n else (m : Int)) ≤ (m : Int) ∧ ((if n < (m : Int) then n else (m : Int)).toNat : Int) ≤ n := by
 split <;> omega
theorem few_eq (g : Graph) : ∃ h, w7few g = some h ∧ SmallG h := by
 unfold w7few
 have a1 := min_if 6 (by omega) g.Vertices.length
 have a2 := min_if 8 (by omega) g.Edges.length
 have a3 := min_if 4 (by omega) g.Depots.length
 simp only [List.length_map]
 rw [gd_t a1.1, gd_t a1.2.1, gd_t a2.1, gd_t a2.2.1, gd_t a3.1, gd_t a3.2.1]
 refine ⟨_, rfl, ?_, ?_, ?_⟩
 ·simp only [List.length_take]; have := a1.2.2; omega
 ·simp only [List.length_take]; have := a2.2.2; omega
 ·simp only [List.length_take]; have := a3.2.2; omega
theorem short_eq (v : View) : ∃ w, w7short v = some w ∧ w.Labels.length ≤ 1000 ∧ w.Edges.length ≤ 1000 := by
 unfold w7short
 have a1 := min_if 6 (by omega) v.Edges.length
 have a2 := min_if 8 (by omega) v.Labels.length
 simp only [List.length_map]
 rw [gd_t a1.1, gd_t a1.2.1, gd_t a2.1, gd_t a2.2.1, gd_t (by simp only [List.length_take]; unfold bigLen; have := a2.2.2; omega)]
 have hlen' : (v.Labels.take (if (8 : Int) < ((v.Labels.length : Nat) : Int) then (8 : Int) else ((v.Labels.length : Nat) : Int)).toNat).length ≤ 8 := by
  rw [List.length_take]; have := a2.2.2; omega
 generalize v.Labels.take (if (8 : Int) < ((v.Labels.length : Nat) : Int) then (8 : Int) else ((v.Labels.length : Nat) : Int)).toNat = L at hlen'
 obtain ⟨r, h1, h2⟩ := loopN_of (f := w7short.l0 v.Vertex.ID v.Vertex.Side v.Depots (v.Edges.take (if (6 : Int) < ((v.Edges.length : Nat) : Int) then (6 : Int) else ((v.Edges.length : Nat) : Int)).toNat))
  (fun s => ∃ i : Nat, s.1 = (i : Int) ∧ i ≤ s.2.length ∧ s.2.length = L.length) (fun r => r.length = L.length) (fun s => L.length - s.1.toNat) (by
   rintro ⟨s1, M⟩ ⟨i, h1, h2, h3⟩
   simp only at h1 h2 h3
   subst h1
   by_cases h : i = M.length
   ·right
    refine ⟨M, ?_, h3⟩
    unfold w7short.l0
    rw [br_dec, if_neg (by simp only; omega)]
   ·left
    have hx : M[i]? = some (M[i]'(by omega)) := by simp
    generalize M[i]'(by omega) = l at hx
    have gI : (0 : Int) ≤ (i : Int) ∧ (i : Int) < ((M.length : Nat) : Int) := by omega
    have e1 : IntKind.i64.wrap ((i : Int) + 1) = ((i + 1 : Nat) : Int) := by rw [wr]; omega
    have a4 := min_if 4 (by omega) l.Label.length
    unfold w7short.l0
    rw [br_dec, if_pos (by simp only; omega)]
    simp only [List.length_map]
    rw [gd_t gI, Int.toNat_natCast, Nat.zero_add, hx, bd_s, gd_t gI, bd_s, gd_t a4.1, gd_t a4.2.1, gd_t gI, bd_s, e1]
    exact ⟨_, rfl, ⟨i + 1, rfl, by simp only [List.length_set]; omega, by simp only [List.length_set]; omega⟩, by simp only; omega⟩)
  fuel (0, L) ⟨0, rfl, by omega, rfl⟩ (by have := fuel_pos; simp only; omega)
 have h1' : loopN fuel (w7short.l0 v.Vertex.ID v.Vertex.Side v.Depots (v.Edges.take (if (6 : Int) < ((v.Edges.length : Nat) : Int) then (6 : Int) else ((v.Edges.length : Nat) : Int)).toNat)) (0, L) = some r := h1
 rw [h1', bd_s]
 refine ⟨_, rfl, by simp only; omega, ?_⟩
 simp only [List.length_take]
 have := a1.2.2
 omega
theorem At3_ex {g : Graph} (hs : SmallG g) (id : Int) : r3At g id = some (atP g id) := by
 unfold r3At
 have hl := hs.e
 rw [loop_foldO (r3At.l0 id g.Vertices g.Edges g.Depots) g.Edges (fun i (a : List Edge) => ((i : Int), a)) (fun a x => if atB id x then a ++ [x] else a) (fun i a => a.length ≤ i) (0, []) [] (atP g id) rfl (by omega) (by simp)
  (by
   intro i x a hi hx ha
   unfold r3At.l0
   have e1 : IntKind.i64.wrap ((i : Int) + 1) = ((i + 1 : Nat) : Int) := by rw [wr]; omega
   have hgd : (a ++ [x]).length ≤ bigLen := by rw [List.length_append, List.length_singleton]; unfold bigLen; omega
   rw [br_dec, if_pos (by simp only; omega), getR_s hx]
   simp only [e1, getR_s hx, gd_t hgd, br_or]
   show br (atB id x) _ _ = _ ∧ _
   cases atB id x
   ·exact ⟨rfl, by simp; omega⟩
   ·exact ⟨rfl, by simp; omega⟩)
  (by
   intro _
   unfold r3At.l0
   rw [br_dec, if_neg (by simp only; omega)]
   simp only [foldl_filter, List.nil_append]; rfl)]
 rfl
theorem View_ex1 (E : List Edge) (hE : E.length ≤ 1000) (L : List Named) (hL : L.length ≤ 1000) (hn : ∀ l ∈ L, l.Label.length ≤ 1000) (x c15 c16 : Int) (ds : List Int) :
  ∃ r, loopN fuel (r7View.l1 L x c15 c16 E ds) (0, []) = some r ∧ r.length ≤ L.length := by
 refine ⟨_, loop_foldO _ L (fun i (a : List Named) => ((i : Int), a)) (fun a l => if (l.ID == x || E.any fun e => otherP e x == l.ID) then a ++ [l] else a) (fun i a => a.length ≤ i) (0, []) [] _ rfl (by omega) (by simp)
  (by
   intro i l a hi hx ha
   unfold r7View.l1
   have e1 : IntKind.i64.wrap ((i : Int) + 1) = ((i + 1 : Nat) : Int) := by rw [wr]; omega
   have hgd : (a ++ [l]).length ≤ bigLen := by rw [List.length_append, List.length_singleton]; unfold bigLen; omega
   rw [br_dec, if_pos (by simp only; omega)]
   simp only
   rw [getR_s hx, loop_foldO (r7View.l0 L x (i : Int) c15 c16 E ds a) E (fun m (b : Bool) => (b, (m : Int))) (fun b e => b || otherP e x == l.ID) (fun _ _ => True) (l.ID == x, 0) (l.ID == x) (l.ID == x || E.any fun e => otherP e x == l.ID) rfl (by omega) trivial
    (by
     intro m e b hm he _
     have e2 : IntKind.i64.wrap ((m : Int) + 1) = ((m + 1 : Nat) : Int) := by rw [wr]; omega
     unfold r7View.l0
     rw [br_dec, if_pos (by simp only; omega)]
     simp only [e2]
     cases b with
     | true => exact ⟨rfl, trivial⟩
     | false => rw [br_f, getR_s he, Other3_eq, bd_s, getR_s hx]; exact ⟨rfl, trivial⟩)
    (by
     intro _
     unfold r7View.l0
     rw [br_dec, if_neg (by simp only; omega)]
     simp only [foldl_or]), bd_s, e1]
   have hll := hn l (List.mem_of_getElem? hx)
   cases (l.ID == x || E.any fun e => otherP e x == l.ID) with
   | true =>
    rw [br_t, getR_s hx, getR_s hx, gd_t (by unfold bigLen; omega), gd_t hgd, if_pos rfl]
    exact ⟨rfl, by simp; omega⟩
   | false => exact ⟨rfl, Nat.le_succ_of_le ha⟩)
  (by
   intro _
   unfold r7View.l1
   rw [br_dec, if_neg (by simp only; omega)]), ?_⟩
 rw [foldl_filter, List.nil_append]
 exact List.length_filter_le ..
theorem View_ex {g : Graph} (hs : SmallG g) (L : List Named) (hL : L.length ≤ 1000) (hn : ∀ l ∈ L, l.Label.length ≤ 1000) (x : Int) :
  ∃ w, r7View g L x = some w ∧ w.Labels.length ≤ 1000 ∧ w.Edges.length ≤ 1000 := by
 have hal : (atP g x).length ≤ 1000 := Nat.le_trans (List.length_filter_le ..) hs.e
 have hd := hs.d
 unfold r7View
 rcases Place_eq hs x with ⟨i, v, h1, h2, h3⟩ | ⟨h1, _⟩
 ·obtain ⟨r, hr, hrl⟩ := View_ex1 (atP g x) hal L hL hn x v.ID v.Side g.Depots
  rw [h1, bd_s, gd_t (by unfold bigLen; omega), At3_ex hs, bd_s, br_dec, if_pos (by omega), getR_s h2, hr, bd_s]
  exact ⟨_, rfl, by simp only; omega, hal⟩
 ·obtain ⟨r, hr, hrl⟩ := View_ex1 (atP g x) hal L hL hn x 0 0 g.Depots
  rw [h1, bd_s, gd_t (by unfold bigLen; omega), At3_ex hs, bd_s, br_dec, if_neg (by omega), hr, bd_s]
  exact ⟨_, rfl, by simp only; omega, hal⟩
theorem pickB_eq {c n : Int} (hc : inI64 c) (hn : 0 < n) : r7pick c n = some (pickZ c n) := pick_core hc hn
structure A3ok (x : A3_Int) : Prop where
 x0 : inI64 x.x0
 x1 : inI64 x.x1
 x2 : inI64 x.x2
structure Held (mem : List (List Int)) (L : List NamedR) : Prop where
 at_ : ∀ r ∈ L, ∃ l, mem[r.Label.i]? = some l ∧ r.Label.off + r.Label.len ≤ l.length
 len : ∀ r ∈ L, r.Label.len ≤ 1000
theorem Held.res {mem : List (List Int)} : ∀ {L : List NamedR}, Held mem L → ∃ R, mapO (fun x : NamedR => bd (resRef mem x.Label) fun y => some ((Named.mk x.ID y) : Named)) L = some R ∧ R.length = L.length ∧ ∀ l ∈ R, l.Label.length ≤ 1000
 | [], _ => ⟨[], rfl, rfl, by simp⟩
 | x :: L, h => by
  obtain ⟨R, h1, h2, h3⟩ := Held.res (L := L) ⟨fun r hr => h.at_ r (.tail _ hr), fun r hr => h.len r (.tail _ hr)⟩
  obtain ⟨l, hl, hb⟩ := h.at_ x (.head _)
  have hlen := h.len x (.head _)
  have hr : resRef mem x.Label = some ((l.drop x.Label.off).take x.Label.len) := by
   unfold resRef
   rw [hl]
   simp only
   rw [if_pos hb]
  refine ⟨_, by simp only [mapO, hr, bd_s, h1]; rfl, by simp [h2], fun l hl => ?_⟩
  cases hl with
  | head => simp only [List.length_take]; omega
  | tail _ hl => exact h3 l hl
theorem Held.set_mem {mem : List (List Int)} {L : List NamedR} (h : Held mem L) {i : Nat} {l l' : List Int} (hi : mem[i]? = some l) (hl : l'.length = l.length) : Held (mem.set i l') L := by
 refine ⟨fun r hr => ?_, h.len⟩
 obtain ⟨m, h1, h2⟩ := h.at_ r hr
 have hil := (List.getElem?_eq_some_iff.1 hi).1
 by_cases e : i = r.Label.i
 ·subst e
  rw [hi] at h1; cases h1
  exact ⟨l', by rw [List.getElem?_set_self hil], by omega⟩
 ·exact ⟨m, by rw [List.getElem?_set_ne e]; exact h1, h2⟩
theorem Held.set_at {mem : List (List Int)} {L : List NamedR} (h : Held mem L) {i : Nat} {x : NamedR} (hx : ∃ l, mem[x.Label.i]? = some l ∧ x.Label.off + x.Label.len ≤ l.length) (hl : x.Label.len ≤ 1000) : Held mem (L.set i x) := by
 constructor
 ·intro r hr
  rcases List.mem_or_eq_of_mem_set hr with hr | rfl
  ·exact h.at_ r hr
  ·exact hx
 ·intro r hr
  rcases List.mem_or_eq_of_mem_set hr with hr | rfl
  ·exact h.len r hr
  ·exact hl
theorem Bent_l0 (x : List A3_Int) (hx : ∀ a ∈ x, A3ok a) (mem : List (List Int)) (L : List NamedR) (hL : L.length ≤ 1000) (h : Held mem L) :
  ∃ r, loopN fuel (r7Bent.l0 x) (0, mem, L) = some r ∧ Held r.1 r.2 ∧ r.2.length = L.length := by
 refine loopN_of (f := r7Bent.l0 x) (fun s => ∃ i : Nat, s.1 = (i : Int) ∧ i ≤ 4 ∧ Held s.2.1 s.2.2 ∧ s.2.2.length = L.length) (fun r => Held r.1 r.2 ∧ r.2.length = L.length) (fun s => 4 - s.1.toNat) ?_ fuel (0, mem, L) ⟨0, rfl, by omega, h, rfl⟩ (by have := fuel_pos; simp only; omega)
 rintro ⟨s1, mem, K⟩ ⟨i, h1, h2, h3, h4⟩
 simp only at h1 h3 h4
 subst h1
 unfold r7Bent.l0
 simp only
 by_cases hi : i < x.length
 ·rw [br_dec, if_pos (by omega)]
  by_cases hi4 : i < 4
  ·rw [br_dec, if_pos (by omega)]
   by_cases hK : 0 < K.length
   ·rw [br_dec, if_pos (by omega)]
    left
    have hxi : x[i]? = some (x[i]'hi) := by simp
    generalize x[i]'hi = a at hxi
    have ha := hx a (List.mem_of_getElem? hxi)
    have e1 : IntKind.i64.wrap ((i : Int) + 1) = ((i + 1 : Nat) : Int) := by rw [wr]; omega
    obtain ⟨k, n, hk, hkn⟩ := pick_get K hK a.x0
    obtain ⟨m, w, hm, hmw⟩ := pick_get K hK a.x2
    have hkl := (List.getElem?_eq_some_iff.1 hkn).1
    have hml := (List.getElem?_eq_some_iff.1 hmw).1
    have gK : (0 : Int) ≤ (k : Int) ∧ (k : Int) < ((K.length : Nat) : Int) := by omega
    have gM : (0 : Int) ≤ (m : Int) ∧ (m : Int) < ((K.length : Nat) : Int) := by omega
    obtain ⟨l, hl, hlb⟩ := h3.at_ n (List.mem_of_getElem? hkn)
    have hln := h3.len n (List.mem_of_getElem? hkn)
    obtain ⟨l2, hl2, hlb2⟩ := h3.at_ w (List.mem_of_getElem? hmw)
    have hlw := h3.len w (List.mem_of_getElem? hmw)
    have e2 : IntKind.i64.wrap (((n.Label.len : Nat) : Int) + 1) = ((n.Label.len + 1 : Nat) : Int) := by rw [wr]; omega
    have hz := pickZ_range (c := a.x1) (n := ((n.Label.len + 1 : Nat) : Int)) (by omega)
    simp only [getR_s hxi]
    rw [pickB_eq ha.x0 (by omega), bd_s, hk, gd_t gK, Int.toNat_natCast, Nat.zero_add, hkn, bd_s, e2, pickB_eq ha.x1 (by omega), bd_s, gd_t gK, bd_s, br_if]
    by_cases hq : pickZ a.x1 ((n.Label.len + 1 : Nat) : Int) = ((n.Label.len : Nat) : Int)
    ·rw [if_pos (by simpa using hq), pickB_eq ha.x2 (by omega), bd_s, hm, pickB_eq ha.x2 (by decide), bd_s, br_if]
     have swap : ∃ s', (gd (0 ≤ ((m : Nat) : Int) ∧ ((m : Nat) : Int) < ((K.length : Nat) : Int)) <| bd (K[(0 + ((m : Nat) : Int).toNat)]?) fun a56 => gd (0 ≤ ((k : Nat) : Int) ∧ ((k : Nat) : Int) < ((K.length : Nat) : Int)) <| bd (some n) fun a59 => gd (0 ≤ ((k : Nat) : Int) ∧ ((k : Nat) : Int) < ((K.length : Nat) : Int)) <| bd (some n) fun a62 =>
       gd (0 ≤ ((m : Nat) : Int) ∧ ((m : Nat) : Int) < ((K.length : Nat) : Int)) <| bd ((K.set k (NamedR.mk a62.ID a56.Label))[(0 + ((m : Nat) : Int).toNat)]?) fun a65 =>
       (some (.cont ((IntKind.i64.wrap ((i : Int) + 1)), mem, ((K.set k (NamedR.mk a62.ID a56.Label)).set (0 + ((m : Nat) : Int).toNat) (NamedR.mk a65.ID a59.Label)))) : Option (Nx (Int × (List (List Int)) × (List NamedR)) ((List (List Int)) × (List NamedR))))) = some (.cont s') ∧
       (∃ j : Nat, s'.1 = (j : Int) ∧ j ≤ 4 ∧ Held s'.2.1 s'.2.2 ∧ s'.2.2.length = L.length) ∧ 4 - s'.1.toNat < 4 - ((i : Nat) : Int).toNat := by
      rw [gd_t gM, Int.toNat_natCast, Nat.zero_add, hmw, bd_s, gd_t gK, bd_s, gd_t gK, bd_s, gd_t gM]
      have hset : ∃ u, (K.set k (NamedR.mk n.ID w.Label))[m]? = some u := ⟨(K.set k (NamedR.mk n.ID w.Label))[m]'(by rw [List.length_set]; exact hml), by simp⟩
      obtain ⟨u, hu⟩ := hset
      rw [hu, bd_s, e1]
      refine ⟨_, rfl, ⟨i + 1, rfl, by omega, ?_, by simp only [List.length_set]; exact h4⟩, by simp only; omega⟩
      exact (h3.set_at (x := NamedR.mk n.ID w.Label) ⟨l2, hl2, hlb2⟩ hlw).set_at (x := NamedR.mk u.ID n.Label) ⟨l, hl, hlb⟩ hln
     by_cases h5 : pickZ a.x2 5 = 0
     ·rw [if_pos (by simpa using h5), br_dec]
      by_cases h0 : pickZ a.x1 ((n.Label.len + 1 : Nat) : Int) > 0
      ·have e3 : IntKind.i64.wrap (pickZ a.x1 ((n.Label.len + 1 : Nat) : Int) - 1) = ((n.Label.len : Nat) : Int) - 1 := by rw [hq]; exact wr
       rw [if_pos h0, gd_t gK, bd_s, e3, gd_t (by omega), gd_t (by omega), gd_t gK, bd_s, e1]
       refine ⟨_, rfl, ⟨i + 1, rfl, by omega, ?_, by simp only [List.length_set]; exact h4⟩, by simp only; omega⟩
       refine h3.set_at ⟨l, hl, ?_⟩ ?_
       ·simp only; omega
       ·simp only; omega
      ·rw [if_neg h0]
       exact swap
     ·rw [if_neg (by simpa using h5)]
      exact swap
    ·have g3 : (0 : Int) ≤ pickZ a.x1 ((n.Label.len + 1 : Nat) : Int) ∧ pickZ a.x1 ((n.Label.len + 1 : Nat) : Int) < ((n.Label.len : Nat) : Int) := by omega
     have hcell : ∃ u, l[(n.Label.off + (pickZ a.x1 ((n.Label.len + 1 : Nat) : Int)).toNat)]? = some u := ⟨l[(n.Label.off + (pickZ a.x1 ((n.Label.len + 1 : Nat) : Int)).toNat)]'(by omega), by simp⟩
     obtain ⟨u, hu⟩ := hcell
     rw [if_neg (by simpa using hq), pickB_eq ha.x2 (by decide), bd_s, br_if]
     split
     ·rw [gd_t gK, bd_s, pickB_eq ha.x2 (by decide), bd_s, gd_t g3, hl, bd_s, hu, bd_s, e1]
      exact ⟨_, rfl, ⟨i + 1, rfl, by omega, h3.set_mem hl (by simp), h4⟩, by simp only; omega⟩
     ·rw [gd_t gK, bd_s, gd_t gK, bd_s, gd_t g3, hl, bd_s, hu, bd_s, pickB_eq ha.x2 (by decide), bd_s, gd_t g3, bd_s, hu, bd_s, e1]
      exact ⟨_, rfl, ⟨i + 1, rfl, by omega, h3.set_mem hl (by simp), h4⟩, by simp only; omega⟩
   ·right
    rw [br_dec, if_neg (by omega)]
    exact ⟨_, rfl, h3, h4⟩
  ·right
   rw [br_dec, if_neg (by omega)]
   exact ⟨_, rfl, h3, h4⟩
 ·right
  rw [br_dec, if_neg (by omega)]
  exact ⟨_, rfl, h3, h4⟩
theorem Bent_ex (q : List Named) (x : List A3_Int) (hx : ∀ a ∈ x, A3ok a) (hq : q.length ≤ 1000) (hn : ∀ l ∈ q, l.Label.length ≤ 1000) : ∃ R, r7Bent q x = some R ∧ R.length ≤ 1000 ∧ ∀ l ∈ R, l.Label.length ≤ 1000 := by
 unfold r7Bent
 have main : ∃ r, loopN fuel (r7Bent.l1 q x) (0, [], []) = some r ∧ (Held r.1 r.2 ∧ r.2.length = q.length) := by
  refine loopN_of (f := r7Bent.l1 q x) (fun s => ∃ i : Nat, s.1 = (i : Int) ∧ i ≤ q.length ∧ Held s.2.1 s.2.2 ∧ s.2.2.length = i) (fun r => Held r.1 r.2 ∧ r.2.length = q.length) (fun s => q.length - s.1.toNat) ?_ fuel (0, [], []) ⟨0, rfl, by omega, ⟨by simp, by simp⟩, rfl⟩ (by have := fuel_pos; simp only; omega)
  rintro ⟨s1, mem, K⟩ ⟨i, h1, h2, h3, h4⟩
  simp only at h1 h3 h4
  subst h1
  unfold r7Bent.l1
  simp only
  by_cases h : i = q.length
  ·right
   rw [br_dec, if_neg (by omega)]
   obtain ⟨r, r1, r2, r3⟩ := Bent_l0 x hx mem K (by omega) h3
   rw [r1, bd_s]
   exact ⟨_, rfl, r2, by simp only; omega⟩
  ·left
   have hxi : q[i]? = some (q[i]'(by omega)) := by simp
   generalize q[i]'(by omega) = l at hxi
   have hl := hn l (List.mem_of_getElem? hxi)
   have e1 : IntKind.i64.wrap ((i : Int) + 1) = ((i + 1 : Nat) : Int) := by rw [wr]; omega
   rw [br_dec, if_pos (by omega), getR_s hxi, getR_s hxi, gd_t (by unfold bigLen; omega), gd_t (by rw [List.length_append, List.length_singleton]; unfold bigLen; omega), e1]
   refine ⟨_, rfl, ⟨i + 1, rfl, by omega, ⟨fun r hr => ?_, fun r hr => ?_⟩, by simp [h4]⟩, by simp only; omega⟩
   ·rw [List.mem_append, List.mem_singleton] at hr
    rcases hr with hr | rfl
    ·obtain ⟨m, m1, m2⟩ := h3.at_ r hr
     have := (List.getElem?_eq_some_iff.1 m1).1
     exact ⟨m, by rw [List.getElem?_append_left this]; exact m1, m2⟩
    ·exact ⟨l.Label, by simp, by simp⟩
   ·rw [List.mem_append, List.mem_singleton] at hr
    rcases hr with hr | rfl
    ·exact h3.len r hr
    ·simpa using hl
 obtain ⟨r, r1, r2, r3⟩ := main
 rw [r1, bd_s]
 obtain ⟨R, h1, h2, h3⟩ := r2.res
 rw [h1, bd_s]
 exact ⟨R, rfl, by omega, h3⟩
end Go.Fw.Gen
