/- The reference's labels, in plain words: they are the forest's. -/
import Derived.Test.YtpkjgdngkhnhpaaPR
namespace Go.Fw.Gen
open Go.Fw
def nmR : Nat → List Vertex → List NamedR
 | _, [] => []
 | j, v :: r => ⟨v.ID, ⟨j, 0, 3⟩⟩ :: nmR (j + 1) r
theorem nmR_len : ∀ (j : Nat) (l : List Vertex), (nmR j l).length = l.length
 | _, [] => rfl
 | j, v :: r => by simp [nmR, nmR_len (j + 1) r]
theorem nmR_get : ∀ (j : Nat) (l : List Vertex) (i : Nat), (nmR j l)[i]? = (l[i]?).map fun v => ⟨v.ID, ⟨j + i, 0, 3⟩⟩
 | _, [], i => by simp [nmR]
 | j, v :: r, 0 => by simp [nmR]
 | j, v :: r, i + 1 => by simp only [nmR, List.getElem?_cons_succ, nmR_get (j + 1) r i]; congr 1; funext v; congr 2; omega
theorem nmR_app : ∀ (j : Nat) (l : List Vertex) (v : Vertex), nmR j (l ++ [v]) = nmR j l ++ [⟨v.ID, ⟨j + l.length, 0, 3⟩⟩]
 | j, [], v => rfl
 | j, u :: r, v => by
  simp only [List.cons_append, nmR, nmR_app (j + 1) r v, List.length_cons]
  rw [show j + 1 + r.length = j + (r.length + 1) by omega]
theorem lab_root {g : Graph} (hg : VG g) {i : Nat} {v : Vertex} (hi : g.Vertices[i]? = some v) (c14 c15 : Int) (c17 : List (List Int)) (c21 : List NamedR) :
  loopN fuel (r7Labels.l0 c14 c15 (g.Vertices.map fun u => rt g u.ID == rt g v.ID) c17 g.Vertices g.Edges g.Depots c21) (-1, IntKind.i64.wrap ((((g.Vertices.map fun u => rt g u.ID == rt g v.ID).length : Nat) : Int) - 1)) = some (rt g v.ID) := by
 have hvl := hg.vlen
 have hvv := hasV_of hi
 obtain ⟨hr1, hr2, _⟩ := rt_root hg hvv
 obtain ⟨u, hu, hur⟩ := hasV_iff.1 hr1
 obtain ⟨R, hR⟩ := List.getElem?_of_mem hu
 have hRl := (List.getElem?_eq_some_iff.1 hR).1
 have low : ∀ (j : Nat) (w : Vertex), g.Vertices[j]? = some w → rt g w.ID = rt g v.ID → R ≤ j := by
  intro j w hw hrt
  rcases Nat.lt_or_ge j R with h | h
  ·exfalso
   obtain ⟨lj, rfl⟩ := List.getElem?_eq_some_iff.1 hw
   obtain ⟨lR, rfl⟩ := List.getElem?_eq_some_iff.1 hR
   have := (List.pairwise_iff_getElem.1 hg.asc) j R (by simpa using lj) (by simpa using lR) h
   simp only [List.getElem_map] at this
   have h3 := (allT_J hg).1.root _ (look_mem hg (hasV_of hw)).1
   rw [(look_mem hg (hasV_of hw)).2] at h3
   have h4 : rt g (g.Vertices[j]).ID ≤ (g.Vertices[j]).ID := h3
   rw [hrt, ← hur] at h4
   omega
  ·exact h
 obtain ⟨r, h1, h2⟩ := loopN_of (f := r7Labels.l0 c14 c15 (g.Vertices.map fun u => rt g u.ID == rt g v.ID) c17 g.Vertices g.Edges g.Depots c21)
  (fun s => ∃ m : Nat, s.2 = (m : Int) - 1 ∧ m ≤ g.Vertices.length ∧ (m ≤ R → s.1 = rt g v.ID)) (fun r => r = rt g v.ID) (fun s => (s.2 + 1).toNat) (by
   rintro ⟨q, s2⟩ ⟨m, h1, h2, h3⟩
   simp only at h1 h3
   subst h1
   cases m with
   | zero =>
    right
    refine ⟨q, ?_, h3 (by omega)⟩
    unfold r7Labels.l0
    rw [br_dec, if_neg (by simp only; omega)]
   | succ m =>
    left
    have hx : g.Vertices[m]? = some (g.Vertices[m]'(by omega)) := by simp
    generalize g.Vertices[m]'(by omega) = w at hx
    have e0 : ((m + 1 : Nat) : Int) - 1 = (m : Int) := by omega
    have e1 : IntKind.i64.wrap ((m : Int) - 1) = (m : Int) - 1 := wr
    have hin : (g.Vertices.map fun u => rt g u.ID == rt g v.ID)[m]? = some (rt g w.ID == rt g v.ID) := by rw [List.getElem?_map, hx]; rfl
    unfold r7Labels.l0
    rw [e0, br_dec, if_pos (by simp only; omega)]
    simp only
    rw [getR_s hin, e1]
    by_cases hq : rt g w.ID = rt g v.ID
    ·have hRm := low m w hx hq
     rw [beq_iff_eq.2 hq, br_t, getR_s hx]
     refine ⟨_, rfl, ⟨m, rfl, by omega, fun hmR => ?_⟩, by simp only; omega⟩
     obtain rfl : m = R := by omega
     rw [hx] at hR
     cases hR
     exact hur
    ·rw [beq_eq_false_iff_ne.2 hq, br_f]
     refine ⟨_, rfl, ⟨m, rfl, by omega, fun hmR => ?_⟩, by simp only; omega⟩
     by_cases e : m = R
     ·subst e
      rw [hx] at hR
      cases hR
      rw [hur, hr2] at hq
      exact absurd rfl hq
     ·exact h3 (by omega))
  fuel (-1, IntKind.i64.wrap ((((g.Vertices.map fun u => rt g u.ID == rt g v.ID).length : Nat) : Int) - 1)) ⟨g.Vertices.length, by rw [List.length_map]; exact wr, by omega, fun h => by omega⟩ (by
   have := fuel_pos
   simp only [List.length_map]
   rw [wr (n := ((g.Vertices.length : Nat) : Int) - 1)]
   omega)
 rw [h1, h2]
theorem lab_depth {g : Graph} (hg : VG g) (hs : SmallG g) {i : Nat} {v : Vertex} (hi : g.Vertices[i]? = some v) (c33 : Int) (c35 : List (List Int)) (c39 : List NamedR) :
  loopN fuel (r7Labels.l1 (i : Int) c33 (rt g v.ID) c35 g.Vertices g.Edges g.Depots c39) 0 = some (dp g v.ID) := by
 have hvv := hasV_of hi
 obtain ⟨hr1, hr2, hr3⟩ := rt_root hg hvv
 have hd := dp_range hg hvv
 obtain ⟨r, h1, h2⟩ := loopN_of (f := r7Labels.l1 (i : Int) c33 (rt g v.ID) c35 g.Vertices g.Edges g.Depots c39)
  (fun s => ∃ d : Nat, s = (d : Int) ∧ (d : Int) ≤ dp g v.ID) (fun r => r = dp g v.ID) (fun s => 100 - s.toNat) (by
   rintro s ⟨d, rfl, hd2⟩
   have e1 : IntKind.i64.wrap ((d : Int) + 1) = ((d + 1 : Nat) : Int) := by rw [wr]; omega
   have hg2 : (g.Vertices.map fun u => reachB g d (rt g v.ID) u.ID)[i]? = some (decide (dp g v.ID ≤ (d : Int))) := by
    rw [List.getElem?_map, hi, Option.map_some, reach_root hg hr1 hr3 d hvv, beq_self_eq_true, Bool.true_and]
   have hstep : r7Labels.l1 (i : Int) c33 (rt g v.ID) c35 g.Vertices g.Edges g.Depots c39 (d : Int) = if dp g v.ID ≤ (d : Int) then some (.done (d : Int)) else some (.cont ((d + 1 : Nat) : Int)) := by
    unfold r7Labels.l1
    show bd (r7spread g (rt g v.ID) (d : Int)) _ = _
    rw [spread_eq hg hs hr1 d (by omega), bd_s, getR_s hg2, e1]
    by_cases h : dp g v.ID ≤ (d : Int)
    ·rw [decide_eq_true h, if_pos h]; rfl
    ·rw [decide_eq_false h, if_neg h]; rfl
   by_cases h : dp g v.ID ≤ (d : Int)
   ·right
    rw [if_pos h] at hstep
    exact ⟨_, hstep, by omega⟩
   ·left
    rw [if_neg h] at hstep
    exact ⟨_, hstep, ⟨d + 1, rfl, by omega⟩, by omega⟩)
  fuel 0 ⟨0, rfl, by omega⟩ (by have := fuel_pos; omega)
 rw [h1, h2]
def memW (g : Graph) (w : Int → Int) : List (List Int) := g.Vertices.map fun v => [rt g v.ID, dp g v.ID, w v.ID]
def updW (w : Int → Int) (x b : Int) : Int → Int := fun y => if y = x then b else w y
theorem memW_get {g : Graph} {w : Int → Int} {i : Nat} {v : Vertex} (hi : g.Vertices[i]? = some v) : (memW g w)[i]? = some [rt g v.ID, dp g v.ID, w v.ID] := by simp [memW, hi]
theorem memW_set {g : Graph} (hg : VG g) {w : Int → Int} {i : Nat} {v : Vertex} (hi : g.Vertices[i]? = some v) (b : Int) : (memW g w).set i [rt g v.ID, dp g v.ID, b] = memW g (updW w v.ID b) := by
 unfold memW
 rw [setm hg hi (fun x => [rt g x, dp g x, w x])]
 apply List.map_congr_left
 intro u _
 unfold updW
 by_cases h : u.ID = v.ID
 ·rw [if_pos h, if_pos h, h]
 ·rw [if_neg h, if_neg h]
theorem foldr_upd (x : Int) (c : Edge → Bool) (y : Int) : ∀ (l : List Edge) (w : Int → Int), (l.foldr (fun e (w : Int → Int) => if c e then updW w x e.ID else w) w) y = if y = x then (match l.find? c with | some e => e.ID | none => w x) else w y
 | [], w => by
  by_cases h : y = x
  ·rw [if_pos h, h]; rfl
  ·rw [if_neg h]; rfl
 | e :: l, w => by
  rw [List.foldr_cons, List.find?_cons]
  cases hc : c e with
  | true =>
   rw [if_pos rfl]
   unfold updW
   by_cases h : y = x
   ·rw [if_pos h, if_pos h]
   ·rw [if_neg h, if_neg h]
    have := foldr_upd x c y l w
    rw [if_neg h] at this
    exact this
  | false =>
   have := foldr_upd x c y l w
   simpa using this
theorem lab_l2 {g : Graph} (hg : VG g) (hs : SmallG g) {i : Nat} {v : Vertex} (hi : g.Vertices[i]? = some v) (w : Int → Int) (hw : w v.ID = -1) :
  loopN fuel (r7Labels.l2 (i : Int) g.Vertices g.Edges g.Depots (nmR 0 g.Vertices)) (IntKind.i64.wrap (((g.Edges.length : Nat) : Int) - 1), memW g w) = some (memW g (updW w v.ID (ed g v.ID))) := by
 have hel := hg.elen
 have hvv := hasV_of hi
 have hil := (List.getElem?_eq_some_iff.1 hi).1
 have gN : (nmR 0 g.Vertices)[i]? = some ⟨v.ID, ⟨i, 0, 3⟩⟩ := by rw [nmR_get, hi, Nat.zero_add]; rfl
 have gI : (0 : Int) ≤ (i : Int) ∧ (i : Int) < (((nmR 0 g.Vertices).length : Nat) : Int) := by rw [nmR_len]; omega
 have hend : g.Edges.foldr (fun e (w : Int → Int) => if edC g v.ID e then updW w v.ID e.ID else w) w = updW w v.ID (ed g v.ID) := by
  funext y
  rw [foldr_upd, ed_find hg hvv]
  unfold updW
  by_cases h : y = v.ID
  ·rw [if_pos h, if_pos h, hw]; cases g.Edges.find? (edC g v.ID) <;> rfl
  ·rw [if_neg h, if_neg h]
 refine loop_foldD _ g.Edges (fun k (w : Int → Int) => (k, memW g w)) (fun e (w : Int → Int) => if edC g v.ID e then updW w v.ID e.ID else w) _ w _ (by rw [wr (n := ((g.Edges.length : Nat) : Int) - 1)]) (by omega) ?_ ?_
 ·intro k e w hk hx
  have e1 : IntKind.i64.wrap ((k : Int) - 1) = (k : Int) - 1 := wr
  have he := List.mem_of_getElem? hx
  unfold r7Labels.l2
  rw [br_dec, if_pos (by simp only; omega)]
  simp only
  rw [getR_s hx, gd_t gI, Int.toNat_natCast, Nat.zero_add, gN, bd_s, Other3_eq, bd_s, br_dec, e1]
  by_cases hb : atB v.ID e = true
  ·have ho := hg.other he hb
   have hnn := hasV_nn hg ho
   obtain ⟨u, hu, hue⟩ := hasV_iff.1 ho
   obtain ⟨j, hj⟩ := List.getElem?_of_mem hu
   have hjl := (List.getElem?_eq_some_iff.1 hj).1
   have hP := Place_of hg hs hj
   rw [hue] at hP
   have gJ : (0 : Int) ≤ (j : Int) ∧ (j : Int) < (((nmR 0 g.Vertices).length : Nat) : Int) := by rw [nmR_len]; omega
   have gM : (nmR 0 g.Vertices)[j]? = some ⟨u.ID, ⟨j, 0, 3⟩⟩ := by rw [nmR_get, hj, Nat.zero_add]; rfl
   have g13 : (0 : Int) ≤ 1 ∧ (1 : Int) < (((3 : Nat) : Nat) : Int) := by omega
   have g23 : (0 : Int) ≤ 2 ∧ (2 : Int) < (((3 : Nat) : Nat) : Int) := by omega
   rw [if_pos (by omega)]
   show bd (r3Place g (otherP e v.ID)) _ = _
   rw [hP, bd_s, gd_t gJ, Int.toNat_natCast, Nat.zero_add, gM, bd_s]
   simp only
   rw [gd_t g13, memW_get hj, bd_s]
   show bd (some (dp g u.ID)) _ = _
   rw [bd_s, gd_t gI, bd_s]
   simp only
   rw [gd_t g13, memW_get hi, bd_s]
   show bd (some (dp g v.ID)) _ = _
   have hdr := dp_range hg hvv
   have e2 : IntKind.i64.wrap (dp g v.ID - 1) = dp g v.ID - 1 := wr
   rw [bd_s, e2, hue]
   by_cases hc : dp g (otherP e v.ID) = dp g v.ID - 1
   ·have hcc : edC g v.ID e = true := by unfold edC; rw [hb, beq_iff_eq.2 hc]; rfl
    rw [beq_iff_eq.2 hc, br_t, gd_t gI, bd_s, getR_s hx]
    simp only
    rw [gd_t g23, memW_get hi, bd_s]
    show bd (some (w v.ID)) _ = _
    rw [bd_s, if_pos hcc, ← memW_set hg hi]
    rfl
   ·have hcc : edC g v.ID e = false := by unfold edC; rw [hb, beq_eq_false_iff_ne.2 hc]; rfl
    rw [beq_eq_false_iff_ne.2 hc, br_f, hcc]
    rfl
  ·have hcc : edC g v.ID e = false := by unfold edC; rw [Bool.eq_false_iff.2 hb]; rfl
   have hneg : otherP e v.ID = -1 := by
    unfold atB at hb
    simp only [Bool.or_eq_true, beq_iff_eq, not_or] at hb
    unfold otherP
    rw [if_neg (fun h => hb.1 h.symm), if_neg (fun h => hb.2 h.symm)]
   have hn2 : ¬ otherP e (NamedR.mk v.ID ⟨i, 0, 3⟩).ID ≥ 0 := by show ¬ otherP e v.ID ≥ 0; omega
   rw [if_neg hn2, hcc]
   rfl
 ·unfold r7Labels.l2
  rw [br_dec, if_neg (by simp only; omega), hend]
theorem lab_l3 {g : Graph} (hg : VG g) (hs : SmallG g) :
  loopN fuel (r7Labels.l3 g.Vertices g.Edges g.Depots (nmR 0 g.Vertices)) (0, memW g fun _ => -1) = some (memW g (ed g)) := by
 have hvl := hg.vlen
 refine loop_foldO _ g.Vertices (fun i (w : Int → Int) => ((i : Int), memW g w)) (fun w v => updW w v.ID (ed g v.ID)) (fun i w => ∀ (j : Nat) (u : Vertex), g.Vertices[j]? = some u → w u.ID = if j < i then ed g u.ID else -1) _ (fun _ => -1) _ rfl (by omega) (fun j u _ => by rw [if_neg (by omega)]) ?_ ?_
 ·intro i v w hi hx hI
  have e1 : IntKind.i64.wrap ((i : Int) + 1) = ((i + 1 : Nat) : Int) := by rw [wr]; omega
  refine ⟨?_, ?_⟩
  ·unfold r7Labels.l3
   rw [br_dec, if_pos (by rw [nmR_len]; simp only; omega)]
   simp only
   rw [lab_l2 hg hs hx w (by rw [hI i v hx, if_neg (by omega)]), bd_s, e1]
  ·intro j u hj
   unfold updW
   by_cases h : u.ID = v.ID
   ·obtain rfl := vert_uniq hg hj hx h
    rw [if_pos h, if_pos (by omega), h]
   ·rw [if_neg h, hI j u hj]
    have : j ≠ i := by rintro rfl; rw [hx] at hj; cases hj; exact h rfl
    by_cases hji : j < i
    ·rw [if_pos hji, if_pos (by omega)]
    ·rw [if_neg hji, if_neg (by omega)]
 ·intro hI
  unfold r7Labels.l3
  rw [br_dec, if_neg (by rw [nmR_len]; simp only; omega)]
  congr 2
  unfold memW
  apply List.map_congr_left
  intro v hv
  obtain ⟨i, hi⟩ := List.getElem?_of_mem hv
  rw [hI i v hi, if_pos (List.getElem?_eq_some_iff.1 hi).1]
theorem mapO_nm {g : Graph} (mem : List (List Int)) : ∀ (l : List Vertex) (j : Nat), (∀ (i : Nat) (v : Vertex), l[i]? = some v → mem[j + i]? = some (lb g v.ID)) →
  mapO (fun x : NamedR => bd (resRef mem x.Label) fun y => some ((Named.mk x.ID y) : Named)) (nmR j l) = some (l.map fun v => ⟨v.ID, lb g v.ID⟩)
 | [], _, _ => rfl
 | v :: l, j, h => by
  have h0 := h 0 v rfl
  rw [Nat.add_zero] at h0
  have hr : resRef mem ⟨j, 0, 3⟩ = some (lb g v.ID) := by
   unfold resRef
   simp only [h0]
   rw [if_pos (by simp [lb])]
   rfl
  simp only [nmR, mapO, hr, bd_s]
  rw [mapO_nm mem l (j + 1) (fun i u hu => by have := h (i + 1) u (by simpa using hu); rw [← this]; congr 1; omega)]
  rfl
theorem Labels3_eq {g : Graph} (hg : VG g) (hs : SmallG g) (hv : validP g = true) : r7Labels g = some (labs g, 0) := by
 have hvl := hg.vlen
 unfold r7Labels
 rw [Valid3_eq g hs, bd_s, hv, show (!true) = false from rfl, br_f]
 have main := loop_foldO (r7Labels.l4 g.Vertices g.Edges g.Depots) g.Vertices (fun i (a : List Vertex) => ((i : Int), a.map fun v => [rt g v.ID, dp g v.ID, -1], nmR 0 a)) (fun a v => a ++ [v]) (fun i a => a.length = i ∧ ∀ b, a ++ g.Vertices.drop i = b → b = g.Vertices) (0, [], []) [] (memW g (ed g), nmR 0 g.Vertices) rfl (by omega) ⟨rfl, fun b hb => by rw [← hb]; rfl⟩
  (by
   intro i v a hi hx hI
   obtain ⟨hI, hI2⟩ := hI
   have e1 : IntKind.i64.wrap ((i : Int) + 1) = ((i + 1 : Nat) : Int) := by rw [wr]; omega
   refine ⟨?_, by simp [hI], fun b hb => hI2 b ?_⟩
   ·unfold r7Labels.l4
    rw [br_dec, if_pos (by simp only; omega)]
    simp only
    rw [getR_s hx]
    show bd (r7part g v.ID) _ = _
    rw [part_eq hg hs (hasV_of hx), bd_s, lab_root hg hx, bd_s, lab_depth hg hs hx, bd_s, gd_t (by rw [List.length_append, List.length_singleton, nmR_len]; unfold bigLen; omega), e1, nmR_app, List.map_append, List.length_map, Nat.zero_add]
    rfl
   ·rw [← hb, List.append_assoc]
    congr 1
    have hil : i < g.Vertices.length := hi
    rw [List.drop_eq_getElem_cons hil]
    obtain ⟨_, hx2⟩ := List.getElem?_eq_some_iff.1 hx
    rw [hx2]; rfl)
  (by
   rintro ⟨hI, hI2⟩
   have hfin : g.Vertices.foldl (fun (a : List Vertex) v => a ++ [v]) [] = g.Vertices := hI2 _ (by simp)
   unfold r7Labels.l4
   rw [br_dec, if_neg (by simp only; omega), hfin]
   simp only
   show bd (loopN fuel (r7Labels.l3 g.Vertices g.Edges g.Depots (nmR 0 g.Vertices)) (0, memW g fun _ => -1)) _ = _
   rw [lab_l3 hg hs, bd_s])
 rw [main, bd_s]
 simp only
 rw [mapO_nm (g := g) (memW g (ed g)) g.Vertices 0 (fun i v hi => by rw [Nat.zero_add, memW_get hi]; rfl), bd_s]
 rfl
end Go.Fw.Gen
