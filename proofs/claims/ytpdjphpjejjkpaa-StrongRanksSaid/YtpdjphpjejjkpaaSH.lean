/- The rows of labels. -/
import Derived.Test.YtpdjphpjejjkpaaSG
namespace Go.Fx.Gen
open Go.Proofs
set_option linter.unusedVariables false
namespace Str
open Go.Fx.Str
variable {g : Graph} {root : Nat → Nat} {rank : Nat → Int} {af ah : List (List Int)}
def firstE (l : List (Edge × Int × Int)) (P : Edge × Int × Int → Bool) : Int := match l.find? P with
 | some q => q.1.ID
 | none => -1
theorem firstE_snoc {l : List (Edge × Int × Int)} {P : Edge × Int × Int → Bool} {p : Edge × Int × Int} (h : ∀ q ∈ l, 0 ≤ q.1.ID) : firstE (l ++ [p]) P = if firstE l P < 0 then (if P p = true then p.1.ID else -1) else firstE l P := by
 unfold firstE
 rw [List.find?_append]
 cases e : l.find? P with
 | some q =>
  have := h q (List.mem_of_find?_eq_some e)
  simp only [Option.some_or]
  rw [if_neg (by omega)]
 | none =>
  simp only [Option.none_or, List.find?_singleton]
  cases hp : P p <;> rfl
theorem firstE_neg {l : List (Edge × Int × Int)} {P : Edge × Int × Int → Bool} (h : ∀ q ∈ l, 0 ≤ q.1.ID) : firstE l P < 0 → firstE l P = -1 := by
 unfold firstE
 cases e : l.find? P with
 | some q => have := h q (List.mem_of_find?_eq_some e); intro; simp only at *; omega
 | none => intro _; rfl
def atG (g : Graph) (id : Int) : List Edge := g.Edges.filter fun e => e.From == id || e.To == id
theorem at_run (hl : g.Edges.length < 1000000000) (id : Int) : (f28v2 g id).run = some (atG g id) := by
 obtain ⟨r, h1, rfl⟩ := loop_ix (f := fun s : Int × List Edge => (f28v2.l1 g id s.1 s.2).run) (n := g.Edges.length) (fun i a => ((i : Int), a)) (fun i a => a = (g.Edges.take i).filter fun e => e.From == id || e.To == id) (fun r => r = Ex.a (atG g id))
  (fun i a hi ha => by
   subst ha
   have hx : g.Edges[i]? = some g.Edges[i] := by simp [hi]
   have hw : IntKind.i64.wrap ((i : Int) + 1) = ((i + 1 : Nat) : Int) := succ_wr hi (by omega)
   have hlen : ((g.Edges.take i).filter fun e => e.From == id || e.To == id).length ≤ i := Nat.le_trans (List.length_filter_le _ _) (by simp; omega)
   left
   show ∃ a', (f28v2.l1 g id (i : Int) _).run = _ ∧ _
   unfold f28v2.l1
   rw [r_brr, L_eq, cast_lt_t hi, br_t, getR_s hx, r_join1, r_brr, hw]
   have ht : (g.Edges.take (i + 1)).filter (fun e => e.From == id || e.To == id) = (g.Edges.take i).filter (fun e => e.From == id || e.To == id) ++ if (g.Edges[i].From == id || g.Edges[i].To == id) = true then [g.Edges[i]] else [] := by
    rw [List.take_succ_eq_append_getElem hi, List.filter_append]
    congr 1
    rw [List.filter_cons]; rfl
   rw [ht]
   generalize g.Edges[i] = e
   have hap : ((g.Edges.take i).filter (fun e => e.From == id || e.To == id) ++ [e]).length ≤ bigLen := by simp only [List.length_append, List.length_singleton]; unfold bigLen; omega
   cases h1 : e.From == id with
   | true =>
    rw [br_t, r_retA, bd_s, ex_a, r_brr, br_t, ap_s hap, Bool.true_or, if_pos rfl]
    exact ⟨_, rfl, rfl⟩
   | false =>
    rw [br_f, r_retA, bd_s, ex_a, r_brr, Bool.false_or]
    cases h2 : e.To == id with
    | true => rw [br_t, ap_s hap, if_pos rfl]; exact ⟨_, rfl, rfl⟩
    | false => rw [br_f, if_neg (by simp), List.append_nil]; exact ⟨_, rfl, rfl⟩)
  (fun a ha => by
   subst ha
   refine ⟨_, ?_, rfl⟩
   show (f28v2.l1 g id (g.Edges.length : Int) _).run = _
   unfold f28v2.l1
   rw [r_brr, L_eq, cast_lt_f (by omega), br_f, List.take_length]; rfl) (k := fuel) (a := []) (by have := fuel_pos; omega) (by simp)
 unfold f28v2
 have h1 : loopN fuel (fun s : Int × List Edge => (f28v2.l1 g id s.1 s.2).run) ((0 : Int), ([] : List Edge)) = _ := h1
 rw [r_loop1, h1, bd_s, ex_a, r_ret]
def P2 (root : Nat → Nat) (out : Nat → Int) (id : Nat) (q : Edge × Int × Int) : Bool := decide (root q.2.1.toNat = root q.2.2.toNat ∧ q.2.2.toNat = id ∧ out q.2.1.toNat = out id - 1)
def P4 (root : Nat → Nat) (inn : Nat → Int) (id : Nat) (q : Edge × Int × Int) : Bool := decide (root q.2.1.toNat = root q.2.2.toNat ∧ q.2.1.toNat = id ∧ inn q.2.2.toNat = inn id - 1)
def row (g : Graph) (root : Nat → Nat) (rank out inn wit : Nat → Int) (v : Nat) : List Int :=
 [(root v : Int), out v, firstE (arcsE (atG g (v : Int))) (P2 root out v), inn v, firstE (arcsE (atG g (v : Int))) (P4 root inn v), rank v, wit v]
theorem row7 {a b c d e f g : Int} : ([a, b, c, d, e, f, g] : List Int).length = 7 := rfl
theorem set2 {a b c d e f g x : Int} : ([a, b, c, d, e, f, g] : List Int).set 2 x = [a, b, x, d, e, f, g] := rfl
theorem set4 {a b c d e f g x : Int} : ([a, b, c, d, e, f, g] : List Int).set 4 x = [a, b, c, d, x, f, g] := rfl
theorem round_run (h : Sm g) {out inn : Nat → Int} (ho : ∀ v, v < 24 → -1000 ≤ out v ∧ out v ≤ 2000000) (hi : ∀ v, v < 24 → -1000 ≤ inn v ∧ inn v ≤ 2000000) {p : Edge × Int × Int} (c1 : 0 ≤ p.2.1 ∧ p.2.1 ≤ 23) (c2 : 0 ≤ p.2.2 ∧ p.2.2 ≤ 23) {id : Int} (hid : 0 ≤ id ∧ id ≤ 23)
  (vs : List Vertex) (es : List Edge) (ds rk : List Int) (m1 m2 : List (List Int)) (r o x2 i x4 k w : Int) :
  (r8_0v3 p.1 (A2_Int.mk p.2.1 p.2.2) (vec out) (vec inn) id vs es ds (vec fun v => (root v : Int)) rk m1 m2 [r, o, x2, i, x4, k, w]).run =
   some [r, o, if x2 < 0 ∧ P2 root out id.toNat p = true then p.1.ID else x2, i, if x4 < 0 ∧ P4 root inn id.toNat p = true then p.1.ID else x4, k, w] := by
 have h1 : p.2.1.toNat < 24 := by omega
 have h2 : p.2.2.toNat < 24 := by omega
 have h3 : id.toNat < 24 := by omega
 have c1' : (0 : Int) ≤ p.2.1 ∧ p.2.1 < ((24 : Nat) : Int) := by omega
 have c2' : (0 : Int) ≤ p.2.2 ∧ p.2.2 < ((24 : Nat) : Int) := by omega
 have c3' : (0 : Int) ≤ id ∧ id < ((24 : Nat) : Int) := by omega
 have hw1 : IntKind.i64.wrap (out id.toNat - 1) = out id.toNat - 1 := wr (by have := ho _ h3; omega)
 have hw2 : IntKind.i64.wrap (inn id.toNat - 1) = inn id.toNat - 1 := wr (by have := hi _ h3; omega)
 have k2 : ∀ l : List Int, l.length = 7 → (0 : Int) ≤ 2 ∧ (2 : Int) < ((L l : Nat) : Int) := fun l hl => by rw [L_eq, hl]; decide
 have k4 : ∀ l : List Int, l.length = 7 → (0 : Int) ≤ 4 ∧ (4 : Int) < ((L l : Nat) : Int) := fun l hl => by rw [L_eq, hl]; decide
 have n2 : at0 (2 : Int) = 2 := rfl
 have n4 : at0 (4 : Int) = 4 := rfl
 unfold r8_0v3
 dsimp only
 rw [ck_t c1', rd_s (vec_get h1), ck_t c2', rd_s (vec_get h2), r_brr]
 by_cases er : root p.2.1.toNat = root p.2.2.toNat
 ·rw [show (((root p.2.1.toNat : Nat) : Int) != ((root p.2.2.toNat : Nat) : Int)) = false by rw [er]; exact bne_self_eq_false _, br_f, r_join1, r_brr]
  have hP2 : P2 root out id.toNat p = decide (p.2.2 = id ∧ out p.2.1.toNat = out id.toNat - 1) := by
   unfold P2
   refine decide_eq_decide.2 ⟨fun k => ⟨by omega, k.2.2⟩, fun k => ⟨er, by omega, k.2⟩⟩
  have hP4 : P4 root inn id.toNat p = decide (p.2.1 = id ∧ inn p.2.2.toNat = inn id.toNat - 1) := by
   unfold P4
   refine decide_eq_decide.2 ⟨fun k => ⟨by omega, k.2.2⟩, fun k => ⟨er, by omega, k.2⟩⟩
  have first : br (p.2.2 == id) (((ck (2 : Int) (L ([r, o, x2, i, x4, k, w] : List Int)) <| rd ([r, o, x2, i, x4, k, w] : List Int) (at0 (2 : Int)) fun a16 => brr (decide (a16 < 0)) (ck p.2.1 24 <| rd (vec out) p.2.1.toNat fun a17 => ck id 24 <| rd (vec out) id.toNat fun a18 =>
    retA' (a17 == (IntKind.i64.wrap (a18 - 1)))) (retA' false)) : Pg (Ex Bool Empty Empty)).run) (retA' false : Pg (Ex Bool Empty Empty)).run = some (Ex.a (decide (x2 < 0 ∧ P2 root out id.toNat p = true))) := by
   rw [hP2]
   by_cases e1 : p.2.2 = id
   ·rw [beq_iff_eq.2 e1, br_t, ck_t (k2 _ rfl), n2, rd_s (show ([r, o, x2, i, x4, k, w] : List Int)[2]? = some x2 from rfl), r_brr]
    by_cases e2 : x2 < 0
    ·rw [decide_eq_true e2, br_t, ck_t c1', rd_s (vec_get h1), ck_t c3', rd_s (vec_get h3), r_retA, hw1]
     simp [e1, e2]
     rfl
    ·rw [decide_eq_false e2, br_f, r_retA]
     simp [e2]
   ·rw [beq_eq_false_iff_ne.2 e1, br_f, r_retA]
    simp [e1]
  rw [first, bd_s, ex_a, r_join1, r_brr]
  have second : ∀ b : Bool, br b (((ck (2 : Int) (L ([r, o, x2, i, x4, k, w] : List Int)) <| st ([r, o, x2, i, x4, k, w] : List Int) (at0 (2 : Int)) (fun x20 => p.1.ID) fun l21 => retA' l21)) : Pg (Ex (List Int) Empty Empty)).run (retA' ([r, o, x2, i, x4, k, w] : List Int) : Pg (Ex (List Int) Empty Empty)).run =
    some (Ex.a [r, o, if b = true then p.1.ID else x2, i, x4, k, w]) := by
   intro b
   cases b with
   | true => rw [br_t, ck_t (k2 _ rfl), n2, st_s (show ([r, o, x2, i, x4, k, w] : List Int)[2]? = some x2 from rfl), r_retA, set2, if_pos rfl]
   | false => rw [br_f, r_retA, if_neg (by simp)]
  rw [second, bd_s, ex_a]
  have hd : (if decide (x2 < 0 ∧ P2 root out id.toNat p = true) = true then p.1.ID else x2) = if x2 < 0 ∧ P2 root out id.toNat p = true then p.1.ID else x2 := by simp only [decide_eq_true_eq]
  rw [hd]
  generalize (if x2 < 0 ∧ P2 root out id.toNat p = true then p.1.ID else x2) = y2
  rw [r_brr, hP4]
  by_cases e1 : p.2.1 = id
  ·rw [beq_iff_eq.2 e1, br_t, ck_t (k4 _ rfl), n4, rd_s (show ([r, o, y2, i, x4, k, w] : List Int)[4]? = some x4 from rfl), r_brr]
   by_cases e2 : x4 < 0
   ·rw [decide_eq_true e2, br_t, ck_t c2', rd_s (vec_get h2), ck_t c3', rd_s (vec_get h3), r_brr, hw2]
    by_cases e3 : inn p.2.2.toNat = inn id.toNat - 1
    ·rw [beq_iff_eq.2 e3, br_t, ck_t (k4 _ rfl), st_s (show ([r, o, y2, i, x4, k, w] : List Int)[4]? = some x4 from rfl), r_ret, set4, if_pos ⟨e2, by simp [e1, e3]⟩]
    ·rw [beq_eq_false_iff_ne.2 e3, br_f, r_ret, if_neg (by simp [e3])]
   ·rw [decide_eq_false e2, br_f, r_ret, if_neg (fun k => e2 k.1)]
  ·rw [beq_eq_false_iff_ne.2 e1, br_f, r_ret, if_neg (by simp [e1])]
 ·rw [show (((root p.2.1.toNat : Nat) : Int) != ((root p.2.2.toNat : Nat) : Int)) = true from bne_iff_ne.2 fun h => er (by omega), br_t, r_ret, if_neg (by simp [P2, er]), if_neg (by simp [P4, er])]
theorem atG_sm (h : Sm g) (id : Int) {p : Edge × Int × Int} (hp : p ∈ arcsE (atG g id)) : p ∈ arcsE g.Edges ∧ (p.2.1 = id ∨ p.2.2 = id) := by
 obtain ⟨e, a, b⟩ := p
 obtain ⟨h1, h2, h3⟩ := arcsE_mem.1 hp
 simp only [atG, List.mem_filter, Bool.or_eq_true, beq_iff_eq] at h1
 refine ⟨arcsE_mem.2 ⟨h1.1, h2, h3⟩, ?_⟩
 simp only [Prod.mk.injEq] at h3 h1 ⊢
 rcases h3 with ⟨rfl, rfl⟩ | ⟨_, rfl, rfl⟩
 ·exact h1.2
 ·exact h1.2.symm
theorem arcs_row (h : Sm g) (hid : ∀ e ∈ g.Edges, 0 ≤ e.ID) {out inn : Nat → Int} (ho : ∀ v, v < 24 → -1000 ≤ out v ∧ out v ≤ 2000000) (hi : ∀ v, v < 24 → -1000 ≤ inn v ∧ inn v ≤ 2000000) {id : Int} (hd : 0 ≤ id ∧ id ≤ 23)
  (vs : List Vertex) (es : List Edge) (ds rk : List Int) (m1 m2 : List (List Int)) (r o i k w : Int) :
  (f61v12 (atG g id) (vec out) (vec inn) id vs es ds (vec fun v => (root v : Int)) rk m1 m2 [r, o, -1, i, -1, k, w]).run =
   some [r, o, firstE (arcsE (atG g id)) (P2 root out id.toNat), i, firstE (arcsE (atG g id)) (P4 root inn id.toNat), k, w] := by
 obtain ⟨s', k1, rfl⟩ := arcs_ind (S := List Int) (F := fun s => (f61v12.l1 (atG g id) (vec out) (vec inn) id vs es ds (vec fun v => (root v : Int)) rk m1 m2 s.1 s.2).run)
  (stp := fun a e s => (r8_0v3 a e (vec out) (vec inn) id vs es ds (vec fun v => (root v : Int)) rk m1 m2 s).run) (es := atG g id) (Nat.lt_of_le_of_lt (List.length_filter_le _ _) h.el) (fun v s => rfl)
  (fun pre s => s = [r, o, firstE pre (P2 root out id.toNat), i, firstE pre (P4 root inn id.toNat), k, w]) (fun pre p suf e s hs => by
   subst hs
   have hp : p ∈ arcsE (atG g id) := by rw [e]; simp
   obtain ⟨ha, hb, _, _⟩ := h.arcE (atG_sm h id hp).1
   have hpre : ∀ q ∈ pre, 0 ≤ q.1.ID := fun q hq => hid q.1 (arcsE_mem.1 (atG_sm h id (p := q) (by rw [e]; simp [hq])).1).1
   refine ⟨_, round_run h ho hi ha hb hd vs es ds rk m1 m2 _ _ _ _ _ _ _, ?_⟩
   have hf : ∀ P : Edge × Int × Int → Bool, (if firstE pre P < 0 ∧ P p = true then p.1.ID else firstE pre P) = firstE (pre ++ [p]) P := fun P => by
    rw [firstE_snoc hpre]
    by_cases e1 : firstE pre P < 0
    ·rw [if_pos e1]
     by_cases e2 : P p = true
     ·rw [if_pos ⟨e1, e2⟩, if_pos e2]
     ·rw [if_neg (fun k => e2 k.2), if_neg e2, firstE_neg hpre e1]
    ·rw [if_neg e1, if_neg (fun k => e1 k.1)]
   rw [hf, hf]) (s := [r, o, -1, i, -1, k, w]) rfl
 unfold f61v12
 rw [r_loop1, k1, bd_s, ex_a, r_ret]
theorem rows_run (h : Sm g) (hvl : g.Vertices.length ≤ 1000) (hid : ∀ e ∈ g.Edges, 0 ≤ e.ID) {out inn wit : Nat → Int} (ho : ∀ v, v < 24 → -1000 ≤ out v ∧ out v ≤ 2000000) (hi : ∀ v, v < 24 → -1000 ≤ inn v ∧ inn v ≤ 2000000) (m1 m2 : List (List Int)) :
  loopN fuel (fun s : Int × List Named => (f8v2.l2 g (vec (fun v => (root v : Int)), vec rank, m1, m2) (vec out) (vec inn) (vec wit) s.1 s.2).run) ((0 : Int), ([] : List Named)) =
   some (.a (g.Vertices.map fun v => Named.mk v.ID (row g root rank out inn wit v.ID.toNat))) := by
 obtain ⟨r, h1, rfl⟩ := loop_ix (f := fun s : Int × List Named => (f8v2.l2 g (vec (fun v => (root v : Int)), vec rank, m1, m2) (vec out) (vec inn) (vec wit) s.1 s.2).run) (n := g.Vertices.length) (fun i a => ((i : Int), a))
  (fun i a => a = (g.Vertices.take i).map fun v => Named.mk v.ID (row g root rank out inn wit v.ID.toNat)) (fun r => r = Ex.a (g.Vertices.map fun v => Named.mk v.ID (row g root rank out inn wit v.ID.toNat)))
  (fun i a hi' ha => by
   subst ha
   have hx : g.Vertices[i]? = some g.Vertices[i] := by simp [hi']
   have hm : g.Vertices[i] ∈ g.Vertices := List.getElem_mem hi'
   have hw : IntKind.i64.wrap ((i : Int) + 1) = ((i + 1 : Nat) : Int) := succ_wr hi' (by omega)
   have ht : (g.Vertices.take (i + 1)).map (fun v => Named.mk v.ID (row g root rank out inn wit v.ID.toNat)) = (g.Vertices.take i).map (fun v => Named.mk v.ID (row g root rank out inn wit v.ID.toNat)) ++ [Named.mk g.Vertices[i].ID (row g root rank out inn wit g.Vertices[i].ID.toNat)] := by
    rw [List.take_succ_eq_append_getElem hi', List.map_append]; rfl
   rw [ht]
   generalize g.Vertices[i] = v at *
   have hv := h.v v hm
   have h3 : v.ID.toNat < 24 := by omega
   have c : (0 : Int) ≤ v.ID ∧ v.ID < ((24 : Nat) : Int) := by omega
   left
   refine ⟨_, ?_, rfl⟩
   show (f8v2.l2 g _ _ _ _ (i : Int) _).run = _
   unfold f8v2.l2
   dsimp only
   rw [r_brr, L_eq, cast_lt_t hi', br_t, getR_s hx, ck_t c, rd_s (vec_get h3), ck_t c, rd_s (vec_get h3), ck_t c, rd_s (vec_get h3), ck_t c, rd_s (vec_get h3), ck_t c, rd_s (vec_get h3), r_cl, at_run h.el, bd_s, r_cl,
    show (f27 (atG g v.ID)).run = some () from rfl, bd_s, r_rf0, arcs_row h hid ho hi hv, bd_s, ap_s (by simp only [List.length_append, List.length_singleton, List.length_map, List.length_take]; unfold bigLen; omega), hw, r_cont]
   have : ((v.ID.toNat : Nat) : Int) = v.ID := Int.toNat_of_nonneg hv.1
   simp only [row, this])
  (fun a ha => by
   subst ha
   refine ⟨_, ?_, rfl⟩
   show (f8v2.l2 g _ _ _ _ (g.Vertices.length : Int) _).run = _
   unfold f8v2.l2
   rw [r_brr, L_eq, cast_lt_f (by omega), br_f, List.take_length]; rfl) (k := fuel) (a := []) (by have := fuel_pos; omega) (by simp)
 exact h1
structure Lab (g : Graph) (root : Nat → Nat) (rank out inn wit : Nat → Int) : Prop where
 scc : Scc (arcG g) (isV g) root
 rk : Rank (arcG g) (isV g) root rank
 out : Dist (Ins g root) (fun v => isV g v ∧ root v = v) FAR out
 inn : Dist (fun v u => Ins g root u v) (fun v => isV g v ∧ root v = v) FAR inn
 wit : Dist (Ins g root) (Wit g root rank) FAR wit
def labs (g : Graph) (root : Nat → Nat) (rank out inn wit : Nat → Int) : List Named := g.Vertices.map fun v => Named.mk v.ID (row g root rank out inn wit v.ID.toNat)
theorem _root_.Go.Fx.Str.Dist.congr {N : Nat → Nat → Prop} {S S' : Nat → Prop} {far : Int} {d : Nat → Int} (h : Dist N S far d) (e : ∀ v, v < 24 → (S v ↔ S' v)) : Dist N S' far d :=
 ⟨h.nn, fun v hv => (h.zero v hv).trans (e v hv), h.step, h.why⟩
theorem labels_run (h : Sm g) (hel : g.Edges.length ≤ 1000) (hvl : g.Vertices.length ≤ 1000) (hid : ∀ e ∈ g.Edges, 0 ≤ e.ID) (hval : (f21v1 g).run = some true) :
  ∃ root rank out inn wit, Lab g root rank out inn wit ∧ (f8v2 g).run = some (labs g root rank out inn wit, 0) := by
 obtain ⟨root, rank, af, ah, F, e1⟩ := begin_run h hel
 obtain ⟨rl, e2, l2, m2⟩ := roots_run (root := root) h hvl (vec (fun v => (root v : Int)), vec rank, af, ah) rfl
 have hrl : ∀ x ∈ rl, 0 ≤ x ∧ x ≤ 23 := fun x hx => by
  obtain ⟨b, rfl, hb, _⟩ := (m2 x).1 hx
  have := isV_lt h hb; omega
 obtain ⟨wl, e5, l5, m5⟩ := wit_run h hel hvl F g.Depots
 have hwV : ∀ b, Wit g root rank b → isV g b := fun b hb => by
  rcases hb with ⟨a, c, _⟩ | ⟨k, _⟩
  ·exact (F.scc.arc a b c.1).2
  ·exact k
 have hwl : ∀ x ∈ wl, 0 ≤ x ∧ x ≤ 23 := fun x hx => by
  obtain ⟨b, rfl, hb⟩ := (m5 x).1 hx
  have := isV_lt h (hwV b hb); omega
 obtain ⟨out, e3, d3⟩ := searchOn_run F hrl (by omega) g.Vertices g.Edges g.Depots (vec fun v => (root v : Int)) (vec rank)
 obtain ⟨inn, e4, d4⟩ := searchBack_run F hrl (by omega) g.Vertices g.Edges g.Depots (vec fun v => (root v : Int)) (vec rank)
 obtain ⟨wit, e6, d6⟩ := searchOn_run F hwl (by omega) g.Vertices g.Edges g.Depots (vec fun v => (root v : Int)) (vec rank)
 have bnd : ∀ {N : Nat → Nat → Prop} {S : Nat → Prop} {d : Nat → Int}, Dist N S FAR d → ∀ v, v < 24 → -1000 ≤ d v ∧ d v ≤ 2000000 := fun hd v hv => by
  rcases hd.nn v hv with k | k
  ·have k : _ = (1048576 : Int) := k; omega
  ·omega
 have hmem : ∀ v : Nat, (v : Int) ∈ rl ↔ isV g v ∧ root v = v := fun v => by
  rw [m2]
  refine ⟨fun ⟨b, e, k⟩ => ?_, fun k => ⟨v, rfl, k⟩⟩
  have : v = b := by omega
  subst this; exact k
 have wmem : ∀ v : Nat, (v : Int) ∈ wl ↔ Wit g root rank v := fun v => by
  rw [m5]
  refine ⟨fun ⟨b, e, k⟩ => ?_, fun k => ⟨v, rfl, k⟩⟩
  have : v = b := by omega
  subst this; exact k
 refine ⟨root, rank, out, inn, wit, ⟨F.scc, F.rk, d3.congr fun v _ => hmem v, d4.congr fun v _ => hmem v, d6.congr fun v _ => wmem v⟩, ?_⟩
 unfold f8v2
 rw [r_cl, hval, bd_s, r_brr, Bool.not_true, br_f, r_cl, e1, bd_s, r_loop1, e2, bd_s, ex_a, r_clK, e3, bd_s, r_clK, e4, bd_s, r_clK, e5, bd_s, r_clK, e6, bd_s, r_loop1, rows_run h hvl hid (bnd d3) (bnd d4), bd_s, ex_a, r_ret]
 rfl
end Str
end Go.Fx.Gen
