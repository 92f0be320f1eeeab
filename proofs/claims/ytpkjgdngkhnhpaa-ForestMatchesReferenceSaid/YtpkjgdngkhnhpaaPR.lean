/- The reference's search and labels, in plain words: they are the forest's. -/
import Derived.Test.YtpkjgdngkhnhpaaPQ
namespace Go.Fw.Gen
open Go.Fw
def reachB (g : Graph) : Nat → Int → Int → Bool
 | 0, a, x => x == a
 | k + 1, a, x => reachB g k a x || (atP g x).any fun e => reachB g k a (otherP e x)
theorem reach_up {g : Graph} {k : Nat} {a x : Int} (h : reachB g k a x = true) : ∀ m, k ≤ m → reachB g m a x = true := by
 intro m hm
 induction m with
 | zero =>
  obtain rfl : k = 0 := by omega
  exact h
 | succ m ih =>
  by_cases e : k = m + 1
  ·subst e; exact h
  ·simp only [reachB, ih (by omega), Bool.true_or]
theorem reach_rt {g : Graph} (hg : VG g) {a : Int} (ha : hasV g a = true) : ∀ (k : Nat) {x : Int}, hasV g x = true → reachB g k a x = true → rt g x = rt g a ∧ dp g x ≤ dp g a + k
 | 0, x, hx, h => by
  have : x = a := by simpa [reachB] using h
  subst this
  exact ⟨rfl, by omega⟩
 | k + 1, x, hx, h => by
  simp only [reachB, Bool.or_eq_true, List.any_eq_true] at h
  rcases h with h | ⟨e, he, h⟩
  ·obtain ⟨h1, h2⟩ := reach_rt hg ha k hx h
   exact ⟨h1, by omega⟩
  ·obtain ⟨he, hb⟩ := List.mem_filter.1 he
   obtain ⟨h1, h2⟩ := reach_rt hg ha k (hg.other he hb) h
   obtain ⟨h3, h4, h5⟩ := edge_rt hg hx he hb
   exact ⟨by rw [← h3, h1], by omega⟩
theorem reach_root {g : Graph} (hg : VG g) {r : Int} (hr : hasV g r = true) (h0 : dp g r = 0) : ∀ (k : Nat) {x : Int}, hasV g x = true → reachB g k r x = (rt g x == r && decide (dp g x ≤ k)) := by
 have hrr := (dp_zero hg hr).1 h0
 have back : ∀ (k : Nat) {x : Int}, hasV g x = true → rt g x = r → dp g x ≤ k → reachB g k r x = true := by
  intro k
  induction k with
  | zero =>
   intro x hx h1 h2
   have := (dp_range hg hx).1
   have h3 := (dp_zero hg hx).1 (by omega)
   simp only [reachB, beq_iff_eq]
   rw [← h1, h3]
  | succ k ih =>
   intro x hx h1 h2
   simp only [reachB, Bool.or_eq_true, List.any_eq_true]
   by_cases h : dp g x ≤ k
   ·exact .inl (ih hx h1 h)
   ·right
    obtain ⟨e, he, hb, _, hp, h3, h4, h5⟩ := par_spec hg hx (by omega)
    refine ⟨e, List.mem_filter.2 ⟨he, hb⟩, ?_⟩
    rw [← hp]
    exact ih h3 (by rw [h5, h1]) (by omega)
 intro k x hx
 rw [Bool.eq_iff_iff, Bool.and_eq_true, beq_iff_eq, decide_eq_true_eq]
 constructor
 ·intro h
  obtain ⟨h1, h2⟩ := reach_rt hg hr k hx h
  exact ⟨by rw [h1, hrr], by omega⟩
 ·rintro ⟨h1, h2⟩
  exact back k hx h1 h2
theorem reach_way {g : Graph} {a b : Int} {es vs : List Int} (h : Way g a es vs b) : reachB g es.length b a = true := by
 induction h with
 | nil a ha => simp [reachB]
 | cons a e es vs b ha he hb _ ih =>
  simp only [List.length_cons, reachB, Bool.or_eq_true, List.any_eq_true]
  exact .inr ⟨e, List.mem_filter.2 ⟨he, hb⟩, ih⟩
theorem climb_ex {g : Graph} (hg : VG g) : ∀ (n : Nat) {a b : Int}, hasV g a = true → hasV g b = true → rt g a = rt g b → dp g a + dp g b ≤ n → ∃ es vs, Climb g a b es vs := by
 intro n
 induction n with
 | zero =>
  intro a b ha hb hr hn
  have := dp_range hg ha
  have := dp_range hg hb
  have h1 := (dp_zero hg ha).1 (by omega)
  have h2 := (dp_zero hg hb).1 (by omega)
  obtain rfl : a = b := by rw [← h1, hr, h2]
  exact ⟨_, _, .refl a ha⟩
 | succ n ih =>
  intro a b ha hb hr hn
  have := dp_range hg ha
  have := dp_range hg hb
  by_cases e : a = b
  ·subst e; exact ⟨_, _, .refl a ha⟩
  ·by_cases hle : dp g b ≤ dp g a
   ·have h0 : dp g a ≠ 0 := by
     intro h0
     exact e (by rw [← (dp_zero hg ha).1 h0, hr, (dp_zero hg hb).1 (by omega)])
    obtain ⟨_, _, _, _, _, p1, p2, p3⟩ := par_spec hg ha h0
    obtain ⟨es, vs, h⟩ := ih p1 hb (by rw [p3, hr]) (by omega)
    exact ⟨_, _, .up a b es vs ha h0 e hle h⟩
   ·obtain ⟨_, _, _, _, _, p1, p2, p3⟩ := par_spec hg hb (by omega)
    obtain ⟨es, vs, h⟩ := ih ha p1 (by rw [p3, hr]) (by omega)
    exact ⟨_, _, .down a b es vs hb (by omega) e (by omega) h⟩
theorem reach_all {g : Graph} (hg : VG g) {a x : Int} (ha : hasV g a = true) (hx : hasV g x = true) : reachB g g.Vertices.length a x = (rt g x == rt g a) := by
 rw [Bool.eq_iff_iff, beq_iff_eq]
 constructor
 ·intro h; exact (reach_rt hg ha _ hx h).1
 ·intro h
  have := dp_range hg ha
  have := dp_range hg hx
  obtain ⟨es, vs, hc⟩ := climb_ex hg (dp g x + dp g a).toNat hx ha h (by omega)
  have h1 := nodup_len (m := g.Vertices.map (·.ID)) (hc.nodup hg) (by
   intro x hx
   obtain ⟨v, hv, e⟩ := hasV_iff.1 (hc.low hg x hx).1
   exact List.mem_map.2 ⟨v, hv, e⟩)
  have h2 := hc.len
  rw [List.length_map] at h1
  exact reach_up (reach_way (hc.way hg)) _ (by omega)
theorem setm {g : Graph} (hg : VG g) {β : Type} {A : Nat} {u : Vertex} (hA : g.Vertices[A]? = some u) (f : Int → β) (y : β) :
  (g.Vertices.map fun v => f v.ID).set A y = g.Vertices.map fun v => if v.ID = u.ID then y else f v.ID := by
 apply List.ext_getElem?
 intro k
 rw [List.getElem?_set]
 by_cases h : A = k
 ·subst h
  have hl := (List.getElem?_eq_some_iff.1 hA).1
  rw [if_pos rfl, if_pos (by rw [List.length_map]; exact hl), List.getElem?_map, hA]
  simp
 ·rw [if_neg h, List.getElem?_map, List.getElem?_map]
  cases hk : g.Vertices[k]? with
  | none => rfl
  | some v =>
   simp only [Option.map_some]
   rw [if_neg]
   intro e
   exact h (vert_uniq hg hA hk e.symm)
theorem foldl_at (p : Int → Bool) (x : Int) : ∀ (l : List Edge) (f : Int → Bool), (l.foldl (fun (f : Int → Bool) e => fun x => f x || (atB x e && p (otherP e x))) f) x = (f x || l.any fun e => atB x e && p (otherP e x))
 | [], f => by simp
 | e :: l, f => by simp only [List.foldl, foldl_at p x l, List.any_cons, Bool.or_assoc]
theorem spread_l0 {g : Graph} (hg : VG g) (hs : SmallG g) (c19 c20 : Int) (p : Int → Bool) :
  loopN fuel (r7spread.l0 c19 c20 g.Vertices g.Edges g.Depots (g.Vertices.map fun v => p v.ID)) (0, g.Vertices.map fun v => p v.ID) = some (g.Vertices.map fun v => p v.ID || (atP g v.ID).any fun e => p (otherP e v.ID)) := by
 have he := hg.elen
 have hvl := hg.vlen
 refine loop_foldO _ g.Edges (fun i (f : Int → Bool) => ((i : Int), g.Vertices.map fun v => f v.ID)) (fun (f : Int → Bool) e => fun x => f x || (atB x e && p (otherP e x))) (fun _ _ => True) _ p _ rfl (by omega) trivial ?_ ?_
 ·intro i e f hi hx _
  refine ⟨?_, trivial⟩
  have e1 : IntKind.i64.wrap ((i : Int) + 1) = ((i + 1 : Nat) : Int) := by rw [wr]; omega
  obtain ⟨h1, h2⟩ := hg.ends e (List.mem_of_getElem? hx)
  obtain ⟨u, hu, hue⟩ := hasV_iff.1 h1
  obtain ⟨w, hw, hwe⟩ := hasV_iff.1 h2
  obtain ⟨A, hA⟩ := List.getElem?_of_mem hu
  obtain ⟨B, hB⟩ := List.getElem?_of_mem hw
  have hAl := (List.getElem?_eq_some_iff.1 hA).1
  have hBl := (List.getElem?_eq_some_iff.1 hB).1
  have hP := Place_of hg hs hA
  have hQ := Place_of hg hs hB
  rw [hue] at hP
  rw [hwe] at hQ
  have fin : ∀ (y z : Bool), y = (f e.From || p e.To) → z = ((if e.To = e.From then y else f e.To) || p e.From) →
    ((g.Vertices.map fun v => f v.ID).set A y).set B z = g.Vertices.map fun v => (f v.ID || (atB v.ID e && p (otherP e v.ID))) := by
   intro y z hy hz
   rw [setm hg hA f y, setm hg hB (fun x => if x = u.ID then y else f x) z]
   apply List.map_congr_left
   intro v _
   rw [hue, hwe, hz, hy]
   unfold atB otherP
   by_cases a : v.ID = e.To
   ·by_cases b : e.To = e.From
    ·rw [a, b]; simp
    ·have b' : ¬ e.From = e.To := fun h => b h.symm
     rw [a]; simp [b, b']
   ·by_cases b : v.ID = e.From
    ·have a' : ¬ e.From = e.To := by rw [← b]; exact a
     rw [b]; simp [a']
    ·have a' : ¬ e.To = v.ID := fun h => a h.symm
     have b' : ¬ e.From = v.ID := fun h => b h.symm
     simp [a, b, a', b']
  unfold r7spread.l0
  rw [br_dec, if_pos (by simp only; omega)]
  simp only
  rw [getR_s hx]
  show bd (r3Place g e.From) _ = _
  rw [hP, bd_s, getR_s hx]
  show bd (r3Place g e.To) _ = _
  rw [hQ, bd_s]
  simp only [Int.toNat_natCast, Nat.zero_add, List.length_map]
  have gA : (0 : Int) ≤ (A : Int) ∧ (A : Int) < ((g.Vertices.length : Nat) : Int) := by omega
  have gB : (0 : Int) ≤ (B : Int) ∧ (B : Int) < ((g.Vertices.length : Nat) : Int) := by omega
  have ga : (g.Vertices.map fun v => f v.ID)[A]? = some (f e.From) := by rw [List.getElem?_map, hA, Option.map_some, hue]
  have pa : (g.Vertices.map fun v => p v.ID)[A]? = some (p e.From) := by rw [List.getElem?_map, hA, Option.map_some, hue]
  have pb : (g.Vertices.map fun v => p v.ID)[B]? = some (p e.To) := by rw [List.getElem?_map, hB, Option.map_some, hwe]
  have gb : ∀ y : Bool, ((g.Vertices.map fun v => f v.ID).set A y)[B]? = some (if e.To = e.From then y else f e.To) := by
   intro y
   rw [setm hg hA f y, List.getElem?_map, hB, Option.map_some, hwe, hue]
  rw [gd_t gA, ga, bd_s, gd_t gA, bd_s, gd_t gB, gb, bd_s, gd_t gB, bd_s, gd_t gA, pa, bd_s, gd_t gB, bd_s, gd_t gB, pb, bd_s, gd_t gA, bd_s, gd_t gB, gb, bd_s, gd_t gB, bd_s, gd_t gA, bd_s, gd_t gB, bd_s, e1]
  cases hf : f e.From with
  | true =>
   rw [br_t]
   cases ht : (if e.To = e.From then true else f e.To) with
   | true =>
    rw [br_t, fin true true (by rw [hf]; rfl) (by rw [ht]; rfl)]
   | false =>
    rw [br_f, fin true (p e.From) (by rw [hf]; rfl) (by rw [ht]; rfl)]
  | false =>
   rw [br_f]
   cases ht : (if e.To = e.From then p e.To else f e.To) with
   | true =>
    rw [br_t, fin (p e.To) true (by rw [hf]; rfl) (by rw [ht]; rfl)]
   | false =>
    rw [br_f, fin (p e.To) (p e.From) (by rw [hf]; rfl) (by rw [ht]; rfl)]
 ·intro _
  unfold r7spread.l0
  rw [br_dec, if_neg (by simp only; omega)]
  congr 2
  apply List.map_congr_left
  intro v _
  rw [foldl_at]
  unfold atP
  rw [List.any_filter]
theorem foldl_reach (g : Graph) (a : Int) : ∀ k : Nat, (List.replicate k ()).foldl (fun (f : Int → Bool) _ => fun x => f x || (atP g x).any fun e => f (otherP e x)) (fun x => x == a) = reachB g k a
 | 0 => rfl
 | k + 1 => by rw [List.replicate_succ', List.foldl_append, foldl_reach g a k]; rfl
theorem spread_eq {g : Graph} (hg : VG g) (hs : SmallG g) {a : Int} (ha : hasV g a = true) (k : Nat) (hk : k ≤ 1000) : r7spread g a (k : Int) = some (g.Vertices.map fun v => reachB g k a v.ID) := by
 have hvl := hg.vlen
 obtain ⟨u, hu, rfl⟩ := hasV_iff.1 ha
 obtain ⟨A, hA⟩ := List.getElem?_of_mem hu
 have hAl := (List.getElem?_eq_some_iff.1 hA).1
 unfold r7spread
 have hrep : (List.replicate (((g.Vertices.length : Nat) : Int) : Int).toNat false) = g.Vertices.map fun v => (fun _ : Int => false) v.ID := by
  rw [Int.toNat_natCast]; exact (List.map_const' ..).symm
 rw [gd_t (by omega), gd_t (by omega), gd_t (by unfold bigLen; omega), Place_of hg hs hA, bd_s, hrep]
 rw [gd_t (by rw [List.length_map]; omega), Int.toNat_natCast, Nat.zero_add]
 have g0 : (g.Vertices.map fun v => (fun _ : Int => false) v.ID)[A]? = some false := by rw [List.getElem?_map, hA]; rfl
 have hinit : (g.Vertices.map fun v => (fun _ : Int => false) v.ID).set A true = g.Vertices.map fun v => (fun x : Int => x == u.ID) v.ID := by
  rw [setm hg hA (fun _ => false) true]
  apply List.map_congr_left
  intro v _
  by_cases h : v.ID = u.ID
  ·rw [if_pos h]; exact (beq_iff_eq.2 h).symm
  ·rw [if_neg h]; exact (beq_eq_false_iff_ne.2 h).symm
 rw [g0, bd_s, hinit]
 rw [loop_foldO (r7spread.l1 (k : Int) g.Vertices g.Edges g.Depots) (List.replicate k ()) (fun i (f : Int → Bool) => ((i : Int), g.Vertices.map fun v => f v.ID)) (fun (f : Int → Bool) _ => fun x => f x || (atP g x).any fun e => f (otherP e x)) (fun _ _ => True) (0, g.Vertices.map fun v => (fun x : Int => x == u.ID) v.ID) (fun x => x == u.ID) (g.Vertices.map fun v => reachB g k u.ID v.ID) rfl (by rw [List.length_replicate]; omega) trivial
  (by
   intro i _ f hi _ _
   rw [List.length_replicate] at hi
   refine ⟨?_, trivial⟩
   have e1 : IntKind.i64.wrap ((i : Int) + 1) = ((i + 1 : Nat) : Int) := by rw [wr]; omega
   unfold r7spread.l1
   rw [br_dec, if_pos (by simp only; omega), gd_t (by simp only [List.length_map]; unfold bigLen; omega)]
   simp only
   rw [spread_l0 hg hs, bd_s, e1])
  (by
   intro _
   unfold r7spread.l1
   rw [br_dec, if_neg (by simp only [List.length_replicate]; omega), foldl_reach]), bd_s]
theorem part_eq {g : Graph} (hg : VG g) (hs : SmallG g) {a : Int} (ha : hasV g a = true) : r7part g a = some (g.Vertices.map fun v => rt g v.ID == rt g a) := by
 have hvl := hg.vlen
 unfold r7part
 rw [spread_eq hg hs ha _ (by omega), bd_s]
 congr 1
 apply List.map_congr_left
 intro v hv
 exact reach_all hg ha (hasV_iff.2 ⟨v, hv, rfl⟩)
theorem loop_foldD {S R A α : Type} (f : S → Option (Nx S R)) (l : List α) (e : Int → A → S) (h : α → A → A) (s0 : S) (a : A) (r : R) (h0 : s0 = e ((l.length : Int) - 1) a) (hl : l.length ≤ 1000000)
  (hs : ∀ (i : Nat) (x : α) (a : A), i < l.length → l[i]? = some x → f (e (i : Int) a) = some (.cont (e ((i : Int) - 1) (h x a))))
  (he : f (e (-1) (l.foldr h a)) = some (.done r)) : loopN fuel f s0 = some r := by
 subst h0
 have key : ∀ (m k : Nat) (a : A), m ≤ l.length → m < k → f (e (-1) ((l.take m).foldr h a)) = some (.done r) → loopN k f (e ((m : Int) - 1) a) = some r := by
  intro m
  induction m with
  | zero =>
   intro k a _ hk he
   cases k with
   | zero => omega
   | succ k =>
    simp only [loopN]
    rw [show ((0 : Nat) : Int) - 1 = -1 from rfl, show f (e (-1) a) = some (.done r) from he]
  | succ m ih =>
   intro k a hm hk he
   cases k with
   | zero => omega
   | succ k =>
    have hx : l[m]? = some (l[m]'(by omega)) := by simp
    have e1 : ((m + 1 : Nat) : Int) - 1 = (m : Int) := by omega
    simp only [loopN]
    rw [e1, hs m _ a (by omega) hx]
    refine ih k _ (by omega) (by omega) ?_
    rw [List.take_add_one, hx, List.foldr_append] at he
    exact he
 exact key l.length fuel a (by omega) (by have := fuel_pos; omega) (by rw [List.take_length]; exact he)
theorem find_congr {α : Type} {p q : α → Bool} : ∀ {l : List α}, (∀ x ∈ l, p x = q x) → l.find? p = l.find? q
 | [], _ => rfl
 | x :: l, h => by
  rw [List.find?_cons, List.find?_cons, h x (.head _), find_congr fun y hy => h y (.tail _ hy)]
def edC (g : Graph) (x : Int) (e : Edge) : Bool := atB x e && dp g (otherP e x) == dp g x - 1
theorem ed_find {g : Graph} (hg : VG g) {x : Int} (hx : hasV g x = true) : ed g x = match g.Edges.find? (edC g x) with | some e => e.ID | none => -1 := by
 obtain ⟨_, h2⟩ := look_mem hg hx
 unfold ed edgeOf
 rw [h2]
 unfold atP
 rw [List.find?_filter]
 have hc : g.Edges.find? (fun a => decide (atB x a = true ∧ (dep? (allT g) (otherP a x) == some ((look g x).2.2 - 1)) = true)) = g.Edges.find? (edC g x) := by
  apply find_congr
  intro e he
  unfold edC
  by_cases hb : atB x e = true
  ·rw [dep_dp hg (hg.other he hb), hb]
   by_cases hh : dp g (otherP e x) = dp g x - 1
   ·rw [beq_iff_eq.2 hh]
    simp [dp] at hh ⊢
    exact hh
   ·rw [beq_eq_false_iff_ne.2 hh]
    simp [dp] at hh ⊢
    exact hh
  ·simp [hb]
 rw [hc]
 cases g.Edges.find? (edC g x) <;> rfl
end Go.Fw.Gen
