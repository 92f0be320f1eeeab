/- Data that came in, told by shapes; a law's row. -/
import Derived.Test.YtpdjphpjejjkpaaFxL
import Derived.RowKit
namespace Go.Fx
inductive Cs where
 | int (k : IntKind)
 | bool
 | str
 | sl (row : List Cs)
def shapeFs (P : Program) (r : TypeId → Option (List Cs)) : List Field → Nat → Option (List Cs)
 | [], _ => some []
 | f :: fs, off => match Nat.beq f.offset off, r f.type with
  | true, some a => match Nat.beq a.length (P.cellsOf f.type), shapeFs P r fs (off + a.length) with
   | true, some b => some (a ++ b)
   | _, _ => none
  | _, _ => none
def rep (n : Nat) (l : List Cs) : List Cs := match n with
 | 0 => []
 | n + 1 => l ++ rep n l
def shapeC (P : Program) : Nat → TypeId → Option (List Cs)
 | 0, _ => none
 | f + 1, t => match P.underlying t with
  | some (.int k) => some [.int k]
  | some .bool => some [.bool]
  | some .string => some [.str]
  | some (.slice e) => match shapeC P f e with
   | some r => match Nat.beq r.length (P.cellsOf e), Nat.beq r.length 0 with
    | true, false => some [.sl r]
    | _, _ => none
   | none => none
  | some (.struct fs) => shapeFs P (shapeC P f) fs.toList 0
  | some (.array n e) => match shapeC P f e with
   | some r => match Nat.beq r.length (P.cellsOf e) with
    | true => some (rep n r)
    | false => none
   | none => none
  | _ => none
inductive OkC : Cs → PV → Prop
 | int (k : IntKind) (n : Int) : (Lit.int k n).wf = true → OkC (.int k) (.int k n)
 | bool (b : Bool) : OkC .bool (.bool b)
 | str (s : ByteArray) : s.size ≤ maxLen → OkC .str (.str s)
 | sl (r : List Cs) (rows : List (List PV)) : rows.length ≤ maxLen → (∀ x ∈ rows, x.length = r.length) →
   (∀ x ∈ rows, ∀ (j : Nat) (p : PV) (c : Cs), x[j]? = some p → r[j]? = some c → OkC c p) → OkC (.sl r) (.sl rows)
structure RowOk (sh : List Cs) (ps : List PV) : Prop where
 len : ps.length = sh.length
 ok : ∀ (j : Nat) (p : PV) (c : Cs), ps[j]? = some p → sh[j]? = some c → OkC c p
theorem RowOk.nil {ps : List PV} (h : RowOk [] ps) : ps = [] := List.length_eq_zero_iff.1 h.len
theorem RowOk.cons {c : Cs} {sh : List Cs} {ps : List PV} (h : RowOk (c :: sh) ps) : ∃ p ps', ps = p :: ps' ∧ OkC c p ∧ RowOk sh ps' := by
 obtain ⟨hl, ho⟩ := h
 cases ps with
 | nil => simp at hl
 | cons p ps => exact ⟨p, ps, rfl, ho 0 p c rfl rfl, by simpa using hl, fun j q d h1 h2 => ho (j + 1) q d (by simpa using h1) (by simpa using h2)⟩
theorem RowOk.append {a b : List Cs} {p q : List PV} (h : RowOk a p) (k : RowOk b q) : RowOk (a ++ b) (p ++ q) := by
 refine ⟨by simp [h.len, k.len], fun j x c h1 h2 => ?_⟩
 by_cases hj : j < p.length
 ·rw [List.getElem?_append_left hj] at h1
  rw [List.getElem?_append_left (by rw [← h.len]; exact hj)] at h2
  exact h.ok j x c h1 h2
 ·rw [List.getElem?_append_right (by omega)] at h1
  rw [List.getElem?_append_right (by rw [← h.len]; omega), ← h.len] at h2
  exact k.ok _ x c h1 h2
def inI64 (n : Int) : Prop := -9223372036854775808 ≤ n ∧ n ≤ 9223372036854775807
theorem OkC.toInt {p : PV} (h : OkC (.int .i64) p) : ∃ n, p = .int .i64 n ∧ inI64 n := by
 cases h with
 | int _ n w =>
  refine ⟨n, rfl, ?_⟩
  simp [Lit.wf, IntKind.min, IntKind.max, IntKind.signed, IntKind.bits] at w
  unfold inI64; omega
theorem OkC.toBool {p : PV} (h : OkC .bool p) : ∃ b, p = .bool b := by cases h; exact ⟨_, rfl⟩
theorem exists_map {α β : Type} {enc : α → β} {ok : α → Prop} : ∀ {rows : List β}, (∀ x ∈ rows, ∃ a, x = enc a ∧ ok a) → ∃ l : List α, rows = l.map enc ∧ ∀ a ∈ l, ok a
 | [], _ => ⟨[], rfl, by simp⟩
 | x :: xs, h => by
  obtain ⟨a, rfl, ha⟩ := h x (.head _)
  obtain ⟨l, rfl, hl⟩ := exists_map (rows := xs) fun y hy => h y (.tail _ hy)
  exact ⟨a :: l, rfl, by simpa using ⟨ha, hl⟩⟩
theorem OkC.toSl {α : Type} {enc : α → List PV} {ok : α → Prop} {r : List Cs} (hr : ∀ ps, RowOk r ps → ∃ a, ps = enc a ∧ ok a) {p : PV} (h : OkC (.sl r) p) :
  ∃ l : List α, p = .sl (l.map enc) ∧ l.length ≤ maxLen ∧ ∀ a ∈ l, ok a := by
 cases h with
 | sl _ rows h1 h2 h3 =>
  obtain ⟨l, rfl, hl⟩ := exists_map (rows := rows) (enc := enc) (ok := ok) fun x hx => hr x ⟨h2 x hx, h3 x hx⟩
  exact ⟨l, rfl, by simpa using h1, hl⟩
structure PCells (W : World) (cs : List Value) (ps : List PV) : Prop where
 len : cs.length = ps.length
 rel : ∀ (i : Nat) (v : Value) (p : PV), cs[i]? = some v → ps[i]? = some p → PRel M0 W v p
theorem PCells.append {W : World} {a b : List Value} {p q : List PV} (h : PCells W a p) (k : PCells W b q) : PCells W (a ++ b) (p ++ q) := by
 refine ⟨by simp [h.len, k.len], fun j x c h1 h2 => ?_⟩
 by_cases hj : j < a.length
 ·rw [List.getElem?_append_left hj] at h1
  rw [List.getElem?_append_left (by rw [← h.len]; exact hj)] at h2
  exact h.rel j x c h1 h2
 ·rw [List.getElem?_append_right (by omega)] at h1
  rw [List.getElem?_append_right (by rw [← h.len]; omega), ← h.len] at h2
  exact k.rel _ x c h1 h2
theorem PCells.one {W : World} {v : Value} {p : PV} (h : PRel M0 W v p) : PCells W [v] [p] := by
 refine ⟨rfl, fun i x q h1 h2 => ?_⟩
 cases i with
 | zero => simp at h1 h2; subst h1; subst h2; exact h
 | succ i => simp at h1
theorem RowOk.one {c : Cs} {p : PV} (h : OkC c p) : RowOk [c] [p] := by
 refine ⟨rfl, fun i x q h1 h2 => ?_⟩
 cases i with
 | zero => simp at h1 h2; subst h1; subst h2; exact h
 | succ i => simp at h1
section
variable {P : Program} {W : World} {H : Type} {enc : TypeId × Value → H}
theorem shapeFs_sound {r : TypeId → Option (List Cs)} {m : Nat} {all : List Value}
  (hr : ∀ t sh cs x, r t = some sh → DataW.trod enc P W 0 (fun _ => true) true m t cs = some x → ∃ ps, PCells W cs ps ∧ RowOk sh ps) :
  ∀ {fs : List Field} {off : Nat} {sh : List Cs}, shapeFs P r fs off = some sh → off + sh.length ≤ all.length →
   (∀ f ∈ fs, ∃ x, DataW.trod enc P W 0 (fun _ => true) true m f.type ((all.drop f.offset).take (P.cellsOf f.type)) = some x) →
   ∃ ps, PCells W ((all.drop off).take sh.length) ps ∧ RowOk sh ps := by
 intro fs
 induction fs with
 | nil => intro off sh h _ _; simp [shapeFs] at h; subst h; exact ⟨[], by constructor <;> simp, by constructor <;> simp⟩
 | cons f fs ih =>
  intro off sh h hl hd
  simp only [shapeFs] at h
  split at h
  ·rename_i a ho ha
   split at h
   ·rename_i b hc hb
    cases h
    have ho := nbeq_eq ho
    have hc := nbeq_eq hc
    simp only [List.length_append] at hl
    obtain ⟨x, hx⟩ := hd f (.head _)
    obtain ⟨p1, c1, r1⟩ := hr _ _ _ _ ha hx
    obtain ⟨p2, c2, r2⟩ := ih hb (by omega) fun g hg => hd g (.tail _ hg)
    refine ⟨p1 ++ p2, ?_, r1.append r2⟩
    have e : (all.drop off).take (a ++ b).length = (all.drop f.offset).take (P.cellsOf f.type) ++ (all.drop (off + a.length)).take b.length := by
     rw [← hc, ho, List.length_append, List.take_add, List.drop_drop]
    rw [e]
    exact c1.append c2
   ·cases h
  ·cases h
theorem rep_sound {r : List Cs} {m : Nat} {e : TypeId} {sz : Nat} (hsz : r.length = sz) :
  ∀ (n : Nat) (all : List Value), all.length = n * sz →
   (∀ i, i < n → ∃ ps, PCells W ((all.drop (i * sz)).take sz) ps ∧ RowOk r ps) → ∃ ps, PCells W all ps ∧ RowOk (rep n r) ps := by
 intro n
 induction n with
 | zero => intro all h _; simp at h; subst h; exact ⟨[], by constructor <;> simp, by constructor <;> simp [rep]⟩
 | succ n ih =>
  intro all h hi
  obtain ⟨p1, c1, r1⟩ := hi 0 (by omega)
  simp only [Nat.zero_mul, List.drop_zero] at c1
  obtain ⟨p2, c2, r2⟩ := ih (all.drop sz) (by simp [h, Nat.add_mul]) fun i h' => by
   obtain ⟨p, c, r⟩ := hi (i + 1) (by omega)
   refine ⟨p, ?_, r⟩
   rw [List.drop_drop]
   rwa [Nat.add_mul, Nat.one_mul, Nat.add_comm] at c
  refine ⟨p1 ++ p2, ?_, r1.append r2⟩
  have := c1.append c2
  rwa [List.take_append_drop] at this
theorem trod_array {n : Nat} {e t : TypeId} {fuel : Nat} {cs : List Value} {x : DataW H × List MemPlace} (ht : P.underlying t = some (.array n e)) (h : DataW.trod enc P W 0 (fun _ => true) true fuel t cs = some x) :
  ∃ m, cs.length = P.cellsOf t ∧ ∀ i, i < n → ∃ y, DataW.trod enc P W 0 (fun _ => true) true m e ((cs.drop (i * P.cellsOf e)).take (P.cellsOf e)) = some y := by
 cases fuel with
 | zero => simp [DataW.trod] at h
 | succ m =>
  unfold DataW.trod at h
  rw [ht] at h
  split at h <;> simp_all
  obtain ⟨hl, xs, hp, hd⟩ := h
  refine ⟨m, fun i hi => ?_⟩
  have := mapM_some_get hp i i (by simp [hi])
  have hx : i < xs.length := by have := mapM_some_length hp; simp at this; omega
  rw [this]
  exact ⟨_, _, List.getElem?_eq_getElem hx⟩
def laidC (P : Program) : Nat → TypeId → Bool
 | 0, _ => false
 | f + 1, t => match P.underlying t with
  | some (.slice e) => laidC P f e
  | some (.struct fs) => match shapeFs P (shapeC P f) fs.toList 0 with
   | some sh => match Nat.beq sh.length (P.cellsOf t) with
    | true => fs.toList.all fun x => laidC P f x.type
    | false => false
   | none => false
  | some (.array n e) => match Nat.beq (n * P.cellsOf e) (P.cellsOf t) with
   | true => laidC P f e
   | false => false
  | _ => true
theorem shapeC_sound : ∀ (f : Nat) {t : TypeId} {sh : List Cs} {m : Nat} {cs : List Value} {x : DataW H × List MemPlace}, shapeC P f t = some sh → laidC P f t = true →
  DataW.trod enc P W 0 (fun _ => true) true m t cs = some x → ∃ ps, PCells W cs ps ∧ RowOk sh ps := by
 intro f
 induction f with
 | zero => intro t sh m cs x h; simp [shapeC] at h
 | succ f ih =>
  intro t sh m cs x h hlaid hx
  unfold shapeC at h
  unfold laidC at hlaid
  split at h
  ·rename_i k hu
   cases h
   obtain ⟨n, rfl, _, hw⟩ := DataW.trod_int hu hx
   exact ⟨_, .one (.int k n), .one (.int k n hw)⟩
  ·rename_i hu
   cases h
   obtain ⟨b, rfl, _⟩ := DataW.trod_bool hu hx
   exact ⟨_, .one (.bool b), .one (.bool b)⟩
  ·rename_i hu
   cases h
   obtain ⟨b, rfl, _, hs⟩ := DataW.trod_string hu hx
   exact ⟨_, .one (.str b), .one (.str b hs)⟩
  ·rename_i e hu
   rw [hu] at hlaid
   split at h
   ·rename_i r hr
    split at h
    ·rename_i h1 h2
     cases h
     have h1 := nbeq_eq h1
     have h2 : r.length ≠ 0 := by intro e; rw [e] at h2; simp at h2
     rcases DataW.trod_slice hu hx with ⟨rfl, _⟩ | ⟨a, len, cap, elems, rest, n, _, rfl, _, _, hl, hc, he, hel, _⟩
     ·exact ⟨[.sl []], .one (.sl0 none 0), .one (.sl r [] (by simp) (by simp) (by simp))⟩
     ·cases len with
      | zero => exact ⟨[.sl []], .one (.sl0 _ cap), .one (.sl r [] (by simp) (by simp) (by simp))⟩
      | succ len =>
       have hrow : ∀ i, i < len + 1 → ∃ ps : List PV, (∀ j, j < r.length → ∃ v, W.cell? (a.add (i * r.length) |>.add j) = some v ∧ ∀ p, ps[j]? = some p → PRel M0 W v p) ∧ RowOk r ps := by
        intro i hi
        have := hel i hi
        have hlt : i < elems.length := by omega
        rw [List.getElem?_eq_getElem hlt] at this
        rw [Option.bind_eq_some_iff] at this
        obtain ⟨cs', hcs, ht⟩ := this
        obtain ⟨ps, c, ok⟩ := ih hr hlaid ht
        obtain ⟨_, q1, q2⟩ := World.cells?_some hcs
        refine ⟨ps, fun j hj => ?_, ok⟩
        have hj' : j < cs'.length := by omega
        refine ⟨cs'[j], ?_, fun p hp => c.rel j _ p (List.getElem?_eq_getElem hj') hp⟩
        rw [h1, q2 j (by omega), List.getElem?_eq_getElem hj']
       have hspot : a.spot = none := by
        obtain ⟨ps, g, _⟩ := hrow 0 (by omega)
        obtain ⟨v, g1, _⟩ := g 0 (by omega)
        simp only [Nat.zero_mul, Addr.add, if_true] at g1
        unfold World.cell? at g1
        split at g1
        ·split at g1
         ·cases g1
         ·rename_i hh; simpa using hh
        ·cases g1
       obtain ⟨b, off, sp⟩ := a
       simp only at hspot
       subst hspot
       have hadd : ∀ n, (⟨b, off, none⟩ : Addr).add n = ⟨b, off + n, none⟩ := by
        intro n; unfold Addr.add; split
        ·rename_i h; rw [h]; rfl
        ·rfl
       have hadd2 : ∀ o n, (⟨b, o, none⟩ : Addr).add n = ⟨b, o + n, none⟩ := by
        intro o n; unfold Addr.add; split
        ·rename_i h; rw [h]; rfl
        ·rfl
       simp only [hadd, hadd2] at hrow
       have hch : ∃ rows : List (List PV), rows.length = len + 1 ∧ ∀ (i : Nat) (x : List PV), rows[i]? = some x → (∀ j, j < r.length → ∃ v, W.cell? ⟨b, off + i * r.length + j, none⟩ = some v ∧ ∀ p, x[j]? = some p → PRel M0 W v p) ∧ RowOk r x := by
        refine ⟨(List.range (len + 1)).map fun i => if h : i < len + 1 then (hrow i h).choose else [], by simp, fun i x hx => ?_⟩
        simp only [List.getElem?_map, Option.map_eq_some_iff] at hx
        obtain ⟨k, hk, rfl⟩ := hx
        have hk' : k = i ∧ i < len + 1 := by
         have hi : i < len + 1 := by have := (List.getElem?_eq_some_iff.1 hk).1; simpa using this
         rw [List.getElem?_range hi] at hk
         cases hk
         exact ⟨rfl, hi⟩
        obtain ⟨rfl, hlt⟩ := hk'
        rw [dif_pos hlt]
        exact (hrow k hlt).choose_spec
       obtain ⟨rows, hrl, hrows⟩ := hch
       refine ⟨[.sl rows], .one (.sl b off r.length (len + 1) cap rows (fun i j => (W.cell? ⟨b, off + i * r.length + j, none⟩).getD undef) hrl hl (fun i x hx => (hrows i x hx).2.len) ?_ ?_), .one (.sl r rows (by omega) ?_ ?_)⟩
       ·intro i x j p h3 h4
        obtain ⟨v, g1, _⟩ := (hrows i x h3).1 j (by rw [← (hrows i x h3).2.len]; exact (List.getElem?_eq_some_iff.1 h4).1)
        exact ⟨rfl, by rw [g1]; rfl⟩
       ·intro i x j p h3 h4
        obtain ⟨v, g1, g2⟩ := (hrows i x h3).1 j (by rw [← (hrows i x h3).2.len]; exact (List.getElem?_eq_some_iff.1 h4).1)
        simp only [g1]
        exact g2 p h4
       ·intro x hx
        obtain ⟨i, hi⟩ := List.getElem?_of_mem hx
        exact (hrows i x hi).2.len
       ·intro x hx j p c h3 h4
        obtain ⟨i, hi⟩ := List.getElem?_of_mem hx
        exact (hrows i x hi).2.ok j p c h3 h4
    ·cases h
   ·cases h
  ·rename_i fs hu
   rw [hu] at hlaid
   simp only [h] at hlaid
   split at hlaid
   ·rename_i hsz
    have hsz := nbeq_eq hsz
    obtain ⟨xs, n, _, _, hl, hlen, hf⟩ := DataW.trod_struct hu hx
    have := shapeFs_sound (P := P) (W := W) (enc := enc) (r := fun t => match laidC P f t with | true => shapeC P f t | false => none) (m := n) (all := cs) (fs := fs.toList) (off := 0) (sh := sh) ?_ ?_ (by omega) ?_
    ·obtain ⟨ps, c, ok⟩ := this
     refine ⟨ps, ?_, ok⟩
     rwa [List.drop_zero, hsz, ← hl, List.take_length] at c
    ·intro t sh cs x h1 h2
     split at h1
     ·rename_i hla; exact ih h1 hla h2
     ·cases h1
    ·rw [← h]
     clear hf hlen hl hx hsz h hu
     generalize fs.toList = l at hlaid
     generalize 0 = o
     induction l generalizing o with
     | nil => rfl
     | cons g gs ihg =>
      simp only [List.all_cons, Bool.and_eq_true] at hlaid
      simp only [shapeFs, hlaid.1]
      cases Nat.beq g.offset o with
      | false => rfl
      | true =>
       cases shapeC P f g.type with
       | none => rfl
       | some a => simp only [ihg hlaid.2]
    ·intro g hg
     obtain ⟨i, hi⟩ := List.getElem?_of_mem hg
     have := hf i g (by simpa using hi)
     have hx : i < xs.length := by have := (List.getElem?_eq_some_iff.1 hi).1; simp at this; omega
     rw [this]
     exact ⟨_, List.getElem?_eq_getElem hx⟩
   ·cases hlaid
  ·rename_i n e hu
   rw [hu] at hlaid
   split at h
   ·rename_i r hr
    split at h
    ·rename_i h1
     cases h
     have h1 := nbeq_eq h1
     simp only at hlaid
     split at hlaid
     ·rename_i h2
      have h2 := nbeq_eq h2
      obtain ⟨m', hl, hf⟩ := trod_array hu hx
      refine rep_sound (m := m') (e := e) (sz := P.cellsOf e) h1 n cs (by omega) fun i hi => ?_
      obtain ⟨y, hy⟩ := hf i hi
      exact ih hr hlaid hy
     ·cases hlaid
    ·cases h
   ·cases h
  ·cases h
end
def argA : Bool → List PV → AV
 | true, ps => .aggp ps
 | false, [p] => .pv p
 | false, _ => .undef
def shapesC (P : Program) : List TypeId → Option (List (Bool × List Cs))
 | [] => some []
 | t :: ts => match isAggT P t, shapeC P 20 t, laidC P 20 t, shapesC P ts with
  | some b, some sh, true, some r => some ((b, sh) :: r)
  | _, _, _, _ => none
inductive ArgsOk : List (Bool × List Cs) → List AV → Prop
 | nil : ArgsOk [] []
 | cons (b : Bool) (sh : List Cs) (r : List (Bool × List Cs)) (ps : List PV) (vs : List AV) : RowOk sh ps → ArgsOk r vs → ArgsOk ((b, sh) :: r) (argA b ps :: vs)
theorem ArgsOk.uncons {b : Bool} {sh : List Cs} {r : List (Bool × List Cs)} {vs : List AV} (h : ArgsOk ((b, sh) :: r) vs) : ∃ ps vs', vs = argA b ps :: vs' ∧ RowOk sh ps ∧ ArgsOk r vs' := by
 cases h with
 | cons _ _ _ ps vs' h1 h2 => exact ⟨ps, vs', rfl, h1, h2⟩
theorem argsOk_nil {vs : List AV} (h : ArgsOk [] vs) : vs = [] := by cases h; rfl
theorem came1 {P : Program} {W : World} {base : Nat} {H : Type} {enc : TypeId × Value → H} {t : TypeId} {v : Value} {d : DataW H} {p : List MemPlace} {b : Bool} {sh : List Cs}
  (hb : isAggT P t = some b) (hs : shapeC P 20 t = some sh) (hl : laidC P 20 t = true) (hval : Value.okWide P W .any base t v) (h : DataW.Trod enc P W 0 (fun _ => true) true t v d p) :
  ∃ ps, RowOk sh ps ∧ VRel M0 W v (argA b ps) := by
 obtain ⟨fuel, hf⟩ := h
 obtain ⟨ps, c, ok⟩ := shapeC_sound 20 hs hl hf
 refine ⟨ps, ok, ?_⟩
 cases b with
 | true =>
  have : ∃ cs, v = .agg cs := by
   unfold isAggT at hb
   unfold Value.okWide at hval
   split at hb
   ·rename_i hu; rw [hu] at hval; obtain ⟨cs, h, _⟩ := hval; exact ⟨cs, h⟩
   ·rename_i hu; rw [hu] at hval; obtain ⟨cs, h, _⟩ := hval; exact ⟨cs, h⟩
   ·cases hb
   ·cases hb
  obtain ⟨cs, rfl⟩ := this
  simp only [Value.cells] at c
  exact .aggp cs ps (by have := c.len; simpa using this) fun i v p h1 h2 => c.rel i v p (by simpa using h1) h2
 | false =>
  have hone : v.cells = #[v] ∧ ∃ s, sh = [s] := by
   unfold isAggT at hb
   unfold shapeC at hs
   unfold Value.okWide at hval
   cases hu : P.underlying t with
   | none => simp [hu] at hb
   | some u =>
    rw [hu] at hs hval
    cases u <;> simp [hu] at hb <;> simp only at hs hval
    all_goals first
     | (cases hs; done)
     | skip
    ·obtain ⟨b, hv, _⟩ := DataW.trod_bool hu hf
     cases hs
     refine ⟨?_, _, rfl⟩
     unfold Cell.okWide at hval; rw [hu] at hval; simp only [Cell.ok, hu] at hval
     cases v <;> simp [Value.cells] at hv ⊢ <;> simp_all
    ·obtain ⟨b, hv, _⟩ := DataW.trod_int hu hf
     cases hs
     refine ⟨?_, _, rfl⟩
     unfold Cell.okWide at hval; rw [hu] at hval; simp only [Cell.ok, hu] at hval
     cases v <;> simp [Value.cells] at hv ⊢ <;> simp_all
    ·obtain ⟨b, hv, _⟩ := DataW.trod_string hu hf
     cases hs
     refine ⟨?_, _, rfl⟩
     unfold Cell.okWide at hval; rw [hu] at hval; simp only [Cell.ok, hu] at hval
     cases v <;> simp [Value.cells] at hv ⊢ <;> simp_all
    ·refine ⟨?_, ?_⟩
     ·unfold Cell.okWide at hval; rw [hu] at hval; simp only [Cell.ok, hu] at hval
      cases v <;> simp [Value.cells] at hval ⊢
     ·split at hs
      ·split at hs
       ·cases hs; exact ⟨_, rfl⟩
       ·cases hs
      ·cases hs
  obtain ⟨h1, s, rfl⟩ := hone
  obtain ⟨p, ps', rfl, _, h2⟩ := ok.cons
  obtain rfl := h2.nil
  rw [h1] at c
  exact .pv _ _ (c.rel 0 _ _ rfl rfl)
theorem came {P : Program} {W : World} {base : Nat} {H : Type} {enc : TypeId × Value → H} : ∀ {ts : List TypeId} {vs : List Value} {ds : List (DataW H)} {p : List MemPlace} {shs : List (Bool × List Cs)},
  shapesC P ts = some shs → (∀ (j : Nat) t v, ts[j]? = some t → vs[j]? = some v → Value.okWide P W .any base t v) → DataW.TrodAll enc P W 0 (fun _ => true) true ts vs ds p →
  ∃ as : List AV, ArgsOk shs as ∧ vs.length = as.length ∧ (∀ a ∈ as, a.nms = []) ∧ ∀ (i : Nat) (v : Value) (a : AV), vs[i]? = some v → as[i]? = some a → VRel M0 W v a := by
 intro ts
 induction ts with
 | nil =>
  intro vs ds p shs hs _ h
  obtain ⟨rfl, rfl, rfl⟩ := ChangeShapes.trodAll_nil h
  cases hs
  exact ⟨[], .nil, rfl, by simp, by simp⟩
 | cons t ts ih =>
  intro vs ds p shs hs hv h
  obtain ⟨v, vs', d, ds', p1, q1, rfl, rfl, rfl, h1, h2⟩ := ChangeShapes.trodAll_cons h
  simp only [shapesC] at hs
  split at hs
  ·rename_i b sh r e1 e2 e3 e4
   cases hs
   obtain ⟨ps, g1, g2⟩ := came1 e1 e2 e3 (hv 0 t v rfl rfl) h1
   obtain ⟨as, g3, g4, g5, g6⟩ := ih e4 (fun j t' v' a1 a2 => hv (j + 1) t' v' (by simpa using a1) (by simpa using a2)) h2
   refine ⟨argA b ps :: as, .cons b sh r ps as g1 g3, by simp [g4], ?_, ?_⟩
   ·intro a ha
    cases ha with
    | head => cases b with
     | true => rfl
     | false => unfold argA; split <;> first | rfl | contradiction
    | tail _ ha => exact g5 a ha
   ·intro i x a a1 a2
    cases i with
    | zero => simp at a1 a2; subst a1; subst a2; exact g2
    | succ i => exact g6 i x a (by simpa using a1) (by simpa using a2)
  ·cases hs
theorem backAll {P : Program} (hl : laidOutB P = true) {W W' : World} {H : Type} {enc : TypeId × Value → H} (hb : RowKit.Below W.heap.size W W') :
  ∀ {ts : List TypeId} {vs : List Value} {ds : List (DataW H)} {p : List MemPlace}, (ts.all fun t => P.readableRec t && decide (t < P.types.size)) = true →
   DataW.TrodAll enc P W 0 (fun _ => true) true ts vs ds p → (∀ x ∈ p, x.block < W.heap.size) → DataW.TrodAll enc P W' 0 (fun b => decide (b < W.heap.size)) true ts vs ds p := by
 intro ts
 induction ts with
 | nil => intro vs ds p _ h _; obtain ⟨rfl, rfl, rfl⟩ := ChangeShapes.trodAll_nil h; exact rfl
 | cons t ts ih =>
  intro vs ds p hr h hlt
  obtain ⟨v, vs', d, ds', p1, q1, rfl, rfl, rfl, h1, h2⟩ := ChangeShapes.trodAll_cons h
  simp only [List.all_cons, Bool.and_eq_true, decide_eq_true_eq] at hr
  exact ⟨p1, q1, RowKit.Below.trod hl hr.1.1 hr.1.2 h1 hb fun x hx => hlt x (List.mem_append.2 (.inl hx)), ih hr.2 h2 fun x hx => hlt x (List.mem_append.2 (.inr hx)), rfl⟩
end Go.Fx
