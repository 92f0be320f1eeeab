/- Words for families: slices of whole numbers that lie in the rows of an own slice. -/
import Derived.Test.YtiecopfelbfkiaaXA
namespace Go.Fx

/-- The family's number. -/
class Fm where
  f : Nat
/-- A header to a member. -/
structure Ref where
  i : Nat
  off : Nat
  len : Nat
instance [Fm] : Cel Ref := ⟨fun r => [.fh Fm.f r.i r.off r.len 1], 1, fun _ => rfl⟩
abbrev LM (M : List (List Int)) : Nat := (M.map (List.map Cel.enc)).length
abbrev FM [Fm] (M : List (List Int)) : AObj := .fam false Fm.f 1 (M.map (List.map Cel.enc))
theorem LM_eq (M : List (List Int)) : LM M = M.length := List.length_map _

section
variable {P : Program} {β : Type}

theorem mem_ok {M : List (List Int)} {i : Nat} {l : List Int} (h : M[i]? = some l) : (M.map (List.map Cel.enc))[i]? = some (l.map Cel.enc) := by rw [List.getElem?_map, h]; rfl

/-- Appended, as a new member. -/
def apM (M : List (List Int)) (l l2 : List Int) (k : List Int → Prg P β) : Prg P β :=
  .op (if (l ++ l2).length ≤ bigLen then some (l ++ l2) else none) (fun n l' => .mi 3 n (LM M) ((M ++ [l']).map (List.map Cel.enc)) (.app n (l'.map Cel.enc)))
    (fun l' => [l.map Cel.enc ++ l2.map Cel.enc = l'.map Cel.enc, (l'.map Cel.enc).length ≤ bigLen, ∀ r ∈ l2.map Cel.enc, r.length = Cel.sz Int, M.map (List.map Cel.enc) ++ [l'.map Cel.enc] = (M ++ [l']).map (List.map Cel.enc)])
    (fun l' h => by
      split at h
      · rename_i hb; cases h; exact ⟨List.map_append.symm, by rw [List.length_map]; exact hb, rows_ok l2, by simp, trivial⟩
      · cases h) k

/-- A number of a member. -/
def rdM (M : List (List Int)) (i j : Nat) (k : Int → Prg P β) : Prg P β :=
  .op ((M[i]?).bind fun l => (l[j]?).map fun a => (l, a)) (fun _ y => .frow 3 (y.1.map Cel.enc) (Cel.enc y.2)) (fun y => [(M.map (List.map Cel.enc))[i]? = some (y.1.map Cel.enc), (y.1.map Cel.enc)[j]? = some (Cel.enc y.2)])
    (fun y h => by
      rw [Option.bind_eq_some_iff] at h
      obtain ⟨l, h1, h2⟩ := h
      rw [Option.map_eq_some_iff] at h2
      obtain ⟨a, h2, rfl⟩ := h2
      exact ⟨mem_ok h1, row_ok h2, trivial⟩) (fun y => k y.2)

/-- A number of a member, turned. -/
def stM (M : List (List Int)) (i j : Nat) (v : Int) (k : List (List Int) → Prg P β) : Prg P β :=
  .op ((M[i]?).bind fun l => (l[j]?).map fun a => (l, a, M.set i (l.set j v))) (fun _ y => .frows 3 (y.1.map Cel.enc) (Cel.enc y.2.1) (y.2.2.map (List.map Cel.enc)))
    (fun y => [(M.map (List.map Cel.enc))[i]? = some (y.1.map Cel.enc), (y.1.map Cel.enc)[j]? = some (Cel.enc y.2.1), (M.map (List.map Cel.enc)).set i ((y.1.map Cel.enc).set j (splice (Cel.enc y.2.1) 0 [.int .i64 v])) = y.2.2.map (List.map Cel.enc)])
    (fun y h => by
      rw [Option.bind_eq_some_iff] at h
      obtain ⟨l, h1, h2⟩ := h
      rw [Option.map_eq_some_iff] at h2
      obtain ⟨a, h2, rfl⟩ := h2
      refine ⟨mem_ok h1, row_ok h2, ?_, trivial⟩
      rw [List.map_set, List.map_set]; rfl) (fun y => k y.2.2)

theorem splice_map' {l l2 : List Int} {off : Nat} : splice (l.map Cel.enc) off (l2.map (Cel.enc (α := Int))) = (splice l off l2).map Cel.enc := by
  unfold splice; rw [List.map_append, List.map_append, List.map_take, List.map_drop, List.length_map]

/-- Data copied into a member. -/
def cpM (M : List (List Int)) (r : Ref) (l2 : List Int) (k : List (List Int) → Prg P β) : Prg P β :=
  .op ((M[r.i]?).bind fun l => if r.off + r.len ≤ l.length then some (l, M.set r.i (splice l r.off (l2.take (min l2.length r.len)))) else none) (fun _ y => .frows 3 (y.1.map Cel.enc) [] (y.2.map (List.map Cel.enc)))
    (fun y => [(M.map (List.map Cel.enc))[r.i]? = some (y.1.map Cel.enc), r.off + r.len ≤ (y.1.map Cel.enc).length, ∀ q ∈ l2.map (Cel.enc (α := Int)), q.length = 1,
      (M.map (List.map Cel.enc)).set r.i (splice (y.1.map Cel.enc) r.off ((l2.map Cel.enc).take (min (l2.map (Cel.enc (α := Int))).length r.len))) = y.2.map (List.map Cel.enc)])
    (fun y h => by
      rw [Option.bind_eq_some_iff] at h
      obtain ⟨l, h1, h2⟩ := h
      split at h2
      · rename_i hb
        cases h2
        refine ⟨mem_ok h1, by rw [List.length_map]; exact hb, rows_ok l2, ?_, trivial⟩
        simp only
        rw [List.map_set, List.length_map, ← List.map_take, splice_map']
      · cases h2) (fun y => k y.2)

theorem r_apM {M : List (List Int)} {l l2 : List Int} {k : List Int → Prg P β} : (apM M l l2 k).run = bd (if (l ++ l2).length ≤ bigLen then some (l ++ l2) else none) fun y => (k y).run := rfl
theorem apM_s {M : List (List Int)} {l l2 : List Int} (h : (l ++ l2).length ≤ bigLen) {k : List Int → Prg P β} : (apM M l l2 k).run = (k (l ++ l2)).run := by rw [r_apM, if_pos h]; rfl
theorem r_rdM {M : List (List Int)} {i j : Nat} {k : Int → Prg P β} : (rdM M i j k).run = bd ((M[i]?).bind fun l => (l[j]?).map fun a => (l, a)) fun y => (k y.2).run := rfl
theorem r_stM {M : List (List Int)} {i j : Nat} {v : Int} {k : List (List Int) → Prg P β} : (stM M i j v k).run = bd ((M[i]?).bind fun l => (l[j]?).map fun a => (l, a, M.set i (l.set j v))) fun y => (k y.2.2).run := rfl
theorem r_cpM {M : List (List Int)} {r : Ref} {l2 : List Int} {k : List (List Int) → Prg P β} : (cpM M r l2 k).run = bd ((M[r.i]?).bind fun l => if r.off + r.len ≤ l.length then some (l, M.set r.i (splice l r.off (l2.take (min l2.length r.len)))) else none) fun y => (k y.2).run := rfl
theorem rdM_s {M : List (List Int)} {i j : Nat} {l : List Int} {a : Int} (h1 : M[i]? = some l) (h2 : l[j]? = some a) {k : Int → Prg P β} : (rdM M i j k).run = (k a).run := by
  show bd (((M[i]?).bind fun l => (l[j]?).map fun a => (l, a))) _ = _
  rw [h1, Option.bind_some, h2]; rfl
theorem stM_s {M : List (List Int)} {i j : Nat} {l : List Int} {a v : Int} (h1 : M[i]? = some l) (h2 : l[j]? = some a) {k : List (List Int) → Prg P β} : (stM M i j v k).run = (k (M.set i (l.set j v))).run := by
  show bd (((M[i]?).bind fun l => (l[j]?).map fun a => (l, a, M.set i (l.set j v)))) _ = _
  rw [h1, Option.bind_some, h2]; rfl
theorem cpM_s {M : List (List Int)} {r : Ref} {l l2 : List Int} (h1 : M[r.i]? = some l) (h2 : r.off + r.len ≤ l.length) {k : List (List Int) → Prg P β} : (cpM M r l2 k).run = (k (M.set r.i (splice l r.off (l2.take (min l2.length r.len))))).run := by
  show bd (((M[r.i]?).bind fun l => if r.off + r.len ≤ l.length then some (l, M.set r.i (splice l r.off (l2.take (min l2.length r.len)))) else none)) _ = _
  rw [h1, Option.bind_some, if_pos h2]; rfl

/-- An own slice, told as a new member. -/
def bsM (d : Nat) (M : List (List Int)) (l : List Int) (k : Prg P β) : Prg P β :=
  .opS d (some ()) (fun n _ => .mi 3 n (LM M) ((M ++ [l]).map (List.map Cel.enc)) (.nm n)) (fun _ => [M.map (List.map Cel.enc) ++ [l.map Cel.enc] = (M ++ [l]).map (List.map Cel.enc)]) (fun _ _ => ⟨by simp, trivial⟩) (fun _ => k)

/-! Maps whose elements are members. -/
abbrev MR [Fm] (m : List (Int × Ref)) : AObj := .mp false false true (m.map mKey) (m.map mRow)
abbrev avR [Fm] (r : Ref) : AV := .pv (.fh Fm.f r.i r.off r.len 1)
def lookR [Fm] (m : List (Int × Ref)) (x : Int) (k : Ref → Prg P β) : Prg P β :=
  .op (mapGet m x) (fun _ r => .mget (avR r) (some (Cel.enc r))) (fun r => [intKeys .i64 (m.map mKey), mfind (m.map mKey) (m.map mRow) (.int .i64 x) = some (Cel.enc r)])
    (fun r h => by rw [mfind_map, h]; exact ⟨intKeys_map m, rfl, trivial⟩) k
def lookA [Fm] (m : List (Int × Ref)) (x : Int) (k : Prg P β) : Prg P β :=
  .op (chk (mapGet m x = none)) (fun _ _ => .mget .undef none) (fun _ => [intKeys .i64 (m.map mKey), mfind (m.map mKey) (m.map mRow) (.int .i64 x) = none])
    (fun _ h => by rw [mfind_map, chk_some h]; exact ⟨intKeys_map m, rfl, trivial⟩) (fun _ => k)
/-- The entry of a round. -/
def entM [Fm] (mi : Nat) (m : List (Int × Ref)) (i : Nat) (k : Int → Ref → Prg P β) : Prg P β :=
  .op m[i]? (fun _ y => .ent mi i (mKey y) (mRow y)) (fun y => [(m.map mKey)[i]? = some (mKey y), (m.map mRow)[i]? = some (mRow y)])
    (fun y h => by rw [List.getElem?_map, List.getElem?_map, h]; exact ⟨rfl, rfl, trivial⟩) (fun y => k y.1 y.2)
/-! Maps whose elements are slices that may be nil. -/
abbrev optPV : Option (List Int) → PV
  | none => .nilsl
  | some l => .sl (l.map Cel.enc)
instance : Cel (Option (List Int)) := ⟨fun o => [optPV o], 1, fun _ => rfl⟩
def lookJ (m : List (Int × Option (List Int))) (x : Int) : Option (List Int) := (mapGet m x).join
theorem lookJ_row (m : List (Int × Option (List Int))) (x : Int) : (mfind (m.map mKey) (m.map mRow) (.int .i64 x)).getD [.nilsl] = Cel.enc (lookJ m x) := by
  rw [mfind_map]; unfold lookJ
  cases mapGet m x with
  | none => rfl
  | some o => rfl
/-- An element, and whether there is one. -/
def lookK (m : List (Int × Option (List Int))) (x : Int) (k : Option (List Int) → Bool → Prg P β) : Prg P β :=
  .op (some (lookJ m x, (mapGet m x).isSome)) (fun _ y => .mrowK (Cel.enc y.1) y.2) (fun y => [intKeys .i64 (m.map mKey), (mfind (m.map mKey) (m.map mRow) (.int .i64 x)).getD [.nilsl] = Cel.enc y.1, (mfind (m.map mKey) (m.map mRow) (.int .i64 x)).isSome = y.2])
    (fun y h => by cases h; exact ⟨intKeys_map m, lookJ_row m x, by rw [mfind_map]; cases mapGet m x <;> rfl, trivial⟩) (fun y => k y.1 y.2)
def lookL (m : List (Int × Option (List Int))) (x : Int) (k : List Int → Prg P β) : Prg P β :=
  .op (lookJ m x) (fun _ l => .mrowK [.sl (l.map Cel.enc)] true) (fun l => [intKeys .i64 (m.map mKey), (mfind (m.map mKey) (m.map mRow) (.int .i64 x)).getD [.nilsl] = [.sl (l.map Cel.enc)], (mfind (m.map mKey) (m.map mRow) (.int .i64 x)).isSome = true])
    (fun l h => by
      refine ⟨intKeys_map m, by rw [lookJ_row, h]; rfl, ?_, trivial⟩
      rw [mfind_map]; unfold lookJ at h
      cases hm : mapGet m x with
      | none => rw [hm] at h; cases h
      | some o => rfl) k
def lookNo (m : List (Int × Option (List Int))) (x : Int) (k : Prg P β) : Prg P β :=
  .op (chk ((lookJ m x).isSome = false)) (fun _ _ => .mrowK [.nilsl] (mapGet m x).isSome) (fun _ => [intKeys .i64 (m.map mKey), (mfind (m.map mKey) (m.map mRow) (.int .i64 x)).getD [.nilsl] = [.nilsl], (mfind (m.map mKey) (m.map mRow) (.int .i64 x)).isSome = (mapGet m x).isSome])
    (fun _ h => by
      have h := chk_some h
      refine ⟨intKeys_map m, ?_, by rw [mfind_map]; cases mapGet m x <;> rfl, trivial⟩
      rw [lookJ_row]
      cases hj : lookJ m x with
      | none => rfl
      | some l => rw [hj] at h; cases h) (fun _ => k)
def msetO (m : List (Int × Option (List Int))) (x : Int) (v : Option (List Int)) (k : List (Int × Option (List Int)) → Prg P β) : Prg P β :=
  .op (some (mapSet m x v)) (fun _ m' => .msetK (m'.map mKey) (m'.map mRow)) (fun m' => [intKeys .i64 (m.map mKey), mput (m.map mKey) (m.map mRow) (.int .i64 x) (Cel.enc v) = (m'.map mKey, m'.map mRow)])
    (fun y h => by cases h; exact ⟨intKeys_map m, mput_map m x v, trivial⟩) k

/-- Rounds over a map. -/
def mloop0 {S : Type} (nn : Nat) (s0 : S) (bd : List Nat → Nat → S → Prg P (Nx S (Ex Empty Empty Empty))) (enc : S → List Nat → Enc) (kd : S → Prg P β) : Prg P β := .mloop nn s0 bd enc kd noX nofun noX nofun noX nofun

/-- What a map's elements lead to. -/
def told1 (M : List (List Int)) (p : Int × Ref) : Option (Int × List Int) := (M[p.2.i]?).bind fun l => if p.2.off + p.2.len ≤ l.length then some (p.1, (l.drop p.2.off).take p.2.len) else none
def toldM (M : List (List Int)) (m : List (Int × Ref)) : Option (List (Int × List Int)) := m.mapM (told1 M)
theorem mapM_get {α β : Type} {f : α → Option β} : ∀ {l : List α} {r : List β}, l.mapM f = some r → r.length = l.length ∧ ∀ (i : Nat) (x : α) (y : β), l[i]? = some x → r[i]? = some y → f x = some y
  | [], r, h => by rw [List.mapM_nil] at h; cases h; simp
  | a :: l, r, h => by
    rw [List.mapM_cons] at h
    simp only [bind, Option.bind_eq_some_iff, pure, Option.some.injEq] at h
    obtain ⟨b, h1, c, h2, rfl⟩ := h
    obtain ⟨g1, g2⟩ := mapM_get h2
    refine ⟨by simp [g1], fun i x y hx hy => ?_⟩
    cases i with
    | zero => simp at hx hy; subst hx; subst hy; exact h1
    | succ i => exact g2 i x y (by simpa using hx) (by simpa using hy)
theorem told1_eq {M : List (List Int)} {p : Int × Ref} {z : Int × List Int} (h : told1 M p = some z) : ∃ l, M[p.2.i]? = some l ∧ p.2.off + p.2.len ≤ l.length ∧ z = (p.1, (l.drop p.2.off).take p.2.len) := by
  unfold told1 at h
  rw [Option.bind_eq_some_iff] at h
  obtain ⟨l, h1, h2⟩ := h
  split at h2
  · cases h2; exact ⟨l, h1, by assumption, rfl⟩
  · cases h2
theorem toldM_tell [Fm] {M : List (List Int)} {m : List (Int × Ref)} {y : List (Int × List Int)} (h : toldM M m = some y) : TellO Fm.f 1 (M.map (List.map Cel.enc)) (MR m) (.mp false false true (y.map mKey) (y.map mRow)) := by
  obtain ⟨g1, g2⟩ := mapM_get h
  refine .mp false false true _ _ _ _ ?_ ⟨by simp [g1], fun i r r' h1 h2 => ?_, fun i r r' j p p' h1 h2 h3 h4 => ?_⟩
  · apply List.ext_getElem?
    intro i
    rw [List.getElem?_map, List.getElem?_map]
    cases hm : m[i]? with
    | none =>
      have : m.length ≤ i := by simpa using hm
      have : y[i]? = none := List.getElem?_eq_none (by omega)
      rw [this]; rfl
    | some x =>
      have hlt := (List.getElem?_eq_some_iff.1 hm).1
      have hy : y[i]? = some (y[i]'(by omega)) := by simp
      rw [hy]
      obtain ⟨l, _, _, e⟩ := told1_eq (g2 i _ _ hm hy)
      rw [e]; rfl
  · rw [List.getElem?_map, Option.map_eq_some_iff] at h1 h2
    obtain ⟨x, _, rfl⟩ := h1
    obtain ⟨z, _, rfl⟩ := h2
    rfl
  · rw [List.getElem?_map, Option.map_eq_some_iff] at h1 h2
    obtain ⟨x, hx, rfl⟩ := h1
    obtain ⟨z, hz, rfl⟩ := h2
    obtain ⟨l, k1, k2, rfl⟩ := told1_eq (g2 i x z hx hz)
    match j with
    | 0 =>
      simp only [mRow, Cel.enc, List.getElem?_cons_zero, Option.some.injEq] at h3 h4
      subst h3; subst h4
      have := Tell.fh (f := Fm.f) (sz := 1) (mem := M.map (List.map Cel.enc)) x.2.i x.2.off x.2.len (l.map Cel.enc) (mem_ok k1) (by rw [List.length_map]; exact k2)
      rw [cut_map] at this
      exact this
    | j + 1 => simp [mRow, Cel.enc] at h3
/-- The end: the members are told as data. -/
def tellG [Fm] (m : Nat) (M : List (List Int)) (o : List (Int × Ref)) (k : List (Int × List Int) → Prg P β) : Prg P β :=
  .tell (toldM M o) m Fm.f 1 (M.map (List.map Cel.enc)) (MR o) (fun y => .mp false false true (y.map mKey) (y.map mRow)) (fun _ h => toldM_tell h) k

/-- A part of an own slice made zero. -/
def clrN {α : Type} [Cel α] (l : List α) (z : α) (off len : Nat) (k : List α → Prg P β) : Prg P β :=
  .op (some (l.take off ++ List.replicate (min len (l.length - off)) z ++ l.drop (off + len))) (fun _ l' => .sls (l'.map Cel.enc))
    (fun l' => [zeroRows (l.map Cel.enc) off len (Cel.enc z) = l'.map Cel.enc])
    (fun l' h => by
      cases h
      refine ⟨?_, trivial⟩
      unfold zeroRows
      simp [List.map_take, List.map_drop]) k
theorem r_clrN {α : Type} [Cel α] {l : List α} {z : α} {off len : Nat} {k : List α → Prg P β} : (clrN l z off len k).run = (k (l.take off ++ List.replicate (min len (l.length - off)) z ++ l.drop (off + len))).run := rfl
theorem r_cutLoO {α : Type} [Cel α] {l : List α} {a : Int} {k : List α → Prg P β} : (cutLoO l a k).run = bd (if 0 ≤ a ∧ a ≤ (l.length : Int) then some (l.drop a.toNat) else none) fun y => (k y).run := rfl
theorem r_bsM {d : Nat} {M : List (List Int)} {l : List Int} {k : Prg P β} : (bsM d M l k).run = k.run := rfl
theorem r_lookR [Fm] {m : List (Int × Ref)} {x : Int} {k : Ref → Prg P β} : (lookR m x k).run = bd (mapGet m x) fun r => (k r).run := rfl
theorem r_lookA [Fm] {m : List (Int × Ref)} {x : Int} {k : Prg P β} : (lookA m x k).run = bd (chk (mapGet m x = none)) fun _ => k.run := rfl
theorem r_entM [Fm] {mi : Nat} {m : List (Int × Ref)} {i : Nat} {k : Int → Ref → Prg P β} : (entM mi m i k).run = bd m[i]? fun y => (k y.1 y.2).run := rfl
theorem r_tellG [Fm] {m : Nat} {M : List (List Int)} {o : List (Int × Ref)} {k : List (Int × List Int) → Prg P β} : (tellG m M o k).run = bd (toldM M o) fun y => (k y).run := rfl
theorem r_lookK {m : List (Int × Option (List Int))} {x : Int} {k : Option (List Int) → Bool → Prg P β} : (lookK m x k).run = (k (lookJ m x) (mapGet m x).isSome).run := rfl
theorem r_lookL {m : List (Int × Option (List Int))} {x : Int} {k : List Int → Prg P β} : (lookL m x k).run = bd (lookJ m x) fun l => (k l).run := rfl
theorem r_lookNo {m : List (Int × Option (List Int))} {x : Int} {k : Prg P β} : (lookNo m x k).run = bd (chk ((lookJ m x).isSome = false)) fun _ => k.run := rfl
theorem r_msetO {m : List (Int × Option (List Int))} {x : Int} {v : Option (List Int)} {k : List (Int × Option (List Int)) → Prg P β} : (msetO m x v k).run = (k (mapSet m x v)).run := rfl
theorem r_ask {c : Bool} {t f : Prg P β} : (Prg.ask c t f).run = br c t.run f.run := rfl
theorem r_mloop0 {S : Type} {nn : Nat} {s0 : S} {b : List Nat → Nat → S → Prg P (Nx S (Ex Empty Empty Empty))} {enc : S → List Nat → Enc} {kd : S → Prg P β} :
    (mloop0 nn s0 b enc kd).run = Fx.bd (mapL (fun i s => runAll fun seen => (b seen i s).run) nn s0) fun e => nx3 e (fun s => (kd s).run) nofun := by
  show Fx.bd _ (fun e => nx3 e _ _) = Fx.bd _ _
  congr 1
  funext e
  cases e with
  | cont s => rfl
  | done e => cases e <;> rename_i x <;> cases x
end
end Go.Fx
