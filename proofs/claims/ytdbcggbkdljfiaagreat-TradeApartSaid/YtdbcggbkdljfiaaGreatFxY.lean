/- Words for families: slices of whole numbers that lie in the rows of an own slice. -/
import Derived.Test.YtdbcggbkdljfiaaGreatXA
namespace Go.Fx

/-- The family's number. -/
class Fm where
  f : Nat
/-- A header to a member. -/
structure Ref where
  i : Nat
  off : Nat
  len : Nat
instance [Fm] : Cel Ref := ⟨fun r => [.fh Fm.f r.i r.off r.len 1], 1, fun _ => rfl⟩
abbrev LM (M : List (List Int)) : Nat := (M.map (List.map Cel.enc)).length
abbrev FM [Fm] (M : List (List Int)) : AObj := .fam false Fm.f 1 (M.map (List.map Cel.enc))
theorem LM_eq (M : List (List Int)) : LM M = M.length := List.length_map _

section
variable {P : Program} {β : Type}

theorem mem_ok {M : List (List Int)} {i : Nat} {l : List Int} (h : M[i]? = some l) : (M.map (List.map Cel.enc))[i]? = some (l.map Cel.enc) := by rw [List.getElem?_map, h]; rfl

/-- Appended, as a new member. -/
def apM (M : List (List Int)) (l l2 : List Int) (k : List Int → Prg P β) : Prg P β :=
  .op (if (l ++ l2).length ≤ bigLen then some (l ++ l2) else none) (fun n l' => .mi 3 n (LM M) ((M ++ [l']).map (List.map Cel.enc)) (.app n (l'.map Cel.enc)))
    (fun l' => [l.map Cel.enc ++ l2.map Cel.enc = l'.map Cel.enc, (l'.map Cel.enc).length ≤ bigLen, ∀ r ∈ l2.map Cel.enc, r.length = Cel.sz Int, M.map (List.map Cel.enc) ++ [l'.map Cel.enc] = (M ++ [l']).map (List.map Cel.enc)])
    (fun l' h => by
      split at h
      · rename_i hb; cases h; exact ⟨List.map_append.symm, by rw [List.length_map]; exact hb, rows_ok l2, by simp, trivial⟩
      · cases h) k

/-- A number of a member. -/
def rdM (M : List (List Int)) (i j : Nat) (k : Int → Prg P β) : Prg P β :=
  .op ((M[i]?).bind fun l => (l[j]?).map fun a => (l, a)) (fun _ y => .frow 3 (y.1.map Cel.enc) (Cel.enc y.2)) (fun y => [(M.map (List.map Cel.enc))[i]? = some (y.1.map Cel.enc), (y.1.map Cel.enc)[j]? = some (Cel.enc y.2)])
    (fun y h => by
      rw [Option.bind_eq_some_iff] at h
      obtain ⟨l, h1, h2⟩ := h
      rw [Option.map_eq_some_iff] at h2
      obtain ⟨a, h2, rfl⟩ := h2
      exact ⟨mem_ok h1, row_ok h2, trivial⟩) (fun y => k y.2)

/-- A number of a member, turned. -/
def stM (M : List (List Int)) (i j : Nat) (v : Int) (k : List (List Int) → Prg P β) : Prg P β :=
  .op ((M[i]?).bind fun l => (l[j]?).map fun a => (l, a, M.set i (l.set j v))) (fun _ y => .frows 3 (y.1.map Cel.enc) (Cel.enc y.2.1) (y.2.2.map (List.map Cel.enc)))
    (fun y => [(M.map (List.map Cel.enc))[i]? = some (y.1.map Cel.enc), (y.1.map Cel.enc)[j]? = some (Cel.enc y.2.1), (M.map (List.map Cel.enc)).set i ((y.1.map Cel.enc).set j (splice (Cel.enc y.2.1) 0 [.int .i64 v])) = y.2.2.map (List.map Cel.enc)])
    (fun y h => by
      rw [Option.bind_eq_some_iff] at h
      obtain ⟨l, h1, h2⟩ := h
      rw [Option.map_eq_some_iff] at h2
      obtain ⟨a, h2, rfl⟩ := h2
      refine ⟨mem_ok h1, row_ok h2, ?_, trivial⟩
      rw [List.map_set, List.map_set]; rfl) (fun y => k y.2.2)

theorem splice_map' {l l2 : List Int} {off : Nat} : splice (l.map Cel.enc) off (l2.map (Cel.enc (α := Int))) = (splice l off l2).map Cel.enc := by
  unfold splice; rw [List.map_append, List.map_append, List.map_take, List.map_drop, List.length_map]

/-- Data copied into a member. -/
def cpM (M : List (List Int)) (r : Ref) (l2 : List Int) (k : List (List Int) → Prg P β) : Prg P β :=
  .op ((M[r.i]?).bind fun l => if r.off + r.len ≤ l.length then some (l, M.set r.i (splice l r.off (l2.take (min l2.length r.len)))) else none) (fun _ y => .frows 3 (y.1.map Cel.enc) [] (y.2.map (List.map Cel.enc)))
    (fun y => [(M.map (List.map Cel.enc))[r.i]? = some (y.1.map Cel.enc), r.off + r.len ≤ (y.1.map Cel.enc).length, ∀ q ∈ l2.map (Cel.enc (α := Int)), q.length = 1,
      (M.map (List.map Cel.enc)).set r.i (splice (y.1.map Cel.enc) r.off ((l2.map Cel.enc).take (min (l2.map (Cel.enc (α := Int))).length r.len))) = y.2.map (List.map Cel.enc)])
    (fun y h => by
      rw [Option.bind_eq_some_iff] at h
      obtain ⟨l, h1, h2⟩ := h
      split at h2
      · rename_i hb
        cases h2
        refine ⟨mem_ok h1, by rw [List.length_map]; exact hb, rows_ok l2, ?_, trivial⟩
        simp only
        rw [List.map_set, List.length_map, ← List.map_take, splice_map']
      · cases h2) (fun y => k y.2)

theorem r_apM {M : List (List Int)} {l l2 : List Int} {k : List Int → Prg P β} : (apM M l l2 k).run = bd (if (l ++ l2).length ≤ bigLen then some (l ++ l2) else none) fun y => (k y).run := rfl
theorem apM_s {M : List (List Int)} {l l2 : List Int} (h : (l ++ l2).length ≤ bigLen) {k : List Int → Prg P β} : (apM M l l2 k).run = (k (l ++ l2)).run := by rw [r_apM, if_pos h]; rfl
theorem r_rdM {M : List (List Int)} {i j : Nat} {k : Int → Prg P β} : (rdM M i j k).run = bd ((M[i]?).bind fun l => (l[j]?).map fun a => (l, a)) fun y => (k y.2).run := rfl
theorem r_stM {M : List (List Int)} {i j : Nat} {v : Int} {k : List (List Int) → Prg P β} : (stM M i j v k).run = bd ((M[i]?).bind fun l => (l[j]?).map fun a => (l, a, M.set i (l.set j v))) fun y => (k y.2.2).run := rfl
theorem r_cpM {M : List (List Int)} {r : Ref} {l2 : List Int} {k : List (List Int) → Prg P β} : (cpM M r l2 k).run = bd ((M[r.i]?).bind fun l => if r.off + r.len ≤ l.length then some (l, M.set r.i (splice l r.off (l2.take (min l2.length r.len)))) else none) fun y => (k y.2).run := rfl
theorem rdM_s {M : List (List Int)} {i j : Nat} {l : List Int} {a : Int} (h1 : M[i]? = some l) (h2 : l[j]? = some a) {k : Int → Prg P β} : (rdM M i j k).run = (k a).run := by
  show bd (((M[i]?).bind fun l => (l[j]?).map fun a => (l, a))) _ = _
  rw [h1, Option.bind_some, h2]; rfl
theorem stM_s {M : List (List Int)} {i j : Nat} {l : List Int} {a v : Int} (h1 : M[i]? = some l) (h2 : l[j]? = some a) {k : List (List Int) → Prg P β} : (stM M i j v k).run = (k (M.set i (l.set j v))).run := by
  show bd (((M[i]?).bind fun l => (l[j]?).map fun a => (l, a, M.set i (l.set j v)))) _ = _
  rw [h1, Option.bind_some, h2]; rfl
theorem cpM_s {M : List (List Int)} {r : Ref} {l l2 : List Int} (h1 : M[r.i]? = some l) (h2 : r.off + r.len ≤ l.length) {k : List (List Int) → Prg P β} : (cpM M r l2 k).run = (k (M.set r.i (splice l r.off (l2.take (min l2.length r.len))))).run := by
  show bd (((M[r.i]?).bind fun l => if r.off + r.len ≤ l.length then some (l, M.set r.i (splice l r.off (l2.take (min l2.length r.len)))) else none)) _ = _
  rw [h1, Option.bind_some, if_pos h2]; rfl
end
end Go.Fx
