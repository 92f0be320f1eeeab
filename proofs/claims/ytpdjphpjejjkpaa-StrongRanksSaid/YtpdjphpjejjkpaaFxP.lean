/- The words that the printed functions are made of. -/
import Derived.Test.YtpdjphpjejjkpaaFxM
import Derived.Test.YtpdjphpjejjkpaaFxRc
namespace Go.Fx
class Cel (α : Type) where
 enc : α → List PV
 sz : Nat
 len : ∀ a, (enc a).length = sz
class Val (α : Type) where
 av : α → AV
abbrev V {α : Type} [Val α] (a : α) : AV := Val.av a
instance : Cel Int := ⟨fun n => [.int .i64 n], 1, fun _ => rfl⟩
instance : Cel Bool := ⟨fun b => [.bool b], 1, fun _ => rfl⟩
instance : Cel ByteArray := ⟨fun s => [.str s], 1, fun _ => rfl⟩
instance {α : Type} [Cel α] : Cel (List α) := ⟨fun l => [.sl (l.map Cel.enc)], 1, fun _ => rfl⟩
instance : Val Int := ⟨fun n => .pv (.int .i64 n)⟩
instance : Val Bool := ⟨fun b => .pv (.bool b)⟩
instance : Val ByteArray := ⟨fun s => .pv (.str s)⟩
instance {α : Type} [Cel α] : Val (List α) := ⟨fun l => .pv (.sl (l.map Cel.enc))⟩
instance : Val Unit := ⟨fun _ => .tup []⟩
structure FnV where
 f : Nat
 deriving DecidableEq
instance : Cel FnV := ⟨fun v => [.fn v.f], 1, fun _ => rfl⟩
instance : Val FnV := ⟨fun v => .pv (.fn v.f)⟩
def U8 : Type := Int
def U32 : Type := Int
def U64 : Type := Int
abbrev U8.i (x : U8) : Int := x
abbrev U32.i (x : U32) : Int := x
abbrev U64.i (x : U64) : Int := x
instance : Cel U8 := ⟨fun n => [.int .u8 n], 1, fun _ => rfl⟩
instance : Cel U32 := ⟨fun n => [.int .u32 n], 1, fun _ => rfl⟩
instance : Cel U64 := ⟨fun n => [.int .u64 n], 1, fun _ => rfl⟩
class ICel (α : Type) [Cel α] where
 k : IntKind
 i : α → Int
 h : ∀ a : α, Cel.enc a = [.int k (i a)]
instance : ICel Int := ⟨.i64, fun n => n, fun _ => rfl⟩
instance : ICel U8 := ⟨.u8, U8.i, fun _ => rfl⟩
instance : ICel U32 := ⟨.u32, U32.i, fun _ => rfl⟩
instance : ICel U64 := ⟨.u64, U64.i, fun _ => rfl⟩
instance : Val U8 := ⟨fun n => .pv (.int .u8 n)⟩
instance : Val U32 := ⟨fun n => .pv (.int .u32 n)⟩
instance : Val U64 := ⟨fun n => .pv (.int .u64 n)⟩
abbrev L {α : Type} [Cel α] (l : List α) : Nat := (l.map Cel.enc).length
abbrev O {α : Type} [Cel α] (l : List α) : AObj := .sl false (Cel.sz α) (l.map Cel.enc)
abbrev Of {α : Type} [Cel α] (l : List α) : AObj := .sl true (Cel.sz α) (l.map Cel.enc)
abbrev H (α : Type) [Cel α] (n : Nat) : AV := .hw n (Cel.sz α)
abbrev B {α : Type} [Val α] (a : α) : AObj := mkVar (V a)
abbrev R (n : Nat) : AV := .ref n 0 0 0
abbrev Ar {α : Type} [Cel α] (n : Nat) (l : List α) : AV := .ar n (Cel.sz α) (l.map Cel.enc)
abbrev BA {α : Type} [Cel α] (n : Nat) (l : List α) : AObj := .svar [Ar n l]
structure Mp (α : Type) where
 l : List (Int × α)
abbrev mKey {α : Type} : Int × α → PV := fun p => .int .i64 p.1
abbrev mRow {α : Type} [Cel α] : Int × α → List PV := fun p => Cel.enc p.2
def mapGet {α : Type} : List (Int × α) → Int → Option α
 | [], _ => none
 | (k, v) :: r, x => if k = x then some v else mapGet r x
def mapSet {α : Type} : List (Int × α) → Int → α → List (Int × α)
 | [], x, v => [(x, v)]
 | (k, u) :: r, x, v => if k = x then (k, v) :: r else (k, u) :: mapSet r x v
def mapDel {α : Type} : List (Int × α) → Int → List (Int × α)
 | [], _ => []
 | (k, u) :: r, x => if k = x then r else (k, u) :: mapDel r x
abbrev MO {α : Type} [Cel α] (g : Bool) (m : List (Int × α)) : AObj := .mp false g false (m.map mKey) (m.map mRow)
abbrev MF {α : Type} [Cel α] (g : Bool) (m : List (Int × α)) : AObj := .mp true g false (m.map mKey) (m.map mRow)
theorem L_eq {α : Type} [Cel α] (l : List α) : L l = l.length := List.length_map _
section
variable {α β : Type}
def gi (l : List α) (i : Int) : Option α := if 0 ≤ i then l[i.toNat]? else none
abbrev brr {P : Program} {β : Type} (c : Bool) (t f : Prg P β) : Prg P β := .br c t f
def chk (p : Prop) [Decidable p] : Option Unit := if p then some () else none
theorem gi_some {l : List α} {i : Int} {a : α} (h : gi l i = some a) : 0 ≤ i ∧ l[i.toNat]? = some a := by
 unfold gi at h; split at h
 ·exact ⟨by assumption, h⟩
 ·cases h
theorem chk_some {p : Prop} [Decidable p] {u : Unit} (h : chk p = some u) : p := by
 unfold chk at h; split at h
 ·assumption
 ·cases h
variable {P : Program}
section
variable [Cel α]
theorem row_ok {l : List α} {i : Nat} {a : α} (h : l[i]? = some a) : (l.map Cel.enc)[i]? = some (Cel.enc a) := by rw [List.getElem?_map, h]; rfl
def getR (l : List α) (i : Int) (k : α → Prg P β) : Prg P β :=
 .op (gi l i) (fun _ a => .row (Cel.enc a)) (fun a => [0 ≤ i, (l.map Cel.enc)[i.toNat]? = some (Cel.enc a)]) (fun _ h => ⟨(gi_some h).1, row_ok (gi_some h).2, trivial⟩) k
def rd (l : List α) (i : Nat) (k : α → Prg P β) : Prg P β :=
 .op l[i]? (fun _ a => .row (Cel.enc a)) (fun a => [(l.map Cel.enc)[i]? = some (Cel.enc a)]) (fun _ h => ⟨row_ok h, trivial⟩) k
end
def sget (s : ByteArray) (i : Int) (k : Int → Prg P β) : Prg P β :=
 .op (if 0 ≤ i then strAt s i else none) (fun _ n => .val (.pv (.int .u8 n))) (fun n => [0 ≤ i, strAt s i = some n])
  (fun n h => by
   split at h
   ·rename_i hi; exact ⟨hi, h, trivial⟩
   ·cases h) k
def s2a {γ : Type} [Cel α] [Cel γ] (n : Nat) (of : List α → Option γ) (h : ∀ l a, of l = some a → n ≤ (l.map Cel.enc).length ∧ ((l.map Cel.enc).take n).flatten = Cel.enc a) (l : List α) (k : γ → Prg P β) : Prg P β :=
 .op (of l) (fun _ a => .row (Cel.enc a)) (fun a => [n ≤ (l.map Cel.enc).length, ((l.map Cel.enc).take n).flatten = Cel.enc a]) (fun a e => ⟨(h l a e).1, (h l a e).2, trivial⟩) k
def ck (i : Int) (n : Nat) (k : Prg P β) : Prg P β :=
 .op (chk (0 ≤ i ∧ i < (n : Int))) (fun _ _ => .no) (fun _ => [0 ≤ i, i < (n : Int)]) (fun _ h => ⟨(chk_some h).1, (chk_some h).2, trivial⟩) (fun _ => k)
def bLo (a : Int) (n : Nat) (k : Prg P β) : Prg P β := .op (chk (0 ≤ a ∧ a ≤ (n : Int))) (fun _ _ => .no) (fun _ => [0 ≤ a, a ≤ (n : Int)]) (fun _ h => ⟨(chk_some h).1, (chk_some h).2, trivial⟩) (fun _ => k)
def bHi (a : Int) (n : Nat) (k : Prg P β) : Prg P β := .op (chk (0 ≤ a ∧ a ≤ (n : Int))) (fun _ _ => .no) (fun _ => [0 ≤ a, a ≤ (n : Int)]) (fun _ h => ⟨(chk_some h).1, (chk_some h).2, trivial⟩) (fun _ => k)
def bLH (a b : Int) (n : Nat) (k : Prg P β) : Prg P β := .op (chk (0 ≤ a ∧ a ≤ b ∧ b ≤ (n : Int))) (fun _ _ => .no) (fun _ => [0 ≤ a, a ≤ b, b ≤ (n : Int)]) (fun _ h => ⟨(chk_some h).1, (chk_some h).2.1, (chk_some h).2.2, trivial⟩) (fun _ => k)
def nzD (b : Int) (k : Prg P β) : Prg P β := .op (chk (b ≠ 0)) (fun _ _ => .no) (fun _ => [b ≠ 0]) (fun _ h => ⟨chk_some h, trivial⟩) (fun _ => k)
def nnS (b : Int) (k : Prg P β) : Prg P β := .op (chk (0 ≤ b)) (fun _ _ => .no) (fun _ => [0 ≤ b]) (fun _ h => ⟨chk_some h, trivial⟩) (fun _ => k)
section
variable [Cel α]
theorem set_ok {l : List α} {i : Nat} {a : α} : (l.map Cel.enc).set i (Cel.enc a) = (l.set i a).map Cel.enc := List.map_set.symm
def st (l : List α) (i : Nat) (f : α → α) (k : List α → Prg P β) : Prg P β :=
 .op ((l[i]?).map fun a => (a, l.set i (f a))) (fun _ y => .rows (Cel.enc y.1) (Cel.enc (f y.1)) (y.2.map Cel.enc)) (fun y => [(l.map Cel.enc)[i]? = some (Cel.enc y.1), (l.map Cel.enc).set i (Cel.enc (f y.1)) = y.2.map Cel.enc])
  (fun y h => by
   simp only [Option.map_eq_some_iff] at h
   obtain ⟨a, h, rfl⟩ := h
   exact ⟨row_ok h, set_ok, trivial⟩) (fun y => k y.2)
theorem rows_ok (l : List α) : ∀ r ∈ l.map Cel.enc, r.length = Cel.sz α := by
 intro r hr; obtain ⟨x, _, rfl⟩ := List.mem_map.1 hr; exact Cel.len x
def ap (l l2 : List α) (k : List α → Prg P β) : Prg P β :=
 .op (if (l ++ l2).length ≤ bigLen then some (l ++ l2) else none) (fun n l' => .app n (l'.map Cel.enc))
  (fun l' => [l.map Cel.enc ++ l2.map Cel.enc = l'.map Cel.enc, (l'.map Cel.enc).length ≤ bigLen, ∀ r ∈ l2.map Cel.enc, r.length = Cel.sz α])
  (fun l' h => by
   split at h
   ·rename_i hb; cases h; exact ⟨List.map_append.symm, by rw [List.length_map]; exact hb, rows_ok l2, trivial⟩
   ·cases h) k
def apn (l2 : List α) (k : List α → Prg P β) : Prg P β :=
 .op (if l2.length ≤ bigLen then some l2 else none) (fun n l' => .app n (l'.map Cel.enc))
  (fun l' => [l2.map Cel.enc = l'.map Cel.enc, (l'.map Cel.enc).length ≤ bigLen, ∀ r ∈ l2.map Cel.enc, r.length = Cel.sz α])
  (fun l' h => by
   split at h
   ·rename_i hb; cases h; exact ⟨rfl, by rw [List.length_map]; exact hb, rows_ok l2, trivial⟩
   ·cases h) k
def apz (n : Int) (z : α) (k : List α → Prg P β) : Prg P β :=
 .op (if 0 ≤ n ∧ n ≤ (bigLen : Int) then some (List.replicate n.toNat z) else none) (fun m l => .app m (l.map Cel.enc))
  (fun l => [0 ≤ n, n ≤ (bigLen : Int), List.replicate n.toNat (Cel.enc z) = l.map Cel.enc])
  (fun l h => by
   split at h
   ·rename_i hb; cases h; exact ⟨hb.1, hb.2, List.map_replicate.symm, trivial⟩
   ·cases h) k
def mk (n c : Int) (z : α) (k : List α → Prg P β) : Prg P β :=
 .op (if 0 ≤ n ∧ n ≤ c ∧ c ≤ (bigLen : Int) then some (List.replicate n.toNat z) else none) (fun m l => .app m (l.map Cel.enc))
  (fun l => [0 ≤ n, n ≤ c, c ≤ (bigLen : Int), List.replicate n.toNat (Cel.enc z) = l.map Cel.enc])
  (fun l h => by
   split at h
   ·rename_i hb; cases h; exact ⟨hb.1, hb.2.1, hb.2.2, List.map_replicate.symm, trivial⟩
   ·cases h) k
theorem cut_map (l : List α) (a b : Nat) : cut1 (l.map Cel.enc) a b = ((l.drop a).take b).map Cel.enc := by
 unfold cut1; rw [List.map_take, List.map_drop]
def cutLo (l : List α) (a : Int) (k : List α → Prg P β) : Prg P β :=
 .op (if 0 ≤ a ∧ a ≤ (l.length : Int) then some (l.drop a.toNat) else none) (fun _ l' => .sls (l'.map Cel.enc))
  (fun l' => [0 ≤ a, a ≤ (L l : Int), cut1 (l.map Cel.enc) a.toNat (L l - a.toNat) = l'.map Cel.enc, ∀ r ∈ l'.map Cel.enc, r.length = Cel.sz α])
  (fun l' h => by
   split at h
   ·rename_i hb; cases h
    exact ⟨hb.1, by rw [L_eq]; exact hb.2, by rw [cut_map, L_eq, List.take_of_length_le (by simp)], rows_ok _, trivial⟩
   ·cases h) k
def cutHi (l : List α) (b : Int) (k : List α → Prg P β) : Prg P β :=
 .op (if 0 ≤ b ∧ b ≤ (l.length : Int) then some (l.take b.toNat) else none) (fun _ l' => .sls (l'.map Cel.enc))
  (fun l' => [0 ≤ b, b ≤ (L l : Int), cut1 (l.map Cel.enc) 0 (b.toNat - 0) = l'.map Cel.enc, ∀ r ∈ l'.map Cel.enc, r.length = Cel.sz α])
  (fun l' h => by
   split at h
   ·rename_i hb; cases h
    exact ⟨hb.1, by rw [L_eq]; exact hb.2, by rw [cut_map]; simp, rows_ok _, trivial⟩
   ·cases h) k
def cutLH (l : List α) (a b : Int) (k : List α → Prg P β) : Prg P β :=
 .op (if 0 ≤ a ∧ a ≤ b ∧ b ≤ (l.length : Int) then some ((l.drop a.toNat).take (b.toNat - a.toNat)) else none) (fun _ l' => .sls (l'.map Cel.enc))
  (fun l' => [0 ≤ a, a ≤ b, b ≤ (L l : Int), cut1 (l.map Cel.enc) a.toNat (b.toNat - a.toNat) = l'.map Cel.enc, ∀ r ∈ l'.map Cel.enc, r.length = Cel.sz α])
  (fun l' h => by
   split at h
   ·rename_i hb; cases h
    exact ⟨hb.1, hb.2.1, by rw [L_eq]; exact hb.2.2, by rw [cut_map], rows_ok _, trivial⟩
   ·cases h) k
def cutAll (l : List α) (k : List α → Prg P β) : Prg P β :=
 .op (some l) (fun _ l' => .sls (l'.map Cel.enc))
  (fun l' => [cut1 (l.map Cel.enc) 0 (L l - 0) = l'.map Cel.enc, ∀ r ∈ l'.map Cel.enc, r.length = Cel.sz α])
  (fun l' h => by
   cases h
   exact ⟨by rw [cut_map, L_eq]; simp, rows_ok _, trivial⟩) k
def cutLoO (l : List α) (a : Int) (k : List α → Prg P β) : Prg P β :=
 .op (if 0 ≤ a ∧ a ≤ (l.length : Int) then some (l.drop a.toNat) else none) (fun n l' => .app n (l'.map Cel.enc))
  (fun l' => [0 ≤ a, a ≤ (L l : Int), cut1 (l.map Cel.enc) a.toNat (L l - a.toNat) = l'.map Cel.enc])
  (fun l' h => by
   split at h
   ·rename_i hb; cases h
    exact ⟨hb.1, by rw [L_eq]; exact hb.2, by rw [cut_map, L_eq, List.take_of_length_le (by simp)], trivial⟩
   ·cases h) k
def cutHiO (l : List α) (b : Int) (k : List α → Prg P β) : Prg P β :=
 .op (if 0 ≤ b ∧ b ≤ (l.length : Int) then some (l.take b.toNat) else none) (fun n l' => .app n (l'.map Cel.enc))
  (fun l' => [0 ≤ b, b ≤ (L l : Int), cut1 (l.map Cel.enc) 0 (b.toNat - 0) = l'.map Cel.enc])
  (fun l' h => by
   split at h
   ·rename_i hb; cases h
    exact ⟨hb.1, by rw [L_eq]; exact hb.2, by rw [cut_map]; simp, trivial⟩
   ·cases h) k
def cutLHO (l : List α) (a b : Int) (k : List α → Prg P β) : Prg P β :=
 .op (if 0 ≤ a ∧ a ≤ b ∧ b ≤ (l.length : Int) then some ((l.drop a.toNat).take (b.toNat - a.toNat)) else none) (fun n l' => .app n (l'.map Cel.enc))
  (fun l' => [0 ≤ a, a ≤ b, b ≤ (L l : Int), cut1 (l.map Cel.enc) a.toNat (b.toNat - a.toNat) = l'.map Cel.enc])
  (fun l' h => by
   split at h
   ·rename_i hb; cases h
    exact ⟨hb.1, hb.2.1, by rw [L_eq]; exact hb.2.2, by rw [cut_map], trivial⟩
   ·cases h) k
def cut3 (l : List α) (b m : Int) (k : List α → Prg P β) : Prg P β :=
 .op (if 0 ≤ b ∧ b = m ∧ m ≤ (l.length : Int) then some (l.take b.toNat) else none) (fun _ l' => .sls (l'.map Cel.enc))
  (fun l' => [0 ≤ b, b = m, m ≤ (L l : Int), cut1 (l.map Cel.enc) 0 b.toNat = l'.map Cel.enc])
  (fun l' h => by
   split at h
   ·rename_i hb; cases h
    exact ⟨hb.1, hb.2.1, by rw [L_eq]; exact hb.2.2, by rw [cut_map]; simp, trivial⟩
   ·cases h) k
def apC (l l2 : List α) (k : List α → Prg P β) : Prg P β :=
 .op (if (l ++ l2).length ≤ bigLen then some (l ++ l2) else none) (fun _ l' => .sls (l'.map Cel.enc))
  (fun l' => [l.map Cel.enc ++ l2.map Cel.enc = l'.map Cel.enc, (l'.map Cel.enc).length ≤ bigLen, ∀ r ∈ l'.map Cel.enc, r.length = Cel.sz α])
  (fun l' h => by
   split at h
   ·rename_i hb; cases h; exact ⟨List.map_append.symm, by rw [List.length_map]; exact hb, rows_ok _, trivial⟩
   ·cases h) k
def apCo (l l2 : List α) (k : List α → Prg P β) : Prg P β :=
 .op (if (l = [] ∨ l2 ≠ []) ∧ (l ++ l2).length ≤ bigLen then some (l ++ l2) else none) (fun n l' => .app n (l'.map Cel.enc))
  (fun l' => [l.map Cel.enc = [] ∨ l2.map Cel.enc ≠ [], l.map Cel.enc ++ l2.map Cel.enc = l'.map Cel.enc, (l'.map Cel.enc).length ≤ bigLen, ∀ r ∈ l'.map Cel.enc, r.length = Cel.sz α])
  (fun l' h => by
   split at h
   ·rename_i hb; cases h; exact ⟨by have := hb.1; cases l <;> cases l2 <;> simp at this ⊢, List.map_append.symm, by rw [List.length_map]; exact hb.2, rows_ok _, trivial⟩
   ·cases h) k
def eqL {α : Type} [Cel α] (l1 l2 : List α) : Bool := eqPs (l1.map Cel.enc).flatten (l2.map Cel.enc).flatten
def eqW {α : Type} [Cel α] [ICel α] (l1 l2 : List α) (k : Prg P β) : Prg P β :=
 .op (some ()) (fun _ _ => .no) (fun _ => [IntRows (ICel.k α) (l1.map Cel.enc), IntRows (ICel.k α) (l2.map Cel.enc)])
  (fun _ _ => ⟨⟨l1.map ICel.i, by rw [List.map_map]; exact List.map_congr_left fun a _ => ICel.h a⟩, ⟨l2.map ICel.i, by rw [List.map_map]; exact List.map_congr_left fun a _ => ICel.h a⟩, trivial⟩) (fun _ => k)
theorem eqL_iff {α : Type} [Cel α] [ICel α] (inj : ∀ a b : α, ICel.i a = ICel.i b → a = b) : ∀ (l1 l2 : List α), eqL l1 l2 = decide (l1.map ICel.i = l2.map ICel.i)
 | [], [] => rfl
 | [], b :: s => by simp [eqL, ICel.h, eqPs]
 | a :: r, [] => by simp [eqL, ICel.h, eqPs]
 | a :: r, b :: s => by
  have ih := eqL_iff inj r s
  unfold eqL at ih ⊢
  simp only [List.map_cons, List.flatten_cons, ICel.h, List.cons_append, List.nil_append, eqPs, ih]
  by_cases h : ICel.i a = ICel.i b <;> simp [h]
theorem keyEq_int (a b : Int) : keyEq (.int .i64 a) (.int .i64 b) = decide (a = b) := rfl
omit [Cel α] in
theorem intKeys_map (m : List (Int × α)) : intKeys .i64 (m.map mKey) := by
 intro p hp; obtain ⟨x, _, rfl⟩ := List.mem_map.1 hp; exact ⟨x.1, rfl⟩
theorem mfind_map (m : List (Int × α)) (x : Int) : mfind (m.map mKey) (m.map mRow) (.int .i64 x) = (mapGet m x).map Cel.enc := by
 induction m with
 | nil => rfl
 | cons p r ih =>
  simp only [List.map_cons, mfind, mapGet, mKey, mRow, keyEq_int]
  by_cases h : p.1 = x
  ·simp [h]
  ·simp only [h, decide_false, if_false]; exact ih
theorem mput_map (m : List (Int × α)) (x : Int) (v : α) : mput (m.map mKey) (m.map mRow) (.int .i64 x) (Cel.enc v) = ((mapSet m x v).map mKey, (mapSet m x v).map mRow) := by
 induction m with
 | nil => rfl
 | cons p r ih =>
  simp only [List.map_cons, mput, mapSet, mKey, mRow, keyEq_int] at ih ⊢
  by_cases h : p.1 = x
  ·simp [h]
  ·simp only [h, decide_false, if_false, List.map_cons, ih]
theorem mdel_map (m : List (Int × α)) (x : Int) : mdel (m.map mKey) (m.map mRow) (.int .i64 x) = ((mapDel m x).map mKey, (mapDel m x).map mRow) := by
 induction m with
 | nil => rfl
 | cons p r ih =>
  simp only [List.map_cons, mdel, mapDel, mKey, mRow, keyEq_int] at ih ⊢
  by_cases h : p.1 = x
  ·simp [h]
  ·simp only [h, decide_false, if_false, List.map_cons, ih]
def look (m : List (Int × α)) (x : Int) (z : α) (k : α → Bool → Prg P β) : Prg P β :=
 .op (some ((mapGet m x).getD z, (mapGet m x).isSome)) (fun _ y => .mrow (Cel.enc y.1) y.2)
  (fun y => [intKeys .i64 (m.map mKey), (mfind (m.map mKey) (m.map mRow) (.int .i64 x)).getD (Cel.enc z) = Cel.enc y.1, (mfind (m.map mKey) (m.map mRow) (.int .i64 x)).isSome = y.2])
  (fun y h => by
   cases h
   rw [mfind_map]
   refine ⟨intKeys_map m, ?_, ?_, trivial⟩ <;> cases mapGet m x <;> rfl) (fun y => k y.1 y.2)
def lookF (m : List (Int × FnV)) (x : Int) (f : Nat) (k : Prg P β) : Prg P β :=
 .op (chk (mapGet m x = some ⟨f⟩)) (fun _ _ => .mget (.pv (.fn f)) (some [.fn f]))
  (fun _ => [intKeys .i64 (m.map mKey), mfind (m.map mKey) (m.map mRow) (.int .i64 x) = some [.fn f]])
  (fun y h => by
   have := chk_some h
   rw [mfind_map, this]
   exact ⟨intKeys_map m, rfl, trivial⟩) (fun _ => k)
def mset (m : List (Int × α)) (x : Int) (v : α) (k : List (Int × α) → Prg P β) : Prg P β :=
 .op (some (mapSet m x v)) (fun _ m' => .mset (m'.map mKey) (m'.map mRow))
  (fun m' => [intKeys .i64 (m.map mKey), mput (m.map mKey) (m.map mRow) (.int .i64 x) (Cel.enc v) = (m'.map mKey, m'.map mRow)])
  (fun y h => by cases h; exact ⟨intKeys_map m, mput_map m x v, trivial⟩) k
def mdelW (m : List (Int × α)) (x : Int) (k : List (Int × α) → Prg P β) : Prg P β :=
 .op (some (mapDel m x)) (fun _ m' => .mset (m'.map mKey) (m'.map mRow))
  (fun m' => [intKeys .i64 (m.map mKey), mdel (m.map mKey) (m.map mRow) (.int .i64 x) = (m'.map mKey, m'.map mRow)])
  (fun y h => by cases h; exact ⟨intKeys_map m, mdel_map m x, trivial⟩) k
def ck3 (l h m : Int) (n : Nat) (k : Prg P β) : Prg P β := .op (chk (0 ≤ l ∧ l ≤ h ∧ h ≤ m ∧ m ≤ (n : Int))) (fun _ _ => .row []) (fun _ => [0 ≤ l, l ≤ h, h ≤ m, m ≤ (n : Int)])
 (fun _ h => by obtain ⟨h1, h2, h3, h4⟩ := chk_some h; exact ⟨h1, h2, h3, h4, trivial⟩) (fun _ => k)
def front (h : Int) (n : Nat) (k : Prg P β) : Prg P β := .op (chk (0 ≤ h ∧ h ≤ (n : Int) ∧ 0 < n)) (fun _ _ => .row []) (fun _ => [0 ≤ h, h ≤ (n : Int), 0 < n])
 (fun _ h => by obtain ⟨h1, h2, h3⟩ := chk_some h; exact ⟨h1, h2, h3, trivial⟩) (fun _ => k)
def bB (l h : Int) (n : Nat) (k : Prg P β) : Prg P β := .op (chk (0 ≤ l ∧ l ≤ h ∧ h ≤ (n : Int))) (fun _ _ => .row []) (fun _ => [0 ≤ l, l ≤ h, h ≤ (n : Int)])
 (fun _ h => by obtain ⟨h1, h2, h3⟩ := chk_some h; exact ⟨h1, h2, h3, trivial⟩) (fun _ => k)
def apI (l : List α) (i j : Int) (k : List α → Prg P β) : Prg P β :=
 .op (if 0 ≤ i ∧ i ≤ j ∧ j ≤ (l.length : Int) ∧ 0 < l.length then some (l.take i.toNat ++ l.drop j.toNat) else none) (fun n l' => .app n (l'.map Cel.enc))
  (fun l' => [0 + j.toNat + (L l - j.toNat) ≤ L l, 0 < L l, i.toNat + (cut1 (l.map Cel.enc) (0 + j.toNat) (L l - j.toNat)).length ≤ L l, i.toNat ≤ L l,
   (l.map Cel.enc).take i.toNat ++ cut1 (l.map Cel.enc) (0 + j.toNat) (L l - j.toNat) = l'.map Cel.enc, ∀ r ∈ cut1 (l.map Cel.enc) (0 + j.toNat) (L l - j.toNat), r.length = Cel.sz α])
  (fun l' h => by
   split at h
   ·rename_i hb
    cases h
    obtain ⟨h1, h2, h3, h4⟩ := hb
    have e : cut1 (l.map Cel.enc) (0 + j.toNat) (L l - j.toNat) = (l.drop j.toNat).map Cel.enc := by
     unfold cut1
     rw [Nat.zero_add, List.map_drop]
     exact List.take_of_length_le (by simp)
    have hl : L l = l.length := List.length_map ..
    rw [e, hl]
    refine ⟨by omega, h4, by simp; omega, by omega, by rw [List.map_append, List.map_take], rows_ok _, trivial⟩
   ·cases h) k
def clr (l : List α) (z : α) (lo hi : Int) (k : List α → Prg P β) : Prg P β :=
 .op (some (l.take lo.toNat ++ List.replicate (min (hi.toNat - lo.toNat) (l.length - lo.toNat)) z ++ l.drop (lo.toNat + (hi.toNat - lo.toNat)))) (fun _ l' => .sls (l'.map Cel.enc))
  (fun l' => [zeroRows (l.map Cel.enc) lo.toNat (hi.toNat - lo.toNat) (Cel.enc z) = l'.map Cel.enc])
  (fun l' h => by
   cases h
   refine ⟨?_, trivial⟩
   unfold zeroRows
   simp [List.map_take, List.map_drop]) k
def bothN {γ : Type} (l : List α) (f : Prg P (List γ)) : Prg P (List γ) := .both (l.map Cel.enc).isEmpty [] List.isEmpty (fun _ h => List.isEmpty_iff.1 h) f
def neN (l : List α) (k : Prg P β) : Prg P β :=
 .op (chk (l.isEmpty = false)) (fun _ _ => .no) (fun _ => [l.map Cel.enc ≠ []]) (fun _ h => ⟨by have := chk_some h; cases l <;> simp at this ⊢, trivial⟩) (fun _ => k)
end
noncomputable def cl {γ : Type} {g : Nat} {args : List AV} {ext : List AObj} {r : γ → AV} {outs : γ → List AObj} {p : Prg P γ} (h : ∀ {y}, p.run = some y → Spec P g args ext (r y) (outs y)) (k : γ → Prg P β) : Prg P β :=
 .call p.run g args ext r outs [] (fun _ e => .inl (h e)) k
noncomputable def clK (kp : List Nat) {γ : Type} {g : Nat} {args : List AV} {ext : List AObj} {r : γ → AV} {outs : γ → List AObj} {p : Prg P γ} (h : ∀ {y}, p.run = some y → Spec P g args ext (r y) (outs y)) (k : γ → Prg P β) : Prg P β :=
 .call p.run g args ext r outs kp (fun _ e => .inl (h e)) k
def cls {γ : Type} {g : Nat} {args : List AV} {ext : List AObj} {r : γ → AV} {outs : γ → List AObj} {c : Option γ} (h : ∀ {y}, c = some y → Spec P g args ext (r y) (outs y)) (k : γ → Prg P β) : Prg P β :=
 .call c g args ext r outs [] (fun _ e => .inl (h e)) k
noncomputable def rfW {γ : Type} (js : List Code) (ks : List Nat) {g : Nat} {args : List AV} {ext : List AObj} {r : γ → AV} {outs : γ → List AObj} {p : Prg P γ} (h : ∀ {y}, p.run = some y → Spec P g args ext (r y) (outs y)) (pe : γ → Nat) (k0 k1 : γ → Prg P β) : Prg P β :=
 .rf js ks p.run g args ext r outs pe (fun _ e => .inl (h e)) k0 k1
noncomputable def rf0 {γ : Type} (ks : List Nat) {g : Nat} {args : List AV} {ext : List AObj} {r : γ → AV} {outs : γ → List AObj} {p : Prg P γ} (h : ∀ {y}, p.run = some y → Spec P g args ext (r y) (outs y)) (k : γ → Prg P β) : Prg P β :=
 .rf [] ks p.run g args ext r outs (fun _ => 0) (fun _ e => .inl (h e)) k (fun _ => .no)
def clrN {α : Type} [Cel α] (l : List α) (z : α) (off len : Nat) (k : List α → Prg P β) : Prg P β :=
 .op (some (l.take off ++ List.replicate (min len (l.length - off)) z ++ l.drop (off + len))) (fun _ l' => .sls (l'.map Cel.enc))
  (fun l' => [zeroRows (l.map Cel.enc) off len (Cel.enc z) = l'.map Cel.enc])
  (fun l' h => by
   cases h
   refine ⟨?_, trivial⟩
   unfold zeroRows
   simp [List.map_take, List.map_drop]) k
noncomputable def clY {γ : Type} (hno : P.funcs[yId]? = none) {args : List AV} {ext : List AObj} {r : γ → AV} {outs : γ → List AObj} {p : Prg P γ} (h : ∀ {y}, p.run = some y → RSpec P args ext (r y) (outs y)) (k : γ → Prg P β) : Prg P β :=
 .call p.run yId args ext r outs [] (fun _ e => .inr ⟨hno, rfl, h e⟩) k
def rdy (m : Nat) (ps : List Nat) (asg bdy : Code) (nt : Nat) (ks : List Nat) (vs : List AV) (js : List Code) (p : Nat) (k : Prg P β) : Prg P β :=
 .eqo (Nat.beq p 0) m (.lp ps asg bdy nt ks vs js p) (.lp ps asg bdy nt ks vs js 0) (fun h => by rw [Nat.eq_of_beq_eq_true h]) k
/-! Variables with slices of their own: their cells, and how they are told otherwise. -/
abbrev nilR (n : Nat) : AV := .ar n 1 (List.replicate n [.nilsl])
abbrev ownR (n : Nat) : AV := .ar n 1 (List.replicate n [.ow 0])
abbrev mE (M : List (List Int)) : List (List (List PV)) := M.map (List.map Cel.enc)
theorem mE_get {M : List (List Int)} {i : Nat} {l : List Int} (h : M[i]? = some l) : (mE M)[i]? = some (l.map Cel.enc) := by rw [List.getElem?_map, h]; rfl
def bxN (d : Nat) (cs : List AV) (k : Prg P β) : Prg P β := .opS d (some ()) (fun n _ => .nmr n cs) (fun _ => []) (fun _ _ => trivial) (fun _ => k)
def born2 (f o1 n1 o2 : Nat) (k : Prg P β) : Prg P β := .gs (some ()) (fun _ => (gOwn f).seq ((gBorn f o1 0).seq (gBorn f o2 n1))) (fun _ => (gOwn_ok f).seq ((gBorn_ok f o1 0).seq (gBorn_ok f o2 n1))) (fun _ => []) (fun _ _ => trivial) (fun _ => k)
def nilW (f m sz : Nat) (k : Prg P β) : Prg P β := .gs (some ()) (fun _ => gNil f m sz) (fun _ => gNil_ok f m sz) (fun _ => []) (fun _ _ => trivial) (fun _ => k)
def mvW (f n m : Nat) (k : Prg P β) : Prg P β := .gs (some ()) (fun _ => gMv f n m) (fun _ => gMv_ok f n m) (fun _ => []) (fun _ _ => trivial) (fun _ => k)
def opnW (f m off base n ri : Nat) (os : List Nat) (M : List (List Int)) (k : List Int → Prg P β) : Prg P β :=
 .gs (if ri < n ∧ base + ri ∉ os then M[base + ri]? else none) (fun l => gOpen f m off ri (l.map Cel.enc)) (fun _ => gOpen_ok f m off ri _) (fun l => [ri < n, (mE M)[base + ri]? = some (l.map Cel.enc), base + ri ∉ os])
  (fun l h => by
   split at h
   ·rename_i hb; exact ⟨hb.1, mE_get h, hb.2, trivial⟩
   ·cases h) k
/-! An own slice of slices of whole numbers whose last row is an own slice: 'toks R b' its rows, with a mark for the last one (b: it is there). -/
abbrev toks (R : List (List Int)) (b : Bool) : List (List PV) := R.map Cel.enc ++ (match b with | true => [[.ow 0]] | false => [])
def allR (R : List (List Int)) (b : Bool) (l : List Int) : List (List Int) := R ++ (match b with | true => [l] | false => [])
theorem enc_ne (l : List Int) : Cel.enc l ≠ [.ow 0] := by intro h; cases h
theorem toks_len (R : List (List Int)) (b : Bool) : (toks R b).length = R.length + b.toNat := by cases b <;> simp [toks]
theorem toks_lt {R : List (List Int)} {b : Bool} {i : Nat} (h : i < R.length) : (toks R b)[i]? = some (Cel.enc R[i]) := by
 unfold toks
 rw [List.getElem?_append_left (by simpa using h)]
 simp [h]
theorem toks_last (R : List (List Int)) : (toks R true)[R.length]? = some [.ow 0] := by simp [toks]
theorem toks_uni {R : List (List Int)} {b : Bool} {i : Nat} (h : (toks R b)[i]? = some [.ow 0]) : i = R.length := by
 by_cases hi : i < R.length
 ·rw [toks_lt hi] at h; exact absurd (Option.some.inj h) (enc_ne _)
 ·have h1 := (List.getElem?_eq_some_iff.1 h).1
  rw [toks_len] at h1
  cases b <;> simp at h1 <;> omega
theorem toks_shut (R : List (List Int)) (b : Bool) (l : List Int) : ShutOk (toks R b) ((allR R b l).map Cel.enc) (l.map Cel.enc) := by
 refine ⟨by rw [toks_len]; cases b <;> simp [allR], fun i r h => ?_⟩
 cases b with
 | false =>
  left
  simpa [toks, allR] using h
 | true =>
  by_cases hi : i < R.length
  ·left
   rw [toks_lt hi]
   simp only [allR, List.map_append] at h
   rw [List.getElem?_append_left (by simpa using hi)] at h
   simpa [hi] using h
  ·right
   have h1 := (List.getElem?_eq_some_iff.1 h).1
   simp only [allR, List.length_map, List.length_append, List.length_singleton] at h1
   have : i = R.length := by omega
   subst this
   refine ⟨?_, toks_last R⟩
   simp [allR] at h
   rw [← h]; rfl
theorem toks_new (R : List (List Int)) : SloOk (R.map Cel.enc ++ [[.nilsl]]) (toks R true) := by
 refine ⟨by simp [toks], fun i r h => ?_⟩
 by_cases hi : i < R.length
 ·left
  rw [toks_lt hi] at h; cases h
  refine ⟨enc_ne _, ?_⟩
  rw [List.getElem?_append_left (by simpa using hi)]
  simp [hi]
 ·right
  have h1 := (List.getElem?_eq_some_iff.1 h).1
  rw [toks_len] at h1
  have : i = R.length := by simp at h1; omega
  subst this
  rw [toks_last] at h; cases h
  exact ⟨rfl, by simp⟩
def nilT (t m sz : Nat) (k : Prg P β) : Prg P β := .gs (some ()) (fun _ => gNilT t m sz) (fun _ => gNilT_ok t m sz) (fun _ => []) (fun _ _ => trivial) (fun _ => k)
def sloW (t m : Nat) (k : Prg P β) : Prg P β := .gs (some ()) (fun _ => gSloT t m []) (fun _ => gSloT_ok t m []) (fun _ => [SloOk [] []]) (fun _ _ => ⟨⟨rfl, fun _ _ h => by simp at h⟩, trivial⟩) (fun _ => k)
def lastW (t m : Nat) (R : List (List Int)) (k : Prg P β) : Prg P β := .gs (some ()) (fun _ => gSloT t m (toks R true)) (fun _ => gSloT_ok t m _) (fun _ => [SloOk (R.map Cel.enc ++ [[.nilsl]]) (toks R true)]) (fun _ _ => ⟨toks_new R, trivial⟩) (fun _ => k)
def shutW (t : Nat) (R : List (List Int)) (b : Bool) (l : List Int) (k : List (List Int) → Prg P β) : Prg P β :=
 .gs (some (allR R b l)) (fun y => gShutT t (y.map Cel.enc)) (fun _ => gShutT_ok t _) (fun y => [ShutOk (toks R b) (y.map Cel.enc) (l.map Cel.enc)]) (fun y h => by cases h; exact ⟨toks_shut R b l, trivial⟩) k
def nilA (d sz : Nat) (k : Prg P β) : Prg P β := .opS d (some ()) (fun n _ => .mk n sz) (fun _ => []) (fun _ _ => trivial) (fun _ => k)
def bsN (d : Nat) (k : Prg P β) : Prg P β := .opS d (some ()) (fun n _ => .nmr n []) (fun _ => []) (fun _ _ => trivial) (fun _ => k)
def apNil (R : List (List Int)) (k : Prg P β) : Prg P β :=
 .op (if R.length < bigLen then some () else none) (fun n _ => .app n (R.map Cel.enc ++ [[.nilsl]]))
  (fun _ => [R.map Cel.enc ++ [[.nilsl]] = R.map Cel.enc ++ [[PV.nilsl]], (R.map Cel.enc ++ [[PV.nilsl]]).length ≤ bigLen, ∀ r ∈ [[PV.nilsl]], r.length = 1])
  (fun _ h => by
   split at h
   ·rename_i hb; exact ⟨rfl, by simp; omega, by simp, trivial⟩
   ·cases h) (fun _ => k)
def ldL (R : List (List Int)) (b : Bool) (ri : Nat) (k : Prg P β) : Prg P β :=
 .op (chk (b = true ∧ ri = R.length)) (fun _ _ => .opn 0) (fun _ => [(toks R b)[ri]? = some [.ow 0]]) (fun _ h => ⟨by obtain ⟨rfl, rfl⟩ := chk_some h; exact toks_last R, trivial⟩) (fun _ => k)
def stL (R : List (List Int)) (b : Bool) (ri : Nat) (k : Prg P β) : Prg P β :=
 .op (chk (b = true ∧ ri = R.length)) (fun _ _ => .opn 0) (fun _ => [(toks R b)[ri]? = some [.ow 0], ∀ i : Nat, (toks R b)[i]? = some [.ow 0] → i = ri])
  (fun _ h => ⟨by obtain ⟨rfl, rfl⟩ := chk_some h; exact toks_last R, fun i hi => by obtain ⟨rfl, rfl⟩ := chk_some h; exact toks_uni hi, trivial⟩) (fun _ => k)
def ldW (base n ri i j : Nat) (k : Prg P β) : Prg P β := .op (chk (ri < n ∧ base + ri = i)) (fun _ _ => .opn j) (fun _ => [ri < n, base + ri = i]) (fun _ h => ⟨(chk_some h).1, (chk_some h).2, trivial⟩) (fun _ => k)
def stW (base n ri i j : Nat) (k : Prg P β) : Prg P β := .op (chk (ri < n ∧ base + ri = i)) (fun _ _ => .opn j) (fun _ => [ri < n, base + ri = i, (List.replicate n [PV.ow 0])[ri]? = some [.ow 0]])
 (fun _ h => ⟨(chk_some h).1, (chk_some h).2, by rw [List.getElem?_replicate, if_pos (chk_some h).1], trivial⟩) (fun _ => k)
def clsW (f i : Nat) (M : List (List Int)) (l : List Int) (k : List (List Int) → Prg P β) : Prg P β :=
 .gs (if l ≠ [] then some (M.set i l) else none) (fun M' => gClose f (mE M')) (fun _ => gClose_ok f _) (fun M' => [l.map Cel.enc ≠ [], (mE M).set i (l.map Cel.enc) = mE M'])
  (fun M' h => by
   split at h
   ·rename_i hb; cases h; exact ⟨by simpa using hb, List.map_set.symm, trivial⟩
   ·cases h) k
def frz2 (f n1 n2 : Nat) (M : List (List Int)) (k : List (List Int) → List (List Int) → Prg P β) : Prg P β :=
 .gs (if M.length = n1 + n2 then some (M.take n1, M.drop n1) else none) (fun y => ((gFrz f (y.2.map Cel.enc)).seq (gFrz f (y.1.map Cel.enc))).seq (gVar f)) (fun y => ((gFrz_ok f _).seq (gFrz_ok f _)).seq (gVar_ok f))
  (fun y => [Seg (mE M) n1 n2 (y.2.map Cel.enc), Seg (mE M) 0 n1 (y.1.map Cel.enc)])
  (fun y h => by
   split at h
   ·rename_i hb
    cases h
    have key : ∀ (base : Nat) (l : List (List Int)), (∀ r, r < l.length → M[base + r]? = l[r]?) → Seg (mE M) base l.length (l.map Cel.enc) := by
     intro base l hl
     refine ⟨by simp, fun r hr => ?_⟩
     have h2 : l[r]? = some l[r] := by simp [hr]
     exact ⟨l[r].map Cel.enc, mE_get ((hl r hr).trans h2), by rw [List.getElem?_map, h2]; rfl⟩
    have e1 : (M.take n1).length = n1 := by simp; omega
    have e2 : (M.drop n1).length = n2 := by simp; omega
    refine ⟨?_, ?_, trivial⟩
    ·have := key n1 (M.drop n1) (fun r _ => by rw [List.getElem?_drop])
     rw [e2] at this; exact this
    ·have := key 0 (M.take n1) (fun r hr => by rw [Nat.zero_add, List.getElem?_take_of_lt (by omega)])
     rw [e1] at this; exact this
   ·cases h) (fun y => k y.1 y.2)
def rfL : Code → List (Code × Code)
 | .seq a b => rfL a ++ rfL b
 | .cond _ a b => rfL a ++ rfL b
 | .block _ a => rfL a
 | .loop a => rfL a
 | .scope a => rfL a
 | .rangeFunc _ _ a b => [(a, b)]
 | _ => []
def rfA (f : Func) (i : Nat) : Code := match (rfL (body f))[i]? with
 | some x => x.1
 | none => .skip
def rfB (f : Func) (i : Nat) : Code := match (rfL (body f))[i]? with
 | some x => x.2
 | none => .skip
abbrev noX : Xt Empty := .inl
def loop1 {S A : Type} (s0 : S) (bd : S → Prg P (Nx S (Ex A Empty Empty))) (enc : S → Enc) (xa : Xt A) (ka : A → Prg P β) : Prg P β := .loop s0 bd enc xa ka noX nofun noX nofun
def loop2 {S A B : Type} (s0 : S) (bd : S → Prg P (Nx S (Ex A B Empty))) (enc : S → Enc) (xa : Xt A) (ka : A → Prg P β) (xb : Xt B) (kb : B → Prg P β) : Prg P β := .loop s0 bd enc xa ka xb kb noX nofun
def join1 {A : Type} (j : Jk) (q : Prg P (Ex A Empty Empty)) (xa : Xt A) (ka : A → Prg P β) : Prg P β := .join j q xa ka noX nofun noX nofun
def join2 {A B : Type} (j : Jk) (q : Prg P (Ex A B Empty)) (xa : Xt A) (ka : A → Prg P β) (xb : Xt B) (kb : B → Prg P β) : Prg P β := .join j q xa ka xb kb noX nofun
abbrev cont {S R : Type} (s : S) : Prg P (Nx S R) := .ret (.cont s)
abbrev doneA {S A B C : Type} (x : A) : Prg P (Nx S (Ex A B C)) := .ret (.done (.a x))
abbrev doneB {S A B C : Type} (x : B) : Prg P (Nx S (Ex A B C)) := .ret (.done (.b x))
abbrev doneC {S A B C : Type} (x : C) : Prg P (Nx S (Ex A B C)) := .ret (.done (.c x))
abbrev retA' {A B C : Type} (x : A) : Prg P (Ex A B C) := .ret (.a x)
abbrev retB' {A B C : Type} (x : B) : Prg P (Ex A B C) := .ret (.b x)
abbrev retC' {A B C : Type} (x : C) : Prg P (Ex A B C) := .ret (.c x)
end
abbrev at0 (i : Int) : Nat := 0 + i.toNat
end Go.Fx
