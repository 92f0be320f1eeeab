/- Words that the generated functions are made of, and what the proofs about them need. -/
import Derived.Test.YtpkjgdngkhnhpaaFwM
import Derived.Test.YtpkjgdngkhnhpaaFwR
namespace Go.Fw
abbrev eInt : Int → List PV := fun n => [.int .i64 n]
abbrev eBool : Bool → List PV := fun b => [.bool b]
abbrev eSl {α : Type} (f : α → List PV) : List α → List PV := fun l => [.sl (l.map f)]
structure Ref where
 i : Nat
 off : Nat
 len : Nat
 deriving DecidableEq
abbrev eRef (f sz : Nat) : Ref → List PV := fun r => [.fh f r.i r.off r.len sz]
def optPV {α : Type} (f : α → List PV) (o : Option (List α)) : PV := match o with
 | none => .nilsl
 | some l => .sl (l.map f)
abbrev eOpt {α : Type} (f : α → List PV) : Option (List α) → List PV := fun o => [optPV f o]
abbrev mKey {α : Type} : Int × α → PV := fun p => .int .i64 p.1
abbrev mRow {α : Type} (f : α → List PV) : Int × α → List PV := fun p => f p.2
def mapGet {α : Type} : List (Int × α) → Int → Option α
 | [], _ => none
 | (k, v) :: r, x => if k = x then some v else mapGet r x
def mapSet {α : Type} : List (Int × α) → Int → α → List (Int × α)
 | [], x, v => [(x, v)]
 | (k, u) :: r, x, v => if k = x then (k, v) :: r else (k, u) :: mapSet r x v
def resRef {α : Type} (mem : List (List α)) (r : Ref) : Option (List α) := match mem[r.i]? with
 | some l => if r.off + r.len ≤ l.length then some ((l.drop r.off).take r.len) else none
 | none => none
def mapO {α β : Type} (f : α → Option β) : List α → Option (List β)
 | [] => some []
 | x :: r => match f x, mapO f r with
  | some y, some l => some (y :: l)
  | _, _ => none
def fuel : Nat := 18446744073709551616
def br {α : Type} (b : Bool) (t f : Option α) : Option α := match b with
 | true => t
 | false => f
def gd {α : Type} (p : Prop) [Decidable p] (t : Option α) : Option α := if p then t else none
def bd {α β : Type} (o : Option α) (k : α → Option β) : Option β := match o with
 | some a => k a
 | none => none
def oc {α β : Type} (o : Option α) (z : Option β) (k : α → Option β) : Option β := match o with
 | some a => k a
 | none => z
def getR {α β : Type} (l : List α) (i : Int) (k : α → Option β) : Option β := if 0 ≤ i then bd l[i.toNat]? k else none
section
variable {α β : Type} {G : Prop}
theorem br_ok {b : Bool} {t f : Option α} {x : α} (h : br b t f = some x) (ht : b = true → t = some x → G) (hf : b = false → f = some x → G) : G := by
 cases b with
 | true => exact ht rfl h
 | false => exact hf rfl h
theorem gd_ok {p : Prop} [Decidable p] {t : Option α} {x : α} (h : gd p t = some x) (k : p → t = some x → G) : G := by
 unfold gd at h
 split at h
 ·rename_i hp; exact k hp h
 ·cases h
theorem bd_ok {o : Option α} {f : α → Option β} {x : β} (h : bd o f = some x) (k : ∀ a, o = some a → f a = some x → G) : G := by
 cases o with
 | some a => exact k a rfl h
 | none => cases h
theorem oc_ok {o : Option α} {z : Option β} {f : α → Option β} {x : β} (h : oc o z f = some x) (k0 : o = none → z = some x → G) (k : ∀ a, o = some a → f a = some x → G) : G := by
 cases o with
 | some a => exact k a rfl h
 | none => exact k0 rfl h
theorem getR_ok {l : List α} {i : Int} {f : α → Option β} {x : β} (h : getR l i f = some x) (k : ∀ a, 0 ≤ i → l[i.toNat]? = some a → f a = some x → G) : G := by
 unfold getR at h
 split at h
 ·rename_i hi; exact bd_ok h fun a h1 h2 => k a hi h1 h2
 ·cases h
end
theorem ikOb {α : Type} {l : List (Int × α)} : intKeys .i64 (l.map mKey) := by
 intro p hp; obtain ⟨x, _, rfl⟩ := List.mem_map.1 hp; exact ⟨_, rfl⟩
theorem mfindOb {α : Type} {f : α → List PV} {x : Int} : ∀ {l : List (Int × α)} {a : α}, mapGet l x = some a → mfind (l.map mKey) (l.map (mRow f)) (.int .i64 x) = some (f a)
 | [], _, h => by cases h
 | (k, v) :: r, a, h => by
  unfold mapGet at h
  by_cases e : k = x
  ·rw [if_pos e] at h; cases h; simp [mfind, keyEq, e]
  ·rw [if_neg e] at h
   simp only [List.map_cons, mfind, keyEq, e, decide_false]
   exact mfindOb h
theorem mfindOb0 {α : Type} {f : α → List PV} {x : Int} : ∀ {l : List (Int × α)}, mapGet l x = none → mfind (l.map mKey) (l.map (mRow f)) (.int .i64 x) = none
 | [], _ => rfl
 | (k, v) :: r, h => by
  unfold mapGet at h
  by_cases e : k = x
  ·rw [if_pos e] at h; cases h
  ·rw [if_neg e] at h
   simp only [List.map_cons, mfind, keyEq, e, decide_false]
   exact mfindOb0 h
theorem mputOb {α : Type} {f : α → List PV} {x : Int} {v : α} : ∀ {l : List (Int × α)}, mput (l.map mKey) (l.map (mRow f)) (.int .i64 x) (f v) = ((mapSet l x v).map mKey, (mapSet l x v).map (mRow f))
 | [] => rfl
 | (k, u) :: r => by
  unfold mapSet
  by_cases e : k = x
  ·rw [if_pos e]; simp [mput, keyEq, e]
  ·rw [if_neg e]
   have := mputOb (f := f) (x := x) (v := v) (l := r)
   simp only [List.map_cons, mput, keyEq, e, decide_false, this]
theorem neOb {α : Type} {f : α → List PV} {l : List α} (h : l.isEmpty = false) : l.map f ≠ [] := by
 cases l <;> simp at h ⊢
theorem lenLt {α : Type} {f : α → List PV} {l : List α} {i : Int} (h : i < ((l.length : Nat) : Int)) : i < (((l.map f).length : Nat) : Int) := by rw [List.length_map]; exact h
theorem lenLe {α : Type} {f : α → List PV} {l : List α} {i : Int} (h : i ≤ ((l.length : Nat) : Int)) : i ≤ (((l.map f).length : Nat) : Int) := by rw [List.length_map]; exact h
theorem memLen {α : Type} {f : α → List PV} {m : List (List α)} : (m.map (List.map f)).length = m.length := List.length_map _
theorem memApp {α : Type} {f : α → List PV} {m : List (List α)} {l : List α} {rows : List (List PV)} (h : rows = l.map f) : m.map (List.map f) ++ [rows] = (m ++ [l]).map (List.map f) := by rw [h, List.map_append]; rfl
theorem memGet {α : Type} {f : α → List PV} {m : List (List α)} {i : Nat} {l : List α} (h : m[i]? = some l) : (m.map (List.map f))[i]? = some (l.map f) := by rw [List.getElem?_map, h]; rfl
theorem memSet {α : Type} {f : α → List PV} {m : List (List α)} {i ri : Nat} {l : List α} {y : α} {row : List PV} (h : row = f y) : (m.map (List.map f)).set i ((l.map f).set ri row) = (m.set i (l.set ri y)).map (List.map f) := by
 rw [h, ← List.map_set, ← List.map_set]
theorem mapO_get {α β : Type} {f : α → Option β} : ∀ {l : List α} {l' : List β}, mapO f l = some l' → l.length = l'.length ∧ ∀ (i : Nat) (x : α) (y : β), l[i]? = some x → l'[i]? = some y → f x = some y
 | [], l', h => by simp [mapO] at h; subst h; simp
 | x :: r, l', h => by
  unfold mapO at h
  split at h
  ·rename_i y ys h1 h2
   cases h
   obtain ⟨g1, g2⟩ := mapO_get h2
   refine ⟨by simp [g1], ?_⟩
   intro i a b e1 e2
   cases i with
   | zero => simp at e1 e2; subst e1; subst e2; exact h1
   | succ i => simp at e1 e2; exact g2 i a b e1 e2
  ·cases h
theorem tellOb {α β γ : Type} {f : α → List PV} {g : β → List PV} {e : γ → List PV} {F sz : Nat} {m : List (List γ)} {res : α → Option β} {l : List α} {l' : List β} (h : mapO res l = some l')
  (hc : ∀ x y, res x = some y → (f x).length = (g y).length ∧ ∀ (j : Nat) (p p' : PV), (f x)[j]? = some p → (g y)[j]? = some p' → Tell F sz (m.map (List.map e)) p p') :
  TellR F sz (m.map (List.map e)) (l.map f) (l'.map g) := by
 obtain ⟨h1, h2⟩ := mapO_get h
 refine ⟨by simp [h1], ?_, ?_⟩
 ·intro i r r' e1 e2
  simp only [List.getElem?_map, Option.map_eq_some_iff] at e1 e2
  obtain ⟨x, e1, rfl⟩ := e1
  obtain ⟨y, e2, rfl⟩ := e2
  exact (hc x y (h2 i x y e1 e2)).1
 ·intro i r r' j p p' e1 e2
  simp only [List.getElem?_map, Option.map_eq_some_iff] at e1 e2
  obtain ⟨x, e1, rfl⟩ := e1
  obtain ⟨y, e2, rfl⟩ := e2
  exact (hc x y (h2 i x y e1 e2)).2 j p p'
theorem resOb {γ : Type} {e : γ → List PV} {F sz : Nat} {m : List (List γ)} {r : Ref} {l : List γ} (h : resRef m r = some l) : Tell F sz (m.map (List.map e)) (.fh F r.i r.off r.len sz) (.sl (l.map e)) := by
 unfold resRef at h
 split at h
 ·rename_i rows hm
  split at h
  ·rename_i hle
   cases h
   have := Tell.fh (f := F) (sz := sz) (mem := m.map (List.map e)) r.i r.off r.len (rows.map e) (memGet hm) (by simpa using hle)
   unfold cut1 at this
   rw [← List.map_drop, ← List.map_take] at this
   exact this
  ·cases h
 ·cases h
theorem resOb' {γ : Type} {e : γ → List PV} {F sz : Nat} {m : List (List γ)} {r : Ref} {l : List γ} (h : resRef m r = some l) : Tell F sz (m.map (List.map e)) (.fh F r.i r.off r.len sz) (optPV e (some l)) := resOb h
theorem keysOb {α β : Type} {res : Int × α → Option (Int × β)} : ∀ {l : List (Int × α)} {l' : List (Int × β)}, mapO res l = some l' → (∀ x y, res x = some y → x.1 = y.1) → l.map mKey = l'.map mKey
 | [], l', h, _ => by simp [mapO] at h; subst h; rfl
 | x :: r, l', h, hk => by
  unfold mapO at h
  split at h
  ·rename_i y ys h1 h2
   cases h
   simp only [List.map_cons, mKey, hk x y h1, keysOb h2 hk]
  ·cases h
theorem mfindOb_n {α : Type} {f : α → List PV} {x : Int} {l : List (Int × Option (List α))} {a : Option (List α)} (h : mapGet l x = some a) (h2 : a = none) : mfind (l.map mKey) (l.map (mRow (eOpt f))) (.int .i64 x) = some [.nilsl] := by
 rw [mfindOb h, h2]; rfl
theorem mfindOb_s {α : Type} {f : α → List PV} {x : Int} {l : List (Int × Option (List α))} {a : Option (List α)} {v : List α} (h : mapGet l x = some a) (h2 : a = some v) : mfind (l.map mKey) (l.map (mRow (eOpt f))) (.int .i64 x) = some [.sl (v.map f)] := by
 rw [mfindOb h, h2]; rfl
def _root_.Go.Fw.Nx.st {S : Type} : Nx S Empty → S
 | .cont s => s
theorem lastOb {i : Nat} {l : List Nat} : (l ++ [i]).getLast? = some i := by simp
theorem tellCons {F sz : Nat} {mem : List (List (List PV))} {p p' : PV} {r r' : List PV} (h : Tell F sz mem p p') (k : r.length = r'.length ∧ ∀ (j : Nat) (p p' : PV), r[j]? = some p → r'[j]? = some p' → Tell F sz mem p p') :
  (p :: r).length = (p' :: r').length ∧ ∀ (j : Nat) (q q' : PV), (p :: r)[j]? = some q → (p' :: r')[j]? = some q' → Tell F sz mem q q' := by
 refine ⟨by simp [k.1], ?_⟩
 intro j q q' e1 e2
 cases j with
 | zero => simp at e1 e2; subst e1; subst e2; exact h
 | succ j => simp at e1 e2; exact k.2 j q q' e1 e2
theorem tellNil {F sz : Nat} {mem : List (List (List PV))} : ([] : List PV).length = ([] : List PV).length ∧ ∀ (j : Nat) (q q' : PV), ([] : List PV)[j]? = some q → ([] : List PV)[j]? = some q' → Tell F sz mem q q' := ⟨rfl, by simp⟩
theorem rowOb {α : Type} {f : α → List PV} {l : List α} {i : Nat} {a : α} (h : l[i]? = some a) : (l.map f)[i]? = some (f a) := by rw [List.getElem?_map, h]; rfl
theorem lenOb {α : Type} {f : α → List PV} {l : List α} : AV.pv (.int .i64 ((l.map f).length : Nat)) = .pv (.int .i64 (l.length : Nat)) := by rw [List.length_map]
theorem bigOb {α : Type} {f : α → List PV} {l : List α} (h : l.length ≤ bigLen) : (l.map f).length ≤ bigLen := by rw [List.length_map]; exact h
theorem one_len {r' : List PV} {n : Nat} (h : r'.length = n) : ∀ r ∈ [r'], r.length = n := by
 intro r hr; cases hr with
 | head => exact h
 | tail _ hr => cases hr
theorem appOb {α : Type} {f : α → List PV} {l : List α} {rows : List (List PV)} {m : List α} (h : rows = m.map f) : (l.map f).drop 0 ++ rows = (l ++ m).map f := by rw [List.drop_zero, List.map_append, h]
section
variable {α : Type} {f : α → List PV} {l : List α} {a b : Nat}
theorem map_len {n : Nat} (h : ∀ x, (f x).length = n) : ∀ r ∈ l.map f, r.length = n := by
 intro r hr; obtain ⟨x, _, rfl⟩ := List.mem_map.1 hr; exact h x
theorem setOb {x : α} : (l.map f).set a (f x) = (l.set a x).map f := List.map_set.symm
theorem cut_len {n : Nat} (h : ∀ x, (f x).length = n) : ∀ r ∈ cut1 (l.map f) a b, r.length = n := by
 intro r hr
 have : r ∈ l.map f := List.mem_of_mem_drop (List.mem_of_mem_take hr)
 exact map_len h r this
theorem repOb {n : Nat} (f : α → List PV) (x : α) : List.replicate n (f x) = (List.replicate n x).map f := List.map_replicate.symm
theorem cut_lo : cut1 (l.map f) a ((l.map f).length - a) = (l.drop a).map f := by
 unfold cut1; rw [← List.map_drop, List.take_of_length_le (by simp)]
theorem cut_hi : cut1 (l.map f) 0 (b - 0) = (l.take b).map f := by
 unfold cut1; rw [Nat.sub_zero, List.drop_zero, List.map_take]
theorem cut_lohi : cut1 (l.map f) a (b - a) = ((l.drop a).take (b - a)).map f := by
 unfold cut1; rw [List.map_take, List.map_drop]
end
end Go.Fw
