/- How the abstract machine's values and objects lie in the model's memory, and what keeps them there. -/
import Derived.Test.YtpdjphpjejjkpaaFxB
import Derived.Laws.CopyRow
import Derived.Laws.Cells
import Derived.Laws.Tables
import Derived.WalkKit
namespace Go.Fx
inductive Cls where
 | frozen
 | own (n : Nat)
 | outer
structure Mm where
 κ : Nat → Cls
 β : Nat → Nat × Option (Nat × Nat)
 φ : List (Nat → Option (Nat × Nat)) := []
 F0 : Nat := 0
def Mm.fam (M : Mm) (f i : Nat) : Option (Nat × Nat) := match M.φ[f]? with
 | some g => g i
 | none => none
def _root_.Go.Value.aggOk (g : Bool) (v : Value) : Bool := match v with
 | .agg _ => g
 | .tuple _ => false
 | _ => !g
inductive PRel (M : Mm) (w : World) : Value → PV → Prop where
 | int (k : IntKind) (n : Int) : PRel M w (.int k n) (.int k n)
 | bool (b : Bool) : PRel M w (.bool b) (.bool b)
 | str (s : ByteArray) : PRel M w (.string s) (.str s)
 | nilsl : PRel M w (.slice none 0 0) .nilsl
 | nilmap : PRel M w (.map none) .nilmap
 | fn (f : Nat) : PRel M w (.func (.func f) #[] #[]) (.fn f)
 | ow (i : Nat) (a : Option Addr) (n c : Nat) : PRel M w (.slice a n c) (.ow i)
 | mp0 (g : Bool) : PRel M w (.map none) (.mp g [] [])
 | sl0 (a : Option Addr) (c : Nat) : PRel M w (.slice a 0 c) (.sl [])
 | sl (b off sz len c : Nat) (rows : List (List PV)) (x : Nat → Nat → Value) : rows.length = len → len ≤ c →
   (∀ (i : Nat) (r : List PV), rows[i]? = some r → r.length = sz) →
   (∀ (i : Nat) (r : List PV) (j : Nat) (p : PV), rows[i]? = some r → r[j]? = some p → M.κ b = .frozen ∧ w.cell? ⟨b, off + i * sz + j, none⟩ = some (x i j)) →
   (∀ (i : Nat) (r : List PV) (j : Nat) (p : PV), rows[i]? = some r → r[j]? = some p → PRel M w (x i j) p) →
   PRel M w (.slice (some ⟨b, off, none⟩) len c) (.sl rows)
 | fh0 (f i off sz : Nat) (a : Option Addr) (c : Nat) : PRel M w (.slice a 0 c) (.fh f i off 0 sz)
 | fh (f i off len sz b base c : Nat) : M.fam f i = some (b, base) → len ≤ c → PRel M w (.slice (some ⟨b, base + off * sz, none⟩) len c) (.fh f i off len sz)
 | mp (g : Bool) (ks : List PV) (rows : List (List PV)) (b : Nat) (es : Array MapEntry) (clock : Nat) : M.κ b = .frozen → w.heap[b]? = some (.map es clock) → es.size = ks.length → es.size = rows.length →
   (∀ (i : Nat) (e : MapEntry), es[i]? = some e → e.val.aggOk g = true) →
   (∀ (i : Nat) (e : MapEntry) (r : List PV), es[i]? = some e → rows[i]? = some r → e.val.cells.size = r.length) →
   (∀ (i : Nat) (e : MapEntry) (p : PV), es[i]? = some e → ks[i]? = some p → PRel M w e.key p) →
   (∀ (i : Nat) (e : MapEntry) (r : List PV) (j : Nat) (x : Value) (p : PV), es[i]? = some e → rows[i]? = some r → e.val.cells[j]? = some x → r[j]? = some p → PRel M w x p) →
   PRel M w (.map (some b)) (.mp g ks rows)
def SegOk (cs : List AV) : Prop := ∀ n sz rows, AV.ar n sz rows ∈ cs → rows.length = n ∧ ∀ r ∈ rows, r.length = sz
inductive VRel (M : Mm) (w : World) : Value → AV → Prop where
 | undef (v : Value) : VRel M w v .undef
 | pv (v : Value) (p : PV) : PRel M w v p → VRel M w v (.pv p)
 | agg (vs : Array Value) (cs : List AV) : vs.size = cs.length → (∀ v ∈ vs, v.oneCell' = true) →
   (∀ (i : Nat) (v : Value) (c : AV), vs[i]? = some v → cs[i]? = some c → VRel M w v c) → VRel M w (.agg vs) (.agg cs)
 | aggp (vs : Array Value) (ps : List PV) : vs.size = ps.length →
   (∀ (i : Nat) (v : Value) (p : PV), vs[i]? = some v → ps[i]? = some p → PRel M w v p) → VRel M w (.agg vs) (.aggp ps)
 | tup (vs : Array Value) (cs : List AV) : vs.size = cs.length →
   (∀ (i : Nat) (v : Value) (c : AV), vs[i]? = some v → cs[i]? = some c → VRel M w v c) → VRel M w (.tuple vs) (.tup cs)
 | fref (b off : Nat) (cells : List PV) (x : Nat → Value) :
   (∀ (j : Nat) (p : PV), cells[j]? = some p → M.κ b = .frozen ∧ w.cell? ⟨b, off + j, none⟩ = some (x j)) →
   (∀ (j : Nat) (p : PV), cells[j]? = some p → PRel M w (x j) p) → VRel M w (.pointer (some ⟨b, off, none⟩)) (.fref cells)
 | ref (n ri sz off b base : Nat) : (M.β n).2 = some (b, base) → VRel M w (.pointer (some ⟨b, base + ri * sz + off, none⟩)) (.ref n ri sz off)
 | hd0 (n off sz : Nat) (a : Option Addr) : VRel M w (.slice a 0 0) (.hd n off 0 sz)
 | hd (n off len sz b base cap : Nat) (c : Array Value) (T : TypeId) (fr : Nat × Nat) : (M.β n).2 = some (b, base) → len ≤ cap →
   w.heap[b]? = some (.cells c T fr) → base + (off + cap) * sz ≤ c.size →
   VRel M w (.slice (some ⟨b, base + off * sz, none⟩) len cap) (.hd n off len sz)
 | hw (v : Value) (n sz : Nat) : VRel M w v (.hd n 0 (M.β n).1 sz) → VRel M w v (.hw n sz)
 | hx (n len sz N b base cap : Nat) (c : Array Value) (T : TypeId) (fr : Nat × Nat) : (M.β n).2 = some (b, base) → len ≤ N → N ≤ cap →
   w.heap[b]? = some (.cells c T fr) → base + cap * sz ≤ c.size → VRel M w (.slice (some ⟨b, base, none⟩) len cap) (.hx n len sz N)
 | hv (v : Value) (n sz N : Nat) : VRel M w v (.hx n (M.β n).1 sz N) → VRel M w v (.hv n sz N)
 | mp (n b : Nat) : (M.β n).2 = some (b, 0) → VRel M w (.map (some b)) (.mp n)
 | fr (f i ri sz off b base : Nat) : M.fam f i = some (b, base) → VRel M w (.pointer (some ⟨b, base + ri * sz + off, none⟩)) (.fr f i ri sz off)
 | clo (f : Nat) (vs : Array Value) (caps : List AV) : vs.size = caps.length →
   (∀ (i : Nat) (v : Value) (c : AV), vs[i]? = some v → caps[i]? = some c → VRel M w v c) → VRel M w (.func (.func f) #[] vs) (.clo f caps)
 | gv (v : Value) (j : Nat) (t want : Bool) (a : AV) : (t = want → VRel M w v a) → (t ≠ want → v = undef) → VRel M w v (.gv j t want a)
 | ar (v : Value) (n sz : Nat) (rows : List (List PV)) : VRel M w v (.aggp rows.flatten) → rows.length = n → (∀ r ∈ rows, r.length = sz) → VRel M w v (.ar n sz rows)
 | sagg (v : Value) (cs : List AV) : VRel M w v (.agg (flatC cs)) → SegOk cs → VRel M w v (.sagg cs)
 | bnd (f : Nat) (v : Value) (r : AV) : VRel M w v r → VRel M w (.func (.func f) #[v] #[]) (.bnd f r)
 | cp (a : Option Addr) (n : Nat) (rows : List (List PV)) : rows.length = n → PRel M w (.slice a n n) (.sl rows) → VRel M w (.slice a n n) (.cp rows)
 | nilp : VRel M w (.pointer none) .nilp
 | nilf : VRel M w .nilFunc .nilf
 | yl (n l : Nat) : (M.β n).2 = some (l, 0) → VRel M w (.func (.yield l) #[] #[]) (.yl n)
theorem VRel.fnV {M : Mm} {w : World} {v : Value} {x : AV} (h : VRel M w v x) : VRel M w v (fnV x) := by
 unfold Fx.fnV
 split
 ·cases h with | clo f vs _ h1 h2 =>
  obtain rfl : vs = #[] := Array.eq_empty_of_size_eq_zero (by simpa using h1)
  exact .pv _ _ (.fn _)
 ·exact h
theorem VRel.clA {M : Mm} {w : World} {v : Value} {x : AV} (h : VRel M w v x) : VRel M w v (clA x) := by
 unfold Fx.clA
 split
 ·cases h with | pv _ _ h => cases h; exact .clo _ #[] [] rfl (fun i v c h => by simp at h)
 ·exact h
def slCls (fz : Bool) (n : Nat) : Cls := match fz with
 | true => .frozen
 | false => .own n
def lpJ (js : List Code) : Nat → Option Code
 | 0 => none
 | p + 1 => js[p]?
def lpRec (fn : Nat) (ps : List Nat) (asg bdy : Code) (ts : Array Value) (js : List Code) (p D : Nat) : Loop :=
 { state := match p with | 0 => .ready | _ + 1 => .done, pending := lpJ js p, fn, tmps := ts, params := ps.toArray, assign := asg, body := bdy, defers := D }
def OwnAt (M : Mm) (w : World) (n b : Nat) (x : Value) (rows : List (List PV)) : Prop :=
 (rows = [] ∧ x = .slice none 0 0) ∨ ∃ (b' base cap : Nat) (c : Array Value) (T : TypeId), rows ≠ [] ∧ x = .slice (some ⟨b', base, none⟩) rows.length cap ∧ rows.length ≤ cap ∧ M.κ b' = .own n ∧ b' ≠ b ∧
  w.heap[b']? = some (.cells c T (0, 0)) ∧ base + cap ≤ c.size ∧ (∀ r ∈ rows, r.length = 1) ∧
  ∀ (i : Nat) (r : List PV) (j : Nat) (p : PV) (v : Value), rows[i]? = some r → r[j]? = some p → c[base + i + j]? = some v → PRel M w v p
def TokAt (gs : List (Nat × Nat × Nat)) (k i : Nat) : Prop := ∃ off base n r, (off, base, n) ∈ gs ∧ r < n ∧ k = off + r ∧ i = base + r
inductive ORel (M : Mm) (w : World) (n : Nat) : AObj → Prop where
 | var (cells : List AV) (b : Nat) (c : Array Value) (T : TypeId) : (M.β n).2 = some (b, 0) → M.κ b = .own n →
   w.heap[b]? = some (.cells c T (0, 0)) → c.size = cells.length → (∀ v ∈ c, v.oneCell' = true) →
   (∀ (i : Nat) (x : Value) (v : AV), c[i]? = some x → cells[i]? = some v → VRel M w x v) → ORel M w n (.var cells)
 | varp (ps : List PV) (b : Nat) (c : Array Value) (T : TypeId) : (M.β n).2 = some (b, 0) → M.κ b = .own n →
   w.heap[b]? = some (.cells c T (0, 0)) → c.size = ps.length →
   (∀ (i : Nat) (x : Value) (p : PV), c[i]? = some x → ps[i]? = some p → PRel M w x p) → ORel M w n (.varp ps)
 | svar (cs : List AV) : ORel M w n (.var (flatC cs)) → SegOk cs → ORel M w n (.svar cs)
 | sl0 (fz : Bool) (sz : Nat) : 0 < sz → (M.β n).2 = none → (M.β n).1 = 0 → ORel M w n (.sl fz sz [])
 | sl (fz : Bool) (sz : Nat) (rows : List (List PV)) (b base : Nat) (c : Array Value) (T : TypeId) : 0 < sz → (M.β n).2 = some (b, base) →
   M.κ b = slCls fz n → w.heap[b]? = some (.cells c T (0, 0)) → base + rows.length * sz ≤ c.size → (∀ r ∈ rows, r.length = sz) →
   (∀ (i : Nat) (r : List PV) (j : Nat) (p : PV) (x : Value), rows[i]? = some r → r[j]? = some p → c[base + i * sz + j]? = some x → PRel M w x p) → (M.β n).1 = rows.length → ORel M w n (.sl fz sz rows)
 | mp (fz g rg : Bool) (ks : List PV) (rows : List (List PV)) (b : Nat) (es : Array MapEntry) (clock : Nat) : (M.β n).2 = some (b, 0) → M.κ b = slCls fz n → w.heap[b]? = some (.map es clock) →
   es.size = ks.length → es.size = rows.length →
   (∀ (i : Nat) (e : MapEntry), es[i]? = some e → e.val.aggOk g = true) →
   (∀ (i : Nat) (e : MapEntry) (r : List PV), es[i]? = some e → rows[i]? = some r → e.val.cells.size = r.length) →
   (∀ (i : Nat) (e : MapEntry) (p : PV), es[i]? = some e → ks[i]? = some p → PRel M w e.key p) →
   (∀ (i : Nat) (e : MapEntry) (r : List PV) (j : Nat) (x : Value) (p : PV), es[i]? = some e → rows[i]? = some r → e.val.cells[j]? = some x → r[j]? = some p → PRel M w x p) →
   (rg = true → clock = es.size ∧ ∀ (i : Nat) (e : MapEntry), es[i]? = some e → e.born = i) → ORel M w n (.mp fz g rg ks rows)
 | it (m nn : Nat) (seen : List Nat) (b bm : Nat) : (M.β n).2 = some (b, 0) → M.κ b = .own n → (M.β m).2 = some (bm, 0) → w.heap[b]? = some (.mapIter (some bm) nn seen.reverse.toArray nn) → ORel M w n (.it m nn seen)
 | fam (fz : Bool) (f sz : Nat) (mem : List (List (List PV))) (bk : Nat → Nat × Nat) : n < 16 → f % 16 = n → 0 < sz → M.F0 ≤ f → f < M.φ.length → (∀ i, mem.length ≤ i → M.fam f i = none) →
   (∀ i, i < mem.length → (M.fam f i = none ∧ mem[i]? = some []) ∨ (M.fam f i = some (bk i) ∧ M.κ (bk i).1 = slCls fz n)) →
   (∀ i j, i < mem.length → j < mem.length → M.fam f i = some (bk i) → M.fam f j = some (bk j) → (bk i).1 = (bk j).1 → i = j) →
   (∀ (i : Nat) (rows : List (List PV)), mem[i]? = some rows → M.fam f i = some (bk i) → ∃ (c : Array Value) (T : TypeId), w.heap[(bk i).1]? = some (.cells c T (0, 0)) ∧ (bk i).2 + rows.length * sz ≤ c.size ∧ (∀ r ∈ rows, r.length = sz) ∧
    ∀ (k : Nat) (r : List PV) (j : Nat) (p : PV) (x : Value), rows[k]? = some r → r[j]? = some p → c[(bk i).2 + k * sz + j]? = some x → PRel M w x p) → ORel M w n (.fam fz f sz mem)
 | varf (ps : List PV) (b : Nat) (c : Array Value) (T : TypeId) : (M.β n).2 = some (b, 0) → M.κ b = .frozen →
   w.heap[b]? = some (.cells c T (0, 0)) → c.size = ps.length → (∀ (i : Nat) (x : Value) (p : PV), c[i]? = some x → ps[i]? = some p → PRel M w x p) → ORel M w n (.varf ps)
 | lp (ps : List Nat) (asg bdy : Code) (nt : Nat) (ks : List Nat) (vs : List AV) (js : List Code) (p l : Nat) (ts : Array Value) (fn D : Nat) : (M.β n).2 = some (l, 0) → M.κ l = .own n →
   w.heap[l]? = some (.loop (lpRec fn ps asg bdy ts js p D)) → ts.size = nt → (∀ (i k : Nat) (v : AV), ks[i]? = some k → vs[i]? = some v → VRel M w (ts.getD k undef) v) → p ≤ js.length → ORel M w n (.lp ps asg bdy nt ks vs js p)
 | own (cs : List AV) (gs : List (Nat × Nat × Nat)) (mem : List (List (List PV))) (os : List (Nat × Nat)) (b : Nat) (c : Array Value) (T : TypeId) : ORel M w n (.svar cs) → (M.β n).2 = some (b, 0) → M.κ b = .own n → w.heap[b]? = some (.cells c T (0, 0)) →
   (∀ k k' i, TokAt gs k i → TokAt gs k' i → k = k') → (∀ k i i', TokAt gs k i → TokAt gs k i' → i = i') → (os.map Prod.fst).Nodup →
   (∀ k i x, TokAt gs k i → c[k]? = some x → (∀ m, (i, m) ∈ os → VRel M w x (.hw m 1)) ∧ (i ∉ os.map Prod.fst → ∀ rows, mem[i]? = some rows → OwnAt M w n b x rows)) →
   (∀ k k' i i' a a' l l' cp cp', k ≠ k' → TokAt gs k i → TokAt gs k' i' → i ∉ os.map Prod.fst → i' ∉ os.map Prod.fst → (∃ r, mem[i]? = some r ∧ r ≠ []) → (∃ r, mem[i']? = some r ∧ r ≠ []) →
    c[k]? = some (.slice (some a) l cp) → c[k']? = some (.slice (some a') l' cp') → a.block ≠ a'.block) → ORel M w n (.own cs gs mem os)
 | slo (rows : List (List PV)) (m : Nat) : ORel M w n (.sl false 1 rows) →
   (∀ (b base : Nat) (c : Array Value) (T : TypeId) (i : Nat) (x : Value), (M.β n).2 = some (b, base) → w.heap[b]? = some (.cells c T (0, 0)) → rows[i]? = some [.ow 0] → c[base + i]? = some x → VRel M w x (.hw m 1)) → ORel M w n (.slo rows m)
 | dead : ORel M w n .dead
structure Ext (M : Mm) (w : World) (M' : Mm) (w' : World) : Prop where
 os : w'.os = w.os
 tape : w'.tape = w.tape
 output : w'.output = w.output
 size : w.heap.size ≤ w'.heap.size
 keep : ∀ b, b < w.heap.size → (∀ n, M.κ b ≠ .own n) → w'.heap[b]? = w.heap[b]?
 fro : ∀ b, b < w.heap.size → M.κ b = .frozen → M'.κ b = .frozen
 out : ∀ b, b < w.heap.size → M.κ b = .outer → M'.κ b = .outer
 shp : ∀ (b : Nat) (c : Array Value) (T : TypeId) (fr : Nat × Nat), w.heap[b]? = some (.cells c T fr) → ∃ c' : Array Value, w'.heap[b]? = some (.cells c' T fr) ∧ c'.size = c.size
 fam : ∀ (f i : Nat) (b : Nat × Nat), M.fam f i = some b → M'.fam f i = some b
 low : ∀ f, f < M.F0 → f < M.φ.length → M'.φ[f]? = M.φ[f]?
 f0 : M'.F0 = M.F0
theorem Ext.refl (M : Mm) (w : World) : Ext M w M w :=
 ⟨rfl, rfl, rfl, Nat.le_refl _, fun _ _ _ => rfl, fun _ _ h => h, fun _ _ h => h, fun _ c _ _ h => ⟨c, h, rfl⟩, fun _ _ _ h => h, fun _ _ _ => rfl, rfl⟩
theorem Ext.trans {M M' M'' : Mm} {w w' w'' : World} (h : Ext M w M' w') (k : Ext M' w' M'' w'') : Ext M w M'' w'' where
 os := k.os.trans h.os
 tape := k.tape.trans h.tape
 output := k.output.trans h.output
 size := Nat.le_trans h.size k.size
 keep b hb hn := by
  have hb' := Nat.lt_of_lt_of_le hb h.size
  rw [← h.keep b hb hn]
  apply k.keep b hb'
  cases e : M.κ b with
  | frozen => rw [h.fro b hb e]; intro n; simp
  | outer => rw [h.out b hb e]; intro n; simp
  | own n => exact absurd e (hn n)
 fro b hb e := k.fro b (Nat.lt_of_lt_of_le hb h.size) (h.fro b hb e)
 out b hb e := k.out b (Nat.lt_of_lt_of_le hb h.size) (h.out b hb e)
 shp b c T fr e := by
  obtain ⟨c', e', s'⟩ := h.shp b c T fr e
  obtain ⟨c'', e'', s''⟩ := k.shp b c' T fr e'
  exact ⟨c'', e'', s''.trans s'⟩
 fam f i b e := k.fam f i b (h.fam f i b e)
 low f h1 h2 := by
  have := h.low f h1 h2
  rw [← this]
  refine k.low f (by rw [h.f0]; exact h1) ?_
  rw [List.getElem?_eq_getElem h2] at this
  exact (List.getElem?_eq_some_iff.1 this).1
 f0 := k.f0.trans h.f0
theorem cell_lt {w : World} {a : Addr} {v : Value} (h : w.cell? a = some v) : a.block < w.heap.size := by
 unfold World.cell? at h
 split at h
 ·rename_i hh; exact (Array.getElem?_eq_some_iff.1 hh).1
 ·cases h
theorem heap_lt {w : World} {b : Nat} {o : Obj} (h : w.heap[b]? = some o) : b < w.heap.size := (Array.getElem?_eq_some_iff.1 h).1
theorem cell_of_heap {w w' : World} {a : Addr} (h : w'.heap[a.block]? = w.heap[a.block]?) : w'.cell? a = w.cell? a := by
 unfold World.cell?; rw [h]
theorem cell_block {w : World} {b : Nat} {c : Array Value} {T : TypeId} {fr : Nat × Nat} (h : w.heap[b]? = some (.cells c T fr)) (o : Nat) :
  w.cell? ⟨b, o, none⟩ = c[o]? := by simp [World.cell?, h]
theorem Ext.frozenCell {M M' : Mm} {w w' : World} (h : Ext M w M' w') {b o : Nat} {v : Value} (hb : M.κ b = .frozen)
  (hc : w.cell? ⟨b, o, none⟩ = some v) : w'.cell? ⟨b, o, none⟩ = some v := by
 rw [cell_of_heap (w := w)]
 ·exact hc
 ·exact h.keep b (cell_lt hc) (by rw [hb]; intro n; simp)
theorem nmsL_mem {l : List AV} {c : AV} {n : Nat} (h : c ∈ l) (hn : n ∈ c.nms) : n ∈ nmsL l := by
 induction l with
 | nil => cases h
 | cons d ds ih =>
  simp only [nmsL, List.mem_append]
  cases h with
  | head => exact .inl hn
  | tail _ h => exact .inr (ih h)
theorem nmsL_iff {l : List AV} {n : Nat} : n ∈ nmsL l ↔ ∃ c ∈ l, n ∈ c.nms := by
 constructor
 ·intro h
  induction l with
  | nil => simp [nmsL] at h
  | cons d ds ih =>
   simp only [nmsL, List.mem_append] at h
   rcases h with h | h
   ·exact ⟨d, .head _, h⟩
   ·obtain ⟨c, h1, h2⟩ := ih h
    exact ⟨c, .tail _ h1, h2⟩
 ·rintro ⟨c, h1, h2⟩; exact nmsL_mem h1 h2
theorem nmsL_append {a b : List AV} {n : Nat} : n ∈ nmsL (a ++ b) ↔ n ∈ nmsL a ∨ n ∈ nmsL b := by
 induction a with
 | nil => simp [nmsL]
 | cons c cs ih => simp only [List.cons_append, nmsL, List.mem_append, ih, or_assoc]
theorem nmsL_pvs (ps : List PV) : nmsL (ps.map .pv) = [] := by
 induction ps with
 | nil => rfl
 | cons p ps ih => simp [nmsL, AV.nms, ih]
theorem flatC_cons {v : AV} {r : List AV} (h : isArV v = false) : flatC (v :: r) = v :: flatC r := by
 cases v <;> first | rfl | simp [isArV] at h
theorem flatC_nms {cs : List AV} {n : Nat} : n ∈ nmsL (flatC cs) ↔ n ∈ nmsL cs := by
 induction cs with
 | nil => rfl
 | cons v r ih =>
  cases hv : isArV v with
  | false => rw [flatC_cons hv]; simp only [nmsL, List.mem_append, ih]
  | true =>
   cases v <;> simp [isArV] at hv
   simp only [flatC, nmsL_append, nmsL_pvs, ih, nmsL, AV.nms, List.nil_append]
   simp
theorem PRel.oneCell {M : Mm} {w : World} {v : Value} {p : PV} (h : PRel M w v p) : v.oneCell' = true := by
 cases h <;> rfl
structure Lft (M : Mm) (w : World) (M' : Mm) (w' : World) : Prop where
 frz : ∀ b, b < w.heap.size → M.κ b = .frozen → M'.κ b = .frozen ∧ w'.heap[b]? = w.heap[b]?
 shp : ∀ (b : Nat) (c : Array Value) (T : TypeId) (fr : Nat × Nat), w.heap[b]? = some (.cells c T fr) → ∃ c' : Array Value, w'.heap[b]? = some (.cells c' T fr) ∧ c'.size = c.size
 fam : ∀ (f i : Nat) (b : Nat × Nat), M.fam f i = some b → M'.fam f i = some b
 f0 : M'.F0 = M.F0
theorem Ext.lft {M M' : Mm} {w w' : World} (h : Ext M w M' w') : Lft M w M' w' :=
 ⟨fun b hb hk => ⟨h.fro b hb hk, h.keep b hb (by rw [hk]; intro n; simp)⟩, h.shp, h.fam, h.f0⟩
theorem Lft.frozenCell {M M' : Mm} {w w' : World} (h : Lft M w M' w') {b off : Nat} {v : Value} (hb : M.κ b = .frozen) (hc : w.cell? ⟨b, off, none⟩ = some v) : w'.cell? ⟨b, off, none⟩ = some v := by
 have hlt := cell_lt hc
 have := (h.frz b hlt hb).2
 unfold World.cell? at hc ⊢
 rw [this]; exact hc
theorem PRel.lft {M M' : Mm} {w w' : World} (h : Lft M w M' w') {v : Value} {p : PV} (r : PRel M w v p) : PRel M' w' v p := by
 induction r with
 | fh f i off len sz b base c h1 h2 => exact .fh f i off len sz b base c (h.fam f i _ h1) h2
 | fh0 f i off sz a c => exact .fh0 f i off sz a c
 | mp g ks rows b es clock h1 h2 h3 h4 h5 h6 _ _ ih1 ih2 =>
  exact .mp g ks rows b es clock (h.frz b (heap_lt h2) h1).1 ((h.frz b (heap_lt h2) h1).2.trans h2) h3 h4 h5 h6 ih1 ih2
 | int k n => exact .int k n
 | bool b => exact .bool b
 | str s => exact .str s
 | nilsl => exact .nilsl
 | nilmap => exact .nilmap
 | fn f => exact .fn f
 | ow i a n c => exact .ow i a n c
 | mp0 g => exact .mp0 g
 | sl0 a c => exact .sl0 a c
 | sl b off sz len c rows x hl hlc hsz hc _ ih =>
  exact .sl b off sz len c rows x hl hlc hsz (fun i r j p h1 h2 =>
   let ⟨hb, hx⟩ := hc i r j p h1 h2
   ⟨(h.frz b (cell_lt hx) hb).1, h.frozenCell hb hx⟩) ih
theorem VRel.lft {M M' : Mm} {w w' : World} (h : Lft M w M' w') {v : Value} {a : AV} (r : VRel M w v a)
  (hb : ∀ n ∈ a.nms, M'.β n = M.β n) : VRel M' w' v a := by
 induction r with
 | undef v => exact .undef v
 | pv v p hp => exact .pv v p (hp.lft h)
 | agg vs cs hs h1 hc ih =>
  refine .agg vs cs hs h1 fun i v c e1 e2 => ih i v c e1 e2 fun n hn => hb n ?_
  simp only [AV.nms]
  exact nmsL_mem (List.mem_of_getElem? e2) hn
 | aggp vs ps hs hc => exact .aggp vs ps hs fun i v p e1 e2 => (hc i v p e1 e2).lft h
 | tup vs cs hs hc ih =>
  refine .tup vs cs hs fun i v c e1 e2 => ih i v c e1 e2 fun n hn => hb n ?_
  simp only [AV.nms]
  exact nmsL_mem (List.mem_of_getElem? e2) hn
 | fref b off cells x hc hp =>
  exact .fref b off cells x (fun j p e => let ⟨h1, h2⟩ := hc j p e; ⟨(h.frz b (cell_lt h2) h1).1, h.frozenCell h1 h2⟩) fun j p e => (hp j p e).lft h
 | ref n ri sz off b base e => exact .ref n ri sz off b base ((congrArg Prod.snd (hb n (by simp [AV.nms]))).trans e)
 | hd0 n off sz a => exact .hd0 n off sz a
 | hd n off len sz b base cap c T fr e hl hh hs =>
  obtain ⟨c', e', s'⟩ := h.shp b c T fr hh
  exact .hd n off len sz b base cap c' T fr ((congrArg Prod.snd (hb n (by simp [AV.nms]))).trans e) hl e' (by rw [s']; exact hs)
 | hw v n sz _ ih =>
  have := ih (fun m hm => hb m (by simpa [AV.nms] using hm))
  refine .hw v n sz ?_
  rw [hb n (by simp [AV.nms])]
  exact this
 | hx n len sz N b base cap c T fr e hl hn hh hs =>
  obtain ⟨c', e', s'⟩ := h.shp b c T fr hh
  exact .hx n len sz N b base cap c' T fr ((congrArg Prod.snd (hb n (by simp [AV.nms]))).trans e) hl hn e' (by rw [s']; exact hs)
 | hv v n sz N _ ih =>
  have := ih (fun m hm => hb m (by simpa [AV.nms] using hm))
  refine .hv v n sz N ?_
  rw [hb n (by simp [AV.nms])]
  exact this
 | mp n b e => exact .mp n b ((congrArg Prod.snd (hb n (by simp [AV.nms]))).trans e)
 | fr f i ri sz off b base e => exact .fr f i ri sz off b base (h.fam f i _ e)
 | clo f vs caps hs hc ih =>
  refine .clo f vs caps hs fun i v c e1 e2 => ih i v c e1 e2 fun n hn => hb n ?_
  simp only [AV.nms]
  exact nmsL_mem (List.mem_of_getElem? e2) hn
 | gv v j t want a _ h2 ih => exact .gv v j t want a (fun e => ih e (fun n hn => hb n (by simpa [AV.nms] using hn))) h2
 | ar v n sz rows _ h1 h2 ih => exact .ar v n sz rows (ih (by simp [AV.nms])) h1 h2
 | sagg v cs _ h ih => exact .sagg v cs (ih fun n hn => hb n (by simp only [AV.nms] at hn ⊢; exact flatC_nms.1 hn)) h
 | bnd f v r _ ih => exact .bnd f v r (ih fun n hn => hb n (by simpa [AV.nms] using hn))
 | cp a n rows e p => exact .cp a n rows e (p.lft h)
 | nilp => exact .nilp
 | nilf => exact .nilf
 | yl n l e => exact .yl n l ((congrArg Prod.snd (hb n (by simp [AV.nms]))).trans e)
theorem OwnAt.lft {M M' : Mm} {w w' : World} (h : Lft M w M' w') {n b : Nat} {x : Value} {rows : List (List PV)} (r : OwnAt M w n b x rows)
  (hk : ∀ b, b < w.heap.size → M.κ b = .own n → M'.κ b = .own n ∧ w'.heap[b]? = w.heap[b]?) : OwnAt M' w' n b x rows := by
 rcases r with r | ⟨b', base, cap, c, T, h1, h2, h3, h4, h5, h6, h7, h8, h9⟩
 ·exact .inl r
 ·obtain ⟨k1, k2⟩ := hk b' (heap_lt h6) h4
  exact .inr ⟨b', base, cap, c, T, h1, h2, h3, k1, h5, k2.trans h6, h7, h8, fun i r j p v e1 e2 e3 => (h9 i r j p v e1 e2 e3).lft h⟩
theorem OwnAt.wr {M : Mm} {w w' : World} {n b : Nat} {x : Value} {rows : List (List PV)} (r : OwnAt M w n b x rows) (h : Ext M w M w')
  (hk : ∀ b', M.κ b' = .own n → b' ≠ b → w'.heap[b']? = w.heap[b']?) : OwnAt M w' n b x rows := by
 rcases r with r | ⟨b', base, cap, c, T, h1, h2, h3, h4, h5, h6, h7, h8, h9⟩
 ·exact .inl r
 ·exact .inr ⟨b', base, cap, c, T, h1, h2, h3, h4, h5, (hk b' h4 h5).trans h6, h7, h8, fun i r j p v e1 e2 e3 => (h9 i r j p v e1 e2 e3).lft h.lft⟩
theorem ORel.lft {M M' : Mm} {w w' : World} (h : Lft M w M' w') {n : Nat} {o : AObj} (r : ORel M w n o)
  (hn : M'.β n = M.β n) (hb : ∀ m ∈ o.nms, M'.β m = M.β m)
  (hk : ∀ b, b < w.heap.size → (M.κ b = .own n ∨ M.κ b = .frozen) → M'.κ b = M.κ b ∧ w'.heap[b]? = w.heap[b]?)
  (hf : ∀ f fz sz mem, o = .fam fz f sz mem → M.F0 ≤ f → f < M.φ.length → M'.φ[f]? = M.φ[f]? := by intros; rfl) : ORel M' w' n o := by
 induction r with
 | svar cs _ h2 ih => exact .svar cs (ih (fun m hm => hb m (by simp only [AObj.nms] at hm ⊢; exact flatC_nms.1 hm)) (fun _ _ _ _ e => by cases e)) h2
 | var cells b c T e1 e2 e3 e4 e5 e6 =>
  obtain ⟨k1, k2⟩ := hk b (heap_lt e3) (.inl e2)
  refine .var cells b c T ((congrArg Prod.snd hn).trans e1) (k1.trans e2) (k2.trans e3) e4 e5 fun i x v h1 h2 => (e6 i x v h1 h2).lft h fun m hm => hb m ?_
  simp only [AObj.nms]
  exact nmsL_mem (List.mem_of_getElem? h2) hm
 | varp ps b c T e1 e2 e3 e4 e5 =>
  obtain ⟨k1, k2⟩ := hk b (heap_lt e3) (.inl e2)
  exact .varp ps b c T ((congrArg Prod.snd hn).trans e1) (k1.trans e2) (k2.trans e3) e4 fun i x p h1 h2 => (e5 i x p h1 h2).lft h
 | sl0 fz sz h0 e e0 => exact .sl0 fz sz h0 ((congrArg Prod.snd hn).trans e) ((congrArg Prod.fst hn).trans e0)
 | sl fz sz rows b base c T h0 e1 e2 e3 e4 e5 e6 e7 =>
  obtain ⟨k1, k2⟩ := hk b (heap_lt e3) (by cases fz; exact .inl e2; exact .inr e2)
  exact .sl fz sz rows b base c T h0 ((congrArg Prod.snd hn).trans e1) (k1.trans e2) (k2.trans e3) e4 e5 (fun i r j p x h1 h2 h3 => (e6 i r j p x h1 h2 h3).lft h) ((congrArg Prod.fst hn).trans e7)
 | mp fz g rg ks rows b es clock e1 e2 e3 e4 e5 e6 e7 e8 e9 e10 =>
  obtain ⟨k1, k2⟩ := hk b (heap_lt e3) (by cases fz; exact .inl e2; exact .inr e2)
  exact .mp fz g rg ks rows b es clock ((congrArg Prod.snd hn).trans e1) (k1.trans e2) (k2.trans e3) e4 e5 e6 e7 (fun i e p h1 h2 => (e8 i e p h1 h2).lft h) (fun i e r j x p h1 h2 h3 h4 => (e9 i e r j x p h1 h2 h3 h4).lft h) e10
 | it m nn seen b bm e1 e2 e3 e4 =>
  obtain ⟨k1, k2⟩ := hk b (heap_lt e4) (.inl e2)
  exact .it m nn seen b bm ((congrArg Prod.snd hn).trans e1) (k1.trans e2) ((congrArg Prod.snd (hb m (by simp [AObj.nms]))).trans e3) (k2.trans e4)
 | fam fz f sz mem bk hn16 hf16 h0 h1 h2 h3 h4 h5 h6 =>
  have hφ := hf f fz sz mem rfl h1 h2
  have hfam : ∀ i, M'.fam f i = M.fam f i := fun i => by unfold Mm.fam; rw [hφ]
  refine .fam fz f sz mem bk hn16 hf16 h0 (by rw [h.f0]; exact h1) ?_ (fun i hi => by rw [hfam]; exact h3 i hi) (fun i hi => ?_) (fun i j hi hj e1 e2 => h5 i j hi hj (by rw [← hfam]; exact e1) (by rw [← hfam]; exact e2)) (fun i rows hr hs => ?_)
  ·rw [List.getElem?_eq_getElem h2] at hφ; exact (List.getElem?_eq_some_iff.1 hφ).1
  ·rw [hfam]
   rcases h4 i hi with h4 | ⟨h41, h42⟩
   ·exact .inl h4
   ·obtain ⟨c, T, g1, _⟩ := h6 i mem[i] (List.getElem?_eq_getElem hi) h41
    exact .inr ⟨h41, (hk (bk i).1 (heap_lt g1) (by cases fz; exact .inl h42; exact .inr h42)).1.trans h42⟩
  ·rw [hfam] at hs
   have hi := (List.getElem?_eq_some_iff.1 hr).1
   obtain ⟨c, T, g1, g2, g3, g4⟩ := h6 i rows hr hs
   rcases h4 i hi with h4 | ⟨_, h42⟩
   ·rw [h4.1] at hs; cases hs
   ·exact ⟨c, T, (hk (bk i).1 (heap_lt g1) (by cases fz; exact .inl h42; exact .inr h42)).2.trans g1, g2, g3, fun k r j p x a1 a2 a3 => (g4 k r j p x a1 a2 a3).lft h⟩
 | varf ps b c T e1 e2 e3 e4 e5 =>
  obtain ⟨k1, k2⟩ := hk b (heap_lt e3) (.inr e2)
  exact .varf ps b c T ((congrArg Prod.snd hn).trans e1) (k1.trans e2) (k2.trans e3) e4 fun i x p h1 h2 => (e5 i x p h1 h2).lft h
 | lp ps asg bdy nt ks vs js p l ts fn D e1 e2 e3 e4 e5 e6 =>
  obtain ⟨k1, k2⟩ := hk l (heap_lt e3) (.inl e2)
  refine .lp ps asg bdy nt ks vs js p l ts fn D ((congrArg Prod.snd hn).trans e1) (k1.trans e2) (k2.trans e3) e4 (fun i k v h1 h2 => (e5 i k v h1 h2).lft h fun m hm => hb m ?_) e6
  simp only [AObj.nms]
  exact nmsL_mem (List.mem_of_getElem? h2) hm
 | own cs gs mem os b c T e0 e1 e2 e3 e4 e4' e5 e6 e7 ih =>
  obtain ⟨k1, k2⟩ := hk b (heap_lt e3) (.inl e2)
  refine .own cs gs mem os b c T (ih (fun m hm => hb m (by simp only [AObj.nms, List.mem_append] at hm ⊢; exact .inl hm)) (fun _ _ _ _ e => by cases e)) ((congrArg Prod.snd hn).trans e1) (k1.trans e2) (k2.trans e3) e4 e4' e5 (fun k i x t hx => ⟨fun m hm => ?_, fun hi rows hr => ?_⟩) e7
  ·refine ((e6 k i x t hx).1 m hm).lft h fun q hq => hb q ?_
   simp only [AV.nms, List.mem_singleton] at hq
   simp only [AObj.nms, List.mem_append, hq]
   exact .inr (List.mem_map.2 ⟨_, hm, rfl⟩)
  ·exact ((e6 k i x t hx).2 hi rows hr).lft h fun b hlt hb => ⟨((hk b hlt (.inl hb)).1).trans hb, (hk b hlt (.inl hb)).2⟩
 | slo rows m e0 e1 ih =>
  refine .slo rows m (ih (fun m hm => by simp [AObj.nms] at hm) (fun _ _ _ _ e => by cases e)) fun b base c T i x h1 h2 h3 h4 => ?_
  rw [hn] at h1
  have h2' : w.heap[b]? = some (.cells c T (0, 0)) := by
   cases e0 with
   | sl0 => simp at h3
   | sl _ _ _ b' base' c' T' _ f1 f2 f3 _ _ _ _ =>
    rw [h1] at f1; cases f1
    rw [← (hk b (heap_lt f3) (.inl f2)).2]; exact h2
  exact (e1 b base c T i x h1 h2' h3 h4).lft h fun q hq => hb q (by simp only [AV.nms, List.mem_singleton] at hq; simp [AObj.nms, hq])
 | dead => exact .dead
theorem PRel.mono {M M' : Mm} {w w' : World} (h : Ext M w M' w') {v : Value} {p : PV} (r : PRel M w v p) : PRel M' w' v p := r.lft h.lft
theorem VRel.mono {M M' : Mm} {w w' : World} (h : Ext M w M' w') {v : Value} {a : AV} (r : VRel M w v a)
  (hb : ∀ n ∈ a.nms, M'.β n = M.β n) : VRel M' w' v a := r.lft h.lft hb
theorem ORel.mono {M M' : Mm} {w w' : World} (h : Ext M w M' w') {n : Nat} {o : AObj} (r : ORel M w n o)
  (hn : M'.β n = M.β n) (hb : ∀ m ∈ o.nms, M'.β m = M.β m)
  (hk : ∀ b, b < w.heap.size → (M.κ b = .own n ∨ M.κ b = .frozen) → M'.κ b = M.κ b ∧ w'.heap[b]? = w.heap[b]?)
  (hf : ∀ f fz sz mem, o = .fam fz f sz mem → M.F0 ≤ f → f < M.φ.length → M'.φ[f]? = M.φ[f]? := by intros; rfl) : ORel M' w' n o := r.lft h.lft hn hb hk hf
theorem nbeq_ne {x y : Nat} (h : ¬ x = y) : Nat.beq x y = false := by
 cases e : Nat.beq x y
 ·rfl
 ·exact absurd (Nat.eq_of_beq_eq_true e) h
theorem nbeq_eq {x y : Nat} (h : Nat.beq x y = true) : x = y := Nat.eq_of_beq_eq_true h
theorem lk_up {α : Type} (l : List (Nat × α)) (x y : Nat) (v : α) : lk (up l x v) y = if x = y then some v else lk l y := by
 induction l with
 | nil =>
  simp only [up, lk]
  by_cases h : x = y
  ·subst h; simp
  ·have : Nat.beq x y = false := nbeq_ne h
   simp [this, h]
 | cons kv r ih =>
  obtain ⟨k, u⟩ := kv
  simp only [up]
  by_cases hk : k = x
  ·subst hk
   simp only [Nat.beq_refl, lk]
   by_cases h : k = y
   ·subst h; simp
   ·have : Nat.beq k y = false := nbeq_ne h
    simp [this, h]
  ·have h1 : Nat.beq k x = false := nbeq_ne hk
   simp only [h1, lk]
   by_cases h : k = y
   ·subst h
    simp
    intro e; exact absurd e.symm hk
   ·have : Nat.beq k y = false := nbeq_ne h
    simp [this, ih]
end Go.Fx
