/- The operations that look at objects, make them or write them: sound. -/
import Derived.Test.YtpdjphpjejjkpaaFxX
import Derived.Deep.AppendSrc
import Derived.Deep.Upon
import Derived.Great.BuildSlice
namespace Go.Fx
structure Post (M : Mm) (σ : St) (w : World) (out : Out) (M' : Mm) (v : Value) (w' : World) : Prop where
 ext : Ext M w M' w'
 val : VRel M' w' v out.v
 obj : ∀ (n : Nat) (o : AObj), lk (wrO σ.o out.wr) n = some o → ORel M' w' n o
 bet : ∀ n, (lk σ.o n).isSome → M'.β n = M.β n
 bev : ∀ n, n % 2 = 0 → M'.β n = M.β n
 vnm : ∀ n ∈ out.v.nms, (lk (wrO σ.o out.wr) n).isSome
 onm : ∀ (m : Nat) (o : AObj), lk (wrO σ.o out.wr) m = some o → ∀ n ∈ o.nms, (lk (wrO σ.o out.wr) n).isSome
section
variable {P : Program} {M : Mm} {w : World} {σ : St} {a : Act}
theorem Post.told {out out' : Out} {M' : Mm} {v : Value} {w' : World} (h : Post M σ w out M' v w') (hv : VRel M' w' v out.v → VRel M' w' v out'.v) (hn : ∀ n ∈ out'.v.nms, False) (hw : out'.wr = out.wr := by rfl) : Post M σ w out' M' v w' :=
 ⟨h.ext, hv h.val, by rw [hw]; exact h.obj, h.bet, h.bev, fun n hn' => (hn n hn').elim, by rw [hw]; exact h.onm⟩
theorem Post.same (R : RSt M σ a w) {out : Out} (hw : out.wr = []) {v : Value} (hv : VRel M w v out.v) (hn : ∀ n ∈ out.v.nms, (lk σ.o n).isSome) :
  Post M σ w out M v w := by
 refine ⟨.refl M w, hv, ?_, fun _ _ => rfl, fun _ _ => rfl, ?_, ?_⟩
 ·rw [hw]; exact R.ob
 ·rw [hw]; exact hn
 ·rw [hw]; exact R.wo
def updN {α : Type} (f : Nat → α) (n : Nat) (x : α) : Nat → α := fun m => if m = n then x else f m
theorem updN_self {α : Type} (f : Nat → α) (n : Nat) (x : α) : updN f n x n = x := by simp [updN]
theorem updN_2 {α β : Type} (f : Nat → α × β) (n : Nat) (x : α × β) : (updN f n x n).2 = x.2 := by simp [updN]
theorem updN_1 {α β : Type} (f : Nat → α × β) (n : Nat) (x : α × β) : (updN f n x n).1 = x.1 := by simp [updN]
theorem updN_ne {α : Type} (f : Nat → α) {n m : Nat} (x : α) (h : m ≠ n) : updN f n x m = f m := by simp [updN, h]
def Mm.new (M : Mm) (w : World) (n : Nat) (c : Cls) (len : Nat := 0) : Mm := ⟨updN M.κ w.heap.size c, updN M.β n (len, some (w.heap.size, 0)), M.φ, M.F0⟩
theorem Ext.fresh (c : Cls) (o : Obj) : Ext M w ⟨updN M.κ w.heap.size c, M.β, M.φ, M.F0⟩ (w.alloc o) where
 fam _ _ _ h := h
 low _ _ _ := rfl
 f0 := rfl
 os := rfl
 tape := rfl
 output := rfl
 size := by show w.heap.size ≤ (w.heap.push o).size; simp
 keep b hb _ := RowKit.Below.heap_alloc w o b hb
 fro b hb h := by simp only; rw [updN_ne _ _ (by omega)]; exact h
 out b hb h := by simp only; rw [updN_ne _ _ (by omega)]; exact h
 shp b cs T fr h := ⟨cs, by rw [RowKit.Below.heap_alloc w o b (heap_lt h)]; exact h, rfl⟩
theorem heap_alloc_lt {w : World} {o : Obj} {b : Nat} (h : b < w.heap.size) : (w.alloc o).heap[b]? = w.heap[b]? := RowKit.Below.heap_alloc w o b h
theorem Ext.new (n : Nat) (c : Cls) (o : Obj) (len : Nat := 0) : Ext M w (M.new w n c len) (w.alloc o) where
 fam _ _ _ h := h
 low _ _ _ := rfl
 f0 := rfl
 os := rfl
 tape := rfl
 output := rfl
 size := by show w.heap.size ≤ (w.heap.push o).size; simp
 keep b hb _ := RowKit.Below.heap_alloc w o b hb
 fro b hb h := by simp only [Mm.new]; rw [updN_ne _ _ (by omega)]; exact h
 out b hb h := by simp only [Mm.new]; rw [updN_ne _ _ (by omega)]; exact h
 shp b cs T fr h := ⟨cs, by rw [RowKit.Below.heap_alloc w o b (heap_lt h)]; exact h, rfl⟩
theorem Ext.drew (M : Mm) (w : World) : Ext M w M w.drew :=
 ⟨rfl, rfl, rfl, Nat.le_refl _, fun _ _ _ => rfl, fun _ _ h => h, fun _ _ h => h, fun _ c _ _ h => ⟨c, h, rfl⟩, fun _ _ _ h => h, fun _ _ _ => rfl, rfl⟩
theorem ORel.new {m n : Nat} {o : AObj} (h : ORel M w m o) (c : Cls) (ob : Obj) (hm : m ≠ n) (hn : ∀ k ∈ o.nms, k ≠ n) (len : Nat := 0) : ORel (M.new w n c len) (w.alloc ob) m o := by
 refine h.mono (Ext.new n c ob len) ?_ ?_ ?_
 ·simp only [Mm.new]; rw [updN_ne _ _ hm]
 ·intro k hk; simp only [Mm.new]; rw [updN_ne _ _ (hn k hk)]
 ·intro b hb _
  refine ⟨?_, RowKit.Below.heap_alloc w ob b hb⟩
  simp only [Mm.new]; rw [updN_ne _ _ (by omega)]
theorem VRel.new {n : Nat} {v : Value} {x : AV} (h : VRel M w v x) (c : Cls) (ob : Obj) (hn : ∀ k ∈ x.nms, k ≠ n) (len : Nat := 0) : VRel (M.new w n c len) (w.alloc ob) v x := by
 refine h.mono (Ext.new n c ob len) ?_
 intro k hk; simp only [Mm.new]; rw [updN_ne _ _ (hn k hk)]
theorem new_block (w : World) (o : Obj) : (w.alloc o).heap[w.heap.size]? = some o := by
 show (w.heap.push o)[w.heap.size]? = some o; simp
theorem isSome_ne {α : Type} {l : List (Nat × α)} {n k : Nat} (h : (lk l k).isSome) (hn : lk l n = none) : k ≠ n := by
 rintro rfl; rw [hn] at h; cases h
theorem Post.make (R : RSt M σ a w) {n : Nat} (hodd : n % 2 = 1) (hn : lk σ.o n = none) {out : Out} {o : AObj} (hw : out.wr = [(n, o)]) (c : Cls) (ob : Obj) {len : Nat}
  {v : Value} (hv : VRel (M.new w n c len) (w.alloc ob) v out.v) (ho : ORel (M.new w n c len) (w.alloc ob) n o)
  (hvn : ∀ k ∈ out.v.nms, k = n ∨ (lk σ.o k).isSome) (hon : ∀ k ∈ o.nms, (lk σ.o k).isSome) : Post M σ w out (M.new w n c len) v (w.alloc ob) := by
 have dom : ∀ k, (lk σ.o k).isSome → (lk (up σ.o n o) k).isSome := by
  intro k hk; rw [lk_up]; split
  ·rfl
  ·exact hk
 refine ⟨Ext.new n c ob len, hv, ?_, ?_, ?_, ?_, ?_⟩
 ·intro m p hm
  rw [hw] at hm
  simp only [wrO, lk_up] at hm
  split at hm
  ·rename_i e; subst e; cases hm; exact ho
  ·rename_i e
   exact (R.ob m p hm).new c ob (fun e' => e e'.symm) (fun k hk => isSome_ne (R.wo m p hm k hk) hn) len
 ·intro m hm
  simp only [Mm.new]; rw [updN_ne _ _ (isSome_ne hm hn)]
 ·intro m hm
  simp only [Mm.new]; rw [updN_ne _ _ (by omega)]
 ·intro k hk
  rw [hw]
  simp only [wrO]
  rcases hvn k hk with rfl | h
  ·rw [lk_up, if_pos rfl]; rfl
  ·exact dom k h
 ·intro m p hm k hk
  rw [hw] at hm ⊢
  simp only [wrO] at hm ⊢
  rw [lk_up] at hm
  split at hm
  ·cases hm; exact dom k (hon k hk)
  ·exact dom k (R.wo m p hm k hk)
theorem Ext.setRow {b : Nat} {n : Nat} {c c' : Array Value} {T : TypeId} (hb : w.heap[b]? = some (.cells c T (0, 0))) (hk : M.κ b = .own n) (hs : c'.size = c.size) :
  Ext M w M (w.setRow b c') where
 fam _ _ _ h := h
 low _ _ _ := rfl
 f0 := rfl
 os := rfl
 tape := rfl
 output := rfl
 size := by simp
 keep k _ hn := by
  rw [setRow_other]
  rintro rfl; exact hn n hk
 fro _ _ h := h
 out _ _ h := h
 shp k cs U fr h := by
  by_cases e : k = b
  ·subst e
   rw [hb] at h; cases h
   exact ⟨c', setRow_heap w k c c' T (0, 0) hb, hs⟩
  ·exact ⟨cs, by rw [setRow_other _ _ _ _ e]; exact h, rfl⟩
theorem ORel.setRow {b n m : Nat} {c c' : Array Value} {T : TypeId} (hb : w.heap[b]? = some (.cells c T (0, 0))) (hk : M.κ b = .own n) (hs : c'.size = c.size)
  {o : AObj} (h : ORel M w m o) (hm : m ≠ n) : ORel M (w.setRow b c') m o := by
 refine h.mono (Ext.setRow hb hk hs) rfl (fun _ _ => rfl) ?_
 intro k _ hc
 refine ⟨rfl, setRow_other _ _ _ _ ?_⟩
 rintro rfl
 rw [hk] at hc
 rcases hc with hc | hc
 ·cases hc; exact hm rfl
 ·cases hc
theorem Post.write (R : RSt M σ a w) {n b : Nat} {c c' : Array Value} {T : TypeId} (hb : w.heap[b]? = some (.cells c T (0, 0))) (hk : M.κ b = .own n)
  (hs : c'.size = c.size) {out : Out} {o : AObj} (hw : out.wr = [(n, o)]) (hv : out.v = .undef) (hn : (lk σ.o n).isSome)
  (ho : ORel M (w.setRow b c') n o) (hon : ∀ k ∈ o.nms, (lk σ.o k).isSome) : Post M σ w out M undef (w.setRow b c') := by
 have dom : ∀ k, (lk σ.o k).isSome → (lk (up σ.o n o) k).isSome := by
  intro k hk; rw [lk_up]; split
  ·rfl
  ·exact hk
 refine ⟨Ext.setRow hb hk hs, by rw [hv]; exact .undef _, ?_, fun _ _ => rfl, fun _ _ => rfl, by rw [hv]; simp [AV.nms], ?_⟩
 ·intro m p hm
  rw [hw] at hm
  simp only [wrO, lk_up] at hm
  split at hm
  ·rename_i e; subst e; cases hm; exact ho
  ·rename_i e; exact (R.ob m p hm).setRow hb hk hs (fun e' => e e'.symm)
 ·intro m p hm k hk'
  rw [hw] at hm ⊢
  simp only [wrO] at hm ⊢
  rw [lk_up] at hm
  split at hm
  ·cases hm; exact dom k (hon k hk')
  ·exact dom k (R.wo m p hm k hk')
theorem mkVar_rel {n b : Nat} {v : Value} {x : AV} (hx : x.plain = true) {T : TypeId} {M' : Mm} {w' : World} (hv : VRel M' w' v x) (hβ : (M'.β n).2 = some (b, 0)) (hκ : M'.κ b = .own n)
  (hh : w'.heap[b]? = some (.cells v.cells T (0, 0))) : ORel M' w' n (mkVar x) := by
 have one := rel_one hv hx
 have cel := rel_cellsA hv hx
 cases hv with
 | undef => cases hx
 | gv => cases hx
 | tup => cases hx
 | agg vs cs hs h1 hc => exact .var cs b vs T hβ hκ hh hs h1 hc
 | aggp vs ps hs hc => exact .varp ps b vs T hβ hκ hh hs hc
 | pv v p hp =>
  have e : v.cells = #[v] := by cases hp <;> rfl
  rw [e] at hh
  refine .varp [p] b #[v] T hβ hκ hh rfl ?_
  intro i x q h1 h2
  cases i <;> simp at h1 h2
  subst h1; subst h2; exact hp
 | fref => exact .var _ b _ T hβ hκ hh rfl one cel.2
 | ref => exact .var _ b _ T hβ hκ hh rfl one cel.2
 | hd0 => exact .var _ b _ T hβ hκ hh rfl one cel.2
 | hd => exact .var _ b _ T hβ hκ hh rfl one cel.2
 | hw _ m _ h => generalize (M'.β m).1 = ln at h cel; cases h <;> exact .var _ b _ T hβ hκ hh rfl one cel.2
 | hx => exact .var _ b _ T hβ hκ hh rfl one cel.2
 | hv _ m _ N h => generalize (M'.β m).1 = ln at h cel; cases h; exact .var _ b _ T hβ hκ hh rfl one cel.2
 | mp => exact .var _ b _ T hβ hκ hh rfl one cel.2
 | fr => exact .var _ b _ T hβ hκ hh rfl one cel.2
 | clo => exact .var _ b _ T hβ hκ hh rfl one cel.2
 | nilp => exact .var _ b _ T hβ hκ hh rfl one cel.2
 | nilf => exact .var _ b _ T hβ hκ hh rfl one cel.2
 | yl => exact .var _ b _ T hβ hκ hh rfl one cel.2
 | bnd => exact .var _ b _ T hβ hκ hh rfl one cel.2
 | cp => exact .var _ b _ T hβ hκ hh rfl one cel.2
 | ar _ m sz rows h g1 g2 =>
  refine .svar _ (.var _ b _ T hβ hκ hh ?_ one ?_) ?_
  ·simpa only [flatC, List.append_nil, AV.cellsA] using cel.1
  ·simpa only [flatC, List.append_nil, AV.cellsA] using cel.2
  ·intro n sz' rows' hm
   simp only [List.mem_singleton, AV.ar.injEq] at hm
   obtain ⟨rfl, rfl, rfl⟩ := hm
   exact ⟨g1, g2⟩
 | sagg _ cs h g => exact .svar _ (.var _ b _ T hβ hκ hh cel.1 one cel.2) g
theorem mkVar_nms {x : AV} {k : Nat} (h : k ∈ (mkVar x).nms) : k ∈ x.nms := by
 cases x <;> simp_all [mkVar, AObj.nms, AV.nms, nmsL]
theorem assignA_sound (R : RSt M σ a w) {o : Oper} {x : Operand} (ho : o.op = .assign x) {an : Ann} {out : Out} (h : assignA σ.obj x an = some out) :
  Does P o a w fun v w' => ∃ M', Post M σ w out M' v w' := by
 unfold assignA at h
 split at h
 ·rename_i n sz
  split at h
  ·rename_i hL hsz hodd
   cases h
   have hv : a.eval (.const (.slice none 0 0)) = .slice none 0 0 := rfl
   refine Does.value (v := a.eval (.const (.slice none 0 0))) (w' := w) (by simp [execOp, ho]) ⟨⟨M.κ, updN M.β n (0, none), M.φ, M.F0⟩, ?_, ?_, ?_, ?_, ?_, ?_, ?_⟩
   ·exact ⟨rfl, rfl, rfl, Nat.le_refl _, fun _ _ _ => rfl, fun _ _ h => h, fun _ _ h => h, fun _ c _ _ h => ⟨c, h, rfl⟩, fun _ _ _ h => h, fun _ _ _ => rfl, rfl⟩
   ·rw [hv]
    refine .hw _ _ _ ?_
    rw [show (updN M.β n (0, none) n).1 = 0 from updN_1 _ _ _]
    exact .hd0 n 0 sz none
   ·intro m p hm
    simp only [wrO, lk_up] at hm
    split at hm
    ·rename_i e; subst e; cases hm
     exact .sl0 false sz (Nat.pos_of_ne_zero (by rintro rfl; simp at hsz)) (updN_2 _ _ _) (updN_1 _ _ _)
    ·rename_i e
     refine ORel.mono (M := M) (w := w) (M' := ⟨M.κ, updN M.β n (0, none), M.φ, M.F0⟩) ⟨rfl, rfl, rfl, Nat.le_refl _, fun _ _ _ => rfl, fun _ _ h => h, fun _ _ h => h, fun _ c _ _ h => ⟨c, h, rfl⟩, fun _ _ _ h => h, fun _ _ _ => rfl, rfl⟩ (R.ob m p hm) (updN_ne _ _ (fun e' => e e'.symm)) ?_ (fun _ _ _ => ⟨rfl, rfl⟩)
     intro k hk; exact updN_ne _ _ (isSome_ne (R.wo m p hm k hk) hL)
   ·intro m hm; exact updN_ne _ _ (isSome_ne hm hL)
   ·intro m hm; exact updN_ne _ _ (by omega)
   ·intro k hk
    simp [AV.nms] at hk
    subst hk
    simp [wrO, lk_up]
   ·intro m p hm k hk
    simp only [wrO, lk_up] at hm ⊢
    split at hm
    ·cases hm; simp [AObj.nms] at hk
    ·split
     ·rfl
     ·exact R.wo m p hm k hk
  ·cases h
 ·split at h
  ·cases h
   have hv : a.eval (.const (.slice none 0 0)) = .slice none 0 0 := rfl
   exact Does.value (v := a.eval (.const (.slice none 0 0))) (w' := w) (by simp [execOp, ho]) ⟨M, Post.same R rfl (by rw [hv]; exact .pv _ _ .nilsl) (by simp [AV.nms])⟩
  ·cases h
 ·cases h
theorem RSt.ghost (R : RSt M σ a w) {n sz : Nat} (hL : lk σ.o n = none) (hodd : n % 2 = 1) (hsz : sz ≠ 0) :
  RSt ⟨M.κ, updN M.β n (0, none), M.φ, M.F0⟩ { σ with o := up σ.o n (.sl false sz []) } a w ∧ Ext M w ⟨M.κ, updN M.β n (0, none), M.φ, M.F0⟩ w ∧ ∀ m, m % 2 = 0 → updN M.β n (0, none) m = M.β m := by
 have E : Ext M w ⟨M.κ, updN M.β n (0, none), M.φ, M.F0⟩ w := ⟨rfl, rfl, rfl, Nat.le_refl _, fun _ _ _ => rfl, fun _ _ h => h, fun _ _ h => h, fun _ c _ _ h => ⟨c, h, rfl⟩, fun _ _ _ h => h, fun _ _ _ => rfl, rfl⟩
 refine ⟨⟨R.sz, R.df, fun t v e => (R.tm t v e).mono E fun k hk => updN_ne _ _ (isSome_ne (R.wt t v e k hk) hL), ?_, ?_, ?_⟩, E, fun m hm => updN_ne _ _ (by omega)⟩
 ·intro m p hm
  simp only [lk_up] at hm
  split at hm
  ·rename_i e; subst e; cases hm
   exact .sl0 false sz (Nat.pos_of_ne_zero hsz) (updN_2 _ _ _) (updN_1 _ _ _)
  ·rename_i e
   exact ORel.mono (M := M) (w := w) (M' := ⟨M.κ, updN M.β n (0, none), M.φ, M.F0⟩) E (R.ob m p hm) (updN_ne _ _ (fun e' => e e'.symm)) (fun k hk => updN_ne _ _ (isSome_ne (R.wo m p hm k hk) hL)) (fun _ _ _ => ⟨rfl, rfl⟩)
 ·intro t v e k hk
  simp only [lk_up]
  split
  ·rfl
  ·exact R.wt t v e k hk
 ·intro m p hm k hk
  simp only [lk_up] at hm ⊢
  split at hm
  ·cases hm; simp [AObj.nms] at hk
  ·split
   ·rfl
   ·exact R.wo m p hm k hk
theorem All_append {p q : List Obl} : All (p ++ q) ↔ All p ∧ All q := by
 induction p with
 | nil => simp [All]
 | cons x p ih => cases x <;> simp [All, ih, and_assoc]
theorem RSt.nil0 (R : RSt M σ a w) : ∀ n fz sz, σ.obj n = some (.sl fz sz []) → (M.β n).1 = 0 := by
 intro n fz sz h
 cases R.ob n _ h with
 | sl0 _ _ _ _ h => exact h
 | sl _ _ _ _ _ _ _ _ _ _ _ _ _ _ h => exact h
theorem cvC_rel {L : Nat → Option AObj} (hL : ∀ n fz sz, L n = some (.sl fz sz []) → (M.β n).1 = 0) {x v : AV} {q : List Obl} (h : cvC L x v = some q) (hq : All q) {y : Value} (r : VRel M w y x) : VRel M w y v ∧ ∀ n ∈ v.nms, n ∈ x.nms ∨ (L n).isSome := by
 unfold cvC at h
 split at h
 ·have := rel_nilsl r; subst this; exact ⟨.pv _ _ (.sl0 none 0), by simp [AV.nms]⟩
 ·cases r with | pv _ _ r => cases r; exact ⟨.pv _ _ (.mp0 _), by simp [AV.nms]⟩
 ·split at h
  ·rename_i e
   have := rel_nilsl r; subst this
   refine ⟨.hd0 _ 0 _ none, fun n hn => .inr ?_⟩
   simp [AV.nms] at hn; subst hn; rw [e]; rfl
  ·cases h
 ·split at h
  ·rename_i e
   have := rel_nilsl r; subst this
   refine ⟨.hw _ _ _ (by rw [hL _ _ _ e]; exact .hd0 _ 0 _ none), fun n hn => .inr ?_⟩
   simp [AV.nms] at hn; subst hn; rw [e]; rfl
  ·cases h
 ·cases h; obtain ⟨rfl, _⟩ := hq; exact ⟨r, fun n hn => .inl hn⟩
theorem cvCs_rel {L : Nat → Option AObj} (hL : ∀ n fz sz, L n = some (.sl fz sz []) → (M.β n).1 = 0) : ∀ {xs vs : List AV} {q : List Obl}, cvCs L xs vs = some q → All q → xs.length = vs.length ∧
  (∀ (i : Nat) (y : Value) (x v : AV), xs[i]? = some x → vs[i]? = some v → VRel M w y x → VRel M w y v) ∧ ∀ n ∈ nmsL vs, n ∈ nmsL xs ∨ (L n).isSome
 | [], [], q, _, _ => ⟨rfl, by simp, by simp [nmsL]⟩
 | x :: xs, v :: vs, q, h, hq => by
  simp only [cvCs] at h
  split at h
  ·rename_i p q' e1 e2
   cases h
   rw [All_append] at hq
   obtain ⟨h1, h2, h3⟩ := cvCs_rel hL e2 hq.2
   refine ⟨by simp [h1], ?_, ?_⟩
   ·intro i y x' v' g1 g2 r
    cases i with
    | zero => simp at g1 g2; subst g1; subst g2; exact (cvC_rel hL e1 hq.1 r).1
    | succ i => exact h2 i y x' v' (by simpa using g1) (by simpa using g2) r
   ·intro n hn
    simp only [nmsL, List.mem_append] at hn ⊢
    rcases hn with hn | hn
    ·have : n ∈ x.nms ∨ (L n).isSome := by
      unfold cvC at e1
      split at e1
      ·simp [AV.nms] at hn
      ·simp [AV.nms] at hn
      ·split at e1
       ·rename_i e; simp [AV.nms] at hn; subst hn; exact .inr (by rw [e]; rfl)
       ·cases e1
      ·split at e1
       ·rename_i e; simp [AV.nms] at hn; subst hn; exact .inr (by rw [e]; rfl)
       ·cases e1
      ·cases e1; obtain ⟨rfl, _⟩ := hq.1; exact .inl hn
     exact this.imp .inl id
    ·exact (h3 n hn).imp .inr id
  ·cases h
 | [], _ :: _, _, h, _ => by simp [cvCs] at h
 | _ :: _, [], _, h, _ => by simp [cvCs] at h
theorem cvA0_rel {L : Nat → Option AObj} (hL : ∀ n fz sz, L n = some (.sl fz sz []) → (M.β n).1 = 0) {x v : AV} {q : List Obl} (h : cvA0 L x v = some q) (hq : All q) {y : Value} (r : VRel M w y x) : VRel M w y v ∧ ∀ n ∈ v.nms, n ∈ x.nms ∨ (L n).isSome := by
 unfold cvA0 at h
 split at h
 ·rename_i cs ds
  obtain ⟨h1, h2, h3⟩ := cvCs_rel (M := M) (w := w) hL h hq
  cases r with
  | agg vs _ e1 e2 e3 =>
   refine ⟨.agg vs ds (e1.trans h1) e2 fun i z c g1 g2 => ?_, by simpa [AV.nms] using h3⟩
   have hi : i < cs.length := by rw [h1]; exact (List.getElem?_eq_some_iff.1 g2).1
   exact h2 i z cs[i] c (List.getElem?_eq_getElem hi) g2 (e3 i z _ g1 (List.getElem?_eq_getElem hi))
 ·rename_i ps ds
  obtain ⟨h1, h2, h3⟩ := cvCs_rel (M := M) (w := w) hL h hq
  simp only [List.length_map] at h1
  cases r with
  | aggp vs _ e1 e3 =>
   refine ⟨.agg vs ds (e1.trans h1) ?_ fun i z c g1 g2 => ?_, fun n hn => .inr ((h3 n (by simpa [AV.nms] using hn)).elim (fun h => by rw [pvs_nms] at h; cases h) id)⟩
   ·intro z hz
    obtain ⟨i, hi⟩ := Array.getElem?_of_mem hz
    have hi' : i < ps.length := by rw [← e1]; exact (Array.getElem?_eq_some_iff.1 hi).1
    exact (e3 i z _ hi (List.getElem?_eq_getElem hi')).oneCell
   ·have hi : i < ps.length := by rw [h1]; exact (List.getElem?_eq_some_iff.1 g2).1
    exact h2 i z (.pv ps[i]) c (by simp [hi]) g2 (.pv _ _ (e3 i z _ g1 (List.getElem?_eq_getElem hi)))
 ·rename_i ps qs
  obtain ⟨h1, h2, h3⟩ := cvCs_rel (M := M) (w := w) hL h hq
  simp only [List.length_map] at h1
  cases r with
  | aggp vs _ e1 e3 =>
   refine ⟨.aggp vs qs (e1.trans h1) fun i z c g1 g2 => ?_, by simp [AV.nms]⟩
   have hi : i < ps.length := by rw [h1]; exact (List.getElem?_eq_some_iff.1 g2).1
   have := h2 i z (.pv ps[i]) (.pv c) (by simp [hi]) (by simp [g2]) (.pv _ _ (e3 i z _ g1 (List.getElem?_eq_getElem hi)))
   cases this with
   | pv _ _ hp => exact hp
 ·exact cvC_rel hL h hq r
theorem segOk_of : ∀ {cs : List AV}, segL cs = segR cs → SegOk cs
 | [], _ => by intro n sz rows h; cases h
 | v :: r, h => by
  intro n sz rows hm
  cases hv : isArV v with
  | false =>
   have h' : segL r = segR r := by cases v <;> first | exact h | simp [isArV] at hv
   cases hm with
   | head => simp [isArV] at hv
   | tail _ hm => exact segOk_of h' n sz rows hm
  | true =>
   cases v <;> simp [isArV] at hv
   simp only [segL, segR, List.cons.injEq] at h
   cases hm with
   | head =>
    refine ⟨by simpa using congrArg List.length h.1, fun r hr => ?_⟩
    have := List.mem_map_of_mem (f := List.length) hr
    rw [h.1] at this
    exact (List.mem_replicate.1 this).2
   | tail _ hm => exact segOk_of h.2 n sz rows hm
theorem VRel.ofP {v : Value} {ps : List PV} (h : VRel M w v (.aggp ps)) : VRel M w v (.agg (ps.map .pv)) := by
 cases h with
 | aggp vs _ e1 e3 =>
  refine .agg vs _ (by simpa using e1) (fun z hz => ?_) fun i z c g1 g2 => ?_
  ·obtain ⟨i, hi⟩ := Array.getElem?_of_mem hz
   have hi' : i < ps.length := by rw [← e1]; exact (Array.getElem?_eq_some_iff.1 hi).1
   exact (e3 i z _ hi (List.getElem?_eq_getElem hi')).oneCell
  ·simp only [List.getElem?_map, Option.map_eq_some_iff] at g2
   obtain ⟨p, g2, rfl⟩ := g2
   exact .pv _ _ (e3 i z p g1 g2)
theorem Nzd.aggRel {l l' : List AV} (h : Nzd l l') {v : Value} (r : VRel M w v (.agg l)) : VRel M w v (.agg l') := by
 cases r with
 | agg vs _ e1 e2 e3 =>
  have := h.rel (⟨e1, e2, e3⟩ : CRel M w vs l)
  exact .agg vs _ this.size this.one this.cell
theorem cvA_rel {L : Nat → Option AObj} (hL : ∀ n fz sz, L n = some (.sl fz sz []) → (M.β n).1 = 0) {x v : AV} {q : List Obl} (h : cvA L x v = some q) (hq : All q) {y : Value} (r : VRel M w y x) : VRel M w y v ∧ ∀ n ∈ v.nms, n ∈ x.nms ∨ (L n).isSome := by
 unfold cvA at h
 split at h
 ·rename_i n sz rows
  split at h
  ·cases h
   obtain ⟨h1, h2, _⟩ := hq
   have r' : VRel M w y (.aggp rows.flatten) := by
    rw [← h1]
    cases r with
    | aggp vs _ e1 e3 =>
     refine .aggp vs _ (by simpa using e1) fun i z c g1 g2 => ?_
     simp only [List.getElem?_map, Option.map_eq_some_iff] at g2
     obtain ⟨p, g2, rfl⟩ := g2
     exact nz_rel (e3 i z p g1 g2)
   refine ⟨.ar _ _ _ _ r' (by simpa using congrArg List.length h2) (fun r hr => ?_), by simp [AV.nms]⟩
   have := List.mem_map_of_mem (f := List.length) hr
   rw [h2] at this
   exact (List.mem_replicate.1 this).2
  ·cases h; obtain ⟨rfl, _⟩ := hq; exact ⟨r, fun _ h => .inl h⟩
 ·rename_i cs
  split at h
  ·cases h
   obtain ⟨h1, h2, _⟩ := hq
   refine ⟨.sagg _ _ (by rw [← h1]; exact (nzS_nzd _ _).aggRel r.ofP) (segOk_of h2), fun n hn => ?_⟩
   simp only [AV.nms] at hn
   rw [← flatC_nms, ← h1] at hn
   have := (nzS_nzd _ _).nms hn
   rw [nmsL_pvs] at this; cases this
  ·cases h
   obtain ⟨h1, h2, _⟩ := hq
   refine ⟨.sagg _ _ (by rw [← h1]; exact (nzS_nzd _ _).aggRel r) (segOk_of h2), fun n hn => .inl ?_⟩
   simp only [AV.nms] at hn ⊢
   rw [← flatC_nms, ← h1] at hn; exact (nzS_nzd _ _).nms hn
  ·cases h; obtain ⟨rfl, _⟩ := hq; exact ⟨r, fun _ h => .inl h⟩
 ·exact cvA0_rel hL h hq r
theorem cvC_nms {L : Nat → Option AObj} {x v : AV} {q : List Obl} (h : cvC L x v = some q) (hq : All q) : ∀ n ∈ v.nms, n ∈ x.nms ∨ (L n).isSome := by
 intro n hn
 unfold cvC at h
 split at h
 ·simp [AV.nms] at hn
 ·simp [AV.nms] at hn
 ·split at h
  ·rename_i e; simp [AV.nms] at hn; subst hn; exact .inr (by rw [e]; rfl)
  ·cases h
 ·split at h
  ·rename_i e; simp [AV.nms] at hn; subst hn; exact .inr (by rw [e]; rfl)
  ·cases h
 ·cases h; obtain ⟨rfl, _⟩ := hq; exact .inl hn
theorem cvCs_nms {L : Nat → Option AObj} : ∀ {xs vs : List AV} {q : List Obl}, cvCs L xs vs = some q → All q → ∀ n ∈ nmsL vs, n ∈ nmsL xs ∨ (L n).isSome
 | [], [], q, _, _ => by simp [nmsL]
 | x :: xs, v :: vs, q, h, hq => by
  simp only [cvCs] at h
  split at h
  ·rename_i p q' e1 e2
   cases h
   rw [All_append] at hq
   intro n hn
   simp only [nmsL, List.mem_append] at hn ⊢
   rcases hn with hn | hn
   ·exact (cvC_nms e1 hq.1 n hn).imp .inl id
   ·exact (cvCs_nms e2 hq.2 n hn).imp .inr id
  ·cases h
 | [], _ :: _, _, h, _ => by simp [cvCs] at h
 | _ :: _, [], _, h, _ => by simp [cvCs] at h
theorem cvA_nms {L : Nat → Option AObj} {x v : AV} {q : List Obl} (h : cvA L x v = some q) (hq : All q) : ∀ n ∈ v.nms, n ∈ x.nms ∨ (L n).isSome := by
 intro n hn
 unfold cvA at h
 split at h
 ·simp [AV.nms] at hn
 ·split at h
  ·cases h
   obtain ⟨h1, h2, _⟩ := hq
   simp only [AV.nms] at hn
   rw [← flatC_nms, ← h1] at hn
   have := (nzS_nzd _ _).nms hn
   rw [nmsL_pvs] at this; cases this
  ·cases h
   obtain ⟨h1, h2, _⟩ := hq
   simp only [AV.nms] at hn ⊢
   rw [← flatC_nms, ← h1] at hn; exact .inl ((nzS_nzd _ _).nms hn)
  ·cases h; obtain ⟨rfl, _⟩ := hq; exact .inl hn
 ·unfold cvA0 at h
  split at h
  ·exact cvCs_nms h hq n (by simpa [AV.nms] using hn)
  ·exact (cvCs_nms h hq n (by simpa [AV.nms] using hn)).elim (fun h => by rw [pvs_nms] at h; cases h) .inr
  ·simp [AV.nms] at hn
  ·exact cvC_nms h hq n hn
theorem CRel.pvs {c : Array Value} {ps : List PV} (h : CRel M w c (ps.map .pv)) : c.size = ps.length ∧ ∀ (i : Nat) (v : Value) (p : PV), c[i]? = some v → ps[i]? = some p → PRel M w v p := by
 refine ⟨by simpa using h.size, fun i v p e1 e2 => ?_⟩
 have := h.cell i v (.pv p) e1 (by simp [e2])
 cases this with | pv _ _ h => exact h
theorem cvL_rel {L : Nat → Option AObj} (hL : ∀ n fz sz, L n = some (.sl fz sz []) → (M.β n).1 = 0) : ∀ {xs vs : List AV} {q : List Obl}, cvL L xs vs = some q → All q → xs.length = vs.length ∧
  ∀ (i : Nat) (x v : AV), xs[i]? = some x → vs[i]? = some v → (∀ y, VRel M w y x → VRel M w y v) ∧ ∀ n ∈ v.nms, n ∈ x.nms ∨ (L n).isSome
 | [], [], q, _, _ => ⟨rfl, by simp⟩
 | x :: xs, v :: vs, q, h, hq => by
  simp only [cvL] at h
  split at h
  ·rename_i p q' e1 e2
   cases h
   rw [All_append] at hq
   obtain ⟨h1, h2⟩ := cvL_rel hL e2 hq.2
   refine ⟨by simp [h1], ?_⟩
   intro i x' v' g1 g2
   cases i with
   | zero => simp at g1 g2; subst g1; subst g2; exact ⟨fun y r => (cvA_rel hL e1 hq.1 r).1, cvA_nms e1 hq.1⟩
   | succ i => exact h2 i x' v' (by simpa using g1) (by simpa using g2)
  ·cases h
 | [], _ :: _, _, h, _ => by simp [cvL] at h
 | _ :: _, [], _, h, _ => by simp [cvL] at h
theorem CRel.cv {L : Nat → Option AObj} (hL : ∀ n fz sz, L n = some (.sl fz sz []) → (M.β n).1 = 0) {c : Array Value} {cs ds : List AV} {q : List Obl} (h : cvCs L cs ds = some q) (hq : All q) (r : CRel M w c cs) : CRel M w c ds ∧ ∀ n ∈ nmsL ds, n ∈ nmsL cs ∨ (L n).isSome := by
 obtain ⟨h1, h2, h3⟩ := cvCs_rel (M := M) (w := w) hL h hq
 refine ⟨⟨by rw [r.size, h1], r.one, fun i v d e1 e2 => ?_⟩, h3⟩
 have hi : i < cs.length := by rw [h1]; exact (List.getElem?_eq_some_iff.1 e2).1
 exact h2 i v cs[i] d (List.getElem?_eq_getElem hi) e2 (r.cell i v _ e1 (List.getElem?_eq_getElem hi))
theorem cvO_nms {L : Nat → Option AObj} {o o' : AObj} {q : List Obl} (h : cvO L o o' = some q) (hq : All q) : ∀ k ∈ o'.nms, k ∈ o.nms ∨ (L k).isSome := by
 intro n hn
 unfold cvO at h
 split at h
 ·exact cvCs_nms h hq n (by simpa [AObj.nms] using hn)
 ·exact (cvCs_nms h hq n (by simpa [AObj.nms] using hn)).elim (fun h => by rw [pvs_nms] at h; cases h) .inr
 ·simp [AObj.nms] at hn
 ·simp [AObj.nms] at hn
 ·simp [AObj.nms] at hn
 ·cases h; obtain ⟨rfl, _⟩ := hq; exact .inl hn
theorem cvO_rel {L : Nat → Option AObj} (hL : ∀ n fz sz, L n = some (.sl fz sz []) → (M.β n).1 = 0) {o o' : AObj} {q : List Obl} (h : cvO L o o' = some q) (hq : All q) {n : Nat} (r : ORel M w n o) : ORel M w n o' ∧ ∀ k ∈ o'.nms, k ∈ o.nms ∨ (L k).isSome := by
 unfold cvO at h
 split at h
 ·cases r with | var _ b c T f1 f2 f3 f4 f5 f6 =>
  obtain ⟨k1, k2⟩ := CRel.cv hL h hq (⟨f4, f5, f6⟩ : CRel M w c _)
  exact ⟨.var _ b c T f1 f2 f3 k1.size k1.one k1.cell, by simpa [AObj.nms] using k2⟩
 ·cases r with | varp _ b c T f1 f2 f3 f4 f5 =>
  obtain ⟨k1, k2⟩ := CRel.cv hL h hq (CRel.ofP f4 f5)
  exact ⟨.var _ b c T f1 f2 f3 k1.size k1.one k1.cell, fun k hk => .inr ((k2 k (by simpa [AObj.nms] using hk)).elim (fun h => by rw [pvs_nms] at h; cases h) id)⟩
 ·cases r with | varp _ b c T f1 f2 f3 f4 f5 =>
  obtain ⟨k1, k2⟩ := CRel.cv hL h hq (CRel.ofP f4 f5)
  exact ⟨.varp _ b c T f1 f2 f3 k1.pvs.1 k1.pvs.2, by simp [AObj.nms]⟩
 ·cases r with | var _ b c T f1 f2 f3 f4 f5 f6 =>
  obtain ⟨k1, k2⟩ := CRel.cv hL h hq (⟨f4, f5, f6⟩ : CRel M w c _)
  exact ⟨.varp _ b c T f1 f2 f3 k1.pvs.1 k1.pvs.2, by simp [AObj.nms]⟩
 ·cases h
  obtain ⟨hq, _⟩ := hq
  rw [← hq]
  cases r with | mp _ _ _ _ _ b es clock e1 e2 e3 e4 e5 e6 e7 e8 e9 e10 =>
  exact ⟨.mp _ _ false _ _ b es clock e1 e2 e3 e4 e5 e6 e7 e8 e9 (fun h => by cases h), by simp [AObj.nms]⟩
 ·cases h; obtain ⟨rfl, _⟩ := hq; exact ⟨r, fun _ h => .inl h⟩
theorem cvOs_rel {L : Nat → Option AObj} (hL : ∀ n fz sz, L n = some (.sl fz sz []) → (M.β n).1 = 0) : ∀ {xs vs : List AObj} {q : List Obl}, cvOs L xs vs = some q → All q → xs.length = vs.length ∧
  ∀ (i : Nat) (x v : AObj), xs[i]? = some x → vs[i]? = some v → (∀ n, ORel M w n x → ORel M w n v) ∧ ∀ k ∈ v.nms, k ∈ x.nms ∨ (L k).isSome
 | [], [], q, _, _ => ⟨rfl, by simp⟩
 | x :: xs, v :: vs, q, h, hq => by
  simp only [cvOs] at h
  split at h
  ·rename_i p q' e1 e2
   cases h
   rw [All_append] at hq
   obtain ⟨h1, h2⟩ := cvOs_rel hL e2 hq.2
   refine ⟨by simp [h1], ?_⟩
   intro i x' v' g1 g2
   cases i with
   | zero => simp at g1 g2; subst g1; subst g2; exact ⟨fun n r => (cvO_rel hL e1 hq.1 r).1, cvO_nms e1 hq.1⟩
   | succ i => exact h2 i x' v' (by simpa using g1) (by simpa using g2)
  ·cases h
 | [], _ :: _, _, h, _ => by simp [cvOs] at h
 | _ :: _, [], _, h, _ => by simp [cvOs] at h
theorem allocA_sound (R : RSt M σ a w) {o : Oper} {t : TypeId} (ho : o.op = .alloc t) {an : Ann} {out : Out} (h : allocA P σ.obj t an = some out) (hp : All out.ob) :
  Does P o a w fun v w' => ∃ M', Post M σ w out M' v w' := by
 unfold allocA at h
 split at h
 ·rename_i n
  split at h
  ·rename_i z hz hL hodd
   split at h
   ·rename_i hpl
    cases h
    unfold zeroA at hz
    simp only [Option.map_eq_some_iff, Option.bind_eq_some_iff] at hz
    obtain ⟨z0, ⟨i, hi, hz0⟩, rfl⟩ := hz
    refine Does.value (v := .pointer (some ⟨w.heap.size, 0, none⟩)) (w' := w.alloc (.cells z0.cells t)) ?_ ⟨M.new w n (.own n), Post.make R hodd hL rfl _ _ ?_ ?_ ?_ ?_⟩
    ·simp [execOp, ho, Instr.alloc, zeroValue, typeInfo, hi, hz0, newVar, newRow]
    ·exact .ref n 0 0 0 w.heap.size 0 (updN_2 _ _ _)
    ·exact mkVar_rel hpl (avOf_rel z0) (updN_2 _ _ _) (updN_self _ _ _) (new_block w _)
    ·intro k hk; simp [AV.nms] at hk; exact .inl hk
    ·intro k hk; have := mkVar_nms hk; rw [avOf_nms] at this; cases this
   ·cases h
  ·cases h
 ·rename_i n v
  split at h
  ·rename_i z hz hL hodd
   split at h
   ·rename_i q hpl hcv
    cases h
    unfold zeroA at hz
    simp only [Option.map_eq_some_iff, Option.bind_eq_some_iff] at hz
    obtain ⟨z0, ⟨i, hi, hz0⟩, rfl⟩ := hz
    obtain ⟨c1, c2⟩ := cvA_rel (M := M) (w := w) R.nil0 hcv hp (avOf_rel z0)
    have hnm : ∀ k ∈ v.nms, (lk σ.o k).isSome := fun k hk => (c2 k hk).elim (fun h => by rw [avOf_nms] at h; cases h) id
    refine Does.value (v := .pointer (some ⟨w.heap.size, 0, none⟩)) (w' := w.alloc (.cells z0.cells t)) ?_ ⟨M.new w n (.own n), Post.make R hodd hL rfl _ _ ?_ ?_ ?_ ?_⟩
    ·simp [execOp, ho, Instr.alloc, zeroValue, typeInfo, hi, hz0, newVar, newRow]
    ·exact .ref n 0 0 0 w.heap.size 0 (updN_2 _ _ _)
    ·exact mkVar_rel hpl (c1.new _ _ fun k hk => isSome_ne (hnm k hk) hL) (updN_2 _ _ _) (updN_self _ _ _) (new_block w _)
    ·intro k hk; simp [AV.nms] at hk; exact .inl hk
    ·intro k hk; exact hnm k (mkVar_nms hk)
   ·cases h
  ·cases h
 ·cases h
theorem boxA_sound (R : RSt M σ a w) {o : Oper} {t : TypeId} {x : Operand} (ho : o.op = .box t x) {an : Ann} {out : Out} (h : boxA σ.obj (σ.ev x) an = some out) (hp : All out.ob) :
  Does P o a w fun v w' => ∃ M', Post M σ w out M' v w' := by
 unfold boxA at h
 split at h
 ·rename_i n cs
  split at h
  ·rename_i hL hodd hpl
   split at h
   ·rename_i q hcv
    cases h
    have c1 : VRel M w (a.eval x) (.sagg cs) ∧ ∀ k ∈ nmsL cs, k ∈ (σ.ev x).nms := by
     have hr := R.ev x
     generalize σ.ev x = u at hcv hr
     unfold cvRaw at hcv
     split at hcv
     ·cases hcv
      obtain ⟨h1, h2, _⟩ := hp
      exact ⟨.sagg _ _ (by rw [← h1]; exact hr.ofP) (segOk_of h2), fun k hk => by rw [← flatC_nms, ← h1, nmsL_pvs] at hk; cases hk⟩
     ·cases hcv
      obtain ⟨h1, h2, _⟩ := hp
      exact ⟨.sagg _ _ (by rw [← h1]; exact hr) (segOk_of h2), fun k hk => by rw [← flatC_nms, ← h1] at hk; exact hk⟩
     ·cases hcv
    have hvn : ∀ k ∈ (AV.sagg cs).nms, (lk σ.o k).isSome := fun k hk => R.evn x k (c1.2 k hk)
    refine Does.value (v := .pointer (some ⟨w.heap.size, 0, none⟩)) (w' := w.alloc (.cells (a.eval x).cells t)) ?_ ⟨M.new w n (.own n), Post.make R hodd hL rfl _ _ ?_ ?_ ?_ ?_⟩
    ·simp [execOp, ho, Instr.box, newVar, newRow]
    ·exact .ref n 0 0 0 w.heap.size 0 (updN_2 _ _ _)
    ·exact mkVar_rel (x := .sagg cs) rfl (c1.1.new _ _ fun k hk => isSome_ne (hvn k hk) hL) (updN_2 _ _ _) (updN_self _ _ _) (new_block w _)
    ·intro k hk; simp [AV.nms] at hk; exact .inl hk
    ·intro k hk; exact hvn k hk
   ·cases h
  ·cases h
 ·rename_i n v
  split at h
  ·rename_i hL hodd hpl
   simp only [Bool.and_eq_true] at hpl
   split at h
   ·rename_i q hcv
    cases h
    obtain ⟨c1, c2⟩ := cvA_rel R.nil0 hcv hp (R.ev x)
    have hvn : ∀ k ∈ v.nms, (lk σ.o k).isSome := fun k hk => (c2 k hk).elim (R.evn x k) id
    refine Does.value (v := .pointer (some ⟨w.heap.size, 0, none⟩)) (w' := w.alloc (.cells (a.eval x).cells t)) ?_ ⟨M.new w n (.own n), Post.make R hodd hL rfl _ _ ?_ ?_ ?_ ?_⟩
    ·simp [execOp, ho, Instr.box, newVar, newRow]
    ·exact .ref n 0 0 0 w.heap.size 0 (updN_2 _ _ _)
    ·exact mkVar_rel hpl.2 (c1.new _ _ fun k hk => isSome_ne (hvn k hk) hL) (updN_2 _ _ _) (updN_self _ _ _) (new_block w _)
    ·intro k hk; simp [AV.nms] at hk; exact .inl hk
    ·intro k hk; exact hvn k (mkVar_nms hk)
   ·cases h
  ·cases h
 ·rename_i n
  split at h
  ·rename_i hL hodd hpl
   cases h
   refine Does.value (v := .pointer (some ⟨w.heap.size, 0, none⟩)) (w' := w.alloc (.cells (a.eval x).cells t)) ?_ ⟨M.new w n (.own n), Post.make R hodd hL rfl _ _ ?_ ?_ ?_ ?_⟩
   ·simp [execOp, ho, Instr.box, newVar, newRow]
   ·exact .ref n 0 0 0 w.heap.size 0 (updN_2 _ _ _)
   ·exact mkVar_rel hpl ((R.ev x).new _ _ fun k hk => isSome_ne (R.evn x k hk) hL) (updN_2 _ _ _) (updN_self _ _ _) (new_block w _)
   ·intro k hk; simp [AV.nms] at hk; exact .inl hk
   ·intro k hk; exact R.evn x k (mkVar_nms hk)
  ·cases h
 ·cases h
theorem run_loadVar_part {t : TypeId} {b off : Nat} {c : Array Value} {T : TypeId} {fr : Nat × Nat} (hb : w.heap[b]? = some (.cells c T fr)) {y : Value}
  (h : (part t c off).run P w = .ok y w) (hsz : isAggT P t = some true → off + P.cellsOf t ≤ c.size) {g : Bool} (hg : isAggT P t = some g) :
  (loadVar t ⟨b, off, none⟩).run P w = .ok y w := by
 unfold part at h
 unfold loadVar
 rw [Sem.run_bind, run_isAggT hg, Result.andThen_ok] at h ⊢
 obtain ⟨d, hd⟩ := under_of_agg hg
 cases g with
 | true =>
  simp only [if_true, Sem.run_bind, run_sizeU hd, Result.andThen_ok] at h ⊢
  have hlen : (c.extract off (off + P.cellsOf t)).toList.length = P.cellsOf t := by
   have := hsz hg; simp; omega
  have hl := run_loadCells_list (P := P) (w := w) ⟨b, off, none⟩ (c.extract off (off + P.cellsOf t)).toList (by
   intro j v hj
   rw [add_addr, cell_block hb]
   have hj' : (c.extract off (off + P.cellsOf t))[j]? = some v := by rw [← Array.getElem?_toList]; exact hj
   rw [getElem?_extract' _ _ _ _ (hsz hg)] at hj'
   split at hj'
   ·exact hj'
   ·cases hj')
  rw [hlen] at hl
  rw [hl]
  simp only [Result.andThen_ok, Sem.run_pure, Array.toArray_toList] at h ⊢
  exact h
 | false =>
  simp only [Bool.false_eq_true, if_false] at h ⊢
  rw [run_load, cell_block hb]
  cases e : c[off]? with
  | none => simp [e] at h
  | some u => simp only [e] at h ⊢; simpa using h
theorem takeV_agg {t : TypeId} {cs : List AV} {off : Nat} {v : AV} (h : takeV P t cs off = some v) : ∃ g, isAggT P t = some g ∧ (g = true → off + P.cellsOf t ≤ cs.length) := by
 unfold takeV at h
 split at h
 ·rename_i ha
  refine ⟨true, ha, fun _ => ?_⟩
  split at h
  ·rename_i hb; exact Nat.le_of_ble_eq_true hb
  ·cases h
 ·rename_i ha; exact ⟨false, ha, fun e => by cases e⟩
 ·cases h
theorem takeP_agg {t : TypeId} {cs : List PV} {off : Nat} {v : AV} (h : takeP P t cs off = some v) : ∃ g, isAggT P t = some g ∧ (g = true → off + P.cellsOf t ≤ cs.length) := by
 obtain ⟨g, h1, h2⟩ := takeV_agg (takeP_takeV h)
 exact ⟨g, h1, fun e => by have := h2 e; simpa using this⟩
theorem run_loadVar_cells {t : TypeId} {b off : Nat} {cs : List PV} {x : Nat → Value} {v : AV} (h : takeP P t cs 0 = some v)
  (hc : ∀ (j : Nat) (p : PV), cs[j]? = some p → w.cell? ⟨b, off + j, none⟩ = some (x j)) (hp : ∀ (j : Nat) (p : PV), cs[j]? = some p → PRel M w (x j) p) :
  ∃ y, (loadVar t ⟨b, off, none⟩).run P w = .ok y w ∧ VRel M w y v ∧ v.nms = [] := by
 have hx : ((List.range cs.length).map x).toArray.size = cs.length := by simp
 obtain ⟨y, h1, h2, h3⟩ := takeP_sound (P := P) (M := M) (w := w) h hx (by
  intro i v p e1 e2
  have hi : i < cs.length := (List.getElem?_eq_some_iff.1 e2).1
  simp [hi] at e1
  subst e1
  exact hp i p e2)
 refine ⟨y, ?_, h2, h3⟩
 obtain ⟨g, hg, hsz⟩ := takeP_agg h
 obtain ⟨d, hd⟩ := under_of_agg hg
 unfold part at h1
 unfold loadVar
 rw [Sem.run_bind, run_isAggT hg, Result.andThen_ok] at h1 ⊢
 cases g with
 | true =>
  have hsz := hsz rfl
  simp only [if_true, Sem.run_bind, run_sizeU hd, Result.andThen_ok] at h1 ⊢
  have hlen : (((List.range cs.length).map x).toArray.extract 0 (0 + P.cellsOf t)).toList.length = P.cellsOf t := by
   simp; omega
  have hl := run_loadCells_list (P := P) (w := w) ⟨b, off, none⟩ (((List.range cs.length).map x).toArray.extract 0 (0 + P.cellsOf t)).toList (by
   intro j v hj
   have hj' : (((List.range cs.length).map x).toArray.extract 0 (0 + P.cellsOf t))[j]? = some v := by rw [← Array.getElem?_toList]; exact hj
   rw [getElem?_extract' _ _ _ _ (by rw [hx]; exact hsz)] at hj'
   split at hj'
   ·rename_i hlt
    have hi : j < cs.length := by omega
    simp [hi] at hj'
    rw [add_addr, hc j cs[j] (by simp [hi])]
    rw [← hj']
   ·cases hj')
  rw [hlen] at hl
  rw [hl]
  simp only [Result.andThen_ok, Sem.run_pure, Array.toArray_toList] at h1 ⊢
  exact h1
 | false =>
  simp only [Bool.false_eq_true, if_false] at h1 ⊢
  by_cases hi : 0 < cs.length
  ·have h0 := hc 0 cs[0] (by simp [hi])
   simp only [Nat.add_zero] at h0
   rw [run_load, h0]
   simp [hi] at h1
   simp [h1]
  ·simp [hi] at h1
theorem run_loadRow {t : TypeId} {b base ri sz off : Nat} {c : Array Value} {T : TypeId} {fr : Nat × Nat} {rows : List (List PV)} {r : List PV} {v : AV} (f3 : w.heap[b]? = some (.cells c T fr)) (f4 : base + rows.length * sz ≤ c.size)
  (f5 : ∀ r ∈ rows, r.length = sz) (f6 : ∀ (i : Nat) (r : List PV) (j : Nat) (p : PV) (x : Value), rows[i]? = some r → r[j]? = some p → c[base + i * sz + j]? = some x → PRel M w x p)
  (hrow : rows[ri]? = some r) (h : takeP P t r off = some v) : ∃ y, (loadVar t ⟨b, base + ri * sz + off, none⟩).run P w = .ok y w ∧ VRel M w y v ∧ v.nms = [] := by
 have hri : ri < rows.length := (List.getElem?_eq_some_iff.1 hrow).1
 have hlen : r.length = sz := f5 r (List.mem_of_getElem? hrow)
 have hle : base + ri * sz + sz ≤ c.size := by
  have : (ri + 1) * sz ≤ rows.length * sz := Nat.mul_le_mul_right _ hri
  rw [Nat.add_mul] at this; omega
 have hsz0 : (c.extract (base + ri * sz) (base + ri * sz + sz)).size = r.length := by simp; omega
 obtain ⟨y, g1, g2, g3⟩ := takeP_sound (P := P) (M := M) (w := w) h hsz0 (by
  intro i v p e1 e2
  rw [getElem?_extract' _ _ _ _ hle] at e1
  split at e1
  ·exact f6 ri r i p v hrow e2 e1
  ·cases e1)
 obtain ⟨g, hg, hsz⟩ := takeP_agg h
 refine ⟨y, ?_, g2, g3⟩
 obtain ⟨d, hd⟩ := under_of_agg hg
 unfold part at g1
 unfold loadVar
 rw [Sem.run_bind, run_isAggT hg, Result.andThen_ok] at g1 ⊢
 cases g with
 | true =>
  have hsz := hsz rfl
  simp only [if_true, Sem.run_bind, run_sizeU hd, Result.andThen_ok] at g1 ⊢
  have hx2 : (c.extract (base + ri * sz) (base + ri * sz + sz)).extract off (off + P.cellsOf t) = c.extract (base + ri * sz + off) (base + ri * sz + off + P.cellsOf t) := by
   rw [Array.extract_extract]; congr 1; omega
  have hlen2 : (c.extract (base + ri * sz + off) (base + ri * sz + off + P.cellsOf t)).toList.length = P.cellsOf t := by
   simp; omega
  have hl := run_loadCells_list (P := P) (w := w) ⟨b, base + ri * sz + off, none⟩ (c.extract (base + ri * sz + off) (base + ri * sz + off + P.cellsOf t)).toList (by
   intro j v hj
   have hj' : (c.extract (base + ri * sz + off) (base + ri * sz + off + P.cellsOf t))[j]? = some v := by rw [← Array.getElem?_toList]; exact hj
   rw [getElem?_extract' _ _ _ _ (by omega)] at hj'
   rw [add_addr, cell_block f3]
   split at hj'
   ·exact hj'
   ·cases hj')
  rw [hlen2] at hl
  rw [hl]
  rw [hx2] at g1
  simp only [Result.andThen_ok, Sem.run_pure, Array.toArray_toList] at g1 ⊢
  exact g1
 | false =>
  simp only [Bool.false_eq_true, if_false] at g1 ⊢
  rw [run_load, cell_block f3]
  cases e' : (c.extract (base + ri * sz) (base + ri * sz + sz))[off]? with
  | none => simp only [e', run_stuck] at g1; cases g1
  | some u =>
   simp only [e', Sem.run_pure] at g1
   rw [getElem?_extract' _ _ _ _ hle] at e'
   split at e'
   ·rw [e']; exact g1
   ·cases e'
theorem fam_at {n f sz i b base : Nat} {fz : Bool} {mem : List (List (List PV))} {rows : List (List PV)} (h : ORel M w n (.fam fz f sz mem)) (hm : mem[i]? = some rows) (e : M.fam f i = some (b, base)) :
  M.κ b = slCls fz n ∧ ∃ (c : Array Value) (T : TypeId), w.heap[b]? = some (.cells c T (0, 0)) ∧ base + rows.length * sz ≤ c.size ∧ (∀ r ∈ rows, r.length = sz) ∧
    ∀ (k : Nat) (r : List PV) (j : Nat) (p : PV) (x : Value), rows[k]? = some r → r[j]? = some p → c[base + k * sz + j]? = some x → PRel M w x p := by
 cases h with | fam _ _ _ _ bk n1 n2 h0 h1 h2 h3 h4 h5 h6 =>
 have hi := (List.getElem?_eq_some_iff.1 hm).1
 rcases h4 i hi with h4 | ⟨h41, h42⟩
 ·rw [h4.1] at e; simp at e
 ·have hb : bk i = (b, base) := by rw [h41] at e; exact Option.some.inj e
  have := h6 i rows hm h41
  rw [hb] at this h42
  exact ⟨h42, this⟩
theorem toPVs_pvs (l : List PV) : toPVs (l.map .pv) = some l := by
 induction l with
 | nil => rfl
 | cons p l ih => simp [toPVs, ih]
theorem takeP_mid {t : TypeId} {pre post : List AV} {r : List PV} {rem : Nat} {v : AV} (h : takeP P t r rem = some v) (hle : rem + P.cellsOf t ≤ r.length) :
  takeV P t (pre ++ (r.map .pv ++ post)) (pre.length + rem) = some v := by
 have h := takeP_takeV h
 unfold takeV at h ⊢
 cases ha : isAggT P t with
 | none => rw [ha] at h; cases h
 | some g =>
  rw [ha] at h
  cases g with
  | true =>
   simp only at h ⊢
   rw [Nat.ble_eq_true_of_le (by rw [List.length_map]; exact hle)] at h
   rw [Nat.ble_eq_true_of_le (by simp; omega)]
   simp only at h ⊢
   rw [cut1_mid _ _ _ _ _ (by rw [List.length_map]; exact hle)]
   exact h
  | false =>
   simp only at h ⊢
   cases hu : (r.map AV.pv)[rem]? with
   | none => rw [hu] at h; cases h
   | some u =>
    have hlt : rem < (r.map AV.pv).length := (List.getElem?_eq_some_iff.1 hu).1
    rw [get_mid _ _ _ _ hlt, hu]
    rw [hu] at h
    exact h
theorem segTake_ok {t : TypeId} {cs : List AV} {off : Nat} {v : AV} (hS : SegOk cs) (h : segTake P t cs off = some v) :
  ∃ v', takeV P t (flatC cs) off = some v' ∧ ∀ (M : Mm) (w : World) (y : Value), VRel M w y v' → VRel M w y v ∧ ∀ k ∈ v.nms, k ∈ v'.nms := by
 have whole : isAggT P t = some true → Nat.beq off 0 = true → Nat.beq (P.cellsOf t) (segN cs) = true → ∃ v', takeV P t (flatC cs) off = some v' ∧ ∀ (M : Mm) (w : World) (y : Value), VRel M w y v' → VRel M w y (.sagg cs) ∧ ∀ k ∈ (AV.sagg cs).nms, k ∈ v'.nms := by
  intro ha h0 h1
  have h0 := nbeq_eq h0
  have h1 := nbeq_eq h1
  subst h0
  refine ⟨mkAgg (flatC cs), ?_, fun M w y hy => ?_⟩
  ·unfold takeV
   rw [ha, h1, ← flatC_len hS, Nat.zero_add, Nat.ble_eq_true_of_le (Nat.le_refl _)]
   simp [cut1]
  ·unfold mkAgg at hy ⊢
   split at hy
   ·rename_i ps hps
    have := toPVs_map hps
    refine ⟨.sagg _ _ (by rw [this]; exact hy.ofP) hS, fun k hk => ?_⟩
    simp only [AV.nms] at hk
    rw [← flatC_nms, this, nmsL_pvs] at hk; cases hk
   ·exact ⟨.sagg _ _ hy hS, fun k hk => by simp only [AV.nms] at hk ⊢; exact flatC_nms.2 hk⟩
 unfold segTake at h
 split at h
 ·rename_i ha hseg
  rename_i n sz rows rem
  split at h
  ·rename_i h0 h1
   have h0 := nbeq_eq h0
   have h1 := nbeq_eq h1
   subst h0
   cases h
   obtain ⟨pre, post, g1, g2, g3, g4, g5⟩ := segAt_ar hS hseg
   have hr := hS _ _ _ g4
   have hl : rows.flatten.length = n * sz := by rw [flat_len hr.2, hr.1]
   refine ⟨mkAgg (rows.flatten.map .pv), ?_, fun M w y hy => ?_⟩
   ·unfold takeV
    rw [ha, h1, g1, g2, Nat.ble_eq_true_of_le (by simp only [List.length_append, List.length_map, hl]; omega)]
    simp only
    rw [cut1_mid _ _ _ _ _ (by rw [List.length_map, hl]; omega)]
    congr 2
    simp only [cut1, List.drop_zero]
    exact List.take_of_length_le (by rw [List.length_map, hl]; omega)
   ·have : mkAgg (rows.flatten.map .pv) = .aggp rows.flatten := by unfold mkAgg; rw [toPVs_pvs]
    rw [this] at hy
    exact ⟨.ar _ _ _ _ hy hr.1 hr.2, by simp [AV.nms]⟩
  ·split at h
   ·rename_i h0 h1
    cases h
    exact whole ha h0 h1
   ·cases h
 ·rename_i ha hseg
  split at h
  ·rename_i h0 h1
   cases h
   exact whole ha h0 h1
  ·cases h
 ·rename_i v0 ha hseg
  split at h
  ·rename_i hpl
   have fin : ∀ u, isArV u = false → u.plain = true → segAt cs off = some (u, 0) → (match u with
    | .agg _ => none
    | .aggp _ => none
    | .ar _ _ _ => none
    | .sagg _ => none
    | v => some v) = some v → ∃ v', takeV P t (flatC cs) off = some v' ∧ ∀ (M : Mm) (w : World) (y : Value), VRel M w y v' → VRel M w y v ∧ ∀ k ∈ v.nms, k ∈ v'.nms := by
    intro u hu hpl hseg hm
    refine ⟨v, ?_, fun M w y hy => ⟨hy, fun k hk => hk⟩⟩
    unfold takeV
    rw [ha, (segAt_one hu hS hseg).2]
    simp only [hpl]
    exact hm
   cases hv : isArV v0 with
   | false => exact fin v0 hv hpl hseg h
   | true => cases v0 <;> simp [isArV] at hv; simp at h
  ·cases h
 ·cases h
theorem loadA_run (R : RSt M σ a w) {t : TypeId} {p : AV} {v0 : Value} (hr : VRel M w v0 p) {an : Ann} {out : Out} (h : loadA P σ.obj t p an = some out) (hp : All out.ob) :
  ∃ (ad : Addr) (y : Value), v0 = .pointer (some ad) ∧ (loadVar t ad).run P w = .ok y w ∧ VRel M w y out.v ∧ (∀ n ∈ out.v.nms, (lk σ.o n).isSome) ∧ out.wr = [] := by
 unfold loadA at h
 split at h
 ·rename_i f i ri sz off
  cases hr with | fr _ _ _ _ _ b base e =>
  split at h
  ·rename_i n rows r
   split at h
   ·rename_i fz f' sz' mem hL
    split at h
    ·rename_i v hs htk
     have hs := nbeq_eq hs
     subst hs
     cases h
     obtain ⟨rfl, hmem, hrow, _⟩ := hp
     obtain ⟨_, c, T, g1, g2, g3, g4⟩ := fam_at (R.ob n _ hL) hmem e
     obtain ⟨y, k1, k2, k3⟩ := run_loadRow (P := P) (M := M) g1 g2 g3 g4 hrow htk
     exact ⟨_, y, rfl, k1, k2, by simp only; rw [k3]; simp, rfl⟩
    ·cases h
   ·cases h
  ·cases h
 ·rename_i cs
  cases hr with | fref b off _ z h1 h2 =>
  have key : ∀ v, takeP P t cs 0 = some v → out.v = v → out.wr = [] → (∃ (ad : Addr) (y : Value), (Value.pointer (some ⟨b, off, none⟩)) = .pointer (some ad) ∧ (loadVar t ad).run P w = .ok y w ∧ VRel M w y out.v ∧ (∀ n ∈ out.v.nms, (lk σ.o n).isSome) ∧ out.wr = []) := by
   intro v hv e1 e2
   obtain ⟨y, f1, f2, f3⟩ := run_loadVar_cells (P := P) (M := M) (w := w) hv (fun j p hj => (h1 j p hj).2) h2
   exact ⟨_, y, rfl, f1, by rw [e1]; exact f2, by rw [e1, f3]; simp, e2⟩
  split at h
  ·cases h; exact key _ hp.1 rfl rfl
  ·simp only [Option.map_eq_some_iff] at h
   obtain ⟨v, h, rfl⟩ := h
   exact key v h rfl rfl
  ·cases h
 ·rename_i n ri sz off
  cases hr with | ref _ _ _ _ b base e =>
  split at h
  ·rename_i cs hL
   have key : ∀ v, ri = 0 → takeV P t cs off = some v → out.v = v → out.wr = [] → (∃ (ad : Addr) (y : Value), (Value.pointer (some ⟨b, base + ri * sz + off, none⟩)) = .pointer (some ad) ∧ (loadVar t ad).run P w = .ok y w ∧ VRel M w y out.v ∧ (∀ n ∈ out.v.nms, (lk σ.o n).isSome) ∧ out.wr = []) := by
    intro v h0 hv e1 e2
    subst h0
    cases R.ob n _ hL with | var _ b' c T f1 f2 f3 f4 f5 f6 =>
    rw [e] at f1; cases f1
    obtain ⟨y, g1, g2, g3⟩ := takeV_sound (P := P) hv ⟨f4, f5, f6⟩
    obtain ⟨g, hg, hsz⟩ := takeV_agg hv
    refine ⟨_, y, rfl, ?_, by rw [e1]; exact g2, ?_, e2⟩
    ·simp only [Nat.zero_mul, Nat.zero_add]
     exact run_loadVar_part f3 g1 (fun e => by rw [f4]; rw [hg] at e; cases e; exact hsz rfl) hg
    ·rw [e1]; intro k hk
     exact R.wo n _ hL k (g3 k hk)
   split at h
   ·cases h; exact key _ rfl hp.1 rfl rfl
   ·simp only [Option.map_eq_some_iff] at h
    obtain ⟨v, h, rfl⟩ := h
    exact key v rfl h rfl rfl
   ·cases h
  ·rename_i cs hL
   have key : ∀ v, ri = 0 → takeP P t cs off = some v → out.v = v → out.wr = [] → (∃ (ad : Addr) (y : Value), (Value.pointer (some ⟨b, base + ri * sz + off, none⟩)) = .pointer (some ad) ∧ (loadVar t ad).run P w = .ok y w ∧ VRel M w y out.v ∧ (∀ n ∈ out.v.nms, (lk σ.o n).isSome) ∧ out.wr = []) := by
    intro v h0 hv e1 e2
    subst h0
    cases R.ob n _ hL with | varp _ b' c T f1 f2 f3 f4 f5 =>
    rw [e] at f1; cases f1
    obtain ⟨y, g1, g2, g3⟩ := takeP_sound (P := P) hv f4 f5
    obtain ⟨g, hg, hsz⟩ := takeP_agg hv
    refine ⟨_, y, rfl, ?_, by rw [e1]; exact g2, by rw [e1, g3]; simp, e2⟩
    simp only [Nat.zero_mul, Nat.zero_add]
    exact run_loadVar_part f3 g1 (fun e => by rw [f4]; rw [hg] at e; cases e; exact hsz rfl) hg
   split at h
   ·cases h; exact key _ rfl hp.1 rfl rfl
   ·simp only [Option.map_eq_some_iff] at h
    obtain ⟨v, h, rfl⟩ := h
    exact key v rfl h rfl rfl
   ·cases h
  ·rename_i cs hL
   split at h
   ·simp only [Option.map_eq_some_iff] at h
    obtain ⟨v, hv, rfl⟩ := h
    cases R.ob n _ hL with | varf _ b' c T f1 f2 f3 f4 f5 =>
    rw [e] at f1; cases f1
    obtain ⟨y, g1, g2, g3⟩ := takeP_sound (P := P) hv f4 f5
    obtain ⟨g, hg, hsz⟩ := takeP_agg hv
    refine ⟨_, y, rfl, ?_, g2, by rw [g3]; simp, rfl⟩
    simp only [Nat.zero_mul, Nat.zero_add]
    exact run_loadVar_part f3 g1 (fun e => by rw [f4]; rw [hg] at e; cases e; exact hsz rfl) hg
   ·cases h
  ·rename_i fz sz' rows hL
   split at h
   ·rename_i r hs
    have hs := nbeq_eq hs
    subst hs
    simp only [Option.map_eq_some_iff] at h
    obtain ⟨v, h, rfl⟩ := h
    have hrow := hp.1
    cases R.ob n _ hL with
    | sl0 => simp at hrow
    | sl _ _ _ b' base' c T h0 f1 f2 f3 f4 f5 f6 =>
    rw [e] at f1; cases f1
    have hri : ri < rows.length := (List.getElem?_eq_some_iff.1 hrow).1
    have hlen : r.length = sz := f5 r (List.mem_of_getElem? hrow)
    have hle : base + ri * sz + sz ≤ c.size := by
     have : (ri + 1) * sz ≤ rows.length * sz := Nat.mul_le_mul_right _ hri
     rw [Nat.add_mul] at this; omega
    have hsz0 : (c.extract (base + ri * sz) (base + ri * sz + sz)).size = r.length := by simp; omega
    obtain ⟨y, g1, g2, g3⟩ := takeP_sound (P := P) (M := M) (w := w) h hsz0 (by
     intro i v p e1 e2
     rw [getElem?_extract' _ _ _ _ hle] at e1
     split at e1
     ·exact f6 ri r i p v hrow e2 e1
     ·cases e1)
    obtain ⟨g, hg, hsz⟩ := takeP_agg h
    refine ⟨_, y, rfl, ?_, g2, by simp only; rw [g3]; simp, rfl⟩
    obtain ⟨d, hd⟩ := under_of_agg hg
    unfold part at g1
    unfold loadVar
    rw [Sem.run_bind, run_isAggT hg, Result.andThen_ok] at g1 ⊢
    cases g with
    | true =>
     have hsz := hsz rfl
     simp only [if_true, Sem.run_bind, run_sizeU hd, Result.andThen_ok] at g1 ⊢
     have hx2 : (c.extract (base + ri * sz) (base + ri * sz + sz)).extract off (off + P.cellsOf t) = c.extract (base + ri * sz + off) (base + ri * sz + off + P.cellsOf t) := by
      rw [Array.extract_extract]; congr 1; omega
     have hlen2 : (c.extract (base + ri * sz + off) (base + ri * sz + off + P.cellsOf t)).toList.length = P.cellsOf t := by
      simp; omega
     have hl := run_loadCells_list (P := P) (w := w) ⟨b, base + ri * sz + off, none⟩ (c.extract (base + ri * sz + off) (base + ri * sz + off + P.cellsOf t)).toList (by
      intro j v hj
      have hj' : (c.extract (base + ri * sz + off) (base + ri * sz + off + P.cellsOf t))[j]? = some v := by rw [← Array.getElem?_toList]; exact hj
      rw [getElem?_extract' _ _ _ _ (by omega)] at hj'
      rw [add_addr, cell_block f3]
      split at hj'
      ·exact hj'
      ·cases hj')
     rw [hlen2] at hl
     rw [hl]
     rw [hx2] at g1
     simp only [Result.andThen_ok, Sem.run_pure, Array.toArray_toList] at g1 ⊢
     exact g1
    | false =>
     simp only [Bool.false_eq_true, if_false] at g1 ⊢
     rw [run_load, cell_block f3]
     cases e' : (c.extract (base + ri * sz) (base + ri * sz + sz))[off]? with
     | none => simp only [e', run_stuck] at g1; cases g1
     | some u =>
      simp only [e', Sem.run_pure] at g1
      rw [getElem?_extract' _ _ _ _ hle] at e'
      split at e'
      ·rw [e']; exact g1
      ·cases e'
   ·cases h
  ·rename_i cs hL
   cases R.ob n _ hL with | svar _ hO hS =>
   cases hO with | var _ b' c T f1 f2 f3 f4 f5 f6 =>
   rw [e] at f1; cases f1
   have key : ∀ v, takeV P t (flatC cs) (ri * sz + off) = some v → ∃ y, (loadVar t ⟨b, 0 + ri * sz + off, none⟩).run P w = .ok y w ∧ VRel M w y v ∧ ∀ k ∈ v.nms, (lk σ.o k).isSome := by
    intro v hv
    obtain ⟨y, g1, g2, g3⟩ := takeV_sound (P := P) hv ⟨f4, f5, f6⟩
    obtain ⟨g, hg, hsz⟩ := takeV_agg hv
    refine ⟨y, ?_, g2, fun k hk => R.wo n _ hL k (by simp only [AObj.nms]; exact flatC_nms.1 (g3 k hk))⟩
    rw [Nat.zero_add]
    exact run_loadVar_part f3 g1 (fun e => by rw [f4]; rw [hg] at e; cases e; exact hsz rfl) hg
   split at h
   ·rename_i hz
    have hz := nbeq_eq hz
    subst hz
    simp only [Option.map_eq_some_iff] at h
    obtain ⟨v, h, rfl⟩ := h
    obtain ⟨v', k1, k2⟩ := segTake_ok (P := P) hS h
    obtain ⟨y, g1, g2, g3⟩ := key v' (by simpa using k1)
    exact ⟨_, y, rfl, g1, (k2 M w y g2).1, fun k hk => g3 k ((k2 M w y g2).2 k hk), rfl⟩
   ·rename_i r _
    split at h
    ·rename_i m s rows rem hseg
     split at h
     ·rename_i hs hle
      have hs := nbeq_eq hs
      have hle := Nat.le_of_ble_eq_true hle
      subst hs
      simp only [Option.map_eq_some_iff] at h
      obtain ⟨v, h, rfl⟩ := h
      have hrow := hp.1
      obtain ⟨pre, post, g1, g2, g3, g4, g5⟩ := segAt_ar hS hseg
      obtain ⟨pre2, post2, q1, q2, q3⟩ := flat_split (hS _ _ _ g4).2 hrow
      have hrl : r.length = s := (hS _ _ _ g4).2 _ (List.mem_of_getElem? hrow)
      have hmid : flatC cs = (pre ++ pre2.map .pv) ++ (r.map .pv ++ (post2.map .pv ++ post)) := by
       rw [g1, q1]; simp
      obtain ⟨y, k1, k2, k3⟩ := key v (by
       rw [show ri * s + off = (pre ++ pre2.map AV.pv).length + rem by simp [q2]; omega, hmid]
       exact takeP_mid h (by simpa [hrl] using hle))
      exact ⟨_, y, rfl, k1, k2, k3, rfl⟩
     ·cases h
    ·cases h
   ·cases h
  ·cases h
 ·cases h
theorem loadA_sound (R : RSt M σ a w) {o : Oper} {t : TypeId} {p : Operand} (ho : o.op = .load t p) {an : Ann} {out : Out} (h : loadA P σ.obj t (σ.ev p) an = some out) (hp : All out.ob) :
  Does P o a w fun v w' => ∃ M', Post M σ w out M' v w' := by
 obtain ⟨ad, y, h1, h2, h3, h4, h5⟩ := loadA_run (P := P) R (R.ev p) h hp
 exact Does.value (v := y) (w' := w) (by simp [execOp, ho, h1, Instr.loadAt, Instr.sureAddr, h2]) ⟨M, Post.same R h5 h3 h4⟩
theorem setRow_list {b : Nat} {c : Array Value} (off : Nat) (vs : List Value) :
  (w.setRow b (c.toList.take off ++ vs ++ c.toList.drop (off + vs.length)).toArray) = w.setRow b (splice c.toList off vs).toArray := rfl
theorem CRel.over {c y : Array Value} {cs ds : List AV} (h : CRel M w c cs) (k : CRel M w y ds) (off : Nat) (hb : off + ds.length ≤ cs.length) :
  CRel M w (Fx.splice c.toList off y.toList).toArray (Fx.splice cs off ds) := by
 have hs := h.size
 have ks := k.size
 have hb' : off + y.toList.length ≤ c.toList.length := by simp; omega
 have get : ∀ i, (Fx.splice c.toList off y.toList).toArray[i]? = if off ≤ i ∧ i < off + ds.length then y[i - off]? else c[i]? := by
  intro i
  rw [List.getElem?_toArray, getElem?_splice _ _ _ hb']
  simp only [Array.length_toList, ks, Array.getElem?_toList]
 refine ⟨by rw [List.size_toArray, length_splice _ _ _ hb', length_splice _ _ _ hb]; simpa using hs, ?_, ?_⟩
 ·intro v hv
  obtain ⟨i, hi⟩ := Array.getElem?_of_mem hv
  rw [get i] at hi
  split at hi
  ·exact k.one v (Array.mem_of_getElem? hi)
  ·exact h.one v (Array.mem_of_getElem? hi)
 ·intro i v c' e1 e2
  rw [get i] at e1
  rw [getElem?_splice _ _ _ hb] at e2
  split at e1
  ·rename_i hc; rw [if_pos hc] at e2; exact k.cell _ v c' e1 e2
  ·rename_i hc; rw [if_neg hc] at e2; exact h.cell _ v c' e1 e2
theorem CRel.mono {M' : Mm} {w' : World} (hx : Ext M w M' w') {c : Array Value} {cs : List AV} (h : CRel M w c cs) (hb : ∀ k ∈ nmsL cs, M'.β k = M.β k) : CRel M' w' c cs :=
 ⟨h.size, h.one, fun i v x e1 e2 => (h.cell i v x e1 e2).mono hx fun n hn => hb n (nmsL_mem (List.mem_of_getElem? e2) hn)⟩
theorem CRel.nz {c : Array Value} {ps : List PV} (h : CRel M w c (ps.map .pv)) : CRel M w c ((ps.map nz).map .pv) := by
 refine ⟨by simpa using h.size, h.one, fun i v p e1 e2 => ?_⟩
 simp only [List.getElem?_map, Option.map_eq_some_iff] at e2
 obtain ⟨q, ⟨r, e2, rfl⟩, rfl⟩ := e2
 exact .pv _ _ (nz_rel (h.pvs.2 i v r e1 e2))
theorem cellsP_A {x : AV} {ps : List PV} (h : x.cellsP = some ps) : x.cellsA = ps.map .pv := by
 cases x <;> simp [AV.cellsP] at h <;> subst h <;> rfl
theorem splice_map {α β : Type} (f : α → β) (l : List α) (off : Nat) (ps : List α) : (splice l off ps).map f = splice (l.map f) off (ps.map f) := by
 unfold splice; simp
theorem run_storeVar_part {t : TypeId} {b off : Nat} {c : Array Value} {T : TypeId} (hb : w.heap[b]? = some (.cells c T (0, 0))) {y : Value}
  (h1 : ∀ v ∈ y.cells, v.oneCell' = true) (hsz : y.cells.size = P.cellsOf t) (h0 : P.cellsOf t ≠ 0 ∨ ∃ i, P.info? t = some i) (hl : off + P.cellsOf t ≤ c.size) :
  (storeVar t ⟨b, off, none⟩ y).run P w = .ok () (w.setRow b (splice c.toList off y.cells.toList).toArray) := by
 have hi : ∃ i, P.info? t = some i := by
  rcases h0 with h0 | h0
  ·exact cells_some h0
  ·exact h0
 obtain ⟨i, hi⟩ := hi
 unfold storeVar
 rw [Sem.run_bind, run_sizeOf w hi, Result.andThen_ok, if_neg (by rw [hsz]; simp)]
 have := run_storeCells_at (P := P) b off T y.cells.toList 0 c w hb (by simp; omega) (fun v hv => h1 v (by simpa using hv))
 simp only [Nat.add_zero] at this
 exact this
theorem storeRow_rel {t : TypeId} {b base ri sz off n : Nat} {c : Array Value} {T : TypeId} {rows : List (List PV)} {r ps : List PV} {v : Value} (f3 : w.heap[b]? = some (.cells c T (0, 0))) (f2 : M.κ b = .own n) (f4 : base + rows.length * sz ≤ c.size)
  (f5 : ∀ r ∈ rows, r.length = sz) (f6 : ∀ (i : Nat) (r : List PV) (j : Nat) (p : PV) (x : Value), rows[i]? = some r → r[j]? = some p → c[base + i * sz + j]? = some x → PRel M w x p)
  (hrow : rows[ri]? = some r) (kx : CRel M w v.cells (ps.map .pv)) (g1 : ps.length = P.cellsOf t) (g2 : off + P.cellsOf t ≤ r.length) (hi : ∃ i, P.info? t = some i) :
  ∃ c' : Array Value, c'.size = c.size ∧ (storeVar t ⟨b, base + ri * sz + off, none⟩ v).run P w = .ok () (w.setRow b c') ∧ (∀ q ∈ rows.set ri (splice r off ps), q.length = sz) ∧
   ∀ (i : Nat) (q : List PV) (j : Nat) (p : PV) (x : Value), (rows.set ri (splice r off ps))[i]? = some q → q[j]? = some p → c'[base + i * sz + j]? = some x → PRel M (w.setRow b c') x p := by
 have hri : ri < rows.length := (List.getElem?_eq_some_iff.1 hrow).1
 have hlen : r.length = sz := f5 r (List.mem_of_getElem? hrow)
 have hle : base + ri * sz + sz ≤ c.size := by
  have : (ri + 1) * sz ≤ rows.length * sz := Nat.mul_le_mul_right _ hri
  rw [Nat.add_mul] at this; omega
 have hsz : v.cells.size = P.cellsOf t := by rw [kx.size]; simpa using g1
 have hs : (splice c.toList (base + ri * sz + off) v.cells.toList).toArray.size = c.size := by
  rw [List.size_toArray, length_splice]
  ·simp
  ·simp; omega
 have kp := kx.pvs
 have hext := Ext.setRow (M := M) f3 f2 hs
 refine ⟨_, hs, run_storeVar_part f3 kx.one hsz (.inr hi) (by omega), ?_, ?_⟩
 ·intro q hq
  rcases List.mem_or_eq_of_mem_set hq with hq | rfl
  ·exact f5 q hq
  ·rw [length_splice _ _ _ (by omega)]; exact hlen
 ·intro i q j pp xx hq hj hx'
  rw [List.getElem?_set] at hq
  have hjl : j < q.length := (List.getElem?_eq_some_iff.1 hj).1
  rw [List.getElem?_toArray, getElem?_splice _ _ _ (by simp; omega)] at hx'
  simp only [Array.length_toList, hsz] at hx'
  split at hq
  ·rename_i hii
   subst hii
   simp only [hri, if_true, Option.some.injEq] at hq
   subst hq
   rw [getElem?_splice _ _ _ (by omega)] at hj
   rw [length_splice _ _ _ (by omega)] at hjl
   rw [g1] at hj
   split at hx'
   ·rename_i hc
    rw [if_pos (by omega)] at hj
    have : base + ri * sz + j - (base + ri * sz + off) = j - off := by omega
    rw [this, Array.getElem?_toList] at hx'
    exact (kp.2 _ xx pp hx' hj).mono hext
   ·rename_i hc
    rw [if_neg (by omega)] at hj
    rw [Array.getElem?_toList] at hx'
    exact (f6 ri r j pp xx hrow hj hx').mono hext
  ·rename_i hii
   have hil : i < rows.length := (List.getElem?_eq_some_iff.1 hq).1
   have hql : q.length = sz := f5 q (List.mem_of_getElem? hq)
   rw [if_neg, Array.getElem?_toList] at hx'
   ·exact (f6 i q j pp xx hq hj hx').mono hext
   ·rintro ⟨c1, c2⟩
    rcases Nat.lt_or_gt_of_ne hii with hlt | hlt
    ·have : (ri + 1) * sz ≤ i * sz := Nat.mul_le_mul_right _ hlt
     rw [Nat.add_mul] at this; omega
    ·have : (i + 1) * sz ≤ ri * sz := Nat.mul_le_mul_right _ hlt
     rw [Nat.add_mul] at this; omega
theorem VRel.ar_ok {v : Value} {n sz : Nat} {rows : List (List PV)} (h : VRel M w v (.ar n sz rows)) : rows.length = n ∧ ∀ r ∈ rows, r.length = sz := by
 cases h with | ar _ _ _ _ _ g1 g2 => exact ⟨g1, g2⟩
theorem VRel.sagg_ok {v : Value} {ds : List AV} (h : VRel M w v (.sagg ds)) : SegOk ds := by
 cases h with | sagg _ _ _ g => exact g
theorem segStore_ok {t : TypeId} {cs ds : List AV} {off : Nat} {x : AV} {y : Array Value} (hS : SegOk cs) (kx : CRel M w y x.cellsA) (hx : ∀ n sz rows, x = .ar n sz rows → rows.length = n ∧ ∀ r ∈ rows, r.length = sz)
  (hx2 : ∀ ds, x = .sagg ds → SegOk ds) (h : segStore P t cs off x = some ds) :
  off + P.cellsOf t ≤ (flatC cs).length ∧ x.cellsA.length = P.cellsOf t ∧ SegOk ds ∧ ∃ ps', Nzd x.cellsA ps' ∧ flatC ds = splice (flatC cs) off ps' := by
 unfold segStore at h
 split at h
 ·rename_i n sz rows
  obtain ⟨x1, x2⟩ := hx n sz rows rfl
  have hl : rows.flatten.length = n * sz := by rw [flat_len x2, x1]
  split at h
  ·rename_i n' sz' rows' rem hseg
   split at h
   ·rename_i h1 h2 h3 h4
    have h1 := nbeq_eq h1
    have h2 := nbeq_eq h2
    have h3 := nbeq_eq h3
    have h4 := nbeq_eq h4
    subst h1; subst h2; subst h3
    cases h
    obtain ⟨pre, post, g1, g2, g3, g4, g5⟩ := segAt_ar hS hseg
    obtain ⟨k1, k2⟩ := g5 rows x1 x2
    have hr := hS _ _ _ g4
    have hl' : rows'.flatten.length = n * sz := by rw [flat_len hr.2, hr.1]
    refine ⟨?_, by rw [AV.cellsA, List.length_map, hl, h4], k2, _, .refl _, ?_⟩
    ·rw [g1, g2, h4, List.length_append, List.length_append, List.length_map, hl']; omega
    ·rw [k1, g1, g2, AV.cellsA, splice_mid _ _ _ _ _ (by rw [List.length_map, List.length_map, hl, hl']; omega)]
     simp only [splice, List.take_zero, List.nil_append, Nat.zero_add]
     rw [List.drop_of_length_le (by rw [List.length_map, List.length_map, hl, hl']; exact Nat.le_refl _)]
     simp
   ·cases h
  ·cases h
 ·rename_i ds'
  have hd := hx2 ds' rfl
  split at h
  ·rename_i h1 h2 h3
   have h1 := nbeq_eq h1
   have h2 := nbeq_eq h2
   have h3 := nbeq_eq h3
   subst h1
   cases h
   refine ⟨by rw [flatC_len hS, h3]; omega, by rw [AV.cellsA, flatC_len hd, h2], hd, _, .refl _, ?_⟩
   rw [AV.cellsA]
   simp only [splice, List.take_zero, List.nil_append, Nat.zero_add]
   rw [List.drop_of_length_le (by rw [flatC_len hS, flatC_len hd, h2, h3]; exact Nat.le_refl _)]
   simp
  ·cases h
 ·split at h
  ·rename_i hlen
   have hlen := nbeq_eq hlen
   split at h
   ·cases h
   ·rename_i hne
    obtain ⟨ps', hz, g1, g2, g3⟩ := segSpl_ok hS h
    exact ⟨by rw [← hlen]; exact g3 hne, hlen, g2, ps', hz, g1⟩
  ·cases h
theorem storeA_sound (R : RSt M σ a w) {o : Oper} {t : TypeId} {p x : Operand} (ho : o.op = .store t p x) {an : Ann} {out : Out} (h : storeA P σ.obj t (σ.ev p) (σ.ev x) an = some out) (hp : All out.ob)
  (hi : ∃ i, P.info? t = some i) :
  Does P o a w fun v w' => ∃ M', Post M σ w out M' v w' := by
 have run : ∀ (ad : Addr) (w' : World), a.eval p = .pointer (some ad) → (storeVar t ad (a.eval x)).run P w = .ok () w' → (execOp a.eval o).run P w = .ok .skip w' := by
  intro ad w' h1 h2
  simp [execOp, ho, h1, Instr.storeAt, Instr.sureAddr, h2]
 have hr := R.ev p
 have hx := R.ev x
 have hxn := R.evn x
 unfold storeA at h
 split at h
 ·rename_i f i ri sz off hpe hpl
  rw [hpe] at hr
  have kx := CRel.of hx hpl
  generalize hy : a.eval p = y at hr
  cases hr with | fr _ _ _ _ _ b base e =>
  split at h
  ·rename_i n rows r mem'
   split at h
   ·rename_i f' sz' mem ps hL hps
    split at h
    ·rename_i hs
     have hs := nbeq_eq hs
     subst hs
     cases h
     obtain ⟨rfl, hmem, hrow, g1, g2, g3, _⟩ := hp
     have g2 := Nat.le_of_ble_eq_true g2
     have hO := R.ob n _ hL
     obtain ⟨f2, c, T, f3, f4, f5, f6⟩ := fam_at hO hmem e
     rw [cellsP_A hps] at kx
     obtain ⟨c', k1, k2, k3, k4⟩ := storeRow_rel (P := P) f3 f2 f4 f5 f6 hrow kx g1 g2 hi
     refine Does.skip (run _ _ hy k2) ⟨M, Post.write R f3 f2 k1 rfl rfl (by rw [show lk σ.o n = _ from hL]; rfl) ?_ (by simp [AObj.nms])⟩
     have hext := Ext.setRow (M := M) f3 f2 k1
     have hil : i < mem.length := (List.getElem?_eq_some_iff.1 hmem).1
     have hrl : (rows.set ri (splice r off ps)).length = rows.length := by simp
     subst g3
     cases hO with | fam _ _ _ _ bk n1 n2 h0 h1 h2 h3 h4 h5 h6 =>
     have hbk : M.fam f i = some (bk i) := by
      rcases h4 i hil with h4 | ⟨h4, _⟩
      ·rw [h4.1] at e; cases e
      ·exact h4
     have hbk' : bk i = (b, base) := by rw [hbk] at e; exact Option.some.inj e
     refine .fam false f sz (mem.set i (rows.set ri (splice r off ps))) bk n1 n2 h0 h1 h2 (fun j hj => h3 j (by simpa using hj)) (fun j hj => ?_) (fun j k hj hk => h5 j k (by simpa using hj) (by simpa using hk)) (fun j rs hj hfj => ?_)
     ·have hj : j < mem.length := by simpa using hj
      rcases h4 j hj with h4 | h4
      ·left
       refine ⟨h4.1, ?_⟩
       rw [List.getElem?_set]
       split
       ·rename_i hji; subst hji; rw [hbk] at h4; cases h4.1
       ·exact h4.2
      ·exact .inr h4
     ·rw [List.getElem?_set] at hj
      split at hj
      ·rename_i hij
       subst hij
       simp only [hil, if_true, Option.some.injEq] at hj
       subst hj
       rw [hbk']
       exact ⟨c', T, setRow_heap w b c c' T (0, 0) f3, by rw [k1, hrl]; exact f4, k3, k4⟩
      ·rename_i hij
       have hjl : j < mem.length := (List.getElem?_eq_some_iff.1 hj).1
       obtain ⟨c2, T2, q1, q2, q3, q4⟩ := h6 j rs hj hfj
       have hne : (bk j).1 ≠ b := by
        intro hh
        have := h5 j i hjl hil hfj hbk (by rw [hh, hbk'])
        exact hij this.symm
       exact ⟨c2, T2, by rw [setRow_other _ _ _ _ hne]; exact q1, q2, q3, fun k r j p x a1 a2 a3 => (q4 k r j p x a1 a2 a3).mono hext⟩
    ·cases h
   ·cases h
  ·cases h
 ·rename_i n ri sz off hpe hpl
  rw [hpe] at hr
  have kx := CRel.of hx hpl
  generalize hy : a.eval p = y at hr
  cases hr with | ref _ _ _ _ b base e =>
  have key : ∀ (cs : List AV) (c : Array Value) (T : TypeId) (o' : AObj), ri = 0 → (M.β n).2 = some (b, 0) → M.κ b = .own n → w.heap[b]? = some (.cells c T (0, 0)) → CRel M w c cs →
    off + P.cellsOf t ≤ cs.length → (σ.ev x).cellsA.length = P.cellsOf t → out.wr = [(n, o')] → out.v = .undef → (lk σ.o n).isSome →
    (∀ c', c'.size = c.size → CRel M (w.setRow b c') c' (splice cs off (σ.ev x).cellsA) → ORel M (w.setRow b c') n o') → (∀ k ∈ o'.nms, (lk σ.o k).isSome) → (∀ k ∈ nmsL cs, (lk σ.o k).isSome) →
    Does P o a w fun v w' => ∃ M', Post M σ w out M' v w' := by
   intro cs c T o' h0 hβ hκ hb hc hle hlen hw hv hn hobj hon hcn
   subst h0
   rw [e] at hβ; cases hβ
   have hsz : (a.eval x).cells.size = P.cellsOf t := by rw [kx.size, hlen]
   have hle' : off + P.cellsOf t ≤ c.size := by rw [hc.size]; exact hle
   have hs : (splice c.toList off (a.eval x).cells.toList).toArray.size = c.size := by
    rw [List.size_toArray, length_splice]
    ·simp
    ·simp; omega
   refine Does.skip (run _ _ hy ?_) ⟨M, Post.write R hb hκ hs hw hv hn (hobj _ hs ?_) hon⟩
   ·simp only [Nat.zero_mul, Nat.zero_add]
    exact run_storeVar_part hb kx.one hsz (.inr hi) hle'
   ·exact (CRel.over hc kx off (by omega)).mono (Ext.setRow hb hκ hs) fun _ _ => rfl
  split at h
  ·rename_i cs hL
   split at h
   ·rename_i hle
    have hle := Nat.le_of_ble_eq_true hle
    cases h
    cases R.ob n _ hL with | var _ b' c T f1 f2 f3 f4 f5 f6 =>
    have f1' := f1
    rw [e] at f1'; cases f1'
    refine key cs c T _ rfl f1 f2 f3 ⟨f4, f5, f6⟩ hle hp.1 rfl rfl (by rw [show lk σ.o n = _ from hL]; rfl) ?_ ?_ ?_
    ·intro c' hs hc'
     split
     ·rename_i qs hq
      rw [toPVs_map hq] at hc'
      exact .varp qs b c' T f1 f2 (setRow_heap w b c c' T (0, 0) f3) hc'.pvs.1 hc'.pvs.2
     ·exact .var _ b c' T f1 f2 (setRow_heap w b c c' T (0, 0) f3) hc'.size hc'.one hc'.cell
    ·intro k hk
     split at hk
     ·simp [AObj.nms] at hk
     ·simp only [AObj.nms] at hk
      rcases splice_nms hk with hk | hk
      ·exact R.wo n _ hL k (by simpa [AObj.nms] using hk)
      ·exact hxn k (cellsA_nms hk)
    ·intro k hk; exact R.wo n _ hL k (by simpa [AObj.nms] using hk)
   ·cases h
  ·rename_i cs hL
   cases R.ob n _ hL with | varp _ b' c T f1 f2 f3 f4 f5 =>
   have f1' := f1
   rw [e] at f1'; cases f1'
   have hcr : CRel M w c (cs.map .pv) := CRel.ofP f4 f5
   have hns : (lk σ.o n).isSome := by rw [show lk σ.o n = _ from hL]; rfl
   split at h
   ·rename_i ps ds hps
    cases h
    obtain ⟨g1, g2, g3, _⟩ := hp
    refine key _ c T _ rfl f1 f2 f3 hcr (by simpa using g2) (by rw [cellsP_A hps]; simpa using g1) rfl rfl hns ?_ (by simp [AObj.nms]) (by rw [pvs_nms]; simp)
    intro c' hs hc'
    rw [cellsP_A hps, ← splice_map, g3] at hc'
    exact .varp _ b c' T f1 f2 (setRow_heap w b c c' T (0, 0) f3) hc'.pvs.1 hc'.pvs.2
   ·rename_i ps hps
    split at h
    ·rename_i hle ho0 hall
     have hle := Nat.le_of_ble_eq_true hle
     have ho0 := nbeq_eq ho0
     have hall := nbeq_eq hall
     subst ho0
     cases h
     have g1 := hp.1
     refine key _ c T _ rfl f1 f2 f3 hcr (by simpa using hle) (by rw [cellsP_A hps]; simpa using g1) rfl rfl hns ?_ (by simp [AObj.nms]) (by rw [pvs_nms]; simp)
     intro c' hs hc'
     rw [cellsP_A hps, ← splice_map] at hc'
     have : splice cs 0 ps = ps := by
      have hlp : ps.length = P.cellsOf t := g1
      unfold splice; simp; omega
     rw [this] at hc'
     exact .varp _ b c' T f1 f2 (setRow_heap w b c c' T (0, 0) f3) hc'.pvs.1 hc'.pvs.2
    ·rename_i hle _
     have hle := Nat.le_of_ble_eq_true hle
     cases h
     have g1 := hp.1
     refine key _ c T _ rfl f1 f2 f3 hcr (by simpa using hle) (by rw [cellsP_A hps]; simpa using g1) rfl rfl hns ?_ (by simp [AObj.nms]) (by rw [pvs_nms]; simp)
     intro c' hs hc'
     rw [cellsP_A hps, ← splice_map] at hc'
     exact .varp _ b c' T f1 f2 (setRow_heap w b c c' T (0, 0) f3) hc'.pvs.1 hc'.pvs.2
    ·cases h
   ·rename_i hps
    split at h
    ·rename_i hle
     have hle := Nat.le_of_ble_eq_true hle
     cases h
     refine key _ c T _ rfl f1 f2 f3 hcr (by simpa using hle) hp.1 rfl rfl hns ?_ ?_ (by rw [pvs_nms]; simp)
     ·intro c' hs hc'
      exact .var _ b c' T f1 f2 (setRow_heap w b c c' T (0, 0) f3) hc'.size hc'.one hc'.cell
     ·intro k hk
      simp only [AObj.nms] at hk
      rcases splice_nms hk with hk | hk
      ·rw [pvs_nms] at hk; cases hk
      ·exact hxn k (cellsA_nms hk)
    ·cases h
   ·cases h
  ·rename_i sz' rows hL
   split at h
   ·rename_i r r' rs ps0 hs hps
    have hs := nbeq_eq hs
    subst hs
    cases h
    obtain ⟨hrow, g1, g2, rfl, g3, _⟩ := hp
    have g2 := Nat.le_of_ble_eq_true g2
    have hA := cellsP_A hps
    have hsz : (a.eval x).cells.size = P.cellsOf t := by rw [kx.size, hA]; simpa using g1
    rw [hA] at kx
    have kx := kx.nz
    generalize hpsn : ps0.map nz = ps at kx g3
    have hps' : ps.length = P.cellsOf t := by rw [← hpsn]; simpa using g1
    cases R.ob n _ hL with
    | sl0 => simp at hrow
    | sl _ _ _ b' base' c T h0 f1 f2 f3 f4 f5 f6 f7 =>
    have f1' := f1
    rw [e] at f1'; cases f1'
    have hri : ri < rows.length := (List.getElem?_eq_some_iff.1 hrow).1
    have hlen : r.length = sz := f5 r (List.mem_of_getElem? hrow)
    have hle : base + ri * sz + sz ≤ c.size := by
     have : (ri + 1) * sz ≤ rows.length * sz := Nat.mul_le_mul_right _ hri
     rw [Nat.add_mul] at this; omega
    have hs : (splice c.toList (base + ri * sz + off) (a.eval x).cells.toList).toArray.size = c.size := by
     rw [List.size_toArray, length_splice]
     ·simp
     ·simp; omega
    have kp := kx.pvs
    refine Does.skip (run _ _ hy (run_storeVar_part f3 kx.one hsz (.inr hi) (by omega))) ⟨M, Post.write R f3 f2 hs rfl rfl (by rw [show lk σ.o n = _ from hL]; rfl) ?_ (by simp [AObj.nms])⟩
    have hext := Ext.setRow (M := M) f3 f2 hs
    refine .sl false sz rs b base _ T h0 f1 f2 (setRow_heap w b c _ T (0, 0) f3) ?_ ?_ ?_ (by rw [← g3]; simpa using f7)
    ·rw [hs, ← g3]; simpa using f4
    ·intro q hq
     rw [← g3] at hq
     rcases List.mem_or_eq_of_mem_set hq with hq | rfl
     ·exact f5 q hq
     ·rw [length_splice _ _ _ (by omega)]; exact hlen
    ·intro i q j pp xx hq hj hx'
     rw [← g3, List.getElem?_set] at hq
     have hjl : j < q.length := (List.getElem?_eq_some_iff.1 hj).1
     rw [List.getElem?_toArray, getElem?_splice _ _ _ (by simp; omega)] at hx'
     simp only [Array.length_toList, hsz] at hx'
     split at hq
     ·rename_i hii
      subst hii
      simp only [hri, if_true, Option.some.injEq] at hq
      subst hq
      rw [getElem?_splice _ _ _ (by omega)] at hj
      rw [length_splice _ _ _ (by omega)] at hjl
      rw [hps'] at hj
      split at hx'
      ·rename_i hc
       rw [if_pos (by omega)] at hj
       have : base + ri * sz + j - (base + ri * sz + off) = j - off := by omega
       rw [this, Array.getElem?_toList] at hx'
       exact (kp.2 _ xx pp hx' hj).mono hext
      ·rename_i hc
       rw [if_neg (by omega)] at hj
       rw [Array.getElem?_toList] at hx'
       exact (f6 ri r j pp xx hrow hj hx').mono hext
     ·rename_i hii
      have hil : i < rows.length := (List.getElem?_eq_some_iff.1 hq).1
      have hql : q.length = sz := f5 q (List.mem_of_getElem? hq)
      rw [if_neg, Array.getElem?_toList] at hx'
      ·exact (f6 i q j pp xx hq hj hx').mono hext
      ·rintro ⟨c1, c2⟩
       rcases Nat.lt_or_gt_of_ne hii with hlt | hlt
       ·have : (ri + 1) * sz ≤ i * sz := Nat.mul_le_mul_right _ hlt
        rw [Nat.add_mul] at this; omega
       ·have : (i + 1) * sz ≤ ri * sz := Nat.mul_le_mul_right _ hlt
        rw [Nat.add_mul] at this; omega
   ·cases h
  ·rename_i cs hL
   cases R.ob n _ hL with | svar _ hO hS =>
   cases hO with | var _ b' c T f1 f2 f3 f4 f5 f6 =>
   have f1' := f1
   rw [e] at f1'; cases f1'
   have hns : (lk σ.o n).isSome := by rw [show lk σ.o n = _ from hL]; rfl
   have hc : CRel M w c (flatC cs) := ⟨f4, f5, f6⟩
   have key2 : ∀ (ds : List AV), ri * sz + off + P.cellsOf t ≤ (flatC cs).length → (σ.ev x).cellsA.length = P.cellsOf t → out.wr = [(n, .svar ds)] → out.v = .undef → SegOk ds →
     (∀ c', c'.size = c.size → CRel M (w.setRow b c') c' (splice (flatC cs) (ri * sz + off) (σ.ev x).cellsA) → CRel M (w.setRow b c') c' (flatC ds)) → (∀ k ∈ nmsL (flatC ds), k ∈ nmsL (flatC cs) ∨ k ∈ nmsL (σ.ev x).cellsA) →
     Does P o a w fun v w' => ∃ M', Post M σ w out M' v w' := by
    intro ds hle hlen hw hv hds hobj hdn
    have hsz : (a.eval x).cells.size = P.cellsOf t := by rw [kx.size, hlen]
    have hle' : ri * sz + off + P.cellsOf t ≤ c.size := by rw [hc.size]; exact hle
    have hs : (splice c.toList (ri * sz + off) (a.eval x).cells.toList).toArray.size = c.size := by
     rw [List.size_toArray, length_splice]
     ·simp
     ·simp; omega
    refine Does.skip (run _ _ hy ?_) ⟨M, Post.write R f3 f2 hs hw hv hns (o := .svar ds) ?_ ?_⟩
    ·rw [Nat.zero_add]
     exact run_storeVar_part f3 kx.one hsz (.inr hi) hle'
    ·have h9 := hobj _ hs ((CRel.over hc kx (ri * sz + off) (by omega)).mono (Ext.setRow f3 f2 hs) fun _ _ => rfl)
     exact .svar _ (.var _ b _ T f1 f2 (setRow_heap w b c _ T (0, 0) f3) h9.size h9.one h9.cell) hds
    ·intro k hk
     simp only [AObj.nms] at hk
     rcases hdn k (flatC_nms.2 hk) with hk | hk
     ·exact R.wo n _ hL k (by simp only [AObj.nms]; exact flatC_nms.1 hk)
     ·exact hxn k (cellsA_nms hk)
   split at h
   ·rename_i hz
    have hz := nbeq_eq hz
    subst hz
    simp only [Option.map_eq_some_iff] at h
    obtain ⟨ds, h, rfl⟩ := h
    obtain ⟨k1, k2, k3, ps', hz, k4⟩ := segStore_ok (P := P) hS (CRel.of hx hpl) (fun m sz rows e => by rw [e] at hx; exact hx.ar_ok) (fun ds e => by rw [e] at hx; exact hx.sagg_ok) h
    refine key2 ds (by simpa using k1) k2 rfl rfl k3 (fun c' hs hc' => ?_) (fun k hk => ?_)
    ·rw [k4]; exact (hz.splice off).rel (by simpa using hc')
    ·rw [k4] at hk; exact (splice_nms hk).imp id hz.nms
   ·rename_i r r' rs _
    split at h
    ·rename_i m s rows rem ps0 hseg hps
     split at h
     ·rename_i hs
      have hs := nbeq_eq hs
      subst hs
      cases h
      obtain ⟨hrow, g1, g2, g3, g4, _⟩ := hp
      have g2 := Nat.le_of_ble_eq_true g2
      obtain ⟨pre, post, q1, q2, q3, q4, q5⟩ := segAt_ar hS hseg
      obtain ⟨pre2, post2, u1, u2, u3⟩ := flat_split (hS _ _ _ q4).2 hrow
      have hrl : r.length = s := (hS _ _ _ q4).2 _ (List.mem_of_getElem? hrow)
      have hmid : flatC cs = (pre ++ pre2.map .pv) ++ (r.map .pv ++ (post2.map .pv ++ post)) := by
       rw [q1, u1]; simp
      have hoff : ri * s + off = (pre ++ pre2.map AV.pv).length + rem := by simp [u2]; omega
      have hrs : rs.length = m := by rw [← g4, List.length_set]; exact (hS _ _ _ q4).1
      have hr' : r'.length = s := by rw [← g3, length_splice _ _ _ (by rw [List.length_map]; omega), hrl]
      have hrs2 : ∀ x ∈ rs, x.length = s := by
       intro x hx
       rw [← g4] at hx
       rcases List.mem_or_eq_of_mem_set hx with hx | rfl
       ·exact (hS _ _ _ q4).2 x hx
       ·exact hr'
      obtain ⟨k1, k2⟩ := q5 rs hrs hrs2
      have hflat : flatC (segPut cs off rs) = splice (flatC cs) (ri * s + off) ((ps0.map nz).map .pv) := by
       rw [k1, hmid, hoff, splice_mid _ _ _ _ _ (by simp; omega), ← splice_map, g3, ← g4, u3]
       simp
      refine key2 _ ?_ (by rw [cellsP_A hps, List.length_map]; exact g1) rfl rfl k2 (fun c' hs hc' => ?_) (fun k hk => ?_)
      ·rw [hmid, hoff]; simp; omega
      ·rw [hflat]
       rw [cellsP_A hps] at hc'
       have hle : ri * s + off + ps0.length ≤ (flatC cs).length := by rw [hmid, hoff]; simp; omega
       refine ⟨by rw [hc'.size, length_splice _ _ _ (by simpa using hle), length_splice _ _ _ (by simpa using hle)], hc'.one, fun i v u e1 e2 => ?_⟩
       rw [getElem?_splice _ _ _ (by simpa using hle)] at e2
       have hold := fun z => hc'.cell i v z e1
       rw [getElem?_splice _ _ _ (by simpa using hle)] at hold
       simp only [List.length_map] at e2 hold
       split at e2
       ·rename_i hcnd
        simp only [List.map_map, List.getElem?_map, Option.map_eq_some_iff] at e2
        obtain ⟨p0, e2, rfl⟩ := e2
        have := hold (.pv p0) (by rw [if_pos hcnd]; simp [e2])
        cases this with | pv _ _ hpp => exact .pv _ _ (nz_rel hpp)
       ·rename_i hcnd
        exact hold u (by rw [if_neg hcnd]; exact e2)
      ·rw [hflat] at hk
       rcases splice_nms hk with hk | hk
       ·exact .inl hk
       ·rw [nmsL_pvs] at hk; cases hk
     ·cases h
    ·cases h
   ·cases h
  ·cases h
 ·cases h
theorem fseg_mem : ∀ {gs : List (Nat × Nat × Nat)} {off base n : Nat}, fseg gs off = some (base, n) → (off, base, n) ∈ gs
 | [], _, _, _, h => by cases h
 | (o, b, k) :: r, off, base, n, h => by
  simp only [fseg] at h
  split at h
  ·rename_i e; have := nbeq_eq e; subst this; cases h; exact .head _
  ·exact .tail _ (fseg_mem h)
theorem seg_lt {cs : List AV} (hS : SegOk cs) {off m : Nat} {rows : List (List PV)} (hseg : segAt cs off = some (.ar m 1 rows, 0)) {ri : Nat} (hri : ri < m) : off + ri < (flatC cs).length := by
 obtain ⟨pre, post, g1, g2, g3, g4, g5⟩ := segAt_ar hS hseg
 have hr := hS _ _ _ g4
 have hl : rows.flatten.length = m * 1 := by rw [flat_len hr.2, hr.1]
 rw [g1]
 simp only [List.length_append, List.length_map, hl]
 omega
theorem seg_get {cs : List AV} (hS : SegOk cs) {off m : Nat} {rows : List (List PV)} (hseg : segAt cs off = some (.ar m 1 rows, 0)) {ri : Nat} {p : PV} (hrow : rows[ri]? = some [p]) : (flatC cs)[off + ri]? = some (.pv p) := by
 obtain ⟨pre, post, g1, g2, g3, g4, g5⟩ := segAt_ar hS hseg
 obtain ⟨pre2, post2, q1, q2, q3⟩ := flat_split (hS _ _ _ g4).2 hrow
 rw [g1, q1]
 have : off + ri = (pre ++ pre2.map AV.pv).length := by simp [q2]; omega
 rw [this]
 simp
theorem nodup_get {α : Type} : ∀ {l : List α} {i j : Nat} {x : α}, l.Nodup → l[i]? = some x → l[j]? = some x → i = j
 | [], _, _, _, _, h, _ => by simp at h
 | y :: r, i, j, x, hn, h1, h2 => by
  rw [List.nodup_cons] at hn
  cases i with
  | zero => cases j with
   | zero => rfl
   | succ j =>
    simp at h1 h2; subst h1
    exact absurd (List.mem_of_getElem? h2) hn.1
  | succ i => cases j with
   | zero =>
    simp at h1 h2; subst h2
    exact absurd (List.mem_of_getElem? h1) hn.1
   | succ j => simp at h1 h2; rw [nodup_get hn.2 h1 h2]
theorem hw_slice {m s : Nat} {v : Value} (h : VRel M w v (.hw m s)) : ∃ ad ln cp, v = .slice ad ln cp := by
 cases h with | hw _ _ _ h =>
 generalize (M.β m).1 = k at h
 cases h with
 | hd0 => exact ⟨_, _, _, rfl⟩
 | hd => exact ⟨_, _, _, rfl⟩
theorem ldO_sound (R : RSt M σ a w) {o : Oper} {t : TypeId} {p : Operand} (ho : o.op = .load t p) {j : Nat} {out : Out} (h : ldO P σ.obj t (σ.ev p) j = some out) (hp : All out.ob) :
  Does P o a w fun v w' => ∃ M', Post M σ w out M' v w' := by
 have hr := R.ev p
 unfold ldO at h
 split at h
 ·rename_i n ri sz off hpe
  rw [hpe] at hr
  generalize hy : a.eval p = y at hr
  cases hr with | ref _ _ _ _ b base e =>
  split at h
  ·rename_i cs gs mem os hL
   split at h
   ·rename_i i m bs k k' rows hj hfs hseg hsz hg
    have hsz := nbeq_eq hsz
    subst hsz
    split at h
    case h_2 => cases h
    rename_i hkk
    have hkk := nbeq_eq hkk
    subst hkk
    cases h
    obtain ⟨hri, hii, _⟩ := hp
    have hO := R.ob n _ hL
    cases hO with | own _ _ _ _ b' c T f0 f1 f2 f3 f4 f4' f5 f6 f7 =>
    rw [e] at f1; cases f1
    cases f0 with | svar _ hv hS =>
    cases hv with | var _ b2 c2 T2 g1 g2 g3 g4 g5 g6 =>
    rw [e] at g1; cases g1
    rw [f3] at g3; cases g3
    have ht : TokAt gs (off + ri) i := ⟨off, bs, k, ri, fseg_mem hfs, hri, rfl, hii.symm⟩
    have hlt : off + ri < c.size := by rw [g4]; exact seg_lt hS hseg hri
    have hx : c[off + ri]? = some c[off + ri] := by simp [hlt]
    have hval := (f6 _ _ _ ht hx).1 m (List.mem_of_getElem? hj)
    refine Does.value (v := c[off + ri]) (w' := w) ?_ ⟨M, Post.same R rfl hval ?_⟩
    ·have : (loadVar t ⟨b, 0 + ri * 1 + off, none⟩).run P w = .ok c[off + ri] w := by
      unfold loadVar
      rw [Sem.run_bind, run_isAggT hg, Result.andThen_ok]
      simp only [Bool.false_eq_true, if_false]
      rw [run_load, cell_block f3, show 0 + ri * 1 + off = off + ri by omega, hx]
     rw [show 0 + ri * 1 + off = ri + off by omega] at this hy
     simp [execOp, ho, hy, Instr.loadAt, Instr.sureAddr, this]
    ·intro k hk
     simp only [AV.nms, List.mem_singleton] at hk
     subst hk
     exact R.wo n _ hL k (by simp only [AObj.nms, List.mem_append]; exact .inr (List.mem_map.2 ⟨_, List.mem_of_getElem? hj, rfl⟩))
   ·cases h
  ·rename_i rows m hL
   split at h
   ·rename_i hsz hoff hg
    have hsz := nbeq_eq hsz
    have hoff := nbeq_eq hoff
    subst hsz; subst hoff
    cases h
    obtain ⟨hrow, _⟩ := hp
    cases R.ob n _ hL with | slo _ _ f0 f1 =>
    cases f0 with
    | sl0 => simp at hrow
    | sl _ _ _ b' base' c T g0 g1 g2 g3 g4 g5 g6 g7 =>
    rw [e] at g1; cases g1
    have hlt : base + ri < c.size := by have := (List.getElem?_eq_some_iff.1 hrow).1; omega
    have hx : c[base + ri]? = some c[base + ri] := by simp [hlt]
    have hval := f1 b base c T ri _ e g3 hrow hx
    refine Does.value (v := c[base + ri]) (w' := w) ?_ ⟨M, Post.same R rfl hval ?_⟩
    ·have : (loadVar t ⟨b, base + ri * 1 + 0, none⟩).run P w = .ok c[base + ri] w := by
      unfold loadVar
      rw [Sem.run_bind, run_isAggT hg, Result.andThen_ok]
      simp only [Bool.false_eq_true, if_false]
      rw [run_load, cell_block g3, show base + ri * 1 + 0 = base + ri by omega, hx]
     simp only [Nat.mul_one, Nat.add_zero] at this hy
     simp [execOp, ho, hy, Instr.loadAt, Instr.sureAddr, this]
    ·intro k hk
     simp only [AV.nms, List.mem_singleton] at hk
     subst hk
     exact R.wo n _ hL k (by simp [AObj.nms])
   ·cases h
  ·cases h
 ·cases h
theorem stO_sound (R : RSt M σ a w) {o : Oper} {t : TypeId} {p x : Operand} (ho : o.op = .store t p x) {j : Nat} {out : Out} (h : stO P σ.obj t (σ.ev p) (σ.ev x) j = some out) (hp : All out.ob)
  (hi : ∃ i, P.info? t = some i) : Does P o a w fun v w' => ∃ M', Post M σ w out M' v w' := by
 have hr := R.ev p
 have hx := R.ev x
 have hxn := R.evn x
 unfold stO at h
 split at h
 ·rename_i n ri sz off m' s hpe hxe
  rw [hpe] at hr
  rw [hxe] at hx hxn
  generalize hy : a.eval p = y at hr
  cases hr with | ref _ _ _ _ b base e =>
  split at h
  ·rename_i cs gs mem os hL
   split at h
   ·rename_i i m0 bs k0 k0' rows hj hfs hseg hsz hct
    split at h
    case h_2 => cases h
    rename_i hkk
    have hkk := nbeq_eq hkk
    subst hkk
    simp only [Bool.and_eq_true] at hsz
    obtain ⟨hsz, hs1⟩ := hsz
    have hsz := nbeq_eq hsz
    have hs1 := nbeq_eq hs1
    have hct := nbeq_eq hct
    subst hsz; subst hs1
    cases h
    obtain ⟨hri, hii, hrow, _⟩ := hp
    have hO := R.ob n _ hL
    cases hO with | own _ _ _ _ b' c T f0 f1 f2 f3 f4 f4' f5 f6 f7 =>
    have f1' := f1
    rw [e] at f1'; cases f1'
    cases f0 with | svar _ hv hS =>
    cases hv with | var _ b2 c2 T2 g1 g2 g3 g4 g5 g6 =>
    rw [f1] at g1; cases g1
    rw [f3] at g3; cases g3
    have ht : TokAt gs (off + ri) i := ⟨off, bs, k0, ri, fseg_mem hfs, hri, rfl, hii.symm⟩
    have hlt : off + ri < c.size := by rw [g4]; exact seg_lt hS hseg hri
    obtain ⟨ad, ln, cp, hv⟩ : ∃ ad ln cp, a.eval x = .slice ad ln cp := by
     exact hw_slice hx
    rw [hv] at hx
    have hcells : (Value.slice ad ln cp).cells = #[.slice ad ln cp] := rfl
    have hlist : splice c.toList (off + ri) [Value.slice ad ln cp] = (c.set (off + ri) (.slice ad ln cp) hlt).toList := by
     unfold splice
     rw [Array.toList_set]
     simp [List.set_eq_take_append_cons_drop, hlt]
    have hs : (splice c.toList (off + ri) [Value.slice ad ln cp]).toArray.size = c.size := by rw [hlist]; simp
    have hget : ∀ k, (splice c.toList (off + ri) [Value.slice ad ln cp]).toArray[k]? = if k = off + ri then some (.slice ad ln cp) else c[k]? := by
     intro k
     rw [hlist]
     simp only [List.getElem?_toArray, Array.getElem?_toList]
     rw [Array.getElem?_set]
     by_cases hk : off + ri = k
     ·subst hk; simp
     ·simp [hk, Ne.symm hk]
    have hext := Ext.setRow (M := M) f3 f2 hs
    have hb' := setRow_heap w b c (splice c.toList (off + ri) [Value.slice ad ln cp]).toArray T (0, 0) f3
    have hrun := run_storeVar_part (P := P) (t := t) (off := off + ri) f3 (y := .slice ad ln cp) (by rw [hcells]; simp [Value.oneCell']) (by rw [hcells, hct]; rfl) (.inr hi) (by omega)
    have hmemj : (i, m0) ∈ os := List.mem_of_getElem? hj
    have hjl := (List.getElem?_eq_some_iff.1 hj).1
    have hfst : (os.set j (i, m')).map Prod.fst = os.map Prod.fst := by
     rw [List.map_set]
     refine List.ext_getElem? fun k => ?_
     rw [List.getElem?_set]
     split
     ·rename_i hk; subst hk; rw [List.getElem?_map, hj]; simp [hjl]
     ·rfl
    have hmem' : ∀ q ∈ os.set j (i, m'), q = (i, m') ∨ q ∈ os := fun q hq => (List.mem_or_eq_of_mem_set hq).symm
    have himem : i ∈ os.map Prod.fst := List.mem_map.2 ⟨_, hmemj, rfl⟩
    refine Does.skip ?_ ⟨M, Post.write R f3 f2 hs rfl rfl (by rw [show lk σ.o n = _ from hL]; rfl) (o := .own cs gs mem (os.set j (i, m'))) ?_ ?_⟩
    ·rw [show 0 + ri * 1 + off = off + ri by omega] at hy
     have hc2 : ([Value.slice ad ln cp] : List Value) = (Value.slice ad ln cp).cells.toList := rfl
     rw [hc2]
     simp [execOp, ho, hy, hv, Instr.storeAt, Instr.sureAddr, hrun]
    ·refine .own cs gs mem _ b _ T (.svar cs (.var _ b _ T f1 f2 hb' (hs.trans g4) ?_ ?_) hS) f1 f2 hb' f4 f4' (by rw [hfst]; exact f5) ?_ ?_
     ·intro v hv
      obtain ⟨k, hk⟩ := Array.getElem?_of_mem hv
      rw [hget k] at hk
      split at hk
      ·cases hk; rfl
      ·exact g5 v (Array.mem_of_getElem? hk)
     ·intro k v u h1 h2
      rw [hget k] at h1
      split at h1
      ·rename_i hk
       subst hk
       cases h1
       have : u = .pv (.ow 0) := by rw [seg_get hS hseg hrow] at h2; exact (Option.some.inj h2).symm
       subst this
       exact .pv _ _ (.ow _ _ _ _)
      ·exact (g6 k v u h1 h2).mono hext fun _ _ => rfl
     ·intro k i' v tk hv'
      rw [hget k] at hv'
      split at hv'
      ·rename_i hk
       subst hk
       cases hv'
       have hii' : i' = i := f4' _ _ _ tk ht
       subst hii'
       refine ⟨fun m hm => ?_, fun hn => absurd (by rw [hfst]; exact himem) hn⟩
       rcases hmem' _ hm with hq | hq
       ·cases hq; exact hx.mono hext fun _ _ => rfl
       ·-- the number stands once
        have hk2 : m = m' := by
         obtain ⟨q, hq1⟩ := List.getElem?_of_mem hm
         have h1 : ((os.set j (i', m')).map Prod.fst)[q]? = some i' := by rw [List.getElem?_map, hq1]; rfl
         have h2 : ((os.set j (i', m')).map Prod.fst)[j]? = some i' := by rw [List.getElem?_map, List.getElem?_set_self hjl]; rfl
         have hnd : ((os.set j (i', m')).map Prod.fst).Nodup := by rw [hfst]; exact f5
         have hqj : q = j := nodup_get hnd h1 h2
         subst hqj
         rw [List.getElem?_set_self hjl] at hq1
         simpa using hq1.symm
        subst hk2
        exact hx.mono hext fun _ _ => rfl
      ·rename_i hk
       have hii' : i' ≠ i := by rintro rfl; exact hk (f4 _ _ _ tk ht)
       obtain ⟨h1, h2⟩ := f6 k i' v tk hv'
       refine ⟨fun m hm => ?_, fun hn rows hr => ?_⟩
       ·rcases hmem' _ hm with hq | hq
        ·cases hq; exact absurd rfl hii'
        ·exact (h1 m hq).mono hext fun _ _ => rfl
       ·refine (h2 (by rw [← hfst]; exact hn) rows hr).wr hext (fun b1 hb1 hne => ?_)
        exact setRow_other _ _ _ _ hne
     ·intro k k' i1 i2 a1 a2 l1 l2 p1 p2 hkk t1 t2 n1 n2 r1 r2 v1 v2
      rw [hfst] at n1 n2
      rw [hget k] at v1
      rw [hget k'] at v2
      split at v1
      ·rename_i hk
       subst hk
       have : i1 = i := f4' _ _ _ t1 ht
       exact absurd (this ▸ himem) n1
      ·split at v2
       ·rename_i hk
        subst hk
        have : i2 = i := f4' _ _ _ t2 ht
        exact absurd (this ▸ himem) n2
       ·exact f7 k k' i1 i2 a1 a2 l1 l2 p1 p2 hkk t1 t2 n1 n2 r1 r2 v1 v2
    ·intro k hk
     simp only [AObj.nms, List.mem_append] at hk
     rcases hk with hk | hk
     ·exact R.wo n _ hL k (by simp only [AObj.nms, List.mem_append]; exact .inl hk)
     ·obtain ⟨q, hq, rfl⟩ := List.mem_map.1 hk
      rcases hmem' _ hq with hq | hq
      ·rw [hq]; exact hxn m' (by simp [AV.nms])
      ·exact R.wo n _ hL q.2 (by simp only [AObj.nms, List.mem_append]; exact .inr (List.mem_map.2 ⟨_, hq, rfl⟩))
   ·cases h
  ·rename_i rows m0 hL
   split at h
   case h_2 => cases h
   rename_i hsz hs1 hoff hct
   have hsz := nbeq_eq hsz
   have hs1 := nbeq_eq hs1
   have hoff := nbeq_eq hoff
   have hct := nbeq_eq hct
   subst hsz; subst hs1; subst hoff
   cases h
   obtain ⟨hrow, huni, _⟩ := hp
   cases R.ob n _ hL with | slo _ _ f0 f1 =>
   cases f0 with
   | sl0 => simp at hrow
   | sl _ _ _ b' base' c T g0 g1 g2 g3 g4 g5 g6 g7 =>
   have g1' := g1
   rw [e] at g1'; cases g1'
   have hri := (List.getElem?_eq_some_iff.1 hrow).1
   have hlt : base + ri < c.size := by omega
   obtain ⟨ad, ln, cp, hv⟩ : ∃ ad ln cp, a.eval x = .slice ad ln cp := by
    exact hw_slice hx
   rw [hv] at hx
   have hcells : (Value.slice ad ln cp).cells = #[.slice ad ln cp] := rfl
   have hlist : splice c.toList (base + ri) [Value.slice ad ln cp] = (c.set (base + ri) (.slice ad ln cp) hlt).toList := by
    unfold splice
    rw [Array.toList_set]
    simp [List.set_eq_take_append_cons_drop, hlt]
   have hs : (splice c.toList (base + ri) [Value.slice ad ln cp]).toArray.size = c.size := by rw [hlist]; simp
   have hget : ∀ k, (splice c.toList (base + ri) [Value.slice ad ln cp]).toArray[k]? = if k = base + ri then some (.slice ad ln cp) else c[k]? := by
    intro k
    rw [hlist]
    simp only [List.getElem?_toArray, Array.getElem?_toList]
    rw [Array.getElem?_set]
    by_cases hk : base + ri = k
    ·subst hk; simp
    ·simp [hk, Ne.symm hk]
   have hext := Ext.setRow (M := M) g3 g2 hs
   have hb' := setRow_heap w b c (splice c.toList (base + ri) [Value.slice ad ln cp]).toArray T (0, 0) g3
   have hrun := run_storeVar_part (P := P) (t := t) (off := base + ri) g3 (y := .slice ad ln cp) (by rw [hcells]; simp [Value.oneCell']) (by rw [hcells, hct]; rfl) (.inr hi) (by omega)
   refine Does.skip ?_ ⟨M, Post.write R g3 g2 hs rfl rfl (by rw [show lk σ.o n = _ from hL]; rfl) (o := .slo rows m') ?_ ?_⟩
   ·rw [show base + ri * 1 + 0 = base + ri by omega] at hy
    have hc2 : ([Value.slice ad ln cp] : List Value) = (Value.slice ad ln cp).cells.toList := rfl
    rw [hc2]
    simp [execOp, ho, hy, hv, Instr.storeAt, Instr.sureAddr, hrun]
   ·refine .slo rows m' (.sl false 1 rows b base _ T g0 g1 g2 hb' (by rw [hs]; exact g4) g5 (fun i r j p x h1 h2 h3 => ?_) g7) fun b2 base2 c2 T2 i x h1 h2 h3 h4 => ?_
    ·rw [hget] at h3
     split at h3
     ·rename_i hk
      cases h3
      have hj : j = 0 := by have := g5 r (List.mem_of_getElem? h1); have := (List.getElem?_eq_some_iff.1 h2).1; omega
      subst hj
      have hii : i = ri := by omega
      subst hii
      rw [hrow] at h1; cases h1
      simp only [List.getElem?_cons_zero, Option.some.injEq] at h2
      subst h2
      exact .ow _ _ _ _
     ·exact (g6 i r j p x h1 h2 h3).mono hext
    ·rw [g1] at h1; cases h1
     rw [hb'] at h2; cases h2
     have := huni i h3
     subst this
     rw [hget, if_pos rfl] at h4
     cases h4
     exact hx.mono hext fun _ _ => rfl
   ·intro k hk
    simp only [AObj.nms, List.mem_singleton] at hk
    subst hk
    exact hxn k (by simp [AV.nms])
  ·cases h
 ·cases h
def St.strip (σ : St) : St := { σ with o := σ.o.map fun q => (q.1, stripO q.2) }
theorem lk_strip : ∀ (l : List (Nat × AObj)) (n : Nat), lk (l.map fun q => (q.1, stripO q.2)) n = (lk l n).map stripO
 | [], _ => rfl
 | (k, o) :: r, n => by
  simp only [List.map_cons, lk]
  cases Nat.beq k n with
  | true => rfl
  | false => exact lk_strip r n
theorem ORel.strip {n : Nat} {o : AObj} (h : ORel M w n o) : ORel M w n (stripO o) := by
 cases h with
 | own _ _ _ _ _ _ _ f0 => exact f0
 | slo _ _ f0 => exact f0
 | svar cs h1 h2 => exact .svar cs h1 h2
 | var cells b c T e1 e2 e3 e4 e5 e6 => exact .var cells b c T e1 e2 e3 e4 e5 e6
 | varp ps b c T e1 e2 e3 e4 e5 => exact .varp ps b c T e1 e2 e3 e4 e5
 | sl0 fz sz e0 e1 e2 => exact .sl0 fz sz e0 e1 e2
 | sl fz sz rows b base c T h0 e1 e2 e3 e4 e5 e6 e7 => exact .sl fz sz rows b base c T h0 e1 e2 e3 e4 e5 e6 e7
 | mp fz g rg ks rows b es clock e1 e2 e3 e4 e5 e6 e7 e8 e9 e10 => exact .mp fz g rg ks rows b es clock e1 e2 e3 e4 e5 e6 e7 e8 e9 e10
 | it m nn seen b bm e1 e2 e3 e4 => exact .it m nn seen b bm e1 e2 e3 e4
 | fam fz f sz mem bk n1 n2 h0 h1 h2 h3 h4 h5 h6 => exact .fam fz f sz mem bk n1 n2 h0 h1 h2 h3 h4 h5 h6
 | varf ps b c T e1 e2 e3 e4 e5 => exact .varf ps b c T e1 e2 e3 e4 e5
 | lp ps asg bdy nt ks vs js p l ts fn D e1 e2 e3 e4 e5 e6 => exact .lp ps asg bdy nt ks vs js p l ts fn D e1 e2 e3 e4 e5 e6
 | dead => exact .dead
theorem strip_nms {o : AObj} {n : Nat} (h : n ∈ (stripO o).nms) : n ∈ o.nms := by
 cases o <;> first | exact h | skip
 ·simp only [stripO, AObj.nms, List.mem_append] at h ⊢
  exact .inl h
 ·simp [stripO, AObj.nms] at h
theorem RSt.strip (R : RSt M σ a w) : RSt M σ.strip a w := by
 have dom : ∀ n, (lk σ.o n).isSome → (lk σ.strip.o n).isSome := fun n hn => by
  show (lk (σ.o.map _) n).isSome
  rw [lk_strip]; simpa using hn
 refine ⟨R.sz, R.df, R.tm, ?_, fun t v h n hn => dom n (R.wt t v h n hn), ?_⟩
 ·intro n o h
  have h2 : lk (σ.o.map fun q => (q.1, stripO q.2)) n = some o := h
  rw [lk_strip, Option.map_eq_some_iff] at h2
  obtain ⟨o', h3, rfl⟩ := h2
  exact (R.ob n o' h3).strip
 ·intro n o h m hm
  have h2 : lk (σ.o.map fun q => (q.1, stripO q.2)) n = some o := h
  rw [lk_strip, Option.map_eq_some_iff] at h2
  obtain ⟨o', h3, rfl⟩ := h2
  exact dom m (R.wo n o' h3 m (strip_nms hm))
theorem strip_obj : σ.strip.obj = fun n => (σ.obj n).map stripO := by
 funext n
 exact lk_strip σ.o n
theorem loadS_sound (R : RSt M σ a w) {o : Oper} {t : TypeId} {p : Operand} (ho : o.op = .load t p) {an : Ann} {out : Out} (h : loadA P (fun n => (σ.obj n).map stripO) t (σ.ev p) an = some out) (hp : All out.ob) :
  Does P o a w fun v w' => ∃ M', Post M σ w out M' v w' := by
 rw [← strip_obj] at h
 obtain ⟨ad, y, h1, h2, h3, h4, h5⟩ := loadA_run (P := P) R.strip (R.ev p) h hp
 refine Does.value (v := y) (w' := w) (by simp [execOp, ho, h1, Instr.loadAt, Instr.sureAddr, h2]) ⟨M, Post.same R h5 h3 fun n hn => ?_⟩
 have := h4 n hn
 have h : (lk (σ.o.map fun q => (q.1, stripO q.2)) n).isSome := this
 rw [lk_strip] at h
 simpa using h
end
end Go.Fx
