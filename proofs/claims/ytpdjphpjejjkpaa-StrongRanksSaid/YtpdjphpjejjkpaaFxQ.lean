/- Maps: the operations that make them, read them and write them are sound. -/
import Derived.Test.YtpdjphpjejjkpaaFxG
import Derived.MapKept
import Derived.Carry
namespace Go.Fx
section
variable {P : Program} {M : Mm} {w : World} {σ : St} {a : Act}
structure MapR (M : Mm) (w : World) (es : Array MapEntry) (g : Bool) (ks : List PV) (rows : List (List PV)) : Prop where
 s1 : es.size = ks.length
 s2 : es.size = rows.length
 ag : ∀ (i : Nat) (e : MapEntry), es[i]? = some e → e.val.aggOk g = true
 sz : ∀ (i : Nat) (e : MapEntry) (r : List PV), es[i]? = some e → rows[i]? = some r → e.val.cells.size = r.length
 key : ∀ (i : Nat) (e : MapEntry) (p : PV), es[i]? = some e → ks[i]? = some p → PRel M w e.key p
 cell : ∀ (i : Nat) (e : MapEntry) (r : List PV) (j : Nat) (x : Value) (p : PV), es[i]? = some e → rows[i]? = some r → e.val.cells[j]? = some x → r[j]? = some p → PRel M w x p
theorem MapR.val {es : Array MapEntry} {g : Bool} {ks : List PV} {rows : List (List PV)} (h : MapR M w es g ks rows) {i : Nat} {e : MapEntry} {r : List PV} {v : AV} (he : es[i]? = some e) (hr : rows[i]? = some r) (hv : rowAV g r = some v) :
  VRel M w e.val v ∧ v.nms = [] := by
 have h1 := h.ag i e he
 have h2 := h.sz i e r he hr
 have h3 := fun j x p => h.cell i e r j x p he hr
 unfold rowAV at hv
 split at hv
 ·cases hv
  cases hx : e.val <;> rw [hx] at h1 h2 h3 <;> simp [Value.aggOk] at h1
  exact ⟨.aggp _ _ h2 h3, rfl⟩
 ·split at hv
  ·rename_i p
   cases hv
   have hc : e.val.cells = #[e.val] := by
    cases hx : e.val <;> rw [hx] at h1 <;> simp [Value.aggOk] at h1 <;> rfl
   exact ⟨.pv _ _ (h3 0 e.val p (by rw [hc]; rfl) rfl), rfl⟩
  ·cases hv
theorem mapOf_rel {et : TypeId} {m : AV} {g : Bool} {ks : List PV} {rows : List (List PV)} (h : mapOf P σ.obj et m = some (g, ks, rows)) (ho : ∀ n o, lk σ.o n = some o → ORel M w n o) {y : Value} (hy : VRel M w y m) :
  (y = .map none ∧ ks = [] ∧ rows = []) ∨ ∃ b es clock, y = .map (some b) ∧ w.heap[b]? = some (.map es clock) ∧ MapR M w es g ks rows := by
 unfold mapOf at h
 split at h
 ·rename_i n
  split at h
  ·rename_i fz g' rg ks' rows' hL
   cases h
   cases hy with | mp _ b hb =>
   cases ho n _ hL with | mp _ _ _ _ _ b' es clock e1 e2 e3 e4 e5 e6 e7 e8 e9 e10 =>
   rw [hb] at e1; cases e1
   exact .inr ⟨b, es, clock, rfl, e3, ⟨e4, e5, e6, e7, e8, e9⟩⟩
  ·cases h
 ·cases h
  cases hy with | pv _ _ hy =>
  cases hy with
  | mp _ _ _ b es clock e1 e3 e4 e5 e6 e7 e8 e9 => exact .inr ⟨b, es, clock, rfl, e3, ⟨e4, e5, e6, e7, e8, e9⟩⟩
  | mp0 => exact .inl ⟨rfl, rfl, rfl⟩
 ·cases h
  cases hy with | pv _ _ hy =>
  cases hy
  exact .inl ⟨rfl, rfl, rfl⟩
 ·cases h
theorem find_spec {q : IntKind} {x : Int} : ∀ (es : List MapEntry) (ks : List PV) (rows : List (List PV)) (i : Nat), es.length = ks.length → es.length = rows.length → intKeys q ks →
  (∀ (j : Nat) (e : MapEntry) (p : PV), es[j]? = some e → ks[j]? = some p → PRel M w e.key p) →
  (∃ j e row, Instr.findNow (.int q) (.int q x) es i = some (some (i + j, e.val)) ∧ es[j]? = some e ∧ e.key = .int q x ∧ ks[j]? = some (.int q x) ∧ rows[j]? = some row ∧ mfind ks rows (.int q x) = some row ∧
   ∀ v, mput ks rows (.int q x) v = (ks, rows.set j v)) ∨
  (Instr.findNow (.int q) (.int q x) es i = some none ∧ mfind ks rows (.int q x) = none ∧ ∀ v, mput ks rows (.int q x) v = (ks ++ [.int q x], rows ++ [v])) := by
 intro es
 induction es with
 | nil =>
  intro ks rows i h1 h2 _ _
  have : ks = [] := List.eq_nil_of_length_eq_zero h1.symm
  subst this
  have : rows = [] := List.eq_nil_of_length_eq_zero h2.symm
  subst this
  exact .inr ⟨rfl, rfl, fun v => rfl⟩
 | cons e es ih =>
  intro ks rows i h1 h2 hk hr
  cases ks with
  | nil => simp at h1
  | cons k ks =>
   cases rows with
   | nil => simp at h2
   | cons r rows =>
    obtain ⟨n, rfl⟩ := hk k (.head _)
    have hek := hr 0 e (.int q n) rfl rfl
    have hek : e.key = .int q n := by
     generalize e.key = y at hek
     cases hek; rfl
    by_cases hxn : n = x
    ·subst hxn
     left
     refine ⟨0, e, r, ?_, rfl, hek, rfl, rfl, ?_, ?_⟩
     ·simp [Instr.findNow, hek, Instr.sameNow]
     ·simp [mfind, keyEq]
     ·intro v; simp [mput, keyEq]
    ·rcases ih ks rows (i + 1) (by simpa using h1) (by simpa using h2) (fun p hp => hk p (.tail _ hp)) (fun j e p a b => hr (j + 1) e p (by simpa using a) (by simpa using b)) with
      ⟨j, e', row, f1, f2, f3, f4, f5, f6, f7⟩ | ⟨f1, f2, f3⟩
     ·left
      refine ⟨j + 1, e', row, ?_, by simpa using f2, f3, by simpa using f4, by simpa using f5, ?_, ?_⟩
      ·have : (x == n) = false := by simp; exact fun h => hxn h.symm
       simp only [Instr.findNow, hek, Instr.sameNow, if_true, this]
       rw [f1]; congr 3; omega
      ·simp [mfind, keyEq, hxn, f6]
      ·intro v; simp [mput, keyEq, hxn, f7]
     ·right
      refine ⟨?_, ?_, ?_⟩
      ·have : (x == n) = false := by simp; exact fun h => hxn h.symm
       simp only [Instr.findNow, hek, Instr.sameNow, if_true, this]
       exact f1
      ·simp [mfind, keyEq, hxn, f2]
      ·intro v; simp [mput, keyEq, hxn, f3]
theorem isKey_int {q : IntKind} {x : Int} : MapKept.IsKey (.int q) (.int q x) := by simp [MapKept.IsKey]
theorem zeroA_rel {t : TypeId} {z : AV} (h : zeroA P t = some z) : ∃ z0, (zeroValue t).run P w = .ok z0 w ∧ VRel M w z0 z ∧ z.nms = [] := by
 unfold zeroA at h
 simp only [Option.map_eq_some_iff, Option.bind_eq_some_iff] at h
 obtain ⟨z0, ⟨i, hi, hz0⟩, rfl⟩ := h
 exact ⟨z0, by simp [zeroValue, typeInfo, hi, hz0], avOf_rel z0, avOf_nms z0⟩
theorem zRow_rel {g : Bool} {z v : AV} {zr : List PV} (h : zRow g z = some zr) (hv : rowAV g zr = some v) {y : Value} (r : VRel M w y z) : VRel M w y v ∧ v.nms = [] := by
 unfold zRow at h
 split at h
 ·cases h
  simp only [rowAV, Option.some.injEq] at hv
  subst hv
  cases r with | aggp vs _ e1 e2 =>
  refine ⟨.aggp vs _ (by simpa using e1) fun i u p g1 g2 => ?_, rfl⟩
  simp only [List.getElem?_map, Option.map_eq_some_iff] at g2
  obtain ⟨q, g2, rfl⟩ := g2
  exact nz_rel (e2 i u q g1 g2)
 ·cases h
  simp only [rowAV, Option.some.injEq] at hv
  subst hv
  cases r with | pv _ _ r => exact ⟨.pv _ _ (nz_rel r), rfl⟩
 ·cases h
theorem zRow_nms {g : Bool} {v : AV} {zr : List PV} (hv : rowAV g zr = some v) : v.nms = [] := by
 unfold rowAV at hv
 split at hv
 ·cases hv; rfl
 ·split at hv
  ·cases hv; rfl
  ·cases hv
theorem lookupA0_sound {an : Ann} (hne : (∀ r b, an ≠ .mrow r b) ∧ ∀ r b, an ≠ .mrowK r b) (R : RSt M σ a w) {o : Oper} {t : TypeId} {m k : Operand} {ok : Bool} (ho : o.op = .lookup t m k ok) {out : Out} (h : lookupA P σ.obj t (σ.ev m) (σ.ev k) ok an = some out) (hp : All out.ob) :
  Does P o a w fun v w' => ∃ M', Post M σ w out M' v w' := by
 have hm := R.ev m
 have hk := R.ev k
 unfold lookupA at h
 split at h
 ·rename_i v r
  split at h
  ·rename_i kt et kk x ht hke
   rw [hke] at hk
   have hk := rel_int hk
   split at h
   ·rename_i q g ks rows z hkt hmo hz
    obtain ⟨z0, z1, z2, z3⟩ := zeroA_rel (M := M) (w := w) hz
    have fin : ∀ (y u : Value) (b : Bool) (x' : AV), intKeys kk ks → q = kk → VRel M w u x' → x'.nms = [] → a.eval m = y →
      (∀ es : Array MapEntry, (y = .map none ∧ es = #[]) ∨ (∃ b clock, y = .map (some b) ∧ w.heap[b]? = some (.map es clock)) →
       (Instr.findNow (.int q) (.int kk x) es.toList 0 = some none ∧ u = z0 ∧ b = false) ∨ ∃ j, Instr.findNow (.int q) (.int kk x) es.toList 0 = some (some (j, u)) ∧ b = true) →
      ((y = .map none) ∨ ∃ b es clock, y = .map (some b) ∧ w.heap[b]? = some (.map es clock)) →
      out.v = (match ok with | true => .tup [x', .pv (.bool b)] | false => x') → out.wr = [] →
      Does P o a w fun v w' => ∃ M', Post M σ w out M' v w' := by
     intro y u b x' hint hqk hu hun hy hf hyy hov hwr
     subst hqk
     have hrun : (Instr.lookup t y (.int q x) ok).run P w = .ok (if ok then .tuple #[u, .bool b] else u) w := by
      have core : ∀ es : Array MapEntry, ((y = .map none ∧ es = #[]) ∨ (∃ b clock, y = .map (some b) ∧ w.heap[b]? = some (.map es clock))) →
        (do
         Instr.checkKey es.isEmpty 10000 kt (.int q x)
         let (v, ok') ← match ← Instr.findKey kt (.int q x) es.toList with
          | some (_, v) => pure (v, true)
          | none => pure (← zeroValue et, false)
         pure (if ok then Value.tuple #[v, .bool ok'] else v) : Sem Value).run P w = .ok (if ok then .tuple #[u, .bool b] else u) w := by
       intro es hes
       rw [Sem.run_bind, MapKept.run_checkKey hkt isKey_int, Result.andThen_ok, Sem.run_bind]
       rcases hf es hes with ⟨f1, rfl, rfl⟩ | ⟨j, f1, rfl⟩
       ·simp [Sem.run_bind, MapKept.run_findKey hkt f1, z1, Result.andThen]
       ·simp [Sem.run_bind, MapKept.run_findKey hkt f1, Result.andThen]
      unfold Instr.lookup
      rw [Sem.run_bind, run_underlying ht, Result.andThen_ok]
      rcases hyy with rfl | ⟨b', es, clock, rfl, hb⟩
      ·have := core #[] (.inl ⟨rfl, rfl⟩)
       simp only [Sem.run_bind, Sem.run_pure, Result.andThen_ok] at this ⊢
       exact this
      ·have := core es (.inr ⟨b', clock, rfl, hb⟩)
       simp only [Sem.run_bind, Sem.run_pure, Result.andThen_ok, MapKept.run_getObj_map hb] at this ⊢
       exact this
     refine Does.value (v := if ok then .tuple #[u, .bool b] else u) (w' := w) (by simp [execOp, ho, hy, hk, hrun]) ⟨M, Post.same R hwr ?_ ?_⟩
     ·rw [hov]
      cases ok with
      | true =>
       refine .tup _ _ rfl ?_
       intro i v c e1 e2
       match i with
       | 0 => simp at e1 e2; subst e1; subst e2; exact hu
       | 1 => simp at e1 e2; subst e1; subst e2; exact .pv _ _ (.bool _)
       | i + 2 => simp at e2
      | false => exact hu
     ·rw [hov]
      cases ok with
      | true => intro n hn; simp [AV.nms, nmsL, hun] at hn
      | false => intro n hn; simp [hun] at hn
    generalize hy : a.eval m = y at hm
    have hrel := mapOf_rel hmo R.ob hm
    by_cases hq : q = kk
    ·simp only [hq, decide_true] at h
     cases r with
     | some row =>
      cases h
      obtain ⟨hint, hfd, hv, _⟩ := hp
      rcases hrel with ⟨rfl, rfl, rfl⟩ | ⟨b, es, clock, rfl, hb, hR⟩
      ·simp [mfind] at hfd
      ·subst hq
       rcases find_spec (M := M) (w := w) (x := x) es.toList ks rows 0 (by simpa using hR.s1) (by simpa using hR.s2) hint (fun j e p a b => hR.key j e p (by simpa using a) b) with
        ⟨j, e, row', f1, f2, f3, f4, f5, f6, f7⟩ | ⟨f1, f2, f3⟩
       ·rw [f6] at hfd; cases hfd
        obtain ⟨v1, v2⟩ := hR.val (by simpa using f2) f5 hv
        refine fin _ e.val true v hint rfl v1 v2 hy ?_ (.inr ⟨b, es, clock, rfl, hb⟩) (by cases ok <;> rfl) rfl
        rintro es' (⟨h, _⟩ | ⟨b', clock', h, hb'⟩)
        ·cases h
        ·cases h; rw [hb] at hb'; cases hb'
         exact .inr ⟨_, f1, rfl⟩
       ·rw [f2] at hfd; cases hfd
     | none =>
      cases h
      obtain ⟨hint, hfd, _⟩ := hp
      rcases hrel with ⟨rfl, rfl, rfl⟩ | ⟨b, es, clock, rfl, hb, hR⟩
      ·refine fin _ z0 false z hint hq z2 z3 hy ?_ (.inl rfl) (by cases ok <;> rfl) rfl
       rintro es' (⟨_, rfl⟩ | ⟨b', clock', h, hb'⟩)
       ·exact .inl ⟨rfl, rfl, rfl⟩
       ·cases h
      ·subst hq
       rcases find_spec (M := M) (w := w) (x := x) es.toList ks rows 0 (by simpa using hR.s1) (by simpa using hR.s2) hint (fun j e p a b => hR.key j e p (by simpa using a) b) with
        ⟨j, e, row', f1, f2, f3, f4, f5, f6, f7⟩ | ⟨f1, f2, f3⟩
       ·rw [f6] at hfd; cases hfd
       ·refine fin _ z0 false z hint rfl z2 z3 hy ?_ (.inr ⟨b, es, clock, rfl, hb⟩) (by cases ok <;> rfl) rfl
        rintro es' (⟨h, _⟩ | ⟨b', clock', h, hb'⟩)
        ·cases h
        ·cases h; rw [hb] at hb'; cases hb'
         exact .inl ⟨f1, rfl, rfl⟩
    ·simp [hq] at h
   ·cases h
  ·cases h
 ·exact absurd rfl (hne.1 _ _)
 ·exact absurd rfl (hne.2 _ _)
 ·cases h
theorem zRowK_rel {g : Bool} {z v : AV} {zr : List PV} (h : zRowK g z = some zr) (hv : rowAV g zr = some v) {y : Value} (r : VRel M w y z) : VRel M w y v ∧ v.nms = [] := by
 unfold zRowK at h
 split at h
 ·cases h
  simp only [rowAV, Option.some.injEq] at hv
  subst hv
  cases r with | pv _ _ r => exact ⟨.pv _ _ r, rfl⟩
 ·cases h
theorem lookupZ_sound {zf : Bool → AV → Option (List PV)} (hzf : ∀ {M : Mm} {w : World} {g : Bool} {z v : AV} {zr : List PV}, zf g z = some zr → rowAV g zr = some v → ∀ {y : Value}, VRel M w y z → VRel M w y v ∧ v.nms = [])
  (R : RSt M σ a w) {o : Oper} {t : TypeId} {m k : Operand} {ok : Bool} (ho : o.op = .lookup t m k ok) {row : List PV} {bb : Bool} {out : Out} (h : lookupZ zf P σ.obj t (σ.ev m) (σ.ev k) ok row bb = some out) (hp : All out.ob) :
  Does P o a w fun v w' => ∃ M', Post M σ w out M' v w' := by
 have hk := R.ev k
 unfold lookupZ at h
 ·split at h
  ·rename_i kt et kk x ht hke
   split at h
   ·rename_i q g ks rows z hkt hmo hz
    split at h
    ·rename_i zr v hq hzr hv
     cases h
     obtain ⟨hint, hget, hhas, _⟩ := hp
     obtain ⟨z0, z1, z2, z3⟩ := zeroA_rel (M := M) (w := w) hz
     cases hfd : mfind ks rows (.int kk x) with
     | some r =>
      rw [hfd] at hget hhas
      simp only [Option.getD_some, Option.isSome_some] at hget hhas
      subst hget; subst hhas
      have base := lookupA0_sound ⟨(fun _ _ h => by cases h), (fun _ _ h => by cases h)⟩ ho (R := R) (an := .mget v (some r)) (P := P) (out := ⟨[.p (intKeys kk ks), .p (mfind ks rows (.int kk x) = some r), .e (rowAV g r) (some v)], match (generalizing := false) ok with | true => .tup [v, .pv (.bool true)] | false => v, []⟩)
       (by unfold lookupA; simp only [ht, hke, hkt, hmo, hz, hq]; cases ok <;> rfl) ⟨hint, hfd, hv, trivial⟩
      intro rd next Q hnext
      refine base rd next Q fun v' w' hR => hnext v' w' ?_
      obtain ⟨M', hP⟩ := hR
      refine ⟨M', hP.told ?_ ?_⟩
      ·cases ok <;> exact id
      ·have := zRow_nms hv
       cases ok with
       | true => intro n hn; simp [AV.nms, nmsL, this] at hn
       | false => intro n hn; simp [this] at hn
     | none =>
      rw [hfd] at hget hhas
      simp only [Option.getD_none, Option.isSome_none] at hget hhas
      subst hget; subst hhas
      have base := lookupA0_sound ⟨(fun _ _ h => by cases h), (fun _ _ h => by cases h)⟩ ho (R := R) (an := .mget v none) (P := P) (out := ⟨[.p (intKeys kk ks), .p (mfind ks rows (.int kk x) = none)], match (generalizing := false) ok with | true => .tup [z, .pv (.bool false)] | false => z, []⟩)
       (by unfold lookupA; simp only [ht, hke, hkt, hmo, hz, hq]; cases ok <;> rfl) ⟨hint, hfd, trivial⟩
      intro rd next Q hnext
      refine base rd next Q fun v' w' hR => hnext v' w' ?_
      obtain ⟨M', hP⟩ := hR
      refine ⟨M', hP.told ?_ ?_⟩
      ·intro hv'
       cases ok with
       | true =>
        cases hv' with | tup vs _ e1 e2 =>
        refine .tup vs _ e1 fun i u c g1 g2 => ?_
        match i with
        | 0 => simp at g2; subst g2; exact (hzf hzr hv (e2 0 u z g1 rfl)).1
        | 1 => simp at g2; subst g2; exact e2 1 u _ g1 rfl
        | i + 2 => simp at g2
       | false => exact (hzf hzr hv hv').1
      ·have := zRow_nms hv
       cases ok with
       | true => intro n hn; simp [AV.nms, nmsL, this] at hn
       | false => intro n hn; simp [this] at hn
    ·cases h
   ·cases h
  ·cases h
theorem lookupA_sound (R : RSt M σ a w) {o : Oper} {t : TypeId} {m k : Operand} {ok : Bool} (ho : o.op = .lookup t m k ok) {an : Ann} {out : Out} (h : lookupA P σ.obj t (σ.ev m) (σ.ev k) ok an = some out) (hp : All out.ob) :
  Does P o a w fun v w' => ∃ M', Post M σ w out M' v w' := by
 by_cases h1 : ∃ r b, an = .mrow r b
 ·obtain ⟨r, b, rfl⟩ := h1
  exact lookupZ_sound zRow_rel R ho h hp
 ·by_cases h2 : ∃ r b, an = .mrowK r b
  ·obtain ⟨r, b, rfl⟩ := h2
   exact lookupZ_sound zRowK_rel R ho h hp
  ·exact lookupA0_sound ⟨fun r b e => h1 ⟨r, b, e⟩, fun r b e => h2 ⟨r, b, e⟩⟩ R ho h hp
def setObjW (w : World) (b : Nat) (o : Obj) : World := { w with heap := w.heap.setIfInBounds b o }
theorem setObjW_same {b : Nat} {o o' : Obj} (hb : w.heap[b]? = some o) : (setObjW w b o').heap[b]? = some o' := (MapKept.heap_set hb).1
theorem setObjW_other {b k : Nat} {o o' : Obj} (hb : w.heap[b]? = some o) (h : k ≠ b) : (setObjW w b o').heap[k]? = w.heap[k]? := (MapKept.heap_set hb).2 k h
theorem Ext.setObjW {b n : Nat} {o o' : Obj} (hb : w.heap[b]? = some o) (ho : ∀ c T fr, o ≠ .cells c T fr) (hk : M.κ b = .own n) : Ext M w M (setObjW w b o') where
 fam _ _ _ h := h
 low _ _ _ := rfl
 f0 := rfl
 os := rfl
 tape := rfl
 output := rfl
 size := by simp [Fx.setObjW]
 keep k _ hn := setObjW_other hb (by rintro rfl; exact hn n hk)
 fro _ _ h := h
 out _ _ h := h
 shp k cs U fr h := by
  by_cases e : k = b
  ·subst e; rw [hb] at h; cases h; exact absurd rfl (ho cs U fr)
  ·exact ⟨cs, by rw [setObjW_other hb e]; exact h, rfl⟩
theorem Post.writeObj (R : RSt M σ a w) {n b : Nat} {ob ob' : Obj} (hb : w.heap[b]? = some ob) (hno : ∀ c T fr, ob ≠ .cells c T fr) (hk : M.κ b = .own n) {out : Out} {o : AObj} (hw : out.wr = [(n, o)]) (hv : out.v = .undef) (hn : (lk σ.o n).isSome)
  (ho : ORel M (setObjW w b ob') n o) (hon : ∀ k ∈ o.nms, (lk σ.o k).isSome) {u : Value} : Post M σ w out M u (setObjW w b ob') := by
 have dom : ∀ k, (lk σ.o k).isSome → (lk (up σ.o n o) k).isSome := by
  intro k hk; rw [lk_up]; split
  ·rfl
  ·exact hk
 refine ⟨Ext.setObjW hb hno hk, by rw [hv]; exact .undef _, ?_, fun _ _ => rfl, fun _ _ => rfl, by rw [hv]; simp [AV.nms], ?_⟩
 ·intro m p hm
  rw [hw] at hm
  simp only [wrO, lk_up] at hm
  split at hm
  ·rename_i e; subst e; cases hm; exact ho
  ·rename_i e
   refine (R.ob m p hm).mono (Ext.setObjW hb hno hk) rfl (fun _ _ => rfl) ?_
   intro k _ hc
   refine ⟨rfl, setObjW_other hb ?_⟩
   rintro rfl
   rw [hk] at hc
   rcases hc with hc | hc
   ·cases hc; exact e rfl
   ·cases hc
 ·intro m p hm k hk'
  rw [hw] at hm ⊢
  simp only [wrO] at hm ⊢
  rw [lk_up] at hm
  split at hm
  ·cases hm; exact dom k (hon k hk')
  ·exact dom k (R.wo m p hm k hk')
theorem keyStays {q : IntKind} {x : Int} : (Instr.keyThatStays (.int q x) (.int q x)).run P w = .ok (.int q x) w := by
 simp [Instr.keyThatStays, Instr.sameBits]
theorem modify_get {es : Array MapEntry} {j i : Nat} {f : MapEntry → MapEntry} {e : MapEntry} (h : (es.modify j f)[i]? = some e) : ∃ e0, es[i]? = some e0 ∧ e = if i = j then f e0 else e0 := by
 rw [Array.getElem?_modify] at h
 split at h
 ·rename_i hij
  subst hij
  simp only [Option.map_eq_some_iff] at h
  obtain ⟨e0, h1, rfl⟩ := h
  exact ⟨e0, h1, by simp⟩
 ·rename_i hij
  exact ⟨e, h, by rw [if_neg (fun h => hij h.symm)]⟩
theorem aggOk_of {g : Bool} {y : Value} {x : AV} (hy : VRel M w y x) {ps : List PV} (hps : x.cellsP = some ps) (hg : (g = true ∧ ∃ qs, x = .aggp qs) ∨ (g = false ∧ ∃ p, x = .pv p)) :
  y.aggOk g = true ∧ y.cells.size = ps.length ∧ ∀ (j : Nat) (u : Value) (p : PV), y.cells[j]? = some u → ps[j]? = some p → PRel M w u p := by
 rcases hg with ⟨rfl, qs, rfl⟩ | ⟨rfl, q, rfl⟩
 ·simp [AV.cellsP] at hps
  subst hps
  cases hy with | aggp vs _ h1 h2 => exact ⟨rfl, h1, h2⟩
 ·simp [AV.cellsP] at hps
  subst hps
  cases hy with | pv _ _ hy =>
  have hc : y.cells = #[y] := by cases hy <;> rfl
  refine ⟨by cases hy <;> rfl, by rw [hc]; rfl, ?_⟩
  intro j u p h1 h2
  rw [hc] at h1
  cases j <;> simp at h1 h2
  subst h1; subst h2; exact hy
theorem aggOk_nz {g : Bool} {y : Value} {x : AV} (hy : VRel M w y x) {ps : List PV} (hps : x.cellsP = some ps) (hg : (g = true ∧ ∃ qs, x = .aggp qs) ∨ (g = false ∧ ∃ p, x = .pv p)) :
  y.aggOk g = true ∧ y.cells.size = (ps.map nz).length ∧ ∀ (j : Nat) (u : Value) (p : PV), y.cells[j]? = some u → (ps.map nz)[j]? = some p → PRel M w u p := by
 obtain ⟨h1, h2, h3⟩ := aggOk_of hy hps hg
 refine ⟨h1, by simpa using h2, fun j u p e1 e2 => ?_⟩
 simp only [List.getElem?_map, Option.map_eq_some_iff] at e2
 obtain ⟨q, e2, rfl⟩ := e2
 exact nz_rel (h3 j u q e1 e2)
theorem del_spec {q : IntKind} {x : Int} : ∀ (es : List MapEntry) (ks : List PV) (rows : List (List PV)) (i : Nat), es.length = ks.length → es.length = rows.length → intKeys q ks →
  (∀ (j : Nat) (e : MapEntry) (p : PV), es[j]? = some e → ks[j]? = some p → PRel M w e.key p) →
  (∃ j v, Instr.findNow (.int q) (.int q x) es i = some (some (i + j, v)) ∧ j < es.length ∧ mdel ks rows (.int q x) = (ks.eraseIdx j, rows.eraseIdx j)) ∨
  (Instr.findNow (.int q) (.int q x) es i = some none ∧ mdel ks rows (.int q x) = (ks, rows)) := by
 intro es
 induction es with
 | nil =>
  intro ks rows i h1 h2 _ _
  have : ks = [] := List.eq_nil_of_length_eq_zero h1.symm
  subst this
  exact .inr ⟨rfl, rfl⟩
 | cons e es ih =>
  intro ks rows i h1 h2 hk hr
  cases ks with
  | nil => simp at h1
  | cons k ks =>
   cases rows with
   | nil => simp at h2
   | cons r rows =>
    obtain ⟨n, rfl⟩ := hk k (.head _)
    have hek := hr 0 e (.int q n) rfl rfl
    have hek : e.key = .int q n := by
     generalize e.key = y at hek
     cases hek; rfl
    by_cases hxn : n = x
    ·subst hxn
     left
     exact ⟨0, e.val, by simp [Instr.findNow, hek, Instr.sameNow], by simp, by simp [mdel, keyEq]⟩
    ·have this : (x == n) = false := by simp; exact fun h => hxn h.symm
     rcases ih ks rows (i + 1) (by simpa using h1) (by simpa using h2) (fun p hp => hk p (.tail _ hp)) (fun j e p a b => hr (j + 1) e p (by simpa using a) (by simpa using b)) with
      ⟨j, v, f1, f2, f3⟩ | ⟨f1, f2⟩
     ·left
      refine ⟨j + 1, v, ?_, by simpa using f2, by simp [mdel, keyEq, hxn, f3]⟩
      simp only [Instr.findNow, hek, Instr.sameNow, if_true, this]
      rw [f1]; congr 3; omega
     ·right
      refine ⟨?_, by simp [mdel, keyEq, hxn, f2]⟩
      simp only [Instr.findNow, hek, Instr.sameNow, if_true, this]
      exact f1
theorem deleteA_sound (R : RSt M σ a w) {t tk : TypeId} {b0 : Nat} {k : AV} {kv y : Value} {ks' : List PV} {rows' : List (List PV)} {out : Out} (h : deleteA P σ.obj t b0 k ks' rows' = some out) (hp : All out.ob)
  (hm : VRel M w y (.mp b0)) (hk : VRel M w kv k) (ty : TypeId) :
  ∃ v w', (Builtin.delete_ #[t, tk] ty #[y, kv]).run P w = .ok v w' ∧ ∃ M', Post M σ w out M' v w' := by
 unfold deleteA at h
 split at h
 ·rename_i kt et kk n g rg ks rows ht hL
  have hk := rel_int hk
  subst hk
  split at h
  ·rename_i q hkt
   split at h
   ·rename_i hq
    have hq := of_decide_eq_true hq
    subst hq
    cases h
    obtain ⟨hint, hput, _⟩ := hp
    have hO := R.ob b0 _ hL
    cases hm with | mp _ b hb =>
    cases hO with | mp _ _ _ _ _ b' es clock e1 e2 e3 e4 e5 e6 e7 e8 e9 e10 =>
    rw [hb] at e1; cases e1
    have hno : ∀ c T fr, Obj.map es clock ≠ .cells c T fr := by intro _ _ _ h; cases h
    have hsome : (lk σ.o b0).isSome := by rw [show lk σ.o b0 = _ from hL]; rfl
    have hrun : ∀ es' : Array MapEntry, (Builtin.delete_ #[t, tk] ty #[.map (some b), .int q n]).run P w = .ok (.tuple #[]) (setObjW w b (.map es' clock)) → ks' = ks' → ORel M (setObjW w b (.map es' clock)) b0 (.mp false g false ks' rows') →
      ∃ v w', (Builtin.delete_ #[t, tk] ty #[.map (some b), .int q n]).run P w = .ok v w' ∧ ∃ M', Post M σ w ⟨[.p (intKeys q ks), .p (mdel ks rows (.int q n) = (ks', rows'))], .tup [], [(b0, .mp false g false ks' rows')]⟩ M' v w' := by
     intro es' h1 _ h2
     have hP := Post.writeObj (M := M) (out := ⟨[], .undef, [(b0, .mp false g false ks' rows')]⟩) R e3 hno e2 (o := .mp false g false ks' rows') rfl rfl hsome h2 (by simp [AObj.nms]) (u := .tuple #[])
     exact ⟨_, _, h1, M, hP.told (out' := ⟨[.p (intKeys q ks), .p (mdel ks rows (.int q n) = (ks', rows'))], .tup [], [(b0, .mp false g false ks' rows')]⟩) (fun _ => .tup #[] [] rfl (by simp)) (by simp [AV.nms, nmsL])⟩
    rcases del_spec (M := M) (w := w) (x := n) es.toList ks rows 0 (by simpa using e4) (by simpa using e5) hint (fun j e p a b => e8 j e p (by simpa using a) b) with
     ⟨j, v, f1, f2, f3⟩ | ⟨f1, f2⟩
    ·rw [f3] at hput; cases hput
     have f2 : j < es.size := by simpa using f2
     have hsub : (es.eraseIdxIfInBounds j).toList = es.toList.eraseIdx j := by
      unfold Array.eraseIdxIfInBounds
      rw [dif_pos f2]
      simp
     have E := Ext.setObjW (M := M) (o' := .map (es.eraseIdxIfInBounds j) clock) e3 hno e2
     have hget : ∀ {i : Nat} {e : MapEntry}, (es.eraseIdxIfInBounds j)[i]? = some e → es[if i < j then i else i + 1]? = some e := by
      intro i e h
      rw [← Array.getElem?_toList, hsub, List.getElem?_eraseIdx] at h
      split at h <;> rename_i hc <;> simp only [hc, if_true, if_false] <;> simpa using h
     have hsz : (es.eraseIdxIfInBounds j).size = es.size - 1 := by
      have := congrArg List.length hsub
      rw [List.length_eraseIdx_of_lt (by simpa using f2)] at this
      simpa only [Array.length_toList] using this
     refine hrun (es.eraseIdxIfInBounds j) ?_ rfl (.mp false g false _ _ b (es.eraseIdxIfInBounds j) clock hb e2 (setObjW_same e3) ?_ ?_ ?_ ?_ ?_ ?_ (fun h => by cases h))
     ·simp [Builtin.delete_, run_underlying ht, MapKept.run_getObj_map e3, MapKept.run_checkKey hkt isKey_int, MapKept.run_findKey hkt f1, MapKept.run_setObj_map _ e3, Result.andThen, setObjW]
     ·rw [hsz, List.length_eraseIdx_of_lt (by omega)]; omega
     ·rw [hsz, List.length_eraseIdx_of_lt (by omega)]; omega
     ·intro i e h; exact e6 _ e (hget h)
     ·intro i e r h hr
      rw [List.getElem?_eraseIdx] at hr
      refine e7 _ e r (hget h) ?_
      split at hr <;> rename_i hc <;> simp only [hc, if_true, if_false] <;> exact hr
     ·intro i e p h hr
      rw [List.getElem?_eraseIdx] at hr
      refine (e8 _ e p (hget h) ?_).mono E
      split at hr <;> rename_i hc <;> simp only [hc, if_true, if_false] <;> exact hr
     ·intro i e r jj x p h hr h1 h2
      rw [List.getElem?_eraseIdx] at hr
      refine (e9 _ e r jj x p (hget h) ?_ h1 h2).mono E
      split at hr <;> rename_i hc <;> simp only [hc, if_true, if_false] <;> exact hr
    ·rw [f2] at hput; cases hput
     have E := Ext.setObjW (M := M) (o' := .map es clock) e3 hno e2
     refine hrun es ?_ rfl (.mp false g false _ _ b _ clock hb e2 (setObjW_same e3) e4 e5 e6 e7 (fun i e p h1 h2 => (e8 i e p h1 h2).mono E) (fun i e r jj x p h1 h2 h3 h4 => (e9 i e r jj x p h1 h2 h3 h4).mono E) (fun h => by cases h))
     simp [Builtin.delete_, run_underlying ht, MapKept.run_getObj_map e3, MapKept.run_checkKey hkt isKey_int, MapKept.run_findKey hkt f1, MapKept.run_setObj_map _ e3, Result.andThen, setObjW]
   ·cases h
  ·cases h
 ·cases h
theorem mapUpdateZ_sound {z : PV → PV} (hz : ∀ {M : Mm} {w : World} {g : Bool} {y : Value} {x : AV}, VRel M w y x → ∀ {ps : List PV}, x.cellsP = some ps → ((g = true ∧ ∃ qs, x = .aggp qs) ∨ (g = false ∧ ∃ p, x = .pv p)) →
   y.aggOk g = true ∧ y.cells.size = (ps.map z).length ∧ ∀ (j : Nat) (u : Value) (p : PV), y.cells[j]? = some u → (ps.map z)[j]? = some p → PRel M w u p)
  (R : RSt M σ a w) {o : Oper} {t : TypeId} {m k x : Operand} (ho : o.op = .mapUpdate t m k x) {ks' : List PV} {rows' : List (List PV)} {out : Out} (h : mapUpdateZ z P σ.obj t (σ.ev m) (σ.ev k) (σ.ev x) ks' rows' = some out) (hp : All out.ob) :
  Does P o a w fun v w' => ∃ M', Post M σ w out M' v w' := by
 have hm := R.ev m
 have hk := R.ev k
 have hx := (R.ev x).fnV
 unfold mapUpdateZ at h
 ·split at h
  ·rename_i kt et kk n b0 ht hke hme
   rw [hke] at hk
   rw [hme] at hm
   have hk := rel_int hk
   split at h
   ·rename_i q g rg ks rows ps0 hkt hL hps0
    generalize hps : ps0.map z = ps at h
    have main : q = kk → ((g = true ∧ ∃ qs, fnV (σ.ev x) = .aggp qs) ∨ (g = false ∧ ∃ p, fnV (σ.ev x) = .pv p)) → intKeys kk ks → mput ks rows (.int kk n) ps = (ks', rows') →
      out = ⟨out.ob, .undef, [(b0, .mp false g rg ks' rows')]⟩ → Does P o a w fun v w' => ∃ M', Post M σ w out M' v w' := by
     intro hq hgx hint hput hout
     subst hq
     obtain ⟨y1, y2, y3⟩ := hz hx hps0 hgx
     rw [hps] at y2 y3
     have hO := R.ob b0 _ hL
     generalize hy : a.eval m = y at hm
     cases hm with | mp _ b hb =>
     cases hO with | mp _ _ _ _ _ b' es clock e1 e2 e3 e4 e5 e6 e7 e8 e9 e10 =>
     rw [hb] at e1; cases e1
     have hno : ∀ c T fr, Obj.map es clock ≠ .cells c T fr := by intro _ _ _ h; cases h
     have hsome : (lk σ.o b0).isSome := by rw [show lk σ.o b0 = _ from hL]; rfl
     rcases find_spec (M := M) (w := w) (x := n) es.toList ks rows 0 (by simpa using e4) (by simpa using e5) hint (fun j e p a b => e8 j e p (by simpa using a) b) with
      ⟨j, e, row', f1, f2, f3, f4, f5, f6, f7⟩ | ⟨f1, f2, f3⟩
     ·rw [f7] at hput; cases hput
      have f2 : es[j]? = some e := by simpa using f2
      have hrun : (Instr.mapUpdate t (.map (some b)) (.int q n) (a.eval x)).run P w = .ok () (setObjW w b (.map (es.modify j fun e => { e with key := .int q n, val := a.eval x }) clock)) := by
       unfold Instr.mapUpdate
       simp only [Sem.run_bind, run_underlying ht, Result.andThen_ok, MapKept.run_getObj_map e3, MapKept.run_checkKey hkt isKey_int, MapKept.run_findKey hkt f1, Nat.zero_add, f2, Option.map_some, Option.getD_some, f3, keyStays]
       exact MapKept.run_setObj_map _ e3
      have E := Ext.setObjW (M := M) (o' := .map (es.modify j fun e => { e with key := .int q n, val := a.eval x }) clock) e3 hno e2
      refine Does.skip (w' := setObjW w b (.map (es.modify j fun e => { e with key := .int q n, val := a.eval x }) clock)) (by simp [execOp, ho, hy, hk, hrun]) ⟨M, Post.writeObj R e3 hno e2 (o := .mp false g rg ks' (rows.set j ps)) (by rw [hout]) (by rw [hout]) hsome ?_ (by simp [AObj.nms])⟩
      refine .mp false g rg ks' (rows.set j ps) b _ clock hb e2 (setObjW_same e3) (by simpa using e4) (by simpa using e5) ?_ ?_ ?_ ?_ ?_
      ·intro i e' h
       obtain ⟨e0, h1, rfl⟩ := modify_get h
       split
       ·exact y1
       ·exact e6 i e0 h1
      ·intro i e' r h hr
       obtain ⟨e0, h1, rfl⟩ := modify_get h
       have hil := (Array.getElem?_eq_some_iff.1 h1).1
       rw [List.getElem?_set] at hr
       by_cases hij : i = j
       ·subst hij
        rw [if_pos rfl, if_pos (by omega)] at hr
        cases hr
        rw [if_pos rfl]; exact y2
       ·rw [if_neg (fun h => hij h.symm)] at hr
        rw [if_neg hij]; exact e7 i e0 r h1 hr
      ·intro i e' p h hr
       obtain ⟨e0, h1, rfl⟩ := modify_get h
       by_cases hij : i = j
       ·subst hij
        rw [f4] at hr; cases hr
        rw [if_pos rfl]; exact .int _ _
       ·rw [if_neg hij]; exact (e8 i e0 p h1 hr).mono E
      ·intro i e' r jj xx p h hr hx1 hx2
       obtain ⟨e0, h1, rfl⟩ := modify_get h
       have hil := (Array.getElem?_eq_some_iff.1 h1).1
       rw [List.getElem?_set] at hr
       by_cases hij : i = j
       ·subst hij
        rw [if_pos rfl, if_pos (by omega)] at hr
        cases hr
        rw [if_pos rfl] at hx1
        exact (y3 jj xx p hx1 hx2).mono E
       ·rw [if_neg (fun h => hij h.symm)] at hr
        rw [if_neg hij] at hx1
        exact (e9 i e0 r jj xx p h1 hr hx1 hx2).mono E
      ·intro hrg
       obtain ⟨c1, c2⟩ := e10 hrg
       refine ⟨by simpa using c1, fun i e' h => ?_⟩
       obtain ⟨e0, h1, rfl⟩ := modify_get h
       have := c2 i e0 h1
       split <;> exact this
     ·rw [f3] at hput; cases hput
      have hrun : (Instr.mapUpdate t (.map (some b)) (.int q n) (a.eval x)).run P w = .ok () (setObjW w b (.map (es.push { key := .int q n, val := a.eval x, born := clock }) (clock + 1))) := by
       unfold Instr.mapUpdate
       simp only [Sem.run_bind, run_underlying ht, Result.andThen_ok, MapKept.run_getObj_map e3, MapKept.run_checkKey hkt isKey_int, MapKept.run_findKey hkt f1]
       exact MapKept.run_setObj_map _ e3
      have E := Ext.setObjW (M := M) (o' := .map (es.push { key := .int q n, val := a.eval x, born := clock }) (clock + 1)) e3 hno e2
      refine Does.skip (w' := setObjW w b (.map (es.push { key := .int q n, val := a.eval x, born := clock }) (clock + 1))) (by simp [execOp, ho, hy, hk, hrun]) ⟨M, Post.writeObj R e3 hno e2 (o := .mp false g rg (ks ++ [.int q n]) (rows ++ [ps])) (by rw [hout]) (by rw [hout]) hsome ?_ (by simp [AObj.nms])⟩
      have hget : ∀ {i : Nat} {e' : MapEntry}, (es.push { key := .int q n, val := a.eval x, born := clock })[i]? = some e' → (i < es.size ∧ es[i]? = some e') ∨ (i = es.size ∧ e' = { key := .int q n, val := a.eval x, born := clock }) := by
       intro i e' h
       rw [Array.getElem?_push] at h
       split at h
       ·rename_i hi; cases h; exact .inr ⟨hi, rfl⟩
       ·exact .inl ⟨(Array.getElem?_eq_some_iff.1 h).1, h⟩
      have hks : ∀ {i : Nat}, i < es.size → (ks ++ [PV.int q n])[i]? = ks[i]? := fun hi => List.getElem?_append_left (by omega)
      have hrs : ∀ {i : Nat}, i < es.size → (rows ++ [ps])[i]? = rows[i]? := fun hi => List.getElem?_append_left (by omega)
      refine .mp false g rg _ _ b _ (clock + 1) hb e2 (setObjW_same e3) (by simp [e4]) (by simp [e5]) ?_ ?_ ?_ ?_ ?_
      ·intro i e' h
       rcases hget h with ⟨_, h⟩ | ⟨_, rfl⟩
       ·exact e6 i e' h
       ·exact y1
      ·intro i e' r h hr
       rcases hget h with ⟨hi, h⟩ | ⟨rfl, rfl⟩
       ·rw [hrs hi] at hr; exact e7 i e' r h hr
       ·rw [e5] at hr; simp at hr; subst hr; exact y2
      ·intro i e' p h hr
       rcases hget h with ⟨hi, h⟩ | ⟨rfl, rfl⟩
       ·rw [hks hi] at hr; exact (e8 i e' p h hr).mono E
       ·rw [e4] at hr; simp at hr; subst hr; exact .int _ _
      ·intro i e' r jj xx p h hr hx1 hx2
       rcases hget h with ⟨hi, h⟩ | ⟨rfl, rfl⟩
       ·rw [hrs hi] at hr; exact (e9 i e' r jj xx p h hr hx1 hx2).mono E
       ·rw [e5] at hr; simp at hr; subst hr; exact (y3 jj xx p hx1 hx2).mono E
      ·intro hrg
       obtain ⟨c1, c2⟩ := e10 hrg
       refine ⟨by simp [c1], fun i e' h => ?_⟩
       rcases hget h with ⟨hi, h⟩ | ⟨rfl, rfl⟩
       ·exact c2 i e' h
       ·exact c1
    split at h
    ·rename_i hq hxe
     cases h
     exact main (of_decide_eq_true hq) (.inl ⟨rfl, _, hxe⟩) hp.1 hp.2.1 rfl
    ·rename_i hq hxe
     cases h
     exact main (of_decide_eq_true hq) (.inr ⟨rfl, _, hxe⟩) hp.1 hp.2.1 rfl
    ·cases h
   ·cases h
  ·cases h
theorem mapUpdateA_sound (R : RSt M σ a w) {o : Oper} {t : TypeId} {m k x : Operand} (ho : o.op = .mapUpdate t m k x) {an : Ann} {out : Out} (h : mapUpdateA P σ.obj t (σ.ev m) (σ.ev k) (σ.ev x) an = some out) (hp : All out.ob) :
  Does P o a w fun v w' => ∃ M', Post M σ w out M' v w' := by
 unfold mapUpdateA at h
 split at h
 ·exact mapUpdateZ_sound (fun hy _ hps hg => aggOk_nz hy hps hg) R ho h hp
 ·exact mapUpdateZ_sound (fun hy ps hps hg => by rw [show ps.map (fun p => p) = ps from List.map_id' ps]; exact aggOk_of hy hps hg) R ho h hp
 ·cases h
theorem makeMapA_sound (R : RSt M σ a w) {o : Oper} {t : TypeId} (ho : o.op = .makeMap t none) {an : Ann} {out : Out} (h : makeMapA P σ.obj t an = some out) :
  Does P o a w fun v w' => ∃ M', Post M σ w out M' v w' := by
 unfold makeMapA at h
 split at h
 ·rename_i n
  split at h
  ·rename_i kt et ht hL hodd
   split at h
   ·rename_i g hg
    cases h
    refine Does.value (v := .map (some w.heap.size)) (w' := w.alloc (.map #[] 0)) (by simp [execOp, ho, show (Instr.makeMap t none).run P w = .ok (.map (some w.heap.size)) (w.alloc (.map #[] 0)) from rfl]) ⟨M.new w n (.own n), Post.make R hodd hL rfl _ _ ?_ ?_ ?_ ?_⟩
    ·exact .mp n _ (updN_2 _ _ _)
    ·exact .mp false g true [] [] w.heap.size #[] 0 (updN_2 _ _ _) (updN_self _ _ _) (new_block w _) rfl rfl (by simp) (by simp) (by simp) (by simp) (fun _ => ⟨rfl, by simp⟩)
    ·intro k hk; simp [AV.nms] at hk; exact .inl hk
    ·intro k hk; simp [AObj.nms] at hk
   ·cases h
  ·cases h
 ·cases h
theorem rangeA_sound (R : RSt M σ a w) {o : Oper} {t : TypeId} {x : Operand} (ho : o.op = .range t x) {an : Ann} {out : Out} (h : rangeA P σ.obj t (σ.ev x) an = some out) :
  Does P o a w fun v w' => ∃ M', Post M σ w out M' v w' := by
 have hx := R.ev x
 unfold rangeA at h
 split at h
 ·rename_i n
  split at h
  ·rename_i kt et m ht hxe hL hodd
   rw [hxe] at hx
   split at h
   ·rename_i fz g ks rows hLm
    cases h
    generalize hy : a.eval x = y at hx
    cases hx with | mp _ b hb =>
    cases R.ob m _ hLm with | mp _ _ _ _ _ b' es clock e1 e2 e3 e4 e5 e6 e7 e8 e9 e10 =>
    rw [hb] at e1; cases e1
    obtain ⟨c1, _⟩ := e10 rfl
    have hmn : m ≠ n := isSome_ne (l := σ.o) (by rw [show lk σ.o m = _ from hLm]; rfl) hL
    refine Does.value (v := .pointer (some ⟨w.heap.size, 0, none⟩)) (w' := w.alloc (.mapIter (some b) clock #[] clock)) ?_ ⟨M.new w n (.own n), Post.make R hodd hL rfl _ _ ?_ ?_ ?_ ?_⟩
    ·simp [execOp, ho, hy, Instr.range, run_underlying ht, MapKept.run_getObj_map e3, Result.andThen]
    ·exact .ref n 0 0 0 w.heap.size 0 (updN_2 _ _ _)
    ·refine .it m ks.length [] w.heap.size b (updN_2 _ _ _) (updN_self _ _ _) ?_ ?_
     ·simp only [Mm.new]; rw [updN_ne _ _ hmn]; exact hb
     ·rw [← e4, ← c1]; exact new_block w _
    ·intro k hk; simp [AV.nms] at hk; exact .inl hk
    ·intro k hk; simp [AObj.nms] at hk; subst hk; rw [show lk σ.o k = _ from hLm]; rfl
   ·cases h
  ·cases h
 ·cases h
theorem find_born : ∀ (l : List MapEntry) (k i : Nat), (∀ (j : Nat) (e : MapEntry), l[j]? = some e → e.born = k + j) → l.find? (fun e => e.born == k + i) = l[i]? := by
 intro l
 induction l with
 | nil => intro k i _; rfl
 | cons e l ih =>
  intro k i h
  have h0 := h 0 e rfl
  cases i with
  | zero => simp [h0]
  | succ i =>
   have : (e.born == k + (i + 1)) = false := by simp [h0]
   rw [List.find?_cons, this]
   have := ih (k + 1) i (fun j e' he => by have := h (j + 1) e' (by simpa using he); omega)
   rw [show k + (i + 1) = k + 1 + i by omega]
   simpa using this
theorem entryA_sound (R : RSt M σ a w) {o : Oper} {x : Operand} (ho : o.op = .entry x) {an : Ann} {out : Out} (h : entryA σ.obj (σ.ev x) an = some out) (hp : All out.ob) :
  Does P o a w fun v w' => ∃ M', Post M σ w out M' v w' := by
 have hx := R.ev x
 unfold entryA at h
 split at h
 ·rename_i m i k r n hxe
  rw [hxe] at hx
  split at h
  ·rename_i m' nn j0 seen fz g ks rows hLi hLm
   split at h
   ·rename_i v hmm hrv
    have hmm := nbeq_eq hmm
    subst hmm
    cases h
    obtain ⟨hseen, hki, hri, hlen, _⟩ := hp
    generalize hy : a.eval x = y at hx
    cases hx with | ref _ _ _ _ b base hb =>
    cases R.ob n _ hLi with | it _ _ _ b2 bm i1 i2 i3 i4 =>
    rw [hb] at i1; cases i1
    cases R.ob m _ hLm with | mp _ _ _ _ _ b' es clock e1 e2 e3 e4 e5 e6 e7 e8 e9 e10 =>
    rw [i3] at e1; cases e1
    obtain ⟨c1, c2⟩ := e10 rfl
    have hR : MapR M w es g ks rows := ⟨e4, e5, e6, e7, e8, e9⟩
    have hil : i < es.size := by rw [e4]; exact (List.getElem?_eq_some_iff.1 hki).1
    have hei : es[i]? = some es[i] := by simp [hil]
    have hfind : es.find? (fun e => e.born == i) = some es[i] := by
     have := find_born es.toList 0 i (fun j e he => by rw [Nat.zero_add]; exact c2 j e (by simpa using he))
     rw [Nat.zero_add] at this
     rw [← Array.find?_toList, this]; simp [hil]
    have hgo : (getObj b).run P w = .ok (.mapIter (some bm) nn (j0 :: seen).reverse.toArray nn) w := by simp [getObj, Sem.run, i4]
    obtain ⟨v1, v2⟩ := hR.val hei hri hrv
    refine Does.value (v := .tuple #[es[i].key, es[i].val]) (w' := w) ?_ ⟨M, Post.same R rfl ?_ ?_⟩
    ·have hback : (j0 :: seen).reverse.toArray.back? = some i := by simpa using hseen
     have hcl : (clock != nn) = false := by rw [c1, e4, hlen]; simp
     simp only [execOp, ho, hy, Instr.entry, Nat.zero_mul, Nat.add_zero, Sem.run_bind, hgo, Result.andThen_ok, hback, MapKept.run_getObj_map e3, hcl, Bool.false_eq_true, if_false, hfind, Sem.run_pure]
    ·refine .tup _ _ rfl ?_
     intro j u c q1 q2
     match j with
     | 0 => simp at q1 q2; subst q1; subst q2; exact .pv _ _ (e8 i _ k hei hki)
     | 1 => simp at q1 q2; subst q1; subst q2; exact v1
     | j + 2 => simp at q2
    ·intro j hj; simp [AV.nms, nmsL, v2] at hj
   ·cases h
  ·cases h
 ·cases h
theorem mapLen_sound (R : RSt M σ a w) {n : Nat} {t kt et : TypeId} {fz g rg : Bool} {ks : List PV} {rows : List (List PV)} (ht : P.underlying t = some (.map kt et)) (hL : lk σ.o n = some (.mp fz g rg ks rows)) {y : Value} (hy : VRel M w y (.mp n)) (ty : TypeId) :
  (Builtin.len_ #[t] ty #[y]).run P w = .ok (.int .i64 ks.length) w := by
 cases hy with | mp _ b hb =>
 cases R.ob n _ hL with | mp _ _ _ _ _ b' es clock e1 e2 e3 e4 e5 e6 e7 e8 e9 e10 =>
 rw [hb] at e1; cases e1
 simp [Builtin.len_, run_underlying ht, MapKept.run_getObj_map e3, Result.andThen, e4, goInt]
end
end Go.Fx
