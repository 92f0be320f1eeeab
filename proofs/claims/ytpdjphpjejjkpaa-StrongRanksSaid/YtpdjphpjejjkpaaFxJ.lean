/- The evaluator is sound; loops, returns, contracts. -/
import Derived.Test.YtpdjphpjejjkpaaFxI
namespace Go.Fx
section
variable {P : Program} {M : Mm} {w : World} {σ : St} {a : Act}
theorem effO_sound (R : RSt M σ a w) {o : Oper} {an : Ann} {out : Out} (h : effO P (SpecY P) σ.obj o.op σ.ev an = some out) (hp : All out.ob) :
  Does P o a w fun v w' => ∃ M', Post M σ w out M' v w' := by
 cases hop : o.op <;> rw [hop] at h <;> simp only [effO, reduceCtorEq] at h
 case assign x => exact assignA_sound R hop h
 case alloc t => exact allocA_sound R hop h hp
 case box t x => exact boxA_sound R hop h hp
 case buildSlice t len parts => exact bsA_sound R hop h hp
 case load t p =>
  split at h
  ·exact ldO_sound R hop h hp
  ·exact loadS_sound R hop h hp
 case store t p x =>
  split at h
  ·rename_i hi
   split at h
   ·exact stO_sound R hop h hp (Option.isSome_iff_exists.1 hi)
   ·exact storeA_sound R hop h hp (Option.isSome_iff_exists.1 hi)
  ·cases h
 case makeSlice t x y => exact msA_sound R hop h hp
 case indexAddr t x i => exact ixA_sound R hop h hp
 case index t x i => exact indexA_sound R hop h hp
 case sliceToArrayPointer t x => exact arrA_sound R hop h hp
 case slice t x lo hi mx =>
  cases mx with
  | none => exact sliceB_sound R hop h hp
  | some m => exact slice3A_sound R hop h hp
 case makeMap t r =>
  cases r with
  | none => exact makeMapA_sound R hop h
  | some => cases h
 case lookup t m k ok => exact lookupA_sound R hop h hp
 case mapUpdate t m k x => exact mapUpdateA_sound R hop h hp
 case insert t m k x => exact Does.as (o' := { o with op := .mapUpdate t m k x }) (fun rd => by rw [Oper.semAt_eq _ _ _ (by intro c; rw [hop]; simp), Oper.semAt_eq _ _ _ (by intro c; simp)]; simp [execOp, hop]) rfl (mapUpdateA_sound R (o := { o with op := .mapUpdate t m k x }) rfl h hp)
 case range t x => exact rangeA_sound R hop h
 case entry x => exact entryA_sound R hop h hp
 case call c =>
  split at h
  ·rename_i b hb
   have app : ∀ {whole : Bool} {x y : AV} {t tx : TypeId} {m : Nat} {rs : List (List PV)}, b = .append → c.args.toList.map σ.ev = [x, y] → c.argTypes.toList = [t, tx] →
     appendA P σ.obj whole x y t tx m rs = some out → Does P o a w fun v w' => ∃ M', Post M σ w out M' v w' := by
    intro whole x y t tx m rs hb' e1 e2 h
    subst hb'
    obtain ⟨x', y', hargs, rfl, rfl⟩ : ∃ x' y', c.args = #[x', y'] ∧ σ.ev x' = x ∧ σ.ev y' = y := by
     cases hh : c.args.toList with
     | nil => simp [hh] at e1
     | cons p l => cases l with
      | nil => simp [hh] at e1
      | cons q l => cases l with
       | nil => simp [hh] at e1; exact ⟨p, q, by apply Array.toList_inj.1; simpa using hh, e1.1, e1.2⟩
       | cons => simp [hh] at e1
    have hts : c.argTypes = #[t, tx] := by apply Array.toList_inj.1; simpa using e2
    obtain ⟨v, w', f1, f2⟩ := appendA_sound (P := P) R h hp o.type
    refine Does.value (v := v) (w' := w') ?_ f2
    simp only [execOp, hop, resolve, hb, Sem.run_bind, Sem.run_pure, Result.andThen_ok, invoke, builtin, hargs, hts]
    simp only [List.map_toArray, List.map_cons, List.map_nil]
    rw [f1]; rfl
   have oth : bltA P σ.obj b (c.args.toList.map σ.ev) c.argTypes.toList an = some out → Does P o a w fun v w' => ∃ M', Post M σ w out M' v w' := by
    clear h
    intro h
    unfold bltA at h
    split at h
    ·rename_i k l t tx m rs e1 e2
     obtain ⟨x', y', hargs, hx', hy'⟩ : ∃ x' y', c.args = #[x', y'] ∧ σ.ev x' = .pv .nilsl ∧ σ.ev y' = .pv (.int k l) := by
      cases hh : c.args.toList with
      | nil => simp [hh] at e1
      | cons p l => cases l with
       | nil => simp [hh] at e1
       | cons q l => cases l with
        | nil => simp [hh] at e1; exact ⟨p, q, by apply Array.toList_inj.1; simpa using hh, e1.1, e1.2⟩
        | cons => simp [hh] at e1
     have hts : c.argTypes = #[t, tx] := by apply Array.toList_inj.1; simpa using e2
     have hx := R.ev x'
     have hy := R.ev y'
     rw [hx'] at hx
     rw [hy'] at hy
     have hx := rel_nilsl hx
     obtain ⟨v, w', f1, f2⟩ := appendZ_sound (P := P) R hy (ty := o.type) h hp
     refine Does.value (v := v) (w' := w') ?_ f2
     simp only [execOp, hop, resolve, hb, Sem.run_bind, Sem.run_pure, Result.andThen_ok, invoke, builtin, hargs, hts]
     simp only [List.map_toArray, List.map_cons, List.map_nil, hx]
     rw [f1]; rfl
    ·rename_i rows y t tx e1 e2
     obtain ⟨x', y', hargs, hx', rfl⟩ : ∃ x' y', c.args = #[x', y'] ∧ σ.ev x' = .cp rows ∧ σ.ev y' = y := by
      cases hh : c.args.toList with
      | nil => simp [hh] at e1
      | cons p l => cases l with
       | nil => simp [hh] at e1
       | cons q l => cases l with
        | nil => simp [hh] at e1; exact ⟨p, q, by apply Array.toList_inj.1; simpa using hh, e1.1, e1.2⟩
        | cons => simp [hh] at e1
     have hts : c.argTypes = #[t, tx] := by apply Array.toList_inj.1; simpa using e2
     have hx := R.ev x'
     rw [hx'] at hx
     obtain ⟨v, w', f1, f2⟩ := appendC_sound (P := P) R hx (ty := o.type) h hp
     refine Does.value (v := v) (w' := w') ?_ f2
     simp only [execOp, hop, resolve, hb, Sem.run_bind, Sem.run_pure, Result.andThen_ok, invoke, builtin, hargs, hts]
     simp only [List.map_toArray, List.map_cons, List.map_nil]
     rw [f1]; rfl
    ·rename_i e1 e2; exact app rfl e1 e2 h
    ·rename_i e1 e2; exact app rfl e1 e2 h
    ·rename_i n t e1 e2
     split at h
     ·rename_i kt et fz g rg ks rows ht hL
      cases h
      obtain ⟨x', hargs, hx'⟩ : ∃ x', c.args = #[x'] ∧ σ.ev x' = .mp n := by
       cases hh : c.args.toList with
       | nil => simp [hh] at e1
       | cons p l => cases l with
        | nil => simp [hh] at e1; exact ⟨p, by apply Array.toList_inj.1; simpa using hh, e1⟩
        | cons => simp [hh] at e1
      have hts : c.argTypes = #[t] := by apply Array.toList_inj.1; simpa using e2
      have hy := R.ev x'
      rw [hx'] at hy
      have f1 := mapLen_sound (P := P) R ht hL hy o.type
      refine Does.value (v := .int .i64 ks.length) (w' := w) ?_ ⟨M, Post.same R rfl (.pv _ _ (.int _ _)) (by simp [AV.nms])⟩
      simp only [execOp, hop, resolve, hb, Sem.run_bind, Sem.run_pure, Result.andThen_ok, invoke, builtin, hargs, hts]
      simp only [List.map_toArray, List.map_cons, List.map_nil]
      rw [f1]; rfl
     ·cases h
    ·rename_i n off len sz t e1 e2
     simp only [Option.map_eq_some_iff] at h
     obtain ⟨v, hv, rfl⟩ := h
     obtain ⟨x', hargs, hx'⟩ : ∃ x', c.args = #[x'] ∧ σ.ev x' = .hd n off len sz := by
      cases hh : c.args.toList with
      | nil => simp [hh] at e1
      | cons p l => cases l with
       | nil => simp [hh] at e1; exact ⟨p, by apply Array.toList_inj.1; simpa using hh, e1⟩
       | cons => simp [hh] at e1
     have hts : c.argTypes = #[t] := by apply Array.toList_inj.1; simpa using e2
     have hy := R.ev x'
     rw [hx'] at hy
     obtain ⟨z, z1, z2, z3⟩ := lenA_sound (P := P) hv hy o.type
     refine Does.value (v := z) (w' := w) ?_ ⟨M, Post.same R rfl z2 (by rw [z3]; simp)⟩
     simp only [execOp, hop, resolve, hb, Sem.run_bind, Sem.run_pure, Result.andThen_ok, invoke, builtin, hargs, hts]
     simp only [List.map_toArray, List.map_cons, List.map_nil]
     rw [z1]; rfl
    ·rename_i t e1 e2
     split at h
     ·rename_i e ht
      cases h
      obtain ⟨x', hargs, hx'⟩ : ∃ x', c.args = #[x'] ∧ σ.ev x' = .pv .nilsl := by
       cases hh : c.args.toList with
       | nil => simp [hh] at e1
       | cons p l => cases l with
        | nil => simp [hh] at e1; exact ⟨p, by apply Array.toList_inj.1; simpa using hh, e1⟩
        | cons => simp [hh] at e1
      have hts : c.argTypes = #[t] := by apply Array.toList_inj.1; simpa using e2
      have hy := R.ev x'
      rw [hx'] at hy
      have hy := rel_nilsl hy
      refine Does.value (v := .int .i64 0) (w' := w) ?_ ⟨M, Post.same R rfl (.pv _ _ (.int _ _)) (by simp [AV.nms])⟩
      simp only [execOp, hop, resolve, hb, Sem.run_bind, Sem.run_pure, Result.andThen_ok, invoke, builtin, hargs, hts]
      simp only [List.map_toArray, List.map_cons, List.map_nil, hy]
      simp [Builtin.cap_, run_underlying ht, Result.andThen, goInt]
     ·cases h
    ·rename_i n k t tk ks' rows' e1 e2
     obtain ⟨x', y', hargs, hx', rfl⟩ : ∃ x' y', c.args = #[x', y'] ∧ σ.ev x' = .mp n ∧ σ.ev y' = k := by
      cases hh : c.args.toList with
      | nil => simp [hh] at e1
      | cons p l => cases l with
       | nil => simp [hh] at e1
       | cons q l => cases l with
        | nil => simp [hh] at e1; exact ⟨p, q, by apply Array.toList_inj.1; simpa using hh, e1.1, e1.2⟩
        | cons => simp [hh] at e1
     have hts : c.argTypes = #[t, tk] := by apply Array.toList_inj.1; simpa using e2
     have hy := R.ev x'
     rw [hx'] at hy
     obtain ⟨v, w', f1, f2⟩ := deleteA_sound (P := P) R h hp hy (R.ev y') (tk := tk) o.type
     refine Does.value (v := v) (w' := w') ?_ f2
     simp only [execOp, hop, resolve, hb, Sem.run_bind, Sem.run_pure, Result.andThen_ok, invoke, builtin, hargs, hts]
     simp only [List.map_toArray, List.map_cons, List.map_nil]
     rw [f1]; rfl
    ·rename_i x y t tx e1 e2
     obtain ⟨x', y', hargs, rfl, rfl⟩ : ∃ x' y', c.args = #[x', y'] ∧ σ.ev x' = x ∧ σ.ev y' = y := by
      cases hh : c.args.toList with
      | nil => simp [hh] at e1
      | cons p l => cases l with
       | nil => simp [hh] at e1
       | cons q l => cases l with
        | nil => simp [hh] at e1; exact ⟨p, q, by apply Array.toList_inj.1; simpa using hh, e1.1, e1.2⟩
        | cons => simp [hh] at e1
     have hts : c.argTypes = #[t, tx] := by apply Array.toList_inj.1; simpa using e2
     obtain ⟨v, w', f1, f2⟩ := copyA_sound (P := P) (tx := tx) (ty := o.type) R h hp (R.ev x') (R.ev y')
     refine Does.value (v := v) (w' := w') ?_ f2
     simp only [execOp, hop, resolve, hb, Sem.run_bind, Sem.run_pure, Result.andThen_ok, invoke, builtin, hargs, hts]
     simp only [List.map_toArray, List.map_cons, List.map_nil]
     rw [f1]; rfl
    ·cases h
   unfold bltB at h
   split at h
   ·rename_i n len sz N y t tx m rs e1 e2
    obtain ⟨x', y', hargs, hx', rfl⟩ : ∃ x' y', c.args = #[x', y'] ∧ σ.ev x' = .hx n len sz N ∧ σ.ev y' = y := by
     cases hh : c.args.toList with
     | nil => simp [hh] at e1
     | cons p l => cases l with
      | nil => simp [hh] at e1
      | cons q l => cases l with
       | nil => simp [hh] at e1; exact ⟨p, q, by apply Array.toList_inj.1; simpa using hh, e1.1, e1.2⟩
       | cons => simp [hh] at e1
    have hts : c.argTypes = #[t, tx] := by apply Array.toList_inj.1; simpa using e2
    obtain ⟨v, w', f1, f2⟩ := appendI_sound (P := P) R hx' h hp o.type
    refine Does.value (v := v) (w' := w') ?_ f2
    simp only [execOp, hop, resolve, hb, Sem.run_bind, Sem.run_pure, Result.andThen_ok, invoke, builtin, hargs, hts]
    simp only [List.map_toArray, List.map_cons, List.map_nil]
    rw [f1]; rfl
   ·rename_i n sz N t e1 e2
    obtain ⟨x', hargs, hx'⟩ : ∃ x', c.args = #[x'] ∧ σ.ev x' = .hv n sz N := by
     cases hh : c.args.toList with
     | nil => simp [hh] at e1
     | cons p l => cases l with
      | nil => simp [hh] at e1; exact ⟨p, by apply Array.toList_inj.1; simpa using hh, e1⟩
      | cons => simp [hh] at e1
    have hts : c.argTypes = #[t] := by apply Array.toList_inj.1; simpa using e2
    split at h
    ·rename_i fz sz' rows hL
     simp only [Option.map_eq_some_iff] at h
     obtain ⟨v, hv, rfl⟩ := h
     have hx := R.ev x'
     rw [hx'] at hx
     have hh : VRel M w (a.eval x') (.hd n 0 rows.length sz) := by
      have hO := R.ob n _ hL
      generalize a.eval x' = y at hx ⊢
      cases hx with | hv _ _ _ _ hx =>
      generalize hln : (M.β n).1 = ln at hx
      cases hx with | hx _ _ _ _ b base cap c T fr f1 f2 f3 f4 f5 =>
      have : ln = rows.length := by
       cases hO with
       | sl0 _ _ _ _ q => rw [← hln, q]; rfl
       | sl _ _ _ _ _ _ _ _ _ _ _ _ _ _ q => rw [← hln, q]
      subst this
      have := VRel.hd (M := M) (w := w) n 0 rows.length sz b base cap c T fr f1 (by omega) f4 (by rw [Nat.zero_add]; exact f5)
      simpa using this
     obtain ⟨u, f1, f2, f3⟩ := lenA_sound (P := P) hv hh o.type
     refine Does.value (v := u) (w' := w) ?_ ⟨M, Post.same R rfl f2 (by rw [f3]; simp)⟩
     ·simp only [execOp, hop, resolve, hb, Sem.run_bind, Sem.run_pure, Result.andThen_ok, invoke, builtin, hargs, hts]
      simp only [List.map_toArray, List.map_cons, List.map_nil]
      rw [f1]; rfl
    ·cases h
   ·rename_i n off len sz t rs e1 e2
    obtain ⟨x', hargs, hx'⟩ : ∃ x', c.args = #[x'] ∧ σ.ev x' = .hd n off len sz := by
     cases hh : c.args.toList with
     | nil => simp [hh] at e1
     | cons p l => cases l with
      | nil => simp [hh] at e1; exact ⟨p, by apply Array.toList_inj.1; simpa using hh, e1⟩
      | cons => simp [hh] at e1
    have hts : c.argTypes = #[t] := by apply Array.toList_inj.1; simpa using e2
    have hx := R.ev x'
    rw [hx'] at hx
    obtain ⟨v, w', f1, f2⟩ := clearA_sound (P := P) R hx (ty := o.type) h hp
    refine Does.value (v := v) (w' := w') ?_ f2
    simp only [execOp, hop, resolve, hb, Sem.run_bind, Sem.run_pure, Result.andThen_ok, invoke, builtin, hargs, hts]
    simp only [List.map_toArray, List.map_cons, List.map_nil]
    rw [f1]; rfl
   ·exact oth h
  ·rename_i f hf
   unfold callOpA at h
   split at h
   ·rename_i g caps hfe
    split at h
    ·rename_i fn hfn
     split at h
     ·rename_i body hbody hname
      have hr := (R.ev f).clA
      have hn := R.evc f
      rw [hfe] at hr hn
      generalize hy : a.eval f = y at hr
      cases hr with | clo _ xs _ h1 h2 =>
      have call := callA_sound (vs := c.args.map a.eval ++ xs) R h hp (by simp [h1]) (by
       intro i v x e1 e2
       by_cases hi : i < c.args.size
       ·rw [Array.getElem?_append_left (by simpa using hi), Array.getElem?_map, Option.map_eq_some_iff] at e1
        rw [List.getElem?_append_left (by simpa using hi), List.getElem?_map, Option.map_eq_some_iff] at e2
        obtain ⟨p, e1, rfl⟩ := e1
        obtain ⟨q, e2, rfl⟩ := e2
        rw [Array.getElem?_toList] at e2
        rw [e1] at e2; cases e2
        exact R.ev p
       ·rw [Array.getElem?_append_right (by simp; omega)] at e1
        rw [List.getElem?_append_right (by simp; omega)] at e2
        simp only [Array.size_map] at e1
        simp only [List.length_map, Array.length_toList] at e2
        exact h2 _ v x e1 e2) (by
       intro x hx n hn'
       rw [List.mem_append] at hx
       rcases hx with hx | hx
       ·rw [List.mem_map] at hx
        obtain ⟨p, _, rfl⟩ := hx
        exact R.evn p n hn'
       ·exact hn n (by simp only [AV.nms]; exact nmsL_mem hx hn'))
      obtain ⟨ys, es, r, outs, M₁, hsp, hpre, hpost⟩ := call
      rcases hsp with hsp | ⟨hno, rfl, _⟩
      case inr => rw [hfn] at hno; cases hno
      refine Does.call (f := g) (args := c.args.map a.eval ++ xs) ?_ ((hsp.pre hpre).mono hpost)
      simp only [execOp, hop, resolve, hf, hy, Deferred.ofValue, Sem.run_bind, Sem.run_pure, Result.andThen_ok, invoke, callFunc, run_program, hfn, hname, hbody]
      simp
     ·cases h
    ·cases h
   ·rename_i g r hfe
    split at h
    ·rename_i fn hfn
     split at h
     ·rename_i body hbody hname
      have hr := (R.ev f).clA
      have hn := R.evc f
      rw [hfe] at hr hn
      generalize hy : a.eval f = y at hr
      cases hr with | bnd _ x0 _ h1 =>
      have call := callA_sound (vs := #[x0] ++ c.args.map a.eval) R h hp (by simp; omega) (by
       intro i v x e1 e2
       cases i with
       | zero =>
        rw [Array.getElem?_append_left (by simp)] at e1
        simp at e1 e2; subst e1; subst e2; exact h1
       | succ i =>
        rw [Array.getElem?_append_right (by simp)] at e1
        simp only [List.size_toArray, List.length_cons, List.length_nil, Nat.add_sub_cancel, Array.getElem?_map, Option.map_eq_some_iff] at e1
        simp only [List.getElem?_cons_succ, List.getElem?_map, Option.map_eq_some_iff] at e2
        obtain ⟨p, e1, rfl⟩ := e1
        obtain ⟨q, e2, rfl⟩ := e2
        rw [Array.getElem?_toList] at e2
        have e1 : c.args[i]? = some p := by simpa using e1
        rw [e1] at e2; cases e2
        exact R.ev p) (by
       intro x hx n hn'
       simp only [List.mem_cons] at hx
       rcases hx with rfl | hx
       ·exact hn n (by simpa [AV.nms] using hn')
       ·rw [List.mem_map] at hx
        obtain ⟨p, _, rfl⟩ := hx
        exact R.evn p n hn')
      obtain ⟨ys, es, r, outs, M₁, hsp, hpre, hpost⟩ := call
      rcases hsp with hsp | ⟨hno, rfl, _⟩
      case inr => rw [hfn] at hno; cases hno
      refine Does.call (f := g) (args := #[x0] ++ c.args.map a.eval) ?_ ((hsp.pre hpre).mono hpost)
      simp only [execOp, hop, resolve, hf, hy, Deferred.ofValue, Sem.run_bind, Sem.run_pure, Result.andThen_ok, invoke, callFunc, run_program, hfn, hname, hbody]
      simp
     ·cases h
    ·cases h
   ·rename_i n hfe
    split at h
    ·rename_i hno
     have hr := (R.ev f).clA
     have hn := R.evc f
     rw [hfe] at hr hn
     have hy0 : a.eval f = a.eval f := rfl
     generalize hy : a.eval f = y at hr
     have call := callA_sound (vs := #[y] ++ c.args.map a.eval) R h hp (by simp; omega) (by
      intro i v x e1 e2
      cases i with
      | zero =>
       rw [Array.getElem?_append_left (by simp)] at e1
       simp at e1 e2; subst e1; subst e2; exact hr
      | succ i =>
       rw [Array.getElem?_append_right (by simp)] at e1
       simp only [List.size_toArray, List.length_cons, List.length_nil, Nat.add_sub_cancel, Array.getElem?_map, Option.map_eq_some_iff] at e1
       simp only [List.getElem?_cons_succ, List.getElem?_map, Option.map_eq_some_iff] at e2
       obtain ⟨p, e1, rfl⟩ := e1
       obtain ⟨q, e2, rfl⟩ := e2
       rw [Array.getElem?_toList] at e2
       have e1 : c.args[i]? = some p := by simpa using e1
       rw [e1] at e2; cases e2
       exact R.ev p) (by
      intro x hx n hn'
      simp only [List.mem_cons] at hx
      rcases hx with rfl | hx
      ·exact hn n (by simpa [AV.nms] using hn')
      ·rw [List.mem_map] at hx
       obtain ⟨p, _, rfl⟩ := hx
       exact R.evn p n hn')
     obtain ⟨ys, es, r, outs, M₁, hsp, hpre, hpost⟩ := call
     rcases hsp with hsp | ⟨_, _, hsp⟩
     ·exfalso
      obtain ⟨e, w', fr, he, _, hfn, hlv⟩ := (hsp.pre hpre) []
      obtain ⟨v, _, rfl, _⟩ := he
      obtain ⟨_, _, _, fn, hfn', _⟩ := hlv
      rw [hfn, hno] at hfn'; cases hfn'
     ·obtain ⟨l, g, t, asg, bdy, h1, h2, h3⟩ := (hsp M₁ w _ hpre).mono hpost
      have hyl : y = .func (.yield l) #[] #[] := by
       rw [Array.getElem?_append_left (by simp)] at h1
       simpa using h1
      have hex : (#[y] ++ c.args.map a.eval).extract 1 (#[y] ++ c.args.map a.eval).size = c.args.map a.eval := by
       apply Array.toList_inj.1
       simp
       exact List.take_of_length_le (by simp)
      rw [hex] at h2
      refine Does.round (l := l) (f := g) (tmps := t) (asg := asg) (bdy := bdy) ?_ fun c' cs => ?_
      ·simp only [execOp, hop, resolve, hf, hy, hyl, Deferred.ofValue, Sem.run_bind, Sem.run_pure, Result.andThen_ok, invoke]
       simpa using h2
      ·obtain ⟨v, w', ⟨v', hv, hM⟩, k2⟩ := h3 c' cs
       cases hv
       exact ⟨v, w', hM, k2⟩
    ·cases h
   ·cases h
  ·cases h
theorem pickA_sound (R : RSt M σ a w) {o : Oper} {b : Bool} {out : Out} (h : pickA o.op σ.ev b = some out) (hp : All out.ob) :
  Does P o a w fun v w' => ∃ M', Post M σ w out M' v w' := by
 unfold pickA at h
 split at h
 ·rename_i c x y hop
  split at h
  ·rename_i t hc
   cases h
   obtain ⟨rfl, _⟩ := hp
   cases t with
   | true =>
    obtain ⟨z, h1, h2, h3⟩ := effV_sound (P := P) (o := o) R (v := σ.ev x) (ps := []) (by rw [hop]; simp only [effV, hc]) trivial
    exact Does.value h1 ⟨M, Post.same R rfl h2 h3⟩
   | false =>
    obtain ⟨z, h1, h2, h3⟩ := effV_sound (P := P) (o := o) R (v := σ.ev y) (ps := []) (by rw [hop]; simp only [effV, hc]) trivial
    exact Does.value h1 ⟨M, Post.same R rfl h2 h3⟩
  ·cases h
 ·cases h
theorem unG_rel {c : Nat × Bool × Bool} {x : AV} (hc : c.2.1 = c.2.2) (ho : All (unG c x).1) {v : Value} (h : VRel M w v x) : VRel M w v (unG c x).2 := by
 obtain ⟨cj, ct, cw⟩ := c
 simp only at hc
 subst hc
 unfold unG at ho ⊢
 split
 ·rename_i j t w' v'
  split
  ·rename_i hb
   simp only [hb] at ho
   obtain ⟨rfl, _⟩ := ho
   simp only [Bool.and_eq_true, beq_iff_eq] at hb
   cases h with | gv _ _ _ _ _ h1 h2 => exact h1 hb.2.symm
  ·exact h
 ·exact h
theorem unG_nms {c : Nat × Bool × Bool} {x : AV} : ∀ n ∈ (unG c x).2.nms, n ∈ x.nms := by
 intro n hn
 unfold unG at hn
 split at hn
 ·split at hn
  ·simpa [AV.nms] using hn
  ·exact hn
 ·exact hn
theorem unGs_rel : ∀ {cs : List (Nat × Bool × Bool)} {x : AV}, (∀ c ∈ cs, c.2.1 = c.2.2) → All (unGs cs x).1 → ∀ {v : Value}, VRel M w v x → VRel M w v (unGs cs x).2
 | [], _, _, _, _, h => h
 | c :: cs, x, hc, ho, v, h => by
  simp only [unGs, All_append] at ho ⊢
  exact unGs_rel (fun d hd => hc d (.tail _ hd)) ho.2 (unG_rel (hc c (.head _)) ho.1 h)
theorem unGs_nms : ∀ {cs : List (Nat × Bool × Bool)} {x : AV}, ∀ n ∈ (unGs cs x).2.nms, n ∈ x.nms
 | [], _, _, h => h
 | c :: cs, x, n, h => by
  simp only [unGs] at h
  exact unG_nms n (unGs_nms n h)
theorem wrapG_nms : ∀ {cs : List (Nat × Bool × Bool)} {v : AV}, (wrapG cs v).nms = v.nms
 | [], _ => rfl
 | c :: cs, v => by simp only [wrapG, AV.nms]; exact wrapG_nms
theorem wrapG_rel : ∀ {cs : List (Nat × Bool × Bool)} {a : AV} {v : Value}, VRel M w v a → (∀ c ∈ cs, c.2.1 = c.2.2) → VRel M w v (wrapG cs a)
 | [], _, _, h, _ => h
 | c :: cs, a, v, h, hc => .gv _ _ _ _ _ (fun _ => wrapG_rel h fun d hd => hc d (.tail _ hd)) (fun hn => absurd (hc c (.head _)) hn)
theorem wrapG_undef : ∀ {cs : List (Nat × Bool × Bool)} {a : AV}, (∃ c ∈ cs, c.2.1 ≠ c.2.2) → VRel M w undef (wrapG cs a)
 | [], _, h => by obtain ⟨c, h, _⟩ := h; cases h
 | c :: cs, a, h => .gv _ _ _ _ _ (fun he => by
   obtain ⟨d, hd, hne⟩ := h
   cases hd with
   | head => exact absurd he hne
   | tail _ hd => exact wrapG_undef ⟨d, hd, hne⟩) (fun _ => rfl)
theorem pickG_sound (R : RSt M σ a w) {o : Oper} {c x y : Operand} (hop : o.op = .pick c x y) {ps : List Obl} {v : AV} (h : pickG c x y σ.ev = some (ps, v)) (hp : All ps) :
  ∃ z, (execOp a.eval o).run P w = .ok (.value z) w ∧ VRel M w z v ∧ ∀ n ∈ v.nms, (lk σ.o n).isSome := by
 unfold pickG at h
 split at h
 ·rename_i j t hc
  have hx := R.ev x
  have hy := R.ev y
  have hcc : VRel M w (a.eval (.tmp j)) (.pv (.bool t)) := by rw [← hc]; exact R.ev _
  have hcc := rel_bool hcc
  have key : ∀ {p q : List Obl} {A B : AV}, unG (j, t, true) (σ.ev x) = (p, A) → unG (j, t, false) (σ.ev y) = (q, B) → All (p ++ q) →
    (t = true → VRel M w (a.eval x) A) ∧ (t = false → VRel M w (a.eval y) B) := by
   intro p q A B e1 e2 hpq
   rw [All_append] at hpq
   refine ⟨fun ht => ?_, fun ht => ?_⟩
   ·have := unG_rel (M := M) (w := w) (c := (j, t, true)) (x := σ.ev x) ht (by rw [e1]; exact hpq.1) hx
    rw [e1] at this; exact this
   ·have := unG_rel (M := M) (w := w) (c := (j, t, false)) (x := σ.ev y) ht (by rw [e2]; exact hpq.2) hy
    rw [e2] at this; exact this
  have run : (execOp a.eval o).run P w = .ok (.value (if t then a.eval x else a.eval y)) w := by
   simp only [execOp, hop, hcc]
   cases t <;> rfl
  split at h
  ·rename_i p A q B e1 e2
   cases h
   obtain ⟨k1, k2⟩ := key e1 e2 hp
   refine ⟨_, run, ?_, by simp [AV.nms]⟩
   cases t with
   | true =>
    have h1 := rel_bool (k1 rfl)
    simp only [if_true]
    rw [h1]
    have : selB (isTrueO x) (isFalseO y) true A B = A := by
     unfold selB
     split
     ·rename_i hx'
      unfold isTrueO at hx'
      split at hx'
      ·have : A = true := by
        have := rel_bool (k1 rfl)
        simp [Act.eval] at this
        exact this
       simp [this]
      ·cases hx'
     ·simp
     ·rfl
    rw [this]; exact .pv _ _ (.bool _)
   | false =>
    have h1 := rel_bool (k2 rfl)
    simp only [Bool.false_eq_true, if_false]
    rw [h1]
    have : selB (isTrueO x) (isFalseO y) false A B = B := by
     unfold selB
     split
     ·simp
     ·rename_i hy'
      unfold isFalseO at hy'
      split at hy'
      ·have : B = false := by
        have := rel_bool (k2 rfl)
        simp [Act.eval] at this
        exact this
       simp [this]
      ·cases hy'
     ·rfl
    rw [this]; exact .pv _ _ (.bool _)
  ·rename_i p k A q k' B e1 e2
   split at h
   ·rename_i hk
    have hk := of_decide_eq_true hk
    subst hk
    cases h
    obtain ⟨k1, k2⟩ := key e1 e2 hp
    refine ⟨_, run, ?_, by simp [AV.nms]⟩
    cases t with
    | true =>
     have h1 := rel_int (k1 rfl)
     simp only [if_true]
     rw [h1]; exact .pv _ _ (.int _ _)
    | false =>
     have h1 := rel_int (k2 rfl)
     simp only [Bool.false_eq_true, if_false]
     rw [h1]; exact .pv _ _ (.int _ _)
   ·cases h
  ·cases h
 ·cases h
theorem effG_sound (R : RSt M σ a w) {o : Oper} {ps : List Obl} {v : AV} (h : effG P o.op σ.ev = some (ps, v)) (hp : All ps) :
  ∃ z, (execOp a.eval o).run P w = .ok (.value z) w ∧ VRel M w z v ∧ ∀ n ∈ v.nms, (lk σ.o n).isSome := by
 unfold effG at h
 split at h
 ·rename_i c x y hop; exact pickG_sound R hop h hp
 ·exact effV_sound R h hp
theorem eff0_sound (R : RSt M σ a w) {o : Oper} {an : Ann} {out : Out} (h : eff0 P (SpecY P) σ.obj o.op σ.ev an = some out) (hp : All out.ob) :
  Does P o a w fun v w' => ∃ M', Post M σ w out M' v w' := by
 unfold eff0 at h
 split at h
 ·split at h
  ·rename_i p v hv
   cases h
   obtain ⟨x, h1, h2, h3⟩ := effV_sound (P := P) R hv hp
   exact Does.value h1 ⟨M, Post.same R rfl h2 h3⟩
  ·exact effO_sound R h hp
 ·split at h
  ·rename_i p v hv
   split at h
   ·rename_i q hcv
    cases h
    rw [All_append] at hp
    obtain ⟨x, h1, h2, h3⟩ := effV_sound (P := P) R hv hp.1
    obtain ⟨c1, c2⟩ := cvA_rel R.nil0 hcv hp.2 h2
    exact Does.value h1 ⟨M, Post.same R rfl c1 fun n hn => (c2 n hn).elim (h3 n) id⟩
   ·cases h
  ·exact effO_sound R h hp
 ·exact pickA_sound R h hp
 ·split at h
  ·rename_i p v hv
   cases h
   obtain ⟨x, h1, h2, h3⟩ := effG_sound (P := P) R hv hp
   exact Does.value h1 ⟨M, Post.same R rfl h2 h3⟩
  ·cases h
 ·exact effO_sound R h hp
theorem wrO_dom {wr : List (Nat × AObj)} : ∀ {o : List (Nat × AObj)} {n : Nat}, (lk o n).isSome → (lk (wrO o wr) n).isSome := by
 induction wr with
 | nil => intro o n h; exact h
 | cons x wr ih =>
  intro o n h
  obtain ⟨m, y⟩ := x
  simp only [wrO]
  refine ih ?_
  rw [lk_up]; split
  ·rfl
  ·exact h
theorem memT_iff {x : Nat} {l : List Nat} : memT x l = true ↔ x ∈ l := by
 induction l with
 | nil => simp [memT]
 | cons y r ih =>
  simp only [memT]
  split
  ·rename_i e; have := nbeq_eq e; subst this; simp
  ·rename_i e
   rw [ih, List.mem_cons]
   constructor
   ·exact .inr
   ·rintro (rfl | h)
    ·simp at e
    ·exact h
theorem lk_wrO_in {wr : List (Nat × AObj)} : ∀ {o p : List (Nat × AObj)} {n : Nat}, n ∈ wr.map (·.1) → lk (wrO o wr) n = lk (wrO p wr) n := by
 induction wr with
 | nil => intro o p n h; cases h
 | cons x wr ih =>
  intro o p n h
  obtain ⟨m, y⟩ := x
  simp only [wrO]
  by_cases hn : n ∈ wr.map (·.1)
  ·exact ih hn
  ·simp only [List.map_cons, List.mem_cons] at h
   have : n = m := h.resolve_right hn
   subst this
   have key : ∀ {wr : List (Nat × AObj)} {o : List (Nat × AObj)}, n ∉ wr.map (·.1) → lk (wrO o wr) n = lk o n := by
    intro wr
    induction wr with
    | nil => intro o _; rfl
    | cons z wr ih2 =>
     intro o h
     obtain ⟨m, y⟩ := z
     simp only [List.map_cons, List.mem_cons, not_or] at h
     simp only [wrO]
     rw [ih2 h.2, lk_up, if_neg (fun e => h.1 e.symm)]
   rw [key hn, key hn, lk_up, lk_up, if_pos rfl, if_pos rfl]
theorem frzArg_one {L L' : Nat → Option AObj} {m : Nat} {v : AV} (h : L m = L' m) : frzArg L [m] v = frzArg L' [m] v := by
 unfold frzArg
 cases v <;> try rfl
 case hd n a b c =>
  by_cases e : n = m
  ·subst e; simp only [h]
  ·have : allNat n [m] = true := allNat_iff.2 (by simpa using e)
   simp only [this]
 case hw n a =>
  by_cases e : n = m
  ·subst e; simp only [h]
  ·have : allNat n [m] = true := allNat_iff.2 (by simpa using e)
   simp only [this]
 case mp n =>
  by_cases e : n = m
  ·subst e; simp only [h]
  ·have : allNat n [m] = true := allNat_iff.2 (by simpa using e)
   simp only [this]
theorem frzArgs1_one {L L' : Nat → Option AObj} {m : Nat} (h : L m = L' m) : ∀ {vs : List AV}, frzArgs1 L [m] vs = frzArgs1 L' [m] vs
 | [] => rfl
 | v :: vs => by simp only [frzArgs1, frzArg_one (v := v) h, frzArgs1_one (vs := vs) h]
theorem frzArg2_one {L L' : Nat → Option AObj} {m : Nat} {v : AV} (h : L m = L' m) : frzArg2 L [m] v = frzArg2 L' [m] v := by
 unfold frzArg2
 cases v
 case agg cs => simp only [frzArgs1_one (vs := cs) h]
 all_goals exact frzArg_one h
theorem Post.frz (R : RSt M σ a w) {out : Out} {M' : Mm} {v : Value} {w' : World} (p : Post M σ w out M' v w') {m : Nat} {wf : List (Nat × AObj)} {q : List Obl} {x : AV}
  (h1 : frzObjs (lk (wrO [] out.wr)) [m] = some wf) (h2 : frzArg2 (lk (wrO [] out.wr)) [m] out.v = some (q, x)) (h3 : memT m (out.wr.map (·.1)) = true) (hq : All q) :
  ∃ M₁, Post M σ w ⟨out.ob ++ q, x, out.wr ++ wf⟩ M₁ v w' := by
 have hm := lk_wrO_in (o := []) (p := σ.o) (memT_iff.1 h3)
 have R' : RSt M' ⟨σ.n, [], wrO σ.o out.wr⟩ a w' := ⟨R.sz, R.df, by intro t v h; simp [lk] at h, p.obj, by intro t v h; simp [lk] at h, p.onm⟩
 have h1' : frzObjs (St.obj ⟨σ.n, [], wrO σ.o out.wr⟩) [m] = some wf := by
  rw [← h1]
  simp only [frzObjs, St.obj, hm]
 obtain ⟨M₁, R₁, E₁, B₁, f1, f2⟩ := frzObjs_sound R' h1' (by simp [nodupN, allNat])
 rw [frzArg2_one (L' := St.obj ⟨σ.n, [], wrO σ.o out.wr⟩) (by simp only [St.obj, hm])] at h2
 obtain ⟨g1, g2⟩ := frzArg2_sound (σ := ⟨σ.n, [], wrO σ.o out.wr⟩) (σ₁ := { (⟨σ.n, [], wrO σ.o out.wr⟩ : St) with o := wrO (wrO σ.o out.wr) wf }) f2 R₁.ob h2 hq
 refine ⟨M₁, p.ext.trans E₁, g1 v (p.val.mono E₁ fun n _ => by rw [B₁]), ?_, fun n hn => by rw [B₁]; exact p.bet n hn, fun n hn => by rw [B₁]; exact p.bev n hn, ?_, ?_⟩
 ·intro n o h; rw [wrO_append] at h; exact R₁.ob n o h
 ·intro n hn; rw [wrO_append]; exact wrO_dom (p.vnm n (g2 n hn))
 ·intro n o h k hk; rw [wrO_append] at h ⊢; exact R₁.wo n o h k hk
theorem lk_wrO {wr : List (Nat × AObj)} : ∀ {o : List (Nat × AObj)} {n : Nat}, n ∉ wr.map (·.1) → lk (wrO o wr) n = lk o n := by
 induction wr with
 | nil => intro o n _; rfl
 | cons x wr ih =>
  intro o n h
  obtain ⟨m, y⟩ := x
  simp only [List.map_cons, List.mem_cons, not_or] at h
  simp only [wrO]
  rw [ih h.2, lk_up, if_neg (fun e => h.1 e.symm)]
theorem RSt.member (R : RSt M σ a w) {n m f sz len : Nat} {mem : List (List (List PV))} {rows : List (List PV)} (hn : lk σ.o n = some (.fam false f sz mem)) (hm : lk σ.o m = some (.sl false sz rows)) (hnm : n ≠ m) :
  ∃ M₁, RSt M₁ { σ with o := up (up σ.o m .dead) n (.fam false f sz (mem ++ [rows])) } a w ∧ Ext M w M₁ w ∧ M₁.β = M.β ∧ (∀ v, VRel M w v (.hd m 0 len sz) → VRel M₁ w v (.pv (.fh f mem.length 0 len sz))) := by
 have dom : ∀ k, (lk σ.o k).isSome → (lk (up (up σ.o m .dead) n (.fam false f sz (mem ++ [rows]))) k).isSome := by
  intro k hk; rw [lk_up]; split
  ·rfl
  ·rw [lk_up]; split
   ·rfl
   ·exact hk
 have hO := R.ob n _ hn
 have step : ∀ (M₁ : Mm), M₁.β = M.β → Ext M w M₁ w → (∀ b, b < w.heap.size → ∀ k, k ≠ n → k ≠ m → (M.κ b = .own k ∨ M.κ b = .frozen) → M₁.κ b = M.κ b) → (∀ g, g % 16 ≠ n → M₁.φ[g]? = M.φ[g]?) → ORel M₁ w n (.fam false f sz (mem ++ [rows])) →
   RSt M₁ { σ with o := up (up σ.o m .dead) n (.fam false f sz (mem ++ [rows])) } a w := by
  intro M₁ hβ hext hκ hφ hobj
  refine ⟨R.sz, R.df, fun t v hv => (R.tm t v hv).mono hext (fun k _ => by rw [hβ]), ?_, fun t v hv k hk => dom k (R.wt t v hv k hk), ?_⟩
  ·intro k o hk
   rw [lk_up] at hk
   split at hk
   ·rename_i e; subst e; cases hk; exact hobj
   ·rename_i e1
    rw [lk_up] at hk
    split at hk
    ·cases hk; exact .dead
    ·rename_i e2
     refine (R.ob k o hk).mono hext (by rw [hβ]) (fun j _ => by rw [hβ]) (fun b hb hc => ⟨hκ b hb k (fun e => e1 e.symm) (fun e => e2 e.symm) hc, rfl⟩) ?_
     intro g fz' sz' mem' he _ _
     subst he
     refine hφ g ?_
     cases R.ob k _ hk with | fam _ _ _ _ _ q1 q2 => rw [q2]; exact fun e => e1 e.symm
  ·intro k o hk j hj
   rw [lk_up] at hk
   split at hk
   ·cases hk; simp [AObj.nms] at hj
   ·rw [lk_up] at hk
    split at hk
    ·cases hk; simp [AObj.nms] at hj
    ·exact dom j (R.wo k o hk j hj)
 cases hO with | fam _ _ _ _ bk n1 n2 h0 h1 h2 h3 h4 h5 h6 =>
 cases R.ob m _ hm with
 | sl0 _ _ g0 g1 =>
  refine ⟨M, step M rfl (.refl M w) (fun _ _ _ _ _ _ => rfl) (fun _ _ => rfl) ?_, .refl M w, rfl, ?_⟩
  ·refine .fam false f sz (mem ++ [[]]) bk n1 n2 h0 h1 h2 (fun i hi => h3 i (by simp at hi; omega)) (fun i hi => ?_) (fun i j hi hj e1 e2 => ?_) (fun i rs hr hs => ?_)
   ·by_cases hlt : i < mem.length
    ·rcases h4 i hlt with h | h
     ·exact .inl ⟨h.1, by rw [List.getElem?_append_left hlt]; exact h.2⟩
     ·exact .inr h
    ·have : i = mem.length := by simp at hi; omega
     subst this
     exact .inl ⟨h3 _ (Nat.le_refl _), by simp⟩
   ·have a1 : i < mem.length := by
     rcases Nat.lt_or_ge i mem.length with h | h
     ·exact h
     ·rw [h3 i h] at e1; cases e1
    have a2 : j < mem.length := by
     rcases Nat.lt_or_ge j mem.length with h | h
     ·exact h
     ·rw [h3 j h] at e2; cases e2
    exact h5 i j a1 a2 e1 e2
   ·have a1 : i < mem.length := by
     rcases Nat.lt_or_ge i mem.length with h | h
     ·exact h
     ·rw [h3 i h] at hs; cases hs
    rw [List.getElem?_append_left a1] at hr
    exact h6 i rs hr hs
  ·intro v hv
   cases hv with
   | hd0 _ _ _ ad => exact .pv _ _ (.fh0 f _ 0 sz ad 0)
   | hd _ _ _ _ b base cap c T fr f1 => rw [g1] at f1; cases f1
 | sl _ _ _ b base c T g0 g1 g2 g3 g4 g5 g6 =>
  obtain ⟨g, hg⟩ : ∃ g, M.φ[f]? = some g := ⟨M.φ[f], by simp [h2]⟩
  have hlen : mem.length = mem.length := rfl
  let M₁ : Mm := ⟨updN M.κ b (.own n), M.β, M.φ.set f (updN g mem.length (some (b, base))), M.F0⟩
  have hφf : M₁.φ[f]? = some (updN g mem.length (some (b, base))) := by simp [M₁, h2]
  have hφo : ∀ k, k ≠ f → M₁.φ[k]? = M.φ[k]? := by intro k hk; simp [M₁, List.getElem?_set_ne (fun e => hk e.symm)]
  have hfam : ∀ i, i ≠ mem.length → M₁.fam f i = M.fam f i := by
   intro i hi; unfold Mm.fam; rw [hφf, hg]; simp only; rw [updN_ne _ _ hi]
  have hnew : M₁.fam f mem.length = some (b, base) := by unfold Mm.fam; rw [hφf]; simp only; rw [updN_self]
  have hext : Ext M w M₁ w := by
   refine ⟨rfl, rfl, rfl, Nat.le_refl _, fun _ _ _ => rfl, ?_, ?_, fun _ c _ _ h => ⟨c, h, rfl⟩, ?_, ?_, rfl⟩
   ·intro k _ hk
    simp only [M₁]; rw [updN_ne _ _ (by rintro rfl; rw [g2] at hk; cases hk)]; exact hk
   ·intro k _ hk
    simp only [M₁]; rw [updN_ne _ _ (by rintro rfl; rw [g2] at hk; cases hk)]; exact hk
   ·intro k i q hq
    by_cases hk : k = f
    ·subst hk
     by_cases hi : i = mem.length
     ·subst hi; rw [h3 _ (Nat.le_refl _)] at hq; cases hq
     ·rw [hfam i hi]; exact hq
    ·unfold Mm.fam at hq ⊢; rw [hφo k hk]; exact hq
   ·intro k hk _; exact hφo k (by have h1 : M.F0 ≤ f := h1; omega)
  have hbk : ∀ i, i < mem.length → M.fam f i = some (bk i) → (bk i).1 ≠ b := by
   intro i hi e hb
   rcases h4 i hi with h | h
   ·rw [h.1] at e; cases e
   ·rw [hb, g2] at h; simp only [slCls] at h; exact hnm (by have := h.2; cases this; rfl)
  refine ⟨M₁, step M₁ rfl hext ?_ (fun k hk => hφo k (by rintro rfl; exact hk n2)) ?_, hext, rfl, ?_⟩
  ·intro k _ j hj1 hj2 hc
   simp only [M₁]; rw [updN_ne _ _ ?_]
   rintro rfl
   rw [g2] at hc
   rcases hc with hc | hc
   ·cases hc; exact hj2 rfl
   ·cases hc
  ·refine .fam false f sz (mem ++ [rows]) (updN bk mem.length (b, base)) n1 n2 h0 h1 (by simp [M₁, h2]) (fun i hi => ?_) (fun i hi => ?_) (fun i j hi hj e1 e2 e3 => ?_) (fun i rs hr hs => ?_)
   ·simp at hi
    rw [hfam i (by omega)]; exact h3 i (by omega)
   ·by_cases hlt : i < mem.length
    ·rw [hfam i (by omega), updN_ne _ _ (by omega)]
     rcases h4 i hlt with h | h
     ·exact .inl ⟨h.1, by rw [List.getElem?_append_left hlt]; exact h.2⟩
     ·refine .inr ⟨h.1, ?_⟩
      simp only [M₁]; rw [updN_ne _ _ (hbk i hlt h.1)]; exact h.2
    ·have : i = mem.length := by simp at hi; omega
     subst this
     right
     rw [updN_self]
     exact ⟨hnew, by simp only [M₁]; rw [updN_self]; rfl⟩
   ·have hh : ∀ i, i < (mem ++ [rows]).length → i < mem.length ∨ i = mem.length := by intro i hi; simp at hi; omega
    rcases hh i hi with hi | rfl
    ·rcases hh j hj with hj | rfl
     ·rw [hfam i (by omega), updN_ne _ _ (by omega)] at e1
      rw [hfam j (by omega), updN_ne _ _ (by omega)] at e2
      rw [updN_ne _ _ (by omega), updN_ne _ _ (by omega)] at e3
      exact h5 i j hi hj e1 e2 e3
     ·rw [hfam i (by omega), updN_ne _ _ (by omega)] at e1
      rw [updN_ne _ _ (by omega), updN_self] at e3
      exact absurd e3 (hbk i hi e1)
    ·rcases hh j hj with hj | rfl
     ·rw [hfam j (by omega), updN_ne _ _ (by omega)] at e2
      rw [updN_self, updN_ne _ _ (by omega)] at e3
      exact absurd e3.symm (hbk j hj e2)
     ·rfl
   ·by_cases hlt : i < mem.length
    ·rw [hfam i (by omega), updN_ne _ _ (by omega)] at hs
     rw [List.getElem?_append_left hlt] at hr
     rw [updN_ne _ _ (by omega)]
     obtain ⟨c', T', q1, q2, q3, q4⟩ := h6 i rs hr hs
     exact ⟨c', T', q1, q2, q3, fun k r j p x a1 a2 a3 => (q4 k r j p x a1 a2 a3).mono hext⟩
    ·have hi := (List.getElem?_eq_some_iff.1 hr).1
     have : i = mem.length := by simp at hi; omega
     subst this
     simp at hr
     subst hr
     rw [updN_self]
     exact ⟨c, T, g3, g4, g5, fun k r j p x a1 a2 a3 => (g6 k r j p x a1 a2 a3).mono hext⟩
  ·intro v hv
   cases hv with
   | hd0 _ _ _ ad => exact .pv _ _ (.fh0 f _ 0 sz ad 0)
   | hd _ _ _ _ b' base' cap c' T' fr f1 f2 f3 f4 =>
    rw [g1] at f1; cases f1
    exact .pv _ _ (.fh f _ 0 len sz b base cap hnew f2)
theorem Post.member (R : RSt M σ a w) {out : Out} {M' : Mm} {v : Value} {w' : World} (p : Post M σ w out M' v w') {n m f sz len i : Nat} {mem mem' : List (List (List PV))} {rows : List (List PV)}
  (hn : lk σ.o n = some (.fam false f sz mem)) (hm : lk (wrO [] out.wr) m = some (.sl false sz rows)) (hv : VRel M' w' v (.hd m 0 len sz)) (h3 : memT m (out.wr.map (·.1)) = true) (h4 : allNat n (out.wr.map (·.1)) = true)
  (hi : mem.length = i) (hmem : mem ++ [rows] = mem') (q : List Obl) :
  ∃ M₁, Post M σ w ⟨q, .pv (.fh f i 0 len sz), out.wr ++ [(m, .dead), (n, .fam false f sz mem')]⟩ M₁ v w' := by
 subst hi; subst hmem
 have hmi := memT_iff.1 h3
 have hni := allNat_iff.1 h4
 have hnm : n ≠ m := by rintro rfl; exact hni hmi
 have hm' := lk_wrO_in (o := []) (p := σ.o) hmi
 have hn' : lk (wrO σ.o out.wr) n = some (.fam false f sz mem) := by rw [lk_wrO hni]; exact hn
 have R' : RSt M' ⟨σ.n, [], wrO σ.o out.wr⟩ a w' := ⟨R.sz, R.df, by intro t v h; simp [lk] at h, p.obj, by intro t v h; simp [lk] at h, p.onm⟩
 obtain ⟨M₁, R₁, E₁, B₁, f1⟩ := R'.member (len := len) hn' (by show lk (wrO σ.o out.wr) m = _; rw [← hm']; exact hm) hnm
 have hup : ∀ k, lk (wrO σ.o (out.wr ++ [(m, .dead), (n, .fam false f sz (mem ++ [rows]))])) k = lk (up (up (wrO σ.o out.wr) m .dead) n (.fam false f sz (mem ++ [rows]))) k := by
  intro k; rw [wrO_append]; rfl
 refine ⟨M₁, p.ext.trans E₁, f1 v hv, ?_, fun n hn => by rw [B₁]; exact p.bet n hn, fun n hn => by rw [B₁]; exact p.bev n hn, by simp [AV.nms], ?_⟩
 ·intro k o h; rw [hup] at h; exact R₁.ob k o h
 ·intro k o h j hj; rw [hup] at h ⊢; exact R₁.wo k o h j hj
section
variable {SP : SpecT}
theorem map_congr_parts {ps : List (Nat × Operand)} {ρ ρ' : Operand → AV} (h : ∀ x ∈ ps.map (·.2), ρ x = ρ' x) : (ps.map fun (i, x) => (i, ρ x)) = ps.map fun (i, x) => (i, ρ' x) :=
 List.map_congr_left fun p hp => by
  obtain ⟨i, x⟩ := p
  simp only [h x (List.mem_map.2 ⟨(i, x), hp, rfl⟩)]
theorem effV_congr {op : Op} {ρ ρ' : Operand → AV} (h : ∀ x ∈ op.operands, ρ x = ρ' x) : effV P op ρ = effV P op ρ' := by
 cases op <;> simp only [Op.operands] at h <;> simp only [effV]
 case build t ps => rw [map_congr_parts (ps := ps.toList) fun x hx => h x (by simpa using hx)]
 case makeFunc fn first captured =>
  have e1 : first.toList.map ρ = first.toList.map ρ' := List.map_congr_left fun x hx => h x (by simp at hx; simp [hx])
  have e2 : captured.toList.map ρ = captured.toList.map ρ' := List.map_congr_left fun x hx => h x (by simp at hx; simp [hx])
  simp only [e2]
  cases fn with
  | func f =>
   rcases hl : first.toList with _ | ⟨x, _ | ⟨y, l⟩⟩
   ·rfl
   ·have := h x (by
     have : x ∈ first.toList := by rw [hl]; simp
     simp [Array.mem_toList_iff.1 this])
    simp only [this]
   ·rfl
  | _ => rfl
 case call c =>
  have e1 : c.args.toList.map ρ = c.args.toList.map ρ' := List.map_congr_left fun x hx => h x (by simp at hx; simp [Call.operands, hx])
  cases hc : c.callee with
  | value f => rfl
  | invoke r m => rfl
  | builtin b => simp only [e1]
 all_goals first | rfl | (simp_all; done)
theorem effO_congrρ {L : Nat → Option AObj} {op : Op} {ρ ρ' : Operand → AV} {an : Ann} (h : ∀ x ∈ op.operands, ρ x = ρ' x) : effO P SP L op ρ an = effO P SP L op ρ' an := by
 cases op <;> simp only [Op.operands] at h <;> simp only [effO]
 case buildSlice t n ps => rw [map_congr_parts (ps := ps.toList) fun x hx => h x (by simpa using hx)]
 case call c =>
  have e1 : c.args.toList.map ρ = c.args.toList.map ρ' := List.map_congr_left fun x hx => h x (by simp at hx; simp [Call.operands, hx])
  cases hc : c.callee with
  | value f =>
   have hf : ρ f = ρ' f := h f (by simp [Call.operands, hc])
   simp only [e1, hf]
  | invoke r m => rfl
  | builtin b => simp only [e1]
 case slice t x lo hi mx =>
  have e1 : ρ x = ρ' x := h x (by simp)
  have e2 : lo.map ρ = lo.map ρ' := by cases lo with
   | none => rfl
   | some y => simp only [Option.map_some, h y (by simp)]
  have e3 : hi.map ρ = hi.map ρ' := by cases hi with
   | none => rfl
   | some y => simp only [Option.map_some, h y (by simp)]
  cases mx with
  | none => simp only [e1, e2, e3]
  | some m => simp only [e1, e2, e3, h m (by simp)]
 all_goals first | rfl | (simp_all; done)
theorem pickA_congr {op : Op} {ρ ρ' : Operand → AV} {b : Bool} (h : ∀ x ∈ op.operands, ρ x = ρ' x) : pickA op ρ b = pickA op ρ' b := by
 unfold pickA
 split
 ·rename_i c x y
  rw [h c (by simp [Op.operands]), h x (by simp [Op.operands]), h y (by simp [Op.operands])]
 ·rfl
theorem effG_congr {op : Op} {ρ ρ' : Operand → AV} (h : ∀ x ∈ op.operands, ρ x = ρ' x) : effG P op ρ = effG P op ρ' := by
 unfold effG
 split
 ·rename_i c x y
  unfold pickG
  rw [h c (by simp [Op.operands]), h x (by simp [Op.operands]), h y (by simp [Op.operands])]
 ·exact effV_congr h
theorem eff0_congrρ {L : Nat → Option AObj} {op : Op} {ρ ρ' : Operand → AV} {an : Ann} (h : ∀ x ∈ op.operands, ρ x = ρ' x) : eff0 P SP L op ρ an = eff0 P SP L op ρ' an := by
 unfold eff0
 rw [effV_congr (P := P) h, effO_congrρ (P := P) (SP := SP) (L := L) (an := .no) h]
 split
 ·rfl
 ·rename_i v
  rw [effO_congrρ (P := P) (SP := SP) (L := L) (an := .val v) h]
 ·exact pickA_congr h
 ·rw [effG_congr h]
 ·exact effO_congrρ h
end
theorem frzArgs_each {L : Nat → Option AObj} {frz : List Nat} : ∀ {l l' : List AV} {p : List Obl}, frzArgs L frz l = some (p, l') → All p → ∀ z ∈ l, ∃ q v, frzArg2 L frz z = some (q, v) ∧ All q
 | [], _, _, _, _ => by simp
 | z :: l, l', p, h, hp => by
  simp only [frzArgs] at h
  split at h
  ·rename_i p1 d q es e1 e2
   cases h
   rw [All_append] at hp
   intro y hy
   cases hy with
   | head => exact ⟨_, _, e1, hp.1⟩
   | tail _ hy => exact frzArgs_each e2 hp.2 y hy
  ·cases h
theorem opdTmps_mem {l : List Operand} {t : Tmp} : t ∈ opdTmps l ↔ .tmp t ∈ l := by
 induction l with
 | nil => simp [opdTmps]
 | cons x l ih => cases x <;> simp [opdTmps, ih]
theorem lk_ups {f : Nat → AV} (l : List Nat) : ∀ (t : List (Nat × AV)) (x : Nat), lk (l.foldl (fun t x => up t x (f x)) t) x = if x ∈ l then some (f x) else lk t x := by
 induction l with
 | nil => intro t x; simp
 | cons y l ih =>
  intro t x
  simp only [List.foldl_cons, ih, List.mem_cons, lk_up]
  by_cases h : x ∈ l
  ·simp [h]
  ·by_cases h2 : y = x
   ·subst h2; simp [h]
   ·have : ¬ x = y := fun e => h2 e.symm
    simp [h, h2, this]
theorem onto_eq (σ : St) (wf : List (Nat × AObj)) : St.obj ⟨σ.n, σ.t, wrO σ.o wf⟩ = onto wf σ.obj := by
 funext n
 unfold onto St.obj
 by_cases h : n ∈ wf.map (·.1)
 ·rw [lk_wrO_in (p := []) h]
  have : (lk (wrO [] wf) n).isSome := by
   clear σ
   have key : ∀ (wf : List (Nat × AObj)) (o : List (Nat × AObj)), n ∈ wf.map (·.1) → (lk (wrO o wf) n).isSome := by
    intro wf
    induction wf with
    | nil => intro o h; simp at h
    | cons x wf ih =>
     intro o h
     obtain ⟨m, y⟩ := x
     simp only [wrO]
     by_cases h2 : n ∈ wf.map (·.1)
     ·exact ih _ h2
     ·have : n = m := by simpa [h2] using h
      subst this
      rw [lk_wrO h2, lk_up, if_pos rfl]; rfl
   exact key wf [] h
  cases hh : lk (wrO [] wf) n with
  | none => rw [hh] at this; cases this
  | some o => rfl
 ·rw [lk_wrO h, lk_wrO h]; simp [lk]
theorem hwA_rel {σ : St} (ho : ∀ n o, lk σ.o n = some o → ORel M w n o) {x : AV} {v : Value} (h : VRel M w v x) : VRel M w v (hwA σ.obj x) := by
 unfold hwA
 split
 ·rename_i n sz
  split
  ·rename_i fz sz' rows hL
   exact hw_hd h (ho n _ hL)
  ·rename_i rows m hL
   cases ho n _ hL with | slo _ _ f0 => exact hw_hd h f0
  ·exact h
 ·exact h
theorem hwA_nms {L : Nat → Option AObj} {x : AV} : (hwA L x).nms = x.nms := by
 unfold hwA
 split
 ·split <;> rfl
 ·rfl
theorem effR_sound (R : RSt M σ a w) {o : Oper} {an : Ann} {out : Out} (h : effR P (SpecY P) σ.obj o.op σ.ev an = some out) (hp : All out.ob) :
  Does P o a w fun v w' => ∃ M', Post M σ w out M' v w' := by
 unfold effR at h
 cases hr : resOp o.op with
 | false => rw [hr] at h; exact eff0_sound R h hp
 | true =>
  rw [hr] at h
  simp only at h
  let f : Nat → AV := fun x => hwA σ.obj (σ.ev (.tmp x))
  have R₂ : RSt M ⟨σ.n, (opdTmps o.op.operands.toList).foldl (fun t x => up t x (f x)) σ.t, σ.o⟩ a w := by
   refine ⟨R.sz, R.df, ?_, R.ob, ?_, R.wo⟩
   ·intro x v hx
    rw [lk_ups] at hx
    split at hx
    ·cases hx; exact hwA_rel R.ob (R.ev (.tmp x))
    ·exact R.tm x v hx
   ·intro x v hx n hn
    rw [lk_ups] at hx
    split at hx
    ·cases hx; exact R.evn (.tmp x) n (by simpa [f, hwA_nms] using hn)
    ·exact R.wt x v hx n hn
  have h0 : eff0 P (SpecY P) (St.obj ⟨σ.n, (opdTmps o.op.operands.toList).foldl (fun t x => up t x (f x)) σ.t, σ.o⟩) o.op
    (St.ev ⟨σ.n, (opdTmps o.op.operands.toList).foldl (fun t x => up t x (f x)) σ.t, σ.o⟩) an = some out := by
   rw [← h]
   refine eff0_congrρ fun x hx => ?_
   cases x with
   | tmp t =>
    have hm : t ∈ opdTmps o.op.operands.toList := opdTmps_mem.2 (by simpa using hx)
    simp only [St.ev, lk_ups, if_pos hm]; rfl
   | const v => rfl
   | func g => rfl
   | global g => rfl
  intro rd next Q k
  refine eff0_sound R₂ h0 hp rd next Q ?_
  rintro y w' ⟨M', p'⟩
  exact k y w' ⟨M', p'.ext, p'.val, p'.obj, p'.bet, p'.bev, p'.vnm, p'.onm⟩
theorem resF_congr {L : Nat → Option AObj} {op : Op} {ρ ρ' : Operand → AV} (h : ∀ x ∈ op.operands, ρ x = ρ' x) : ∀ x ∈ op.operands, resF L ρ x = resF L ρ' x := by
 intro x hx
 cases x with
 | tmp t => simp only [resF, h _ hx]
 | const v => exact h _ hx
 | func g => exact h _ hx
 | global g => exact h _ hx
theorem effR_congrρ {SP : SpecT} {L : Nat → Option AObj} {op : Op} {ρ ρ' : Operand → AV} {an : Ann} (h : ∀ x ∈ op.operands, ρ x = ρ' x) : effR P SP L op ρ an = effR P SP L op ρ' an := by
 unfold effR
 rw [eff0_congrρ h, eff0_congrρ (resF_congr h)]
theorem eff_sound (R : RSt M σ a w) {o : Oper} {an : Ann} {out : Out} (h : eff P (SpecY P) σ.obj o.op σ.ev an = some out) (hp : All out.ob) :
  Does P o a w fun v w' => ∃ M', Post M σ w out M' v w' := by
 unfold eff at h
 split at h
 ·split at h
  ·rename_i out' h0
   split at h
   ·rename_i wf q v h1 h2 h3
    cases h
    rw [All_append] at hp
    intro rd next Q k
    refine effR_sound R h0 hp.1 rd next Q ?_
    rintro y w' ⟨M', p⟩
    exact k y w' (p.frz R h1 h2 h3 hp.2)
   ·cases h
  ·cases h
 ·rename_i n m i mem' an'
  split at h
  ·rename_i out' h0
   split at h
   ·rename_i f sz mem sz' rows m' off len sz2 hn hm hv
    split at h
    ·rename_i hb
     simp only [Bool.and_eq_true] at hb
     obtain ⟨⟨⟨⟨⟨b1, b2⟩, b3⟩, b4⟩, b5⟩, b6⟩ := hb
     obtain rfl := nbeq_eq b1
     obtain rfl := nbeq_eq b2
     obtain rfl := nbeq_eq b3
     obtain rfl := nbeq_eq b4
     cases h
     rw [All_append] at hp
     intro rd next Q k
     refine effR_sound R h0 hp.1 rd next Q ?_
     rintro y w' ⟨M', p⟩
     have hvv := hwA_rel (M := M') (w := w') (σ := ⟨0, [], wrO [] out'.wr⟩) (fun n o h => p.obj n o (by
      rw [← h]
      refine (lk_wrO_in ?_).symm
      apply Classical.byContradiction
      intro hh
      have h' := h
      rw [show lk ({ n := 0, t := [], o := wrO [] out'.wr } : St).o n = lk (wrO [] out'.wr) n from rfl, lk_wrO hh] at h'
      cases h')) p.val
     rw [show (St.obj { n := 0, t := [], o := wrO [] out'.wr }) = lk (wrO [] out'.wr) from rfl, hv] at hvv
     exact k y w' (p.member R hn hm hvv b5 b6 hp.2.1 hp.2.2.1 _)
    ·cases h
   ·cases h
  ·cases h
 ·rename_i frz an'
  split at h
  ·rename_i wf p args' hfo hfa hnd
   split at h
   ·rename_i out' h0
    cases h
    rw [All_append] at hp
    obtain ⟨M₁, R₁, E₁, B₁, f1, f2⟩ := frzObjs_sound R hfo hnd
    have each := frzArgs_each hfa hp.1
    let f : Nat → AV := fun x => preF σ.obj frz σ.ev (.tmp x)
    have R₂ : RSt M₁ ⟨σ.n, (opdTmps o.op.operands.toList).foldl (fun t x => up t x (f x)) σ.t, wrO σ.o wf⟩ a w := by
     have key : ∀ x ∈ opdTmps o.op.operands.toList, VRel M₁ w (a.eval (.tmp x)) (f x) ∧ ∀ n ∈ (f x).nms, n ∈ (σ.ev (.tmp x)).nms := by
      intro x hx
      obtain ⟨q, v, h1, h2⟩ := each (σ.ev (.tmp x)) (List.mem_map.2 ⟨_, opdTmps_mem.1 hx, rfl⟩)
      obtain ⟨g1, g2⟩ := frzArg2_sound (σ := σ) (σ₁ := { σ with o := wrO σ.o wf }) f2 R₁.ob h1 h2
      have : f x = v := by simp only [f, preF, h1]
      rw [this]
      exact ⟨g1 _ ((R.ev (.tmp x)).mono E₁ fun n _ => by rw [B₁]), g2⟩
     refine ⟨R₁.sz, R₁.df, ?_, R₁.ob, ?_, R₁.wo⟩
     ·intro x v hx
      rw [lk_ups] at hx
      split at hx
      ·rename_i hm; cases hx; exact (key x hm).1
      ·exact R₁.tm x v hx
     ·intro x v hx n hn
      rw [lk_ups] at hx
      split at hx
      ·rename_i hm
       cases hx
       exact wrO_dom (R.evn (.tmp x) n ((key x hm).2 n hn))
      ·exact R₁.wt x v hx n hn
    have h0' : effR P (SpecY P) (St.obj ⟨σ.n, (opdTmps o.op.operands.toList).foldl (fun t x => up t x (f x)) σ.t, wrO σ.o wf⟩) o.op
      (St.ev ⟨σ.n, (opdTmps o.op.operands.toList).foldl (fun t x => up t x (f x)) σ.t, wrO σ.o wf⟩) an' = some out' := by
     rw [← h0, ← onto_eq σ wf]
     refine effR_congrρ fun x hx => ?_
     cases x with
     | tmp t =>
      have hm : t ∈ opdTmps o.op.operands.toList := opdTmps_mem.2 (by simpa using hx)
      simp only [St.ev, lk_ups, if_pos hm]; rfl
     | const v => rfl
     | func g => rfl
     | global g => rfl
    intro rd next Q k
    refine effR_sound R₂ h0' hp.2 rd next Q ?_
    rintro y w' ⟨M', p'⟩
    refine k y w' ⟨M', E₁.trans p'.ext, p'.val, ?_, ?_, ?_, ?_, ?_⟩
    ·intro n o h; rw [wrO_append] at h; exact p'.obj n o h
    ·intro n hn; rw [p'.bet n (wrO_dom hn), B₁]
    ·intro n hn; rw [p'.bev n hn, B₁]
    ·intro n hn; rw [wrO_append]; exact p'.vnm n hn
    ·intro n o h k hk; rw [wrO_append] at h ⊢; exact p'.onm n o h k hk
   ·cases h
  ·cases h
 ·exact effR_sound R h hp
structure Go1 (M : Mm) (w : World) (M' : Mm) (w' : World) : Prop where
 ext : Ext M w M' w'
 bev : ∀ n, n % 2 = 0 → M'.β n = M.β n
theorem Go1.refl (M : Mm) (w : World) : Go1 M w M w := ⟨.refl M w, fun _ _ => rfl⟩
theorem Go1.trans {M₁ M₂ : Mm} {w₁ w₂ : World} (h : Go1 M w M₁ w₁) (k : Go1 M₁ w₁ M₂ w₂) : Go1 M w M₂ w₂ :=
 ⟨h.ext.trans k.ext, fun n hn => (k.bev n hn).trans (h.bev n hn)⟩
theorem RSt.step (R : RSt M σ a w) {out : Out} {M' : Mm} {v : Value} {w' : World} (p : Post M σ w out M' v w') {d : Option Tmp} {σ' : St} (hd : σ.putD d out.v = some σ') :
  RSt M' { σ' with o := wrO σ'.o out.wr } (a.put d v) w' := by
 cases d with
 | none =>
  simp only [St.putD, Option.some.injEq] at hd
  subst hd
  exact ⟨R.sz, R.df, fun t x hx => (R.tm t x hx).mono p.ext fun n hn => p.bet n (R.wt t x hx n hn), p.obj, fun t x hx n hn => wrO_dom (R.wt t x hx n hn), p.onm⟩
 | some d =>
  simp only [St.putD] at hd
  split at hd
  ·rename_i hlt
   have hlt : d < σ.n := Nat.le_of_ble_eq_true hlt
   cases hd
   refine ⟨by simp [Act.put, R.sz], by simp [Act.put, R.df], ?_, p.obj, ?_, p.onm⟩
   ·intro t x hx
    simp only [lk_up] at hx
    split at hx
    ·rename_i e; subst e; cases hx
     simp only [Act.put]
     have : ((a.tmps.setIfInBounds d v).getD d undef) = v := by
      simp [Array.getD_eq_getD_getElem?, R.sz, hlt]
     rw [this]; exact p.val
    ·rename_i e
     simp only [Act.put]
     have : ((a.tmps.setIfInBounds d v).getD t undef) = a.tmps.getD t undef := by
      simp [Array.getD_eq_getD_getElem?, Array.getElem?_setIfInBounds_ne e]
     rw [this]
     exact (R.tm t x hx).mono p.ext fun n hn => p.bet n (R.wt t x hx n hn)
   ·intro t x hx n hn
    simp only [lk_up] at hx
    split at hx
    ·cases hx; exact p.vnm n hn
    ·exact wrO_dom (R.wt t x hx n hn)
  ·cases hd
theorem rel_skip {M : Mm} {w : World} : VRel M w undef (.tup []) := .tup #[] [] rfl (by simp)
theorem RSt.undef (R : RSt M σ a w) {d : Option Tmp} {σ' : St} (hd : σ.putD d (.tup []) = some σ') : RSt M σ' (a.put d Go.undef) w := by
 have p : Post M σ w ⟨[], .tup [], []⟩ M Go.undef w := Post.same R rfl rel_skip (by simp [AV.nms, nmsL])
 have := R.step p hd
 simpa [wrO] using this
theorem rel_lookup_skip (R : RSt M σ a w) {tj : Nat} (h : lk σ.t tj = some (.tup [])) : ∀ b : Bool, a.tmps[tj]? ≠ some (.bool b) := by
 intro b e
 have := R.tm tj _ h
 rw [Array.getD_eq_getD_getElem?, e] at this
 cases this
theorem rel_lookup_bool (R : RSt M σ a w) {tj : Nat} {b : Bool} (h : lk σ.t tj = some (.pv (.bool b))) : a.tmps[tj]? = some (.bool b) := by
 have := rel_bool (R.tm tj _ h)
 rw [Array.getD_eq_getD_getElem?] at this
 cases e : a.tmps[tj]? with
 | none => rw [e] at this; simp [undef] at this
 | some x => rw [e] at this; simp at this; rw [this]
end
end Go.Fx
