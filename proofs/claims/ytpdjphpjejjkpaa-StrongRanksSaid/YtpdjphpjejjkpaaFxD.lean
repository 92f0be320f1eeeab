/- Each operation of the abstract machine is what the model's operation does. -/
import Derived.Test.YtpdjphpjejjkpaaFxC
import Derived.WalkSpells
import Derived.DeepKeys
namespace Go.Fx
structure RSt (M : Mm) (σ : St) (a : Act) (w : World) : Prop where
 sz : a.tmps.size = σ.n
 df : a.defers = []
 tm : ∀ (t : Nat) (v : AV), lk σ.t t = some v → VRel M w (a.tmps.getD t undef) v
 ob : ∀ (n : Nat) (o : AObj), lk σ.o n = some o → ORel M w n o
 wt : ∀ (t : Nat) (v : AV), lk σ.t t = some v → ∀ n ∈ v.nms, (lk σ.o n).isSome
 wo : ∀ (m : Nat) (o : AObj), lk σ.o m = some o → ∀ n ∈ o.nms, (lk σ.o n).isSome
theorem pvOf_rel {M : Mm} {w : World} {v : Value} {p : PV} (h : pvOf v = some p) : PRel M w v p := by
 unfold pvOf at h
 split at h <;> cases h
 ·exact .int _ _
 ·exact .bool _
 ·exact .str _
 ·exact .nilsl
 ·exact .nilmap
theorem pvsOf_len {l : List Value} {ps : List PV} (h : pvsOf l = some ps) : l.length = ps.length := by
 induction l generalizing ps with
 | nil => simp [pvsOf] at h; subst h; rfl
 | cons v r ih =>
  simp only [pvsOf] at h
  split at h
  ·rename_i p qs h1 h2
   cases h; simp [ih h2]
  ·cases h
theorem pvsOf_rel {M : Mm} {w : World} {l : List Value} {ps : List PV} (h : pvsOf l = some ps) (i : Nat) (v : Value) (p : PV)
  (hv : l[i]? = some v) (hp : ps[i]? = some p) : PRel M w v p := by
 induction l generalizing ps i with
 | nil => simp at hv
 | cons x r ih =>
  simp only [pvsOf] at h
  split at h
  ·rename_i q qs h1 h2
   cases h
   cases i with
   | zero => simp at hv hp; subst hv; subst hp; exact pvOf_rel h1
   | succ i => simp at hv hp; exact ih h2 i hv hp
  ·cases h
theorem avOf1_rel {M : Mm} {w : World} (v : Value) : VRel M w v (avOf1 v) := by
 unfold avOf1
 split
 ·exact .nilp
 ·exact .nilf
 ·split
  ·rename_i h; exact .pv _ _ (pvOf_rel h)
  ·exact .undef _
theorem avOf_rel {M : Mm} {w : World} (v : Value) : VRel M w v (avOf v) := by
 unfold avOf
 split
 ·rename_i cs
  split
  ·rename_i ps h
   refine .aggp cs ps ?_ ?_
   ·have := pvsOf_len h; simpa using this
   ·intro i v p h1 h2; exact pvsOf_rel h i v p (by simpa using h1) h2
  ·split
   ·rename_i h
    refine .agg cs _ (by simp) ?_ ?_
    ·intro v hv
     have := List.all_eq_true.1 h v (by simpa using hv)
     cases v <;> simp_all [Value.oneCell']
    ·intro i v c h1 h2
     simp [h1] at h2
     subst h2
     exact avOf1_rel v
   ·exact .undef _
 ·exact avOf1_rel v
theorem avOf1_nms (v : Value) : (avOf1 v).nms = [] := by
 unfold avOf1
 split
 ·rfl
 ·rfl
 ·split <;> rfl
theorem avOf_nms (v : Value) : (avOf v).nms = [] := by
 unfold avOf
 split
 ·split
  ·rfl
  ·split
   ·simp only [AV.nms]
    rename_i cs _ _ _
    have : ∀ l : List Value, nmsL (l.map avOf1) = [] := by
     intro l
     induction l with
     | nil => rfl
     | cons x r ih => simp [nmsL, avOf1_nms, ih]
    exact this _
   ·rfl
 ·exact avOf1_nms v
theorem RSt.ev {M : Mm} {σ : St} {a : Act} {w : World} (R : RSt M σ a w) (x : Operand) : VRel M w (a.eval x) (σ.ev x) := by
 cases x with
 | tmp t =>
  simp only [Act.eval, St.ev]
  cases h : lk σ.t t with
  | none => exact .undef _
  | some v => exact R.tm t v h
 | const v => exact avOf_rel v
 | global g => exact .undef _
 | func f => exact .clo f #[] [] rfl (by simp)
theorem RSt.evn {M : Mm} {σ : St} {a : Act} {w : World} (R : RSt M σ a w) (x : Operand) : ∀ n ∈ (σ.ev x).nms, (lk σ.o n).isSome := by
 cases x with
 | tmp t =>
  simp only [St.ev]
  cases h : lk σ.t t with
  | none => simp [AV.nms]
  | some v => exact R.wt t v h
 | const v => simp [St.ev, avOf_nms]
 | global g => simp [St.ev, AV.nms]
 | func f => simp [St.ev, AV.nms, nmsL]
abbrev wd (rd : Option Nat) : Fence := { fn := fun _ => True, depth := none, alive := false, round := rd }
theorem wd_fn {rd : Option Nat} (f : FuncId) : (wd rd).fn f := trivial
theorem wd_room {rd : Option Nat} (n : Nat) : (wd rd).room n := fun _ h => by simp [wd] at h
theorem wd_deep {rd : Option Nat} {n : Nat} : (wd rd).depth.isSome = true → 1 ≤ n := fun h => by simp [wd] at h
theorem calls_wd {rd : Option Nat} {n : Nat} {P : Program} {f : FuncId} {args : Array Value} {w : World} {R : Ending → World → Prop} (h : Calls P f args w R) : CallsIn (wd rd) n P f args w R :=
 (callsIn_wide (n := n)).2 h
def Does (P : Program) (o : Oper) (a : Act) (w : World) (R : Value → World → Prop) : Prop :=
 ∀ (rd : Option Nat) (next : Act → World → Prop) (Q : Exit → Act → World → Prop), (∀ v w', R v w' → next (a.put o.dst v) w') → o.wpIn (wd rd) 0 P a w next Q
theorem defer_run {P : Program} {w w' : World} {ρ : Operand → Value} {o : Oper} {c : Call} (ho : o.op = .defer c) {x : Next} (h : (execOp ρ o).run P w = .ok x w') : ∃ d, x = .defer d := by
 simp only [execOp, ho, Sem.run_bind] at h
 generalize (resolve ρ c o.type).run P w = r at h
 cases r with
 | ok d w1 => simp [Result.andThen, Sem.run] at h; exact ⟨d, h.1.symm⟩
 | halt e w1 => simp [Result.andThen] at h
theorem semAt_of {P : Program} {w w' : World} {rd : Option Nat} {ρ : Operand → Value} {o : Oper} {x : Next} (h : (execOp ρ o).run P w = .ok x w') (hx : ∀ d, x ≠ .defer d) : (o.semAt (wd rd).round ρ).run P w = .ok x w' := by
 rw [Oper.semAt_eq _ _ _ fun c ho => ?_]
 ·exact h
 ·obtain ⟨d, e⟩ := defer_run ho h
  exact hx d e
theorem Does.as {P : Program} {o o' : Oper} {a : Act} {w : World} {R : Value → World → Prop} (he : ∀ rd, o.semAt rd a.eval = o'.semAt rd a.eval) (hd : o'.dst = o.dst) (h : Does P o' a w R) : Does P o a w R := by
 intro rd next Q k
 have := h rd next Q (fun v w' hr => by rw [hd]; exact k v w' hr)
 unfold Oper.wpIn at this ⊢
 rw [he]
 refine ⟨fun f _ => trivial, ?_⟩
 have := this.2
 generalize (o'.semAt (wd rd).round a.eval).run P w = r at this ⊢
 cases r with
 | ok n w' => cases n <;> simp only [Oper.uponIn, hd] at this ⊢ <;> exact this
 | halt x w' => cases x <;> simp only [Oper.uponIn] at this ⊢ <;> exact this
theorem clA_nms (x : AV) : (clA x).nms = x.nms := by
 unfold clA
 split
 ·simp [AV.nms, nmsL]
 ·rfl
theorem RSt.evc {M : Mm} {σ : St} {a : Act} {w : World} (R : RSt M σ a w) (x : Operand) : ∀ n ∈ (clA (σ.ev x)).nms, (lk σ.o n).isSome := by
 rw [clA_nms]; exact R.evn x
theorem Does.value {P : Program} {o : Oper} {a : Act} {w w' : World} {v : Value} {R : Value → World → Prop}
  (h : (execOp a.eval o).run P w = .ok (.value v) w') (hr : R v w') : Does P o a w R := by
 intro rd next Q k
 refine ⟨fun f _ => trivial, ?_⟩
 rw [semAt_of h (by intro d e; cases e)]
 exact k v w' hr
theorem Does.skip {P : Program} {o : Oper} {a : Act} {w w' : World} {R : Value → World → Prop}
  (h : (execOp a.eval o).run P w = .ok .skip w') (hr : R undef w') : Does P o a w R := by
 intro rd next Q k
 refine ⟨fun f _ => trivial, ?_⟩
 rw [semAt_of h (by intro d e; cases e)]
 exact k undef w' hr
theorem Does.call {P : Program} {o : Oper} {a : Act} {w : World} {f : FuncId} {args : Array Value} {R : Value → World → Prop}
  (h : (execOp a.eval o).run P w = .ok (.enter f args) w) (hr : Calls P f args w fun e w' => ∃ v, e = .returned v ∧ R v w') : Does P o a w R := by
 intro rd next Q k
 refine ⟨fun f _ => trivial, ?_⟩
 rw [semAt_of h (by intro d e; cases e), Oper.uponIn_enter]
 refine ⟨wd_deep, calls_wd (hr.mono ?_)⟩
 rintro e w' ⟨v, rfl, hv⟩
 exact k v w' hv
theorem Does.round {P : Program} {o : Oper} {a : Act} {w : World} {l : Nat} {f : FuncId} {tmps : Array Value} {asg bdy : Code} {R : Value → World → Prop}
  (h : (execOp a.eval o).run P w = .ok (.round l f tmps asg bdy) w)
  (hr : ∀ (c : Frame) (cs : List Frame), ∃ v w', R v w' ∧ Steps P (lone (Frame.round l f tmps asg bdy .normal) (c :: cs) w) (lone (c.finish v) cs w')) : Does P o a w R := by
 intro rd next Q k
 refine ⟨fun f _ => trivial, ?_⟩
 rw [semAt_of h (by intro d e; cases e), Oper.uponIn_round]
 refine ⟨wd_deep, trivial, fun c cs _ => ?_⟩
 obtain ⟨v, w', h1, h2⟩ := hr c cs
 exact ⟨.returned v, w', k v w' h1, (StepsIn.of_steps h2).mono fun m _ => fenced_wide P m⟩
section scalars
variable {P : Program} {M : Mm} {w : World}
theorem rel_int {x : Value} {k : IntKind} {n : Int} (h : VRel M w x (.pv (.int k n))) : x = .int k n := by
 cases h with | pv _ _ h => cases h; rfl
theorem rel_bool {x : Value} {b : Bool} (h : VRel M w x (.pv (.bool b))) : x = .bool b := by
 cases h with | pv _ _ h => cases h; rfl
theorem run_eqGuard_int (op : BinOp) (t : TypeId) (x y : Operand) (k k' : IntKind) (a b : Int) : (eqGuard op t x y (.int k a) (.int k' b)).run P w = .ok () w := by
 unfold eqGuard
 split <;> rfl
theorem run_eqGuard_bool (op : BinOp) (t : TypeId) (x y : Operand) (a b : Bool) : (eqGuard op t x y (.bool a) (.bool b)).run P w = .ok () w := by
 unfold eqGuard
 split <;> rfl
theorem run_eqGuard_slice (op : BinOp) (t : TypeId) (x y : Operand) (a b : Option Addr) (n c n' c' : Nat) : (eqGuard op t x y (.slice a n c) (.slice b n' c')).run P w = .ok () w := by
 unfold eqGuard
 split <;> rfl
theorem litP_ok {lit : Bool} {p : Prop} [Decidable p] {r : List Obl} (h : All (litP lit p :: r)) : p ∧ All r := by
 cases lit with
 | true => exact ⟨of_decide_eq_true h.1, h.2⟩
 | false => exact h
theorem unA_sound {op : UnOp} {x v : AV} (h : unA op x = some v) {a : Value} (ha : VRel M w a x) :
  ∃ r, (Op.unary op a).run P w = .ok r w ∧ VRel M w r v ∧ v.nms = [] := by
 unfold unA at h
 split at h <;> cases h
 ·obtain rfl := rel_bool ha
  exact ⟨_, rfl, .pv _ _ (.bool _), rfl⟩
 ·obtain rfl := rel_int ha
  exact ⟨_, rfl, .pv _ _ (.int _ _), rfl⟩
theorem cells_some {t : TypeId} (h : P.cellsOf t ≠ 0) : ∃ i, P.info? t = some i := by
 unfold Program.cellsOf at h
 cases e : P.info? t with
 | none => simp [e] at h
 | some i => exact ⟨i, rfl⟩
theorem run_size {t : TypeId} (h : P.cellsOf t ≠ 0) (w : World) : (sizeOf t).run P w = .ok (P.cellsOf t) w := by
 obtain ⟨i, e⟩ := cells_some h
 exact run_sizeOf w e
theorem under_info {t : TypeId} {d : TypeDesc} (h : P.underlying t = some d) : ∃ i, P.info? t = some i := by
 unfold Program.underlying at h
 cases e : P.info? t with
 | none => simp [e] at h
 | some i => exact ⟨i, rfl⟩
theorem run_sizeU {t : TypeId} {d : TypeDesc} (h : P.underlying t = some d) (w : World) : (sizeOf t).run P w = .ok (P.cellsOf t) w := by
 obtain ⟨i, e⟩ := under_info h
 exact run_sizeOf w e
theorem toPVs_map {l : List AV} {ps : List PV} (h : toPVs l = some ps) : l = ps.map .pv := by
 induction l generalizing ps with
 | nil => simp [toPVs] at h; subst h; rfl
 | cons c r ih =>
  cases c with
  | pv p =>
   simp only [toPVs, Option.map_eq_some_iff] at h
   obtain ⟨qs, h1, rfl⟩ := h
   simp [ih h1]
  | _ => simp [toPVs] at h
theorem rel_cells {x : Array Value} {cs : List AV} (hs : x.size = cs.length) (h1 : ∀ v ∈ x, v.oneCell' = true)
  (hc : ∀ (i : Nat) (v : Value) (c : AV), x[i]? = some v → cs[i]? = some c → VRel M w v c) : VRel M w (.agg x) (mkAgg cs) := by
 unfold mkAgg
 split
 ·rename_i ps h
  have e := toPVs_map h
  subst e
  refine .aggp x ps (by simpa using hs) fun i v p h1 h2 => ?_
  have := hc i v (.pv p) h1 (by simp [h2])
  cases this with | pv _ _ h => exact h
 ·exact .agg x cs hs h1 hc
theorem mkAgg_nms {cs : List AV} {n : Nat} (h : n ∈ (mkAgg cs).nms) : n ∈ nmsL cs := by
 unfold mkAgg at h
 split at h
 ·simp [AV.nms] at h
 ·simpa [AV.nms] using h
theorem rel_cellsA {a : Value} {x : AV} (h : VRel M w a x) (hx : x.plain = true) : a.cells.size = x.cellsA.length ∧ ∀ (i : Nat) (v : Value) (c : AV), a.cells[i]? = some v → x.cellsA[i]? = some c → VRel M w v c := by
 cases h with
 | ar _ n sz rows h =>
  cases h with | aggp vs _ hs hc =>
  refine ⟨by rw [AV.cellsA, List.length_map]; exact hs, fun i v c h1 h2 => ?_⟩
  simp only [AV.cellsA, List.getElem?_map, Option.map_eq_some_iff] at h2
  obtain ⟨p, h2, rfl⟩ := h2
  exact .pv _ _ (hc i v p h1 h2)
 | sagg _ cs h => cases h with | agg vs _ hs h1 hc => exact ⟨hs, hc⟩
 | agg vs cs hs h1 hc => exact ⟨hs, hc⟩
 | aggp vs ps hs hc =>
  refine ⟨by simpa [Value.cells, AV.cellsA] using hs, fun i v c h1 h2 => ?_⟩
  simp only [AV.cellsA, List.getElem?_map, Option.map_eq_some_iff] at h2
  obtain ⟨p, h2, rfl⟩ := h2
  exact .pv _ _ (hc i v p h1 h2)
 | undef => cases hx
 | gv => cases hx
 | pv v p hp =>
  have : a.cells = #[a] := by cases hp <;> rfl
  rw [this]
  refine ⟨rfl, fun i v c h1 h2 => ?_⟩
  cases i <;> simp [AV.cellsA] at h1 h2
  subst h1; subst h2; exact .pv _ _ hp
 | tup => cases hx
 | fref b off cells y h1 h2 =>
  refine ⟨rfl, fun i v c e1 e2 => ?_⟩
  cases i <;> simp [AV.cellsA, Value.cells] at e1 e2
  subst e1; subst e2; exact .fref b off cells y h1 h2
 | ref n ri sz off b base e =>
  refine ⟨rfl, fun i v c e1 e2 => ?_⟩
  cases i <;> simp [AV.cellsA, Value.cells] at e1 e2
  subst e1; subst e2; exact .ref n ri sz off b base e
 | hd0 n off sz y =>
  refine ⟨rfl, fun i v c e1 e2 => ?_⟩
  cases i <;> simp [AV.cellsA, Value.cells] at e1 e2
  subst e1; subst e2; exact .hd0 n off sz y
 | hd n off len sz b base cap c T fr e h1 h2 h3 =>
  refine ⟨rfl, fun i v c e1 e2 => ?_⟩
  cases i <;> simp [AV.cellsA, Value.cells] at e1 e2
  subst e1; subst e2; exact .hd n off len sz b base cap _ T fr e h1 h2 h3
 | hx n len sz N b base cap c T fr e h1 h2 h3 h4 =>
  refine ⟨rfl, fun i v c e1 e2 => ?_⟩
  cases i <;> simp [AV.cellsA, Value.cells] at e1 e2
  subst e1; subst e2; exact .hx n len sz N b base cap _ T fr e h1 h2 h3 h4
 | hv _ n sz N h =>
  have ho : a.cells = #[a] := by generalize (M.β n).1 = ln at h; cases h; rfl
  rw [ho]
  refine ⟨rfl, fun i v c e1 e2 => ?_⟩
  cases i <;> simp [AV.cellsA] at e1 e2
  subst e1; subst e2; exact .hv _ n sz N h
 | hw _ n sz h =>
  have ho : a.cells = #[a] := by generalize (M.β n).1 = ln at h; cases h <;> rfl
  rw [ho]
  refine ⟨rfl, fun i v c e1 e2 => ?_⟩
  cases i <;> simp [AV.cellsA] at e1 e2
  subst e1; subst e2; exact .hw _ n sz h
 | mp n b e =>
  refine ⟨rfl, fun i v c e1 e2 => ?_⟩
  cases i <;> simp [AV.cellsA, Value.cells] at e1 e2
  subst e1; subst e2; exact .mp n b e
 | fr f fi ri sz off b base e =>
  refine ⟨rfl, fun i v c e1 e2 => ?_⟩
  cases i <;> simp [AV.cellsA, Value.cells] at e1 e2
  subst e1; subst e2; exact .fr f fi ri sz off b base e
 | clo f vs caps hs hc =>
  refine ⟨rfl, fun i v c e1 e2 => ?_⟩
  cases i <;> simp [AV.cellsA, Value.cells] at e1 e2
  subst e1; subst e2; exact .clo f vs caps hs hc
 | bnd f v r h1 =>
  refine ⟨rfl, fun i v c e1 e2 => ?_⟩
  cases i <;> simp [AV.cellsA, Value.cells] at e1 e2
  subst e1; subst e2; exact .bnd f _ r h1
 | cp a n rows e p =>
  refine ⟨rfl, fun i v c e1 e2 => ?_⟩
  cases i <;> simp [AV.cellsA, Value.cells] at e1 e2
  subst e1; subst e2; exact .cp a n rows e p
 | nilp =>
  refine ⟨rfl, fun i v c e1 e2 => ?_⟩
  cases i <;> simp [AV.cellsA, Value.cells] at e1 e2
  subst e1; subst e2; exact .nilp
 | nilf =>
  refine ⟨rfl, fun i v c e1 e2 => ?_⟩
  cases i <;> simp [AV.cellsA, Value.cells] at e1 e2
  subst e1; subst e2; exact .nilf
 | yl n l hb =>
  refine ⟨rfl, fun i v c e1 e2 => ?_⟩
  cases i <;> simp [AV.cellsA, Value.cells] at e1 e2
  subst e1; subst e2; exact .yl n l hb
theorem rel_one {a : Value} {x : AV} (h : VRel M w a x) (hx : x.plain = true) : ∀ v ∈ a.cells, v.oneCell' = true := by
 cases h with
 | undef => cases hx
 | gv => cases hx
 | tup => cases hx
 | agg vs cs hs h1 hc => exact h1
 | aggp vs ps hs hc =>
  intro v hv
  obtain ⟨i, hi⟩ := Array.getElem?_of_mem hv
  have hlt : i < ps.length := by have h9 : i < vs.size := (Array.getElem?_eq_some_iff.1 hi).1; omega
  exact (hc i v ps[i] hi (by simp [hlt])).oneCell
 | pv v p hp =>
  have e : a.cells = #[a] := by cases hp <;> rfl
  rw [e]; intro v hv; simp at hv; subst hv; exact hp.oneCell
 | hw _ n _ h => generalize (M.β n).1 = ln at h; cases h <;> (intro v hv; simp [Value.cells] at hv; subst hv; rfl)
 | hv _ n _ N h => generalize (M.β n).1 = ln at h; cases h; intro v hv; simp [Value.cells] at hv; subst hv; rfl
 | ar _ n sz rows h =>
  cases h with | aggp vs ps hs hc =>
  intro v hv
  obtain ⟨i, hi⟩ := Array.getElem?_of_mem hv
  have h9 : i < vs.size := (Array.getElem?_eq_some_iff.1 hi).1
  have hlt : i < rows.flatten.length := by omega
  exact (hc i v rows.flatten[i] hi (List.getElem?_eq_getElem hlt)).oneCell
 | sagg _ cs h => cases h with | agg vs _ hs h1 hc => exact h1
 | _ => intro v hv; simp [Value.cells] at hv; subst hv; rfl
structure CRel (M : Mm) (w : World) (x : Array Value) (cs : List AV) : Prop where
 size : x.size = cs.length
 one : ∀ v ∈ x, v.oneCell' = true
 cell : ∀ (i : Nat) (v : Value) (c : AV), x[i]? = some v → cs[i]? = some c → VRel M w v c
theorem CRel.of {a : Value} {x : AV} (h : VRel M w a x) (hx : x.plain = true) : CRel M w a.cells x.cellsA := by
 have := rel_cellsA h hx
 exact ⟨this.1, rel_one h hx, this.2⟩
theorem getElem?_splice {α : Type} (l : List α) (off : Nat) (ps : List α) (h : off + ps.length ≤ l.length) (i : Nat) :
  (splice l off ps)[i]? = if off ≤ i ∧ i < off + ps.length then ps[i - off]? else l[i]? := by
 unfold splice
 by_cases h1 : i < off
 ·rw [List.getElem?_append_left (by simp; omega), List.getElem?_append_left (by simp; omega), List.getElem?_take_of_lt h1, if_neg (by omega)]
 ·by_cases h2 : i < off + ps.length
  ·rw [List.getElem?_append_left (by simp; omega), List.getElem?_append_right (by simp; omega), if_pos ⟨by omega, h2⟩]
   congr 1; simp; omega
  ·rw [List.getElem?_append_right (by simp; omega), if_neg (by omega), List.getElem?_drop]
   congr 1; simp; omega
theorem length_splice {α : Type} (l : List α) (off : Nat) (ps : List α) (h : off + ps.length ≤ l.length) : (splice l off ps).length = l.length := by
 unfold splice; simp; omega
theorem foldl_set (vs : List Value) (off : Nat) : ∀ (k : Nat) (cells : Array Value),
  let r := (vs.zipIdx k).foldl (fun cs (c, j) => cs.setIfInBounds (off + j) c) cells
  r.size = cells.size ∧ ∀ i, r[i]? = if off + k ≤ i ∧ i < off + k + vs.length ∧ i < cells.size then vs[i - (off + k)]? else cells[i]? := by
 induction vs with
 | nil => intro k cells; simp; intro i h1 h2; omega
 | cons v vs ih =>
  intro k cells
  simp only [List.zipIdx_cons, List.foldl_cons]
  obtain ⟨h1, h2⟩ := ih (k + 1) (cells.setIfInBounds (off + k) v)
  refine ⟨by simpa using h1, fun i => ?_⟩
  rw [h2 i]
  simp only [Array.size_setIfInBounds, List.length_cons]
  by_cases e : i = off + k
  ·subst e
   rw [if_neg (by omega)]
   by_cases hb : off + k < cells.size
   ·rw [if_pos ⟨by omega, by omega, hb⟩]; simp [hb]
   ·rw [if_neg (by omega)]; simp [hb]
  ·rw [Array.getElem?_setIfInBounds_ne (by omega)]
   by_cases hc : off + (k + 1) ≤ i ∧ i < off + (k + 1) + vs.length ∧ i < cells.size
   ·rw [if_pos hc, if_pos ⟨by omega, by omega, hc.2.2⟩]
    have : i - (off + k) = (i - (off + (k + 1))) + 1 := by omega
    rw [this, List.getElem?_cons_succ]
   ·rw [if_neg hc, if_neg (by omega)]
theorem CRel.splice {x y : Array Value} {cs ds : List AV} (h : CRel M w x cs) (k : CRel M w y ds) (off : Nat) (hb : off + ds.length ≤ cs.length)
  {r : Array Value} (hr : r = (y.zipIdx.foldl (fun cs (c, j) => cs.setIfInBounds (off + j) c) x)) : CRel M w r (splice cs off ds) := by
 have e : r = (y.toList.zipIdx 0).foldl (fun cs (c, j) => cs.setIfInBounds (off + j) c) x := by
  rw [hr, ← Array.foldl_toList]; simp
 obtain ⟨h1, h2⟩ := foldl_set y.toList off 0 x
 rw [← e] at h1 h2
 have hs := h.size
 have ks := k.size
 have get : ∀ i, r[i]? = if off ≤ i ∧ i < off + ds.length then y[i - off]? else x[i]? := by
  intro i
  rw [h2 i]
  simp only [Nat.add_zero, Array.length_toList]
  by_cases hc : off ≤ i ∧ i < off + ds.length
  ·rw [if_pos hc, if_pos (by omega)]; simp
  ·rw [if_neg hc, if_neg (by omega)]
 refine ⟨by rw [h1, length_splice _ _ _ hb]; exact hs, ?_, ?_⟩
 ·intro v hv
  obtain ⟨i, hi⟩ := Array.getElem?_of_mem hv
  rw [get i] at hi
  split at hi
  ·exact k.one v (Array.mem_of_getElem? hi)
  ·exact h.one v (Array.mem_of_getElem? hi)
 ·intro i v c e1 e2
  rw [get i] at e1
  rw [getElem?_splice _ _ _ hb] at e2
  split at e1
  ·rename_i hc; rw [if_pos hc] at e2; exact k.cell _ v c e1 e2
  ·rename_i hc; rw [if_neg hc] at e2; exact h.cell _ v c e1 e2
theorem splice_nms {cs ds : List AV} {off n : Nat} (h : n ∈ nmsL (splice cs off ds)) : n ∈ nmsL cs ∨ n ∈ nmsL ds := by
 rw [nmsL_iff] at h
 obtain ⟨c, h1, h2⟩ := h
 unfold splice at h1
 simp only [List.mem_append] at h1
 rcases h1 with (h1 | h1) | h1
 ·exact .inl (nmsL_mem (List.mem_of_mem_take h1) h2)
 ·exact .inr (nmsL_mem h1 h2)
 ·exact .inl (nmsL_mem (List.mem_of_mem_drop h1) h2)
theorem cellsA_nms {x : AV} {n : Nat} (h : n ∈ nmsL x.cellsA) : n ∈ x.nms := by
 cases x with
 | aggp ps => rw [AV.cellsA, nmsL_pvs] at h; cases h
 | ar m sz rows => rw [AV.cellsA, nmsL_pvs] at h; cases h
 | sagg cs => simp only [AV.cellsA] at h; exact flatC_nms.1 h
 | agg cs => exact h
 | _ => simp only [AV.cellsA, nmsL, List.append_nil] at h; exact h
theorem fill_sound {fs : Array Field} {places : Nat → Option (Nat × Nat)} (hpl : ∀ (i : Nat) (f : Field), fs[i]? = some f → places i = some (f.offset, P.cellsOf f.type))
  (ps : List (Nat × Value)) (qs : List (Nat × AV)) (hl : ps.length = qs.length)
  (hr : ∀ (j i i' : Nat) (v : Value) (q : AV), ps[j]? = some (i, v) → qs[j]? = some (i', q) → i = i' ∧ VRel M w v q) :
  ∀ (x : Array Value) (cs ds : List AV), CRel M w x cs → fillA P fs qs cs = some ds →
   ∃ y, Instr.fill places x ps = some y ∧ CRel M w y ds ∧ ∀ n ∈ nmsL ds, n ∈ nmsL cs ∨ ∃ q ∈ qs, n ∈ q.2.nms := by
 induction ps generalizing qs with
 | nil =>
  intro x cs ds hc hf
  cases qs with
  | nil => simp [fillA] at hf; subst hf; exact ⟨x, rfl, hc, fun n h => .inl h⟩
  | cons => simp at hl
 | cons iv ps ih =>
  intro x cs ds hc hf
  obtain ⟨i, v⟩ := iv
  cases qs with
  | nil => simp at hl
  | cons jq qs =>
   obtain ⟨i', q⟩ := jq
   obtain ⟨rfl, hv⟩ := hr 0 i i' v q rfl rfl
   simp only [fillA] at hf
   split at hf
   ·rename_i f hfi
    split at hf
    ·rename_i h1 h2 h3
     have h2 := nbeq_eq h2
     have h3 : f.offset + q.cellsA.length ≤ cs.length := Nat.le_of_ble_eq_true h3
     have kq := CRel.of hv h1
     have hx : f.offset + v.cells.size ≤ x.size := by rw [kq.size, hc.size]; exact h3
     obtain ⟨y, e1, e2, e3⟩ := ih qs (by simpa using hl) (fun j a b c d h h' => hr (j + 1) a b c d (by simpa using h) (by simpa using h')) _ _ _
      (hc.splice kq f.offset h3 rfl) hf
     refine ⟨y, ?_, e2, fun n hn => ?_⟩
     ·simp only [Instr.fill, hpl i f hfi]
      rw [if_neg]
      ·exact e1
      ·simp only [Bool.or_eq_true, decide_eq_true_eq, not_or, ne_eq, Decidable.not_not]
       exact ⟨by rw [kq.size, h2], by omega⟩
     ·rcases e3 n hn with h | ⟨q', hq, hq'⟩
      ·rcases splice_nms h with h | h
       ·exact .inl h
       ·exact .inr ⟨_, .head _, cellsA_nms h⟩
      ·exact .inr ⟨q', .tail _ hq, hq'⟩
    ·cases hf
   ·cases hf
theorem run_isAggT {t : TypeId} {b : Bool} (h : isAggT P t = some b) (w : World) : (isAgg t).run P w = .ok b w := by
 unfold isAggT at h
 unfold isAgg
 cases e : P.underlying t with
 | none => simp [e] at h
 | some d =>
  rw [e] at h
  rw [Sem.run_bind, run_underlying e, Result.andThen_ok]
  cases d <;> simp at h <;> subst h <;> rfl
theorem under_of_agg {t : TypeId} {b : Bool} (h : isAggT P t = some b) : ∃ d, P.underlying t = some d := by
 unfold isAggT at h
 cases e : P.underlying t with
 | none => simp [e] at h
 | some d => exact ⟨d, rfl⟩
theorem getElem?_cut1 {α : Type} (l : List α) (off n i : Nat) : (cut1 l off n)[i]? = if i < n then l[off + i]? else none := by
 unfold cut1
 rw [List.getElem?_take]
 split
 ·rw [List.getElem?_drop]
 ·rfl
theorem length_cut1 {α : Type} (l : List α) (off n : Nat) (h : off + n ≤ l.length) : (cut1 l off n).length = n := by
 unfold cut1; simp; omega
theorem getElem?_extract' {α : Type} (x : Array α) (off n i : Nat) (h : off + n ≤ x.size) : (x.extract off (off + n))[i]? = if i < n then x[off + i]? else none := by
 rw [Array.getElem?_extract]
 by_cases hi : i < n
 ·rw [if_pos hi, if_pos (by omega)]
 ·rw [if_neg hi, if_neg (by omega)]
theorem CRel.cut {x : Array Value} {cs : List AV} (h : CRel M w x cs) (off n : Nat) (hb : off + n ≤ cs.length) : CRel M w (x.extract off (off + n)) (cut1 cs off n) := by
 have hs := h.size
 refine ⟨by rw [length_cut1 _ _ _ hb]; simp; omega, ?_, ?_⟩
 ·intro v hv
  obtain ⟨i, hi⟩ := Array.getElem?_of_mem hv
  rw [getElem?_extract' _ _ _ _ (by omega)] at hi
  split at hi
  ·exact h.one v (Array.mem_of_getElem? hi)
  ·cases hi
 ·intro i v c e1 e2
  rw [getElem?_extract' _ _ _ _ (by omega)] at e1
  rw [getElem?_cut1] at e2
  split at e1
  ·rename_i hc; rw [if_pos hc] at e2; exact h.cell _ v c e1 e2
  ·cases e1
theorem CRel.agg {x : Array Value} {cs : List AV} (h : CRel M w x cs) : VRel M w (.agg x) (mkAgg cs) := rel_cells h.size h.one h.cell
theorem cut1_nms {cs : List AV} {off k n : Nat} (h : n ∈ nmsL (cut1 cs off k)) : n ∈ nmsL cs := by
 rw [nmsL_iff] at h
 obtain ⟨c, h1, h2⟩ := h
 exact nmsL_mem (List.mem_of_mem_drop (List.mem_of_mem_take h1)) h2
theorem takeV_sound {t : TypeId} {cs : List AV} {off : Nat} {v : AV} (h : takeV P t cs off = some v) {x : Array Value} (hc : CRel M w x cs) :
  ∃ y, (part t x off).run P w = .ok y w ∧ VRel M w y v ∧ ∀ n ∈ v.nms, n ∈ nmsL cs := by
 unfold takeV at h
 split at h
 ·rename_i ha
  split at h
  ·rename_i hb
   have hb : off + P.cellsOf t ≤ cs.length := Nat.le_of_ble_eq_true hb
   cases h
   obtain ⟨d, hd⟩ := under_of_agg ha
   refine ⟨.agg (x.extract off (off + P.cellsOf t)), ?_, (hc.cut _ _ hb).agg, fun n hn => cut1_nms (mkAgg_nms hn)⟩
   unfold part
   rw [Sem.run_bind, run_isAggT ha, Result.andThen_ok]
   simp only [if_true, Sem.run_bind, run_sizeU hd, Result.andThen_ok]
   rfl
  ·cases h
 ·rename_i ha
  split at h
  ·rename_i u hu
   split at h
   ·rename_i hpl
    split at h
    ·cases h
    ·cases h
    ·cases h
    ·cases h
    ·cases h
     have hlt : off < x.size := by rw [hc.size]; exact (List.getElem?_eq_some_iff.1 hu).1
     refine ⟨x[off], ?_, hc.cell off x[off] _ (by simp [hlt]) hu, fun n hn => nmsL_mem (List.mem_of_getElem? hu) hn⟩
     unfold part
     rw [Sem.run_bind, run_isAggT ha, Result.andThen_ok]
     simp [hlt]
   ·cases h
  ·cases h
 ·cases h
theorem CRel.ofP {x : Array Value} {ps : List PV} (hs : x.size = ps.length) (hc : ∀ (i : Nat) (v : Value) (p : PV), x[i]? = some v → ps[i]? = some p → PRel M w v p) :
  CRel M w x (ps.map .pv) := by
 refine ⟨by simpa using hs, ?_, ?_⟩
 ·intro v hv
  obtain ⟨i, hi⟩ := Array.getElem?_of_mem hv
  have hlt : i < ps.length := by have h9 : i < x.size := (Array.getElem?_eq_some_iff.1 hi).1; omega
  exact (hc i v ps[i] hi (by simp [hlt])).oneCell
 ·intro i v c h1 h2
  simp only [List.getElem?_map, Option.map_eq_some_iff] at h2
  obtain ⟨p, h2, rfl⟩ := h2
  exact .pv _ _ (hc i v p h1 h2)
theorem takeP_takeV {t : TypeId} {cs : List PV} {off : Nat} {v : AV} (h : takeP P t cs off = some v) : takeV P t (cs.map .pv) off = some v := by
 unfold takeP at h
 unfold takeV
 split at h
 ·split at h
  ·rename_i hb
   cases h
   simp only [List.length_map, hb]
   have : cut1 (cs.map AV.pv) off (P.cellsOf t) = (cut1 cs off (P.cellsOf t)).map .pv := by unfold cut1; simp
   rw [this]
   unfold mkAgg
   have : ∀ l : List PV, toPVs (l.map .pv) = some l := by
    intro l; induction l with
    | nil => rfl
    | cons p l ih => simp [toPVs, ih]
   rw [this]
  ·cases h
 ·simp only [Option.map_eq_some_iff] at h
  obtain ⟨p, h, rfl⟩ := h
  simp [h, AV.plain]
 ·cases h
theorem pvs_nms (ps : List PV) : nmsL (ps.map .pv) = [] := by
 induction ps with
 | nil => rfl
 | cons p ps ih => simp [nmsL, AV.nms, ih]
theorem fieldAtP_sound {s : TypeId} {f o : Nat} {t : TypeId} (h : fieldAtP P s f = some (o, t)) :
  ∃ (fs : Array Field) (fd : Field), P.underlying s = some (.struct fs) ∧ fs[f]? = some fd ∧ fd.offset = o ∧ fd.type = t ∧ P.cellsOf fd.type ≠ 0 := by
 unfold fieldAtP at h
 split at h
 ·rename_i fs hu
  split at h
  ·rename_i fd hf
   split at h
   ·cases h
   ·rename_i hb
    cases h
    exact ⟨fs, fd, hu, hf, rfl, rfl, by intro e; rw [e] at hb; simp at hb⟩
  ·cases h
 ·cases h
theorem add_addr (b o n : Nat) : (⟨b, o, none⟩ : Addr).add n = ⟨b, o + n, none⟩ := by
 unfold Addr.add; split <;> simp_all
theorem run_fieldAt {s : TypeId} {f o : Nat} {t : TypeId} (h : fieldAtP P s f = some (o, t)) (b off : Nat) (w : World) :
  (Instr.fieldAt s (.pointer (some ⟨b, off, none⟩)) f).run P w = .ok (.pointer (some ⟨b, off + o, none⟩)) w := by
 obtain ⟨fs, fd, hu, hf, rfl, rfl, h0⟩ := fieldAtP_sound h
 unfold Instr.fieldAt
 rw [Sem.run_bind, run_underlying hu, Result.andThen_ok]
 simp only [hf, Instr.sureAddr, fieldPlace, Sem.run_bind, Sem.run_pure, Result.andThen_ok, run_size h0]
 rw [if_neg h0]
 simp [add_addr]
theorem rel_slice_len {rows : List (List PV)} {a : Value} (h : VRel M w a (.pv (.sl rows))) : ∃ x c, a = .slice x rows.length c := by
 cases h with | pv _ _ h => cases h with
  | sl0 x c => exact ⟨x, c, rfl⟩
  | sl b off sz len c _ x h1 h0 h2 h3 h4 => subst h1; exact ⟨_, c, rfl⟩
theorem rel_hd_len {n off len sz : Nat} {a : Value} (h : VRel M w a (.hd n off len sz)) : ∃ x c, a = .slice x len c := by
 cases h with
 | hd0 _ _ _ x => exact ⟨x, 0, rfl⟩
 | hd _ _ _ _ b base cap c T fr h1 h2 h3 h4 => exact ⟨_, cap, rfl⟩
theorem rel_fh_len {f i off len sz : Nat} {a : Value} (h : VRel M w a (.pv (.fh f i off len sz))) : ∃ x c, a = .slice x len c := by
 cases h with | pv _ _ h => cases h with
 | fh0 _ _ _ _ x c => exact ⟨x, c, rfl⟩
 | fh _ _ _ _ _ b base c h1 h2 => exact ⟨_, c, rfl⟩
theorem rel_nilsl {a : Value} (h : VRel M w a (.pv .nilsl)) : a = .slice none 0 0 := by
 cases h with | pv _ _ h => cases h; rfl
theorem lenA_sound {t : TypeId} {x v : AV} (h : lenA P t x = some v) {a : Value} (ha : VRel M w a x) (ty : TypeId) :
  ∃ r, (Builtin.len_ #[t] ty #[a]).run P w = .ok r w ∧ VRel M w r v ∧ v.nms = [] := by
 unfold lenA at h
 split at h <;> cases h
 ·rename_i e rows hu
  obtain ⟨y, c, rfl⟩ := rel_slice_len ha
  exact ⟨_, by simp [Builtin.len_, run_underlying hu, goInt], .pv _ _ (.int _ _), rfl⟩
 ·rename_i e hu
  obtain rfl := rel_nilsl ha
  exact ⟨_, by simp [Builtin.len_, run_underlying hu, goInt], .pv _ _ (.int _ _), rfl⟩
 ·rename_i e n off len sz hu
  obtain ⟨y, c, rfl⟩ := rel_hd_len ha
  exact ⟨_, by simp [Builtin.len_, run_underlying hu, goInt], .pv _ _ (.int _ _), rfl⟩
 ·rename_i e f fi off len sz hu
  obtain ⟨y, c, rfl⟩ := rel_fh_len ha
  exact ⟨_, by simp [Builtin.len_, run_underlying hu, goInt], .pv _ _ (.int _ _), rfl⟩
 ·rename_i s hu
  cases ha with | pv _ _ h => cases h with | str =>
  exact ⟨_, by simp [Builtin.len_, run_underlying hu, goInt], .pv _ _ (.int _ _), rfl⟩
 ·rename_i n e hu
  exact ⟨_, by simp [Builtin.len_, run_underlying hu, goInt], .pv _ _ (.int _ _), rfl⟩
theorem minA_sound {m : Bool} {x y z : AV} (h : minA m x y = some z) {a b : Value} (ha : VRel M w a x) (hb : VRel M w b y) :
  ∃ r, (match m with | false => Builtin.min2 a b | true => Builtin.max2 a b).run P w = .ok r w ∧ VRel M w r z ∧ z.nms = [] := by
 unfold minA at h
 split at h <;> cases h
 rename_i k p k' q
 obtain rfl := rel_int ha
 obtain rfl := rel_int hb
 cases m
 ·exact ⟨_, rfl, .pv _ _ (.int _ _), rfl⟩
 ·exact ⟨_, rfl, .pv _ _ (.int _ _), rfl⟩
theorem minsA_sound {m : Bool} (l : List AV) (bs : List Value) (hl : bs.length = l.length) (hr : ∀ (i : Nat) (b : Value) (y : AV), bs[i]? = some b → l[i]? = some y → VRel M w b y) :
  ∀ (x z : AV) (a : Value), minsA m x l = some z → VRel M w a x →
   ∃ r, (bs.foldlM (match m with | false => Builtin.min2 | true => Builtin.max2) a).run P w = .ok r w ∧ VRel M w r z ∧ (z.nms = [] ∨ z = x) := by
 induction l generalizing bs with
 | nil =>
  intro x z a h ha
  cases bs with
  | nil => simp only [minsA, Option.some.injEq] at h; subst h; exact ⟨a, by simp, ha, .inr rfl⟩
  | cons => simp at hl
 | cons y l ih =>
  intro x z a h ha
  cases bs with
  | nil => simp at hl
  | cons b bs =>
   simp only [minsA] at h
   split at h
   ·rename_i u hu
    obtain ⟨r, e1, e2, e3⟩ := minA_sound (P := P) hu ha (hr 0 b y rfl rfl)
    obtain ⟨r', f1, f2, f3⟩ := ih bs (by simpa using hl) (fun i b y h1 h2 => hr (i + 1) b y (by simpa using h1) (by simpa using h2)) u z r h e2
    refine ⟨r', ?_, f2, .inl ?_⟩
    ·rw [List.foldlM_cons, Sem.run_bind]
     cases m <;> (simp only at e1 ⊢; rw [e1]; exact f1)
    ·rcases f3 with f3 | rfl
     ·exact f3
     ·exact e3
   ·cases h
theorem places_get : ∀ (fs : List Field) (places : List (Nat × Nat)), fs.mapM (fun f => (P.info? f.type).map fun i => (f.offset, i.size)) = some places →
  ∀ (i : Nat) (f : Field), fs[i]? = some f → places[i]? = some (f.offset, P.cellsOf f.type)
 | [], _, _, i, f, hf => by simp at hf
 | g :: fs, places, h, i, f, hf => by
  simp only [List.mapM_cons, Option.bind_eq_bind, Option.pure_def] at h
  cases hi : P.info? g.type with
  | none => simp [hi] at h
  | some inf =>
   cases hr : fs.mapM (fun f => (P.info? f.type).map fun i => (f.offset, i.size)) with
   | none => simp [hi, hr] at h
   | some rest =>
    simp [hi, hr] at h
    subst h
    cases i with
    | zero => simp at hf; subst hf; simp [Program.cellsOf, hi]
    | succ i => simp at hf ⊢; exact places_get fs rest hr i f hf
end scalars
section computing
variable {P : Program} {M : Mm} {w : World} {σ : St} {a : Act}
theorem takeP_sound {t : TypeId} {cs : List PV} {off : Nat} {v : AV} (h : takeP P t cs off = some v) {x : Array Value} (hs : x.size = cs.length)
  (hc : ∀ (i : Nat) (v : Value) (p : PV), x[i]? = some v → cs[i]? = some p → PRel M w v p) :
  ∃ y, (part t x off).run P w = .ok y w ∧ VRel M w y v ∧ v.nms = [] := by
 obtain ⟨y, h1, h2, h3⟩ := takeV_sound (P := P) (takeP_takeV h) (CRel.ofP hs hc)
 refine ⟨y, h1, h2, ?_⟩
 have : ∀ k, k ∉ v.nms := fun k hk => by have := h3 k hk; rw [pvs_nms] at this; cases this
 exact List.eq_nil_iff_forall_not_mem.2 this
theorem eqA_sound : ∀ (d : Nat) (t : TypeId) (x y : AV) (r : Bool) (a b : Value), eqA P d t x y = some r → VRel M w a x → VRel M w b y → ∀ dd, (Op.equalIn (dd + d) t a b).run P w = .ok r w
 | 0, _, _, _, _, _, _, h, _, _, _ => by simp [eqA] at h
 | d + 1, t, x, y, r, a, b, h, ha, hb, dd => by
  unfold eqA at h
  split at h
  ·rename_i hu
   cases h
   obtain rfl := rel_bool ha
   obtain rfl := rel_bool hb
   exact run_equalIn_bool w (dd + d) t _ _ hu
  ·rename_i hu
   split at h
   ·rename_i hk
    have hk := of_decide_eq_true hk
    subst hk
    cases h
    obtain rfl := rel_int ha
    obtain rfl := rel_int hb
    exact run_equalIn_int w (dd + d) t _ _ _ _ hu
   ·cases h
  ·rename_i n e xs ys hu
   cases ha with | aggp vs _ f1 f2 =>
   cases hb with | aggp ws _ g1 g2 =>
   split at h
   ·rename_i i hi
    rw [show dd + (d + 1) = (dd + d) + 1 from rfl, run_equalIn_array w (dd + d) vs ws hu hi]
    generalize List.range n = is at h
    induction is generalizing r with
    | nil => simp only [eqItA, Option.some.injEq] at h; subst h; simp [Op.eqItems]
    | cons j is ih =>
     simp only [eqItA] at h
     split at h
     ·rename_i p q h1 h2
      split at h
      ·rename_i r1 r2 h3 h4
       cases h
       obtain ⟨y1, u1, u2, _⟩ := takeP_sound (P := P) h1 f1 f2
       obtain ⟨y2, v1, v2, _⟩ := takeP_sound (P := P) h2 g1 g2
       have k1 := eqA_sound d _ _ _ _ _ _ h3 u2 v2 dd
       simp only [Op.eqItems, Sem.run_bind, u1, v1, k1, Result.andThen_ok]
       cases r1
       ·simp
       ·simpa using ih _ h4
      ·cases h
     ·cases h
   ·cases h
  ·rename_i fs xs ys hu
   split at h
   ·rename_i hst
    cases ha with | aggp vs _ f1 f2 =>
    cases hb with | aggp ws _ g1 g2 =>
    have hfs : P.fieldsOf t = fs := by simp [Program.fieldsOf, hu]
    rw [show dd + (d + 1) = (dd + d) + 1 from rfl, run_equalIn_struct w (dd + d) t vs ws (by rw [hfs]; exact hu) hst, hfs]
    generalize fs.toList = is at h
    induction is generalizing r with
    | nil => simp only [eqFlA, Option.some.injEq] at h; subst h; simp [Op.eqFields]
    | cons f is ih =>
     simp only [eqFlA] at h
     split at h
     ·rename_i hnm
      split at h
      ·rename_i p q h1 h2
       split at h
       ·rename_i r1 r2 h3 h4
        cases h
        obtain ⟨y1, u1, u2, _⟩ := takeP_sound (P := P) h1 f1 f2
        obtain ⟨y2, v1, v2, _⟩ := takeP_sound (P := P) h2 g1 g2
        have k1 := eqA_sound d _ _ _ _ _ _ h3 u2 v2 dd
        have hnm : f.name ≠ "_" := of_decide_eq_true hnm
        simp only [Op.eqFields, hnm, ne_eq, not_false_eq_true, if_true, Sem.run_bind, u1, v1, k1, Result.andThen_ok]
        cases r1
        ·simp
        ·simpa using ih _ h4
       ·cases h
      ·cases h
     ·cases h
   ·cases h
  ·cases h
theorem eqItA_ints {e : TypeId} {k : IntKind} (hu : P.underlying e = some (.int k)) (h1 : P.cellsOf e = 1) (d : Nat) (l1 l2 : List Int) : ∀ (m j : Nat), j + m = l1.length → l1.length = l2.length →
  eqItA P (eqA P (d + 1) e) e (l1.map (.int k)) (l2.map (.int k)) (List.range' j m) = some (eqPs ((l1.drop j).map (.int k)) ((l2.drop j).map (.int k)))
 | 0, j, hj, hl => by
  rw [List.drop_eq_nil_of_le (by omega), List.drop_eq_nil_of_le (by omega)]; rfl
 | m + 1, j, hj, hl => by
  have ht : ∀ (l : List Int) (x : Int), l[j]? = some x → takeP P e (l.map (.int k)) (j * P.cellsOf e) = some (.pv (.int k x)) := by
   intro l x hx
   rw [h1, Nat.mul_one]
   unfold takeP isAggT
   rw [hu]
   simp [hx]
  have g1 : l1[j]? = some (l1[j]'(by omega)) := by simp
  have g2 : l2[j]? = some (l2[j]'(by omega)) := by simp
  rw [List.range'_succ, eqItA, ht l1 _ g1, ht l2 _ g2]
  simp only
  have he : eqA P (d + 1) e (.pv (.int k l1[j])) (.pv (.int k l2[j])) = some (l1[j] == l2[j]) := by
   unfold eqA; rw [hu]; simp
  rw [he, eqItA_ints hu h1 d l1 l2 m (j + 1) (by omega) hl]
  rw [List.drop_eq_getElem_cons (by omega : j < l1.length), List.drop_eq_getElem_cons (by omega : j < l2.length)]
  rfl
theorem ar_ints {v : Value} {n sz : Nat} {rows : List (List PV)} {k : IntKind} (h : VRel M w v (.ar n sz rows)) (hi : IntRows k rows) : ∃ l : List Int, rows.flatten = l.map (.int k) ∧ l.length = n ∧ VRel M w v (.aggp (l.map (.int k))) := by
 obtain ⟨l, rfl⟩ := hi
 have e : ∀ l : List Int, (l.map fun x => [PV.int k x]).flatten = l.map (.int k) := fun l => by induction l with
  | nil => rfl
  | cons x r ih => simp only [List.map_cons, List.flatten_cons, ih]; rfl
 have e := e l
 cases h with | ar _ _ _ _ h1 h2 h3 =>
 exact ⟨l, e, by simpa using h2, by rw [← e]; exact h1⟩
theorem binA_sound {lit : Bool} {op : BinOp} {t : TypeId} {x y : AV} {ps : List Obl} {v : AV} (h : binA P lit op t x y = some (ps, v)) (hp : All ps)
  {a b : Value} (ha : VRel M w a x) (hb : VRel M w b y) :
  ∃ r, (Go.binOp op t a b).run P w = .ok r w ∧ VRel M w r v ∧ v.nms = [] ∧ ∀ (o : BinOp) (p q : Operand), (eqGuard o t p q a b).run P w = .ok () w := by
 unfold binA at h
 split at h
 ·rename_i k m k' n
  obtain rfl := rel_int ha
  obtain rfl := rel_int hb
  have key : (∃ z : Int, v = .pv (.int k z) ∧ (Go.binOp op t (.int k m) (.int k' n)).run P w = .ok (.int k z) w) ∨
    (∃ z : Bool, v = .pv (.bool z) ∧ (Go.binOp op t (.int k m) (.int k' n)).run P w = .ok (.bool z) w) := by
   cases op
   case shl => simp at h; obtain ⟨rfl, rfl⟩ := h; have hp := (litP_ok hp).1; left; refine ⟨_, rfl, ?_⟩; simp [Go.binOp, Op.shift, Int.not_lt.2 hp]
   case shr => simp at h; obtain ⟨rfl, rfl⟩ := h; have hp := (litP_ok hp).1; left; refine ⟨_, rfl, ?_⟩; simp [Go.binOp, Op.shift, Int.not_lt.2 hp]
   all_goals
    by_cases hk : k = k'
    case neg => simp [hk] at h
    subst hk
    simp only [decide_true] at h
    first
     | (cases h; done)
     | (simp only [Option.some.injEq, Prod.mk.injEq] at h; obtain ⟨rfl, rfl⟩ := h; first
       | (left; refine ⟨_, rfl, ?_⟩; simp [Go.binOp, Op.intArith]; done)
       | (right; refine ⟨_, rfl, ?_⟩; simp [Go.binOp, Op.intCmp]; done)
       | (left; refine ⟨_, rfl, ?_⟩; simp [Go.binOp, Op.intBits, andI, orI, xorI, bicI]; done)
       | (have hp := (litP_ok hp).1; left; refine ⟨_, rfl, ?_⟩; simp [Go.binOp, Op.intDiv, hp]; done))
  rcases key with ⟨z, rfl, hr⟩ | ⟨z, rfl, hr⟩
  ·exact ⟨_, hr, .pv _ _ (.int _ _), rfl, fun o p q => run_eqGuard_int o t p q k k' m n⟩
  ·exact ⟨_, hr, .pv _ _ (.bool _), rfl, fun o p q => run_eqGuard_int o t p q k k' m n⟩
 ·rename_i m n
  obtain rfl := rel_bool ha
  obtain rfl := rel_bool hb
  split at h
  ·rename_i ht
   have hu : ∀ w' : World, (underlying t).run P w' = .ok .bool w' := fun w' => run_underlying ht w'
   have he : (Op.equal t (.bool m) (.bool n)).run P w = .ok (m == n) w := by
    show (Op.equalIn (9999 + 1) t (.bool m) (.bool n)).run P w = _
    unfold Op.equalIn
    rw [Sem.run_bind, hu, Result.andThen_ok]
    rfl
   cases op <;> simp only [Option.some.injEq, Prod.mk.injEq, reduceCtorEq] at h
   ·obtain ⟨rfl, rfl⟩ := h
    refine ⟨.bool (m == n), ?_, .pv _ _ (.bool _), rfl, fun o p q => run_eqGuard_bool o t p q m n⟩
    simp [Go.binOp, he]
   ·obtain ⟨rfl, rfl⟩ := h
    refine ⟨.bool (!(m == n)), ?_, .pv _ _ (.bool _), rfl, fun o p q => run_eqGuard_bool o t p q m n⟩
    simp [Go.binOp, he]
  ·cases h
 ·cases ha with | pv _ _ ha =>
  cases hb with | pv _ _ hb =>
  cases ha
  cases hb
  split at h
  ·rename_i e ht
   cases op <;> simp only [Option.some.injEq, Prod.mk.injEq, reduceCtorEq] at h
   ·obtain ⟨rfl, rfl⟩ := h
    exact ⟨_, Lib.run_eql_slice_nil w t e none 0 0 0 0 ht, .pv _ _ (.bool _), rfl, fun o p q => run_eqGuard_slice o t p q _ _ _ _ _ _⟩
   ·obtain ⟨rfl, rfl⟩ := h
    exact ⟨_, run_neq_slice_nil_any w t e none 0 0 0 0 ht, .pv _ _ (.bool _), rfl, fun o p q => run_eqGuard_slice o t p q _ _ _ _ _ _⟩
  ·cases h
 ·rename_i rows
  cases hb with | pv _ _ hb =>
  cases hb
  split at h
  ·rename_i e ht
   have hne : All ps → rows ≠ [] → ∃ ad n c, a = .slice (some ad) n c := by
    intro _ hr
    cases ha with | pv _ _ ha =>
    cases ha with
    | sl0 => exact absurd rfl hr
    | sl b off sz len c _ x _ _ _ _ _ => exact ⟨_, _, _, rfl⟩
   cases op <;> simp only [Option.some.injEq, Prod.mk.injEq, reduceCtorEq] at h
   ·obtain ⟨rfl, rfl⟩ := h
    obtain ⟨ad, n, c, rfl⟩ := hne hp hp.1
    exact ⟨_, Lib.run_eql_slice_nil w t e (some ad) n c 0 0 ht, .pv _ _ (.bool _), rfl, fun o p q => run_eqGuard_slice o t p q _ _ _ _ _ _⟩
   ·obtain ⟨rfl, rfl⟩ := h
    obtain ⟨ad, n, c, rfl⟩ := hne hp hp.1
    exact ⟨_, run_neq_slice_nil_any w t e (some ad) n c 0 0 ht, .pv _ _ (.bool _), rfl, fun o p q => run_eqGuard_slice o t p q _ _ _ _ _ _⟩
  ·cases h
 ·split at h
  ·rename_i r hg he
   have hr := eqA_sound (P := P) _ _ _ _ _ _ _ he ha hb 9996
   cases ha with | aggp vs _ f1 f2 =>
   cases hb with | aggp ws _ g1 g2 =>
   have hgd : ∀ (o : BinOp) (p q : Operand), (eqGuard o t p q (.agg vs) (.agg ws)).run P w = .ok () w := by
    intro o p q
    unfold eqGuard
    cases o <;> simp [run_program, hg]
   split at h
   ·cases h
    refine ⟨.bool r, ?_, .pv _ _ (.bool _), rfl, hgd⟩
    rw [run_eql_struct w t vs ws, show 10000 = 9996 + 4 from rfl, hr]; rfl
   ·cases h
    refine ⟨.bool (!r), ?_, .pv _ _ (.bool _), rfl, hgd⟩
    rw [run_neq_struct w t vs ws, show 10000 = 9996 + 4 from rfl, hr]; rfl
   ·cases h
  ·cases h
 ·rename_i n s1 r1 n' s2 r2
  split at h
  ·rename_i m e hg hu
   split at h
   ·rename_i k inf hk hinf hb3
    simp only [Bool.and_eq_true] at hb3
    obtain ⟨⟨b1, b2⟩, b3⟩ := hb3
    have b1 := nbeq_eq b1
    have b2 := nbeq_eq b2
    have b3 := nbeq_eq b3
    subst b1; subst b2
    have key : IntRows k r1 → IntRows k r2 → ∃ vs ws, a = .agg vs ∧ b = .agg ws ∧ (Op.equalIn 10000 t a b).run P w = .ok (eqPs r1.flatten r2.flatten) w := by
     intro i1 i2
     obtain ⟨l1, e1, n1, v1⟩ := ar_ints ha i1
     obtain ⟨l2, e2, n2, v2⟩ := ar_ints hb i2
     have he : eqA P 4 t (.aggp (l1.map (.int k))) (.aggp (l2.map (.int k))) = some (eqPs r1.flatten r2.flatten) := by
      unfold eqA
      rw [hu]
      simp only
      rw [hinf]
      simp only
      rw [List.range_eq_range', eqItA_ints hk b3 2 l1 l2 m 0 (by omega) (by omega), e1, e2]; rfl
     have hr := eqA_sound (P := P) _ _ _ _ _ _ _ he v1 v2 9996
     cases v1 with | aggp vs _ _ _ =>
     cases v2 with | aggp ws _ _ _ =>
     exact ⟨vs, ws, rfl, rfl, hr⟩
    split at h
    ·cases h
     obtain ⟨vs, ws, rfl, rfl, hr⟩ := key hp.1 hp.2.1
     refine ⟨.bool _, ?_, .pv _ _ (.bool _), rfl, fun o p q => by unfold eqGuard; cases o <;> simp [run_program, hg]⟩
     rw [run_eql_struct w t vs ws, hr]; rfl
    ·cases h
     obtain ⟨vs, ws, rfl, rfl, hr⟩ := key hp.1 hp.2.1
     refine ⟨.bool _, ?_, .pv _ _ (.bool _), rfl, fun o p q => by unfold eqGuard; cases o <;> simp [run_program, hg]⟩
     rw [run_neq_struct w t vs ws, hr]; rfl
    ·cases h
   ·cases h
  ·cases h
 ·cases h
theorem effV_sound (R : RSt M σ a w) {o : Oper} {ps : List Obl} {v : AV} (h : effV P o.op σ.ev = some (ps, v)) (hp : All ps) :
  ∃ x, (execOp a.eval o).run P w = .ok (.value x) w ∧ VRel M w x v ∧ ∀ n ∈ v.nms, (lk σ.o n).isSome := by
 cases hop : o.op
 case move x => rw [hop] at h; simp only [effV, Option.some.injEq, Prod.mk.injEq] at h; obtain ⟨_, rfl⟩ := h; exact ⟨a.eval x, by simp [execOp, hop], R.ev x, R.evn x⟩
 case assign x => rw [hop] at h; simp only [effV, Option.some.injEq, Prod.mk.injEq] at h; obtain ⟨_, rfl⟩ := h; exact ⟨a.eval x, by simp [execOp, hop], R.ev x, R.evn x⟩
 case pick c x y =>
  rw [hop] at h
  simp only [effV] at h
  split at h
  ·rename_i hc
   have := R.ev c; rw [hc] at this
   simp only [Option.some.injEq, Prod.mk.injEq] at h; obtain ⟨_, rfl⟩ := h
   exact ⟨a.eval x, by simp [execOp, hop, rel_bool this, asBool], R.ev x, R.evn x⟩
  ·rename_i hc
   have := R.ev c; rw [hc] at this
   simp only [Option.some.injEq, Prod.mk.injEq] at h; obtain ⟨_, rfl⟩ := h
   exact ⟨a.eval y, by simp [execOp, hop, rel_bool this, asBool], R.ev y, R.evn y⟩
  ·cases h
 case build t parts =>
  rw [hop] at h
  simp only [effV] at h
  split at h
  ·rename_i fs hu
   split at h
   ·rename_i z hz
    split at h
    ·rename_i cs places hpl hf hplc
     simp only [Option.some.injEq, Prod.mk.injEq] at h; obtain ⟨_, rfl⟩ := h
     unfold zeroA at hz
     simp only [Option.map_eq_some_iff, Option.bind_eq_some_iff] at hz
     obtain ⟨z0, ⟨i, hi, hz0⟩, rfl⟩ := hz
     have hpls : ∀ (i : Nat) (f : Field), fs[i]? = some f → places.toArray[i]? = some (f.offset, P.cellsOf f.type) := by
      intro i f hf; simpa using places_get fs.toList places hplc i f (by simpa using hf)
     obtain ⟨y, e1, e2, e3⟩ := fill_sound (P := P) (M := M) (w := w) (fs := fs) (places := fun i => places.toArray[i]?) hpls
      (parts.toList.map fun (i, x) => (i, a.eval x)) (parts.toList.map fun (i, x) => (i, σ.ev x)) (by simp)
      (by
       intro j i i' v q h1 h2
       simp only [List.getElem?_map, Option.map_eq_some_iff] at h1 h2
       obtain ⟨⟨p1, p2⟩, h1, h1'⟩ := h1
       obtain ⟨⟨q1, q2⟩, h2, h2'⟩ := h2
       rw [h1] at h2; cases h2
       simp only [Prod.mk.injEq] at h1' h2'
       obtain ⟨rfl, rfl⟩ := h1'
       obtain ⟨rfl, rfl⟩ := h2'
       exact ⟨rfl, R.ev _⟩)
      z0.cells _ cs (CRel.of (avOf_rel z0) hpl) hf
     refine ⟨.agg y, ?_, e2.agg, ?_⟩
     ·simp only [execOp, hop, Sem.run_bind]
      rw [run_build w t _ y (by
       unfold Program.built
       simp only [hi, hu, hz0, hplc]
       simpa using e1)]
      rfl
     ·intro n hn
      rcases e3 n (mkAgg_nms hn) with h | ⟨q, hq, hq'⟩
      ·have := cellsA_nms h; rw [avOf_nms] at this; cases this
      ·simp only [List.mem_map] at hq
       obtain ⟨⟨p1, p2⟩, _, rfl⟩ := hq
       exact R.evn p2 n hq'
    ·cases h
   ·cases h
  ·rename_i len el hu
   split at h
   ·rename_i z ie hz hie
    split at h
    ·rename_i cs hpl hf
     simp only [Option.some.injEq, Prod.mk.injEq] at h; obtain ⟨_, rfl⟩ := h
     unfold zeroA at hz
     simp only [Option.map_eq_some_iff, Option.bind_eq_some_iff] at hz
     obtain ⟨z0, ⟨i, hi, hz0⟩, rfl⟩ := hz
     have hpls : ∀ (i : Nat) (f : Field), (arrFields P len el)[i]? = some f → (fun i => some (i * P.cellsOf el, P.cellsOf el)) i = some (f.offset, P.cellsOf f.type) := by
      intro i f hf
      simp only [arrFields, List.getElem?_toArray, List.getElem?_map, Option.map_eq_some_iff] at hf
      obtain ⟨j, hj, rfl⟩ := hf
      rw [List.getElem?_range] at hj
      ·cases hj; rfl
      ·rcases Nat.lt_or_ge i len with h | h
       ·exact h
       ·rw [List.getElem?_eq_none (by simpa using h)] at hj; cases hj
     obtain ⟨y, e1, e2, e3⟩ := fill_sound (P := P) (M := M) (w := w) (fs := arrFields P len el) (places := fun i => some (i * P.cellsOf el, P.cellsOf el)) hpls
      (parts.toList.map fun (i, x) => (i, a.eval x)) (parts.toList.map fun (i, x) => (i, σ.ev x)) (by simp)
      (by
       intro j i i' v q h1 h2
       simp only [List.getElem?_map, Option.map_eq_some_iff] at h1 h2
       obtain ⟨⟨p1, p2⟩, h1, h1'⟩ := h1
       obtain ⟨⟨q1, q2⟩, h2, h2'⟩ := h2
       rw [h1] at h2; cases h2
       simp only [Prod.mk.injEq] at h1' h2'
       obtain ⟨rfl, rfl⟩ := h1'
       obtain ⟨rfl, rfl⟩ := h2'
       exact ⟨rfl, R.ev _⟩)
      z0.cells _ cs (CRel.of (avOf_rel z0) hpl) hf
     refine ⟨.agg y, ?_, e2.agg, ?_⟩
     ·simp only [execOp, hop, Sem.run_bind]
      unfold Instr.build
      have hzv : (zeroValue t).run P w = .ok z0 w := by simp [zeroValue, typeInfo, hi, hz0]
      have hsz : (sizeOf el).run P w = .ok (P.cellsOf el) w := run_sizeOf w hie
      have e1' : Instr.fill (fun i => some (i * P.cellsOf el, P.cellsOf el)) z0.cells (parts.map fun (i, x) => (i, a.eval x)).toList = some y := by simpa using e1
      simp only [Sem.run_bind, hzv, Result.andThen_ok, run_underlying hu, hsz, e1', Sem.run_pure]
     ·intro n hn
      rcases e3 n (mkAgg_nms hn) with h | ⟨q, hq, hq'⟩
      ·have := cellsA_nms h; rw [avOf_nms] at this; cases this
      ·simp only [List.mem_map] at hq
       obtain ⟨⟨p1, p2⟩, _, rfl⟩ := hq
       exact R.evn p2 n hq'
    ·cases h
   ·cases h
  ·cases h
 case binOp op t x y yt =>
  rw [hop] at h
  simp only [effV] at h
  obtain ⟨r, e1, e2, e3, e4⟩ := binA_sound (P := P) h hp (R.ev x) (R.ev y)
  refine ⟨r, ?_, e2, by rw [e3]; simp⟩
  simp only [execOp, hop, Sem.run_bind, e4, Result.andThen_ok, e1, Sem.run_pure]
 case unOp op t x =>
  rw [hop] at h
  simp only [effV, Option.map_eq_some_iff, Prod.mk.injEq] at h
  obtain ⟨v', h, _, rfl⟩ := h
  obtain ⟨r, e1, e2, e3⟩ := unA_sound (P := P) h (R.ev x)
  refine ⟨r, ?_, e2, by rw [e3]; simp⟩
  simp only [execOp, hop, Sem.run_bind, e1, Result.andThen_ok, Sem.run_pure]
 case convert src dst x =>
  rw [hop] at h
  simp only [effV] at h
  split at h <;> try (cases h; done)
  rename_i k1 k k2 n hs hd hx
  simp only [Option.some.injEq, Prod.mk.injEq] at h; obtain ⟨_, rfl⟩ := h
  have hr := R.ev x
  rw [hx] at hr
  generalize hy : a.eval x = y at hr
  cases hr with | pv _ _ hr =>
  cases hr
  refine ⟨.int k (k.wrap n), ?_, .pv _ _ (.int k _), by simp [AV.nms]⟩
  simp [execOp, hop, convert, run_underlying hs, run_underlying hd, hy, Conv.intToInt]
 case makeFunc fn first captured =>
  rw [hop] at h
  simp only [effV] at h
  split at h <;> try (cases h; done)
  rotate_left
  ·rename_i f x hfirst
   split at h <;> try (cases h; done)
   rename_i hcap
   simp only [Option.some.injEq, Prod.mk.injEq] at h; obtain ⟨_, rfl⟩ := h
   have hcap : captured = #[] := by simpa using hcap
   have hfirst : first = #[x] := Array.toList_inj.1 (by simpa using hfirst)
   subst hfirst; subst hcap
   exact ⟨.func (.func f) #[a.eval x] #[], by simp [execOp, hop, Instr.makeFunc], .bnd f _ _ (R.ev x), fun n hn => R.evn x n (by simpa [AV.nms] using hn)⟩
  rename_i f hfirst
  simp only [Option.some.injEq, Prod.mk.injEq] at h; obtain ⟨_, rfl⟩ := h
  have hfirst : first = #[] := by simpa using hfirst
  subst hfirst
  refine ⟨.func (.func f) #[] (captured.map a.eval), ?_, .clo f _ _ (by simp) ?_, ?_⟩
  ·simp [execOp, hop, Instr.makeFunc]
  ·intro i v c h1 h2
   simp only [Array.getElem?_map, Option.map_eq_some_iff] at h1
   simp only [List.getElem?_map, Option.map_eq_some_iff] at h2
   obtain ⟨x, h1, rfl⟩ := h1
   obtain ⟨y, h2, rfl⟩ := h2
   have : x = y := by
    have : captured.toList[i]? = some x := by simpa using h1
    rw [this] at h2; cases h2; rfl
   subst this
   exact R.ev x
  ·intro n hn
   simp only [AV.nms, nmsL_iff, List.mem_map] at hn
   obtain ⟨c, ⟨x, _, rfl⟩, hn⟩ := hn
   exact R.evn x n hn
 case nilCheck x =>
  rw [hop] at h
  simp only [effV] at h
  split at h
  ·rename_i n p q r hx
   simp only [Option.some.injEq, Prod.mk.injEq] at h; obtain ⟨_, rfl⟩ := h
   have hr := R.ev x
   have hn := R.evn x
   rw [hx] at hr hn
   generalize hy : a.eval x = y at hr
   cases hr with | ref _ _ _ _ b base e =>
   refine ⟨_, ?_, .ref n p q r b base e, hn⟩
   simp only [execOp, hop, hy]
   rfl
  ·cases h
 case fieldAddr s x f =>
  rw [hop] at h
  simp only [effV] at h
  split at h
  ·rename_i fo ft hf
   split at h
   ·rename_i n ri sz off hx
    simp only [Option.some.injEq, Prod.mk.injEq] at h; obtain ⟨_, rfl⟩ := h
    have hr := R.ev x
    have hn := R.evn x
    rw [hx] at hr hn
    generalize hy : a.eval x = y at hr
    cases hr with | ref _ _ _ _ b base e =>
    refine ⟨_, ?_, .ref n ri sz (off + fo) b base e, hn⟩
    simp only [execOp, hop, hy, Sem.run_bind, run_fieldAt hf, Result.andThen_ok, Sem.run_pure, Nat.add_assoc]
   ·rename_i cs hx
    simp only [Option.some.injEq, Prod.mk.injEq] at h; obtain ⟨_, rfl⟩ := h
    have hr := R.ev x
    rw [hx] at hr
    generalize hy : a.eval x = y at hr
    cases hr with | fref b off _ z h1 h2 =>
    refine ⟨_, ?_, .fref b (off + fo) _ (fun j => z (fo + j)) ?_ ?_, by simp [AV.nms]⟩
    ·simp only [execOp, hop, hy, Sem.run_bind, run_fieldAt hf, Result.andThen_ok, Sem.run_pure]
    ·intro j p hj
     rw [List.getElem?_drop] at hj
     have := h1 _ p hj
     exact ⟨this.1, by rw [Nat.add_assoc]; exact this.2⟩
    ·intro j p hj
     rw [List.getElem?_drop] at hj
     exact h2 _ p hj
   ·rename_i n i ri sz off hx
    simp only [Option.some.injEq, Prod.mk.injEq] at h; obtain ⟨_, rfl⟩ := h
    have hr := R.ev x
    rw [hx] at hr
    generalize hy : a.eval x = y at hr
    cases hr with | fr _ _ _ _ _ b base e =>
    refine ⟨_, ?_, .fr n i ri sz (off + fo) b base e, by simp [AV.nms]⟩
    simp only [execOp, hop, hy, Sem.run_bind, run_fieldAt hf, Result.andThen_ok, Sem.run_pure, Nat.add_assoc]
   ·cases h
  ·cases h
 case field s x f =>
  rw [hop] at h
  simp only [effV] at h
  split at h
  ·rename_i fo ft hf
   obtain ⟨fs, fd, hu, hfd, rfl, rfl, h0⟩ := fieldAtP_sound hf
   have run : ∀ (cs : Array Value) (y : Value), a.eval x = .agg cs → (part fd.type cs fd.offset).run P w = .ok y w →
     (execOp a.eval o).run P w = .ok (.value y) w := by
    intro cs y hy hr
    simp only [execOp, hop, hy, Instr.field, Sem.run_bind, run_underlying hu, Result.andThen_ok, hfd, asAgg, Sem.run_pure, hr]
   split at h
   ·rename_i cs hx
    simp only [Option.map_eq_some_iff, Prod.mk.injEq] at h
    obtain ⟨v', h, _, rfl⟩ := h
    have hr := R.ev x
    have hn := R.evn x
    rw [hx] at hr hn
    generalize hy : a.eval x = y at hr
    cases hr with | agg vs _ h1 h2 h3 =>
    obtain ⟨z, e1, e2, e3⟩ := takeV_sound (P := P) h ⟨h1, h2, h3⟩
    exact ⟨z, run vs z hy e1, e2, fun n hn' => hn n (e3 n hn')⟩
   ·rename_i cs hx
    simp only [Option.map_eq_some_iff, Prod.mk.injEq] at h
    obtain ⟨v', h, _, rfl⟩ := h
    have hr := R.ev x
    rw [hx] at hr
    generalize hy : a.eval x = y at hr
    cases hr with | aggp vs _ h1 h2 =>
    obtain ⟨z, e1, e2, e3⟩ := takeV_sound (P := P) (takeP_takeV h) (CRel.ofP h1 h2)
    exact ⟨z, run vs z hy e1, e2, fun n hn' => by have := e3 n hn'; rw [pvs_nms] at this; cases this⟩
   ·cases h
  ·cases h
 case extract x i =>
  rw [hop] at h
  simp only [effV] at h
  split at h
  ·rename_i vs hx
   simp only [Option.map_eq_some_iff, Prod.mk.injEq] at h
   obtain ⟨v', h, _, rfl⟩ := h
   have hr := R.ev x
   have hn := R.evn x
   rw [hx] at hr hn
   generalize hy : a.eval x = y at hr
   cases hr with | tup xs _ h1 h2 =>
   have hlt : i < xs.size := by rw [h1]; exact (List.getElem?_eq_some_iff.1 h).1
   refine ⟨xs[i], ?_, h2 i xs[i] _ (by simp [hlt]) h, fun n hn' => hn n (by simp only [AV.nms]; exact nmsL_mem (List.mem_of_getElem? h) hn')⟩
   simp [execOp, hop, hy, Instr.extract, hlt]
  ·cases h
 case call c =>
  rw [hop] at h
  simp only [effV] at h
  split at h
  ·rename_i b hb
   have run : ∀ (x : Value), (builtin b c.argTypes o.type (c.args.map fun | .const _ => true | _ => false) (c.args.map a.eval)).run P w = .ok (.value x) w →
     (execOp a.eval o).run P w = .ok (.value x) w := by
    intro x hx
    simp only [execOp, hop, resolve, hb, Sem.run_bind, Sem.run_pure, Result.andThen_ok, invoke]
    exact hx
   have hargs : ∀ (l : List Operand) (i : Nat) (v : Value) (y : AV), (l.map a.eval)[i]? = some v → (l.map σ.ev)[i]? = some y → VRel M w v y := by
    intro l i v y h1 h2
    simp only [List.getElem?_map, Option.map_eq_some_iff] at h1 h2
    obtain ⟨p, h1, rfl⟩ := h1
    obtain ⟨q, h2, rfl⟩ := h2
    rw [h1] at h2; cases h2
    exact R.ev p
   unfold builtinV at h
   split at h
   ·split at h
    ·rename_i x t e1 e2
     simp only [Option.map_eq_some_iff, Prod.mk.injEq] at h
     obtain ⟨v', h, _, rfl⟩ := h
     obtain ⟨x', hx', rfl⟩ : ∃ x', c.args = #[x'] ∧ σ.ev x' = x := by
      cases hh : c.args.toList with
      | nil => simp [hh] at e1
      | cons p l => cases l with
       | nil => simp [hh] at e1; exact ⟨p, by apply Array.toList_inj.1; simpa using hh, e1⟩
       | cons => simp [hh] at e1
     have ht : c.argTypes = #[t] := by apply Array.toList_inj.1; simpa using e2
     obtain ⟨r, f1, f2, f3⟩ := lenA_sound (P := P) h (R.ev x') o.type
     refine ⟨r, run r ?_, f2, by rw [f3]; simp⟩
     simp only [builtin, hx', ht, Sem.run_bind]
     simp only [List.map_toArray, List.map_cons, List.map_nil]
     rw [f1]; rfl
    ·cases h
   ·split at h
    ·rename_i x r e1
     simp only [Option.map_eq_some_iff, Prod.mk.injEq] at h
     obtain ⟨v', h, _, rfl⟩ := h
     cases hh : c.args.toList with
     | nil => simp [hh] at e1
     | cons p l =>
      simp only [hh, List.map_cons, List.cons.injEq] at e1
      obtain ⟨rfl, rfl⟩ := e1
      obtain ⟨z, f1, f2, f3⟩ := minsA_sound (P := P) (l.map σ.ev) (l.map a.eval) (by simp) (hargs l) _ _ (a.eval p) h (R.ev p)
      refine ⟨z, run z ?_, f2, ?_⟩
      ·simp only [builtin, Builtin.min_, Sem.run_bind, Array.toList_map, hh, List.map_cons]
       simp only at f1
       rw [f1]; rfl
      ·rcases f3 with f3 | rfl
       ·rw [f3]; simp
       ·exact R.evn p
    ·cases h
   ·split at h
    ·rename_i x r e1
     simp only [Option.map_eq_some_iff, Prod.mk.injEq] at h
     obtain ⟨v', h, _, rfl⟩ := h
     cases hh : c.args.toList with
     | nil => simp [hh] at e1
     | cons p l =>
      simp only [hh, List.map_cons, List.cons.injEq] at e1
      obtain ⟨rfl, rfl⟩ := e1
      obtain ⟨z, f1, f2, f3⟩ := minsA_sound (P := P) (l.map σ.ev) (l.map a.eval) (by simp) (hargs l) _ _ (a.eval p) h (R.ev p)
      refine ⟨z, run z ?_, f2, ?_⟩
      ·simp only [builtin, Builtin.max_, Sem.run_bind, Array.toList_map, hh, List.map_cons]
       simp only at f1
       rw [f1]; rfl
      ·rcases f3 with f3 | rfl
       ·rw [f3]; simp
       ·exact R.evn p
    ·cases h
   ·cases h
  ·cases h
 all_goals (rw [hop] at h; simp [effV] at h)
end computing
end Go.Fx
