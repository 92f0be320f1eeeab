/- Loops over functions: the loop, from its head to behind it. -/
import Derived.Test.YtpdjphpjejjkpaaFxRa
namespace Go.Fx
section
variable {P : Program} {M M' : Mm} {w w' : World} {σ : St} {a : Act}
theorem enterLoop_run {fid : Fid} {b : Frame} {cs : List Frame} (hb : BOk fid M w b cs) (ps : Array Tmp) (asg bdy : Code) (js : List Code) (ts : Array Value) :
  ∃ (L : Nat) (Ds : List Nat) (D : Nat) (w1 : World), (Instr.enterLoop b.fn ts ps asg bdy b.roundOf).run P w = .ok (L, Ds.map dfl) w1 ∧ w1.heap[L]? = some (.loop (lpRec b.fn ps.toList asg bdy ts js 0 D)) ∧ w.heap.size ≤ L ∧ Ds.Nodup ∧
   (∀ E ∈ Ds, w.heap.size ≤ E ∧ E ≠ L ∧ w1.heap[E]? = some (.deferred (some []))) ∧ (∀ x, x < w.heap.size → w1.heap[x]? = w.heap[x]?) ∧ w1.os = w.os ∧ w1.tape = w.tape ∧ w1.output = w.output ∧ w.heap.size ≤ w1.heap.size ∧ (fid.rd ≠ none → Ds = []) := by
 have hrd := hb.rd
 cases hr : fid.rd with
 | none =>
  rw [hr] at hrd
  have hrd : b.roundOf = none := hrd
  refine ⟨w.heap.size + 1, [w.heap.size], w.heap.size, (w.alloc (.deferred (some []))).alloc (.loop (lpRec b.fn ps.toList asg bdy ts js 0 w.heap.size)), ?_, ?_, by omega, by simp, ?_, ?_, rfl, rfl, rfl, ?_, fun h => absurd rfl h⟩
  ·rw [hrd, run_enterLoop_outer]
   simp [lpRec, lpJ, dfl]
  ·have := World.alloc_heap_new (w.alloc (.deferred (some []))) (.loop (lpRec b.fn ps.toList asg bdy ts js 0 w.heap.size))
   rwa [World.size_alloc] at this
  ·intro E hE
   obtain rfl := List.mem_singleton.1 hE
   refine ⟨Nat.le_refl _, by omega, ?_⟩
   exact (RowKit.Below.heap_alloc _ _ _ (by simp)).trans (World.alloc_heap_new w _)
  ·intro x hx
   rw [RowKit.Below.heap_alloc _ _ _ (by simp; omega), RowKit.Below.heap_alloc _ _ _ hx]
  ·simp; omega
 | some d =>
  rw [hr] at hrd
  obtain ⟨h1, h2, l, h3, h4, h5, h6, h7, h8⟩ := hrd
  refine ⟨w.heap.size, [], d.lr.defers, w.alloc (.loop (lpRec b.fn ps.toList asg bdy ts js 0 d.lr.defers)), ?_, World.alloc_heap_new w _, Nat.le_refl _, .nil, by simp, fun x hx => RowKit.Below.heap_alloc _ _ _ hx, rfl, rfl, rfl, by simp, fun _ => rfl⟩
  rw [h3]
  unfold Instr.enterLoop
  simp only [Sem.run_bind, run_getLoop h6, run_newObj_alloc, Result.andThen, Sem.run_pure]
  simp [lpRec, lpJ]
theorem WK.rangeFunc {fid : Fid} {f : Operand} {ps : Array Tmp} {asg bdy : Code} {k : List Item} {r : AV} {outs : List AObj} {n g : Nat} {caps : List AV} {js : List Code} {ks : List Nat} {an : Ann} {out : Out} {fn : Func} {body : Code}
  (hf : clA (σ.ev f) = .clo g caps) (hn : lk σ.o n = none) (hodd : n % 2 = 1) (hfn : P.funcs[g]? = some fn) (hbody : fn.body = some body) (hname : (fn.name == "runtime.NumGoroutine") = false)
  (hcall : callA (SpecY P) (St.obj { σ with o := up σ.o n (lp0 ps asg bdy ks js σ) }) g (.yl n :: caps) an = some out) (hp : All out.ob)
  {ps' : List Nat} {asg' bdy' : Code} {nt' : Nat} {ks' : List Nat} {vs' : List AV} {js' : List Code} {p' : Nat} (h2 : lk (wrO (up σ.o n (lp0 ps asg bdy ks js σ)) out.wr) n = some (.lp ps' asg' bdy' nt' ks' vs' js' p'))
  (k0 : p' = 0 → WK P fid k { σ with o := up (wrO (up σ.o n (lp0 ps asg bdy ks js σ)) out.wr) n .dead } r outs)
  (k1 : ∀ q c, p' = q + 1 → js'[q]? = some c → WK P fid (.code c :: k) { σ with o := up (wrO (up σ.o n (lp0 ps asg bdy ks js σ)) out.wr) n .dead } r outs) :
  WK P fid (.code (.rangeFunc f ps asg bdy) :: k) σ r outs := by
 intro M a w R b cs hb
 obtain ⟨L, Ds, D, w1, e1, e2, e3, e4, e5, e6, e7, e8, e9, e10, e11⟩ := enterLoop_run (P := P) hb ps asg bdy js a.tmps
 let M1 : Mm := ⟨fun x => if x < w.heap.size then M.κ x else if x = L then .own n else .outer, updN M.β n (0, some (L, 0)), M.φ, M.F0⟩
 have hκ1 : ∀ x, x < w.heap.size → M1.κ x = M.κ x := fun x hx => by simp only [M1, if_pos hx]
 have hκL : M1.κ L = .own n := by simp only [M1]; rw [if_neg (by omega)]; simp
 have hκD : ∀ x, w.heap.size ≤ x → x ≠ L → M1.κ x = .outer := fun x h1 h2 => by simp only [M1]; rw [if_neg (by omega), if_neg h2]
 have hβ1 : ∀ m, m ≠ n → M1.β m = M.β m := fun m hm => updN_ne _ _ hm
 have E1 : Ext M w M1 w1 := by
  refine ⟨e7, e8, e9, e10, fun x hx _ => e6 x hx, fun x hx h => by rw [hκ1 x hx]; exact h, fun x hx h => by rw [hκ1 x hx]; exact h, fun x c T fr h => ⟨c, ?_, rfl⟩, fun _ _ _ h => h, fun _ _ _ => rfl, rfl⟩
  rw [e6 x (heap_lt h)]; exact h
 have hne : ∀ m, (lk σ.o m).isSome → m ≠ n := fun m hm => isSome_ne hm hn
 have dom1 : ∀ m, (lk σ.o m).isSome → (lk (up σ.o n (lp0 ps asg bdy ks js σ)) m).isSome := fun m hm => by
  rw [lk_up]; split
  ·rfl
  ·exact hm
 have R1 : RSt M1 { σ with o := up σ.o n (lp0 ps asg bdy ks js σ) } a w1 := by
  refine ⟨R.sz, R.df, fun t v h => (R.tm t v h).mono E1 fun m hm => hβ1 m (hne m (R.wt t v h m hm)), ?_, fun t v h m hm => dom1 m (R.wt t v h m hm), ?_⟩
  ·intro m o h
   rw [lk_up] at h
   split at h
   ·rename_i e; subst e; cases h
    refine .lp ps.toList asg bdy σ.n ks _ js 0 L a.tmps b.fn D (by rw [show M1.β n = (0, some (L, 0)) from updN_self _ _ _]) hκL e2 R.sz (fun i t v h1 h2 => ?_) (Nat.zero_le _)
    rw [List.getElem?_map, h1] at h2
    simp only [Option.map_some, Option.some.injEq] at h2
    subst h2
    cases ht : lk σ.t t with
    | none => exact .undef _
    | some u => exact (R.tm t u ht).mono E1 fun m hm => hβ1 m (hne m (R.wt t u ht m hm))
   ·rename_i e
    refine (R.ob m o h).mono E1 (hβ1 m fun e' => e e'.symm) (fun q hq => hβ1 q (hne q (R.wo m o h q hq))) (fun x hx _ => ⟨hκ1 x hx, e6 x hx⟩) (fun _ _ _ _ _ _ _ => rfl)
  ·intro m o h q hq
   rw [lk_up] at h
   split at h
   ·cases h
    simp only [lp0, AObj.nms] at hq
    obtain ⟨v, hv, hq⟩ := nmsL_iff.1 hq
    obtain ⟨t, _, rfl⟩ := List.mem_map.1 hv
    cases ht : lk σ.t t with
    | none => rw [ht] at hq; simp [AV.nms] at hq
    | some u => rw [ht] at hq; exact dom1 q (R.wt t u ht q hq)
   ·exact dom1 q (R.wo m o h q hq)
 have hev : ({ σ with o := up σ.o n (lp0 ps asg bdy ks js σ) } : St).ev f = σ.ev f := by cases f <;> rfl
 have hr := (R1.ev f).clA
 have hnm := R1.evc f
 rw [hev, hf] at hr hnm
 generalize hy : a.eval f = y at hr
 cases hr with | clo _ xs _ c1 c2 =>
 obtain ⟨ys, es, r', outs', M₂, hsp, hpre, hpost⟩ := callA_sound (vs := #[.func (.yield L) #[] #[]] ++ xs) R1 hcall hp (by simp [c1]; omega) (by
  intro i v x h1 h2
  cases i with
  | zero =>
   rw [Array.getElem?_append_left (by simp)] at h1
   simp at h1 h2; subst h1; subst h2
   exact .yl n L (by rw [show M1.β n = (0, some (L, 0)) from updN_self _ _ _])
  | succ i =>
   rw [Array.getElem?_append_right (by simp)] at h1
   simp only [List.size_toArray, List.length_cons, List.length_nil, Nat.add_sub_cancel] at h1
   rw [List.getElem?_cons_succ] at h2
   exact c2 i v x (by simpa using h1) h2) (by
  intro x hx m hm
  rcases List.mem_cons.1 hx with rfl | hx
  ·simp [AV.nms] at hm; subst hm; rw [lk_up, if_pos rfl]; rfl
  ·exact hnm m (by simp only [AV.nms]; exact nmsL_mem hx hm))
 rcases hsp with hsp | ⟨hno, rfl, _⟩
 case inr => rw [hfn] at hno; cases hno
 have hres : (resolve (⟨a.tmps, b.defers⟩ : Act).eval (rangeCall f L) 0).run P w1 = .ok { target := .fn (.func g) xs, args := #[.func (.yield L) #[] #[]] } w1 := by
  rw [eval_df]
  simp only [resolve, rangeCall, hy, Deferred.ofValue, Sem.run_pure]
  simp [Act.eval]
 have hinv : (invoke (.fn (.func g) xs) #[.func (.yield L) #[] #[]]).run P w1 = .ok (.enter g (#[.func (.yield L) #[] #[]] ++ xs)) w1 := by
  simp only [invoke, callFunc, Sem.run_bind, run_program, hfn, hname, hbody, Result.andThen_ok]
  simp
 have hst1 := stepR_rangeFunc (P := P) (b := b) (a := ⟨a.tmps, b.defers⟩) (k := k) (cs := cs) (ps := ps) (assign := asg) (body := bdy) e1 hres hinv
 obtain ⟨e, w2, fr, he, hcome, hfrn, hleave⟩ := ((hsp.pre hpre).mono hpost) (b.atR ⟨a.tmps, Ds.map dfl ++ b.defers⟩ (.inRangeFunc L :: k) :: cs)
 obtain ⟨v, rfl, M', p⟩ := he
 have hst2 := step_leave_returned (c := b.atR ⟨a.tmps, Ds.map dfl ++ b.defers⟩ (.inRangeFunc L :: k)) (cs := cs) hleave
 rw [finish_atR_inRangeFunc] at hst2
 have R2 : RSt M' { σ with o := wrO (up σ.o n (lp0 ps asg bdy ks js σ)) out.wr } a w2 := R1.step p (d := none) rfl
 have hβn : (M'.β n).2 = some (L, 0) := by
  rw [p.bet n (by rw [lk_up, if_pos rfl]; rfl), show M1.β n = (0, some (L, 0)) from updN_self _ _ _]
 obtain ⟨ts', fn', D', hL, hκL', hpj⟩ : ∃ ts' fn' D', w2.heap[L]? = some (.loop (lpRec fn' ps' asg' bdy' ts' js' p' D')) ∧ M'.κ L = .own n ∧ p' ≤ js'.length := by
  have := R2.ob n _ h2
  cases this with | lp _ _ _ _ _ _ _ _ l ts' fn' D' g1 g2 g3 g4 g5 g6 =>
  rw [hβn] at g1; cases g1
  exact ⟨ts', fn', D', g3, g2, g6⟩
 have hend := run_endLoop (P := P) hL (by cases p' <;> simp [lpRec])
 have hst3 := stepR_endRangeFunc (P := P) (b := b) (a := ⟨a.tmps, Ds.map dfl ++ b.defers⟩) (k := k) (cs := cs) hend
 let w3 := w2.putObj L (.loop { lpRec fn' ps' asg' bdy' ts' js' p' D' with state := .exhausted })
 let M3 : Mm := ⟨updN M'.κ L .outer, M'.β, M'.φ, M'.F0⟩
 have hh3 : ∀ x, x ≠ L → w3.heap[x]? = w2.heap[x]? := fun x hx => World.putObj_heap_other hx
 have hκ3 : ∀ x, x ≠ L → M3.κ x = M'.κ x := fun x hx => updN_ne _ _ hx
 have hcells : ∀ x c T fr, w2.heap[x]? = some (.cells c T fr) → x ≠ L := by rintro x c T fr h rfl; rw [hL] at h; cases h
 have E3 : Ext M' w2 M3 w3 := by
  refine ⟨rfl, rfl, rfl, by simp [w3], fun x _ h => hh3 x ?_, fun x _ h => (hκ3 x ?_).trans h, fun x _ h => (hκ3 x ?_).trans h, fun x c T fr h => ⟨c, (hh3 x (hcells x c T fr h)).trans h, rfl⟩, fun _ _ _ h => h, fun _ _ _ => rfl, rfl⟩
  ·rintro rfl; exact h n hκL'
  ·rintro rfl; rw [hκL'] at h; cases h
  ·rintro rfl; rw [hκL'] at h; cases h
 have R3 : RSt M3 { σ with o := up (wrO (up σ.o n (lp0 ps asg bdy ks js σ)) out.wr) n .dead } a w3 := by
  have dom3 : ∀ m, (lk (wrO (up σ.o n (lp0 ps asg bdy ks js σ)) out.wr) m).isSome → (lk (up (wrO (up σ.o n (lp0 ps asg bdy ks js σ)) out.wr) n .dead) m).isSome := fun m hm => by
   rw [lk_up]; split
   ·rfl
   ·exact hm
  refine ⟨R2.sz, R2.df, fun t u h => (R2.tm t u h).mono E3 fun _ _ => rfl, ?_, fun t u h m hm => dom3 m (R2.wt t u h m hm), ?_⟩
  ·intro m o h
   rw [lk_up] at h
   split at h
   ·cases h; exact .dead
   ·rename_i hmn
    refine (R2.ob m o h).mono E3 rfl (fun _ _ => rfl) (fun x _ hx => ?_) (fun _ _ _ _ _ _ _ => rfl)
    have : x ≠ L := by
     rintro rfl
     rw [hκL'] at hx
     rcases hx with hx | hx
     ·cases hx; exact hmn rfl
     ·cases hx
    exact ⟨hκ3 x this, hh3 x this⟩
  ·intro m o h q hq
   rw [lk_up] at h
   split at h
   ·cases h; simp [AObj.nms] at hq
   ·exact dom3 q (R2.wo m o h q hq)
 have g : Go1 M w M3 w3 := by
  refine ⟨(E1.trans p.ext).trans E3, fun m hm => ?_⟩
  have hmn : m ≠ n := by rintro rfl; omega
  exact (p.bev m hm).trans (hβ1 m hmn)
 have hbm := hb.mono g
 let b' : Frame := { b with defers := Ds.map dfl ++ b.defers }
 have hb' : BOk fid M3 w3 b' cs := by
  refine ⟨hbm.fn, hbm.kind, ?_, ?_⟩
  ·obtain ⟨Ds0, d1, d2, d3⟩ := hbm.df
   obtain ⟨Ds1, f1, f2, f3⟩ := hb.df
   have hinj : ∀ {l1 l2 : List Nat}, l1.map dfl = l2.map dfl → l1 = l2 := fun {l1 l2} h => by
    have := congrArg (List.map fun d : Deferred => match d.target with | .collected D => D | _ => 0) h
    simpa [List.map_map, Function.comp_def, dfl] using this
   obtain rfl : Ds0 = Ds1 := hinj (d1.symm.trans f1)
   refine ⟨Ds ++ Ds0, by show Ds.map dfl ++ b.defers = _; rw [d1, List.map_append], List.nodup_append.2 ⟨e4, d2, fun x hx y hy e => ?_⟩, fun x hx => ?_⟩
   ·subst e
    have := heap_lt (f3 x hy).2
    have := (e5 x hx).1
    omega
   ·rcases List.mem_append.1 hx with hx | hx
    ·obtain ⟨q1, q2, q3⟩ := e5 x hx
     have o1 : M1.κ x = .outer := hκD x q1 q2
     have o2 : M'.κ x = .outer := p.ext.out x (heap_lt q3) o1
     refine ⟨(hκ3 x q2).trans o2, ?_⟩
     rw [hh3 x q2, p.ext.keep x (heap_lt q3) (by intro m; rw [o1]; simp)]; exact q3
    ·exact d3 x hx
  ·have := hbm.rd
   cases hrd : fid.rd with
   | none => rw [hrd] at this; exact this
   | some d =>
    rw [hrd] at this
    have hD : Ds = [] := e11 (by rw [hrd]; simp)
    obtain ⟨h1, h2⟩ := this
    refine ⟨?_, h2⟩
    show Ds.map dfl ++ b.defers = []
    rw [hD, h1]; rfl
 have steps : ∀ items, ((lpJ js' p').map Item.code).toList ++ k = items → Steps P (lone (b.at2 a (.code (.rangeFunc f ps asg bdy) :: k)) cs w) (lone (b'.at2 a items) cs w3) := by
  rintro _ rfl
  exact .head hst1 (Steps.trans hcome (.head hst2 (.one hst3)))
 have fin : ∀ items, ((lpJ js' p').map Item.code).toList ++ k = items → WK P fid items { σ with o := up (wrO (up σ.o n (lp0 ps asg bdy ks js σ)) out.wr) n .dead } r outs →
   ∃ v M' w', Ends P fid (lone (b.at2 a (.code (.rangeFunc f ps asg bdy) :: k)) cs w) cs v w' ∧ Go2 fid.ni (XB b) M w M' w' ∧ VRel M' w' v r ∧
   (∀ (k : Nat) (o : AObj), outs[k]? = some o → ORel M' w' (2 * k) o) ∧ (∀ n ∈ r.nms, evenBelow outs.length n) ∧ (∀ o ∈ outs, ∀ n ∈ o.nms, evenBelow outs.length n) := by
  intro items hi hk
  obtain ⟨v, M4, w4, q1, q2, q3⟩ := hk M3 a w3 R3 b' cs hb'
  refine ⟨v, M4, w4, q1.head (steps items hi), ⟨(g.trans2 q2).ext.less fun x hx hX => ?_, (g.trans2 q2).bev⟩, q3⟩
  rcases hX with hX | hX
  ·have hX : dfl x ∈ Ds.map dfl ++ b.defers := hX
   rcases List.mem_append.1 hX with h | h
   ·obtain ⟨y, hy, e⟩ := List.mem_map.1 h
    have : y = x := by simpa [dfl] using e
    subst this
    have := (e5 y hy).1
    omega
   ·exact .inl h
  ·exact .inr hX
 cases hp' : p' with
 | zero => exact fin _ (by rw [hp']; rfl) (k0 hp')
 | succ q =>
  have hq : q < js'.length := by omega
  have hjq := List.getElem?_eq_getElem hq
  exact fin (.code js'[q] :: k) (by rw [hp']; show ((js'[q]?).map Item.code).toList ++ k = _; rw [hjq]; rfl) (k1 q _ hp' hjq)
end
end Go.Fx
