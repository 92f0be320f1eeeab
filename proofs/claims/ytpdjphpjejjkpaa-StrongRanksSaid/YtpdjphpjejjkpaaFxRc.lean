/- Loops over functions: the check of a round. -/
import Derived.Test.YtpdjphpjejjkpaaFxW
namespace Go.Fx
def rndT (P : Program) (s : Bool) (nimp : Nat) (js : List Code) (p : Nat) (k : List Item) (σ : St) (outs : List AObj) : T :=
 match retB P [] σ nimp (retM P [] σ nimp (.tup []) (.dead :: outs)).frz (getN (retM P [] σ nimp (.tup []) (.dead :: outs)).imp (evens (outs.length + 1 - nimp) nimp)) (.tup []) (.dead :: outs) with
 | some ob => .v (sd s (rndJ k) (some (lpJ js p))) (.v (sd s (Nat.ble p js.length) true) (pureT s ob .ok))
 | none => .bad s
def zipAV : List Nat → List AV → List (Nat × AV)
 | k :: ks, v :: vs => (k, v) :: zipAV ks vs
 | _, _ => []
def roundSt (nt : Nat) (ps : List Nat) (xs : List AV) (ks : List Nat) (vs : List AV) (ext : List AObj) : St := ⟨nt, zipAV ps xs ++ zipAV ks vs, objs0 (.dead :: ext) 0⟩
def evR (P : Program) (s : Bool) (ps : List Nat) (asg bdy : Code) (nt : Nat) (ks : List Nat) (vs : List AV) (js : List Code) (xs : List AV) (ext : List AObj) {β : Type} (p : Prg P β) (pe : β → Nat) (outs : β → List AObj) : T :=
 ev P s 100000 (.ret () : Prg P Unit) 2 (fun _ n k σ => match k with
  | [.beginRound, .code b] => ev P s 100000 p 0 (fun x _ k σ => rndT P s (ext.length + 1) js (pe x) k σ (outs x)) n [] (.it [.code b]) σ
  | _ => .bad s) 1001 [] (.it [.code asg, .beginRound, .code bdy]) (roundSt nt ps xs ks vs ext)
section
variable {P : Program} {M : Mm} {w : World} {σ : St} {a : Act}
theorem rndT_sound {fn nimp : Nat} {d : Rd} {ps : List Nat} {asg bdy : Code} {nt : Nat} {js : List Code} {p : Nat} {ts : Array Value} {fn0 D : Nat} (hd : d.lr = { lpRec fn0 ps asg bdy ts js 0 D with state := .busy }) (hnt : ts.size = nt) (hni : 0 < nimp)
  {k : List Item} {outs : List AObj} (hlen : nimp ≤ outs.length + 1) (h : rndT P true nimp js p k σ outs = rndT P false nimp js p k σ outs) :
  WK P ⟨fn, nimp, some d⟩ k σ (.pv (.bool (Nat.beq p 0))) (.lp ps asg bdy nt d.ks d.vs js p :: outs) := by
 unfold rndT at h
 generalize (retM P [] σ nimp (.tup []) (.dead :: outs)).frz = frz at h
 generalize getN (retM P [] σ nimp (.tup []) (.dead :: outs)).imp (evens (outs.length + 1 - nimp) nimp) = esc at h
 cases hb : retB P [] σ nimp frz esc (.tup []) (.dead :: outs) with
 | none => rw [hb] at h; simp at h
 | some ob =>
  rw [hb] at h
  simp only at h
  obtain ⟨hj, h⟩ := T.v_inj h
  obtain ⟨hpj, h⟩ := T.v_inj h
  have hall := (pureT_ok h).1
  have hpj : p ≤ js.length := Nat.le_of_ble_eq_true hpj
  unfold retB at hb
  split at hb
  ·rename_i vs hvs
   have hvs0 : vs = [] := by simp [retVals] at hvs; exact hvs
   subst hvs0
   split at hb
   ·rename_i pp vs' wf hfa hfo hnd
    split at hb
    ·rename_i rs' os hren hos
     split at hb
     ·rename_i os' hos'
      split at hb
      ·rename_i q1 q2 hq1 hq2
       cases hb
       rw [All_append, All_append] at hall
       have hvs1 : vs' = [] := by simp [frzArgs] at hfa; exact hfa.2
       subst hvs1
       have hrs : rs' = [] := by simp [renL] at hren; exact hren
       subst hrs
       have hret : retA P [] σ nimp frz esc = some (pp, .tup [], os') := by
        unfold retA
        simp only [hvs, hfa, hfo, hnd, hren, hos, hos']
        rfl
       cases os' with
       | nil => simp [cvOs] at hq2
       | cons o0 os2 =>
        have hcv := fun (M : Mm) (w : World) => cvOs_rel (M := M) (w := w) noO0 hq2 hall.2.2
        have hl2 : os2.length = outs.length := by have := (hcv cvR_rel.M0' default).1; simpa using this
        refine (WK.roundEnd (fn := fn) (d := d) (js := js) (p := p) hd hnt hni hret hall.1 (by omega) hj hpj).conv (fun _ _ _ h => h) (fun _ h => h) (by simp [hl2]) ?_
        intro i o o' e1 e2
        cases i with
        | zero =>
         simp only [List.getElem?_cons_zero, Option.some.injEq] at e1 e2
         subst e1; subst e2
         exact ⟨fun _ _ _ h => h, fun _ h => h⟩
        | succ i =>
         rw [List.getElem?_cons_succ] at e1 e2
         refine ⟨fun M w n => ((hcv M w).2 (i + 1) o o' (by rw [List.getElem?_cons_succ]; exact e1) (by rw [List.getElem?_cons_succ]; exact e2)).1 n, fun n hn => ?_⟩
         exact (((hcv cvR_rel.M0' default).2 (i + 1) o o' (by rw [List.getElem?_cons_succ]; exact e1) (by rw [List.getElem?_cons_succ]; exact e2)).2 n hn).elim id fun h => by cases h
      ·cases hb
     ·cases hb
    ·cases hb
   ·cases hb
  ·cases hb
/-! Variables that are set. -/
theorem foldl_setV : ∀ (l : List (Nat × Value)) (ts : Array Value), (l.map Prod.fst).Nodup → (∀ x ∈ l, x.1 < ts.size) →
  (l.foldl (fun t x => t.setIfInBounds x.1 x.2) ts).size = ts.size ∧ (∀ k a, (k, a) ∈ l → (l.foldl (fun t x => t.setIfInBounds x.1 x.2) ts).getD k undef = a) ∧ ∀ k, k ∉ l.map Prod.fst → (l.foldl (fun t x => t.setIfInBounds x.1 x.2) ts).getD k undef = ts.getD k undef
 | [], ts, _, _ => ⟨rfl, by simp, fun _ _ => rfl⟩
 | (k0, a0) :: l, ts, hn, hl => by
  simp only [List.map_cons, List.nodup_cons] at hn
  have h0 : k0 < ts.size := hl (k0, a0) (.head _)
  obtain ⟨h1, h2, h3⟩ := foldl_setV l (ts.setIfInBounds k0 a0) hn.2 (fun x hx => by rw [Array.size_setIfInBounds]; exact hl x (.tail _ hx))
  simp only [List.foldl_cons]
  refine ⟨by rw [h1, Array.size_setIfInBounds], fun k a hk => ?_, fun k hk => ?_⟩
  ·rcases List.mem_cons.1 hk with e | hk
   ·cases e
    rw [h3 k0 hn.1]
    simp [Array.getD_eq_getD_getElem?, h0]
   ·exact h2 k a hk
  ·simp only [List.map_cons, List.mem_cons, not_or] at hk
   rw [h3 k hk.2]
   simp [Array.getD_eq_getD_getElem?, Array.getElem?_setIfInBounds_ne (Ne.symm hk.1)]
theorem lk_zipAV : ∀ {ks : List Nat} {vs : List AV} {k : Nat} {v : AV}, lk (zipAV ks vs) k = some v → ∃ i : Nat, ks[i]? = some k ∧ vs[i]? = some v
 | [], _, _, _, h => by simp [zipAV, lk] at h
 | _ :: _, [], _, _, h => by simp [zipAV, lk] at h
 | k0 :: ks, v0 :: vs, k, v, h => by
  simp only [zipAV, lk] at h
  split at h
  ·rename_i e; have := nbeq_eq e; subst this; cases h; exact ⟨0, rfl, rfl⟩
  ·obtain ⟨i, h1, h2⟩ := lk_zipAV h; exact ⟨i + 1, h1, h2⟩
theorem lk_zipAV_none : ∀ {ks : List Nat} {vs : List AV} {k : Nat}, ks.length = vs.length → lk (zipAV ks vs) k = none → k ∉ ks
 | [], _, _, _, _ => by simp
 | _ :: _, [], _, h, _ => by simp at h
 | k0 :: ks, v0 :: vs, k, hl, h => by
  simp only [zipAV, lk] at h
  split at h
  ·cases h
  ·rename_i e
   have hl : ks.length = vs.length := by simpa using hl
   simp only [List.mem_cons, not_or]
   refine ⟨fun e' => ?_, lk_zipAV_none hl h⟩
   subst e'
   simp at e
theorem lk_app {α : Type} : ∀ (l1 l2 : List (Nat × α)) (k : Nat), lk (l1 ++ l2) k = match lk l1 k with | some v => some v | none => lk l2 k
 | [], _, _ => rfl
 | (x, v) :: l1, l2, k => by
  simp only [List.cons_append, lk]
  cases Nat.beq x k with
  | true => rfl
  | false => exact lk_app l1 l2 k
theorem RSpec.of {ps : List Nat} {asg bdy : Code} {nt : Nat} {ks : List Nat} {vs : List AV} {js : List Code} {xs : List AV} {ext : List AObj} {r : AV} {outs : List AObj}
  (hlen : xs.length = ps.length) (hnd : ps.Nodup) (hlt : ∀ t ∈ ps, t < nt) (hle : ext.length + 1 ≤ outs.length)
  (h : ∀ (fn fn0 D : Nat) (ts : Array Value), ts.size = nt → WK P ⟨fn, ext.length + 1, some ⟨lpRec fn0 ps asg bdy ts js 0 D, ks, vs⟩⟩ [.code asg, .beginRound, .code bdy] (roundSt nt ps xs ks vs ext) r outs) :
  RSpec P (.yl 0 :: xs) (.lp ps asg bdy nt ks vs js 0 :: ext) r outs := by
 intro M w vals ⟨p1, p2, p3, p4, p5⟩
 have hv0 : 0 < vals.size := by rw [p1]; simp
 obtain ⟨l, hβ0, hval0⟩ : ∃ l, (M.β 0).2 = some (l, 0) ∧ vals[0]? = some (.func (.yield l) #[] #[]) := by
  have := p2 0 vals[0] (.yl 0) (by simp [hv0]) rfl
  generalize hy : vals[0] = y at this
  cases this with | yl _ l hb => exact ⟨l, hb, by rw [Array.getElem?_eq_getElem hv0, hy]⟩
 have hlp := p3 0 _ rfl
 rw [Nat.mul_zero] at hlp
 obtain ⟨ts, fn0, D, g1, g2, g3, g4⟩ : ∃ ts fn0 D, M.κ l = .own 0 ∧ w.heap[l]? = some (.loop (lpRec fn0 ps asg bdy ts js 0 D)) ∧ ts.size = nt ∧ ∀ (i k : Nat) (v : AV), ks[i]? = some k → vs[i]? = some v → VRel M w (ts.getD k undef) v := by
  cases hlp with | lp _ _ _ _ _ _ _ _ l' ts fn0 D e1 e2 e3 e4 e5 e6 =>
  rw [hβ0] at e1; cases e1
  exact ⟨ts, fn0, D, e2, e3, e4, e5⟩
 have hargs : (vals.extract 1 vals.size).size = xs.length := by simp [p1]
 have hyield := run_yield (P := P) (args := vals.extract 1 vals.size) g2 (by have := hargs; simp [lpRec] at this ⊢; omega)
 refine ⟨l, _, _, _, _, hval0, hyield, fun c cs => ?_⟩
 have htm : ((lpRec fn0 ps asg bdy ts js 0 D).params.zip (vals.extract 1 vals.size)).foldl (fun tmps (x : Nat × Value) => tmps.setIfInBounds x.1 x.2) (lpRec fn0 ps asg bdy ts js 0 D).tmps =
   (ps.zip (vals.extract 1 vals.size).toList).foldl (fun t x => t.setIfInBounds x.1 x.2) ts := by
  rw [← Array.foldl_toList, Array.toList_zip]
  simp [lpRec]
 have hzl : ps.length ≤ (vals.extract 1 vals.size).toList.length := by have := hargs; simp at this ⊢; omega
 have hfst : (ps.zip (vals.extract 1 vals.size).toList).map Prod.fst = ps := List.map_fst_zip hzl
 obtain ⟨s1, s2, s3⟩ := foldl_setV (ps.zip (vals.extract 1 vals.size).toList) ts (by rw [hfst]; exact hnd) (fun x hx => by
  rw [g3]
  exact hlt x.1 (by rw [← hfst]; exact List.mem_map.2 ⟨x, hx, rfl⟩))
 let tm := (ps.zip (vals.extract 1 vals.size).toList).foldl (fun t (x : Nat × Value) => t.setIfInBounds x.1 x.2) ts
 let b : Frame := { (default : Frame) with fn := fn0, kind := .normal, roundOf := some l, defers := [] }
 have hfr : Frame.round l (lpRec fn0 ps asg bdy ts js 0 D).fn (((lpRec fn0 ps asg bdy ts js 0 D).params.zip (vals.extract 1 vals.size)).foldl (fun tmps (x : Nat × Value) => tmps.setIfInBounds x.1 x.2) (lpRec fn0 ps asg bdy ts js 0 D).tmps) (lpRec fn0 ps asg bdy ts js 0 D).assign (lpRec fn0 ps asg bdy ts js 0 D).body .normal =
   b.at2 ⟨tm, []⟩ [.code asg, .beginRound, .code bdy] := by
  rw [htm]
  simp [Frame.round, Frame.at2, Frame.atR, b, lpRec, tm]
 let M1 : Mm := ⟨updN M.κ l .outer, M.β, M.φ, M.F0⟩
 have hκ1 : ∀ x, x ≠ l → M1.κ x = M.κ x := fun x hx => updN_ne _ _ hx
 have hκl : M1.κ l = .outer := updN_self _ _ _
 have L1 : Lft M w M1 w := by
  refine ⟨fun x _ hx => ⟨(hκ1 x ?_).trans hx, rfl⟩, fun x c T fr hx => ⟨c, hx, rfl⟩, fun _ _ _ h => h, rfl⟩
  rintro rfl; rw [g1] at hx; cases hx
 have R : RSt M1 (roundSt nt ps xs ks vs ext) ⟨tm, []⟩ w := by
  refine ⟨by show tm.size = nt; rw [← g3]; exact s1, rfl, ?_, ?_, ?_, ?_⟩
  ·intro t v hv
   have hv : lk (zipAV ps xs ++ zipAV ks vs) t = some v := hv
   rw [lk_app] at hv
   cases hz : lk (zipAV ps xs) t with
   | some u =>
    rw [hz] at hv; cases hv
    obtain ⟨i, i1, i2⟩ := lk_zipAV hz
    have hi : i + 1 < vals.size := by rw [p1]; simp; exact (List.getElem?_eq_some_iff.1 i2).1
    have hval : (vals.extract 1 vals.size).toList[i]? = some vals[i + 1] := by
     rw [Array.getElem?_toList, Array.getElem?_extract]
     rw [if_pos (by omega), Nat.add_comm, Array.getElem?_eq_getElem hi]
    have hm : (t, vals[i + 1]) ∈ ps.zip (vals.extract 1 vals.size).toList := by
     refine List.mem_of_getElem? (i := i) ?_
     rw [List.getElem?_zip_eq_some]
     exact ⟨i1, hval⟩
    have : tm.getD t undef = vals[i + 1] := s2 _ _ hm
    show VRel M1 w (tm.getD t undef) v
    rw [this]
    exact (p2 (i + 1) _ v (by simp [hi]) (by rw [List.getElem?_cons_succ]; exact i2)).lft L1 fun _ _ => rfl
   | none =>
    rw [hz] at hv
    have hnp := lk_zipAV_none hlen.symm hz
    obtain ⟨i, i1, i2⟩ := lk_zipAV hv
    have : tm.getD t undef = ts.getD t undef := s3 t (by rw [hfst]; exact hnp)
    show VRel M1 w (tm.getD t undef) v
    rw [this]
    exact (g4 i t v i1 i2).lft L1 fun _ _ => rfl
  ·intro n o ho
   obtain ⟨j, rfl, hj⟩ := lk_objs0 _ _ _ _ ho
   rw [Nat.zero_add]
   cases j with
   | zero => simp at hj; subst hj; exact .dead
   | succ j =>
    rw [List.getElem?_cons_succ] at hj
    refine (p3 (j + 1) o (by rw [List.getElem?_cons_succ]; exact hj)).lft L1 rfl (fun _ _ => rfl) (fun x _ hx => ⟨hκ1 x ?_, rfl⟩) (fun _ _ _ _ _ _ _ => rfl)
    rintro rfl
    rw [g1] at hx
    rcases hx with hx | hx
    ·have := Cls.own.inj hx; omega
    ·cases hx
  ·intro t v hv n hn
   have hv : lk (zipAV ps xs ++ zipAV ks vs) t = some v := hv
   have key : evenBelow (ext.length + 1) n → (lk (objs0 (.dead :: ext) 0) n).isSome := by
    rintro ⟨j, hj, rfl⟩
    have := lk_objs0_some (.dead :: ext) 0 j (by simpa using hj)
    rw [Nat.zero_add] at this; exact this
   refine key ?_
   rw [lk_app] at hv
   cases hz : lk (zipAV ps xs) t with
   | some u =>
    rw [hz] at hv; cases hv
    obtain ⟨i, _, i2⟩ := lk_zipAV hz
    have := p4 v (.tail _ (List.mem_of_getElem? i2)) n hn
    simpa using this
   | none =>
    rw [hz] at hv
    obtain ⟨i, _, i2⟩ := lk_zipAV hv
    have := p5 _ (.head _) n (by simp only [AObj.nms]; exact nmsL_mem (List.mem_of_getElem? i2) hn)
    simpa using this
  ·intro m o ho n hn
   obtain ⟨j, rfl, hj⟩ := lk_objs0 _ _ _ _ ho
   have hmem : evenBelow (ext.length + 1) n := by
    cases j with
    | zero => simp at hj; subst hj; simp [AObj.nms] at hn
    | succ j =>
     rw [List.getElem?_cons_succ] at hj
     have := p5 o (.tail _ (List.mem_of_getElem? hj)) n hn
     simpa using this
   obtain ⟨q, hq, rfl⟩ := hmem
   have := lk_objs0_some (.dead :: ext) 0 q (by simpa using hq)
   rw [Nat.zero_add] at this; exact this
 have hb : BOk ⟨fn0, ext.length + 1, some ⟨lpRec fn0 ps asg bdy ts js 0 D, ks, vs⟩⟩ M1 w b (c :: cs) := by
  refine ⟨rfl, rfl, ⟨[], rfl, .nil, by simp⟩, rfl, by simp, l, rfl, hβ0, hκl, g2, fun v hv n hn => ?_, fun i k v e1 e2 => (g4 i k v e1 e2).lft L1 fun _ _ => rfl⟩
  have := p5 _ (.head _) n (by simp only [AObj.nms]; exact nmsL_mem hv hn)
  simpa using this
 obtain ⟨v, M', w', ⟨c', cs', hcs, hst⟩, k2, k3, k4, k5, k6⟩ := h fn0 fn0 D ts g3 M1 ⟨tm, []⟩ w R b (c :: cs) hb
 cases hcs
 rw [← hfr] at hst
 refine ⟨v, w', ⟨v, M', rfl, ?_, k3, k4, fun j hj => k2.bev j (by simpa using hj), k5, k6, by simpa using hle⟩, hst⟩
 have hX : ∀ x, x ≠ l → ¬ XB b x := fun x hx h => by
  rcases h with h | h
  ·cases h
  ·exact hx (Option.some.inj h).symm
 have E := k2.ext
 refine ⟨E.os, E.tape, E.output, E.size, fun x hx hn => ?_, fun x hx hf => ?_, fun x hx ho => ?_, E.shp, E.fam, E.low, E.f0⟩
 ·have hxl : x ≠ l := by rintro rfl; exact hn 0 g1
  exact E.keep x hx (fun n => by rw [hκ1 x hxl]; exact hn n) (hX x hxl)
 ·have hxl : x ≠ l := by rintro rfl; rw [g1] at hf; cases hf
  exact E.fro x hx ((hκ1 x hxl).trans hf)
 ·have hxl : x ≠ l := by rintro rfl; rw [g1] at ho; cases ho
  exact E.out x hx ((hκ1 x hxl).trans ho) (hX x hxl)
theorem Prg.okR {ps : List Nat} {asg bdy : Code} {nt : Nat} {ks : List Nat} {vs : List AV} {js : List Code} {xs : List AV} {ext : List AObj} {β : Type} {p : Prg P β} {pe : β → Nat} {outs : β → List AObj}
  (h : @T.rec (fun _ => T) .ok .bad (fun a _ ih => .v a ih) (fun _ ih => .all ih) (fun _ _ a b => .two a b) (evR P true ps asg bdy nt ks vs js xs ext p pe outs) = @T.rec (fun _ => T) .ok .bad (fun a _ ih => .v a ih) (fun _ ih => .all ih) (fun _ _ a b => .two a b) (evR P false ps asg bdy nt ks vs js xs ext p pe outs))
  (hc : (Nat.beq xs.length ps.length && nodupN ps && ltN nt ps) = true) {x : β} (hle : Nat.ble ext.length (outs x).length = true) (hx : p.run = some x) :
  RSpec P (.yl 0 :: xs) (.lp ps asg bdy nt ks vs js 0 :: ext) (.pv (.bool (Nat.beq (pe x) 0))) (.lp ps asg bdy nt ks vs js (pe x) :: outs x) := by
 simp only [T.again] at h
 simp only [Bool.and_eq_true, nodupN_iff] at hc
 obtain ⟨⟨c1, c2⟩, c3⟩ := hc
 have hle := Nat.le_of_ble_eq_true hle
 refine RSpec.of (nbeq_eq c1) c2 (ltN_iff c3) (by simpa using hle) fun fn fn0 D ts hts => ?_
 unfold evR at h
 refine (ev_sound 100000).it (x := ()) rfl ?_ KnOk.nil h
 intro n k σ hlf
 simp only at hlf
 split at hlf
 ·rename_i b
  exact WK.beginRound rfl ((ev_sound 100000).it hx (fun n k σ h => rndT_sound (d := ⟨{ lpRec fn0 ps asg bdy ts js 0 D with state := .busy }, ks, vs⟩) rfl hts (Nat.succ_pos _) (by omega) h) KnOk.nil hlf)
 ·simp at hlf
end
end Go.Fx
