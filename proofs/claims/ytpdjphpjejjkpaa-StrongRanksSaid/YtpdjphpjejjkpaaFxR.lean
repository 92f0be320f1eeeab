/- Rounds over maps, in whatever order. -/
import Derived.Test.YtpdjphpjejjkpaaFxT
namespace Go.Fx
section
variable {P : Program} {M M' : Mm} {w : World} {σ : St} {a : Act}
/-! Maps, round by round. -/
theorem RSt.drew (R : RSt M σ a w) : RSt M σ a w.drew :=
 ⟨R.sz, R.df, fun t v h => (R.tm t v h).mono (Ext.drew M w) fun _ _ => rfl, fun n o h => (R.ob n o h).mono (Ext.drew M w) rfl (fun _ _ => rfl) (fun _ _ _ => ⟨rfl, rfl⟩), R.wt, R.wo⟩
theorem run_next {b bm nn : Nat} {seen : List Nat} {es : Array MapEntry} {clock : Nat} (hi : w.heap[b]? = some (.mapIter (some bm) nn seen.toArray nn)) (hm : w.heap[bm]? = some (.map es clock)) (hc : clock = nn) (hs : es.size = nn)
  (hb : ∀ (i : Nat) (e : MapEntry), es[i]? = some e → e.born = i) (ty : TypeId) :
  ((∀ i, i < nn → i ∈ seen) ∧ (Instr.next (.pointer (some ⟨b, 0, none⟩)) false ty).run P w = .ok (.tuple #[.bool false]) w) ∨
  ∃ i e w0, es[i]? = some e ∧ i < nn ∧ i ∉ seen ∧ (w0 = w ∨ w0 = w.drew) ∧
   (Instr.next (.pointer (some ⟨b, 0, none⟩)) false ty).run P w = .ok (.tuple #[.bool true, e.key, e.val]) (setObjW w0 b (.mapIter (some bm) nn (seen ++ [i]).toArray nn)) := by
 have hgo : ∀ w0 : World, w0.heap = w.heap → (getObj b).run P w0 = .ok (.mapIter (some bm) nn seen.toArray nn) w0 := by intro w0 h; simp [getObj, Sem.run, h, hi]
 have hgm : (getObj bm).run P w = .ok (.map es clock) w := MapKept.run_getObj_map hm
 have hnolast : (!seen.toArray.isEmpty && !es.isEmpty && es.all (·.born ≥ nn)) = false := by
  by_cases he : es.size = 0
  ·have : es.isEmpty = true := by simp [Array.isEmpty, he]
   simp [this]
  ·have : es.all (·.born ≥ nn) = false := by
    rw [Array.all_eq_false]
    refine ⟨0, by omega, ?_⟩
    have := hb 0 es[0] (by simp [Nat.pos_of_ne_zero he])
    simp [this]; omega
   simp [this]
 have hborn : ∀ e ∈ es, e.born < nn := by
  intro e he
  obtain ⟨i, hi, rfl⟩ := Array.mem_iff_getElem.1 he
  rw [hb i es[i] (by simp [hi])]; omega
 have hold : (es.filter fun e => !seen.toArray.contains e.born).filter (·.born < nn) = es.filter fun e => !seen.toArray.contains e.born := by
  apply Array.filter_eq_self.2
  intro e he
  have := hborn e (Array.mem_of_mem_filter he)
  simpa using this
 have hnew : (es.filter fun e => !seen.toArray.contains e.born).filter (·.born ≥ nn) = #[] := by
  apply Array.filter_eq_empty_iff.2
  intro e he
  have := hborn e (Array.mem_of_mem_filter he)
  simpa using this
 by_cases hl : (es.filter fun e => !seen.toArray.contains e.born) = #[]
 ·left
  refine ⟨?_, ?_⟩
  ·intro i hi'
   have hei : es[i]? = some (es[i]'(by omega)) := by simp
   rw [Array.filter_eq_empty_iff] at hl
   have := hl _ (Array.mem_of_getElem? hei)
   rw [hb i _ hei] at this
   simpa using this
  ·unfold Instr.next
   simp only [Sem.run_bind, hgo w rfl, Result.andThen_ok, hgm, hnolast, Bool.false_eq_true, if_false, hold, hnew, hl]
   simp [Sem.run, Question.forced]
 ·right
  generalize hL : (es.filter fun e => !seen.toArray.contains e.born) = L at hl hold hnew
  have hne : L.isEmpty = false := by simpa [Array.isEmpty_iff] using hl
  have hLs : 0 < L.size := by
   rcases Nat.eq_zero_or_pos L.size with h | h
   ·exact absurd (Array.eq_empty_of_size_eq_zero h) hl
   ·exact h
  have hcand : ((if L.isEmpty then #[none] else #[]) ++ (L ++ #[]).map some : Array (Option MapEntry)) = L.map some := by simp [hne]
  have hpick : ∀ (k : Nat) (w0 : World), k < L.size → w0.heap = w.heap → ∃ i e, es[i]? = some e ∧ i < nn ∧ i ∉ seen ∧
    (match (L.map some : Array (Option MapEntry))[k]? with
     | some (some e) => do
      setObj b (.mapIter (some bm) nn (seen.toArray.push e.born) clock)
      pure (.tuple #[.bool true, e.key, e.val])
     | some none => pure (.tuple #[.bool false])
     | none => stuck "Next: no such candidate" : Sem Value).run P w0 = .ok (.tuple #[.bool true, e.key, e.val]) (setObjW w0 b (.mapIter (some bm) nn (seen ++ [i]).toArray nn)) := by
   intro k w0 hk hw
   have hmem : L[k] ∈ es.filter fun e => !seen.toArray.contains e.born := by rw [hL]; exact Array.getElem_mem hk
   rw [Array.mem_filter] at hmem
   obtain ⟨m1, m2⟩ := hmem
   obtain ⟨i, hil, hie⟩ := Array.mem_iff_getElem.1 m1
   have hbi := hb i es[i] (by simp [hil])
   have hb' : L[k].born = i := by rw [← hie]; exact hbi
   refine ⟨i, L[k], by rw [← hie]; simp [hil], by omega, ?_, ?_⟩
   ·rw [hb'] at m2; simpa using m2
   ·have : (L.map some : Array (Option MapEntry))[k]? = some (some L[k]) := by simp [hk]
    rw [this]
    have hset : (setObj b (.mapIter (some bm) nn (seen.toArray.push i) nn)).run P w0 = .ok () (setObjW w0 b (.mapIter (some bm) nn (seen ++ [i]).toArray nn)) := by
     simp [setObj, Sem.run, hw, hi, setObjW]
    simp only [Sem.run_bind, hb', hc, hset, Result.andThen_ok, Sem.run_pure]
  have hrun : ∀ k w0, (choose (.mapNext L.size)).run P w = .ok k w0 → w0.heap = w.heap → k < L.size → ∃ i e, es[i]? = some e ∧ i < nn ∧ i ∉ seen ∧
    (Instr.next (.pointer (some ⟨b, 0, none⟩)) false ty).run P w = .ok (.tuple #[.bool true, e.key, e.val]) (setObjW w0 b (.mapIter (some bm) nn (seen ++ [i]).toArray nn)) := by
   intro k w0 hch hw hk
   obtain ⟨i, e, f1, f2, f3, f4⟩ := hpick k w0 hk hw
   refine ⟨i, e, f1, f2, f3, ?_⟩
   unfold Instr.next
   simp only [Sem.run_bind, hgo w rfl, Result.andThen_ok, hgm, hnolast, Bool.false_eq_true, if_false, hL, hold, hnew, hcand, Array.size_map, hch]
   exact f4
  by_cases hf : L.size ≤ 1
  ·obtain ⟨i, e, f1, f2, f3, f4⟩ := hrun 0 w (by simp [Question.forced, hf]) rfl hLs
   exact ⟨i, e, w, f1, f2, f3, .inl rfl, f4⟩
  ·obtain ⟨i, e, f1, f2, f3, f4⟩ := hrun ((Question.mapNext L.size).cut (w.tape w.drawn (.mapNext L.size))) w.drew (by
    rw [run_choose_drew]; rw [if_neg (by simp [Question.forced]; omega)]) rfl (by simp only [Question.cut]; exact Nat.mod_lt _ hLs)
   exact ⟨i, e, w.drew, f1, f2, f3, .inr rfl, f4⟩
def nextOf : Code → Option (Tmp × Tmp × Tmp)
 | .region _ ops false => match ops.toList with
  | [⟨some d0, .next (.tmp it) false, _, _, _, none⟩, ⟨some d1, .extract (.tmp e) 0, _, _, _, none⟩] => match Nat.beq d0 e with
   | true => some (it, d0, d1)
   | false => none
  | _ => none
 | _ => none
theorem wpOps_two {rd : Option Nat} {ops : Array Oper} {o0 o1 : Oper} (hops : ops = #[o0, o1]) (hg0 : o0.guard = none) (hg1 : o1.guard = none) {v0 v1 : Value} {w1 w2 : World} {Q : Exit → Act → World → Prop}
  (r0 : (execOp a.eval o0).run P w = .ok (.value v0) w1) (r1 : (execOp (a.put o0.dst v0).eval o1).run P w1 = .ok (.value v1) w2) (hQ : Q .normal ((a.put o0.dst v0).put o1.dst v1) w2) :
  wpOpsIn (wd rd) 0 P ops Q (List.range ops.size) a w := by
 subst hops
 have e : List.range (#[o0, o1] : Array Oper).size = [0, 1] := rfl
 rw [e]
 have e0 : (#[o0, o1] : Array Oper)[0]? = some o0 := rfl
 have e1 : (#[o0, o1] : Array Oper)[1]? = some o1 := rfl
 have wt : ∀ (o : Oper) (y : Nat → Option Bool), o.guard = none → Region.wanted o y = true := by intro o y h; unfold Region.wanted; rw [h]
 simp only [wpOpsIn, e0, e1, wt o0 _ hg0, if_true]
 refine Does.value (R := fun v w' => v = v0 ∧ w' = w1) r0 ⟨rfl, rfl⟩ rd _ _ ?_
 rintro v w' ⟨rfl, rfl⟩
 simp only [wt o1 _ hg1, if_true]
 refine Does.value (R := fun v w' => v = v1 ∧ w' = w2) r1 ⟨rfl, rfl⟩ rd _ _ ?_
 rintro v w' ⟨rfl, rfl⟩
 exact hQ
theorem WK.next {fid : Fid} {k : List Item} {r : AV} {outs : List AObj} {c : Code} {it d0 d1 : Tmp} (hc : nextOf c = some (it, d0, d1)) (hd : (Nat.blt d0 σ.n && Nat.blt d1 σ.n) = true)
  {n m nn : Nat} {seen : List Nat} {fz g : Bool} {ks : List PV} {rows : List (List PV)} (ht : lk σ.t it = some (.ref n 0 0 0)) (hi : lk σ.o n = some (.it m nn seen)) (hm : lk σ.o m = some (.mp fz g true ks rows)) (hn : ks.length = nn)
  (σT : Nat → St) (σF : St) (eT : ∀ i, σT i = { σ with t := up (up σ.t d0 .undef) d1 (.pv (.bool true)), o := up σ.o n (.it m nn (i :: seen)) })
  (eF : σF = { σ with t := up (up σ.t d0 .undef) d1 (.pv (.bool false)) })
  (h1 : ∀ i, i < nn → i ∉ seen → WK P fid k (σT i) r outs) (h2 : (∀ i, i < nn → i ∈ seen) → WK P fid k σF r outs) : WK P fid (.code c :: k) σ r outs := by
 unfold nextOf at hc
 split at hc
 ·rename_i id ops
  split at hc
  ·rename_i d0' it' ty0 pos0 af0 d1' e ty1 pos1 af1 hops
   split at hc
   ·rename_i he
    have he := nbeq_eq he
    subst he
    cases hc
    simp only [Bool.and_eq_true] at hd
    obtain ⟨hd0, hd1⟩ := hd
    have hd0' : d0 < σ.n := by rw [Nat.blt_eq] at hd0; exact hd0
    refine WK.region fun M a w b R => ⟨_, w, fun ds cs => .one stepR_region, ?_⟩
    obtain ⟨o0, ho0⟩ : ∃ o0 : Oper, o0 = ⟨some d0, .next (.tmp it) false, ty0, pos0, af0, none⟩ := ⟨_, rfl⟩
    obtain ⟨o1, ho1⟩ : ∃ o1 : Oper, o1 = ⟨some d1, .extract (.tmp d0) 0, ty1, pos1, af1, none⟩ := ⟨_, rfl⟩
    have hops : ops = #[o0, o1] := by apply Array.toList_inj.1; rw [hops, ho0, ho1]
    have hit := R.tm it _ ht
    generalize hy : a.tmps.getD it undef = y at hit
    cases hit with | ref _ _ _ _ bi base hb0 =>
    have hI := R.ob n _ hi
    have hm' := R.ob m _ hm
    cases hI with | it _ _ _ b2 bm i1 i2 i3 i4 =>
    rw [hb0] at i1; cases i1
    cases hm' with | mp _ _ _ _ _ bm' es clock e1 e2 e3 e4 e5 e6 e7 e8 e9 e10 =>
    rw [i3] at e1; cases e1
    obtain ⟨c1, c2⟩ := e10 rfl
    have g0 : o0.guard = none := by rw [ho0]
    have g1 : o1.guard = none := by rw [ho1]
    have dd0 : o0.dst = some d0 := by rw [ho0]
    have dd1 : o1.dst = some d1 := by rw [ho1]
    have hlt : d0 < a.tmps.size := by rw [R.sz]; exact hd0'
    have run0 : ∀ {v : Value} {w1 : World}, (Instr.next (.pointer (some ⟨bi, 0, none⟩)) false ty0).run P w = .ok v w1 → (execOp a.eval o0).run P w = .ok (.value v) w1 := by
     intro v w1 h
     have hev : a.eval (.tmp it) = .pointer (some ⟨bi, 0, none⟩) := by simpa [Act.eval] using hy
     rw [ho0]
     simp only [execOp, Sem.run_bind, hev, h, Result.andThen_ok, Sem.run_pure]
    have run1 : ∀ (bb : Bool) (rest : List Value) (w1 : World), (execOp (a.put o0.dst (.tuple (.bool bb :: rest).toArray)).eval o1).run P w1 = .ok (.value (.bool bb)) w1 := by
     intro bb rest w1
     have hev : (a.put (some d0) (.tuple (.bool bb :: rest).toArray)).eval (.tmp d0) = .tuple (.bool bb :: rest).toArray := by
      simp [Act.put, Act.eval, hlt]
     rw [dd0, ho1]
     simp only [execOp, Sem.run_bind, hev]
     rfl
    have fin : ∀ (M1 : Mm) (w1 : World) (bb : Bool) (rest : List Value) (σ1 : St), (Instr.next (.pointer (some ⟨bi, 0, none⟩)) false ty0).run P w = .ok (.tuple (.bool bb :: rest).toArray) w1 →
      RSt M1 σ1 (a.put (some d0) (.tuple (.bool bb :: rest).toArray)) w1 → σ1.n = σ.n → Go1 M w M1 w1 → WK P fid k { σ1 with t := up σ1.t d1 (.pv (.bool bb)) } r outs →
      wpOpsIn (wd b.roundOf) 0 P ops (fun e a' w' => e = .normal ∧ ∃ M' σ', RSt M' σ' a' w' ∧ Go1 M w M' w' ∧ WK P fid k σ' r outs) (List.range ops.size) a w := by
     intro M1 w1 bb rest σ1 hr R1 hsn hgo hk
     have R2 := R1.step (out := ⟨[], .pv (.bool bb), []⟩) (Post.same R1 rfl (.pv _ _ (.bool bb)) (by simp [AV.nms])) (d := some d1) (σ' := { σ1 with t := up σ1.t d1 (.pv (.bool bb)) }) (by simp only [St.putD, hsn, hd1])
     exact wpOps_two (P := P) hops g0 g1 (run0 hr) (run1 bb rest w1) ⟨rfl, M1, _, by rw [dd0, dd1]; simpa [wrO] using R2, hgo, hk⟩
    rcases run_next (P := P) (seen := seen.reverse) i4 e3 (by rw [c1, e4, hn]) (by rw [e4, hn]) c2 ty0 with ⟨n1, n2⟩ | ⟨i, e, w0, n1, n2, n3, n4, n5⟩
    ·refine fin M w false [] { σ with t := up σ.t d0 .undef } n2 ?_ rfl (.refl M w) ?_
     ·have := R.step (out := ⟨[], .undef, []⟩) (Post.same R (v := .tuple #[.bool false]) rfl (.undef _) (by simp [AV.nms])) (d := some d0) (σ' := { σ with t := up σ.t d0 .undef }) (by simp only [St.putD, hd0])
      simpa [wrO] using this
     ·have := h2 fun i hi => List.mem_reverse.1 (n1 i hi)
      rw [eF] at this; exact this
    ·have R0 : RSt M σ a w0 := by rcases n4 with rfl | rfl; exact R; exact R.drew
     have E0 : Go1 M w M w0 := by rcases n4 with rfl | rfl; exact .refl M w0; exact ⟨Ext.drew M w, fun _ _ => rfl⟩
     have i4' : w0.heap[bi]? = some (.mapIter (some bm) nn seen.reverse.toArray nn) := by rcases n4 with rfl | rfl; exact i4; exact i4
     have hno : ∀ c T fr, Obj.mapIter (some bm) nn seen.reverse.toArray nn ≠ .cells c T fr := by intro _ _ _ h; cases h
     have hni : lk σ.o n = some (.it m nn seen) := hi
     have hmi : (lk σ.o m).isSome := by rw [hm]; rfl
     rw [← List.reverse_cons] at n5
     have hpost := Post.writeObj (u := .tuple #[.bool true, e.key, e.val]) (ob' := .mapIter (some bm) nn (i :: seen).reverse.toArray nn) R0 i4' hno i2 (out := ⟨[], .undef, [(n, .it m nn (i :: seen))]⟩) (o := .it m nn (i :: seen)) rfl rfl (by rw [hni]; rfl)
      (.it m nn (i :: seen) bi bm hb0 i2 i3 (setObjW_same i4')) (by intro k hk; simp [AObj.nms] at hk; subst hk; exact hmi)
     refine fin M _ true [e.key, e.val] { σ with t := up σ.t d0 .undef, o := up σ.o n (.it m nn (i :: seen)) } n5 ?_ rfl (E0.trans ⟨hpost.ext, fun _ _ => rfl⟩) ?_
     ·have := R0.step hpost (d := some d0) (σ' := { σ with t := up σ.t d0 .undef }) (by simp only [St.putD, hd0])
      simpa [wrO] using this
     ·have := h1 i n2 fun h => n3 (List.mem_reverse.2 h)
      rw [eT] at this; exact this
   ·cases hc
  ·cases hc
 ·cases hc
/-! Loops over maps. -/
def runL {S R : Type} (f : Nat → S → Option (Nx S R)) : List Nat → S → Option (Nx S R)
 | [], s => some (.cont s)
 | i :: l, s => match f i s with
  | none => none
  | some (.cont s') => runL f l s'
  | some (.done r) => some (.done r)
open Classical in
noncomputable def mapL {S R : Type} (f : Nat → S → Option (Nx S R)) (n : Nat) (s : S) : Option (Nx S R) :=
 if h : ∃ q, ∀ l : List Nat, l.Perm (List.range n) → runL f l s = some q then some h.choose else none
theorem mapL_ok {S R : Type} {f : Nat → S → Option (Nx S R)} {n : Nat} {s : S} {q : Nx S R} (h : mapL f n s = some q) : ∀ l : List Nat, l.Perm (List.range n) → runL f l s = some q := by
 unfold mapL at h
 split at h
 ·rename_i hq
  cases h; exact hq.choose_spec
 ·cases h
theorem mapL_of {S R : Type} {f : Nat → S → Option (Nx S R)} {n : Nat} {s : S} {q : Nx S R} (h : ∀ l : List Nat, l.Perm (List.range n) → runL f l s = some q) : mapL f n s = some q := by
 have hq : ∃ q, ∀ l : List Nat, l.Perm (List.range n) → runL f l s = some q := ⟨q, h⟩
 have e := hq.choose_spec (List.range n) (List.Perm.refl _)
 rw [h _ (List.Perm.refl _)] at e
 unfold mapL
 rw [dif_pos hq, ← Option.some.inj e]
open Classical in
noncomputable def runAll {α : Type} (f : List Nat → Option α) : Option α := if ∀ seen, f seen = f [] then f [] else none
theorem runAll_ok {α : Type} {f : List Nat → Option α} {x : α} (h : runAll f = some x) (seen : List Nat) : f seen = some x := by
 unfold runAll at h
 split at h
 ·rename_i hf; rw [hf seen]; exact h
 ·cases h
theorem runAll_const {α : Type} {f : List Nat → Option α} {c : Option α} (h : ∀ seen, f seen = c) : runAll f = c := by
 unfold runAll
 rw [if_pos (fun seen => (h seen).trans (h []).symm), h]
theorem WK.mapLoop {fid : Fid} {S R : Type} {c : Code} {k kp : List Item} {r : AV} {outs : List AObj} (enc encT encF : S → List Nat → St) (n : Nat) (f : Nat → S → Option (Nx S R)) (E : S → Prop) (D : R → Prop)
  (head : ∀ s seen, (∀ i, i < n → i ∉ seen → WK P fid kp (encT s (i :: seen)) r outs) → ((∀ i, i < n → i ∈ seen) → WK P fid kp (encF s seen) r outs) → WK P fid (.inLoop c :: k) (enc s seen) r outs)
  (step : ∀ s seen i x, f i s = some x → (match x with | .cont s' => WK P fid (.inLoop c :: k) (enc s' (i :: seen)) r outs | .done q => D q) → WK P fid kp (encT s (i :: seen)) r outs)
  (fin : ∀ s seen, E s → WK P fid kp (encF s seen) r outs) (s : S) (q : Nx S R) (h : mapL f n s = some q) (hq : match q with | .cont s' => E s' | .done r => D r) :
  WK P fid (.inLoop c :: k) (enc s []) r outs := by
 have key : ∀ (m : Nat) (s : S) (seen l : List Nat), l.length = m → l.Nodup → (∀ i, i ∈ l ↔ i < n ∧ i ∉ seen) → (∀ l' : List Nat, l'.Perm l → runL f l' s = some q) → WK P fid (.inLoop c :: k) (enc s seen) r outs := by
  intro m
  induction m with
  | zero =>
   intro s seen l hl _ hm hr
   have : l = [] := List.eq_nil_of_length_eq_zero hl
   subst this
   have hs := hr [] (List.Perm.refl _)
   simp only [runL, Option.some.injEq] at hs
   subst hs
   refine head s seen (fun i hi hn => absurd ((hm i).2 ⟨hi, hn⟩) (by simp)) (fun _ => fin s seen hq)
  | succ m ih =>
   intro s seen l hl hnd hm hr
   refine head s seen (fun i hi hn => ?_) (fun hall => ?_)
   ·have hmem := (hm i).2 ⟨hi, hn⟩
    have hp : (i :: l.erase i).Perm l := (List.perm_cons_erase hmem).symm
    have h1 := hr _ hp
    simp only [runL] at h1
    split at h1
    ·cases h1
    ·rename_i s' hs
     refine step s seen i _ hs ?_
     refine ih s' (i :: seen) (l.erase i) ?_ (hnd.erase i) ?_ ?_
     ·rw [List.length_erase_of_mem hmem]; omega
     ·intro j
      rw [hnd.mem_erase_iff, hm j]
      simp only [List.mem_cons, not_or]
      constructor
      ·rintro ⟨a, b, c⟩; exact ⟨b, a, c⟩
      ·rintro ⟨a, b, c⟩; exact ⟨b, a, c⟩
     ·intro l' hl'
      have h2 := hr (i :: l') ((List.Perm.cons i hl').trans hp)
      simp only [runL, hs] at h2
      exact h2
    ·rename_i d hs
     cases h1
     exact step s seen i _ hs hq
   ·exfalso
    cases l with
    | nil => simp at hl
    | cons i l => exact ((hm i).1 (.head _)).2 (hall i ((hm i).1 (.head _)).1)
 refine key n s [] (List.range n) (by simp) List.nodup_range (by simp) (fun l' hl' => mapL_ok h l' hl')
end
end Go.Fx
