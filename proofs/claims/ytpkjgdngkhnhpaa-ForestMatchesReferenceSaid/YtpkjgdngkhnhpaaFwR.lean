/- Families at the end of their lives; rounds over maps, in whatever order. -/
import Derived.Test.YtpkjgdngkhnhpaaFwK
namespace Go.Fw
section
variable {P : Program} {M M' : Mm} {w : World} {σ : St} {a : Act}
theorem RSt.ffz (R : RSt M σ a w) {n f sz : Nat} {mem : List (List (List PV))} (hn : lk σ.o n = some (.fam false f sz mem)) :
  ∃ M₁, RSt M₁ { σ with o := up σ.o n (.fam true f sz mem) } a w ∧ Ext M w M₁ w ∧ M₁.β = M.β := by
 have dom : ∀ k, (lk σ.o k).isSome → (lk (up σ.o n (.fam true f sz mem)) k).isSome := by
  intro k hk; rw [lk_up]; split
  ·rfl
  ·exact hk
 let κ₁ : Nat → Cls := fun b => match M.κ b with
  | .own k => if k = n then .frozen else .own k
  | c => c
 have hk1 : ∀ b, M.κ b = .frozen → κ₁ b = .frozen := by intro b hb; simp only [κ₁, hb]
 have hk2 : ∀ b, M.κ b = .outer → κ₁ b = .outer := by intro b hb; simp only [κ₁, hb]
 have hk3 : ∀ b, M.κ b = .own n → κ₁ b = .frozen := by intro b hb; simp [κ₁, hb]
 have hk4 : ∀ b k, k ≠ n → M.κ b = .own k → κ₁ b = .own k := by intro b k hk hb; simp [κ₁, hb, hk]
 have hext : Ext M w ⟨κ₁, M.β, M.φ, M.F0⟩ w :=
  ⟨rfl, rfl, rfl, Nat.le_refl _, fun _ _ _ => rfl, fun b _ hb => hk1 b hb, fun b _ hb => hk2 b hb, fun _ c _ _ h => ⟨c, h, rfl⟩, fun _ _ _ h => h, fun _ _ _ => rfl, rfl⟩
 refine ⟨⟨κ₁, M.β, M.φ, M.F0⟩, ⟨R.sz, R.df, fun t v hv => (R.tm t v hv).mono hext (fun k _ => rfl), ?_, fun t v hv k hk => dom k (R.wt t v hv k hk), ?_⟩, hext, rfl⟩
 ·intro m o hm
  rw [lk_up] at hm
  split at hm
  ·rename_i e; subst e; cases hm
   cases R.ob n _ hn with | fam _ _ _ _ bk n1 n2 h0 h1 h2 h3 h4 h5 h6 =>
   refine .fam true f sz mem bk n1 n2 h0 h1 h2 h3 (fun i hi => ?_) h5 (fun i rows hr hs => ?_)
   ·rcases h4 i hi with h | h
    ·exact .inl h
    ·exact .inr ⟨h.1, hk3 _ h.2⟩
   ·obtain ⟨c, T, g1, g2, g3, g4⟩ := h6 i rows hr hs
    exact ⟨c, T, g1, g2, g3, fun k r j p x a1 a2 a3 => (g4 k r j p x a1 a2 a3).mono hext⟩
  ·rename_i e
   refine (R.ob m o hm).mono hext rfl (fun k _ => rfl) (fun b _ hc => ⟨?_, rfl⟩) (fun f _ _ _ _ _ _ => rfl)
   rcases hc with hc | hc
   ·rw [hc]; exact hk4 b m (fun e' => e e'.symm) hc
   ·rw [hc]; exact hk1 b hc
 ·intro m o hm k hk
  rw [lk_up] at hm
  split at hm
  ·cases hm; simp [AObj.nms] at hk
  ·exact dom k (R.wo m o hm k hk)
theorem WK.ffz {fid : FuncId × Nat} {k : List Item} {r : AV} {outs : List AObj} (n : Nat) {f sz : Nat} {mem : List (List (List PV))} (hn : lk σ.o n = some (.fam false f sz mem))
  (hk : WK P fid k { σ with o := up σ.o n (.fam true f sz mem) } r outs) : WK P fid k σ r outs := by
 intro M a w R b cs hb hbk
 obtain ⟨M₁, R₁, E, B⟩ := R.ffz hn
 obtain ⟨fr, v, M', w', h1, h2, h3, h4, h5⟩ := hk M₁ a w R₁ b cs hb hbk
 exact ⟨fr, v, M', w', h1, h2, h3, Go1.trans2 ⟨E, fun n _ => by rw [B]⟩ h4, h5⟩
inductive Tell (f sz : Nat) (mem : List (List (List PV))) : PV → PV → Prop where
 | same (p : PV) : Tell f sz mem p p
 | fh (i off len : Nat) (rows : List (List PV)) : mem[i]? = some rows → off + len ≤ rows.length → Tell f sz mem (.fh f i off len sz) (.sl (cut1 rows off len))
theorem PRel.tell {n f sz : Nat} {mem : List (List (List PV))} (ho : ORel M w n (.fam true f sz mem)) {x : Value} {p q : PV} (h : PRel M w x p) (ht : Tell f sz mem p q) : PRel M w x q := by
 cases ht with
 | same => exact h
 | fh i off len rows hm hle =>
  cases h with
  | fh0 _ _ _ _ ad c =>
   have : cut1 rows off 0 = [] := by simp [cut1]
   rw [this]; exact .sl0 ad c
  | fh _ _ _ _ _ b base c h1 h2 =>
   obtain ⟨hκ, cs, T, g1, g2, g3, g4⟩ := fam_at ho hm h1
   have hlen : (cut1 rows off len).length = len := length_cut1 _ _ _ hle
   have hrow : ∀ (k : Nat) (r : List PV), (cut1 rows off len)[k]? = some r → k < len ∧ rows[off + k]? = some r := by
    intro k r hk
    rw [getElem?_cut1] at hk
    split at hk
    ·exact ⟨‹_›, hk⟩
    ·cases hk
   have key : ∀ (k : Nat) (r : List PV) (j : Nat) (p : PV), (cut1 rows off len)[k]? = some r → r[j]? = some p → ∃ x, cs[base + off * sz + k * sz + j]? = some x ∧ PRel M w x p := by
    intro k r j p e1 e2
    obtain ⟨hk, hr⟩ := hrow k r e1
    have hj : j < sz := by have := (List.getElem?_eq_some_iff.1 e2).1; rw [g3 r (List.mem_of_getElem? hr)] at this; exact this
    have hlt := row_lt (i := off + k) (len := rows.length) (sz := sz) (by omega) hj
    have e : base + off * sz + k * sz + j = base + (off + k) * sz + j := by rw [Nat.add_mul]; omega
    rw [e]
    refine ⟨cs[base + (off + k) * sz + j]'(by omega), by simp, ?_⟩
    exact g4 (off + k) r j p _ hr e2 (by simp)
   refine .sl b (base + off * sz) sz len c _ (fun k j => cs.getD (base + off * sz + k * sz + j) undef) hlen h2 (fun k r e => g3 r (List.mem_of_getElem? (hrow k r e).2)) ?_ ?_
   ·intro k r j p e1 e2
    obtain ⟨x, hx, _⟩ := key k r j p e1 e2
    refine ⟨hκ, ?_⟩
    rw [cell_block g1, hx]; simp [Array.getD_eq_getD_getElem?, hx]
   ·intro k r j p e1 e2
    obtain ⟨x, hx, hp⟩ := key k r j p e1 e2
    simpa [Array.getD_eq_getD_getElem?, hx] using hp
structure TellR (f sz : Nat) (mem : List (List (List PV))) (rows rows' : List (List PV)) : Prop where
 len : rows.length = rows'.length
 row : ∀ (i : Nat) (r r' : List PV), rows[i]? = some r → rows'[i]? = some r' → r.length = r'.length
 cell : ∀ (i : Nat) (r r' : List PV) (j : Nat) (p p' : PV), rows[i]? = some r → rows'[i]? = some r' → r[j]? = some p → r'[j]? = some p' → Tell f sz mem p p'
inductive TellO (f sz : Nat) (mem : List (List (List PV))) : AObj → AObj → Prop where
 | sl (fz : Bool) (s : Nat) (rows rows' : List (List PV)) : TellR f sz mem rows rows' → TellO f sz mem (.sl fz s rows) (.sl fz s rows')
 | mp (fz g rg : Bool) (ks ks' : List PV) (rows rows' : List (List PV)) : ks = ks' → TellR f sz mem rows rows' → TellO f sz mem (.mp fz g rg ks rows) (.mp fz g rg ks' rows')
theorem get_of_len {α β : Type} {l : List α} {m : List β} (h : l.length = m.length) {i : Nat} {y : β} (e : m[i]? = some y) : ∃ x, l[i]? = some x := by
 have := (List.getElem?_eq_some_iff.1 e).1
 exact ⟨l[i]'(by omega), by simp⟩
theorem ORel.tell {n m f sz : Nat} {mem : List (List (List PV))} (ho : ORel M w n (.fam true f sz mem)) {o o' : AObj} (h : ORel M w m o) (ht : TellO f sz mem o o') : ORel M w m o' := by
 cases ht with
 | sl fz s rows rows' hR =>
  cases h with
  | sl0 _ _ e1 e2 =>
   have : rows' = [] := List.eq_nil_of_length_eq_zero hR.len.symm
   subst this; exact .sl0 fz s e1 e2
  | sl _ _ _ b base c T h0 e1 e2 e3 e4 e5 e6 =>
   refine .sl fz s rows' b base c T h0 e1 e2 e3 (by rw [← hR.len]; exact e4) ?_ ?_
   ·intro r hr
    obtain ⟨i, hi⟩ := List.getElem?_of_mem hr
    obtain ⟨r0, h0⟩ := get_of_len hR.len hi
    rw [← hR.row i r0 r h0 hi]
    exact e5 r0 (List.mem_of_getElem? h0)
   ·intro i r j p x hi hj hx
    obtain ⟨r0, h0⟩ := get_of_len hR.len hi
    obtain ⟨p0, hp0⟩ := get_of_len (hR.row i r0 r h0 hi) hj
    exact (e6 i r0 j p0 x h0 hp0 hx).tell ho (hR.cell i r0 r j p0 p h0 hi hp0 hj)
 | mp fz g rg ks ks' rows rows' hks hR =>
  subst hks
  cases h with
  | mp _ _ _ _ _ b es clock e1 e2 e3 e4 e5 e6 e7 e8 e9 e10 =>
   refine .mp fz g rg ks rows' b es clock e1 e2 e3 e4 (by rw [← hR.len]; exact e5) e6 ?_ e8 ?_ e10
   ·intro i e r he hr
    obtain ⟨r0, h0⟩ := get_of_len hR.len hr
    rw [← hR.row i r0 r h0 hr]
    exact e7 i e r0 he h0
   ·intro i e r j x p he hr hx hp
    obtain ⟨r0, h0⟩ := get_of_len hR.len hr
    obtain ⟨p0, hp0⟩ := get_of_len (hR.row i r0 r h0 hr) hp
    exact (e9 i e r0 j x p0 he h0 hx hp0).tell ho (hR.cell i r0 r j p0 p h0 hr hp0 hp)
theorem WK.tell {fid : FuncId × Nat} {k : List Item} {r : AV} {outs : List AObj} (n m : Nat) (o' : AObj) {f sz : Nat} {mem : List (List (List PV))} {o : AObj} (hn : lk σ.o n = some (.fam true f sz mem)) (hm : lk σ.o m = some o) (ht : TellO f sz mem o o')
  (hk : WK P fid k { σ with o := up σ.o m o' } r outs) : WK P fid k σ r outs := by
 have hon : o'.nms = [] := by cases ht <;> rfl
 intro M a w R b cs hb hbk
 refine hk M a w ⟨R.sz, R.df, R.tm, ?_, ?_, ?_⟩ b cs hb hbk
 ·intro q p hq
  rw [lk_up] at hq
  split at hq
  ·rename_i e; subst e; cases hq; exact ORel.tell (R.ob n _ hn) (R.ob m o hm) ht
  ·exact R.ob q p hq
 ·intro t v hv j hj
  rw [lk_up]; split
  ·rfl
  ·exact R.wt t v hv j hj
 ·intro q p hq j hj
  rw [lk_up] at hq ⊢
  split at hq
  ·cases hq; rw [hon] at hj; cases hj
  ·split
   ·rfl
   ·exact R.wo q p hq j hj
/-! Maps, round by round. -/
theorem RSt.drew (R : RSt M σ a w) : RSt M σ a w.drew :=
 ⟨R.sz, R.df, fun t v h => (R.tm t v h).mono (Ext.drew M w) fun _ _ => rfl, fun n o h => (R.ob n o h).mono (Ext.drew M w) rfl (fun _ _ => rfl) (fun _ _ _ => ⟨rfl, rfl⟩), R.wt, R.wo⟩
theorem run_next {b bm nn : Nat} {seen : List Nat} {es : Array MapEntry} {clock : Nat} (hi : w.heap[b]? = some (.mapIter (some bm) nn seen.toArray nn)) (hm : w.heap[bm]? = some (.map es clock)) (hc : clock = nn) (hs : es.size = nn)
  (hb : ∀ (i : Nat) (e : MapEntry), es[i]? = some e → e.born = i) (ty : TypeId) :
  ((∀ i, i < nn → i ∈ seen) ∧ (Instr.next (.pointer (some ⟨b, 0, none⟩)) false ty).run P w = .ok (.tuple #[.bool false]) w) ∨
  ∃ i e w0, es[i]? = some e ∧ i < nn ∧ i ∉ seen ∧ (w0 = w ∨ w0 = w.drew) ∧
   (Instr.next (.pointer (some ⟨b, 0, none⟩)) false ty).run P w = .ok (.tuple #[.bool true, e.key, e.val]) (setObjW w0 b (.mapIter (some bm) nn (seen ++ [i]).toArray nn)) := by
 have hgo : ∀ w0 : World, w0.heap = w.heap → (getObj b).run P w0 = .ok (.mapIter (some bm) nn seen.toArray nn) w0 := by intro w0 h; simp [getObj, Sem.run, h, hi]
 have hgm : (getObj bm).run P w = .ok (.map es clock) w := MapKept.run_getObj_map hm
 have hnolast : (!seen.toArray.isEmpty && !es.isEmpty && es.all (·.born ≥ nn)) = false := by
  by_cases he : es.size = 0
  ·have : es.isEmpty = true := by simp [Array.isEmpty, he]
   simp [this]
  ·have : es.all (·.born ≥ nn) = false := by
    rw [Array.all_eq_false]
    refine ⟨0, by omega, ?_⟩
    have := hb 0 es[0] (by simp [Nat.pos_of_ne_zero he])
    simp [this]; omega
   simp [this]
 have hborn : ∀ e ∈ es, e.born < nn := by
  intro e he
  obtain ⟨i, hi, rfl⟩ := Array.mem_iff_getElem.1 he
  rw [hb i es[i] (by simp [hi])]; omega
 have hold : (es.filter fun e => !seen.toArray.contains e.born).filter (·.born < nn) = es.filter fun e => !seen.toArray.contains e.born := by
  apply Array.filter_eq_self.2
  intro e he
  have := hborn e (Array.mem_of_mem_filter he)
  simpa using this
 have hnew : (es.filter fun e => !seen.toArray.contains e.born).filter (·.born ≥ nn) = #[] := by
  apply Array.filter_eq_empty_iff.2
  intro e he
  have := hborn e (Array.mem_of_mem_filter he)
  simpa using this
 by_cases hl : (es.filter fun e => !seen.toArray.contains e.born) = #[]
 ·left
  refine ⟨?_, ?_⟩
  ·intro i hi'
   have hei : es[i]? = some (es[i]'(by omega)) := by simp
   rw [Array.filter_eq_empty_iff] at hl
   have := hl _ (Array.mem_of_getElem? hei)
   rw [hb i _ hei] at this
   simpa using this
  ·unfold Instr.next
   simp only [Sem.run_bind, hgo w rfl, Result.andThen_ok, hgm, hnolast, Bool.false_eq_true, if_false, hold, hnew, hl]
   simp [Sem.run, Question.forced]
 ·right
  generalize hL : (es.filter fun e => !seen.toArray.contains e.born) = L at hl hold hnew
  have hne : L.isEmpty = false := by simpa [Array.isEmpty_iff] using hl
  have hLs : 0 < L.size := by
   rcases Nat.eq_zero_or_pos L.size with h | h
   ·exact absurd (Array.eq_empty_of_size_eq_zero h) hl
   ·exact h
  have hcand : ((if L.isEmpty then #[none] else #[]) ++ (L ++ #[]).map some : Array (Option MapEntry)) = L.map some := by simp [hne]
  have hpick : ∀ (k : Nat) (w0 : World), k < L.size → w0.heap = w.heap → ∃ i e, es[i]? = some e ∧ i < nn ∧ i ∉ seen ∧
    (match (L.map some : Array (Option MapEntry))[k]? with
     | some (some e) => do
      setObj b (.mapIter (some bm) nn (seen.toArray.push e.born) clock)
      pure (.tuple #[.bool true, e.key, e.val])
     | some none => pure (.tuple #[.bool false])
     | none => stuck "Next: no such candidate" : Sem Value).run P w0 = .ok (.tuple #[.bool true, e.key, e.val]) (setObjW w0 b (.mapIter (some bm) nn (seen ++ [i]).toArray nn)) := by
   intro k w0 hk hw
   have hmem : L[k] ∈ es.filter fun e => !seen.toArray.contains e.born := by rw [hL]; exact Array.getElem_mem hk
   rw [Array.mem_filter] at hmem
   obtain ⟨m1, m2⟩ := hmem
   obtain ⟨i, hil, hie⟩ := Array.mem_iff_getElem.1 m1
   have hbi := hb i es[i] (by simp [hil])
   have hb' : L[k].born = i := by rw [← hie]; exact hbi
   refine ⟨i, L[k], by rw [← hie]; simp [hil], by omega, ?_, ?_⟩
   ·rw [hb'] at m2; simpa using m2
   ·have : (L.map some : Array (Option MapEntry))[k]? = some (some L[k]) := by simp [hk]
    rw [this]
    have hset : (setObj b (.mapIter (some bm) nn (seen.toArray.push i) nn)).run P w0 = .ok () (setObjW w0 b (.mapIter (some bm) nn (seen ++ [i]).toArray nn)) := by
     simp [setObj, Sem.run, hw, hi, setObjW]
    simp only [Sem.run_bind, hb', hc, hset, Result.andThen_ok, Sem.run_pure]
  have hrun : ∀ k w0, (choose (.mapNext L.size)).run P w = .ok k w0 → w0.heap = w.heap → k < L.size → ∃ i e, es[i]? = some e ∧ i < nn ∧ i ∉ seen ∧
    (Instr.next (.pointer (some ⟨b, 0, none⟩)) false ty).run P w = .ok (.tuple #[.bool true, e.key, e.val]) (setObjW w0 b (.mapIter (some bm) nn (seen ++ [i]).toArray nn)) := by
   intro k w0 hch hw hk
   obtain ⟨i, e, f1, f2, f3, f4⟩ := hpick k w0 hk hw
   refine ⟨i, e, f1, f2, f3, ?_⟩
   unfold Instr.next
   simp only [Sem.run_bind, hgo w rfl, Result.andThen_ok, hgm, hnolast, Bool.false_eq_true, if_false, hL, hold, hnew, hcand, Array.size_map, hch]
   exact f4
  by_cases hf : L.size ≤ 1
  ·obtain ⟨i, e, f1, f2, f3, f4⟩ := hrun 0 w (by simp [Question.forced, hf]) rfl hLs
   exact ⟨i, e, w, f1, f2, f3, .inl rfl, f4⟩
  ·obtain ⟨i, e, f1, f2, f3, f4⟩ := hrun ((Question.mapNext L.size).cut (w.tape w.drawn (.mapNext L.size))) w.drew (by
    rw [run_choose_drew]; rw [if_neg (by simp [Question.forced]; omega)]) rfl (by simp only [Question.cut]; exact Nat.mod_lt _ hLs)
   exact ⟨i, e, w.drew, f1, f2, f3, .inr rfl, f4⟩
theorem evK_sound2 {fid : FuncId × Nat} {r : AV} {outs : List AObj} {f : Nat} {an : List An} {k : List Item} {ps : List Prop} {k' : List Item} {σ' : St}
  (h : evK P (Spec P) f an k σ = some (ps, k', σ')) (hp : All ps) (hk : WK P fid k' σ' r outs) : WK P fid k σ r outs := evK_sound h hp hk
theorem WK.eq {fid : FuncId × Nat} {r : AV} {outs : List AObj} {k : List Item} {σ' : St} (h : σ = σ') (hk : WK P fid k σ' r outs) : WK P fid k σ r outs := h ▸ hk
def nextOf : Code → Option (Tmp × Tmp × Tmp)
 | .region _ ops false => match ops.toList with
  | [⟨some d0, .next (.tmp it) false, _, _, _, none⟩, ⟨some d1, .extract (.tmp e) 0, _, _, _, none⟩] => match Nat.beq d0 e with
   | true => some (it, d0, d1)
   | false => none
  | _ => none
 | _ => none
theorem wpOps_two {ops : Array Oper} {o0 o1 : Oper} (hops : ops = #[o0, o1]) (hg0 : o0.guard = none) (hg1 : o1.guard = none) {v0 v1 : Value} {w1 w2 : World} {Q : Exit → Act → World → Prop}
  (r0 : (execOp a.eval o0).run P w = .ok (.value v0) w1) (r1 : (execOp (a.put o0.dst v0).eval o1).run P w1 = .ok (.value v1) w2) (hQ : Q .normal ((a.put o0.dst v0).put o1.dst v1) w2) :
  wpOps P ops Q (List.range ops.size) a w := by
 subst hops
 have e : List.range (#[o0, o1] : Array Oper).size = [0, 1] := rfl
 rw [e]
 have e0 : (#[o0, o1] : Array Oper)[0]? = some o0 := rfl
 have e1 : (#[o0, o1] : Array Oper)[1]? = some o1 := rfl
 have wt : ∀ (o : Oper) (y : Nat → Option Bool), o.guard = none → Region.wanted o y = true := by intro o y h; unfold Region.wanted; rw [h]
 simp only [wpOps, e0, e1, wt o0 _ hg0, if_true]
 refine .inl (Does.value (R := fun v w' => v = v0 ∧ w' = w1) r0 ⟨rfl, rfl⟩ _ _ ?_)
 rintro v w' ⟨rfl, rfl⟩
 simp only [wt o1 _ hg1, if_true]
 refine .inl (Does.value (R := fun v w' => v = v1 ∧ w' = w2) r1 ⟨rfl, rfl⟩ _ _ ?_)
 rintro v w' ⟨rfl, rfl⟩
 exact hQ
theorem WK.next {fid : FuncId × Nat} {k : List Item} {r : AV} {outs : List AObj} {c : Code} {it d0 d1 : Tmp} (hc : nextOf c = some (it, d0, d1)) (hd : (Nat.blt d0 σ.n && Nat.blt d1 σ.n) = true)
  {n m nn : Nat} {seen : List Nat} {fz g : Bool} {ks : List PV} {rows : List (List PV)} (ht : lk σ.t it = some (.ref n 0 0 0)) (hi : lk σ.o n = some (.it m nn seen)) (hm : lk σ.o m = some (.mp fz g true ks rows)) (hn : ks.length = nn)
  (σT : Nat → St) (σF : St) (eT : ∀ i, σT i = { σ with t := up (up σ.t d0 .undef) d1 (.pv (.bool true)), o := up σ.o n (.it m nn (seen ++ [i])) })
  (eF : σF = { σ with t := up (up σ.t d0 .undef) d1 (.pv (.bool false)) })
  (h1 : ∀ i, i < nn → i ∉ seen → WK P fid k (σT i) r outs) (h2 : (∀ i, i < nn → i ∈ seen) → WK P fid k σF r outs) : WK P fid (.code c :: k) σ r outs := by
 unfold nextOf at hc
 split at hc
 ·rename_i id ops
  split at hc
  ·rename_i d0' it' ty0 pos0 af0 d1' e ty1 pos1 af1 hops
   split at hc
   ·rename_i he
    have he := nbeq_eq he
    subst he
    cases hc
    simp only [Bool.and_eq_true] at hd
    obtain ⟨hd0, hd1⟩ := hd
    have hd0' : d0 < σ.n := by rw [Nat.blt_eq] at hd0; exact hd0
    intro M a w R b cs hb hbk
    obtain ⟨o0, ho0⟩ : ∃ o0 : Oper, o0 = ⟨some d0, .next (.tmp it) false, ty0, pos0, af0, none⟩ := ⟨_, rfl⟩
    obtain ⟨o1, ho1⟩ : ∃ o1 : Oper, o1 = ⟨some d1, .extract (.tmp d0) 0, ty1, pos1, af1, none⟩ := ⟨_, rfl⟩
    have hops : ops = #[o0, o1] := by apply Array.toList_inj.1; rw [hops, ho0, ho1]
    have hit := R.tm it _ ht
    generalize hy : a.tmps.getD it undef = y at hit
    cases hit with | ref _ _ _ _ bi base hb0 =>
    have hI := R.ob n _ hi
    have hm' := R.ob m _ hm
    cases hI with | it _ _ _ b2 bm i1 i2 i3 i4 =>
    rw [hb0] at i1; cases i1
    cases hm' with | mp _ _ _ _ _ bm' es clock e1 e2 e3 e4 e5 e6 e7 e8 e9 e10 =>
    rw [i3] at e1; cases e1
    obtain ⟨c1, c2⟩ := e10 rfl
    have g0 : o0.guard = none := by rw [ho0]
    have g1 : o1.guard = none := by rw [ho1]
    have dd0 : o0.dst = some d0 := by rw [ho0]
    have dd1 : o1.dst = some d1 := by rw [ho1]
    have hlt : d0 < a.tmps.size := by rw [R.sz]; exact hd0'
    have run0 : ∀ {v : Value} {w1 : World}, (Instr.next (.pointer (some ⟨bi, 0, none⟩)) false ty0).run P w = .ok v w1 → (execOp a.eval o0).run P w = .ok (.value v) w1 := by
     intro v w1 h
     have hev : a.eval (.tmp it) = .pointer (some ⟨bi, 0, none⟩) := by simpa [Act.eval] using hy
     rw [ho0]
     simp only [execOp, Sem.run_bind, hev, h, Result.andThen_ok, Sem.run_pure]
    have run1 : ∀ (bb : Bool) (rest : List Value) (w1 : World), (execOp (a.put o0.dst (.tuple (.bool bb :: rest).toArray)).eval o1).run P w1 = .ok (.value (.bool bb)) w1 := by
     intro bb rest w1
     have hev : (a.put (some d0) (.tuple (.bool bb :: rest).toArray)).eval (.tmp d0) = .tuple (.bool bb :: rest).toArray := by
      simp [Act.put, Act.eval, hlt]
     rw [dd0, ho1]
     simp only [execOp, Sem.run_bind, hev]
     rfl
    have fin : ∀ (M1 : Mm) (w1 : World) (bb : Bool) (rest : List Value) (σ1 : St), (Instr.next (.pointer (some ⟨bi, 0, none⟩)) false ty0).run P w = .ok (.tuple (.bool bb :: rest).toArray) w1 →
      RSt M1 σ1 (a.put (some d0) (.tuple (.bool bb :: rest).toArray)) w1 → σ1.n = σ.n → Go1 M w M1 w1 → WK P fid k { σ1 with t := up σ1.t d1 (.pv (.bool bb)) } r outs →
      ∃ fr v M'' w'', Steps P (lone (b.at a (.code (.region id ops false) :: k)) cs w) (lone fr cs w'') ∧ fr.leaving P w'' (.returned v) ∧ fr.fn = fid.1 ∧ Go2 fid.2 M w M'' w'' ∧ VRel M'' w'' v r ∧
       (∀ (k : Nat) (o : AObj), outs[k]? = some o → ORel M'' w'' (2 * k) o) ∧ (∀ n ∈ r.nms, evenBelow outs.length n) ∧ (∀ o ∈ outs, ∀ n ∈ o.nms, evenBelow outs.length n) := by
     intro M1 w1 bb rest σ1 hr R1 hsn hgo hk
     have R2 := R1.step (out := ⟨[], .pv (.bool bb), []⟩) (Post.same R1 rfl (.pv _ _ (.bool bb)) (by simp [AV.nms])) (d := some d1) (σ' := { σ1 with t := up σ1.t d1 (.pv (.bool bb)) }) (by simp only [St.putD, hsn, hd1])
     have hw := wpOps_two (P := P) (a := a) (w := w) (Q := fun e a' w' => e = .normal ∧ a' = ((a.put o0.dst (.tuple (.bool bb :: rest).toArray)).put o1.dst (.bool bb)) ∧ w' = w1) hops g0 g1 (run0 hr) (run1 bb rest w1) ⟨rfl, rfl, rfl⟩
     obtain ⟨e, a', w', ⟨rfl, rfl, rfl⟩, harr⟩ := wp_ops _ a w hw b k cs
     rw [dd0, dd1] at harr
     obtain ⟨fr, v, M3, w3, q1, q2, q3, q4, q5⟩ := hk M1 _ w' (by simpa [wrO] using R2) b cs hb hbk
     exact ⟨fr, v, M3, w3, (Steps.one step_region).trans (Steps.trans harr q1), q2, q3, hgo.trans2 q4, q5⟩
    rcases run_next (P := P) i4 e3 (by rw [c1, e4, hn]) (by rw [e4, hn]) c2 ty0 with ⟨n1, n2⟩ | ⟨i, e, w0, n1, n2, n3, n4, n5⟩
    ·refine fin M w false [] { σ with t := up σ.t d0 .undef } n2 ?_ rfl (.refl M w) ?_
     ·have := R.step (out := ⟨[], .undef, []⟩) (Post.same R (v := .tuple #[.bool false]) rfl (.undef _) (by simp [AV.nms])) (d := some d0) (σ' := { σ with t := up σ.t d0 .undef }) (by simp only [St.putD, hd0])
      simpa [wrO] using this
     ·have := h2 n1
      rw [eF] at this; exact this
    ·have R0 : RSt M σ a w0 := by rcases n4 with rfl | rfl; exact R; exact R.drew
     have E0 : Go1 M w M w0 := by rcases n4 with rfl | rfl; exact .refl M w0; exact ⟨Ext.drew M w, fun _ _ => rfl⟩
     have i4' : w0.heap[bi]? = some (.mapIter (some bm) nn seen.toArray nn) := by rcases n4 with rfl | rfl; exact i4; exact i4
     have hno : ∀ c T fr, Obj.mapIter (some bm) nn seen.toArray nn ≠ .cells c T fr := by intro _ _ _ h; cases h
     have hni : lk σ.o n = some (.it m nn seen) := hi
     have hmi : (lk σ.o m).isSome := by rw [hm]; rfl
     have hpost := Post.writeObj (u := .tuple #[.bool true, e.key, e.val]) (ob' := .mapIter (some bm) nn (seen ++ [i]).toArray nn) R0 i4' hno i2 (out := ⟨[], .undef, [(n, .it m nn (seen ++ [i]))]⟩) (o := .it m nn (seen ++ [i])) rfl rfl (by rw [hni]; rfl)
      (.it m nn (seen ++ [i]) bi bm hb0 i2 i3 (setObjW_same i4')) (by intro k hk; simp [AObj.nms] at hk; subst hk; exact hmi)
     refine fin M _ true [e.key, e.val] { σ with t := up σ.t d0 .undef, o := up σ.o n (.it m nn (seen ++ [i])) } n5 ?_ rfl (E0.trans ⟨hpost.ext, fun _ _ => rfl⟩) ?_
     ·have := R0.step hpost (d := some d0) (σ' := { σ with t := up σ.t d0 .undef }) (by simp only [St.putD, hd0])
      simpa [wrO] using this
     ·have := h1 i n2 n3
      rw [eT] at this; exact this
   ·cases hc
  ·cases hc
 ·cases hc
/-! Loops over maps. -/
def runL {S R : Type} (f : Nat → S → Option (Nx S R)) : List Nat → S → Option (Nx S R)
 | [], s => some (.cont s)
 | i :: l, s => match f i s with
  | none => none
  | some (.cont s') => runL f l s'
  | some (.done r) => some (.done r)
open Classical in
noncomputable def mapL {S R : Type} (f : Nat → S → Option (Nx S R)) (n : Nat) (s : S) : Option (Nx S R) :=
 if h : ∃ q, ∀ l : List Nat, l.Perm (List.range n) → runL f l s = some q then some h.choose else none
theorem mapL_ok {S R : Type} {f : Nat → S → Option (Nx S R)} {n : Nat} {s : S} {q : Nx S R} (h : mapL f n s = some q) : ∀ l : List Nat, l.Perm (List.range n) → runL f l s = some q := by
 unfold mapL at h
 split at h
 ·rename_i hq
  cases h; exact hq.choose_spec
 ·cases h
theorem mapL_of {S R : Type} {f : Nat → S → Option (Nx S R)} {n : Nat} {s : S} {q : Nx S R} (h : ∀ l : List Nat, l.Perm (List.range n) → runL f l s = some q) : mapL f n s = some q := by
 have hq : ∃ q, ∀ l : List Nat, l.Perm (List.range n) → runL f l s = some q := ⟨q, h⟩
 have e := hq.choose_spec (List.range n) (List.Perm.refl _)
 rw [h _ (List.Perm.refl _)] at e
 unfold mapL
 rw [dif_pos hq, ← Option.some.inj e]
theorem WK.mapLoop {fid : FuncId × Nat} {S R : Type} {c : Code} {k kp : List Item} {r : AV} {outs : List AObj} (enc encT encF : S → List Nat → St) (n : Nat) (f : Nat → S → Option (Nx S R)) (E : S → Prop) (D : R → Prop)
  (head : ∀ s seen, (∀ i, i < n → i ∉ seen → WK P fid kp (encT s (seen ++ [i])) r outs) → ((∀ i, i < n → i ∈ seen) → WK P fid kp (encF s seen) r outs) → WK P fid (.inLoop c :: k) (enc s seen) r outs)
  (step : ∀ s seen i x, f i s = some x → (match x with | .cont s' => WK P fid (.inLoop c :: k) (enc s' (seen ++ [i])) r outs | .done q => D q) → WK P fid kp (encT s (seen ++ [i])) r outs)
  (fin : ∀ s seen, E s → WK P fid kp (encF s seen) r outs) (s : S) (q : Nx S R) (h : mapL f n s = some q) (hq : match q with | .cont s' => E s' | .done r => D r) :
  WK P fid (.inLoop c :: k) (enc s []) r outs := by
 have key : ∀ (m : Nat) (s : S) (seen l : List Nat), l.length = m → l.Nodup → (∀ i, i ∈ l ↔ i < n ∧ i ∉ seen) → (∀ l' : List Nat, l'.Perm l → runL f l' s = some q) → WK P fid (.inLoop c :: k) (enc s seen) r outs := by
  intro m
  induction m with
  | zero =>
   intro s seen l hl _ hm hr
   have : l = [] := List.eq_nil_of_length_eq_zero hl
   subst this
   have hs := hr [] (List.Perm.refl _)
   simp only [runL, Option.some.injEq] at hs
   subst hs
   refine head s seen (fun i hi hn => absurd ((hm i).2 ⟨hi, hn⟩) (by simp)) (fun _ => fin s seen hq)
  | succ m ih =>
   intro s seen l hl hnd hm hr
   refine head s seen (fun i hi hn => ?_) (fun hall => ?_)
   ·have hmem := (hm i).2 ⟨hi, hn⟩
    have hp : (i :: l.erase i).Perm l := (List.perm_cons_erase hmem).symm
    have h1 := hr _ hp
    simp only [runL] at h1
    split at h1
    ·cases h1
    ·rename_i s' hs
     refine step s seen i _ hs ?_
     refine ih s' (seen ++ [i]) (l.erase i) ?_ (hnd.erase i) ?_ ?_
     ·rw [List.length_erase_of_mem hmem]; omega
     ·intro j
      rw [hnd.mem_erase_iff, hm j]
      simp only [List.mem_append, List.mem_singleton, not_or]
      constructor
      ·rintro ⟨a, b, c⟩; exact ⟨b, c, a⟩
      ·rintro ⟨a, b, c⟩; exact ⟨c, a, b⟩
     ·intro l' hl'
      have h2 := hr (i :: l') ((List.Perm.cons i hl').trans hp)
      simp only [runL, hs] at h2
      exact h2
    ·rename_i d hs
     cases h1
     exact step s seen i _ hs hq
   ·exfalso
    cases l with
    | nil => simp at hl
    | cons i l => exact ((hm i).1 (.head _)).2 (hall i ((hm i).1 (.head _)).1)
 refine key n s [] (List.range n) (by simp) List.nodup_range (by simp) (fun l' hl' => mapL_ok h l' hl')
end
end Go.Fw
