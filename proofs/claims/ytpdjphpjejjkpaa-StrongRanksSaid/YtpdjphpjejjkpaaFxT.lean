/- Families: their births, and the ends of their lives. -/
import Derived.Test.YtpdjphpjejjkpaaFxK
namespace Go.Fx
section
variable {P : Program} {M M' : Mm} {w : World} {σ : St} {a : Act}
theorem RSt.ffz (R : RSt M σ a w) {n f sz : Nat} {mem : List (List (List PV))} (hn : lk σ.o n = some (.fam false f sz mem)) :
  ∃ M₁, RSt M₁ { σ with o := up σ.o n (.fam true f sz mem) } a w ∧ Ext M w M₁ w ∧ M₁.β = M.β := by
 have dom : ∀ k, (lk σ.o k).isSome → (lk (up σ.o n (.fam true f sz mem)) k).isSome := by
  intro k hk; rw [lk_up]; split
  ·rfl
  ·exact hk
 let κ₁ : Nat → Cls := fun b => match M.κ b with
  | .own k => if k = n then .frozen else .own k
  | c => c
 have hk1 : ∀ b, M.κ b = .frozen → κ₁ b = .frozen := by intro b hb; simp only [κ₁, hb]
 have hk2 : ∀ b, M.κ b = .outer → κ₁ b = .outer := by intro b hb; simp only [κ₁, hb]
 have hk3 : ∀ b, M.κ b = .own n → κ₁ b = .frozen := by intro b hb; simp [κ₁, hb]
 have hk4 : ∀ b k, k ≠ n → M.κ b = .own k → κ₁ b = .own k := by intro b k hk hb; simp [κ₁, hb, hk]
 have hext : Ext M w ⟨κ₁, M.β, M.φ, M.F0⟩ w :=
  ⟨rfl, rfl, rfl, Nat.le_refl _, fun _ _ _ => rfl, fun b _ hb => hk1 b hb, fun b _ hb => hk2 b hb, fun _ c _ _ h => ⟨c, h, rfl⟩, fun _ _ _ h => h, fun _ _ _ => rfl, rfl⟩
 refine ⟨⟨κ₁, M.β, M.φ, M.F0⟩, ⟨R.sz, R.df, fun t v hv => (R.tm t v hv).mono hext (fun k _ => rfl), ?_, fun t v hv k hk => dom k (R.wt t v hv k hk), ?_⟩, hext, rfl⟩
 ·intro m o hm
  rw [lk_up] at hm
  split at hm
  ·rename_i e; subst e; cases hm
   cases R.ob n _ hn with | fam _ _ _ _ bk n1 n2 h0 h1 h2 h3 h4 h5 h6 =>
   refine .fam true f sz mem bk n1 n2 h0 h1 h2 h3 (fun i hi => ?_) h5 (fun i rows hr hs => ?_)
   ·rcases h4 i hi with h | h
    ·exact .inl h
    ·exact .inr ⟨h.1, hk3 _ h.2⟩
   ·obtain ⟨c, T, g1, g2, g3, g4⟩ := h6 i rows hr hs
    exact ⟨c, T, g1, g2, g3, fun k r j p x a1 a2 a3 => (g4 k r j p x a1 a2 a3).mono hext⟩
  ·rename_i e
   refine (R.ob m o hm).mono hext rfl (fun k _ => rfl) (fun b _ hc => ⟨?_, rfl⟩) (fun f _ _ _ _ _ _ => rfl)
   rcases hc with hc | hc
   ·rw [hc]; exact hk4 b m (fun e' => e e'.symm) hc
   ·rw [hc]; exact hk1 b hc
 ·intro m o hm k hk
  rw [lk_up] at hm
  split at hm
  ·cases hm; simp [AObj.nms] at hk
  ·exact dom k (R.wo m o hm k hk)
theorem WK.ffz {fid : Fid} {k : List Item} {r : AV} {outs : List AObj} (n : Nat) {f sz : Nat} {mem : List (List (List PV))} (hn : lk σ.o n = some (.fam false f sz mem))
  (hk : WK P fid k { σ with o := up σ.o n (.fam true f sz mem) } r outs) : WK P fid k σ r outs := by
 intro M a w R b cs hb
 obtain ⟨M₁, R₁, E, B⟩ := R.ffz hn
 have g : Go1 M w M₁ w := ⟨E, fun n _ => by rw [B]⟩
 obtain ⟨v, M', w', h1, h4, h5⟩ := hk M₁ a w R₁ b cs (hb.mono g)
 exact ⟨v, M', w', h1, g.trans2 h4, h5⟩
inductive Tell (f sz : Nat) (mem : List (List (List PV))) : PV → PV → Prop where
 | same (p : PV) : Tell f sz mem p p
 | fh (i off len : Nat) (rows : List (List PV)) : mem[i]? = some rows → off + len ≤ rows.length → Tell f sz mem (.fh f i off len sz) (.sl (cut1 rows off len))
theorem PRel.tell {n f sz : Nat} {mem : List (List (List PV))} (ho : ORel M w n (.fam true f sz mem)) {x : Value} {p q : PV} (h : PRel M w x p) (ht : Tell f sz mem p q) : PRel M w x q := by
 cases ht with
 | same => exact h
 | fh i off len rows hm hle =>
  cases h with
  | fh0 _ _ _ _ ad c =>
   have : cut1 rows off 0 = [] := by simp [cut1]
   rw [this]; exact .sl0 ad c
  | fh _ _ _ _ _ b base c h1 h2 =>
   obtain ⟨hκ, cs, T, g1, g2, g3, g4⟩ := fam_at ho hm h1
   have hlen : (cut1 rows off len).length = len := length_cut1 _ _ _ hle
   have hrow : ∀ (k : Nat) (r : List PV), (cut1 rows off len)[k]? = some r → k < len ∧ rows[off + k]? = some r := by
    intro k r hk
    rw [getElem?_cut1] at hk
    split at hk
    ·exact ⟨‹_›, hk⟩
    ·cases hk
   have key : ∀ (k : Nat) (r : List PV) (j : Nat) (p : PV), (cut1 rows off len)[k]? = some r → r[j]? = some p → ∃ x, cs[base + off * sz + k * sz + j]? = some x ∧ PRel M w x p := by
    intro k r j p e1 e2
    obtain ⟨hk, hr⟩ := hrow k r e1
    have hj : j < sz := by have := (List.getElem?_eq_some_iff.1 e2).1; rw [g3 r (List.mem_of_getElem? hr)] at this; exact this
    have hlt := row_lt (i := off + k) (len := rows.length) (sz := sz) (by omega) hj
    have e : base + off * sz + k * sz + j = base + (off + k) * sz + j := by rw [Nat.add_mul]; omega
    rw [e]
    refine ⟨cs[base + (off + k) * sz + j]'(by omega), by simp, ?_⟩
    exact g4 (off + k) r j p _ hr e2 (by simp)
   refine .sl b (base + off * sz) sz len c _ (fun k j => cs.getD (base + off * sz + k * sz + j) undef) hlen h2 (fun k r e => g3 r (List.mem_of_getElem? (hrow k r e).2)) ?_ ?_
   ·intro k r j p e1 e2
    obtain ⟨x, hx, _⟩ := key k r j p e1 e2
    refine ⟨hκ, ?_⟩
    rw [cell_block g1, hx]; simp [Array.getD_eq_getD_getElem?, hx]
   ·intro k r j p e1 e2
    obtain ⟨x, hx, hp⟩ := key k r j p e1 e2
    simpa [Array.getD_eq_getD_getElem?, hx] using hp
structure TellR (f sz : Nat) (mem : List (List (List PV))) (rows rows' : List (List PV)) : Prop where
 len : rows.length = rows'.length
 row : ∀ (i : Nat) (r r' : List PV), rows[i]? = some r → rows'[i]? = some r' → r.length = r'.length
 cell : ∀ (i : Nat) (r r' : List PV) (j : Nat) (p p' : PV), rows[i]? = some r → rows'[i]? = some r' → r[j]? = some p → r'[j]? = some p' → Tell f sz mem p p'
inductive TellO (f sz : Nat) (mem : List (List (List PV))) : AObj → AObj → Prop where
 | sl (fz : Bool) (s : Nat) (rows rows' : List (List PV)) : TellR f sz mem rows rows' → TellO f sz mem (.sl fz s rows) (.sl fz s rows')
 | mp (fz g rg : Bool) (ks ks' : List PV) (rows rows' : List (List PV)) : ks = ks' → TellR f sz mem rows rows' → TellO f sz mem (.mp fz g rg ks rows) (.mp fz g rg ks' rows')
theorem get_of_len {α β : Type} {l : List α} {m : List β} (h : l.length = m.length) {i : Nat} {y : β} (e : m[i]? = some y) : ∃ x, l[i]? = some x := by
 have := (List.getElem?_eq_some_iff.1 e).1
 exact ⟨l[i]'(by omega), by simp⟩
theorem ORel.tell {n m f sz : Nat} {mem : List (List (List PV))} (ho : ORel M w n (.fam true f sz mem)) {o o' : AObj} (h : ORel M w m o) (ht : TellO f sz mem o o') : ORel M w m o' := by
 cases ht with
 | sl fz s rows rows' hR =>
  cases h with
  | sl0 _ _ e1 e2 e3 =>
   have : rows' = [] := List.eq_nil_of_length_eq_zero hR.len.symm
   subst this; exact .sl0 fz s e1 e2 e3
  | sl _ _ _ b base c T h0 e1 e2 e3 e4 e5 e6 e7 =>
   refine .sl fz s rows' b base c T h0 e1 e2 e3 (by rw [← hR.len]; exact e4) ?_ ?_ (e7.trans hR.len)
   ·intro r hr
    obtain ⟨i, hi⟩ := List.getElem?_of_mem hr
    obtain ⟨r0, h0⟩ := get_of_len hR.len hi
    rw [← hR.row i r0 r h0 hi]
    exact e5 r0 (List.mem_of_getElem? h0)
   ·intro i r j p x hi hj hx
    obtain ⟨r0, h0⟩ := get_of_len hR.len hi
    obtain ⟨p0, hp0⟩ := get_of_len (hR.row i r0 r h0 hi) hj
    exact (e6 i r0 j p0 x h0 hp0 hx).tell ho (hR.cell i r0 r j p0 p h0 hi hp0 hj)
 | mp fz g rg ks ks' rows rows' hks hR =>
  subst hks
  cases h with
  | mp _ _ _ _ _ b es clock e1 e2 e3 e4 e5 e6 e7 e8 e9 e10 =>
   refine .mp fz g rg ks rows' b es clock e1 e2 e3 e4 (by rw [← hR.len]; exact e5) e6 ?_ e8 ?_ e10
   ·intro i e r he hr
    obtain ⟨r0, h0⟩ := get_of_len hR.len hr
    rw [← hR.row i r0 r h0 hr]
    exact e7 i e r0 he h0
   ·intro i e r j x p he hr hx hp
    obtain ⟨r0, h0⟩ := get_of_len hR.len hr
    obtain ⟨p0, hp0⟩ := get_of_len (hR.row i r0 r h0 hr) hp
    exact (e9 i e r0 j x p0 he h0 hx hp0).tell ho (hR.cell i r0 r j p0 p h0 hr hp0 hp)
theorem WK.tell {fid : Fid} {k : List Item} {r : AV} {outs : List AObj} (n m : Nat) (o' : AObj) {f sz : Nat} {mem : List (List (List PV))} {o : AObj} (hn : lk σ.o n = some (.fam true f sz mem)) (hm : lk σ.o m = some o) (ht : TellO f sz mem o o')
  (hk : WK P fid k { σ with o := up σ.o m o' } r outs) : WK P fid k σ r outs := by
 have hon : o'.nms = [] := by cases ht <;> rfl
 intro M a w R b cs hb
 refine hk M a w ⟨R.sz, R.df, R.tm, ?_, ?_, ?_⟩ b cs hb
 ·intro q p hq
  rw [lk_up] at hq
  split at hq
  ·rename_i e; subst e; cases hq; exact ORel.tell (R.ob n _ hn) (R.ob m o hm) ht
  ·exact R.ob q p hq
 ·intro t v hv j hj
  rw [lk_up]; split
  ·rfl
  ·exact R.wt t v hv j hj
 ·intro q p hq j hj
  rw [lk_up] at hq ⊢
  split at hq
  ·cases hq; rw [hon] at hj; cases hj
  ·split
   ·rfl
   ·exact R.wo q p hq j hj
theorem WK.birth {fid : Fid} {k : List Item} {r : AV} {outs : List AObj} (n sz : Nat) (hL : lk σ.o n = none) (hsz : 0 < sz) (hn : n < 16)
  (hk : ∀ f, WK P fid k { σ with o := up σ.o n (.fam false f sz []) } r outs) : WK P fid k σ r outs := by
 intro M a w R b cs hb
 let f := 16 * (max M.F0 M.φ.length) + n
 have hf : max M.F0 M.φ.length ≤ f := by simp only [f]; omega
 have hlen : (M.φ ++ List.replicate (f + 1 - M.φ.length) (fun _ : Nat => (none : Option (Nat × Nat)))).length = f + 1 := by simp; omega
 have hlow : ∀ g, g < M.φ.length → (M.φ ++ List.replicate (f + 1 - M.φ.length) (fun _ => none))[g]? = M.φ[g]? := fun g hg => List.getElem?_append_left hg
 have hnew : (M.φ ++ List.replicate (f + 1 - M.φ.length) (fun _ => none))[f]? = some (fun _ => none) := by
  rw [List.getElem?_append_right (by omega), List.getElem?_replicate, if_pos (by omega)]
 have E : Ext M w ⟨M.κ, M.β, M.φ ++ List.replicate (f + 1 - M.φ.length) (fun _ => none), M.F0⟩ w := by
  refine ⟨rfl, rfl, rfl, Nat.le_refl _, fun _ _ _ => rfl, fun _ _ h => h, fun _ _ h => h, fun _ c _ _ h => ⟨c, h, rfl⟩, ?_, fun g _ hg => hlow g hg, rfl⟩
  intro g i b h
  unfold Mm.fam at h ⊢
  have hg : g < M.φ.length := by
   rcases Nat.lt_or_ge g M.φ.length with h' | h'
   ·exact h'
   ·simp [List.getElem?_eq_none h'] at h
  simp only [hlow g hg]
  exact h
 have R₁ : RSt ⟨M.κ, M.β, M.φ ++ List.replicate (f + 1 - M.φ.length) (fun _ => none), M.F0⟩ { σ with o := up σ.o n (.fam false f sz []) } a w := by
  refine ⟨R.sz, R.df, fun t v e => (R.tm t v e).mono E fun _ _ => rfl, ?_, ?_, ?_⟩
  ·intro m p hm
   simp only [lk_up] at hm
   split at hm
   ·rename_i hnm
    subst hnm
    cases hm
    refine .fam false _ sz [] (fun _ => (0, 0)) hn (by simp only [f]; omega) hsz (by show M.F0 ≤ f; omega) (by show f < (M.φ ++ _).length; rw [hlen]; omega) (fun i _ => by unfold Mm.fam; simp only [hnew]) (by simp) (by simp) (by simp)
   ·exact (R.ob m p hm).mono E rfl (fun _ _ => rfl) (fun _ _ _ => ⟨rfl, rfl⟩) (fun f _ _ _ _ _ h2 => hlow f h2)
  ·intro t v e m hm
   simp only [lk_up]
   split
   ·rfl
   ·exact R.wt t v e m hm
  ·intro m p hm j hj
   simp only [lk_up] at hm ⊢
   split at hm
   ·cases hm; simp [AObj.nms] at hj
   ·split
    ·rfl
    ·exact R.wo m p hm j hj
 have g : Go1 M w _ w := ⟨E, fun _ _ => rfl⟩
 obtain ⟨v, M', w', h1, h4, h5⟩ := hk _ _ a w R₁ b cs (hb.mono g)
 exact ⟨v, M', w', h1, g.trans2 h4, h5⟩
end
end Go.Fx
