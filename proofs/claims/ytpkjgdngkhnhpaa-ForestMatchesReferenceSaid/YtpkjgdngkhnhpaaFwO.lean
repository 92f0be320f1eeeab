/- The evaluator is sound: from a stack of items to another one. -/
import Derived.Test.YtpkjgdngkhnhpaaFwN
import Derived.Scope
namespace Go.Fw
section
variable {P : Program} {M : Mm} {w : World} {σ : St} {a : Act}
structure Go2 (m : Nat) (M : Mm) (w : World) (M' : Mm) (w' : World) : Prop where
 ext : Ext M w M' w'
 bev : ∀ k, k < m → M'.β (2 * k) = M.β (2 * k)
theorem Go1.trans2 {m : Nat} {M₁ M₂ : Mm} {w₁ w₂ : World} (h : Go1 M w M₁ w₁) (k : Go2 m M₁ w₁ M₂ w₂) : Go2 m M w M₂ w₂ :=
 ⟨h.ext.trans k.ext, fun n hn => (k.bev n hn).trans (h.bev _ (by omega))⟩
def WK (P : Program) (fid : FuncId × Nat) (k : List Item) (σ : St) (r : AV) (outs : List AObj) : Prop :=
 ∀ (M : Mm) (a : Act) (w : World), RSt M σ a w → ∀ (b : Frame) (cs : List Frame), b.fn = fid.1 → b.kind = .normal →
  ∃ fr v M' w', Steps P (lone (b.at a k) cs w) (lone fr cs w') ∧ fr.leaving P w' (.returned v) ∧ fr.fn = fid.1 ∧ Go2 fid.2 M w M' w' ∧ VRel M' w' v r ∧
   (∀ (k : Nat) (o : AObj), outs[k]? = some o → ORel M' w' (2 * k) o) ∧ (∀ n ∈ r.nms, evenBelow outs.length n) ∧ (∀ o ∈ outs, ∀ n ∈ o.nms, evenBelow outs.length n)
theorem WK.steps {fid : FuncId × Nat} {k k' : List Item} {σ : St} {r : AV} {outs : List AObj}
  (h : ∀ (b : Frame) (a : Act) (cs : List Frame) (w : World), Steps P (lone (b.at a k) cs w) (lone (b.at a k') cs w)) (hk : WK P fid k' σ r outs) : WK P fid k σ r outs := by
 intro M a w R b cs hb hbk
 obtain ⟨fr, v, M', w', h1, h2⟩ := hk M a w R b cs hb hbk
 exact ⟨fr, v, M', w', (h b a cs w).trans h1, h2⟩
theorem evK_sound {fid : FuncId × Nat} {r : AV} {outs : List AObj} : ∀ {f : Nat} {as : List An} {k : List Item} {σ : St} {ps : List Prop} {k' : List Item} {σ' : St},
  evK P (Spec P) f as k σ = some (ps, k', σ') → All ps → WK P fid k' σ' r outs → WK P fid k σ r outs := by
 intro f
 induction f with
 | zero => intro as k σ ps k' σ' h; simp [evK] at h
 | succ f ih =>
  intro as k σ ps k' σ' h hp hk
  unfold evK at h
  split at h
  ·exact WK.steps (fun b a cs w => .one step_seq) (ih h hp hk)
  ·exact WK.steps (fun b a cs w => .one step_block) (ih h hp hk)
  ·exact WK.steps (fun b a cs w => .one step_skip) (ih h hp hk)
  ·exact WK.steps (fun b a cs w => .one step_inBlock) (ih h hp hk)
  ·exact WK.steps (fun b a cs w => .one step_scope) (ih h hp hk)
  ·exact WK.steps (fun b a cs w => .one step_inScope) (ih h hp hk)
  ·exact WK.steps (fun b a cs w => .one step_label) (ih h hp hk)
  ·split at h
   ·rename_i k₁ he
    exact WK.steps (fun b a cs w => .one (step_exit he)) (ih h hp hk)
   ·cases h
  ·rename_i id ops draw k₀
   split at h
   ·rename_i n sz as'
    split at h
    ·rename_i hL hodd hsz
     have hrest := ih h hp hk
     intro M a w R b cs hb hbk
     obtain ⟨R', E, hβ⟩ := R.ghost (n := n) (sz := sz) hL hodd (by rintro rfl; simp at hsz)
     obtain ⟨fr, v, M'', w'', h1, h2, h3, h4, h5⟩ := hrest _ a w R' b cs hb hbk
     exact ⟨fr, v, M'', w'', h1, h2, h3, Go1.trans2 ⟨E, hβ⟩ h4, h5⟩
    ·cases h
   ·rename_i an as'
    split at h
    ·split at h
     ·rename_i p σ₁ hops
      split at h
      ·rename_i q kr hev
       cases h
       rw [All_append] at hp
       have hrest := ih hev hp.2 hk
       intro M a w R b cs hb hbk
       have hw := opsA_sound (P := P) R hops hp.1 (Q := fun e a' w' => e = .normal ∧ ∃ M', RSt M' σ₁ a' w' ∧ Go1 M w M' w') (fun a' w' M' R' g => ⟨rfl, M', R', g⟩)
       obtain ⟨e, a', w', ⟨rfl, M', R', g⟩, harr⟩ := wp_ops _ a w hw b k₀ cs
       obtain ⟨fr, v, M'', w'', h1, h2, h3, h4, h5⟩ := hrest M' a' w' R' b cs hb hbk
       exact ⟨fr, v, M'', w'', (Steps.one step_region).trans (Steps.trans harr h1), h2, h3, g.trans2 h4, h5⟩
      ·cases h
     ·cases h
    ·cases h
   ·rename_i plan an as'
    split at h
    ·split at h
     ·rename_i p σ₁ hops
      split at h
      ·rename_i q kr hev
       cases h
       rw [All_append] at hp
       have hrest := ih hev hp.2 hk
       intro M a w R b cs hb hbk
       have hw := drawA_sound (P := P) (id := id) R hops hp.1 (Q := fun e a' w' => e = .normal ∧ ∃ M', RSt M' σ₁ a' w' ∧ Go1 M w M' w') (fun a' w' M' R' g => ⟨rfl, M', R', g⟩)
       obtain ⟨e, a', w', ⟨rfl, M', R', g⟩, harr⟩ := hw b k₀ cs
       obtain ⟨fr, v, M'', w'', h1, h2, h3, h4, h5⟩ := hrest M' a' w' R' b cs hb hbk
       exact ⟨fr, v, M'', w'', harr.trans h1, h2, h3, g.trans2 h4, h5⟩
      ·cases h
     ·cases h
    ·cases h
   ·cases h; exact hk
  ·rename_i c x y k₀
   split at h
   ·rename_i b0 as'
    split at h
    ·rename_i t hc
     split at h
     ·rename_i q kr hev
      cases h
      obtain ⟨ht, hp⟩ := hp
      have hrest := ih hev hp hk
      intro M a w R b cs hb hbk
      have hr := R.ev c
      rw [hc] at hr
      have hev' := rel_bool hr
      obtain ⟨fr, v, M'', w'', h1, h2⟩ := hrest M a w R b cs hb hbk
      refine ⟨fr, v, M'', w'', (Steps.one (step_cond hev')).trans ?_, h2⟩
      rw [ht]
      cases b0
      ·exact h1
      ·exact h1
     ·cases h
    ·cases h
   ·rename_i as'
    split at h
    ·rename_i hc
     have hrest := ih h hp hk
     intro M a w R b cs hb hbk
     have hr := R.ev c
     rw [hc] at hr
     obtain ⟨fr, v, M'', w'', h1, h2⟩ := hrest M a w R b cs hb hbk
     exact ⟨fr, v, M'', w'', (Steps.one (step_cond (rel_bool hr))).trans h1, h2⟩
    ·rename_i hc
     have hrest := ih h hp hk
     intro M a w R b cs hb hbk
     have hr := R.ev c
     rw [hc] at hr
     obtain ⟨fr, v, M'', w'', h1, h2⟩ := hrest M a w R b cs hb hbk
     exact ⟨fr, v, M'', w'', (Steps.one (step_cond (rel_bool hr))).trans h1, h2⟩
    ·cases h
   ·cases h; exact hk
  ·split at h
   ·exact WK.steps (fun b a cs w => .one step_loop) (ih h hp hk)
   ·cases h; exact hk
  ·split at h
   ·exact WK.steps (fun b a cs w => .one step_inLoop) (ih h hp hk)
   ·cases h; exact hk
  ·cases h; exact hk
theorem WK.birth {fid : FuncId × Nat} {k : List Item} {r : AV} {outs : List AObj} (n sz : Nat) (hL : lk σ.o n = none) (hsz : 0 < sz) (hn : n < 16)
  (hk : ∀ f, WK P fid k { σ with o := up σ.o n (.fam false f sz []) } r outs) : WK P fid k σ r outs := by
 intro M a w R b cs hb hbk
 let f := 16 * (max M.F0 M.φ.length) + n
 have hf : max M.F0 M.φ.length ≤ f := by simp only [f]; omega
 have hlen : (M.φ ++ List.replicate (f + 1 - M.φ.length) (fun _ : Nat => (none : Option (Nat × Nat)))).length = f + 1 := by simp; omega
 have hlow : ∀ g, g < M.φ.length → (M.φ ++ List.replicate (f + 1 - M.φ.length) (fun _ => none))[g]? = M.φ[g]? := fun g hg => List.getElem?_append_left hg
 have hnew : (M.φ ++ List.replicate (f + 1 - M.φ.length) (fun _ => none))[f]? = some (fun _ => none) := by
  rw [List.getElem?_append_right (by omega), List.getElem?_replicate, if_pos (by omega)]
 have E : Ext M w ⟨M.κ, M.β, M.φ ++ List.replicate (f + 1 - M.φ.length) (fun _ => none), M.F0⟩ w := by
  refine ⟨rfl, rfl, rfl, Nat.le_refl _, fun _ _ _ => rfl, fun _ _ h => h, fun _ _ h => h, fun _ c _ _ h => ⟨c, h, rfl⟩, ?_, fun g _ hg => hlow g hg, rfl⟩
  intro g i b h
  unfold Mm.fam at h ⊢
  have hg : g < M.φ.length := by
   rcases Nat.lt_or_ge g M.φ.length with h' | h'
   ·exact h'
   ·simp [List.getElem?_eq_none h'] at h
  simp only [hlow g hg]
  exact h
 have R₁ : RSt ⟨M.κ, M.β, M.φ ++ List.replicate (f + 1 - M.φ.length) (fun _ => none), M.F0⟩ { σ with o := up σ.o n (.fam false f sz []) } a w := by
  refine ⟨R.sz, R.df, fun t v e => (R.tm t v e).mono E fun _ _ => rfl, ?_, ?_, ?_⟩
  ·intro m p hm
   simp only [lk_up] at hm
   split at hm
   ·rename_i hnm
    subst hnm
    cases hm
    refine .fam false _ sz [] (fun _ => (0, 0)) hn (by simp only [f]; omega) hsz (by show M.F0 ≤ f; omega) (by show f < (M.φ ++ _).length; rw [hlen]; omega) (fun i _ => by unfold Mm.fam; simp only [hnew]) (by simp) (by simp) (by simp)
   ·exact (R.ob m p hm).mono E rfl (fun _ _ => rfl) (fun _ _ _ => ⟨rfl, rfl⟩) (fun f _ _ _ _ _ h2 => hlow f h2)
  ·intro t v e m hm
   simp only [lk_up]
   split
   ·rfl
   ·exact R.wt t v e m hm
  ·intro m p hm j hj
   simp only [lk_up] at hm ⊢
   split at hm
   ·cases hm; simp [AObj.nms] at hj
   ·split
    ·rfl
    ·exact R.wo m p hm j hj
 obtain ⟨fr, v, M', w', h1, h2, h3, h4, h5⟩ := hk _ _ a w R₁ b cs hb hbk
 exact ⟨fr, v, M', w', h1, h2, h3, Go1.trans2 ⟨E, fun _ _ => rfl⟩ h4, h5⟩
end
end Go.Fw
