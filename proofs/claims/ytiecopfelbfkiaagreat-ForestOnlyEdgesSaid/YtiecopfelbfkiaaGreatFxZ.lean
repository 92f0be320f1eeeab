/- Steps by hand: one operation after another, a call that is put off, and what a call by contract leaves alone. -/
import Derived.Test.YtiecopfelbfkiaaGreatFxW
import Derived.Recover
namespace Go.Fx
section
variable {P : Program} {Q : Exit → Act → World → Prop} {a : Act} {w : World} {ops : Array Oper} {i : Nat} {rest : List Nat} {o : Oper}

theorem opGo (hi : ops[i]? = some o) (hg : o.guard = none) (h : o.wp P a w (wpOps P ops Q rest) Q) : wpOps P ops Q (i :: rest) a w := by
  have : Region.wanted o (yielded ops a.tmps) = true := by unfold Region.wanted; rw [hg]
  simp only [wpOps, hi, this, if_true]
  exact .inl h
theorem opV {v : Value} {w' : World} (hi : ops[i]? = some o) (hg : o.guard = none) (hr : (execOp a.eval o).run P w = .ok (.value v) w') (h : wpOps P ops Q rest (a.put o.dst v) w') : wpOps P ops Q (i :: rest) a w :=
  opGo hi hg (by unfold Oper.wp; rw [hr]; exact h)
theorem opVx {v : Value} {w' : World} (a' : Act) (hi : ops[i]? = some o) (hg : o.guard = none) (hr : (execOp a.eval o).run P w = .ok (.value v) w') (ha : a.put o.dst v = a') (h : wpOps P ops Q rest a' w') : wpOps P ops Q (i :: rest) a w :=
  opV hi hg hr (by rw [ha]; exact h)
theorem opSkx (a' : Act) (hi : ops[i]? = some o) (hw : Region.wanted o (yielded ops a.tmps) = false) (ha : a.put o.dst undef = a') (h : wpOps P ops Q rest a' w) : wpOps P ops Q (i :: rest) a w := by
  have := h
  rw [← ha] at this
  simp only [wpOps, hi, hw, Bool.false_eq_true, if_false]
  exact this
theorem opS {w' : World} (hi : ops[i]? = some o) (hg : o.guard = none) (hr : (execOp a.eval o).run P w = .ok .skip w') (h : wpOps P ops Q rest (a.put o.dst undef) w') : wpOps P ops Q (i :: rest) a w :=
  opGo hi hg (by unfold Oper.wp; rw [hr]; exact h)
theorem opD {d : Deferred} {w' : World} (hi : ops[i]? = some o) (hg : o.guard = none) (hr : (execOp a.eval o).run P w = .ok (.defer d) w') (h : wpOps P ops Q rest ({ a with defers := d :: a.defers }.put o.dst undef) w') : wpOps P ops Q (i :: rest) a w :=
  opGo hi hg (by unfold Oper.wp; rw [hr]; exact h)
theorem opC {f : FuncId} {args : Array Value} {w' : World} {R : Ending → World → Prop} (hi : ops[i]? = some o) (hg : o.guard = none) (hr : (execOp a.eval o).run P w = .ok (.enter f args) w') (hc : Calls P f args w' R)
    (h : ∀ e w'', R e w'' → ∃ v, e = .returned v ∧ wpOps P ops Q rest (a.put o.dst v) w'') : wpOps P ops Q (i :: rest) a w :=
  opGo hi hg (by
    unfold Oper.wp; rw [hr]
    refine Calls.mono hc fun e w'' he => ?_
    obtain ⟨v, rfl, hv⟩ := h e w'' he
    exact hv)
theorem opSkip (hi : ops[i]? = some o) (hw : Region.wanted o (yielded ops a.tmps) = false) (h : wpOps P ops Q rest (a.put o.dst undef) w) : wpOps P ops Q (i :: rest) a w := by
  simp only [wpOps, hi, hw, Bool.false_eq_true, if_false]
  exact h
end

section
variable {P : Program} {Q : Exit → Act → List Frame → World → Prop} {a : Act} {cs : List Frame} {w : World} {ops : Array Oper} {i : Nat} {rest : List Nat} {o : Oper}
theorem opRS {w' : World} (hi : ops[i]? = some o) (hg : o.guard = none) (hr : (execOp a.eval o).run P w = .ok .recover w') (hn : recoverD cs = none) (h : wpOpsS P ops Q rest (a.put o.dst .nilIface) cs w') : wpOpsS P ops Q (i :: rest) a cs w := by
  have : Region.wanted o (yielded ops a.tmps) = true := by unfold Region.wanted; rw [hg]
  simp only [wpOpsS, hi, this, if_true, hr, hn]
  exact h
theorem opRSx {w' : World} (a' : Act) (hi : ops[i]? = some o) (hg : o.guard = none) (hr : (execOp a.eval o).run P w = .ok .recover w') (hn : recoverD cs = none) (ha : a.put o.dst .nilIface = a') (h : wpOpsS P ops Q rest a' cs w') : wpOpsS P ops Q (i :: rest) a cs w :=
  opRS hi hg hr hn (by rw [ha]; exact h)
theorem opVSx {v : Value} {w' : World} (a' : Act) (hi : ops[i]? = some o) (hg : o.guard = none) (hr : (execOp a.eval o).run P w = .ok (.value v) w') (ha : a.put o.dst v = a') (h : wpOpsS P ops Q rest a' cs w') : wpOpsS P ops Q (i :: rest) a cs w := by
  have : Region.wanted o (yielded ops a.tmps) = true := by unfold Region.wanted; rw [hg]
  rw [← ha] at h
  simp only [wpOpsS, hi, this, if_true, hr]
  exact h
theorem opVS {v : Value} {w' : World} (hi : ops[i]? = some o) (hg : o.guard = none) (hr : (execOp a.eval o).run P w = .ok (.value v) w') (h : wpOpsS P ops Q rest (a.put o.dst v) cs w') : wpOpsS P ops Q (i :: rest) a cs w := by
  have : Region.wanted o (yielded ops a.tmps) = true := by unfold Region.wanted; rw [hg]
  simp only [wpOpsS, hi, this, if_true, hr]
  exact h
end

/-- A block that is nobody's is written: all that is told stays true. -/
theorem Lft.outer {M : Mm} {w w' : World} {b : Nat} {c c' : Array Value} {T : TypeId} {fr : Nat × Nat} (hk : M.κ b = .outer) (hb : w.heap[b]? = some (.cells c T fr)) (hb' : w'.heap[b]? = some (.cells c' T fr)) (hs : c'.size = c.size) (hn : ∀ k, k ≠ b → w'.heap[k]? = w.heap[k]?) : Lft M w M w' where
  frz k _ hf := ⟨hf, hn k (by rintro rfl; rw [hk] at hf; cases hf)⟩
  shp k d T' fr' h := by
    by_cases e : k = b
    · subst e
      rw [hb] at h; cases h
      exact ⟨c', hb', hs⟩
    · exact ⟨d, by rw [hn k e]; exact h, rfl⟩
  fam _ _ _ h := h
  f0 := rfl

theorem ORel.outer {M : Mm} {w w' : World} {b : Nat} (L : Lft M w M w') (hk : M.κ b = .outer) (hn : ∀ k, k ≠ b → w'.heap[k]? = w.heap[k]?) {n : Nat} {o : AObj} (h : ORel M w n o) : ORel M w' n o :=
  h.lft L rfl (fun _ _ => rfl) (fun k _ hk' => ⟨rfl, hn k (by rintro rfl; rw [hk] at hk'; rcases hk' with h | h <;> cases h)⟩)
end Go.Fx
