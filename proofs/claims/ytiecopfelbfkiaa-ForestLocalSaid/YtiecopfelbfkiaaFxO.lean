/- The evaluator is sound: from a stack of items to another one. -/
import Derived.Test.YtiecopfelbfkiaaFxN
import Derived.Scope
namespace Go.Fx
section
variable {P : Program} {M : Mm} {w : World} {σ : St} {a : Act}

/-- The same, of the objects that were handed in. -/
structure Go2 (m : Nat) (M : Mm) (w : World) (M' : Mm) (w' : World) : Prop where
  ext : Ext M w M' w'
  bev : ∀ k, k < m → M'.β (2 * k) = M.β (2 * k)

theorem Go1.trans2 {m : Nat} {M₁ M₂ : Mm} {w₁ w₂ : World} (h : Go1 M w M₁ w₁) (k : Go2 m M₁ w₁ M₂ w₂) : Go2 m M w M₂ w₂ :=
  ⟨h.ext.trans k.ext, fun n hn => (k.bev n hn).trans (h.bev _ (by omega))⟩

/-- The run of the items, to the function's end: it hands back r, and leaves these objects. -/
def WK (P : Program) (fid : FuncId × Nat) (k : List Item) (σ : St) (r : AV) (outs : List AObj) : Prop :=
  ∀ (M : Mm) (a : Act) (w : World), RSt M σ a w → ∀ (b : Frame) (cs : List Frame), b.fn = fid.1 → b.kind = .normal →
    ∃ fr v M' w', Steps P (lone (b.at a k) cs w) (lone fr cs w') ∧ fr.leaving P w' (.returned v) ∧ fr.fn = fid.1 ∧ Go2 fid.2 M w M' w' ∧ VRel M' w' v r ∧
      (∀ (k : Nat) (o : AObj), outs[k]? = some o → ORel M' w' (2 * k) o) ∧ (∀ n ∈ r.nms, evenBelow outs.length n) ∧ (∀ o ∈ outs, ∀ n ∈ o.nms, evenBelow outs.length n)

theorem WK.steps {fid : FuncId × Nat} {k k' : List Item} {σ : St} {r : AV} {outs : List AObj}
    (h : ∀ (b : Frame) (a : Act) (cs : List Frame) (w : World), Steps P (lone (b.at a k) cs w) (lone (b.at a k') cs w)) (hk : WK P fid k' σ r outs) : WK P fid k σ r outs := by
  intro M a w R b cs hb hbk
  obtain ⟨fr, v, M', w', h1, h2⟩ := hk M a w R b cs hb hbk
  exact ⟨fr, v, M', w', (h b a cs w).trans h1, h2⟩

end
end Go.Fx
