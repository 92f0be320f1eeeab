/- The law StrongRanks: whatever the input, it returns true and leaves what was handed in as it was. No condition. -/
import Derived.Test.YtpdjphpjejjkpaaRows
import Derived.Test.YtpdjphpjejjkpaaSW4
import Derived.WalkKit
import Derived.ProofKit
import Derived.OpenShut
import Derived.ShutString
import Derived.ChangeOld
import Derived.Below
import Derived.SizedLaws
import Derived.Carry
namespace Go.Proofs.Ytpdjphpjejjkpaa.strongRanks
open Go.ChangeShapes Go.WideShapes Go.ChangeAt Go.RowKit
set_option linter.unusedVariables false
theorem own : ownKnob Try.prog.godebug = none := by kernel_rfl
theorem laidOut : laidOutB Try.prog = true := by kernel_rfl
theorem readable : (Try.f4.params.toList.all fun t => Try.prog.readableRec t && decide (t < Try.prog.types.size)) = true := by kernel_rfl
set_option maxRecDepth 100000 in
theorem lifted (os : Os) (started : os.Started) (H : Type) (enc : TypeId × Value → H) :
    ReturnsInHanded {} Try.checked os 4 .any (Rows.strongRanksSpec.pre6 enc Try.prog Try.f4 Rows.strongRanksRow.domain false) (Rows.strongRanksSpec.post enc Try.prog Try.f4 false true false false) := by
  refine returnsInHanded_of_change_sized (C := Try.checked) own started (by kernel_rfl) Try.func4
    (ChangeSpec.witness6 (enc := enc) (C := Try.checked) false ⟨#[], #[.int .i64 0, .slice none 0 0, .bool false], []⟩ 12 (by kernel_rfl) (by kernel_rfl) (by kernel_rfl) (by kernel_rfl)) ?_
  intro W base args ds gs before hval hW hcnd hsz _
  have hW' := hW
  obtain ⟨p, q, hA, hV, rfl, hfz, hnd⟩ := hW
  obtain ⟨rfl, rfl⟩ := trodVars_none hV
  have hlt : ∀ x ∈ p, x.block < W.heap.size := by
    have := hW'.lt
    simpa using this
  obtain ⟨avs, hok, hlen, hnm, hrel⟩ := Fx.came (shs := Fx.Gen.shapes4) (by kernel_rfl) (fun j t v h1 h2 => hval j t v (by simpa using h1) (by simpa using h2)) hA
  refine (Fx.Spec.law (Fx.Gen.walk4 hok) (by simpa using hlen) (fun i v x h1 h2 => hrel i v x (by simpa using h1) h2) hnm).mono fun e W' ⟨he, bel⟩ => ?_
  subst he
  have hback := Fx.backAll laidOut bel readable hA hlt
  rw [show Try.f4.params.toList = [3, 22, 4] from rfl] at hA
  obtain ⟨v0, vs0, d0, ds0, p0, q0, e0, rfl, rfl, h0, r0⟩ := trodAll_cons hA
  obtain ⟨v1, vs1, d1, ds1, p1, q1, e1, rfl, rfl, h1, r1⟩ := trodAll_cons r0
  obtain ⟨v2, vs2, d2, ds2, p2, q2, e2, rfl, rfl, h2, r2⟩ := trodAll_cons r1
  obtain ⟨rfl, rfl, rfl⟩ := trodAll_nil r2
  exact ⟨_, rfl, _, _, _, [], _, [], hW', trodAll_mk1 (shut_bool Try.underlying4 _), hback, rfl, bel.frame _, fun h => by cases h⟩
theorem over : Rows.strongRanksRow.holds Try.pinned (OpenSpec.ofChange Rows.strongRanksSpec) :=
  OpenClaim.holds_of_wide 4 Try.f4 rfl rfl rfl rfl rfl rfl rfl ⟨rfl, rfl, rfl, rfl, rfl⟩ rfl rfl rfl rfl rfl (by kernel_rfl) Try.func4 (by kernel_rfl)
    (of_decide_eq_true (by kernel_rfl)) (by unfold Func.isWrapper; first | (rw [if_pos (by decide +kernel)]; kernel_rfl) | (rw [if_neg (by decide +kernel)]; exact ⟨rfl, rfl⟩))
    (fun os started H enc _ => lifted os started H enc)
theorem proved : Rows.StrongRanksSaid := over
#print axioms proved
end Go.Proofs.Ytpdjphpjejjkpaa.strongRanks
namespace Go.Proofs.Ytpdjphpjejjkpaa
/-- The row, under a short name, for the claim. -/
theorem strongRanks_holds : Rows.StrongRanksSaid := strongRanks.proved
end Go.Proofs.Ytpdjphpjejjkpaa
