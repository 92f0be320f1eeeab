/- The chapter's examples hold. -/
import Derived.Test.YtiecopfelbfkiaaQC
namespace Go.Fx.Gen
open Go.Fx Go.Proofs
set_option linter.unusedVariables false
namespace Frs

abbrev eV : List Vertex := [(Vertex.mk 0 0), (Vertex.mk 1 0), (Vertex.mk 2 0), (Vertex.mk 3 0), (Vertex.mk 5 0)]
abbrev eE : List Edge := [(Edge.mk 0 2 1 false 0 0), (Edge.mk 4 1 3 false 0 0), (Edge.mk 6 3 2 false 0 0), (Edge.mk 7 5 5 false 0 0)]
abbrev eL : List Named := [(Named.mk 0 ([0, 0, (-1)] : List Int)), (Named.mk 1 ([1, 0, (-1)] : List Int)), (Named.mk 2 ([1, 1, 0] : List Int)), (Named.mk 3 ([1, 1, 4] : List Int)), (Named.mk 5 ([5, 0, (-1)] : List Int))]
def eT : List (Int × List Int) := [(0, [0, 0, -1]), (1, [1, 0, -1]), (2, [1, 1, 0]), (3, [1, 1, 4]), (5, [5, 0, -1])]

theorem eG : VG ⟨eV, eE, []⟩ := ⟨by decide, by decide, by decide, by decide, by decide⟩
theorem eTree : tree ⟨eV, eE, []⟩ = eT := by kernel_rfl
theorem eGrow : (f22 eV eE).run = some eT := by
  have : (f22 eV eE).run = some (tree ⟨eV, eE, []⟩) := grow_run eG
  rw [this, eTree]
theorem eVal : (f21 eV eE).run = some true := by kernel_rfl
theorem eLab : (f6 eV eE).run = some (eL, 0) := by
  simp only [f6]
  rw [r_cl, eVal, bd_s, r_brr, Bool.not_true, br_f, r_cl, eGrow, bd_s]
  kernel_rfl
theorem eC23 : (f11 eV eE 2 3).run = some (true, 0) := by
  simp only [f11]
  rw [r_cl, show (f25 eV eE [2, 3]).run = some true by kernel_rfl, bd_s, r_brr, Bool.not_true, br_f, r_cl, eGrow, bd_s]
  kernel_rfl
theorem eC33 : (f11 eV eE 3 3).run = some (true, 0) := by
  simp only [f11]
  rw [r_cl, show (f25 eV eE [3, 3]).run = some true by kernel_rfl, bd_s, r_brr, Bool.not_true, br_f, r_cl, eGrow, bd_s]
  kernel_rfl
theorem eC05 : (f11 eV eE 0 5).run = some (false, 0) := by
  simp only [f11]
  rw [r_cl, show (f25 eV eE [0, 5]).run = some true by kernel_rfl, bd_s, r_brr, Bool.not_true, br_f, r_cl, eGrow, bd_s]
  kernel_rfl
theorem eP23 : (f12 eV eE 2 3).run = some ([0, 4], 0) := by
  simp only [f12]
  rw [r_cl, eC23, bd_s, r_brr, show (((0 : Int) != 0) || (!true)) = false from rfl, br_f, r_cl, eGrow, bd_s]
  kernel_rfl
theorem eP33 : (f12 eV eE 3 3).run = some ([], 0) := by
  simp only [f12]
  rw [r_cl, eC33, bd_s, r_brr, show (((0 : Int) != 0) || (!true)) = false from rfl, br_f, r_cl, eGrow, bd_s]
  kernel_rfl
theorem eP05 : (f12 eV eE 0 5).run = some ([], 70) := by
  simp only [f12]
  rw [r_cl, eC05, bd_s, r_brr, show (((0 : Int) != 0) || (!false)) = true from rfl, br_t, r_ret]
theorem eS3 : (f13 eV eE 3).run = some ([1, 2, 3], 0) := by
  simp only [f13]
  rw [r_cl, show (f25 eV eE [3]).run = some true by kernel_rfl, bd_s, r_brr, Bool.not_true, br_f, r_cl, eGrow, bd_s]
  kernel_rfl
theorem eN : (f6v1 [1]).run = some 70 := by kernel_rfl

theorem sane_run : f4.run = some true := by
  simp only [f4]
  rw [r_cl, show f10.run = some () from rfl, bd_s, r_cl, eLab, bd_s, r_cl, eC23, bd_s, r_cl, eC05, bd_s, r_cl, eP23, bd_s, r_cl, eP33, bd_s, r_cl, eS3, bd_s, r_cl, eP05, bd_s, r_cl, eN, bd_s]
  kernel_rfl
end Frs
end Go.Fx.Gen
