/- The chapter's examples hold. -/
import Derived.Test.YtpkjgdngkhnhpaaPI
namespace Go.Fw.Gen
open Go.Fw
def exG : Graph := Graph.mk [(Vertex.mk 0 0), (Vertex.mk 1 0), (Vertex.mk 2 0), (Vertex.mk 3 0), (Vertex.mk 5 0)] [(Edge.mk 0 2 1 false 0 0), (Edge.mk 4 1 3 false 0 0), (Edge.mk 6 3 2 false 0 0), (Edge.mk 7 5 5 false 0 0)] []
def exL : List Named := [(Named.mk 0 [0, 0, (-1)]), (Named.mk 1 [1, 0, (-1)]), (Named.mk 2 [1, 1, 0]), (Named.mk 3 [1, 1, 4]), (Named.mk 5 [5, 0, (-1)])]
def exT : List (Int × Option (List Int)) := [(0, some [0, 0, -1]), (1, some [1, 0, -1]), (2, some [1, 1, 0]), (3, some [1, 1, 4]), (5, some [5, 0, -1])]
theorem exG_eq : w7example = some exG := rfl
theorem exV : VG exG := ⟨by decide, by decide, by decide, by decide, by decide⟩
theorem exS : SmallG exG := ⟨by decide, by decide, by decide⟩
theorem exOk : validP exG = true := by kernel_rfl
theorem exTree : tree exG = exT := by kernel_rfl
theorem exLabs : labs exG = exL := by kernel_rfl
theorem exGrow : forest_grow exG = some exT := by rw [grow_eq exV exS, exTree]
theorem exLabels : forest_Labels exG = some (exL, 0) := by rw [Labels_eq exV exS exOk, exLabs]
theorem exCon (a b : Int) (ha : hasV exG a = true) (hb : hasV exG b = true) : forest_Connected exG a b = some (rt exG a == rt exG b, 0) := Connected_eq exV exS exOk ha hb
theorem exP23 : forest_Path exG 2 3 = some ([0, 4], 0) := by
 unfold forest_Path
 rw [exCon 2 3 (by decide) (by decide), bd_s, exGrow]
 kernel_rfl
theorem exP33 : forest_Path exG 3 3 = some ([], 0) := by
 unfold forest_Path
 rw [exCon 3 3 (by decide) (by decide), bd_s, exGrow]
 kernel_rfl
theorem exP05 : forest_Path exG 0 5 = some ([], 70) := by
 unfold forest_Path
 rw [exCon 0 5 (by decide) (by decide), bd_s]
 kernel_rfl
theorem exS3 : forest_Side exG 3 = some ([1, 2, 3], 0) := by
 unfold forest_Side
 rw [known_eq exG exS _ (by simp), bd_s, exGrow]
 kernel_rfl
theorem exC23 : forest_Connected exG 2 3 = some (true, 0) := by rw [exCon 2 3 (by decide) (by decide)]; kernel_rfl
theorem exC05 : forest_Connected exG 0 5 = some (false, 0) := by rw [exCon 0 5 (by decide) (by decide)]; kernel_rfl
theorem exLab0 : forest_Labels (Graph.mk [] [] [1]) = some ([], 70) := by
 unfold forest_Labels
 rw [Valid_eq _ ⟨by decide, by decide, by decide⟩]
 kernel_rfl
theorem exKn (l : List Int) (hl : l.length ≤ 1000) : forest_known exG l = some (l.all (hasV exG)) := by
 rw [known_eq exG exS l hl, exOk]; rfl
theorem exCp1 : forest_CheckPath exG 2 3 [6] = some true := by unfold forest_CheckPath; rw [exKn _ (by simp)]; kernel_rfl
theorem exCp2 : forest_CheckPath exG 2 3 [0] = some false := by unfold forest_CheckPath; rw [exKn _ (by simp)]; kernel_rfl
theorem exCs1 : forest_CheckSide exG 0 5 [0, 1] = some false := by unfold forest_CheckSide; rw [exKn _ (by simp)]; kernel_rfl
theorem exCs2 : forest_CheckSide exG 0 5 [0] = some true := by unfold forest_CheckSide; rw [exKn _ (by simp)]; kernel_rfl
theorem sane_eq : w7sane = some true := by
 unfold w7sane
 rw [exG_eq, bd_s, exLabels, bd_s, exC23, bd_s, exC05, bd_s, exP23, bd_s, exP33, bd_s, exS3, bd_s, exP05, bd_s, exLab0, bd_s, exCp1, exCp2, exCs1, exCs2]
 kernel_rfl
end Go.Fw.Gen
