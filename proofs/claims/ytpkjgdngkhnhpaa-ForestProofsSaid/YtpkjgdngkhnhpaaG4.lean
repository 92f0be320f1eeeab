/- Plain functions, and the proofs that the program computes them; printed by a program of our own. -/
import Derived.Test.YtpkjgdngkhnhpaaG3
set_option linter.unusedVariables false
namespace Go.Fw.Gen
open Go.Proofs Go.Fw

noncomputable abbrev b14 : Code := body Try.f14
noncomputable def clearwaylaw07_pick (v1 : Int) (v2 : Int) : Option Int :=
  br (decide (v1 < 0)) (
    gd (v2 ≠ 0) <|
    some ((IntKind.i64.wrap (0 - (IntKind.i64.wrap (v1 + 1)))).tmod v2)) (
    gd (v2 ≠ 0) <|
    some (v1.tmod v2))

theorem clearwaylaw07_pick.ok (v1 : Int) (v2 : Int) {x : Int} (hx : clearwaylaw07_pick v1 v2 = some x) :
    Spec Try.prog 14 [.pv (.int .i64 v1), .pv (.int .i64 v2)] [] (.pv (.int .i64 x)) [] := by
  refine Spec.of (c := b14) Try.func14 rfl rfl rfl ?_
  unfold clearwaylaw07_pick at hx
  refine br_ok hx (fun h3 hx => ?_) (fun h3 hx => ?_)
  · refine gd_ok hx fun h4 hx => ?_
    have hx := Option.some.inj hx
    subst hx
    refine WK.run (an := [.reg [], .reg [], .br true, .reg [], .reg []]) (kt := [4]) (ko := []) (k' := [.code (sub b14 [1, 1, 1])]) (σ' := ⟨13, [(4, .pv (.int .i64 ((IntKind.i64.wrap (0 - (IntKind.i64.wrap (v1 + 1)))).tmod v2)))], []⟩) (ps := [(decide (v1 < 0)) = true, v2 ≠ 0])
      (by kernel_rfl) ⟨h3, h4, trivial⟩ ?_
    exact WK.ret (fn := Try.f14) Try.func14 (frz := []) (esc := []) (ps := []) (by kernel_rfl) trivial
  · refine gd_ok hx fun h5 hx => ?_
    have hx := Option.some.inj hx
    subst hx
    refine WK.run (an := [.reg [], .reg [], .br false, .reg []]) (kt := [4]) (ko := []) (k' := [.code (sub b14 [1, 1, 1])]) (σ' := ⟨13, [(4, .pv (.int .i64 (v1.tmod v2)))], []⟩) (ps := [(decide (v1 < 0)) = false, v2 ≠ 0])
      (by kernel_rfl) ⟨h3, h5, trivial⟩ ?_
    exact WK.ret (fn := Try.f14) Try.func14 (frz := []) (esc := []) (ps := []) (by kernel_rfl) trivial

end Go.Fw.Gen
