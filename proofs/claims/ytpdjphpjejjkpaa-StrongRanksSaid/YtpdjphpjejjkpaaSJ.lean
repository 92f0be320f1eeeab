/- The labels of Made graphs. -/
import Derived.Test.YtpdjphpjejjkpaaSH
import Derived.Test.YtpdjphpjejjkpaaSI
namespace Go.Fx.Gen
open Go.Proofs
set_option linter.unusedVariables false
namespace Str
open Go.Fx.Str
variable {g : Graph}
/-! Made graphs. -/
theorem gv_vlen (hv : Trd.GV g) : g.Vertices.length ≤ 24 := by
 have key : ∀ n, n < g.Vertices.length → ∃ h : n < g.Vertices.length, (n : Int) ≤ g.Vertices[n].ID := by
  intro n
  induction n with
  | zero => intro h; exact ⟨h, (hv.v _ (List.getElem_mem h)).id.1⟩
  | succ n ih =>
   intro h
   obtain ⟨h', k⟩ := ih (by omega)
   have := hv.va n (n + 1) h' h (by omega)
   exact ⟨h, by omega⟩
 refine Nat.le_of_not_lt fun h => ?_
 obtain ⟨h', k⟩ := key 24 h
 have := (hv.v _ (List.getElem_mem h')).id.2
 omega
theorem gv_elen (hv : Trd.GV g) : g.Edges.length ≤ 40 := by
 have key : ∀ n, n < g.Edges.length → ∃ h : n < g.Edges.length, (n : Int) ≤ g.Edges[n].ID := by
  intro n
  induction n with
  | zero => intro h; exact ⟨h, (hv.e _ (List.getElem_mem h)).1.id.1⟩
  | succ n ih =>
   intro h
   obtain ⟨h', k⟩ := ih (by omega)
   have := hv.ea n (n + 1) h' h (by omega)
   exact ⟨h, by omega⟩
 refine Nat.le_of_not_lt fun h => ?_
 obtain ⟨h', k⟩ := key 40 h
 have := (hv.e _ (List.getElem_mem h')).1.id.2
 omega
theorem gv_sm (hv : Trd.GV g) : Sm g := by
 have h1 := gv_vlen hv
 have h2 := gv_elen hv
 exact ⟨by omega, by omega, fun v h => (hv.v v h).id, fun e h => by
  obtain ⟨k1, k2, k3⟩ := hv.e e h
  exact ⟨k1.fr, k1.to, k2, k3⟩⟩
theorem gv_val (hs : Trd.Small g) (hv : Trd.GV g) : (f21v1 g).run = some true := by
 obtain ⟨b, h1, h2⟩ := Trd.valid_run hs
 rw [h1, h2.2 hv]
theorem gv_id (hv : Trd.GV g) : ∀ e ∈ g.Edges, 0 ≤ e.ID := fun e h => (hv.e e h).1.id.1
theorem labelsV_run (hs : Trd.Small g) (hv : Trd.GV g) : ∃ root rank out inn wit, Lab g root rank out inn wit ∧ (f8v2 g).run = some (labs g root rank out inn wit, 0) :=
 labels_run (gv_sm hv) (by have := gv_elen hv; omega) (by have := gv_vlen hv; omega) (gv_id hv) (gv_val hs hv)
end Str
end Go.Fx.Gen
