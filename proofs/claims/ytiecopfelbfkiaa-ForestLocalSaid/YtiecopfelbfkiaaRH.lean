/- The law ForestLocal: whatever the arguments, the program answers true. -/
import Derived.Test.YtiecopfelbfkiaaRG
namespace Go.Fx.Gen
open Go.Fx Go.Proofs
set_option linter.unusedVariables false
namespace Frs
open Trd
variable {g : Graph}

theorem gv_len (hv : GV g) : g.Edges.length ≤ 40 ∧ g.Vertices.length ≤ 24 := by
  have hg := vg_of hv
  constructor
  · have := asc_len (g.Edges.map (·.ID)) 0 39 hg.easc (fun x hx => by
      obtain ⟨e, he, rfl⟩ := List.mem_map.1 hx
      exact hg.eid e he)
    simp at this; omega
  · have := asc_len (g.Vertices.map (·.ID)) 0 23 hg.asc (fun x hx => by
      obtain ⟨e, he, rfl⟩ := List.mem_map.1 hx
      exact hg.vid e he)
    simp at this; omega

theorem local_true {p1 : Int} {p2 p4 : List A5_Int} {p3 : Bool} {p5 : List A3_Int} (h1 : inI64 p1) (h2 : ∀ a ∈ p2, A5ok a) (h4 : ∀ a ∈ p4, A5ok a) (h5 : ∀ a ∈ p5, A3ok a) : (f3 p1 p2 p3 p4 p5).run = some true := by
  obtain ⟨g, hm, hs, hv, hne, hid⟩ := made_run (p3 := p3) h1 h2
  obtain ⟨g', hm', hs', hv', hne', hid'⟩ := made_run (p3 := p3) h1 h4
  rw [← hid] at hid'
  have hg := vg_of hv
  have hlen := gv_len hv
  have hlen' := gv_len hv'
  have hL := labs_labs hg
  have hL2 := labs_labs (vg_of hv')
  have hLo : Labs g (labs g') := ⟨hL2.ids.trans hid', hL2.len, hL2.rng⟩
  obtain ⟨b1, r1, i1, l1, k1⟩ := bent_run (l := labs g) (by rw [labs_len]; omega) hL.len hL.rng h5
  obtain ⟨b2, r2, i2, l2, k2⟩ := bent_run (l := labs g') (by rw [labs_len]; omega) hL2.len hL2.rng h5
  have hB1 : Labs g b1 := ⟨i1.trans hL.ids, l1, k1⟩
  have hB2 : Labs g b2 := ⟨i2.trans hLo.ids, l2, k2⟩
  have both : ∀ ls, Labs g ls → ∃ b, (f7 g ls).run = some b ∧ (f9 ls (labs g)).run = some b := by
    intro ls hl
    have hln : ls.length = g.Vertices.length := by have := congrArg List.length hl.ids; simpa using this
    obtain ⟨b, g1, g2⟩ := all_run hs hv (by omega) hl
    obtain ⟨c, c1, c2⟩ := same_run (l := ls) (l' := labs g) (by omega) (fun n hn => by have := hl.len n hn; omega)
    have : b = c := by rw [Bool.eq_iff_iff, g2, c2]; exact fit_iff hg hl
    subst this
    exact ⟨b, g1, c1⟩
  have own : (f7 g (labs g)).run = some true := by
    obtain ⟨b, g1, g2⟩ := all_run hs hv (by omega) hL
    have : b = true := g2.2 ((fit_iff hg hL).2 rfl)
    rw [g1, this]
  simp only [f3]
  rw [r_cl, sane_run, bd_s, Bool.not_true, r_brr, br_f, r_cl, hm, bd_s, r_cl, labels_run hs hv, bd_s, r_cl, hm', bd_s, r_cl, labels_run hs' hv', bd_s]
  rw [r_join1, r_brr, show (((0 : Int) != 0) || ((0 : Int) != 0)) = false from rfl, br_f, r_cl, own, bd_s, r_ret, bd_s, ex_a, Bool.not_true, r_brr, br_f, r_cl, r1, bd_s, r_cl, r2, bd_s]
  have hall : ∀ l ∈ [b1, labs g', b2], Labs g l := by
    intro l hl
    simp only [List.mem_cons, List.not_mem_nil, or_false] at hl
    rcases hl with rfl | rfl | rfl
    · exact hB1
    · exact hLo
    · exact hB2
  obtain ⟨q, hq, rfl⟩ := loop_ix (A := Unit) (f := fun s : Int => (f3.l1 g (labs g, 0) (labs g', 0) b1 b2 s).run) (n := 3) (fun i _ => (i : Int)) (fun _ _ => True) (fun q => q = .b ())
    (fun i _ hi _ => by
      have hi' : i < ([b1, labs g', b2] : List (List Named)).length := hi
      have hx := List.getElem?_eq_getElem hi'
      obtain ⟨b, c1, c2⟩ := both _ (hall _ (List.getElem_mem hi'))
      simp only [f3.l1, r_brr, L_eq]
      rw [show decide ((i : Int) < ((([b1, labs g', b2] : List (List Named)).length : Nat) : Int)) = true from cast_lt_t hi', br_t, ck_t (by omega), at0_nat, rd_s hx, r_cl, c1, bd_s, r_cl, c2, bd_s, r_brr, show (!(b == b)) = false by simp, br_f, r_ret, succ_wr hi (by omega)]
      exact .inl ⟨(), rfl, trivial⟩)
    (fun _ _ => ⟨.b (), by
      simp only [f3.l1, r_brr, L_eq]
      rw [show decide (((3 : Nat) : Int) < ((([b1, labs g', b2] : List (List Named)).length : Nat) : Int)) = false from rfl, br_f, r_ret], rfl⟩)
    (k := fuel) (by have := fuel_pos; omega) (a := ()) trivial
  have hq : loopN fuel (fun s : Int => (f3.l1 g (labs g, 0) (labs g', 0) b1 b2 s).run) (0 : Int) = _ := hq
  rw [r_loop2, hq, bd_s, ex_b, r_ret]
end Frs
end Go.Fx.Gen
