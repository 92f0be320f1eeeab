/- How the words of loops over functions run; the arcs of edges. -/
import Derived.Test.YtpdjphpjejjkpaaXB
import Derived.Test.YtpdjphpjejjkpaaSA
import Derived.Test.YtpdjphpjejjkpaaG2
namespace Go.Fx
section
variable {P : Program} {α β γ : Type}
theorem r_rf0 {ks : List Nat} {g : Nat} {args : List AV} {ext : List AObj} {r : γ → AV} {outs : γ → List AObj} {p : Prg P γ} (h : ∀ {y}, p.run = some y → Spec P g args ext (r y) (outs y)) (k : γ → Prg P β) : (@rf0 β P γ ks g args ext r outs p @h k).run = bd p.run fun y => (k y).run := rfl
theorem r_clK {kp : List Nat} {g : Nat} {args : List AV} {ext : List AObj} {r : γ → AV} {outs : γ → List AObj} {p : Prg P γ} (h : ∀ {y}, p.run = some y → Spec P g args ext (r y) (outs y)) (k : γ → Prg P β) : (@clK β P kp γ g args ext r outs p @h k).run = bd p.run fun y => (k y).run := rfl
theorem r_clY {hno : P.funcs[yId]? = none} {args : List AV} {ext : List AObj} {r : γ → AV} {outs : γ → List AObj} {p : Prg P γ} (h : ∀ {y}, p.run = some y → RSpec P args ext (r y) (outs y)) (k : γ → Prg P β) : (@clY β P γ hno args ext r outs p @h k).run = bd p.run fun y => (k y).run := rfl
theorem r_eqW [Cel α] [ICel α] {l1 l2 : List α} {k : Prg P β} : (eqW l1 l2 k).run = k.run := rfl
theorem r_bxN {d : Nat} {cs : List AV} {k : Prg P β} : (bxN d cs k).run = k.run := rfl
theorem r_born2 {f o1 n1 o2 : Nat} {k : Prg P β} : (born2 f o1 n1 o2 k).run = k.run := rfl
theorem r_mvW {f n m : Nat} {k : Prg P β} : (mvW f n m k).run = k.run := rfl
theorem r_nilA {d sz : Nat} {k : Prg P β} : (nilA d sz k).run = k.run := rfl
theorem r_ldW {base n ri i j : Nat} {k : Prg P β} : (ldW base n ri i j k).run = bd (chk (ri < n ∧ base + ri = i)) fun _ => k.run := rfl
theorem r_stW {base n ri i j : Nat} {k : Prg P β} : (stW base n ri i j k).run = bd (chk (ri < n ∧ base + ri = i)) fun _ => k.run := rfl
theorem r_opnW {f m off base n ri : Nat} {os : List Nat} {M : List (List Int)} {k : List Int → Prg P β} : (opnW f m off base n ri os M k).run = bd (if ri < n ∧ base + ri ∉ os then M[base + ri]? else none) fun l => (k l).run := rfl
end
namespace Gen
open Go.Proofs
set_option linter.unusedVariables false
namespace Str
open Go.Fx.Str
def arcs1 (e : Edge) : List (Edge × Int × Int) := if e.From = e.To then [] else (e, e.From, e.To) :: (if e.Directed then [] else [(e, e.To, e.From)])
def arcsE (es : List Edge) : List (Edge × Int × Int) := es.flatMap arcs1
theorem arcsE_mem {es : List Edge} {p : Edge × Int × Int} : p ∈ arcsE es ↔ p.1 ∈ es ∧ p.1.From ≠ p.1.To ∧ (p.2 = (p.1.From, p.1.To) ∨ (p.1.Directed = false ∧ p.2 = (p.1.To, p.1.From))) := by
 obtain ⟨e, a, b⟩ := p
 simp only [arcsE, List.mem_flatMap, arcs1]
 constructor
 ·rintro ⟨f, hf, h⟩
  split at h
  ·simp at h
  ·rename_i hne
   rcases List.mem_cons.1 h with h | h
   ·cases h; exact ⟨hf, hne, .inl rfl⟩
   ·split at h
    ·simp at h
    ·rename_i hd
     simp only [List.mem_singleton, Prod.mk.injEq] at h
     obtain ⟨rfl, rfl, rfl⟩ := h
     exact ⟨hf, hne, .inr ⟨by simpa using hd, rfl⟩⟩
 ·rintro ⟨h1, h2, h3⟩
  refine ⟨e, h1, ?_⟩
  rw [if_neg h2]
  rcases h3 with h3 | ⟨h3, h4⟩
  ·cases h3; exact .head _
  ·cases h4; rw [if_neg (by simp [h3])]; exact .tail _ (.head _)
theorem arcs_ind {S : Type} {F : Int × S → Option (Nx (Int × S) (Ex S Empty Empty))} {stp : Edge → A2_Int → S → Option S} {es : List Edge} (hl : es.length < 1000000000)
  (hF : ∀ v s, F (v, s) = br (decide (v < (L es : Int))) (bd (gi es v) fun a => br (a.From == a.To) (some (.cont (IntKind.i64.wrap (v + 1), s))) (bd (stp a (A2_Int.mk a.From a.To) s) fun y => br (!true) (some (.done (.a y)))
   (br (!a.Directed) (bd (stp a (A2_Int.mk a.To a.From) y) fun y2 => br (!true) (some (.done (.a y2))) (some (.cont (IntKind.i64.wrap (v + 1), y2)))) (some (.cont (IntKind.i64.wrap (v + 1), y)))))) (some (.done (.a s))))
  (I : List (Edge × Int × Int) → S → Prop) (hs : ∀ pre p suf, arcsE es = pre ++ p :: suf → ∀ s, I pre s → ∃ s', stp p.1 (A2_Int.mk p.2.1 p.2.2) s = some s' ∧ I (pre ++ [p]) s') {s : S} (h0 : I [] s) :
  ∃ s', loopN fuel F ((0 : Int), s) = some (.a s') ∧ I (arcsE es) s' := by
 obtain ⟨r, h1, s', rfl, h3⟩ := loop_ix (f := F) (n := es.length) (fun i a => ((i : Int), a)) (fun i a => I (arcsE (es.take i)) a) (fun r => ∃ s', r = .a s' ∧ I (arcsE es) s')
  (fun i a hi hI => by
   have hx : es[i]? = some es[i] := by simp [hi]
   have hm : es[i] ∈ es := List.getElem_mem hi
   have ht : arcsE (es.take (i + 1)) = arcsE (es.take i) ++ arcs1 es[i] := by
    unfold arcsE
    rw [List.take_succ_eq_append_getElem hi, List.flatMap_append]
    simp only [List.flatMap_cons, List.flatMap_nil, List.append_nil]
   have hall : arcsE es = arcsE (es.take i) ++ (arcs1 es[i] ++ arcsE (es.drop (i + 1))) := by
    have e : arcsE es = arcsE (es.take (i + 1)) ++ arcsE (es.drop (i + 1)) := by
     conv => lhs; rw [← List.take_append_drop (i + 1) es]
     unfold arcsE; rw [List.flatMap_append]
    rw [e, ht, List.append_assoc]
   have hw : IntKind.i64.wrap ((i : Int) + 1) = ((i + 1 : Nat) : Int) := succ_wr hi (by omega)
   left
   rw [hF, L_eq, cast_lt_t hi, br_t, gi_s hx, bd_s, hw]
   generalize hq : es[i] = e at *
   by_cases he : e.From = e.To
   ·rw [show (e.From == e.To) = true by simpa using he, br_t]
    refine ⟨a, rfl, ?_⟩
    rw [ht, arcs1, if_pos he, List.append_nil]; exact hI
   ·rw [show (e.From == e.To) = false by simpa using he, br_f]
    rw [arcs1, if_neg he] at ht hall
    obtain ⟨s1, k1, k2⟩ := hs (arcsE (es.take i)) (e, e.From, e.To) _ hall a hI
    rw [k1, bd_s, Bool.not_true, br_f]
    cases hd : e.Directed with
    | true =>
     rw [Bool.not_true, br_f]
     refine ⟨s1, rfl, ?_⟩
     rw [ht, if_pos hd]; exact k2
    | false =>
     rw [if_neg (by simp [hd])] at ht hall
     obtain ⟨s2, k3, k4⟩ := hs (arcsE (es.take i) ++ [(e, e.From, e.To)]) (e, e.To, e.From) (arcsE (es.drop (i + 1))) (by rw [hall]; simp) s1 k2
     rw [Bool.not_false, br_t, k3, bd_s, br_f]
     refine ⟨s2, rfl, ?_⟩
     rw [ht]; simpa using k4)
  (fun a hI => by
   rw [hF, L_eq, cast_lt_f (by omega), br_f]
   rw [List.take_length] at hI
   exact ⟨_, rfl, a, rfl, hI⟩) (k := fuel) (a := s) (by have := fuel_pos; omega) h0
 exact ⟨s', h1, h3⟩
theorem arcs_loop {S : Type} {F : Int × S → Option (Nx (Int × S) (Ex S Empty Empty))} {stp : Edge → A2_Int → S → Option S} {es : List Edge} (hl : es.length < 1000000000)
  (hF : ∀ v s, F (v, s) = br (decide (v < (L es : Int))) (bd (gi es v) fun a => br (a.From == a.To) (some (.cont (IntKind.i64.wrap (v + 1), s))) (bd (stp a (A2_Int.mk a.From a.To) s) fun y => br (!true) (some (.done (.a y)))
   (br (!a.Directed) (bd (stp a (A2_Int.mk a.To a.From) y) fun y2 => br (!true) (some (.done (.a y2))) (some (.cont (IntKind.i64.wrap (v + 1), y2)))) (some (.cont (IntKind.i64.wrap (v + 1), y)))))) (some (.done (.a s))))
  (I : S → Prop) (g : S → Edge × Int × Int → S) (hs : ∀ p ∈ arcsE es, ∀ s, I s → stp p.1 (A2_Int.mk p.2.1 p.2.2) s = some (g s p) ∧ I (g s p)) {s : S} (h0 : I s) :
  loopN fuel F ((0 : Int), s) = some (.a ((arcsE es).foldl g s)) ∧ I ((arcsE es).foldl g s) := by
 obtain ⟨s', h1, rfl, h3⟩ := arcs_ind hl hF (fun pre a => a = pre.foldl g s ∧ I a) (fun pre p suf e a ⟨ha, hI⟩ => by
  obtain ⟨k1, k2⟩ := hs p (by rw [e]; simp) a hI
  exact ⟨_, k1, by rw [List.foldl_append, ← ha]; rfl, k2⟩) (s := s) ⟨rfl, h0⟩
 exact ⟨h1, h3⟩
def arcN (es : List Edge) : Arcs := (arcsE es).map fun p => (p.2.1.toNat, p.2.2.toNat)
theorem arcN_mem {es : List Edge} {a b : Nat} : (a, b) ∈ arcN es ↔ ∃ p ∈ arcsE es, p.2.1.toNat = a ∧ p.2.2.toNat = b := by
 simp [arcN]
end Str
end Gen
end Go.Fx
