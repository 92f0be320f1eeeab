/- Loops over functions: what a round comes to. -/
import Derived.Test.YtpdjphpjejjkpaaFxU
import Derived.RangeFuncIn
namespace Go.Fx
section
variable {P : Program} {M M' : Mm} {w w' : World} {σ : St} {a : Act}
structure At1 (l : Nat) (M : Mm) (w : World) (M' : Mm) (w' : World) : Prop where
 out : M.κ l = .outer
 nc : ∀ c T fr, w.heap[l]? ≠ some (.cells c T fr)
 hp : ∀ b, b ≠ l → w'.heap[b]? = w.heap[b]?
 κ : ∀ b, b ≠ l → M'.κ b = M.κ b
 β : M'.β = M.β
 φ : M'.φ = M.φ
 F0 : M'.F0 = M.F0
 os : w'.os = w.os
 tape : w'.tape = w.tape
 output : w'.output = w.output
 size : w'.heap.size = w.heap.size
theorem At1.fam {l : Nat} (h : At1 l M w M' w') (f i : Nat) : M'.fam f i = M.fam f i := by unfold Mm.fam; rw [h.φ]
theorem At1.lft {l : Nat} (h : At1 l M w M' w') : Lft M w M' w' where
 frz b _ hf := by
  have : b ≠ l := by rintro rfl; rw [h.out] at hf; cases hf
  exact ⟨(h.κ b this).trans hf, h.hp b this⟩
 shp b c T fr e := by
  have : b ≠ l := by rintro rfl; exact h.nc c T fr e
  exact ⟨c, by rw [h.hp b this]; exact e, rfl⟩
 fam f i b e := by rw [h.fam]; exact e
 f0 := h.F0
theorem At1.ob {l : Nat} (h : At1 l M w M' w') {n : Nat} {o : AObj} (r : ORel M w n o) : ORel M' w' n o :=
 r.lft h.lft (by rw [h.β]) (fun _ _ => by rw [h.β]) (fun b _ hc => by
  have : b ≠ l := by rintro rfl; rw [h.out] at hc; rcases hc with h | h <;> cases h
  exact ⟨h.κ b this, h.hp b this⟩) (fun _ _ _ _ _ _ _ => by rw [h.φ])
theorem At1.val {l : Nat} (h : At1 l M w M' w') {v : Value} {x : AV} (r : VRel M w v x) : VRel M' w' v x := r.lft h.lft fun _ _ => by rw [h.β]
theorem At1.st {l : Nat} (h : At1 l M w M' w') (R : RSt M σ a w) : RSt M' σ a w' :=
 ⟨R.sz, R.df, fun t v e => h.val (R.tm t v e), fun n o e => h.ob (R.ob n o e), R.wt, R.wo⟩
theorem At1.x {l : Nat} (h : At1 l M w M' w') {X : Nat → Prop} (hX : X l) : ExtX X M w M' w' where
 os := h.os
 tape := h.tape
 output := h.output
 size := by rw [h.size]; exact Nat.le_refl _
 keep b _ _ hx := h.hp b (by rintro rfl; exact hx hX)
 fro b hb e := (h.lft.frz b hb e).1
 out b _ e hx := (h.κ b (by rintro rfl; exact hx hX)).trans e
 shp := h.lft.shp
 fam := h.lft.fam
 low f _ _ := by rw [h.φ]
 f0 := h.F0
theorem At1.put {l : Nat} {r : Loop} {o : Obj} {κ' : Nat → Cls} (hk : M.κ l = .outer) (hl : w.heap[l]? = some (.loop r)) (hκ : ∀ b, b ≠ l → κ' b = M.κ b) : At1 l M w ⟨κ', M.β, M.φ, M.F0⟩ (w.putObj l o) :=
 ⟨hk, (fun c T fr h => by rw [hl] at h; cases h), fun b hb => World.putObj_heap_other hb, hκ, rfl, rfl, rfl, rfl, rfl, rfl, World.putObj_size⟩
/-! The round begins. -/
theorem WK.beginRound {fn ni : Nat} {d : Rd} (hr : d.lr.state = .ready) {k : List Item} {r : AV} {outs : List AObj} (h : WK P ⟨fn, ni, some ⟨{ d.lr with state := .busy }, d.ks, d.vs⟩⟩ k σ r outs) : WK P ⟨fn, ni, some d⟩ (.beginRound :: k) σ r outs := by
 intro M a w R b cs hb
 obtain ⟨h1, h2, l, h3, h4, h5, h6, h7, h8⟩ := hb.rd
 have A : At1 l M w ⟨M.κ, M.β, M.φ, M.F0⟩ (w.putObj l (.loop { d.lr with state := .busy })) := At1.put h5 h6 fun _ _ => rfl
 have hb' : BOk ⟨fn, ni, some ⟨{ d.lr with state := .busy }, d.ks, d.vs⟩⟩ ⟨M.κ, M.β, M.φ, M.F0⟩ (w.putObj l (.loop { d.lr with state := .busy })) b cs := by
  refine ⟨hb.fn, hb.kind, ⟨[], h1, .nil, by simp⟩, h1, h2, l, h3, h4, h5, World.putObj_heap_same (heap_lt h6), h7, fun i k v e1 e2 => A.val (h8 i k v e1 e2)⟩
 obtain ⟨v, M', w', k1, k2, k3⟩ := h _ a _ (A.st R) b cs hb'
 refine ⟨v, M', w', ?_, ⟨(A.x (X := XB b) (.inr h3)).trans k2.ext, k2.bev⟩, k3⟩
 have hst := stepR_beginRound (P := P) (b := b) (a := ⟨a.tmps, b.defers⟩) (k := k) (cs := cs) h3 (run_beginRound h6 hr)
 have k1 : ∃ c cs', cs = c :: cs' ∧ Steps P (lone (b.at2 a k) cs (w.putObj l (.loop { d.lr with state := .busy }))) (lone (c.finish v) cs' w') := k1
 obtain ⟨c, cs', e, hs⟩ := k1
 exact ⟨c, cs', e, .head hst hs⟩
/-! The round ends. -/
def rndJ (k : List Item) : Option (Option Code) := match k with
 | [] => some none
 | .code .ret :: _ => some (some .ret)
 | .code (.exit id) :: k => match exitTo id k with
  | none => some (some (.exit id))
  | some _ => none
 | _ => none
theorem rnd_step {b : Frame} {l : Nat} {k : List Item} {c : Frame} {cs : List Frame} {jump : Option Code} {r : Loop} (hb : b.roundOf = some l) (hk : b.kind = .normal) (hl : w.heap[l]? = some (.loop r)) (hj : rndJ k = some jump) :
  step P (lone (b.atR a k) (c :: cs) w) = .next (lone (c.finish (.bool jump.isNone)) cs (w.putObj l (.loop { r with state := if jump.isNone then .ready else .done, pending := jump }))) := by
 unfold rndJ at hj
 split at hj
 ·cases hj; exact stepR_round_end hb hk (run_endRound none hl)
 ·cases hj; exact stepR_round_ret hb hk (run_endRound (some .ret) hl)
 ·rename_i id k
  split at hj
  ·rename_i hx; cases hj; exact stepR_round_exit hb hk hx (run_endRound (some (.exit id)) hl)
  ·cases hj
 ·cases hj
theorem WK.roundEnd {fn nimp : Nat} {d : Rd} {ps : List Nat} {asg bdy : Code} {nt : Nat} {js : List Code} {p : Nat} {ts : Array Value} {fn0 D : Nat} (hd : d.lr = { lpRec fn0 ps asg bdy ts js 0 D with state := .busy }) (hnt : ts.size = nt) (hni : 0 < nimp)
  {k : List Item} {o0 : AObj} {outs : List AObj} {frz esc : List Nat} {pp : List Obl} (h : retA P [] σ nimp frz esc = some (pp, .tup [], o0 :: outs)) (hp : All pp) (hlen : nimp ≤ outs.length + 1)
  (hj : rndJ k = some (lpJ js p)) (hpj : p ≤ js.length) : WK P ⟨fn, nimp, some d⟩ k σ (.pv (.bool (Nat.beq p 0))) (.lp ps asg bdy nt d.ks d.vs js p :: outs) := by
 intro M a w R b cs hb
 obtain ⟨h1, h2, l, h3, h4, h5, h6, h7, h8⟩ := hb.rd
 obtain ⟨xs, M₂, _, E, hβ, _, hob, _, hon⟩ := retA_core (P := P) R h hp
 have hκ2 : M₂.κ l = .outer := E.out l (heap_lt h6) h5
 obtain ⟨c, cs', rfl⟩ : ∃ c cs', cs = c :: cs' := by cases cs with | nil => exact absurd rfl h2 | cons c cs' => exact ⟨c, cs', rfl⟩
 have hst := rnd_step (P := P) (a := ⟨a.tmps, b.defers⟩) (c := c) (cs := cs') h3 hb.kind h6 hj
 have hrec : ({ d.lr with state := if (lpJ js p).isNone then .ready else .done, pending := lpJ js p } : Loop) = lpRec fn0 ps asg bdy ts js p D := by
  rw [hd]
  unfold lpRec
  cases p with
  | zero => rfl
  | succ q =>
   have : (lpJ js (q + 1)).isNone = false := by
    show (js[q]?).isNone = false
    rw [List.getElem?_eq_getElem (by omega)]; rfl
   rw [this]; rfl
 rw [hrec] at hst
 have A : At1 l M₂ w ⟨updN M₂.κ l (.own 0), M₂.β, M₂.φ, M₂.F0⟩ (w.putObj l (.loop (lpRec fn0 ps asg bdy ts js p D))) := At1.put hκ2 h6 fun b hb => updN_ne _ _ hb
 have hβ0 : (M₂.β 0).2 = some (l, 0) := by
  have := hβ 0 hni
  rw [Nat.mul_zero] at this
  rw [this]; exact h4
 refine ⟨.bool (lpJ js p).isNone, _, _, ⟨c, cs', rfl, .one hst⟩, ⟨E.x.trans (A.x (.inr h3)), hβ⟩, ?_, ?_, by simp [AV.nms], ?_⟩
 ·have : (lpJ js p).isNone = Nat.beq p 0 := by
   cases p with
   | zero => rfl
   | succ q => show (js[q]?).isNone = false; rw [List.getElem?_eq_getElem (by omega)]; rfl
  rw [this]; exact .pv _ _ (.bool _)
 ·intro j o ho
  cases j with
  | zero =>
   simp only [List.getElem?_cons_zero, Option.some.injEq] at ho
   subst ho
   refine .lp ps asg bdy nt d.ks d.vs js p l ts fn0 D (by rw [Nat.mul_zero]; exact hβ0) (by rw [Nat.mul_zero]; exact updN_self _ _ _) (World.putObj_heap_same (heap_lt h6)) hnt (fun i t v e1 e2 => ?_) hpj
   have := h8 i t v e1 e2
   rw [hd] at this
   refine A.val (this.mono E fun n hn => ?_)
   obtain ⟨q, hq, rfl⟩ := h7 v (List.mem_of_getElem? e2) n hn
   exact hβ q hq
  | succ j =>
   rw [List.getElem?_cons_succ] at ho
   exact A.ob (hob (j + 1) o (by rw [List.getElem?_cons_succ]; exact ho))
 ·intro o ho n hn
  rcases List.mem_cons.1 ho with rfl | ho
  ·simp only [AObj.nms] at hn
   obtain ⟨v, hv, hn⟩ := nmsL_iff.1 hn
   obtain ⟨q, hq, rfl⟩ := h7 v hv n hn
   have hq : q < nimp := hq
   exact ⟨q, by simp only [List.length_cons]; omega, rfl⟩
  ·have := hon o (.tail _ ho) n hn
   exact this
end
end Go.Fx
