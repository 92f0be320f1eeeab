/- Steps that the code does not make: a nil slice told as an own one; the last row of an own slice as an own slice. -/
import Derived.Test.YtpdjphpjejjkpaaFxTb
namespace Go.Fx
def gNilT (t m sz : Nat) : Gst := fun σ => match lk σ.t t, lk σ.o m, m % 2, Nat.beq sz 0 with
 | some (.pv .nilsl), none, 1, false => some ([], { σ with t := up σ.t t (.hw m sz), o := up σ.o m (.sl false sz []) })
 | _, _, _, _ => none
def SloOk (rows rws : List (List PV)) : Prop := rws.length = rows.length ∧ ∀ (i : Nat) (r : List PV), rws[i]? = some r → (r ≠ [.ow 0] ∧ rows[i]? = some r) ∨ (r = [.ow 0] ∧ rows[i]? = some [.nilsl])
def ShutOk (rows rws l : List (List PV)) : Prop := rws.length = rows.length ∧ ∀ (i : Nat) (r : List PV), rws[i]? = some r → rows[i]? = some r ∨ (r = [.sl l] ∧ rows[i]? = some [.ow 0])
def gSlo (f m : Nat) (rws : List (List PV)) : Gst := fun σ => match lk σ.o f, lk σ.o m, m % 2 with
 | some (.sl false 1 rows), none, 1 => some ([.p (SloOk rows rws)], { σ with o := up (up σ.o m (.sl false 1 [])) f (.slo rws m) })
 | _, _, _ => none
def gShut (f m : Nat) (rws : List (List PV)) : Gst := fun σ => match lk σ.o f, lk σ.o m with
 | some (.slo rows m'), some (.sl false 1 l) => match Nat.beq m m', Nat.beq m f with
  | true, false => some ([.p (ShutOk rows rws l)], { σ with o := up (up σ.o m (.sl true 1 l)) f (.sl false 1 rws) })
  | _, _ => none
 | _, _ => none
section
variable {P : Program} {M : Mm} {w : World} {σ : St} {a : Act}
theorem gNilT_ok (t m sz : Nat) : GsOk (gNilT t m sz) := by
 intro P fid k r outs σ l σ' e _ hk M a w R b cs hb
 unfold gNilT at e
 split at e
 case h_2 => cases e
 rename_i hx hL hodd hsz
 cases e
 obtain ⟨R', E, hβ⟩ := R.ghost (n := m) (sz := sz) hL hodd (by rintro rfl; simp at hsz)
 have R₁ : RSt ⟨M.κ, updN M.β m (0, none), M.φ, M.F0⟩ { σ with t := up σ.t t (.hw m sz), o := up σ.o m (.sl false sz []) } a w := by
  refine ⟨R'.sz, R'.df, ?_, R'.ob, ?_, R'.wo⟩
  ·intro q v hv
   simp only at hv
   rw [lk_up] at hv
   split at hv
   ·rename_i e1
    subst e1; cases hv
    have hv0 := rel_nilsl (R.tm t _ hx)
    rw [hv0]
    refine .hw _ _ _ ?_
    rw [show (updN M.β m (0, none) m).1 = 0 from updN_1 _ _ _]
    exact .hd0 m 0 sz none
   ·exact R'.tm q v hv
  ·intro q v hv k hk
   simp only at hv
   rw [lk_up] at hv
   split at hv
   ·cases hv
    simp [AV.nms] at hk
    subst hk
    simp only [lk_up, if_true, Option.isSome_some]
   ·exact R'.wt q v hv k hk
 have g : Go1 M w ⟨M.κ, updN M.β m (0, none), M.φ, M.F0⟩ w := ⟨E, hβ⟩
 obtain ⟨v, M', w', h1, h4, h5⟩ := hk _ a w R₁ b cs (hb.mono g)
 exact ⟨v, M', w', h1, g.trans2 h4, h5⟩
theorem RSt.retell2 (R : RSt M σ a w) {f : Nat} {o o' : AObj} (hf : lk σ.o f = some o) (hO : ORel M w f o → ORel M w f o') (hn : ∀ k ∈ o'.nms, (lk σ.o k).isSome) : RSt M { σ with o := up σ.o f o' } a w := by
 have dom : ∀ k, (lk σ.o k).isSome → (lk (up σ.o f o') k).isSome := by
  intro k hk; rw [lk_up]; split
  ·rfl
  ·exact hk
 refine ⟨R.sz, R.df, R.tm, ?_, fun t v hv k hk => dom k (R.wt t v hv k hk), ?_⟩
 ·intro m o2 hm
  rw [lk_up] at hm
  split at hm
  ·rename_i e; subst e; cases hm; exact hO (R.ob f o hf)
  ·exact R.ob m o2 hm
 ·intro m o2 hm k hk
  rw [lk_up] at hm
  split at hm
  ·cases hm; exact dom k (hn k hk)
  ·exact dom k (R.wo m o2 hm k hk)
theorem gSlo_ok (f m : Nat) (rws : List (List PV)) : GsOk (gSlo f m rws) := by
 intro P fid k r outs σ l σ' e ha hk M a w R b cs hb
 unfold gSlo at e
 split at e
 case h_2 => cases e
 rename_i rows hf hL hodd
 cases e
 obtain ⟨hok, _⟩ := ha
 obtain ⟨R', E, hβ⟩ := R.ghost (n := m) (sz := 1) hL hodd (by decide)
 have hfm : m ≠ f := by rintro rfl; rw [hf] at hL; cases hL
 have hf' : lk (up σ.o m (.sl false 1 [])) f = some (.sl false 1 rows) := by rw [lk_up, if_neg hfm]; exact hf
 have R₁ := R'.retell2 (f := f) (o' := .slo rws m) hf' (fun h => by
  have hm : (updN M.β m (0, none) m).1 = 0 := updN_1 _ _ _
  cases h with
  | sl0 _ _ s0 s1 s2 =>
   have : rws = [] := List.eq_nil_of_length_eq_zero (by rw [hok.1]; rfl)
   subst this
   exact .slo [] m (.sl0 false 1 s0 s1 s2) fun _ _ _ _ _ _ _ _ h => by simp at h
  | sl _ _ _ b' base c T g0 g1 g2 g3 g4 g5 g6 g7 =>
   refine .slo rws m (.sl false 1 rws b' base c T g0 g1 g2 g3 (by rw [hok.1]; exact g4) (fun r hr => ?_) (fun i r j p x h1 h2 h3 => ?_) (by rw [hok.1]; exact g7)) fun b2 base2 c2 T2 i x h1 h2 h3 h4 => ?_
   ·obtain ⟨i, hi⟩ := List.getElem?_of_mem hr
    rcases hok.2 i r hi with ⟨_, h⟩ | ⟨h, _⟩
    ·exact g5 r (List.mem_of_getElem? h)
    ·subst h; rfl
   ·rcases hok.2 i r h1 with ⟨_, h⟩ | ⟨h, h'⟩
    ·exact g6 i r j p x h h2 h3
    ·subst h
     cases j with
     | succ j => simp at h2
     | zero =>
      simp only [List.getElem?_cons_zero, Option.some.injEq] at h2
      subst h2
      have := rel_nilsl (.pv _ _ (g6 i _ 0 _ x h' rfl h3))
      rw [this]
      exact .ow _ _ _ _
   ·have h1 : (updN M.β m (0, none) f).2 = some (b2, base2) := h1
    have g1 : (updN M.β m (0, none) f).2 = some (b', base) := g1
    rw [g1] at h1; cases h1
    rw [g3] at h2; cases h2
    rcases hok.2 i _ h3 with ⟨h, _⟩ | ⟨_, h'⟩
    ·exact absurd rfl h
    ·have := rel_nilsl (.pv _ _ (g6 i _ 0 _ x h' rfl (by rw [show base + i * 1 + 0 = base + i by omega]; exact h4)))
     rw [this]
     refine .hw _ _ _ ?_
     rw [hm]
     exact .hd0 m 0 1 none) (fun q hq => by
   simp only [AObj.nms, List.mem_singleton] at hq
   subst hq
   rw [lk_up, if_pos rfl]; rfl)
 have g : Go1 M w ⟨M.κ, updN M.β m (0, none), M.φ, M.F0⟩ w := ⟨E, hβ⟩
 obtain ⟨v, M', w', h1, h4, h5⟩ := hk _ a w R₁ b cs (hb.mono g)
 exact ⟨v, M', w', h1, g.trans2 h4, h5⟩
theorem gShut_ok (f m : Nat) (rws : List (List PV)) : GsOk (gShut f m rws) := by
 intro P fid k r outs σ l σ' e ha hk M a w R b cs hb
 unfold gShut at e
 split at e
 case h_2 => cases e
 rename_i rows m' l0 hf hL
 split at e
 case h_2 => cases e
 rename_i hm hmf
 have hm := nbeq_eq hm
 subst hm
 cases e
 obtain ⟨hok, _⟩ := ha
 have hfm : m ≠ f := by rintro rfl; simp at hmf
 obtain ⟨M₁, R₁, E₁, B₁, _, _⟩ := frzObjs_sound (frz := [m]) (wf := [(m, .sl true 1 l0)]) R (by simp only [frzObjs, St.obj, hL]) (by simp [nodupN, allNat])
 have hf' : lk (up σ.o m (.sl true 1 l0)) f = some (.slo rows m) := by rw [lk_up, if_neg hfm]; exact hf
 have hm' : lk (up σ.o m (.sl true 1 l0)) m = some (.sl true 1 l0) := by rw [lk_up, if_pos rfl]
 have hmo := R₁.ob m _ hm'
 have R₂ := RSt.retell1 (o' := .sl false 1 rws) R₁ hf' (fun h => by
  cases h with | slo _ _ f0 f1 =>
  cases f0 with
  | sl0 _ _ s0 s1 s2 =>
   have : rws = [] := List.eq_nil_of_length_eq_zero (by rw [hok.1]; rfl)
   subst this
   exact .sl0 false 1 s0 s1 s2
  | sl _ _ _ b' base c T g0 g1 g2 g3 g4 g5 g6 g7 =>
   refine .sl false 1 rws b' base c T g0 g1 g2 g3 (by rw [hok.1]; exact g4) (fun r hr => ?_) (fun i r j p x h1 h2 h3 => ?_) (by rw [hok.1]; exact g7)
   ·obtain ⟨i, hi⟩ := List.getElem?_of_mem hr
    rcases hok.2 i r hi with h | ⟨h, _⟩
    ·exact g5 r (List.mem_of_getElem? h)
    ·subst h; rfl
   ·rcases hok.2 i r h1 with h | ⟨h, h'⟩
    ·exact g6 i r j p x h h2 h3
    ·subst h
     cases j with
     | succ j => simp at h2
     | zero =>
      simp only [List.getElem?_cons_zero, Option.some.injEq] at h2
      subst h2
      have hv := f1 b' base c T i x g1 g3 h' (by rw [show base + i * 1 + 0 = base + i by omega] at h3; exact h3)
      have := hd_frozen (hw_hd hv hmo) hmo rfl
      cases this with | pv _ _ h => exact h) (fun q hq => by simp [AObj.nms] at hq)
 have g : Go1 M w M₁ w := ⟨E₁, fun q _ => by rw [B₁]⟩
 obtain ⟨v, M', w', h1, h4, h5⟩ := hk _ a w R₂ b cs (hb.mono g)
 exact ⟨v, M', w', h1, g.trans2 h4, h5⟩
/-! The same, the slice found by a temporary that holds its header. -/
def gSloT (t m : Nat) (rws : List (List PV)) : Gst := fun σ => match lk σ.t t with
 | some (.hw f _) => gSlo f m rws σ
 | _ => none
def gShutT (t : Nat) (rws : List (List PV)) : Gst := fun σ => match lk σ.t t with
 | some (.hw f _) => match lk σ.o f with
  | some (.slo _ m) => gShut f m rws σ
  | _ => none
 | _ => none
theorem gSloT_ok (t m : Nat) (rws : List (List PV)) : GsOk (gSloT t m rws) := by
 intro P fid k r outs σ l σ' e ha hk
 unfold gSloT at e
 split at e
 ·exact gSlo_ok _ _ _ P fid k r outs σ l σ' e ha hk
 ·cases e
theorem gShutT_ok (t : Nat) (rws : List (List PV)) : GsOk (gShutT t rws) := by
 intro P fid k r outs σ l σ' e ha hk
 unfold gShutT at e
 split at e
 ·split at e
  ·exact gShut_ok _ _ _ P fid k r outs σ l σ' e ha hk
  ·cases e
 ·cases e
end
end Go.Fx
