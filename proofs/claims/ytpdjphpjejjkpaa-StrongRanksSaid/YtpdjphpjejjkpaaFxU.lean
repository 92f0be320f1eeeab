/- Cuts and returns of the check are sound. -/
import Derived.Test.YtpdjphpjejjkpaaFxS
namespace Go.Fx
theorem obT_ok {ob : List Obl} {t t' : T} (h : obT true ob t = obT false ob t') (hp : AllP (obP ob)) : All ob ∧ t = t' := by
 induction ob with
 | nil => exact ⟨trivial, h⟩
 | cons o ob ih =>
  cases o with
  | p q => obtain ⟨h1, h2⟩ := ih h hp.2; exact ⟨⟨hp.1, h1⟩, h2⟩
  | e a b =>
   simp only [obT, sd, T.v.injEq, heq_eq_eq, true_and] at h
   obtain ⟨h1, h2⟩ := ih h.2 hp
   exact ⟨⟨h.1, h1⟩, h2⟩
theorem pureT_ok {ob : List Obl} {t t' : T} (h : pureT true ob t = pureT false ob t') : All ob ∧ t = t' := by
 unfold pureT at h
 cases hp : obP ob with
 | nil => rw [hp] at h; exact obT_ok h (by rw [hp]; trivial)
 | cons p ps => rw [hp] at h; simp at h
section
variable {P : Program} {M : Mm} {w : World} {σ : St} {a : Act}
theorem ghosts_sound : ∀ {gh : List (Nat × Nat)} {σ σ' : St} {M : Mm}, ghosts gh σ = some σ' → RSt M σ a w → (∃ M', RSt M' σ' a w ∧ Go1 M w M' w) ∧ σ'.n = σ.n
 | [], σ, σ', M, h, R => by simp only [ghosts, Option.some.injEq] at h; subst h; exact ⟨⟨M, R, .refl M w⟩, rfl⟩
 | (n, sz) :: r, σ, σ', M, h, R => by
  simp only [ghosts] at h
  split at h
  ·rename_i hL hodd hsz
   obtain ⟨R', E, hβ⟩ := R.ghost (n := n) (sz := sz) hL hodd (by rintro rfl; simp at hsz)
   obtain ⟨⟨M', R'', g⟩, hn⟩ := ghosts_sound h R'
   exact ⟨⟨M', R'', Go1.trans ⟨E, hβ⟩ g⟩, hn⟩
  ·cases h
theorem frzT_get {L : Nat → Option AObj} {frz : List Nat} {t : List (Nat × AV)} : ∀ {e r : List (Nat × AV)} {p : List Obl}, frzT L frz t e = some (p, r) → All p →
  ∀ (x : Nat) (v' : AV), lk r x = some v' → ∃ v q, lk t x = some v ∧ frzArg2 L frz v = some (q, v') ∧ All q
 | [], r, p, h, _, x, v', hx => by simp only [frzT, Option.some.injEq, Prod.mk.injEq] at h; obtain ⟨_, rfl⟩ := h; simp [lk] at hx
 | (y, _) :: e, r, p, h, hp, x, v', hx => by
  simp only [frzT] at h
  split at h
  ·rename_i v hv
   split at h
   ·rename_i q u q' l h1 h2
    cases h
    rw [All_append] at hp
    simp only [lk] at hx
    split at hx
    ·rename_i e'; have := nbeq_eq e'; subst this; cases hx; exact ⟨v, q, hv, h1, hp.1⟩
    ·exact frzT_get h2 hp.2 x v' hx
   ·cases h
  ·cases h
theorem cvT_get {L : Nat → Option AObj} {t : List (Nat × AV)} : ∀ {e : List (Nat × AV)} {p : List Obl}, cvT L t e = some p → All p →
  ∀ (x : Nat) (v' : AV), lk e x = some v' → ∃ v q, lk t x = some v ∧ cvA L v v' = some q ∧ All q
 | [], p, _, _, x, v', hx => by simp [lk] at hx
 | (y, u) :: e, p, h, hp, x, v', hx => by
  simp only [cvT] at h
  split at h
  ·rename_i v hv
   split at h
   ·rename_i q q' h1 h2
    cases h
    rw [All_append] at hp
    simp only [lk] at hx
    split at hx
    ·rename_i e'; have := nbeq_eq e'; subst this; cases hx; exact ⟨v, q, hv, h1, hp.1⟩
    ·exact cvT_get h2 hp.2 x v' hx
   ·cases h
  ·cases h
theorem cvB_get {L : Nat → Option AObj} {t : List (Nat × AObj)} : ∀ {e : List (Nat × AObj)} {p : List Obl}, cvB L t e = some p → All p →
  ∀ (x : Nat) (v' : AObj), lk e x = some v' → ∃ v q, lk t x = some v ∧ cvO L v v' = some q ∧ All q
 | [], p, _, _, x, v', hx => by simp [lk] at hx
 | (y, u) :: e, p, h, hp, x, v', hx => by
  simp only [cvB] at h
  split at h
  ·rename_i v hv
   split at h
   ·rename_i q q' h1 h2
    cases h
    rw [All_append] at hp
    simp only [lk] at hx
    split at hx
    ·rename_i e'; have := nbeq_eq e'; subst this; cases hx; exact ⟨v, q, hv, h1, hp.1⟩
    ·exact cvB_get h2 hp.2 x v' hx
   ·cases h
  ·cases h
theorem domOk_get {o : List (Nat × AObj)} : ∀ {r : List (Nat × AObj)}, domOk o r = true → ∀ n, (lk r n).isSome → (lk o n).isSome
 | [], _, n, h => by simp [lk] at h
 | (m, _) :: r, h, n, hn => by
  simp only [domOk] at h
  split at h
  ·rename_i o' ho
   simp only [lk] at hn
   split at hn
   ·rename_i e; have := nbeq_eq e; subst this; rw [ho]; rfl
   ·exact domOk_get h n hn
  ·cases h
theorem cutC_sound {e : Enc} {p : List Obl} (h : cutC σ e = some p) (hp : All p) (R : RSt M σ a w) : RSt M (enc σ.n e) a w := by
 unfold cutC at h
 split at h
 ·rename_i p q hd h1 h2
  cases h
  rw [All_append] at hp
  have ht := cvT_get h1 hp.1
  have ho := cvB_get h2 hp.2
  have dom := domOk_get hd
  refine ⟨R.sz, R.df, ?_, ?_, ?_, ?_⟩
  ·intro x v hx
   obtain ⟨u, q, k1, k2, k3⟩ := ht x v hx
   exact (cvA_rel R.nil0 k2 k3 (R.tm x u k1)).1
  ·intro n o hn
   obtain ⟨u, q, k1, k2, k3⟩ := ho n o hn
   exact (cvO_rel R.nil0 k2 k3 (R.ob n u k1)).1
  ·intro x v hx n hn
   obtain ⟨u, q, k1, k2, k3⟩ := ht x v hx
   exact dom n ((cvA_nms k2 k3 n hn).elim (R.wt x u k1 n) id)
  ·intro m o hm n hn
   obtain ⟨u, q, k1, k2, k3⟩ := ho m o hm
   exact dom n ((cvO_nms k2 k3 n hn).elim (R.wo m u k1 n) id)
 ·cases h
theorem keepSt_n {kt : List Nat} {ko : List (Nat × Nat)} {σ' : St} (h : keepSt kt ko σ = some σ') : σ'.n = σ.n := by
 unfold keepSt at h
 split at h
 ·cases h; rfl
 ·cases h
theorem cutB_sound {e : Enc} {frz : List Nat} {ko : List (Nat × Nat)} {p : List Obl} (h : cutB σ e frz ko = some p) (hp : All p) (R : RSt M σ a w) :
  ∃ M', RSt M' (enc σ.n e) a w ∧ Go1 M w M' w := by
 unfold cutB at h
 split at h
 ·rename_i wf p t hfo hft hnd
  split at h
  ·rename_i σ' hk
   split at h
   ·rename_i q hc
    cases h
    rw [All_append] at hp
    obtain ⟨M₁, R₁, E₁, B₁, f1, f2⟩ := frzObjs_sound R hfo hnd
    have get := frzT_get hft hp.1
    have R₂ : RSt M₁ ⟨σ.n, t, wrO σ.o wf⟩ a w := by
     refine ⟨R₁.sz, R₁.df, ?_, R₁.ob, ?_, R₁.wo⟩
     ·intro x v hx
      obtain ⟨u, q, k1, k2, k3⟩ := get x v hx
      exact (frzArg2_sound (σ := σ) (σ₁ := { σ with o := wrO σ.o wf }) f2 R₁.ob k2 k3).1 _ ((R.tm x u k1).mono E₁ fun n _ => by rw [B₁])
     ·intro x v hx n hn
      obtain ⟨u, q, k1, k2, k3⟩ := get x v hx
      exact wrO_dom (R.wt x u k1 n (frzArg2_nms k2 n hn))
    obtain ⟨M₂, R₃, g⟩ := keep_sound hk R₂
    have := cutC_sound hc hp.2 R₃
    rw [keepSt_n hk] at this
    exact ⟨M₂, this, Go1.trans ⟨E₁, fun n _ => by rw [B₁]⟩ g⟩
   ·cases h
  ·cases h
 ·cases h
theorem cutA_sound {e : Enc} {n : Nat} {p : List Obl} (h : cutA σ e n = some p) (hp : All p) (R : RSt M σ a w) :
  ∃ M', RSt M' (enc σ.n e) a w ∧ Go1 M w M' w := by
 unfold cutA at h
 split at h
 ·rename_i σ' hg
  obtain ⟨⟨M₁, R₁, g⟩, hn⟩ := ghosts_sound hg R
  obtain ⟨M₂, R₂, g2⟩ := cutB_sound h hp R₁
  rw [hn] at R₂
  exact ⟨M₂, R₂, g.trans g2⟩
 ·cases h
theorem WK.cut {fid : Fid} {k : List Item} {r : AV} {outs : List AObj} {N : Nat} {e : Enc} {n : Nat} (h : cutT true N σ e n = cutT false N σ e n) (hk : WK P fid k (enc N e) r outs) : WK P fid k σ r outs := by
 unfold cutT at h
 cases hc : cutA σ e n with
 | none => rw [hc] at h; simp at h
 | some ob =>
  rw [hc] at h
  simp only [sd, T.v.injEq, heq_eq_eq, true_and] at h
  obtain ⟨h1, h2⟩ := h
  have hall := (pureT_ok h2).1
  intro M a w R b cs hb
  obtain ⟨M', R', g⟩ := cutA_sound hc hall R
  rw [h1] at R'
  obtain ⟨v, M'', w', k1, k4, k5⟩ := hk M' a w R' b cs (hb.mono g)
  exact ⟨v, M'', w', k1, g.trans2 k4, k5⟩
theorem WK.conv {fid : Fid} {k : List Item} {r r' : AV} {outs outs' : List AObj} (h : WK P fid k σ r outs) (h1 : ∀ (M : Mm) (w : World) (v : Value), VRel M w v r → VRel M w v r') (h2 : ∀ n ∈ r'.nms, n ∈ r.nms)
  (h3 : outs.length = outs'.length) (h4 : ∀ (i : Nat) (o o' : AObj), outs[i]? = some o → outs'[i]? = some o' → (∀ (M : Mm) (w : World) (n : Nat), ORel M w n o → ORel M w n o') ∧ ∀ n ∈ o'.nms, n ∈ o.nms) : WK P fid k σ r' outs' := by
 intro M a w R b cs hb
 have back : ∀ (i : Nat) (o' : AObj), outs'[i]? = some o' → ∃ o, outs[i]? = some o := fun i o' e => ⟨outs[i]'(by rw [h3]; exact (List.getElem?_eq_some_iff.1 e).1), List.getElem?_eq_getElem _⟩
 obtain ⟨v, M', w', k1, k4, k5, k6, k7, k8⟩ := h M a w R b cs hb
 refine ⟨v, M', w', k1, k4, h1 M' w' v k5, ?_, ?_, ?_⟩
 ·intro i o' e
  obtain ⟨o, ho⟩ := back i o' e
  exact (h4 i o o' ho e).1 M' w' _ (k6 i o ho)
 ·intro n hn; rw [← h3]; exact k7 n (h2 n hn)
 ·intro o' ho' n hn
  obtain ⟨i, hi⟩ := List.getElem?_of_mem ho'
  obtain ⟨o, ho⟩ := back i o' hi
  rw [← h3]; exact k8 o (List.mem_of_getElem? ho) n ((h4 i o o' ho hi).2 n hn)
theorem noO0 {M : Mm} : ∀ n fz sz, noO n = some (.sl fz sz []) → (M.β n).1 = 0 := by intro _ _ _ h; cases h
theorem cvR_rel {vs : List AV} {r : AV} {q : List Obl} (h : cvR vs r = some q) (hq : All q) : (∀ (M : Mm) (w : World) (v : Value), VRel M w v (tupA vs) → VRel M w v r) ∧ ∀ n ∈ r.nms, n ∈ (tupA vs).nms := by
 have tup : ∀ {xs : List AV}, cvL noO vs xs = some q → (∀ (M : Mm) (w : World) (v : Value), VRel M w v (.tup vs) → VRel M w v (.tup xs)) ∧ ∀ n ∈ (AV.tup xs).nms, n ∈ (AV.tup vs).nms := by
  intro xs h
  refine ⟨fun M w v hv => ?_, fun n hn => ?_⟩
  ·obtain ⟨d1, d2⟩ := cvL_rel (M := M) (w := w) noO0 h hq
   cases hv with | tup ys _ e1 e2 =>
   refine .tup ys xs (e1.trans d1) fun i v c g1 g2 => ?_
   have hi : i < vs.length := by rw [d1]; exact (List.getElem?_eq_some_iff.1 g2).1
   exact (d2 i vs[i] c (List.getElem?_eq_getElem hi) g2).1 v (e2 i v _ g1 (List.getElem?_eq_getElem hi))
  ·obtain ⟨d1, d2⟩ := cvL_rel (M := M0') (w := default) noO0 h hq
   simp only [AV.nms] at hn ⊢
   obtain ⟨c, hc, hn⟩ := nmsL_iff.1 hn
   obtain ⟨i, g2⟩ := List.getElem?_of_mem hc
   have hi : i < vs.length := by rw [d1]; exact (List.getElem?_eq_some_iff.1 g2).1
   have := (d2 i vs[i] c (List.getElem?_eq_getElem hi) g2).2 n hn
   exact nmsL_iff.2 ⟨vs[i], List.getElem_mem hi, this.elim id fun h => by cases h⟩
 unfold cvR at h
 split at h
 ·exact ⟨fun M w v hv => (cvA_rel noO0 h hq hv).1, fun n hn => (cvA_nms h hq n hn).elim id fun h => by cases h⟩
 ·rename_i vs' hne
  split at h
  ·have e : tupA vs = .tup vs := by
    unfold tupA
    split
    ·rename_i v; exact absurd rfl (hne v)
    ·rfl
   rw [e]; exact tup h
  ·cases h
where
 M0' : Mm := ⟨fun _ => .frozen, fun _ => (0, none), [], 0⟩
theorem nilRet_sound {rs : List ResultVar} {r : AV} {n : Nat} (R : RSt M σ a w) : ∃ M', RSt M' (nilRet rs r n σ) a w ∧ Go1 M w M' w := by
 unfold nilRet
 split
 ·rename_i x e sz
  split
  ·rename_i hx hL hodd hsz
   obtain ⟨R', E, hβ⟩ := R.ghost (n := n) (sz := sz) hL hodd (by rintro rfl; simp at hsz)
   refine ⟨_, ⟨R'.sz, R'.df, ?_, R'.ob, ?_, R'.wo⟩, E, hβ⟩
   ·intro t v hv
    simp only at hv
    rw [lk_up] at hv
    split at hv
    ·rename_i e1
     subst e1; cases hv
     have hv0 := rel_nilsl (R.tm x _ hx)
     rw [hv0]
     refine .hw _ _ _ ?_
     rw [show (updN M.β n (0, none) n).1 = 0 from updN_1 _ _ _]
     exact .hd0 n 0 sz none
    ·exact R'.tm t v hv
   ·intro t v hv k hk
    simp only at hv
    rw [lk_up] at hv
    split at hv
    ·cases hv
     simp [AV.nms] at hk
     subst hk
     simp only [lk_up, if_true, Option.isSome_some]
    ·exact R'.wt t v hv k hk
  ·exact ⟨M, R, .refl M w⟩
 ·exact ⟨M, R, .refl M w⟩
theorem WK.nilRet {fid : Fid} {k : List Item} {r r0 : AV} {outs : List AObj} {rs : List ResultVar} {n : Nat} (hk : WK P fid k (nilRet rs r0 n σ) r outs) : WK P fid k σ r outs := by
 intro M a w R b cs hb
 obtain ⟨M', R', g⟩ := nilRet_sound (rs := rs) (r := r0) (n := n) R
 obtain ⟨v, M'', w', k1, k4, k5⟩ := hk M' a w R' b cs (hb.mono g)
 exact ⟨v, M'', w', k1, g.trans2 k4, k5⟩
theorem RSt.retell (R : RSt M σ a w) {x : Nat} {out : Out} {M' : Mm} (p : Post M σ w out M' (a.tmps.getD x Go.undef) w) : RSt M' { σ with t := up σ.t x out.v, o := wrO σ.o out.wr } a w := by
 refine ⟨R.sz, R.df, ?_, p.obj, ?_, p.onm⟩
 ·intro t v hv
  simp only [lk_up] at hv
  split at hv
  ·rename_i e; subst e; cases hv; exact p.val
  ·exact (R.tm t v hv).mono p.ext fun n hn => p.bet n (R.wt t v hv n hn)
 ·intro t v hv k hk
  simp only [lk_up] at hv
  split at hv
  ·cases hv; exact p.vnm k hk
  ·exact wrO_dom (R.wt t v hv k hk)
theorem ownRet_sound {ni : Nat} {rs : List ResultVar} {r : AV} {n : Nat} (R : RSt M σ a w) : ∃ M', RSt M' (ownRet ni rs r n σ) a w ∧ Go1 M w M' w := by
 unfold ownRet
 split
 ·rename_i x q sq
  split
  ·rename_i e sz hq hx
   split
   ·rename_i sz' rows he hL hLn hodd
    have hns : (lk σ.o e).isSome := by rw [hL]; rfl
    have hv := R.tm x _ hx
    have ho := R.ob e _ hL
    suffices hM : ∃ M', Post M σ w ⟨[], .hw n sz, [(e, .dead), (n, .sl false sz' rows)]⟩ M' (a.tmps.getD x Go.undef) w by
     obtain ⟨M', p⟩ := hM
     exact ⟨M', R.retell p, p.ext, p.bev⟩
    generalize a.tmps.getD x Go.undef = v at hv ⊢
    cases hv with | hw _ _ _ hv =>
    cases ho with
    | sl0 _ _ h0 g1 g2 =>
     rw [g2] at hv
     refine ⟨⟨M.κ, updN M.β n (0, none), M.φ, M.F0⟩, ?_⟩
     refine Post.turn (M := M) (M' := ⟨M.κ, updN M.β n (0, none), M.φ, M.F0⟩) R hodd hns hLn rfl ⟨rfl, rfl, rfl, Nat.le_refl _, fun _ _ _ => rfl, fun _ _ h => h, fun _ _ h => h, fun _ c _ _ h => ⟨c, h, rfl⟩, fun _ _ _ h => h, fun _ _ _ => rfl, rfl⟩ (fun k hk => updN_ne _ _ hk) ?_ ?_ (by simp [AV.nms]) rfl (fun _ _ _ _ _ => ⟨rfl, rfl⟩)
     ·refine .hw _ _ _ ?_
      rw [show (updN M.β n (0, none) n).1 = 0 from updN_1 _ _ _]
      cases hv with
      | hd0 => exact .hd0 n 0 sz _
      | hd _ _ _ _ b base cap c T fr f1 => rw [g1] at f1; cases f1
     ·exact .sl0 false _ h0 (updN_2 _ _ _) (updN_1 _ _ _)
    | sl _ _ _ b base c T h0 g1 g2 g3 g4 g5 g6 g7 =>
     have hκ : M.κ b = .own e := g2
     have hext : Ext M w ⟨updN M.κ b (.own n), updN M.β n (rows.length, some (b, base)), M.φ, M.F0⟩ w := by
      refine ⟨rfl, rfl, rfl, Nat.le_refl _, fun _ _ _ => rfl, ?_, ?_, fun _ c _ _ h => ⟨c, h, rfl⟩, fun _ _ _ h => h, fun _ _ _ => rfl, rfl⟩
      ·intro k _ hk
       have : k ≠ b := by rintro rfl; rw [hκ] at hk; cases hk
       simp only; rw [updN_ne _ _ this]; exact hk
      ·intro k _ hk
       have : k ≠ b := by rintro rfl; rw [hκ] at hk; cases hk
       simp only; rw [updN_ne _ _ this]; exact hk
     refine ⟨⟨updN M.κ b (.own n), updN M.β n (rows.length, some (b, base)), M.φ, M.F0⟩, ?_⟩
     refine Post.turn R hodd hns hLn rfl hext (fun k hk => updN_ne _ _ hk) ?_ ?_ (by simp [AV.nms]) rfl ?_
     ·refine .hw _ _ _ ?_
      rw [show (updN M.β n (rows.length, some (b, base)) n).1 = rows.length from updN_1 _ _ _]
      rw [g7] at hv
      generalize rows.length = len at hv
      cases hv with
      | hd0 => exact .hd0 n 0 sz _
      | hd _ _ _ _ b' base' cap c' T' fr f1 f2 f3 f4 =>
       rw [g1] at f1; cases f1
       exact .hd n 0 _ sz b base cap c' T' fr (updN_2 _ _ _) f2 f3 f4
     ·refine .sl false _ rows b base c T h0 (updN_2 _ _ _) (updN_self _ _ _) g3 g4 g5 ?_ (updN_1 _ _ _)
      intro i r j p y h1 h2 h3
      exact (g6 i r j p y h1 h2 h3).mono hext
     ·intro k b' hk _ hc
      have : b' ≠ b := by
       rintro rfl
       rw [hκ] at hc
       rcases hc with hc | hc
       ·cases hc; exact hk rfl
       ·cases hc
      exact ⟨updN_ne _ _ this, rfl⟩
   ·exact ⟨M, R, .refl M w⟩
  ·exact ⟨M, R, .refl M w⟩
 ·exact ⟨M, R, .refl M w⟩
theorem WK.backRet {fid : Fid} {k : List Item} {r r0 : AV} {outs : List AObj} {rs : List ResultVar} {ni n : Nat} (hk : WK P fid k (backRet ni rs r0 n σ) r outs) : WK P fid k σ r outs := by
 refine WK.nilRet (rs := rs) (r0 := r0) (n := n) ?_
 intro M a w R b cs hb
 obtain ⟨M', R', g⟩ := ownRet_sound (ni := ni) (rs := rs) (r := r0) (n := n) R
 obtain ⟨v, M'', w', k1, k4, k5⟩ := hk M' a w R' b cs (hb.mono g)
 exact ⟨v, M'', w', k1, g.trans2 k4, k5⟩
theorem retT_sound {fid nimp : Nat} {fn : Func} (hfn : P.funcs[fid]? = some fn) {k : List Item} {r : AV} {outs : List AObj} (h : retT P true fn.results.toList nimp k σ r outs = retT P false fn.results.toList nimp k σ r outs) :
  WK P ⟨fid, nimp, none⟩ k σ r outs := by
 unfold retT at h
 cases hb : retB P fn.results.toList σ nimp (retM P fn.results.toList σ nimp r outs).frz (getN (retM P fn.results.toList σ nimp r outs).imp (evens (outs.length - nimp) nimp)) r outs with
 | none => rw [hb] at h; simp at h
 | some ob =>
  rw [hb] at h
  generalize (retM P fn.results.toList σ nimp r outs).frz = frz at hb
  generalize getN (retM P fn.results.toList σ nimp r outs).imp (evens (outs.length - nimp) nimp) = esc at hb
  simp only at h
  have fin : ∀ (k : List Item), All ob → (∀ {r0 : AV} {outs0 : List AObj} {ps : List Obl}, retA P fn.results.toList σ nimp frz esc = some (ps, r0, outs0) → All ps → WK P ⟨fid, nimp, none⟩ k σ r0 outs0) → WK P ⟨fid, nimp, none⟩ k σ r outs := by
   intro k hall hk
   unfold retB at hb
   split at hb
   ·rename_i vs hvs
    split at hb
    ·rename_i p vs' wf hfa hfo hnd
     split at hb
     ·rename_i rs' os hren hos
      split at hb
      ·rename_i os' hos'
       split at hb
       ·rename_i q1 q2 hq1 hq2
        cases hb
        rw [All_append, All_append] at hall
        have hret : retA P fn.results.toList σ nimp frz esc = some (p, tupA rs', os') := by
         unfold retA
         simp only [hvs, hfa, hfo, hnd, hren, hos, hos']
        obtain ⟨c1, c2⟩ := cvR_rel hq1 hall.2.1
        refine (hk hret hall.1).conv c1 c2 (cvOs_rel (M := cvR_rel.M0') (w := default) noO0 hq2 hall.2.2).1 ?_
        intro i o o' e1 e2
        refine ⟨fun M w n => ((cvOs_rel (M := M) (w := w) noO0 hq2 hall.2.2).2 i o o' e1 e2).1 n, fun n hn => ?_⟩
        exact (((cvOs_rel (M := cvR_rel.M0') (w := default) noO0 hq2 hall.2.2).2 i o o' e1 e2).2 n hn).elim id fun h => by cases h
       ·cases hb
      ·cases hb
     ·cases hb
    ·cases hb
   ·cases hb
  split at h
  ·exact fin _ (pureT_ok h).1 fun h1 h2 => WK.fall hfn h1 h2
  ·exact fin _ (pureT_ok h).1 fun h1 h2 => WK.ret hfn h1 h2
  ·simp at h
end
end Go.Fx
