/- The check is sound: the steps, loops and parts. -/
import Derived.Test.YtpdjphpjejjkpaaFxV
import Derived.Test.YtpdjphpjejjkpaaFxL
namespace Go.Fx
section
variable {P : Program} {fid : Fid} {r : AV} {outs : List AObj}
def LfOk (P : Program) (fid : Fid) (r : AV) (outs : List AObj) {β : Type} (l1 l2 : Lf β) (x : β) : Prop := ∀ n k σ, l1 x n k σ = l2 x n k σ → WK P fid k σ r outs
theorem br_run {α : Type} {c : Bool} {t f : Option α} {x : α} (h : Fx.br c t f = some x) : (c = true ∧ t = some x) ∨ (c = false ∧ f = some x) := by
 cases c with
 | true => exact .inl ⟨rfl, h⟩
 | false => exact .inr ⟨rfl, h⟩
theorem both_run {α : Type} {c : Bool} {x0 : α} {is : α → Bool} (hi : ∀ y, is y = true → y = x0) {f : Option α} {x : α} (h : alike c is f = some x) : (c = true → x0 = x) ∧ f = some x := by
 unfold alike at h
 split at h
 ·rename_i y
  split at h
  ·cases h
  ·rename_i hn
   cases h
   refine ⟨fun hc => ?_, rfl⟩
   cases he : is x with
   | true => exact (hi x he).symm
   | false => exact absurd he (hn hc)
 ·cases h
theorem nextN_nil {σ σ' : St} {o : Oper} {v : AV} (h : nextN σ o ⟨[], v, []⟩ = some σ') : ∃ σ₂, σ.putD o.dst v = some σ₂ ∧ σ' = { σ₂ with o := wrO σ₂.o [] } := by
 unfold nextN at h
 split at h
 ·rename_i σ₂ h2; cases h; exact ⟨σ₂, h2, rfl⟩
 ·cases h
theorem KnOk.byB {kn : Kn} {σ σ' : St} {o : Oper} {b : Bool} (h : KnOk kn σ) (hn : nextN σ o ⟨[], .pv (.bool b), []⟩ = some σ') : KnOk (knB kn o b) σ' := by
 have hs := h.skip hn
 unfold knB
 cases hd : o.dst with
 | none => exact hs
 | some d => exact hs.cons ((nextN_t hn).2.1 d hd) rfl
theorem nilO_sound {ops : Array Oper} {o : Oper} {σ σt σf : St} {M : Mm} {w : World} {a : Act} {rows : List (List PV)} (R : RSt M σ a w) (h : nilO P o σ = some rows) (ht : nextN σ o ⟨[], .pv (.bool true), []⟩ = some σt) (hf : nextN σ o ⟨[], .pv (.bool false), []⟩ = some σf)
  {i : Nat} {rd : Option Nat} (hi : ops[i]? = some o) {Q : Exit → Act → World → Prop} {K : Act → World → Prop} (kt : rows = [] → ∀ a' M', RSt M' σt a' w → Go1 M w M' w → K a' w) (kf : ∀ a' M', RSt M' σf a' w → Go1 M w M' w → K a' w) :
  wpOpIn (wd rd) 0 P ops Q i K a w := by
 unfold nilO at h
 split at h
 ·rename_i op t x y yt hg hop
  split at h
  ·rename_i e rows' hu hx hy
   cases h
   have rx := R.ev x
   have ry := R.ev y
   rw [hx] at rx; rw [hy] at ry
   have hval : ∃ ad n c, a.eval x = .slice ad n c ∧ (ad = none → rows = []) := by
    generalize a.eval x = vx at rx
    cases rx with | pv _ _ rx =>
    cases rx with
    | sl0 ad c => exact ⟨ad, 0, c, rfl, fun _ => rfl⟩
    | sl b off sz len c _ x _ _ _ _ _ => exact ⟨_, _, _, rfl, fun h => (by cases h)⟩
   obtain ⟨ad, n, c, hv, hn⟩ := hval
   have hy0 : a.eval y = .slice none 0 0 := by
    generalize a.eval y = vy at ry
    cases ry with | pv _ _ ry => cases ry; rfl
   have z1 : (execOp a.eval o).run P w = .ok (.value (.bool ad.isNone)) w := by
    simp only [execOp, hop, hv, hy0, Sem.run_bind, run_eqGuard_slice, Result.andThen_ok, Lib.run_eql_slice_nil w t e ad n c 0 0 hu, Sem.run_pure]
   unfold wpOpIn
   simp only [hi]
   have : Region.wanted o (yielded ops a.tmps) = true := by unfold Region.wanted; rw [hg]
   rw [if_pos this]
   have step : ∀ {b : Bool} {σ' : St}, nextN σ o ⟨[], .pv (.bool b), []⟩ = some σ' → RSt M σ' (a.put o.dst (.bool b)) w ∧ Go1 M w M w := by
    intro b σ' hs
    obtain ⟨σ₂, h2, rfl⟩ := nextN_nil hs
    have p : Post M σ w ⟨[], .pv (.bool b), []⟩ M (.bool b) w := Post.same R rfl (.pv _ _ (.bool b)) (by simp [AV.nms])
    exact ⟨R.step p h2, p.ext, p.bev⟩
   cases ad with
   | none => exact Does.value (R := fun v w' => K (a.put o.dst v) w') z1 (kt (hn rfl) _ M (step ht).1 (step ht).2) rd K Q fun v w' h => h
   | some ad => exact Does.value (R := fun v w' => K (a.put o.dst v) w') z1 (kf _ M (step hf).1 (step hf).2) rd K Q fun v w' h => h
  ·cases h
 ·cases h
theorem bd_run {α β : Type} {o : Option α} {k : α → Option β} {x : β} (h : Fx.bd o k = some x) : ∃ y, o = some y ∧ k y = some x := by
 cases o with
 | none => cases h
 | some y => exact ⟨y, rfl, h⟩
theorem T.v_inj {α : Type} {a b : α} {t u : T} (h : T.v (sd true a b) t = T.v (sd false a b) u) : a = b ∧ t = u := by
 simpa [sd] using h
theorem T.two_inj {a b c d : T} (h : T.two a b = T.two c d) : a = c ∧ b = d := by simpa using h
theorem T.all_inj {α : Type} {f g : α → T} (h : T.all f = T.all g) (x : α) : f x = g x := by
 have : f = g := by simpa using h
 rw [this]
theorem brT_ok {β : Type} {E1 E2 : Prg P β → Bool → T} {t : Bool} {p : Prg P β} {x : β} (hrun : p.run = some x) (h : brT true E1 t p = brT false E2 t p) : ∃ q b, t = b ∧ q.run = some x ∧ E1 q b = E2 q b := by
 cases p with
 | br c u v =>
  obtain ⟨ht, h'⟩ := T.v_inj h
  obtain ⟨h1, h2⟩ := T.two_inj h'
  rcases br_run hrun with ⟨hc, hr⟩ | ⟨hc, hr⟩
  ·exact ⟨u, true, ht.trans hc, hr, h1⟩
  ·exact ⟨v, false, ht.trans hc, hr, h2⟩
 | no => cases hrun
 | _ => simp [brT] at h
theorem unroll_ok : ∀ (f : Nat) (k : List Item) {σ : St}, WK P fid (unroll f k) σ r outs → WK P fid k σ r outs := by
 intro f
 induction f with
 | zero => intro k σ h; exact h
 | succ f ih =>
  intro k σ h
  unfold unroll at h
  split at h
  ·rename_i e; cases e; exact WK.steps (fun b a cs w => .one stepR_seq) (ih _ h)
  ·rename_i e; cases e; exact WK.steps (fun b a cs w => .one stepR_block) (ih _ h)
  ·rename_i e; cases e; exact WK.steps (fun b a cs w => .one stepR_scope) (ih _ h)
  ·exact h
theorem mapHead_ok {k : List Item} {reg : Code} {it d0 d1 : Nat} {kp : List Item} (h : mapHead k = some (reg, it, d0, d1, kp)) : k = .code reg :: kp ∧ nextOf reg = some (it, d0, d1) := by
 unfold mapHead at h
 split at h
 ·split at h
  ·rename_i hn; cases h; exact ⟨rfl, hn⟩
  ·cases h
 ·cases h
theorem itOf_ok {σ : St} {it : Nat} {d : ItD} (h : itOf σ it = some d) : lk σ.t it = some (.ref d.n 0 0 0) ∧ ∃ fz g ks rows, lk σ.o d.n = some (.it d.m d.nn d.seen) ∧ lk σ.o d.m = some (.mp fz g true ks rows) ∧ ks.length = d.len := by
 unfold itOf at h
 split at h
 ·rename_i h1
  split at h
  ·rename_i h2
   split at h
   ·rename_i h3; cases h; exact ⟨h1, _, _, _, _, h2, h3, rfl⟩
   ·cases h
  ·cases h
 ·cases h
theorem eqo_run {P : Program} {β : Type} {b : Bool} {m : Nat} {o o' : AObj} {h : b = true → o = o'} {k : Prg P β} {x : β} (hr : (Prg.eqo b m o o' h k).run = some x) : b = true ∧ k.run = some x := by
 cases b with
 | true => exact ⟨rfl, hr⟩
 | false => cases hr
theorem up_self {α : Type} : ∀ {l : List (Nat × α)} {m : Nat} {v : α}, lk l m = some v → up l m v = l
 | [], _, _, h => by cases h
 | (k, u) :: r, m, v, h => by
  simp only [lk] at h
  simp only [up]
  split at h
  ·rename_i e; cases h; have := nbeq_eq e; subst this; simp
  ·rw [up_self h]
theorem ev_op {f : Nat} {β : Type} {p : Prg P β} {n0 : Nat} {l1 l2 : Lf β} {n : Nat} {kn : Kn} {x : β} (hrun : p.run = some x) {draw : Bool} {ops : Array Oper} {i : Nat} {l : List Nat} {tr : List Foot} {k : List Item} {σ : St} (hk : KnOk kn σ)
  (h : ev P true (f + 1) p n0 l1 n kn (.rg draw ops (i :: l) tr k) σ = ev P false (f + 1) p n0 l2 n kn (.rg draw ops (i :: l) tr k) σ) :
  (∃ (o : Oper) (gb : Option Bool) (an : Ann) (out : Out) (σ' : St) (p' : Prg P β) (kn' : Kn) (n' : Nat), ops[i]? = some o ∧ opN P (SpecY P) ops o gb an σ = some out ∧ All out.ob ∧ nextN σ o out = some σ' ∧ KnOk kn' σ' ∧ p'.run = some x ∧
   ev P true f p' n0 l1 n' kn' (.rg draw ops l (footN draw tr ⟨i, out, lookN σ o an⟩) k) σ' = ev P false f p' n0 l2 n' kn' (.rg draw ops l (footN draw tr ⟨i, out, lookN σ o an⟩) k) σ') ∨
  (∃ (p' : Prg P β) (kn' : Kn), KnOk kn' σ ∧ p'.run = some x ∧ ev P true f p' n0 l1 n kn' (.rg draw ops (i :: l) tr k) σ = ev P false f p' n0 l2 n kn' (.rg draw ops (i :: l) tr k) σ) ∨
  (∃ (o : Oper) (rows : List (List PV)) (pt pf : Prg P β) (σt σf : St) (kt kf : Kn), draw = false ∧ ops[i]? = some o ∧ nilO P o σ = some rows ∧ nextN σ o ⟨[], .pv (.bool true), []⟩ = some σt ∧ nextN σ o ⟨[], .pv (.bool false), []⟩ = some σf ∧
   (rows = [] → pt.run = some x) ∧ pf.run = some x ∧ KnOk kt σt ∧ KnOk kf σf ∧
   ev P true f pt n0 l1 (n + 2) kt (.rg false ops l [] k) σt = ev P false f pt n0 l2 (n + 2) kt (.rg false ops l [] k) σt ∧ ev P true f pf n0 l1 (n + 2) kf (.rg false ops l [] k) σf = ev P false f pf n0 l2 (n + 2) kf (.rg false ops l [] k) σf) := by
 simp only [ev] at h
 cases hask : askOf p with
 | some q =>
  rw [hask] at h
  right; left
  cases p with
  | ask c t u =>
   simp only [askOf, Option.some.injEq] at hask
   subst hask
   simp only at h
   obtain ⟨e1, e2⟩ := T.two_inj h
   rcases br_run hrun with ⟨_, hr⟩ | ⟨_, hr⟩
   ·exact ⟨_, kn, hk, hr, e1⟩
   ·exact ⟨_, kn, hk, hr, e2⟩
  | eqo b m o o' hoo pk =>
   simp only [askOf, Option.some.injEq] at hask
   subst hask
   simp only at h
   obtain ⟨hb, hr⟩ := eqo_run hrun
   cases hm : lk σ.o m with
   | none => rw [hm] at h; simp at h
   | some o1 =>
    rw [hm] at h
    simp only at h
    obtain ⟨rfl, h7⟩ := T.v_inj h
    have := hoo hb
    subst this
    rw [up_self hm] at h7
    exact ⟨_, kn, hk, hr, h7⟩
  | _ => simp [askOf] at hask
 | none =>
 rw [hask] at h
 simp only at h
 cases ho : ops[i]? with
 | none => rw [ho] at h; simp at h
 | some o =>
  rw [ho] at h
  simp only at h
  cases hg : guardM ops o kn σ with
  | bad => rw [hg] at h; simp at h
  | split t tj =>
   rw [hg] at h
   have hv : lk σ.t tj = some (.pv (.bool t)) := by
    unfold guardM at hg
    repeat' split at hg
    all_goals first | (simp at hg; done) | (simp only [Gm.split.injEq] at hg; obtain ⟨rfl, rfl⟩ := hg; assumption)
   obtain ⟨q, b, hb, hr, h⟩ := brT_ok hrun h
   exact .inr (.inl ⟨q, _, hk.cons hv hb, hr, h⟩)
  | go gb act =>
   rw [hg] at h
   cases act with
   | false =>
    left
    simp only at h
    cases hN : opN P (SpecY P) ops o gb .no σ with
    | none => rw [hN] at h; simp at h
    | some out =>
     rw [hN] at h
     simp only at h
     cases hn : nextN σ o out with
     | none => rw [hn] at h; simp at h
     | some σ' =>
      rw [hn] at h
      simp only at h
      cases hd : (obP out.ob).drop (gbN gb) with
      | cons q qs => rw [hd] at h; simp at h
      | nil =>
       rw [hd] at h
       simp only at h
       obtain ⟨h1, h2⟩ := obT_ok h ((opN_act hg hN hk).2 rfl hd)
       exact ⟨o, gb, .no, out, σ', p, _, _, rfl, hN, h1, hn, hk.skip hn, hrun, h2⟩
   | true =>
    simp only at h
    cases hm : opM P kn σ n o.op with
    | bad => rw [hm] at h; simp at h
    | split t tj =>
     rw [hm] at h
     have hv : lk σ.t tj = some (.pv (.bool t)) := by
      unfold opM at hm
      repeat' split at hm
      all_goals first
       | (simp at hm; done)
       | (
        simp only [Om.split.injEq] at hm
        obtain ⟨rfl, rfl⟩ := hm
        rename_i hh
        simp only [St.ev] at hh
        revert hh
        cases lk σ.t _ with
        | none => intro hh; simp at hh
        | some v => intro hh; simp at hh; rw [hh])
     obtain ⟨q, b, hb, hr, h⟩ := brT_ok hrun h
     exact .inr (.inl ⟨q, _, hk.cons hv hb, hr, h⟩)
    | sil an kp =>
     left
     rw [hm] at h
     simp only at h
     cases hs : isS p o with
     | true =>
      rw [hs] at h
      simp only at h
      cases p with
      | opS d c an ob hob kk =>
       simp only at h
       obtain ⟨y, hc, hr⟩ := bd_run hrun
       have h := T.all_inj h y
       cases hN : opN P (SpecY P) ops o gb (an n y) σ with
       | none => rw [hN] at h; simp at h
       | some out =>
        rw [hN] at h
        simp only at h
        cases hn : nextN σ o out with
        | none => rw [hn] at h; simp at h
        | some σ' =>
         rw [hn] at h
         simp only at h
         obtain ⟨hd, h⟩ := T.v_inj h
         obtain ⟨out', he, hv, hall, heq⟩ := (opN_act hg hN hk).1 rfl
         have hp : AllP (obP out'.ob) := by rw [← heq, hd]; exact hob y hc
         obtain ⟨h1, h2⟩ := obT_ok h (hall hp)
         exact ⟨o, gb, _, out, σ', kk y, _, _, rfl, hN, h1, hn, hk.skip hn, hr, h2⟩
      | _ => simp at h
     | false =>
     rw [hs] at h
     simp only at h
     cases hN : opN P (SpecY P) ops o gb an σ with
     | none => rw [hN] at h; simp at h
     | some out =>
      rw [hN] at h
      simp only at h
      cases hn : nextN σ o out with
      | none => rw [hn] at h; simp at h
      | some σ' =>
       rw [hn] at h
       simp only at h
       cases hd : (obP out.ob).drop (gbN gb + kp) with
       | cons q qs => rw [hd] at h; simp at h
       | nil =>
        rw [hd] at h
        simp only at h
        obtain ⟨out', he, hv, hall, heq⟩ := (opN_act hg hN hk).1 rfl
        rw [← List.drop_drop, heq] at hd
        obtain ⟨h1, h2⟩ := obT_ok h (hall (sil_all hm hk he hd))
        exact ⟨o, gb, an, out, σ', p, _, _, rfl, hN, h1, hn, hk.up hm he hv hn, hrun, h2⟩
    | node frz =>
     rw [hm] at h
     have hup : knUp kn o = knSkip kn o := knUp_node (P := P) (σ := σ) (n := n) (by rw [hm]; simp) (by rw [hm]; simp) (by rw [hm]; simp)
     cases p with
     | both c x0 is hi pf =>
      simp only at h
      cases draw with
      | true => simp at h
      | false =>
       cases hN : nilO P o σ with
       | none => rw [hN] at h; simp at h
       | some rows =>
        cases h1 : nextN σ o ⟨[], .pv (.bool true), []⟩ with
        | none => rw [hN, h1] at h; simp at h
        | some σt =>
         cases h2 : nextN σ o ⟨[], .pv (.bool false), []⟩ with
         | none => rw [hN, h1, h2] at h; simp at h
         | some σf =>
          rw [hN, h1, h2] at h
          simp only at h
          obtain ⟨hc, h⟩ := T.v_inj h
          obtain ⟨h3, h4⟩ := T.two_inj h
          obtain ⟨r1, r2⟩ := both_run hi hrun
          exact .inr (.inr ⟨o, rows, .ret x0, pf, σt, σf, _, _, rfl, rfl, hN, h1, h2, fun e => congrArg some (r1 (by rw [← hc, e]; rfl)), r2, hk.byB h1, hk.byB h2, h3, h4⟩)
     | op c an ob hob kk =>
      left
      simp only at h
      obtain ⟨y, hc, hr⟩ := bd_run hrun
      have h := T.all_inj h y
      cases hN : opN P (SpecY P) ops o gb (preAnn frz (an n y)) σ with
      | none => rw [hN] at h; simp at h
      | some out =>
       rw [hN] at h
       simp only at h
       cases hn : nextN σ o out with
       | none => rw [hn] at h; simp at h
       | some σ' =>
        rw [hn] at h
        simp only at h
        obtain ⟨hd, h⟩ := T.v_inj h
        obtain ⟨out', he, hv, hall, heq⟩ := (opN_act hg hN hk).1 rfl
        have hp : AllP (obP out'.ob) := by rw [← heq, hd]; exact hob y hc
        obtain ⟨h1, h2⟩ := obT_ok h (hall hp)
        exact ⟨o, gb, _, out, σ', kk y, _, _, rfl, hN, h1, hn, by rw [hup]; exact hk.skip hn, hr, h2⟩
     | no => cases hrun
     | _ => simp at h
    | call =>
     left
     rw [hm] at h
     have hup : knUp kn o = knSkip kn o := knUp_node (P := P) (σ := σ) (n := n) (by rw [hm]; simp) (by rw [hm]; simp) (by rw [hm]; simp)
     cases hce : calleeA σ o.op with
     | none =>
      rw [hce] at h
      cases p with
      | no => cases hrun
      | _ => simp at h
     | some ga =>
      obtain ⟨g', args⟩ := ga
      rw [hce] at h
      cases p with
      | call c g xs es r outs kp hsp kk =>
       simp only at h
       obtain ⟨y, hc, hr⟩ := bd_run hrun
       obtain ⟨_, h⟩ := T.v_inj h
       have h := T.all_inj h y
       cases hN : opN P (SpecY P) ops o gb (callAnn σ args xs es (r y) (outs y) n kp) σ with
       | none => rw [hN] at h; simp at h
       | some out =>
        rw [hN] at h
        simp only at h
        cases hn : nextN σ o out with
        | none => rw [hn] at h; simp at h
        | some σ' =>
         rw [hn] at h
         simp only at h
         obtain ⟨hd, h⟩ := T.v_inj h
         obtain ⟨out', he, hv, hall, heq⟩ := (opN_act hg hN hk).1 rfl
         have hp : AllP (obP out'.ob) := by rw [← heq, hd]; exact ⟨hsp y hc, trivial⟩
         obtain ⟨h1, h2⟩ := obT_ok h (hall hp)
         exact ⟨o, gb, _, out, σ', kk y, _, _, rfl, hN, h1, hn, by rw [hup]; exact hk.skip hn, hr, h2⟩
      | no => cases hrun
      | _ => simp at h
def QK (P : Program) (fid : Fid) (r : AV) (outs : List AObj) (k : List Item) (M0 : Mm) (w0 : World) : Exit → Act → World → Prop :=
 fun e a' w' => e = .normal ∧ ∃ M' σ', RSt M' σ' a' w' ∧ Go1 M0 w0 M' w' ∧ WK P fid k σ' r outs
structure Snd (P : Program) (fid : Fid) (r : AV) (outs : List AObj) (f : Nat) : Prop where
 it : ∀ {β : Type} {p : Prg P β} {n0 : Nat} {l1 l2 : Lf β} {n : Nat} {kn : Kn} {x : β}, p.run = some x → LfOk P fid r outs l1 l2 x → ∀ {k : List Item} {σ : St}, KnOk kn σ →
  ev P true f p n0 l1 n kn (.it k) σ = ev P false f p n0 l2 n kn (.it k) σ → WK P fid k σ r outs
 rg : ∀ {β : Type} {p : Prg P β} {n0 : Nat} {l1 l2 : Lf β} {n : Nat} {kn : Kn} {x : β}, p.run = some x → LfOk P fid r outs l1 l2 x → ∀ {ops : Array Oper} {l : List Nat} {k : List Item} {σ : St}, KnOk kn σ →
  ev P true f p n0 l1 n kn (.rg false ops l [] k) σ = ev P false f p n0 l2 n kn (.rg false ops l [] k) σ →
  ∀ {M0 M : Mm} {w0 w : World} {a : Act} {rd : Option Nat}, Go1 M0 w0 M w → RSt M σ a w → wpOpsIn (wd rd) 0 P ops (QK P fid r outs k M0 w0) l a w
 dr : ∀ {β : Type} {p : Prg P β} {n0 : Nat} {l1 l2 : Lf β} {n : Nat} {kn : Kn} {x : β}, p.run = some x → LfOk P fid r outs l1 l2 x → ∀ {ops : Array Oper} {l : List Nat} {tr : List Foot} {k : List Item} {σ : St}, KnOk kn σ → l.Nodup →
  ev P true f p n0 l1 n kn (.rg true ops l tr k) σ = ev P false f p n0 l2 n kn (.rg true ops l tr k) σ →
  ∃ (as : Anns) (tr' : List Foot) (σ' : St), traceN P (SpecY P) ops as l σ = some (tr', σ') ∧ All (obsN tr') ∧ pairsN ops (tr ++ tr') = true ∧ WK P fid k σ' r outs
theorem Snd.zero : Snd P fid r outs 0 where
 it := by intro _ _ _ _ _ _ _ _ _ _ _ _ _ h; simp [ev] at h
 rg := by intro _ _ _ _ _ _ _ _ _ _ _ _ _ _ _ h; simp [ev] at h
 dr := by intro _ _ _ _ _ _ _ _ _ _ _ _ _ _ _ _ _ h; simp [ev] at h
theorem Snd.rgS {f : Nat} (S : Snd P fid r outs f) {β : Type} {p : Prg P β} {n0 : Nat} {l1 l2 : Lf β} {n : Nat} {kn : Kn} {x : β} (hrun : p.run = some x) (hl : LfOk P fid r outs l1 l2 x) {ops : Array Oper} {l : List Nat} {k : List Item} {σ : St} (hk : KnOk kn σ)
  (h : ev P true (f + 1) p n0 l1 n kn (.rg false ops l [] k) σ = ev P false (f + 1) p n0 l2 n kn (.rg false ops l [] k) σ)
  {M0 M : Mm} {w0 w : World} {a : Act} {rd : Option Nat} (g : Go1 M0 w0 M w) (R : RSt M σ a w) : wpOpsIn (wd rd) 0 P ops (QK P fid r outs k M0 w0) l a w := by
 cases l with
 | nil =>
  simp only [ev, Bool.false_and] at h
  exact ⟨rfl, M, σ, R, g, S.it hrun hl hk h⟩
 | cons i l =>
  rcases ev_op hrun hk h with ⟨o, gb, an, out, σ', p', kn', n', ho, hN, hall, hn, hk', hr', h'⟩ | ⟨p', kn', hk', hr', h'⟩ | ⟨o, rows, pt, pf, σt, σf, kt, kf, _, ho, hN, h1, h2, r1, r2, k1, k2, e1, e2⟩
  ·rw [wpOpsIn_cons]
   refine opN_sound R hN hall hn ho fun a' w' M' R' g' => ?_
   exact S.rg hr' hl hk' h' (g.trans g') R'
  ·exact S.rg hr' hl hk' h' g R
  ·rw [wpOpsIn_cons]
   refine nilO_sound R hN h1 h2 ho (fun hr a' M' R' g' => ?_) fun a' M' R' g' => ?_
   ·exact S.rg (r1 hr) hl k1 e1 (g.trans g') R'
   ·exact S.rg r2 hl k2 e2 (g.trans g') R'
theorem Snd.drS {f : Nat} (S : Snd P fid r outs f) {β : Type} {p : Prg P β} {n0 : Nat} {l1 l2 : Lf β} {n : Nat} {kn : Kn} {x : β} (hrun : p.run = some x) (hl : LfOk P fid r outs l1 l2 x) {ops : Array Oper} {l : List Nat} {tr : List Foot} {k : List Item} {σ : St} (hk : KnOk kn σ) (hnd : l.Nodup)
  (h : ev P true (f + 1) p n0 l1 n kn (.rg true ops l tr k) σ = ev P false (f + 1) p n0 l2 n kn (.rg true ops l tr k) σ) :
  ∃ (as : Anns) (tr' : List Foot) (σ' : St), traceN P (SpecY P) ops as l σ = some (tr', σ') ∧ All (obsN tr') ∧ pairsN ops (tr ++ tr') = true ∧ WK P fid k σ' r outs := by
 cases l with
 | nil =>
  simp only [ev, Bool.true_and] at h
  cases hp : pairsN ops tr with
  | false => rw [hp] at h; simp at h
  | true =>
   rw [hp] at h
   exact ⟨[], [], σ, rfl, trivial, by rw [List.append_nil]; exact hp, S.it hrun hl hk h⟩
 | cons i l =>
  rcases ev_op hrun hk h with ⟨o, gb, an, out, σ', p', kn', n', ho, hN, hall, hn, hk', hr', h'⟩ | ⟨p', kn', hk', hr', h'⟩ | ⟨_, _, _, _, _, _, _, _, hd, _⟩
  ·rw [List.nodup_cons] at hnd
   obtain ⟨as, tr', σ'', t1, t2, t3, t4⟩ := S.dr hr' hl hk' hnd.2 h'
   refine ⟨(i, gb, an) :: as, ⟨i, out, lookN σ o an⟩ :: tr', σ'', ?_, ?_, ?_, t4⟩
   ·have e : annAt ((i, gb, an) :: as) i = (gb, an) := by simp [annAt, lk]
    simp only [traceN, ho, e, hN, hn, traceN_skip hnd.1, t1]
   ·simp only [obsN, All_append]; exact ⟨hall, t2⟩
   ·simpa [footN] using t3
  ·exact S.dr hr' hl hk' hnd h'
  ·cases hd
theorem leaf1_ok {f : Nat} (S : Snd P fid r outs f) {A β : Type} {n0 : Nat} {l1 l2 : Lf β} {N : Nat} {k0 : List Item} {xt : Xt A} {ka : A → Prg P β} {n1 : Nat} {y : A} {x : β} (hrun : (ka y).run = some x) (hl : LfOk P fid r outs l1 l2 x)
  (hc : cont1 true (fun p n md σ => ev P true f p n0 l1 n [] md σ) N k0 xt ka n1 = cont1 false (fun p n md σ => ev P false f p n0 l2 n [] md σ) N k0 xt ka n1) {n : Nat} {k : List Item} {σ : St}
  (h : leaf1 true (fun p n md σ => ev P true f p n0 l1 n [] md σ) N k0 xt ka y n k σ = leaf1 false (fun p n md σ => ev P false f p n0 l2 n [] md σ) N k0 xt ka y n k σ) : WK P fid k σ r outs := by
 cases xt with
 | inl => exact S.it hrun hl KnOk.nil h
 | cut pt out =>
  simp only [leaf1, cont1] at h hc
  cases hp : ptItems k0 pt with
  | none => rw [hp] at h; simp at h
  | some kk =>
   rw [hp] at h hc
   simp only at h hc
   obtain ⟨rfl, h2⟩ := T.v_inj h
   exact WK.cut h2 (S.it hrun hl KnOk.nil (T.all_inj hc y))
theorem ex3_run {A B C β : Type} {e : Ex A B C} {ka : A → Option β} {kb : B → Option β} {kc : C → Option β} {x : β} (h : ex3 e ka kb kc = some x) :
  (∃ y, e = .a y ∧ ka y = some x) ∨ (∃ y, e = .b y ∧ kb y = some x) ∨ ∃ y, e = .c y ∧ kc y = some x := by
 cases e with
 | a y => exact .inl ⟨y, rfl, h⟩
 | b y => exact .inr (.inl ⟨y, rfl, h⟩)
 | c y => exact .inr (.inr ⟨y, rfl, h⟩)
theorem Snd.step {f : Nat} (S : Snd P fid r outs f) {β : Type} {p : Prg P β} {n0 : Nat} {l1 l2 : Lf β} {n : Nat} {kn : Kn} {x : β} (hrun : p.run = some x) (hl : LfOk P fid r outs l1 l2 x) {k : List Item} {σ : St} (hk : KnOk kn σ)
  (h : stepI P true (fun q n kn md σ => ev P true f q n0 l1 n kn md σ) p n kn k σ = stepI P false (fun q n kn md σ => ev P false f q n0 l2 n kn md σ) p n kn k σ) : WK P fid k σ r outs := by
 unfold stepI at h
 split at h
 ·exact WK.steps (fun b a cs w => .one stepR_seq) (S.it hrun hl hk h)
 ·exact WK.steps (fun b a cs w => .one stepR_block) (S.it hrun hl hk h)
 ·exact WK.steps (fun b a cs w => .one stepR_skip) (S.it hrun hl hk h)
 ·exact WK.steps (fun b a cs w => .one stepR_inBlock) (S.it hrun hl hk h)
 ·exact WK.steps (fun b a cs w => .one stepR_scope) (S.it hrun hl hk h)
 ·exact WK.steps (fun b a cs w => .one stepR_inScope) (S.it hrun hl hk h)
 ·exact WK.steps (fun b a cs w => .one stepR_label) (S.it hrun hl hk h)
 ·rename_i id k
  cases he : exitTo id k with
  | none => rw [he] at h; simp at h
  | some k' =>
   rw [he] at h
   exact WK.steps (fun b a cs w => .one (stepR_exit he)) (S.it hrun hl hk h)
 ·rename_i id ops draw k
  cases draw with
  | false =>
   simp only at h
   refine WK.region fun M a w b R => ⟨_, w, fun ds cs => .one stepR_region, ?_⟩
   exact S.rg hrun hl hk h (.refl M w) R
  | true =>
   simp only at h
   cases hpre : drawPre P ops (planOf ops) with
   | false => rw [hpre] at h; simp at h
   | true =>
    rw [hpre] at h
    have hpre' := hpre
    unfold drawPre at hpre'
    simp only [Bool.and_eq_true, nodupN_iff] at hpre'
    obtain ⟨as, tr', σ', t1, t2, t3, t4⟩ := S.dr hrun hl hk hpre'.1.1.1.1.1 h
    rw [List.nil_append] at t3
    refine WK.region fun M a w b R => ⟨_, _, fun ds cs => .one stepR_region_draw, ?_⟩
    have hd : drawA P (SpecY P) ops as (planOf ops) σ = some (obsN tr', σ') := by
     unfold drawA
     unfold drawPre at hpre
     simp only [hpre, t1, t3]
    exact drawA_sound (P := P) R hd t2 (Q := QK P fid r outs k M w) (fun a' w' M' R' g => ⟨rfl, M', σ', R', g, t4⟩) _
 ·rename_i c A B k
  cases hc : knOf kn c with
  | some b =>
   rw [hc] at h
   simp only at h
   split at h
   ·rename_i t ht
    have htb := knOf_ok hk hc ht
    subst htb
    have hrest := S.it hrun hl hk h
    intro M a w R b cs hb
    have hr := R.ev c
    rw [ht] at hr
    obtain ⟨v, M'', w'', h1, h2⟩ := hrest M a w R b cs hb
    refine ⟨v, M'', w'', Ends.head (Steps.one (stepR_cond (by rw [eval_df]; exact rel_bool hr))) ?_, h2⟩
    cases t
    ·exact h1
    ·exact h1
   ·simp at h
  | none =>
   rw [hc] at h
   simp only at h
   split at h
   ·rename_i tj t ht
    obtain ⟨q, b, hb, hr, h⟩ := brT_ok hrun h
    subst hb
    have hv : lk σ.t tj = some (.pv (.bool t)) := by
     simp only [St.ev] at ht
     revert ht
     cases lk σ.t tj with
     | none => intro ht; simp at ht
     | some v => intro ht; simp at ht; rw [ht]
    have hrest := S.it hr hl (hk.cons hv rfl) h
    intro M a w R b' cs hb'
    have hrr := R.ev (.tmp tj)
    rw [ht] at hrr
    obtain ⟨v, M'', w'', h1, h2⟩ := hrest M a w R b' cs hb'
    refine ⟨v, M'', w'', Ends.head (Steps.one (stepR_cond (by rw [eval_df]; exact rel_bool hrr))) ?_, h2⟩
    cases t
    ·exact h1
    ·exact h1
   ·simp at h
 ·exact WK.enterLoop (S.it hrun hl hk h)
 ·simp at h
theorem Snd.itS {f : Nat} (S : Snd P fid r outs f) {β : Type} {p : Prg P β} {n0 : Nat} {l1 l2 : Lf β} {n : Nat} {kn : Kn} {x : β} (hrun : p.run = some x) (hl : LfOk P fid r outs l1 l2 x) {k : List Item} {σ : St} (hk : KnOk kn σ)
  (h : ev P true (f + 1) p n0 l1 n kn (.it k) σ = ev P false (f + 1) p n0 l2 n kn (.it k) σ) : WK P fid k σ r outs := by
 have st := fun h => S.step (p := p) (n0 := n0) (n := n) (k := k) hrun hl hk h
 cases p with
 | no => cases hrun
 | ret y =>
  simp only [ev] at h
  cases hrun
  cases hf : fire n0 k with
  | true => rw [hf] at h; exact hl _ _ _ h
  | false => rw [hf] at h; exact st h
 | br c u v => simp only [ev] at h; exact st h
 | ask c u v =>
  simp only [ev] at h
  obtain ⟨e1, e2⟩ := T.two_inj h
  rcases br_run hrun with ⟨_, hr⟩ | ⟨_, hr⟩
  ·exact S.it hr hl hk e1
  ·exact S.it hr hl hk e2
 | opS d c an ob hob kk => simp only [ev] at h; exact st h
 | both c x0 is hi v => simp only [ev] at h; exact st h
 | op c an ob hob kk => simp only [ev] at h; exact st h
 | call c g xs es r outs kp hsp kk => simp only [ev] at h; exact st h
 | join j q xa ka xb kb xc kc =>
  simp only [ev] at h
  cases hj : jk j k with
  | false => rw [hj] at h; exact st h
  | true =>
   rw [hj] at h
   simp only at h
   obtain ⟨h1, h2⟩ := T.two_inj h
   obtain ⟨ha, h2⟩ := T.two_inj h2
   obtain ⟨hb, hc⟩ := T.two_inj h2
   obtain ⟨e, he, hx⟩ := bd_run hrun
   refine S.it he ?_ hk h1
   intro n' k' σ' hlf
   rcases ex3_run hx with ⟨y, rfl, hy⟩ | ⟨y, rfl, hy⟩ | ⟨y, rfl, hy⟩
   ·exact leaf1_ok S hy hl ha hlf
   ·exact leaf1_ok S hy hl hb hlf
   ·exact leaf1_ok S hy hl hc hlf
 | loop s0 bd en xa ka xb kb xc kc =>
  simp only [ev] at h
  split at h
  ·rename_i c k0
   obtain ⟨h0, h1⟩ := T.two_inj h
   obtain ⟨hbody, h2⟩ := T.two_inj h1
   obtain ⟨ha, h2⟩ := T.two_inj h2
   obtain ⟨hb, hc⟩ := T.two_inj h2
   obtain ⟨e, he, hx⟩ := bd_run hrun
   refine WK.cut h0 ?_
   let D : Ex _ _ _ → Prop := fun e => ex3 e (fun x => (ka x).run) (fun x => (kb x).run) (fun x => (kc x).run) = some x
   refine WK.loop (P := P) (fid := fid) (c := c) (k := k0) (r := r) (outs := outs) (fun s => enc σ.n (en s)) (fun s => (bd s).run) D ?_ fuel s0 e he hx
   intro s nx hs hnx
   have hb1 := T.all_inj hbody s
   refine WK.steps (fun b a cs w => .one stepR_inLoop) (S.it hs ?_ KnOk.nil hb1)
   intro n' k' σ' hlf
   cases nx with
   | cont s2 =>
    simp only at hlf hnx
    obtain ⟨rfl, hcut⟩ := T.v_inj hlf
    exact WK.cut hcut hnx
   | done e' =>
    simp only at hlf hnx
    rcases ex3_run hnx with ⟨y, rfl, hy⟩ | ⟨y, rfl, hy⟩ | ⟨y, rfl, hy⟩
    ·exact leaf1_ok S hy hl ha hlf
    ·exact leaf1_ok S hy hl hb hlf
    ·exact leaf1_ok S hy hl hc hlf
  ·exact st h
 | mloop nn s0 bd en kd xa ka xb kb xc kc =>
  simp only [ev] at h
  split at h
  ·rename_i c k0
   cases hm : mapHead (unroll 100 (.code c :: .inLoop c :: k0)) with
   | none => rw [hm] at h; simp at h
   | some q =>
    obtain ⟨reg, it, d0, d1, kp⟩ := q
    rw [hm] at h
    simp only at h
    cases hd : (Nat.blt d0 σ.n && Nat.blt d1 σ.n) with
    | false => rw [hd] at h; simp at h
    | true =>
     rw [hd] at h
     simp only at h
     obtain ⟨h0, h1⟩ := T.two_inj h
     obtain ⟨hbody, h2⟩ := T.two_inj h1
     obtain ⟨ha, h2⟩ := T.two_inj h2
     obtain ⟨hb, hc⟩ := T.two_inj h2
     obtain ⟨e, he, hx⟩ := bd_run hrun
     refine WK.cut h0 ?_
     have hun : unroll 100 (.code c :: .inLoop c :: k0) = .code reg :: kp ∧ nextOf reg = some (it, d0, d1) := mapHead_ok hm
     have hst : ∀ s seen, ∃ d : ItD, itOf (enc σ.n (en s seen)) it = some d ∧ d.nn = nn ∧ d.seen = seen ∧ d.len = nn ∧
       (∀ i, ev P true f (bd seen i s) (k0.length + 1) (fun nx n k σ1 => match nx with
         | .cont s2 => .v (sd true k (.inLoop c :: k0)) (cutT true σ.n σ1 (en s2 (i :: seen)) n)
         | .done e => match e with
          | .a x => leaf1 true (fun p n md σ => ev P true f p n0 l1 n [] md σ) σ.n k0 xa ka x n k σ1
          | .b x => leaf1 true (fun p n md σ => ev P true f p n0 l1 n [] md σ) σ.n k0 xb kb x n k σ1
          | .c x => leaf1 true (fun p n md σ => ev P true f p n0 l1 n [] md σ) σ.n k0 xc kc x n k σ1) n [(d1, true)] (.it kp) (stT (enc σ.n (en s seen)) d d0 d1 (i :: seen)) =
        ev P false f (bd seen i s) (k0.length + 1) (fun nx n k σ1 => match nx with
         | .cont s2 => .v (sd false k (.inLoop c :: k0)) (cutT false σ.n σ1 (en s2 (i :: seen)) n)
         | .done e => match e with
          | .a x => leaf1 false (fun p n md σ => ev P false f p n0 l2 n [] md σ) σ.n k0 xa ka x n k σ1
          | .b x => leaf1 false (fun p n md σ => ev P false f p n0 l2 n [] md σ) σ.n k0 xb kb x n k σ1
          | .c x => leaf1 false (fun p n md σ => ev P false f p n0 l2 n [] md σ) σ.n k0 xc kc x n k σ1) n [(d1, true)] (.it kp) (stT (enc σ.n (en s seen)) d d0 d1 (i :: seen))) ∧
       ev P true f (kd s) n0 l1 n [(d1, false)] (.it kp) (stF (enc σ.n (en s seen)) d0 d1) = ev P false f (kd s) n0 l2 n [(d1, false)] (.it kp) (stF (enc σ.n (en s seen)) d0 d1) := by
      intro s seen
      have h3 := T.all_inj (T.all_inj hbody s) seen
      cases hi : itOf (enc σ.n (en s seen)) it with
      | none => rw [hi] at h3; simp at h3
      | some d =>
       rw [hi] at h3
       simp only at h3
       obtain ⟨h4, h5⟩ := T.v_inj h3
       obtain ⟨h6, h7⟩ := T.two_inj h5
       simp only [Prod.mk.injEq] at h4
       exact ⟨d, rfl, h4.1, h4.2.1, h4.2.2, fun i => T.all_inj h6 i, h7⟩
     let dOf : _ → List Nat → ItD := fun s seen => (itOf (enc σ.n (en s seen)) it).getD ⟨0, 0, 0, [], 0⟩
     have hdOf : ∀ s seen d, itOf (enc σ.n (en s seen)) it = some d → dOf s seen = d := fun s seen d h => by simp only [dOf, h, Option.getD_some]
     let D : Ex _ _ _ → Prop := fun e => ex3 e (fun x => (ka x).run) (fun x => (kb x).run) (fun x => (kc x).run) = some x
     let encT := fun s (l : List Nat) => stT (enc σ.n (en s l.tail)) (dOf s l.tail) d0 d1 l
     have eT : ∀ s seen (i : Nat) d, itOf (enc σ.n (en s seen)) it = some d → encT s (i :: seen) = stT (enc σ.n (en s seen)) d d0 d1 (i :: seen) := by
      intro s seen i d hi
      simp only [encT, List.tail_cons, hdOf s seen d hi]
     refine WK.mapLoop (P := P) (fid := fid) (c := c) (k := k0) (kp := kp) (r := r) (outs := outs) (fun s seen => enc σ.n (en s seen)) encT (fun s seen => stF (enc σ.n (en s seen)) d0 d1) nn (fun i s => runAll fun seen => (bd seen i s).run)
      (fun s => (kd s).run = some x) D ?_ ?_ ?_ s0 e he ?_
     ·intro s seen g1 g2
      obtain ⟨d, e1, e2, e3, e4, _, _⟩ := hst s seen
      refine WK.steps (fun b a cs w => .one stepR_inLoop) (unroll_ok 100 _ ?_)
      rw [hun.1]
      obtain ⟨q1, fz, g, ks, rows, q2, q3, q4⟩ := itOf_ok e1
      rw [e2] at q2
      rw [e3] at q2
      rw [e4] at q4
      refine WK.next hun.2 hd q1 q2 q3 q4 (fun i => encT s (i :: seen)) (stF (enc σ.n (en s seen)) d0 d1) (fun i => ?_) rfl g1 g2
      rw [eT s seen i d e1]
      unfold stT
      rw [e2]
     ·intro s seen i nx hs hnx
      obtain ⟨d, e1, e2, e3, e4, e5, _⟩ := hst s seen
      rw [eT s seen i d e1]
      refine S.it (runAll_ok hs seen) ?_ (KnOk.nil.cons (t := true) (by unfold stT; simp only [lk_up, if_true]) rfl) (e5 i)
      intro n' k' σ' hlf
      cases nx with
      | cont s2 =>
       simp only at hlf hnx
       obtain ⟨rfl, hcut⟩ := T.v_inj hlf
       exact WK.cut hcut hnx
      | done e' =>
       simp only at hlf hnx
       rcases ex3_run hnx with ⟨y, rfl, hy⟩ | ⟨y, rfl, hy⟩ | ⟨y, rfl, hy⟩
       ·exact leaf1_ok S hy hl ha hlf
       ·exact leaf1_ok S hy hl hb hlf
       ·exact leaf1_ok S hy hl hc hlf
     ·intro s seen hE
      obtain ⟨d, e1, e2, e3, e4, _, e6⟩ := hst s seen
      exact S.it hE hl (KnOk.nil.cons (t := false) (by unfold stF; simp only [lk_up, if_true]) rfl) e6
     ·cases e with
      | cont s => exact hx
      | done e => exact hx
  ·exact st h
 | rf js ks c g xs es r1 outs1 pe hsp kk0 kk1 =>
  simp only [ev] at h
  split at h
  ·rename_i fo ps asg bdy k0
   split at h
   ·rename_i g' caps hf hn hodd
    cases hfn : rfFn P g' with
    | false => rw [hfn] at h; simp at h
    | true =>
     rw [hfn] at h
     simp only at h
     obtain ⟨rfl, h⟩ := T.v_inj h
     obtain ⟨fn, body, f1, f2, f3⟩ : ∃ fn body, P.funcs[g']? = some fn ∧ fn.body = some body ∧ (fn.name == "runtime.NumGoroutine") = false := by
      unfold rfFn at hfn
      split at hfn
      ·rename_i fn e1
       split at hfn
       ·rename_i body e2 e3; exact ⟨fn, body, e1, e2, e3⟩
       ·cases hfn
      ·cases hfn
     obtain ⟨y, hy, hx⟩ := bd_run hrun
     have h := T.all_inj h y
     split at h
     ·rename_i out hcall
      split at h
      ·rename_i ps' asg' bdy' nt' ks' vs' js' p' h2
       obtain ⟨e1, h⟩ := T.v_inj h
       obtain ⟨e2, h⟩ := T.v_inj h
       simp only [Prod.mk.injEq] at e2
       obtain ⟨ej, ep⟩ := e2
       obtain ⟨hall, h⟩ := obT_ok h (by rw [e1]; exact ⟨hsp y hy, trivial⟩)
       obtain ⟨ha, hb⟩ := T.two_inj h
       have hkn : ∀ (o : List (Nat × AObj)), KnOk kn { σ with o := o } := fun o t b hb x hx => hk t b hb x hx
       refine WK.rangeFunc hf hn hodd f1 f2 f3 hcall hall h2 (fun hp0 => ?_) (fun q c hpq hjq => ?_)
       ·have : (kk0 y).run = some x := by
         have := hx
         rw [← ep, hp0] at this; exact this
        exact S.it this hl (hkn _) ha
       ·have hx1 : (kk1 y).run = some x := by
         have := hx
         rw [← ep, hpq] at this; exact this
        unfold rfJ at hb
        subst ej
        cases js' with
        | nil => simp at hjq
        | cons c0 js2 =>
         cases js2 with
         | nil =>
          cases q with
          | zero => simp at hjq; subst hjq; exact S.it hx1 hl (hkn _) hb
          | succ q => simp at hjq
         | cons c1 js3 => simp at hb
      ·simp at h
     ·simp at h
   ·simp at h
  ·exact st h
 | eqo b m o o' hoo pk =>
  simp only [ev] at h
  obtain ⟨hb, hr⟩ := eqo_run hrun
  cases hm : lk σ.o m with
  | none => rw [hm] at h; simp at h
  | some o1 =>
   rw [hm] at h
   simp only at h
   obtain ⟨rfl, h7⟩ := T.v_inj h
   have := hoo hb
   subst this
   rw [up_self hm] at h7
   exact S.it hr hl hk h7
 | gs c g hg ob hob kk =>
  simp only [ev] at h
  obtain ⟨y, hy, hx⟩ := bd_run hrun
  have h1 := T.all_inj h y
  cases hgy : g y σ with
  | none => rw [hgy] at h1; simp at h1
  | some q =>
   obtain ⟨l, σ'⟩ := q
   rw [hgy] at h1
   simp only at h1
   obtain ⟨e, h2⟩ := T.v_inj h1
   obtain ⟨hall, h3⟩ := obT_ok h2 (by rw [e]; exact hob y hy)
   exact hg y P fid k r outs σ l σ' hgy hall (S.it hx hl KnOk.nil h3)
 | tell c m g sz mem o o' ht kk =>
  simp only [ev] at h
  split at h
  ·rename_i g1 sz1 mem1 o1 e1 e2 e3
   obtain ⟨he, h5⟩ := T.v_inj h
   simp only [Prod.mk.injEq] at he
   obtain ⟨rfl, rfl, rfl, rfl⟩ := he
   obtain ⟨y, hy, hx⟩ := bd_run hrun
   have h6 := T.all_inj h5 y
   have hne : m ≠ 3 := by intro e; subst e; simp at e3
   refine WK.ffz 3 e1 (WK.tell 3 m (o' y) (f := g1) (sz := sz1) (mem := mem1) (o := o1) ?_ ?_ (ht y hy) ?_)
   ·simp only [lk_up, if_true]
   ·simp only [lk_up]; rw [if_neg (fun e => hne e.symm)]; exact e2
   ·exact S.it hx hl (by intro t b hb x hx; exact hk t b hb x hx) h6
  ·simp at h
theorem ev_sound : ∀ f, Snd P fid r outs f
 | 0 => .zero
 | f + 1 => by
  have S : Snd P fid r outs f := ev_sound f
  refine ⟨?_, ?_, ?_⟩
  ·intro _ _ _ _ _ _ _ _ h1 h2 _ _ h3 h4; exact S.itS h1 h2 h3 h4
  ·intro _ _ _ _ _ _ _ _ h1 h2 _ _ _ _ h3 h4 _ _ _ _ _ _ h5 h6; exact S.rgS h1 h2 h3 h4 h5 h6
  ·intro _ _ _ _ _ _ _ _ h1 h2 _ _ _ _ _ h3 h4 h5; exact S.drS h1 h2 h3 h4 h5
def evF (P : Program) (s : Bool) (fn : Func) (args : List AV) (ext : List AObj) {β : Type} (p : Prg P β) (res : β → AV) (outs : β → List AObj) : T :=
 ev P s 100000 p 0 (fun x n k σ => retT P s fn.results.toList ext.length k (backRet ext.length fn.results.toList (res x) n σ) (res x) (outs x)) 1001 [] (.it [.code (body fn)]) (start fn.ntmps args ext)
end
theorem T.again (t : T) : @T.rec (fun _ => T) .ok .bad (fun a _ ih => .v a ih) (fun _ ih => .all ih) (fun _ _ a b => .two a b) t = t := by
 induction t with
 | ok => rfl
 | bad s => rfl
 | v a t ih => simp only [ih]
 | all f ih => simp only [ih]
 | two a b iha ihb => simp only [iha, ihb]
theorem Prg.ok {P : Program} {g : Nat} {fn : Func} (hfn : P.funcs[g]? = some fn) {args : List AV} {ext : List AObj} {β : Type} {p : Prg P β} {res : β → AV} {outs : β → List AObj}
  (h : @T.rec (fun _ => T) .ok .bad (fun a _ ih => .v a ih) (fun _ ih => .all ih) (fun _ _ a b => .two a b) (evF P true fn args ext p res outs) = @T.rec (fun _ => T) .ok .bad (fun a _ ih => .v a ih) (fun _ ih => .all ih) (fun _ _ a b => .two a b) (evF P false fn args ext p res outs)) (hb : (fn.body.isSome && Nat.ble args.length fn.ntmps) = true) {x : β} (hle : Nat.ble ext.length (outs x).length = true) (hx : p.run = some x) :
  Spec P g args ext (res x) (outs x) := by
 simp only [T.again] at h
 simp only [Bool.and_eq_true] at hb
 obtain ⟨c, hc⟩ := Option.isSome_iff_exists.1 hb.1
 have hbody : body fn = c := by simp [body, hc]
 refine Spec.of hfn hc hb.2 hle ?_
 unfold evF at h
 rw [hbody] at h
 exact (ev_sound 100000).it hx (fun n k σ h => WK.backRet (retT_sound hfn h)) KnOk.nil h
def evFF (P : Program) (s : Bool) (fn : Func) (args : List AV) (ext : List AObj) (sz : Nat) {β : Type} (p : Nat → Prg P β) (res : β → AV) (outs : β → List AObj) : T :=
 .all fun f : Nat => ev P s 100000 (p f) 0 (fun x n k σ => retT P s fn.results.toList ext.length k (backRet ext.length fn.results.toList (res x) n σ) (res x) (outs x)) 1001 [] (.it [.code (body fn)]) { start fn.ntmps args ext with o := up (start fn.ntmps args ext).o 3 (.fam false f sz []) }
theorem Prg.okF {P : Program} {g : Nat} {fn : Func} (hfn : P.funcs[g]? = some fn) {args : List AV} {ext : List AObj} (sz : Nat) {β : Type} {p : Nat → Prg P β} {res : β → AV} {outs : β → List AObj}
  (h : @T.rec (fun _ => T) .ok .bad (fun a _ ih => .v a ih) (fun _ ih => .all ih) (fun _ _ a b => .two a b) (evFF P true fn args ext sz p res outs) = @T.rec (fun _ => T) .ok .bad (fun a _ ih => .v a ih) (fun _ ih => .all ih) (fun _ _ a b => .two a b) (evFF P false fn args ext sz p res outs)) (hb : (fn.body.isSome && Nat.ble args.length fn.ntmps && Nat.ble 1 sz) = true) {x : β} (hle : Nat.ble ext.length (outs x).length = true) (hx : ∀ f, (p f).run = some x) :
  Spec P g args ext (res x) (outs x) := by
 simp only [T.again] at h
 simp only [Bool.and_eq_true] at hb
 obtain ⟨c, hc⟩ := Option.isSome_iff_exists.1 hb.1.1
 have hbody : body fn = c := by simp [body, hc]
 refine Spec.of hfn hc hb.1.2 hle ?_
 unfold evFF at h
 rw [hbody] at h
 refine WK.birth 3 sz ?_ (Nat.le_of_ble_eq_true hb.2) (by decide) fun f => ?_
 ·cases e : lk (objs0 ext 0) 3 with
  | none => exact e
  | some o => obtain ⟨k, hk, _⟩ := lk_objs0 _ _ _ _ e; omega
 ·exact (ev_sound 100000).it (hx f) (fun n k σ h => WK.backRet (retT_sound hfn h)) KnOk.nil (T.all_inj h f)
end Go.Fx
