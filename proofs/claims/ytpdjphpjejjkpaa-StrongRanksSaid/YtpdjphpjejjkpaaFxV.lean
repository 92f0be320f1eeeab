/- The check is sound: where its two sides are the same, the loaded code computes the plain program. -/
import Derived.Test.YtpdjphpjejjkpaaFxRb
namespace Go.Fx
section
variable {P : Program}
def KnOk (kn : Kn) (σ : St) : Prop := ∀ t b, lk kn t = some b → ∀ x, lk σ.t t = some (.pv (.bool x)) → x = b
theorem KnOk.nil {σ : St} : KnOk [] σ := by intro t b h; simp [lk] at h
theorem KnOk.cons {kn : Kn} {σ : St} (h : KnOk kn σ) {tj : Nat} {t b : Bool} (hv : lk σ.t tj = some (.pv (.bool t))) (hb : t = b) : KnOk ((tj, b) :: kn) σ := by
 intro x c hc y hy
 simp only [lk] at hc
 split at hc
 ·rename_i e
  have := nbeq_eq e; subst this
  cases hc
  rw [hv] at hy; cases hy; exact hb
 ·exact h x c hc y hy
theorem lk_knDel {d : Nat} : ∀ {kn : Kn} {t : Nat} {b : Bool}, lk (knDel d kn) t = some b → t ≠ d ∧ lk kn t = some b
 | [], t, b, h => by simp [knDel, lk] at h
 | (x, c) :: r, t, b, h => by
  simp only [knDel] at h
  split at h
  ·rename_i e
   have := nbeq_eq e; subst this
   obtain ⟨h1, h2⟩ := lk_knDel h
   refine ⟨h1, ?_⟩
   simp only [lk, nbeq_ne (fun e => h1 e.symm)]
   exact h2
  ·rename_i e
   simp only [lk] at h ⊢
   split at h
   ·rename_i e2
    have := nbeq_eq e2; subst this
    refine ⟨?_, by simpa using h⟩
    rintro rfl; simp at e
   ·rename_i e2
    obtain ⟨h1, h2⟩ := lk_knDel h
    exact ⟨h1, h2⟩
theorem knOf_ok {kn : Kn} {σ : St} (h : KnOk kn σ) {x : Operand} {b : Bool} (hx : knOf kn x = some b) {y : Bool} (hy : σ.ev x = .pv (.bool y)) : y = b := by
 cases x with
 | tmp t =>
  simp only [knOf] at hx
  simp only [St.ev] at hy
  cases hl : lk σ.t t with
  | none => rw [hl] at hy; simp at hy
  | some v => rw [hl] at hy; simp at hy; subst hy; exact h t b hx y hl
 | const v =>
  cases v <;> simp [knOf] at hx
  subst hx
  simp [St.ev, avOf, avOf1, pvOf] at hy
  exact hy.symm
 | func g => simp [knOf] at hx
 | global g => simp [knOf] at hx
theorem nextN_t {σ σ' : St} {o : Oper} {out : Out} (h : nextN σ o out = some σ') : (∀ t, (∀ d, o.dst = some d → t ≠ d) → lk σ'.t t = lk σ.t t) ∧ (∀ d, o.dst = some d → lk σ'.t d = some out.v) ∧ σ'.n = σ.n := by
 unfold nextN at h
 split at h
 ·rename_i σ₂ h2
  cases h
  unfold St.putD at h2
  split at h2
  ·rename_i hd
   cases h2
   exact ⟨fun _ _ => rfl, fun d hd' => (by rw [hd] at hd'; cases hd'), rfl⟩
  ·rename_i d hd
   split at h2
   ·cases h2
    refine ⟨fun t ht => ?_, fun d' hd' => ?_, rfl⟩
    ·rw [lk_up, if_neg (fun e => ht d hd e.symm)]
    ·rw [hd] at hd'; cases hd'
     rw [lk_up, if_pos rfl]
   ·cases h2
 ·cases h
theorem KnOk.skip {kn : Kn} {σ σ' : St} {o : Oper} {out : Out} (h : KnOk kn σ) (hn : nextN σ o out = some σ') : KnOk (knSkip kn o) σ' := by
 obtain ⟨h1, h2, _⟩ := nextN_t hn
 unfold knSkip
 split
 ·rename_i hd
  intro t b hb x hx
  rw [h1 t (by simp [hd])] at hx
  exact h t b hb x hx
 ·rename_i d hd
  intro t b hb x hx
  obtain ⟨k1, k2⟩ := lk_knDel hb
  rw [h1 t (by intro d' hd'; rw [hd] at hd'; cases hd'; exact k1)] at hx
  exact h t b k2 x hx
theorem KnOk.put {kn : Kn} {σ σ' : St} {o : Oper} {out : Out} (h : KnOk kn σ) (hn : nextN σ o out = some σ') {d : Nat} (hd : o.dst = some d) {ob : Option Bool} (hv : ∀ b, ob = some b → ∀ x, out.v = .pv (.bool x) → x = b) :
  KnOk (knPut kn d ob) σ' := by
 have hs : KnOk (knDel d kn) σ' := by
  have := h.skip hn
  unfold knSkip at this
  rw [hd] at this
  exact this
 unfold knPut
 split
 ·rename_i b
  obtain ⟨h1, h2, _⟩ := nextN_t hn
  intro t c hc x hx
  simp only [lk] at hc
  split at hc
  ·rename_i e
   have := nbeq_eq e; subst this
   cases hc
   rw [h2 d hd] at hx
   simp only [Option.some.injEq] at hx
   exact hv _ rfl x hx
  ·exact hs t c hc x hx
 ·exact hs
theorem opN_act {ops : Array Oper} {o : Oper} {kn : Kn} {σ : St} {gb : Option Bool} {act : Bool} {an : Ann} {out : Out} (hg : guardM ops o kn σ = .go gb act) (h : opN P (SpecY P) ops o gb an σ = some out) (hk : KnOk kn σ) :
  (act = true → ∃ out', eff P (SpecY P) σ.obj o.op σ.ev an = some out' ∧ out.v = out'.v ∧ (AllP (obP out'.ob) → AllP (obP out.ob)) ∧ (obP out.ob).drop (gbN gb) = obP out'.ob) ∧
  (act = false → (obP out.ob).drop (gbN gb) = [] → AllP (obP out.ob)) := by
 unfold guardM at hg
 unfold opN at h
 cases ho : o.guard with
 | none =>
  rw [ho] at hg h
  simp only [Gm.go.injEq] at hg
  obtain ⟨rfl, rfl⟩ := hg
  exact ⟨fun _ => ⟨out, h, rfl, id, rfl⟩, nofun⟩
 | some jw =>
  obtain ⟨j, want⟩ := jw
  rw [ho] at hg h
  simp only at hg h
  cases hj : (ops[j]?).bind (·.dst) with
  | none => rw [hj] at hg; simp at hg
  | some tj =>
   rw [hj] at hg h
   simp only at hg h
   cases hb : lk kn tj with
   | some b =>
    rw [hb] at hg
    simp only [Gm.go.injEq] at hg
    obtain ⟨rfl, rfl⟩ := hg
    cases hgv : lk σ.t tj with
    | none => rw [hgv] at h; simp at h
    | some g =>
     rw [hgv] at h
     simp only at h
     cases g
     case pv p =>
      cases p
      case bool t =>
       have htb : t = b := hk tj b hb t hgv
       simp only at h
       cases hw : want == b with
       | true =>
        rw [hw] at h
        simp only at h
        cases he : eff P (SpecY P) σ.obj o.op σ.ev an with
        | none => rw [he] at h; simp at h
        | some out' =>
         rw [he] at h
         simp only [Option.some.injEq] at h
         subst h
         exact ⟨fun _ => ⟨out', rfl, rfl, fun hp => ⟨htb, hp⟩, rfl⟩, nofun⟩
       | false =>
        rw [hw] at h
        simp only [Option.some.injEq] at h
        subst h
        exact ⟨nofun, fun _ _ => ⟨htb, trivial⟩⟩
      all_goals simp at h
     all_goals simp at h
   | none =>
    rw [hb] at hg
    simp only at hg
    have fin : gb = none ∧ act = false := by
     split at hg
     ·split at hg
      ·simp only [Gm.go.injEq] at hg; exact ⟨hg.1.symm, hg.2.symm⟩
      ·simp at hg
     ·simp only [Gm.go.injEq] at hg; exact ⟨hg.1.symm, hg.2.symm⟩
     ·simp at hg
    obtain ⟨rfl, rfl⟩ := fin
    refine ⟨nofun, fun _ hd => ?_⟩
    simp only [gbN, List.drop_zero] at hd
    rw [hd]; trivial
theorem opM_sil {kn : Kn} {σ : St} {n : Nat} {op : Op} {an : Ann} {kp : Nat} (h : opM P kn σ n op = .sil an kp) :
  kp = 0 ∨ ∃ c x y b, op = .pick c x y ∧ an = .bit b ∧ knOf kn c = some b ∧ kp = 1 := by
 unfold opM at h
 split at h
 ·rename_i c x y
  split at h
  ·rename_i b hb
   simp only [Om.sil.injEq] at h
   exact .inr ⟨c, x, y, b, rfl, h.1.symm, hb, h.2.symm⟩
  ·split at h
   ·simp only [Om.sil.injEq] at h; exact .inl h.2.symm
   ·split at h <;> simp at h
 all_goals
  left
  revert h
  repeat' split
  all_goals
   intro h
   first
    | (simp only [Om.sil.injEq] at h; exact h.2.symm)
    | (simp at h; done)
theorem sil_all {kn : Kn} {σ : St} {n : Nat} {op : Op} {an : Ann} {kp : Nat} (h : opM P kn σ n op = .sil an kp) (hk : KnOk kn σ) {out : Out} (he : eff P (SpecY P) σ.obj op σ.ev an = some out)
  (hd : (obP out.ob).drop kp = []) : AllP (obP out.ob) := by
 rcases opM_sil h with rfl | ⟨c, x, y, b, rfl, rfl, hb, rfl⟩
 ·rw [List.drop_zero] at hd; rw [hd]; trivial
 ·simp only [eff, effR, resOp, eff0, pickA] at he
  split at he
  ·rename_i t ht
   cases he
   exact ⟨knOf_ok hk hb ht, trivial⟩
  ·cases he
theorem KnOk.up {kn : Kn} {σ σ' : St} {o : Oper} {out out' : Out} {n : Nat} {an : Ann} {kp : Nat} (hk : KnOk kn σ) (hm : opM P kn σ n o.op = .sil an kp) (he : eff P (SpecY P) σ.obj o.op σ.ev an = some out') (hv : out.v = out'.v) (hn : nextN σ o out = some σ') :
  KnOk (knUp kn o) σ' := by
 unfold knUp
 split
 ·rename_i hd
  have := hk.skip hn
  unfold knSkip at this
  rw [hd] at this
  exact this
 ·rename_i d hd
  have del : KnOk (knDel d kn) σ' := hk.put (ob := none) hn hd (by simp)
  split
  ·rename_i x hop
   rw [hop] at hm he
   simp only [opM, Om.sil.injEq] at hm
   obtain ⟨rfl, rfl⟩ := hm
   simp only [eff, effR, resOp, eff0, effV, Option.some.injEq] at he
   subst he
   exact hk.put hn hd fun b hb y hy => knOf_ok hk hb (by rw [← hy, hv])
  ·rename_i x hop
   rw [hop] at hm he
   simp only [opM, Om.sil.injEq] at hm
   obtain ⟨rfl, rfl⟩ := hm
   simp only [eff, effR, resOp, eff0, effV, Option.some.injEq] at he
   subst he
   exact hk.put hn hd fun b hb y hy => knOf_ok hk hb (by rw [← hy, hv])
  ·rename_i c x y hop
   rw [hop] at hm he
   rcases opM_sil hm with rfl | ⟨c', x', y', b, e, rfl, hb, rfl⟩
   ·-- not known
    have hc : knOf kn c = none := by
     simp only [opM] at hm
     cases hc : knOf kn c with
     | none => rfl
     | some b => rw [hc] at hm; simp at hm
    rw [hc]; exact del
   ·cases e
    rw [hb]
    simp only [eff, effR, resOp, eff0, pickA] at he
    split at he
    ·cases he
     cases b
     ·exact hk.put hn hd fun b hb y hy => knOf_ok hk hb (by rw [← hy, hv])
     ·exact hk.put hn hd fun b hb y hy => knOf_ok hk hb (by rw [← hy, hv])
    ·cases he
  ·exact del
theorem knUp_node {kn : Kn} {σ : St} {n : Nat} {o : Oper} (h : ∀ an kp, opM P kn σ n o.op ≠ .sil an kp) (hs : ∀ t j, opM P kn σ n o.op ≠ .split t j) (hb : opM P kn σ n o.op ≠ .bad) : knUp kn o = knSkip kn o := by
 unfold knUp knSkip
 split
 ·rfl
 ·split
  ·rename_i x hop; exact absurd (by rw [hop]; rfl) (h .no 0)
  ·rename_i x hop; exact absurd (by rw [hop]; rfl) (h .no 0)
  ·rename_i c x y hop
   rw [hop] at h hs hb
   exfalso
   simp only [opM] at h hs hb
   split at h
   ·exact h _ _ rfl
   ·rename_i hc
    simp only [hc] at hs hb
    split at h
    ·exact h _ _ rfl
    ·rename_i hp
     simp only [hp] at hs hb
     revert hs hb
     split
     ·intro hs _; exact hs _ _ rfl
     ·intro _ hb; exact hb rfl
  ·rfl
theorem annAt_cons {i j : Nat} {x : Option Bool × Ann} {as : Anns} (h : i ≠ j) : annAt ((i, x) :: as) j = annAt as j := by
 simp only [annAt, lk, nbeq_ne h]
theorem traceN_skip {ops : Array Oper} {i : Nat} {x : Option Bool × Ann} {as : Anns} : ∀ {l : List Nat} {σ : St}, i ∉ l → traceN P (SpecY P) ops ((i, x) :: as) l σ = traceN P (SpecY P) ops as l σ
 | [], σ, _ => rfl
 | j :: l, σ, h => by
  have hj : i ≠ j := fun e => h (by rw [e]; exact .head _)
  have hl : i ∉ l := fun e => h (.tail _ e)
  simp only [traceN, annAt_cons hj, traceN_skip hl]
end
end Go.Fx
