/- Cuts, loops, returns, contracts: the rules that a function's proof is made of. -/
import Derived.Test.YtpdjphpjejjkpaaFxO
namespace Go.Fx
section
variable {P : Program} {M M' : Mm} {w : World} {σ : St} {a : Act}
theorem lkN {l : List (Nat × Nat)} {n m : Nat} (h : lk l n = some m) : (n, m) ∈ l := by
 induction l with
 | nil => simp [lk] at h
 | cons kv l ih =>
  obtain ⟨k, v⟩ := kv
  simp only [lk] at h
  split at h
  ·rename_i e; have := nbeq_eq e; subst this; cases h; exact .head _
  ·exact .tail _ (ih h)
theorem keepT_get {t : List (Nat × AV)} {ρ : Nat → Option Nat} : ∀ {xs : List Nat} {r : List (Nat × AV)}, keepT t ρ xs = some r → ∀ (x : Nat) (v' : AV), lk r x = some v' → ∃ v, lk t x = some v ∧ v.ren ρ = some v' := by
 intro xs
 induction xs with
 | nil => intro r h x v' hx; simp [keepT] at h; subst h; simp [lk] at hx
 | cons y ys ih =>
  intro r h x v' hx
  simp only [keepT] at h
  split at h
  ·rename_i v hv
   split at h
   ·rename_i u rr h1 h2
    cases h
    simp only [lk] at hx
    split at hx
    ·rename_i e; have := nbeq_eq e; subst this; cases hx; exact ⟨v, hv, h1⟩
    ·exact ih h2 x v' hx
   ·cases h
  ·cases h
theorem keepO_get {o : List (Nat × AObj)} {ρ : Nat → Option Nat} : ∀ {xs : List (Nat × Nat)} {r : List (Nat × AObj)}, keepO o ρ xs = some r →
  (∀ (b : Nat) (v' : AObj), lk r b = some v' → ∃ x v, (x, b) ∈ xs ∧ lk o x = some v ∧ v.renK ρ = some v') ∧ ∀ x b, (x, b) ∈ xs → (lk r b).isSome := by
 intro xs
 induction xs with
 | nil => intro r h; simp [keepO] at h; subst h; simp [lk]
 | cons y ys ih =>
  intro r h
  obtain ⟨x, b⟩ := y
  simp only [keepO] at h
  split at h
  ·rename_i v hv
   split at h
   ·rename_i u rr h1 h2
    cases h
    obtain ⟨g1, g2⟩ := ih h2
    refine ⟨?_, ?_⟩
    ·intro b' v' hb
     simp only [lk] at hb
     split at hb
     ·rename_i e; have := nbeq_eq e; subst this; cases hb; exact ⟨x, v, .head _, hv, h1⟩
     ·obtain ⟨x', v'', e1, e2⟩ := g1 b' v' hb; exact ⟨x', v'', .tail _ e1, e2⟩
    ·intro x' b' hb
     simp only [lk]
     split
     ·rfl
     ·cases hb with
      | head => rename_i e; simp at e
      | tail _ hb => exact g2 x' b' hb
   ·cases h
  ·cases h
def invk : List (Nat × Nat) → Nat → Option Nat
 | [], _ => none
 | (x, b) :: r, m => if b = m then some x else invk r m
theorem invk_some {l : List (Nat × Nat)} {m x : Nat} (h : invk l m = some x) : (x, m) ∈ l := by
 induction l with
 | nil => simp [invk] at h
 | cons kv l ih =>
  obtain ⟨y, b⟩ := kv
  simp only [invk] at h
  split at h
  ·rename_i e; subst e; cases h; exact .head _
  ·exact .tail _ (ih h)
theorem invk_get {l : List (Nat × Nat)} {m x : Nat} (hd : (l.map (·.2)).Nodup) (h : (x, m) ∈ l) : invk l m = some x := by
 induction l with
 | nil => cases h
 | cons kv l ih =>
  obtain ⟨y, b⟩ := kv
  simp only [List.map_cons, List.nodup_cons] at hd
  simp only [invk]
  cases h with
  | head => simp
  | tail _ h =>
   rw [if_neg, ih hd.2 h]
   rintro rfl
   exact hd.1 (List.mem_map.2 ⟨_, h, rfl⟩)
theorem lk_get {l : List (Nat × Nat)} {m x : Nat} (hd : (l.map (·.1)).Nodup) (h : (x, m) ∈ l) : lk l x = some m := by
 induction l with
 | nil => cases h
 | cons kv l ih =>
  obtain ⟨y, b⟩ := kv
  simp only [List.map_cons, List.nodup_cons] at hd
  simp only [lk]
  cases h with
  | head => simp
  | tail _ h =>
   rw [nbeq_ne]
   ·exact ih hd.2 h
   ·rintro rfl; exact hd.1 (List.mem_map.2 ⟨_, h, rfl⟩)
theorem evenOk_get {l : List (Nat × Nat)} (h : evenOk l = true) : ∀ x b, (x, b) ∈ l → b % 2 = 0 → x = b := by
 induction l with
 | nil => intro x b h; cases h
 | cons kv l ih =>
  obtain ⟨y, c⟩ := kv
  intro x b hm hb
  simp only [evenOk] at h
  split at h
  ·cases h
  ·rename_i hne
   cases hm with
   | head =>
    cases he : Nat.beq y c with
    | true => exact nbeq_eq he
    | false => exact absurd he (hne hb)
   | tail _ hm => exact ih h x b hm hb
theorem lowOk_get {l : List (Nat × Nat)} (h : lowOk l = true) : ∀ x b, (x, b) ∈ l → x < 16 → b = x := by
 induction l with
 | nil => intro x b h; cases h
 | cons kv l ih =>
  obtain ⟨y, c⟩ := kv
  intro x b hm hb
  simp only [lowOk] at h
  split at h
  ·cases h
  ·rename_i hne
   cases hm with
   | head =>
    cases he : Nat.beq c y with
    | true => exact nbeq_eq he
    | false => exact absurd he (hne (by rw [Nat.blt_eq]; exact hb))
   | tail _ hm => exact ih h x b hm hb
theorem keep_sound {kt : List Nat} {ko : List (Nat × Nat)} {σ' : St} (h : keepSt kt ko σ = some σ') (R : RSt M σ a w) :
  ∃ M', RSt M' σ' a w ∧ Go1 M w M' w := by
 unfold keepSt at h
 split at h
 ·rename_i t o hok ht ho
  cases h
  simp only [Bool.and_eq_true, nodupN_iff] at hok
  obtain ⟨⟨⟨nd1, nd2⟩, hev⟩, hlow⟩ := hok
  obtain ⟨o1, o2⟩ := keepO_get ho
  let M' : Mm := ⟨fun b => match M.κ b with
   | .own n => match lk ko n with
    | some m => .own m
    | none => .outer
   | c => c, fun m => match invk ko m with
   | some x => M.β x
   | none => M.β m, M.φ, M.F0⟩
  have hκ : ∀ b, M.κ b = .frozen → M'.κ b = .frozen := by intro b hb; simp only [M', hb]
  have hβ : ∀ n m, lk ko n = some m → M'.β m = M.β n := by
   intro n m hm
   simp only [M', invk_get nd2 (lkN hm)]
  refine ⟨M', ⟨R.sz, R.df, ?_, ?_, ?_, ?_⟩, ⟨⟨rfl, rfl, rfl, Nat.le_refl _, fun _ _ _ => rfl, fun b _ hb => hκ b hb, fun b _ hb => by simp only [M', hb], fun _ c _ _ h => ⟨c, h, rfl⟩, fun _ _ _ h => h, fun _ _ _ => rfl, rfl⟩, ?_⟩⟩
  ·intro x v' hx
   obtain ⟨v, h1, h2⟩ := keepT_get ht x v' hx
   exact (R.tm x v h1).ren hκ (fun _ _ _ h => h) hβ h2
  ·intro n o' hn
   obtain ⟨x, v, h1, h2, h3⟩ := o1 n o' hn
   refine (R.ob x v h2).renK (fun h => lowOk_get hlow x n h1 h) hκ rfl rfl hβ (lk_get nd1 h1) ?_ h3
   intro b hb
   simp only [M', hb, lk_get nd1 h1]
  ·intro x v' hx n hn
   obtain ⟨v, h1, h2⟩ := keepT_get ht x v' hx
   obtain ⟨m, _, hm⟩ := ren_nms h2 n hn
   exact o2 m n (lkN hm)
  ·intro m o' hm n hn
   obtain ⟨x, v, h1, h2, h3⟩ := o1 m o' hm
   obtain ⟨q, _, hq⟩ := orenK_nms h3 n hn
   exact o2 q n (lkN hq)
  ·intro n hn
   simp only [M']
   cases hi : invk ko n with
   | none => rfl
   | some x => simp only; rw [evenOk_get hev x n (invk_some hi) hn]
 ·cases h
theorem WK.keep {fid : Fid} {k : List Item} {r : AV} {outs : List AObj} {kt : List Nat} {ko : List (Nat × Nat)} {σ' : St} (h : keepSt kt ko σ = some σ') (hk : WK P fid k σ' r outs) : WK P fid k σ r outs := by
 intro M a w R b cs hb
 obtain ⟨M', R', g⟩ := keep_sound h R
 obtain ⟨v, M'', w', h1, h4, h5⟩ := hk M' a w R' b cs (hb.mono g)
 exact ⟨v, M'', w', h1, g.trans2 h4, h5⟩
inductive Nx (S R : Type) where
 | cont (s : S)
 | done (r : R)
def loopN {S R : Type} : Nat → (S → Option (Nx S R)) → S → Option R
 | 0, _, _ => none
 | k + 1, f, s => match f s with
  | none => none
  | some (.cont s') => loopN k f s'
  | some (.done r) => some r
theorem WK.loop {fid : Fid} {S R : Type} {c : Code} {k : List Item} {r : AV} {outs : List AObj} (enc : S → St) (f : S → Option (Nx S R)) (D : R → Prop)
  (step : ∀ s x, f s = some x → (match x with | .cont s' => WK P fid (.inLoop c :: k) (enc s') r outs | .done q => D q) → WK P fid (.inLoop c :: k) (enc s) r outs) :
  ∀ (n : Nat) (s : S) (q : R), loopN n f s = some q → D q → WK P fid (.inLoop c :: k) (enc s) r outs := by
 intro n
 induction n with
 | zero => intro s q h; simp [loopN] at h
 | succ n ih =>
  intro s q h hD
  simp only [loopN] at h
  split at h
  ·cases h
  ·rename_i s' hs
   exact step s _ hs (ih s' q h hD)
  ·rename_i q' hs
   cases h
   exact step s _ hs hD
theorem WK.enterLoop {fid : Fid} {c : Code} {k : List Item} {r : AV} {outs : List AObj} (h : WK P fid (.inLoop c :: k) σ r outs) : WK P fid (.code (.loop c) :: k) σ r outs := by
 intro M a w R b cs hb
 obtain ⟨v, M', w', h1, h4⟩ := h M a w R b cs hb
 refine ⟨v, M', w', ?_, h4⟩
 have key : ∀ m, m ≠ lone (b.at2 a (.inLoop c :: k)) cs w → Steps P (lone (b.at2 a (.inLoop c :: k)) cs w) m → Steps P (lone (b.at2 a (.code (.loop c) :: k)) cs w) m := by
  intro m hne hst
  obtain ⟨n, hn⟩ := hst
  cases n with
  | zero => simp only [runN, Stepped.next.injEq] at hn; exact absurd hn.symm hne
  | succ n =>
   rw [runN, stepR_inLoop] at hn
   exact .head stepR_loop ⟨n, hn⟩
 unfold Ends at h1 ⊢
 split at h1
 ·obtain ⟨fr, h1, h2, h3⟩ := h1
  refine ⟨fr, key _ (fun e => ?_) h1, h2, h3⟩
  have : fr = b.at2 a (.inLoop c :: k) := by
   have := congrArg (fun m => (m.gs[0]?).map (·.frame)) e
   simpa [lone] using this
  have hm : fr.mode = .returning := h2.1
  rw [this] at hm
  simp [Frame.at2, Frame.atR] at hm
 ·obtain ⟨c', cs', hcs, h1⟩ := h1
  refine ⟨c', cs', hcs, key _ (fun e => ?_) h1⟩
  have := congrArg (fun m => (m.gs[0]?).map (·.callers.length)) e
  simp [lone, hcs] at this
def hvH : AV → AV
 | .hv n sz _ => .hw n sz
 | v => v
theorem hvH_rel {M : Mm} {w : World} {v : Value} {x : AV} (h : VRel M w v x) : VRel M w v (hvH x) := by
 unfold hvH
 split
 ·rename_i n sz N
  cases h with | hv _ _ _ _ h =>
  refine .hw v n sz ?_
  generalize (M.β n).1 = ln at h
  cases h with | hx _ _ _ _ b base cap c T fr f1 f2 f3 f4 f5 =>
  have := VRel.hd (M := M) (w := w) n 0 ln sz b base cap c T fr f1 (by omega) f4 (by rw [Nat.zero_add]; exact f5)
  simpa using this
 ·exact h
theorem hvH_nms (x : AV) : (hvH x).nms = x.nms := by
 unfold hvH; split <;> rfl
def retVals (P : Program) (L : Nat → Option AObj) (t : List (Nat × AV)) : List ResultVar → Option (List AV)
 | [] => some []
 | .tmp x :: r => match lk t x, retVals P L t r with
  | some v, some vs => some (hvH v :: vs)
  | _, _ => none
 | .cell x ty :: r => match lk t x with
  | some p => match loadA P L ty p .no, retVals P L t r with
   | some out, some vs => some (out.v :: vs)
   | _, _ => none
  | none => none
def evens : Nat → Nat → List Nat
 | 0, _ => []
 | n + 1, k => 2 * k :: evens n (k + 1)
def tupA : List AV → AV
 | [v] => v
 | vs => .tup vs
def retA (P : Program) (rs : List ResultVar) (σ : St) (nimp : Nat) (frz esc : List Nat) : Option (List Obl × AV × List AObj) :=
 match retVals P σ.obj σ.t rs with
 | some vs => match frzArgs σ.obj frz vs, frzObjs σ.obj frz, nodupN (frz ++ (evens nimp 0 ++ esc)) with
  | some (p, vs'), some _, true => match renL (toIm (evens nimp 0 ++ esc)) vs', objsAt σ.obj (evens nimp 0 ++ esc) with
   | some rs', some os => match renObjs (toIm (evens nimp 0 ++ esc)) os with
    | some os' => some (p, tupA rs', os')
    | none => none
   | _, _ => none
  | _, _, _ => none
 | none => none
theorem retVals_sound (R : RSt M σ a w) : ∀ {rs : List ResultVar} {vs : List AV}, retVals P σ.obj σ.t rs = some vs →
  ∃ xs : List Value, (rs.mapM fun | .tmp t => pure (a.tmps.getD t undef) | .cell ad t => do loadVar t (← asAddr (a.tmps.getD ad undef)) : Sem (List Value)).run P w = .ok xs w ∧ xs.length = vs.length ∧
   (∀ (i : Nat) (x : Value) (v : AV), xs[i]? = some x → vs[i]? = some v → VRel M w x v) ∧ ∀ v ∈ vs, ∀ n ∈ v.nms, (lk σ.o n).isSome := by
 intro rs
 induction rs with
 | nil => intro vs h; simp [retVals] at h; subst h; exact ⟨[], by simp, rfl, by simp, by simp⟩
 | cons rv rs ih =>
  intro vs h
  cases rv with
  | tmp t =>
   simp only [retVals] at h
   split at h
   ·rename_i v vs' hv hvs
    cases h
    obtain ⟨xs, h1, h2, h3, h4⟩ := ih hvs
    refine ⟨a.tmps.getD t undef :: xs, by rw [List.mapM_cons]; simp only [Sem.run_bind, Sem.run_pure, Result.andThen_ok, h1], by simp [h2], ?_, ?_⟩
    ·intro i x y e1 e2
     cases i with
     | zero => simp at e1 e2; subst e1; subst e2; have := hvH_rel (R.tm t v hv); simpa using this
     | succ i => simp at e1 e2; exact h3 i x y e1 e2
    ·intro y hy n hn
     cases hy with
     | head => rw [hvH_nms] at hn; exact R.wt t v hv n hn
     | tail _ hy => exact h4 y hy n hn
   ·cases h
  | cell t ty =>
   simp only [retVals] at h
   split at h
   ·rename_i p hp
    split at h
    ·rename_i out vs' ho hvs
     cases h
     obtain ⟨xs, h1, h2, h3, h4⟩ := ih hvs
     have hob : All out.ob := by
      unfold loadA at ho
      split at ho
      ·cases ho
      ·simp only [Option.map_eq_some_iff] at ho; obtain ⟨_, _, rfl⟩ := ho; trivial
      ·split at ho
       ·split at ho
        ·rename_i h; cases h
        ·simp only [Option.map_eq_some_iff] at ho; obtain ⟨_, _, rfl⟩ := ho; trivial
        ·cases ho
       ·split at ho
        ·rename_i h; cases h
        ·simp only [Option.map_eq_some_iff] at ho; obtain ⟨_, _, rfl⟩ := ho; trivial
        ·cases ho
       ·split at ho
        ·simp only [Option.map_eq_some_iff] at ho; obtain ⟨_, _, rfl⟩ := ho; trivial
        ·cases ho
       ·split at ho
        ·rename_i h _; cases h
        ·cases ho
       ·split at ho
        ·simp only [Option.map_eq_some_iff] at ho; obtain ⟨_, _, rfl⟩ := ho; trivial
        ·rename_i h _; cases h
        ·cases ho
       ·cases ho
      ·cases ho
     obtain ⟨ad, y, g1, g2, g3, g4, g5⟩ := loadA_run (P := P) R (R.tm t p hp) ho hob
     have hf : (asAddr (a.tmps.getD t undef) >>= fun z => loadVar ty z : Sem Value).run P w = .ok y w := by rw [g1]; exact g2
     refine ⟨y :: xs, by rw [List.mapM_cons, Sem.run_bind]; erw [hf]; simp only [Result.andThen_ok, Sem.run_bind, h1, Sem.run_pure], by simp [h2], ?_, ?_⟩
     ·intro i x z e1 e2
      cases i with
      | zero => simp at e1 e2; subst e1; subst e2; exact g3
      | succ i => simp at e1 e2; exact h3 i x z e1 e2
     ·intro z hz n hn
      cases hz with
      | head => exact g4 n hn
      | tail _ hz => exact h4 z hz n hn
    ·cases h
   ·cases h
theorem evens_get : ∀ (n k i : Nat), i < n → (evens n k)[i]? = some (2 * (k + i)) := by
 intro n
 induction n with
 | zero => intro k i h; omega
 | succ n ih =>
  intro k i h
  cases i with
  | zero => simp [evens]
  | succ i =>
   simp only [evens, List.getElem?_cons_succ]
   rw [ih (k + 1) i (by omega)]; congr 2; omega
theorem evens_length : ∀ (n k : Nat), (evens n k).length = n := by
 intro n
 induction n with
 | zero => intro k; rfl
 | succ n ih => intro k; simp [evens, ih]
theorem retA_core {nimp : Nat} {rs : List ResultVar} (R : RSt M σ a w) {r : AV} {outs : List AObj} {frz esc : List Nat} {ps : List Obl} (h : retA P rs σ nimp frz esc = some (ps, r, outs)) (hp : All ps) :
  ∃ (xs : List Value) (M₂ : Mm), (rs.mapM fun | .tmp t => pure (a.tmps.getD t undef) | .cell ad t => do loadVar t (← asAddr (a.tmps.getD ad undef)) : Sem (List Value)).run P w = .ok xs w ∧ Ext M w M₂ w ∧
   (∀ n, n < nimp → M₂.β (2 * n) = M.β (2 * n)) ∧ VRel M₂ w (if h : xs.toArray.size = 1 then xs.toArray[0] else .tuple xs.toArray) r ∧
   (∀ (k : Nat) (o : AObj), outs[k]? = some o → ORel M₂ w (2 * k) o) ∧ (∀ n ∈ r.nms, evenBelow outs.length n) ∧ (∀ o ∈ outs, ∀ n ∈ o.nms, evenBelow outs.length n) := by
 unfold retA at h
 split at h
 ·rename_i vs hvs
  split at h
  ·rename_i p vs' wf hfa hfo hnd
   split at h
   ·rename_i rs' os hren hos
    split at h
    ·rename_i os' hos'
     cases h
     rw [nodupN_iff] at hnd
     have nd1 : frz.Nodup := (List.nodup_append.1 hnd).1
     have nd2 : (evens nimp 0 ++ esc).Nodup := (List.nodup_append.1 hnd).2.1
     have dis : ∀ n, n ∈ evens nimp 0 ++ esc → n ∉ frz := fun n h1 h2 => (List.nodup_append.1 hnd).2.2 n h2 n h1 rfl
     obtain ⟨xs, x1, x2, x3, x4⟩ := retVals_sound (P := P) R hvs
     obtain ⟨M₁, R₁, E₁, B₁, f1, f2⟩ := frzObjs_sound R hfo (nodupN_iff.2 nd1)
     obtain ⟨a1, a2⟩ := frzArgs_sound (σ := σ) (σ₁ := { σ with o := wrO σ.o wf }) f2 R₁.ob hfa hp
     obtain ⟨c1, c2⟩ := renL_get hren
     obtain ⟨o1, o2⟩ := objsAt_get hos
     obtain ⟨y1, y2⟩ := renObjs_get hos'
     have hκ : ∀ b, M₁.κ b = .frozen → (M₁.callee M₁.F0 (evens nimp 0 ++ esc)).κ b = .frozen := by intro b hb; simp [Mm.callee, hb]
     have toIm_some : ∀ n m, toIm (evens nimp 0 ++ esc) n = some m → ∃ k, m = 2 * k ∧ (evens nimp 0 ++ esc)[k]? = some n := by
      intro n m hm
      unfold toIm at hm
      simp only [Option.map_eq_some_iff] at hm
      obtain ⟨k, hk, rfl⟩ := hm
      have := (idxOf_some hk).2
      exact ⟨k, rfl, by simpa using this⟩
     have βeven : ∀ (k n : Nat), (evens nimp 0 ++ esc)[k]? = some n → (M₁.callee M₁.F0 (evens nimp 0 ++ esc)).β (2 * k) = M₁.β n := by
      intro k n hk
      have h1 : 2 * k % 2 = 0 := by omega
      have h2 : 2 * k / 2 = k := by omega
      simp [Mm.callee, h1, h2, hk]
     have hβ : ∀ n m, toIm (evens nimp 0 ++ esc) n = some m → (M₁.callee M₁.F0 (evens nimp 0 ++ esc)).β m = M₁.β n := by
      intro n m hm
      obtain ⟨k, rfl, hk⟩ := toIm_some n m hm
      exact βeven k n hk
     have evenN : ∀ m, (∃ n, toIm (evens nimp 0 ++ esc) n = some m) → evenBelow outs.length m := by
      rintro m ⟨n, hm⟩
      obtain ⟨k, rfl, hk⟩ := toIm_some n m hm
      exact ⟨k, by rw [← y1, o1]; exact (List.getElem?_eq_some_iff.1 hk).1, rfl⟩
     have hv : ∀ (i : Nat) (x : Value) (v : AV), xs[i]? = some x → rs'[i]? = some v → VRel (M₁.callee M₁.F0 (evens nimp 0 ++ esc)) w x v := by
      intro i x v e1 e2
      obtain ⟨u, u1, u2⟩ := c2 i v e2
      obtain ⟨z, z1, z2, _⟩ := a2 i u u1
      have := (x3 i x z e1 z1).mono E₁ (fun n _ => by rw [B₁])
      exact (z2 x this).ren hκ (fun _ _ _ h => h) hβ u2
     have hlen : xs.length = rs'.length := by omega
     have hext : Ext M₁ w (M₁.callee M₁.F0 (evens nimp 0 ++ esc)) w :=
      ⟨rfl, rfl, rfl, Nat.le_refl _, fun _ _ _ => rfl, fun b _ hb => hκ b hb, fun b _ hb => by simp [Mm.callee, hb], fun _ c _ _ h => ⟨c, h, rfl⟩, fun _ _ _ h => h, fun _ _ _ => rfl, rfl⟩
     have hrr : VRel (M₁.callee M₁.F0 (evens nimp 0 ++ esc)) w (if h : xs.toArray.size = 1 then xs.toArray[0] else .tuple xs.toArray) (tupA rs') := by
      match xs, rs', hlen, hv with
      | [x], [v], _, hv => exact hv 0 x v rfl rfl
      | [], [], _, hv => exact .tup _ _ rfl (by simp)
      | x :: y :: xs, v :: u :: rs', hl, hv =>
       have : ¬ (x :: y :: xs).toArray.size = 1 := by simp
       rw [dif_neg this]
       refine .tup _ _ (by simpa using hl) fun i x' v' e1 e2 => hv i x' v' (by simpa using e1) e2
      | [x], [], hl, _ => simp at hl
      | [x], v :: u :: rs', hl, _ => simp at hl
      | [], v :: rs', hl, _ => simp at hl
      | x :: xs, [], hl, _ => simp at hl
      | x :: y :: xs, [v], hl, _ => simp at hl
     refine ⟨xs, M₁.callee M₁.F0 (evens nimp 0 ++ esc), x1, E₁.trans hext, ?_, hrr, ?_, ?_, ?_⟩
     ·intro n hn
      rw [← B₁]
      have hn : n < nimp := hn
      refine βeven n (2 * n) ?_
      rw [List.getElem?_append_left (by rw [evens_length]; exact hn), evens_get _ _ _ hn, Nat.zero_add]
     ·intro k o ho
      obtain ⟨o0, z1, z2⟩ := y2 k o ho
      obtain ⟨n, u1, u2⟩ := o2 k o0 z1
      have hnf : allNat n frz = true := allNat_iff.2 (dis n (List.mem_of_getElem? u1))
      have hobj := R₁.ob n o0 (by rw [show (({ σ with o := wrO σ.o wf } : St).o) = wrO σ.o wf from rfl, f1 n hnf]; exact u2)
      have hid := idxOf_get (i := 0) nd2 u1
      rw [Nat.zero_add] at hid
      refine hobj.ren hκ (fun _ _ _ h => h) hβ (by unfold toIm; rw [hid]; rfl) ?_ z2
      intro b hb
      simp only [Mm.callee, hb, hid]
     ·intro m hm
      have : m ∈ nmsL rs' := by
       unfold tupA at hm
       split at hm
       ·simpa [nmsL] using hm
       ·simpa [AV.nms] using hm
      obtain ⟨n, _, hn⟩ := renL_nms hren m this
      exact evenN m ⟨n, hn⟩
     ·intro o ho m hm
      obtain ⟨i, hi⟩ := List.getElem?_of_mem ho
      obtain ⟨y, z1, z2⟩ := y2 i o hi
      obtain ⟨n, _, hn⟩ := oren_nms z2 m hm
      exact evenN m ⟨n, hn⟩
    ·cases h
   ·cases h
  ·cases h
 ·cases h
theorem WK.ret0 {fid nimp : Nat} {fn : Func} (hfn : P.funcs[fid]? = some fn) {k0 : List Item} (hs : ∀ (b : Frame) (a : Act) (cs : List Frame) (w : World), b.roundOf = none → ∃ k1, step P (lone (b.atR a k0) cs w) = .next (lone { b.atR a k1 with mode := .returning } cs w)) {r : AV} {outs : List AObj} {frz esc : List Nat} {ps : List Obl}
  (h : retA P fn.results.toList σ nimp frz esc = some (ps, r, outs)) (hp : All ps) : WK P ⟨fid, nimp, none⟩ k0 σ r outs := by
 intro M a w0 R0 b cs hbo
 have hb : b.fn = fid := hbo.fn
 have hbk := hbo.kind
 obtain ⟨k1, hst0⟩ := hs b ⟨a.tmps, b.defers⟩ cs w0 hbo.rd
 obtain ⟨Ds, hDs, hnD, hkD⟩ := hbo.df
 obtain ⟨w, hst1, wo1, wo2, wo3, wo4, wo5⟩ := unwind_dfs (P := P) (cs := cs) Ds { b.at2 a k1 with mode := .returning } w0 rfl hDs hnD (fun D hD => (hkD D hD).2)
 have R := R0.unwound hkD wo4 wo5
 have hst : Steps P (lone (b.at2 a k0) cs w0) (lone { b.at2 a k1 with mode := .returning, defers := [] } cs w) := (Steps.one hst0).trans hst1
 have hX : ExtX (XB b) M w0 M w := by
  refine ⟨wo1, wo2, wo3, by omega, fun b' _ _ hx => wo5 b' fun hm => hx (.inl ?_), fun _ _ h => h, fun _ _ h _ => h, fun b' c T fr h => ⟨c, ?_, rfl⟩, fun _ _ _ h => h, fun _ _ _ => rfl, rfl⟩
  ·show dfl b' ∈ b.defers
   rw [hDs]; exact List.mem_map.2 ⟨b', hm, rfl⟩
  ·rw [wo5 b' fun hm => ?_]; exact h
   rw [(hkD b' hm).2] at h; cases h
 obtain ⟨xs, M₂, x1, E, hβ, hrr, h5, h6, h7⟩ := retA_core (P := P) R h hp
 have hres : (results fn a.tmps).run P w = .ok (if h : xs.toArray.size = 1 then xs.toArray[0] else .tuple xs.toArray) w := by
  unfold results
  rw [Sem.run_bind, Array.mapM_eq_mapM_toList, Sem.run_map]
  erw [x1]
  rfl
 exact ⟨_, M₂, w, ⟨_, hst, ⟨rfl, rfl, hbk, fn, by show P.funcs[b.fn]? = some fn; rw [hb]; exact hfn, hres⟩, hb⟩, ⟨hX.trans E.x, hβ⟩, hrr, h5, h6, h7⟩
theorem WK.ret {fid nimp : Nat} {fn : Func} (hfn : P.funcs[fid]? = some fn) {k : List Item} {r : AV} {outs : List AObj} {frz esc : List Nat} {ps : List Obl}
  (h : retA P fn.results.toList σ nimp frz esc = some (ps, r, outs)) (hp : All ps) : WK P ⟨fid, nimp, none⟩ (.code .ret :: k) σ r outs :=
 WK.ret0 hfn (fun _ _ _ _ hr => ⟨_, stepR_ret hr⟩) h hp
theorem WK.fall {fid nimp : Nat} {fn : Func} (hfn : P.funcs[fid]? = some fn) {r : AV} {outs : List AObj} {frz esc : List Nat} {ps : List Obl}
  (h : retA P fn.results.toList σ nimp frz esc = some (ps, r, outs)) (hp : All ps) : WK P ⟨fid, nimp, none⟩ [] σ r outs :=
 WK.ret0 hfn (fun _ _ _ _ hr => ⟨_, stepR_end hr⟩) h hp
theorem sI {α : Type} {a b : α} (h : some a = some b) : a = b := Option.some.inj h
end
end Go.Fx
