/- A call of the abstract machine is the model's: sound. -/
import Derived.Test.YtpdjphpjejjkpaaFxH
namespace Go.Fx
theorem allNat_iff {n : Nat} {l : List Nat} : allNat n l = true ↔ n ∉ l := by
 induction l with
 | nil => simp [allNat]
 | cons x l ih =>
  simp only [allNat]
  split
  ·rename_i h; have := nbeq_eq h; subst this; simp
  ·rename_i h
   have hne : x ≠ n := by rintro rfl; simp at h
   rw [ih]; simp [hne.symm]
theorem allNat_false {n : Nat} {l : List Nat} : allNat n l = false ↔ n ∈ l := by
 rw [← Bool.not_eq_true, allNat_iff]; simp
theorem nodupN_iff {l : List Nat} : nodupN l = true ↔ l.Nodup := by
 induction l with
 | nil => simp [nodupN]
 | cons x l ih =>
  simp only [nodupN, List.nodup_cons]
  split
  ·rename_i h; rw [allNat_iff] at h; simp [h, ih]
  ·rename_i h
   have : x ∈ l := allNat_false.1 h
   simp [this]
theorem idxOf_some {l : List Nat} {n : Nat} : ∀ {i k : Nat}, idxOf l n i = some k → i ≤ k ∧ l[k - i]? = some n := by
 induction l with
 | nil => intro i k h; simp [idxOf] at h
 | cons x l ih =>
  intro i k h
  simp only [idxOf] at h
  split at h
  ·rename_i he; have := nbeq_eq he; subst this; cases h; simp
  ·obtain ⟨h1, h2⟩ := ih h
   refine ⟨by omega, ?_⟩
   have : k - i = (k - (i + 1)) + 1 := by omega
   rw [this]; simpa using h2
theorem idxOf_get {l : List Nat} {n : Nat} : ∀ {i k : Nat}, l.Nodup → l[k]? = some n → idxOf l n i = some (i + k) := by
 induction l with
 | nil => intro i k _ h; simp at h
 | cons x l ih =>
  intro i k hd h
  rw [List.nodup_cons] at hd
  simp only [idxOf]
  cases k with
  | zero => simp at h; subst h; simp
  | succ k =>
   simp at h
   have hne : x ≠ n := by rintro rfl; exact hd.1 (List.mem_of_getElem? h)
   rw [nbeq_ne hne]
   simp only
   rw [ih hd.2 h]; congr 1; omega
theorem idxOf_none {l : List Nat} {n : Nat} : ∀ {i : Nat}, n ∉ l → idxOf l n i = none := by
 induction l with
 | nil => intro i _; rfl
 | cons x l ih =>
  intro i h
  simp only [List.mem_cons, not_or] at h
  simp only [idxOf]
  rw [nbeq_ne (fun e => h.1 e.symm)]
  exact ih h.2
theorem objsAt_get {L : Nat → Option AObj} : ∀ {ns : List Nat} {os : List AObj}, objsAt L ns = some os → os.length = ns.length ∧ ∀ (k : Nat) (o : AObj), os[k]? = some o → ∃ n : Nat, ns[k]? = some n ∧ L n = some o := by
 intro ns
 induction ns with
 | nil => intro os h; simp [objsAt] at h; subst h; simp
 | cons n ns ih =>
  intro os h
  simp only [objsAt] at h
  split at h
  ·rename_i o os' h1 h2
   cases h
   obtain ⟨g1, g2⟩ := ih h2
   refine ⟨by simp [g1], ?_⟩
   intro k o' hk
   cases k with
   | zero => simp at hk; subst hk; exact ⟨n, rfl, h1⟩
   | succ k => simp at hk; obtain ⟨m, e1, e2⟩ := g2 k o' hk; exact ⟨m, by simpa using e1, e2⟩
  ·cases h
theorem renObjs_get {ρ : Nat → Option Nat} : ∀ {os os' : List AObj}, renObjs ρ os = some os' → os.length = os'.length ∧ ∀ (k : Nat) (o' : AObj), os'[k]? = some o' → ∃ o : AObj, os[k]? = some o ∧ o.ren ρ = some o' := by
 intro os
 induction os with
 | nil => intro os' h; simp [renObjs] at h; subst h; simp
 | cons o os ih =>
  intro os' h
  simp only [renObjs] at h
  split at h
  ·rename_i p ps h1 h2
   cases h
   obtain ⟨g1, g2⟩ := ih h2
   refine ⟨by simp [g1], ?_⟩
   intro k o' hk
   cases k with
   | zero => simp at hk; subst hk; exact ⟨o, rfl, h1⟩
   | succ k => simp at hk; obtain ⟨m, e1, e2⟩ := g2 k o' hk; exact ⟨m, by simpa using e1, e2⟩
  ·cases h
theorem lk_zip : ∀ (ns : List Nat) (os : List AObj) (l : List (Nat × AObj)) (m : Nat), ns.Nodup → ns.length = os.length →
  (∀ k : Nat, ns[k]? = some m → lk (wrO l (zipNm ns os)) m = os[k]?) ∧ (m ∉ ns → lk (wrO l (zipNm ns os)) m = lk l m) := by
 intro ns
 induction ns with
 | nil => intro os l m _ hl; cases os with | nil => exact ⟨by simp, fun _ => rfl⟩ | cons => simp at hl
 | cons n ns ih =>
  intro os l m hd hl
  rw [List.nodup_cons] at hd
  cases os with
  | nil => simp at hl
  | cons o os =>
   simp only [zipNm, wrO]
   obtain ⟨h1, h2⟩ := ih os (up l n o) m hd.2 (by simpa using hl)
   refine ⟨?_, ?_⟩
   ·intro k hk
    cases k with
    | zero =>
     simp at hk; subst hk
     rw [h2 hd.1, lk_up, if_pos rfl]; rfl
    | succ k => simp at hk; rw [h1 k hk]; simp
   ·intro hm
    simp only [List.mem_cons, not_or] at hm
    rw [h2 hm.2, lk_up, if_neg (fun e => hm.1 e.symm)]
theorem wrO_append (o : List (Nat × AObj)) (a b : List (Nat × AObj)) : wrO o (a ++ b) = wrO (wrO o a) b := by
 induction a generalizing o with
 | nil => rfl
 | cons x a ih => obtain ⟨n, x⟩ := x; simp only [List.cons_append, wrO, ih]
theorem newNames_iff {L : Nat → Option AObj} {ns : List Nat} (h : newNames L ns = true) : ∀ n ∈ ns, L n = none ∧ n % 2 = 1 := by
 induction ns with
 | nil => simp
 | cons n ns ih =>
  simp only [newNames] at h
  split at h
  ·rename_i h1 h2
   intro m hm
   cases hm with
   | head => exact ⟨h1, h2⟩
   | tail _ hm => exact ih h m hm
  ·cases h
section
variable {P : Program} {M M' : Mm} {w : World} {σ : St} {a : Act}
theorem frzArg_sound {σ₁ : St} {frz : List Nat} (hf : ∀ n, allNat n frz = false → ∃ o o', lk σ.o n = some o ∧ lk σ₁.o n = some o' ∧ Frz o o')
  (ho : ∀ n o, lk σ₁.o n = some o → ORel M w n o) {x x' : AV} {p : List Obl} (h : frzArg σ.obj frz x = some (p, x')) (hp : All p) {v : Value} (hv : VRel M w v x) :
  VRel M w v x' ∧ ∀ n ∈ x'.nms, n ∈ x.nms := by
 unfold frzArg at h
 split at h
 ·rename_i n off len sz
  split at h
  ·rename_i fz sz' rows hn hL
   split at h
   ·rename_i h0 hs
    have h0 := nbeq_eq h0
    have hs := nbeq_eq hs
    subst h0; subst hs
    cases h
    obtain ⟨o, o', g1, g2, g3⟩ := hf n hn
    rw [show σ.obj n = lk σ.o n from rfl, g1] at hL
    cases hL
    rcases g3 with ⟨_, _, _, q1, q2⟩ | ⟨_, _, _, _, _, q1, q2⟩ | ⟨_, q1, q2⟩
    ·cases q1; subst q2
     exact ⟨hd_frozen hv (ho n _ g2) hp.1, by simp [AV.nms]⟩
    ·cases q1
    ·cases q1
   ·cases h
  ·cases h; exact ⟨hv, fun _ h => h⟩
 ·rename_i n sz
  split at h
  ·rename_i fz sz' rows hn hL
   split at h
   ·rename_i hs
    have hs := nbeq_eq hs
    subst hs
    cases h
    obtain ⟨o, o', g1, g2, g3⟩ := hf n hn
    rw [show σ.obj n = lk σ.o n from rfl, g1] at hL
    cases hL
    rcases g3 with ⟨_, _, _, q1, q2⟩ | ⟨_, _, _, _, _, q1, q2⟩ | ⟨_, q1, q2⟩
    ·cases q1; subst q2
     exact ⟨hd_frozen (hw_hd hv (ho n _ g2)) (ho n _ g2) rfl, by simp [AV.nms]⟩
    ·cases q1
    ·cases q1
   ·cases h
  ·cases h; exact ⟨hv, fun _ h => h⟩
 ·rename_i n
  split at h
  ·rename_i fz g rg ks rows hn hL
   cases h
   obtain ⟨o, o', g1, g2, g3⟩ := hf n hn
   rw [show σ.obj n = lk σ.o n from rfl, g1] at hL
   cases hL
   rcases g3 with ⟨_, _, _, q1, q2⟩ | ⟨_, _, _, _, _, q1, q2⟩ | ⟨_, q1, q2⟩
   ·cases q1
   ·cases q1; subst q2
    exact ⟨mp_frozen hv (ho n _ g2), by simp [AV.nms]⟩
   ·cases q1
  ·cases h; exact ⟨hv, fun _ h => h⟩
 ·cases h; exact ⟨hv, fun _ h => h⟩
theorem frzArg_nms {L : Nat → Option AObj} {frz : List Nat} {x x' : AV} {p : List Obl} (h : frzArg L frz x = some (p, x')) : ∀ n ∈ x'.nms, n ∈ x.nms := by
 intro n hn
 unfold frzArg at h
 split at h
 ·split at h
  ·split at h
   ·cases h; simp [AV.nms] at hn
   ·cases h
  ·cases h; exact hn
 ·split at h
  ·split at h
   ·cases h; simp [AV.nms] at hn
   ·cases h
  ·cases h; exact hn
 ·split at h
  ·cases h; simp [AV.nms] at hn
  ·cases h; exact hn
 ·cases h; exact hn
theorem frzArgs1_sound {σ₁ : St} {frz : List Nat} (hf : ∀ n, allNat n frz = false → ∃ o o', lk σ.o n = some o ∧ lk σ₁.o n = some o' ∧ Frz o o')
  (ho : ∀ n o, lk σ₁.o n = some o → ORel M w n o) : ∀ {l l' : List AV} {p : List Obl}, frzArgs1 σ.obj frz l = some (p, l') → All p →
   l.length = l'.length ∧ (∀ (i : Nat) (x' : AV), l'[i]? = some x' → ∃ x, l[i]? = some x ∧ (∀ v, VRel M w v x → VRel M w v x') ∧ ∀ n ∈ x'.nms, n ∈ x.nms) := by
 intro l
 induction l with
 | nil => intro l' p h _; simp [frzArgs1] at h; obtain ⟨_, rfl⟩ := h; simp
 | cons x l ih =>
  intro l' p h hp
  simp only [frzArgs1] at h
  split at h
  ·rename_i p1 d q es h1 h2
   cases h
   rw [All_append] at hp
   obtain ⟨g1, g2⟩ := ih h2 hp.2
   refine ⟨by simp [g1], ?_⟩
   intro i x' hi
   cases i with
   | zero =>
    simp at hi; subst hi
    exact ⟨x, rfl, fun v hv => (frzArg_sound hf ho h1 hp.1 hv).1, frzArg_nms h1⟩
   | succ i => simp at hi; obtain ⟨y, e1, e2⟩ := g2 i x' hi; exact ⟨y, by simpa using e1, e2⟩
  ·cases h
theorem frzArg2_sound {σ₁ : St} {frz : List Nat} (hf : ∀ n, allNat n frz = false → ∃ o o', lk σ.o n = some o ∧ lk σ₁.o n = some o' ∧ Frz o o')
  (ho : ∀ n o, lk σ₁.o n = some o → ORel M w n o) {x x' : AV} {p : List Obl} (h : frzArg2 σ.obj frz x = some (p, x')) (hp : All p) :
  (∀ v, VRel M w v x → VRel M w v x') ∧ ∀ n ∈ x'.nms, n ∈ x.nms := by
 unfold frzArg2 at h
 split at h
 ·rename_i cs
  split at h
  ·rename_i q ds h1
   cases h
   obtain ⟨g1, g2⟩ := frzArgs1_sound hf ho h1 hp
   refine ⟨?_, ?_⟩
   ·intro v hv
    cases hv with | agg vs _ e1 e2 e3 =>
    refine rel_cells (e1.trans g1) e2 fun i v c f1 f2 => ?_
    obtain ⟨y, y1, y2, _⟩ := g2 i c f2
    exact y2 v (e3 i v y f1 y1)
   ·intro n hn
    have hn := mkAgg_nms hn
    rw [nmsL_iff] at hn
    obtain ⟨c, hc, hn⟩ := hn
    obtain ⟨i, hi⟩ := List.getElem?_of_mem hc
    obtain ⟨y, y1, _, y3⟩ := g2 i c hi
    simp only [AV.nms]
    exact nmsL_mem (List.mem_of_getElem? y1) (y3 n hn)
  ·cases h
 ·exact ⟨fun v hv => (frzArg_sound hf ho h hp hv).1, frzArg_nms h⟩
theorem frzArgs_sound {σ₁ : St} {frz : List Nat} (hf : ∀ n, allNat n frz = false → ∃ o o', lk σ.o n = some o ∧ lk σ₁.o n = some o' ∧ Frz o o')
  (ho : ∀ n o, lk σ₁.o n = some o → ORel M w n o) : ∀ {l l' : List AV} {p : List Obl}, frzArgs σ.obj frz l = some (p, l') → All p →
   l.length = l'.length ∧ (∀ (i : Nat) (x' : AV), l'[i]? = some x' → ∃ x, l[i]? = some x ∧ (∀ v, VRel M w v x → VRel M w v x') ∧ ∀ n ∈ x'.nms, n ∈ x.nms) := by
 intro l
 induction l with
 | nil => intro l' p h _; simp [frzArgs] at h; obtain ⟨_, rfl⟩ := h; simp
 | cons x l ih =>
  intro l' p h hp
  simp only [frzArgs] at h
  split at h
  ·rename_i p1 d q es h1 h2
   cases h
   rw [All_append] at hp
   obtain ⟨g1, g2⟩ := ih h2 hp.2
   refine ⟨by simp [g1], ?_⟩
   intro i x' hi
   cases i with
   | zero => simp at hi; subst hi; exact ⟨x, rfl, (frzArg2_sound hf ho h1 hp.1).1, (frzArg2_sound hf ho h1 hp.1).2⟩
   | succ i => simp at hi; obtain ⟨y, e1, e2⟩ := g2 i x' hi; exact ⟨y, by simpa using e1, e2⟩
  ·cases h
def Mm.callee (M : Mm) (F : Nat) (imps : List Nat) : Mm where
 κ b := match M.κ b with
  | .frozen => .frozen
  | .own n => match idxOf imps n 0 with
   | some k => .own (2 * k)
   | none => .outer
  | .outer => .outer
 β n := match n % 2 with
  | 0 => match imps[n / 2]? with
   | some m => M.β m
   | none => (0, none)
  | _ => (0, none)
 φ := M.φ
 F0 := F
def convCls (names : List Nat) : Cls → Cls
 | .frozen => .frozen
 | .outer => .outer
 | .own m => match ofIm names m with
  | some n => .own n
  | none => .outer
def Mm.back (M : Mm) (w : World) (imps news : List Nat) (M' : Mm) : Mm where
 κ b := match decide (b < w.heap.size), M.κ b with
  | true, .own n => match allNat n imps with
   | true => .own n
   | false => convCls (imps ++ news) (M'.κ b)
  | _, _ => convCls (imps ++ news) (M'.κ b)
 β n := match idxOf news n 0 with
  | some j => M'.β (2 * (imps.length + j))
  | none => M.β n
 φ := M'.φ
 F0 := M.F0
theorem callA0_sound {SP : SpecT} (R : RSt M σ a w) {g : Nat} {args : List AV} {an : Ann} {out : Out} (h : callA0 SP σ.obj g args an = some out) (hp : All out.ob) {vs : Array Value}
  (hvs : vs.size = args.length) (hrel : ∀ (i : Nat) (v : Value) (x : AV), vs[i]? = some v → args[i]? = some x → VRel M w v x) (hnm : ∀ x ∈ args, ∀ n ∈ x.nms, (lk σ.o n).isSome) :
  ∃ xs es r outs M₁, SP g xs es r outs ∧ SpecPre M₁ w vs xs es ∧ ∀ e w', SpecPost M₁ w es r outs e w' → ∃ v, e = .returned v ∧ ∃ M', Post M σ w out M' v w' := by
 unfold callA0 at h
 split at h
 ·rename_i frz imps xs es r outs news _
  split at h
  ·rename_i p args' wf hfa hfo
   split at h
   ·rename_i cargs os hca hos hnd hlen
    split at h
    ·rename_i ext r' outs' hext hr hout
     obtain ⟨q1, q2, hq1, hq2, rfl⟩ : ∃ q1 q2, cvL noO cargs xs = some q1 ∧ cvOs noO ext es = some q2 ∧ out = ⟨p ++ (q1 ++ (q2 ++ [.p (SP g xs es r outs)])), r', wf ++ zipNm (imps ++ news) outs'⟩ := by
      split at h
      ·rename_i q1 q2 h1 h2; cases h; exact ⟨q1, q2, h1, h2, rfl⟩
      ·cases h
     rw [All_append, All_append, All_append] at hp
     obtain ⟨hp1, hc1, hc2, hspec, _⟩ := hp
     simp only [Bool.and_eq_true] at hnd
     obtain ⟨hnd, hnew⟩ := hnd
     rw [nodupN_iff] at hnd
     have hlen := nbeq_eq hlen
     have hnews := newNames_iff hnew
     have nd1 : frz.Nodup := (List.nodup_append.1 hnd).1
     have nd2 : (imps ++ news).Nodup := (List.nodup_append.1 hnd).2.1
     have nd3 : imps.Nodup := (List.nodup_append.1 nd2).1
     have nd4 : news.Nodup := (List.nodup_append.1 nd2).2.1
     have dis : ∀ n, n ∈ imps → n ∉ frz := fun n h1 h2 => (List.nodup_append.1 hnd).2.2 n h2 n (List.mem_append.2 (.inl h1)) rfl
     have disn : ∀ n, n ∈ imps → n ∉ news := fun n h1 h2 => (List.nodup_append.1 nd2).2.2 n h1 n h2 rfl
     obtain ⟨M₁, R₁, E₁, B₁, f1, f2⟩ := frzObjs_sound R hfo (nodupN_iff.2 nd1)
     have dom₁ : ∀ n, (lk σ.o n).isSome → (lk (wrO σ.o wf) n).isSome := by
      intro n hn
      cases hh : allNat n frz with
      | true => rw [f1 n hh]; exact hn
      | false => obtain ⟨_, _, _, g2, _⟩ := f2 n hh; rw [g2]; rfl
     have dom₁' : ∀ n, (lk (wrO σ.o wf) n).isSome → (lk σ.o n).isSome := by
      intro n hn
      cases hh : allNat n frz with
      | true => rw [f1 n hh] at hn; exact hn
      | false => obtain ⟨_, _, g1, _, _⟩ := f2 n hh; rw [g1]; rfl
     obtain ⟨a1, a2⟩ := frzArgs_sound (σ := σ) (σ₁ := { σ with o := wrO σ.o wf }) f2 R₁.ob hfa hp1
     obtain ⟨c1, c2⟩ := renL_get hca
     obtain ⟨o1, o2⟩ := objsAt_get hos
     obtain ⟨x1, x2⟩ := renObjs_get hext
     obtain ⟨t1, t2⟩ := renObjs_get hout
     have hel : ext.length = imps.length := by omega
     have hκ : ∀ b, M₁.κ b = .frozen → (M₁.callee M₁.φ.length imps).κ b = .frozen := by intro b hb; simp [Mm.callee, hb]
     have toIm_some : ∀ n m, toIm imps n = some m → ∃ k, m = 2 * k ∧ imps[k]? = some n := by
      intro n m hm
      unfold toIm at hm
      simp only [Option.map_eq_some_iff] at hm
      obtain ⟨k, hk, rfl⟩ := hm
      have := (idxOf_some hk).2
      exact ⟨k, rfl, by simpa using this⟩
     have βeven : ∀ (k n : Nat), imps[k]? = some n → (M₁.callee M₁.φ.length imps).β (2 * k) = M₁.β n := by
      intro k n hk
      have h1 : 2 * k % 2 = 0 := by omega
      have h2 : 2 * k / 2 = k := by omega
      simp [Mm.callee, h1, h2, hk]
     have hβ : ∀ n m, toIm imps n = some m → (M₁.callee M₁.φ.length imps).β m = M₁.β n := by
      intro n m hm
      obtain ⟨k, rfl, hk⟩ := toIm_some n m hm
      exact βeven k n hk
     have evenN : ∀ m, (∃ n, toIm imps n = some m) → evenBelow ext.length m := by
      rintro m ⟨n, hm⟩
      obtain ⟨k, rfl, hk⟩ := toIm_some n m hm
      exact ⟨k, by rw [hel]; exact (List.getElem?_eq_some_iff.1 hk).1, rfl⟩
     obtain ⟨d1, d2⟩ := cvL_rel (M := M₁.callee M₁.φ.length imps) (w := w) (L := noO) (by intro _ _ _ h; cases h) hq1 hc1
     obtain ⟨d3, d4⟩ := cvOs_rel (M := M₁.callee M₁.φ.length imps) (w := w) (L := noO) (by intro _ _ _ h; cases h) hq2 hc2
     have back1 : ∀ (i : Nat) (x : AV), xs[i]? = some x → ∃ y, cargs[i]? = some y := fun i x h => ⟨cargs[i]'(by rw [d1]; exact (List.getElem?_eq_some_iff.1 h).1), List.getElem?_eq_getElem _⟩
     have back2 : ∀ (i : Nat) (x : AObj), es[i]? = some x → ∃ y, ext[i]? = some y := fun i x h => ⟨ext[i]'(by rw [d3]; exact (List.getElem?_eq_some_iff.1 h).1), List.getElem?_eq_getElem _⟩
     have hsz2 : vs.size = cargs.length := by omega
     refine ⟨xs, es, r, outs, M₁.callee M₁.φ.length imps, hspec, ⟨(by omega), (by
      intro i v x0 e1 e0
      obtain ⟨x', e2⟩ := back1 i x0 e0
      refine (d2 i x' x0 e2 e0).1 v ?_
      obtain ⟨y, y1, y2⟩ := c2 i x' e2
      obtain ⟨z, z1, z2, _⟩ := a2 i y y1
      have := (hrel i v z e1 z1).mono E₁ (fun n _ => by rw [B₁])
      exact (z2 v this).ren hκ (fun _ _ _ h => h) hβ y2), (by
      intro k oe hoe
      obtain ⟨o, ho⟩ := back2 k oe hoe
      refine (d4 k o oe ho hoe).1 (2 * k) ?_
      obtain ⟨o0, y1, y2⟩ := x2 k o ho
      obtain ⟨n, z1, z2⟩ := o2 k o0 y1
      have hnf : allNat n frz = true := allNat_iff.2 (dis n (List.mem_of_getElem? z1))
      have hobj := R₁.ob n o0 (by rw [show (({ σ with o := wrO σ.o wf } : St).o) = wrO σ.o wf from rfl, f1 n hnf]; exact z2)
      have hid := idxOf_get (i := 0) nd3 z1
      rw [Nat.zero_add] at hid
      refine hobj.ren hκ (fun _ _ _ h => h) hβ (by unfold toIm; rw [hid]; rfl) ?_ y2
      intro b hb
      simp only [Mm.callee, hb, hid]), (by
      intro x0 hx0 m hm
      obtain ⟨i, hi0⟩ := List.getElem?_of_mem hx0
      obtain ⟨x', hi⟩ := back1 i x0 hi0
      have hm : m ∈ x'.nms := ((d2 i x' x0 hi hi0).2 m hm).elim id (fun h => by cases h)
      rw [← d3]
      obtain ⟨y, y1, y2⟩ := c2 i x' hi
      obtain ⟨n, _, hn⟩ := ren_nms y2 m hm
      exact evenN m ⟨n, hn⟩), (by
      intro oe hoe m hm
      obtain ⟨i, hie⟩ := List.getElem?_of_mem hoe
      obtain ⟨o, hi⟩ := back2 i oe hie
      have hm : m ∈ o.nms := ((d4 i o oe hi hie).2 m hm).elim id (fun h => by cases h)
      rw [← d3]
      obtain ⟨y, y1, y2⟩ := x2 i o hi
      obtain ⟨n, _, hn⟩ := oren_nms y2 m hm
      exact evenN m ⟨n, hn⟩)⟩, ?_⟩
     rintro e w' ⟨v, M', rfl, E', hv, hob', hβ', hrn, hon, hle⟩
     refine ⟨v, rfl, M₁.back w imps news M', ?_⟩
     have kcase : ∀ b, (∃ n, b < w.heap.size ∧ M₁.κ b = .own n ∧ n ∉ imps ∧ (M₁.back w imps news M').κ b = .own n ∧ M'.κ b = .outer ∧ w'.heap[b]? = w.heap[b]?) ∨
       ((M₁.back w imps news M').κ b = convCls (imps ++ news) (M'.κ b) ∧ (b < w.heap.size → ∀ n, M₁.κ b = .own n → n ∈ imps)) := by
      intro b
      by_cases hb : b < w.heap.size
      ·cases hk : M₁.κ b with
       | own n =>
        by_cases hn : n ∈ imps
        ·right
         refine ⟨?_, fun _ m hm => by cases hm; exact hn⟩
         simp only [Mm.back, hb, decide_true, hk, allNat_false.2 hn]
        ·left
         have hc : (M₁.callee M₁.φ.length imps).κ b = .outer := by simp only [Mm.callee, hk, idxOf_none hn]
         refine ⟨n, hb, rfl, hn, ?_, E'.out b hb hc, E'.keep b hb (by rw [hc]; intro m; simp)⟩
         simp only [Mm.back, hb, decide_true, hk, allNat_iff.2 hn]
       | frozen => right; exact ⟨by simp only [Mm.back, hb, decide_true, hk], fun _ m hm => by cases hm⟩
       | outer => right; exact ⟨by simp only [Mm.back, hb, decide_true, hk], fun _ m hm => by cases hm⟩
      ·right
       exact ⟨by simp only [Mm.back, hb, decide_false], fun h => absurd h hb⟩
     have hκ2 : ∀ b, M'.κ b = .frozen → (M₁.back w imps news M').κ b = .frozen := by
      intro b hb
      rcases kcase b with ⟨n, _, _, _, _, h5, _⟩ | ⟨h1, _⟩
      ·rw [hb] at h5; cases h5
      ·rw [h1, hb]; rfl
     have names_get : ∀ (j n : Nat), (imps ++ news)[j]? = some n → ofIm (imps ++ news) (2 * j) = some n := by
      intro j n hj
      have h1 : 2 * j % 2 = 0 := by omega
      have h2 : 2 * j / 2 = j := by omega
      simp only [ofIm, h1, h2, hj]
     have hown : ∀ (j n : Nat), (imps ++ news)[j]? = some n → ∀ b, M'.κ b = .own (2 * j) → (M₁.back w imps news M').κ b = .own n := by
      intro j n hj b hb
      rcases kcase b with ⟨n', _, _, _, _, h5, _⟩ | ⟨h1, _⟩
      ·rw [hb] at h5; cases h5
      ·rw [h1, hb]; simp only [convCls, names_get j n hj]
     have hβ2 : ∀ m n, ofIm (imps ++ news) m = some n → (M₁.back w imps news M').β n = M'.β m := by
      intro m n hm
      unfold ofIm at hm
      split at hm
      ·rename_i hm0
       have hm2 : m = 2 * (m / 2) := by omega
       by_cases hi : m / 2 < imps.length
       ·rw [List.getElem?_append_left hi] at hm
        have hn : n ∉ news := disn n (List.mem_of_getElem? hm)
        simp only [Mm.back, idxOf_none hn]
        rw [hm2, hβ' (m / 2) (by omega), βeven _ _ hm]
       ·rw [List.getElem?_append_right (by omega)] at hm
        have hid := idxOf_get (i := 0) nd4 hm
        simp only [Mm.back, hid]
        congr 1; omega
      ·cases hm
     have hext2 : Ext M₁ w (M₁.back w imps news M') w' := by
      refine ⟨E'.os, E'.tape, E'.output, E'.size, ?_, ?_, ?_, E'.shp, fun f i b h => E'.fam f i b h, fun f _ h2 => E'.low f h2 h2, rfl⟩
      ·intro b hb hn
       refine E'.keep b hb ?_
       intro m
       cases hk : M₁.κ b with
       | own n => exact absurd hk (hn n)
       | frozen => simp [Mm.callee, hk]
       | outer => simp [Mm.callee, hk]
      ·intro b hb hk
       exact hκ2 b (E'.fro b hb (hκ b hk))
      ·intro b hb hk
       have : M'.κ b = .outer := E'.out b hb (by simp [Mm.callee, hk])
       rcases kcase b with ⟨n, _, h2, _⟩ | ⟨h1, _⟩
       ·rw [hk] at h2; cases h2
       ·rw [h1, this]; rfl
     have hnl : (imps ++ news).length = outs'.length := by rw [List.length_append]; omega
     have lkz := fun m => lk_zip (imps ++ news) outs' (wrO σ.o wf) m nd2 hnl
     have bnew : ∀ n, (lk σ.o n).isSome → n ∉ news := fun n hn hn' => by
      have := (hnews n hn').1
      rw [show σ.obj n = lk σ.o n from rfl] at this
      rw [this] at hn; cases hn
     have bet : ∀ n, (lk σ.o n).isSome → (M₁.back w imps news M').β n = M₁.β n := by
      intro n hn
      simp only [Mm.back, idxOf_none (bnew n hn)]
     have dom2 : ∀ n, (lk σ.o n).isSome ∨ n ∈ imps ++ news → (lk (wrO (wrO σ.o wf) (zipNm (imps ++ news) outs')) n).isSome := by
      intro n hn
      by_cases hm : n ∈ imps ++ news
      ·obtain ⟨k, hk⟩ := List.getElem?_of_mem hm
       rw [(lkz n).1 k hk]
       have : k < outs'.length := by rw [← hnl]; exact (List.getElem?_eq_some_iff.1 hk).1
       simp [this]
      ·rw [(lkz n).2 hm]
       exact dom₁ n (hn.resolve_right hm)
     have names_mem : ∀ m n, ofIm (imps ++ news) m = some n → n ∈ imps ++ news := by
      intro m n hm
      unfold ofIm at hm
      split at hm
      ·exact List.mem_of_getElem? hm
      ·cases hm
     refine ⟨E₁.trans hext2, hv.ren hκ2 (fun _ _ _ h => h) hβ2 hr, ?_, ?_, ?_, ?_, ?_⟩
     ·intro n o hn
      simp only [wrO_append] at hn
      by_cases hm : n ∈ imps ++ news
      ·obtain ⟨k, hk⟩ := List.getElem?_of_mem hm
       rw [(lkz n).1 k hk] at hn
       obtain ⟨o0, y1, y2⟩ := t2 k o hn
       exact (hob' k o0 y1).ren hκ2 (fun _ _ _ h => h) hβ2 (names_get k n hk) (hown k n hk) y2
      ·rw [(lkz n).2 hm] at hn
       have hns : (lk σ.o n).isSome := dom₁' n (by rw [hn]; rfl)
       refine (R₁.ob n o hn).mono hext2 (bet n hns) (fun k hk => bet k (dom₁' k (R₁.wo n o hn k hk))) ?_ (fun f _ _ _ _ _ h2 => E'.low f h2 h2)
       intro b hb hc
       have hni : n ∉ imps := fun h => hm (List.mem_append.2 (.inl h))
       rcases hc with hc | hc
       ·rcases kcase b with ⟨n', _, h2, _, h4, _, h6⟩ | ⟨_, h2⟩
        ·rw [hc] at h2; cases h2; exact ⟨by rw [h4, hc], h6⟩
        ·exact absurd (h2 hb n hc) hni
       ·exact ⟨by rw [hc]; exact hext2.fro b hb hc, hext2.keep b hb (by rw [hc]; intro m; simp)⟩
     ·intro n hn; rw [bet n hn, B₁]
     ·intro n hn
      have : n ∉ news := fun hn' => by have := (hnews n hn').2; omega
      rw [← B₁]; simp only [Mm.back, idxOf_none this]
     ·intro n hn
      simp only [wrO_append]
      obtain ⟨m, _, hm⟩ := ren_nms hr n hn
      exact dom2 n (.inr (names_mem m n hm))
     ·intro m o hm k hk
      simp only [wrO_append] at hm ⊢
      by_cases hmm : m ∈ imps ++ news
      ·obtain ⟨j, hj⟩ := List.getElem?_of_mem hmm
       rw [(lkz m).1 j hj] at hm
       obtain ⟨o0, y1, y2⟩ := t2 j o hm
       obtain ⟨q, _, hq⟩ := oren_nms y2 k hk
       exact dom2 k (.inr (names_mem q k hq))
      ·rw [(lkz m).2 hmm] at hm
       exact dom2 k (.inl (dom₁' k (R₁.wo m o hm k hk)))
    ·cases h
   ·cases h
  ·cases h
 ·cases h
theorem lk_dropN {keep : List Nat} {n : Nat} (hn : n ∉ keep) : ∀ {wr s s' : List (Nat × AObj)}, lk s n = lk s' n → lk (wrO s (dropN keep wr)) n = lk (wrO s' wr) n
 | [], _, _, h => h
 | (m, o) :: r, s, s', h => by
  simp only [dropN]
  split
  ·simp only [wrO]
   exact lk_dropN hn (by rw [lk_up, lk_up, h])
  ·rename_i hm
   simp only [wrO]
   refine lk_dropN hn ?_
   rw [lk_up, if_neg, h]
   rintro rfl
   rw [allNat_iff.2 hn] at hm; cases hm
theorem lk_wrO_not {n : Nat} : ∀ {wr s : List (Nat × AObj)}, n ∉ wr.map (·.1) → lk (wrO s wr) n = lk s n
 | [], _, _ => rfl
 | (m, o) :: r, s, h => by
  simp only [List.map_cons, List.mem_cons, not_or] at h
  simp only [wrO]
  rw [lk_wrO_not h.2, lk_up, if_neg (fun e => h.1 e.symm)]
theorem lk_wrO_nil {n : Nat} {o : AObj} : ∀ {wr s s' : List (Nat × AObj)}, lk (wrO s wr) n = some o → lk s n = none ∨ lk s n = lk s' n → lk (wrO s' wr) n = some o ∨ lk s n = lk s' n ∧ lk (wrO s' wr) n = some o
 | [], s, s', h, hs => by
  rcases hs with hs | hs
  ·simp only [wrO] at h; rw [hs] at h; cases h
  ·left; simp only [wrO] at h ⊢; rw [← hs]; exact h
 | (m, x) :: r, s, s', h, hs => by
  simp only [wrO] at h ⊢
  left
  by_cases hm : m = n
  ·rcases lk_wrO_nil (s' := up s' m x) h (.inr (by rw [lk_up, lk_up, if_pos hm, if_pos hm])) with k | ⟨_, k⟩ <;> exact k
  ·rcases lk_wrO_nil (s' := up s' m x) h (by rw [lk_up, lk_up, if_neg hm, if_neg hm]; exact hs) with k | ⟨_, k⟩ <;> exact k
theorem dropN_not {keep : List Nat} {n : Nat} (hn : n ∈ keep) : ∀ {wr : List (Nat × AObj)}, n ∉ (dropN keep wr).map (·.1)
 | [] => by simp [dropN]
 | (m, o) :: r => by
  simp only [dropN]
  split
  ·rename_i hm
   simp only [List.map_cons, List.mem_cons, not_or]
   refine ⟨?_, dropN_not hn⟩
   rintro rfl
   exact absurd hn (allNat_iff.1 hm)
  ·exact dropN_not hn
theorem keepOb_sound {L : Nat → Option AObj} {wr : List (Nat × AObj)} : ∀ {keep : List Nat} {q : List Obl}, keepOb L wr keep = some q → All q → ∀ n ∈ keep, ∃ o, L n = some o ∧ lk (wrO [] wr) n = some o
 | [], _, _, _ => by simp
 | m :: r, q, h, hq => by
  simp only [keepOb] at h
  split at h
  ·rename_i o0 o q' h1 h2 h3
   cases h
   obtain ⟨rfl, hq⟩ := hq
   intro n hn
   cases hn with
   | head => exact ⟨_, h1, h2⟩
   | tail _ hn => exact keepOb_sound h3 hq n hn
  ·cases h
theorem dropN_nil : ∀ (wr : List (Nat × AObj)), dropN [] wr = wr
 | [] => rfl
 | (n, o) :: r => by simp only [dropN, allNat, dropN_nil r]
theorem keepA_ob {L : Nat → Option AObj} {keep : List Nat} {out out' : Out} (h : keepA L keep out = some out') (hp : All out'.ob) : All out.ob ∧ out'.v = out.v ∧ (∀ σ : St, σ.obj = L → ∀ n, lk (wrO σ.o out'.wr) n = lk (wrO σ.o out.wr) n) := by
 cases keep with
 | nil => cases h; exact ⟨hp, rfl, fun _ _ _ => rfl⟩
 | cons k0 ks =>
  revert h
  generalize k0 :: ks = keep at *
  intro h
  have h : (match keepOb L out.wr keep with
   | some q => some (⟨out.ob ++ q, out.v, dropN keep out.wr⟩ : Out)
   | none => none) = some out' := by
   cases keep with
   | nil => simp only [keepA] at h; simp only [keepOb]; rw [← h]; simp [dropN_nil]
   | cons => exact h
  split at h
  ·rename_i q hq
   cases h
   rw [All_append] at hp
   refine ⟨hp.1, rfl, fun σ hσ n => ?_⟩
   by_cases hn : n ∈ keep
   ·obtain ⟨o, h1, h2⟩ := keepOb_sound hq hp.2 n hn
    rw [lk_wrO_not (dropN_not hn)]
    have h3 : lk (wrO σ.o out.wr) n = some o := by
     rcases lk_wrO_nil (s' := σ.o) h2 (.inl rfl) with k | ⟨_, k⟩ <;> exact k
    rw [h3, ← h1, ← hσ]; rfl
   ·exact lk_dropN hn rfl
  ·cases h
theorem callA_sound {SP : SpecT} (R : RSt M σ a w) {g : Nat} {args : List AV} {an : Ann} {out : Out} (h : callA SP σ.obj g args an = some out) (hp : All out.ob) {vs : Array Value}
  (hvs : vs.size = args.length) (hrel : ∀ (i : Nat) (v : Value) (x : AV), vs[i]? = some v → args[i]? = some x → VRel M w v x) (hnm : ∀ x ∈ args, ∀ n ∈ x.nms, (lk σ.o n).isSome) :
  ∃ xs es r outs M₁, SP g xs es r outs ∧ SpecPre M₁ w vs xs es ∧ ∀ e w', SpecPost M₁ w es r outs e w' → ∃ v, e = .returned v ∧ ∃ M', Post M σ w out M' v w' := by
 unfold callA at h
 split at h
 ·split at h
  ·rename_i out0 h0
   obtain ⟨k1, k2, k3⟩ := keepA_ob h hp
   obtain ⟨xs, es, r, outs, M₁, a1, a2, a3⟩ := callA0_sound R h0 k1 hvs hrel hnm
   refine ⟨xs, es, r, outs, M₁, a1, a2, fun e w' he => ?_⟩
   obtain ⟨v, rfl, M', p⟩ := a3 e w' he
   have k3 := k3 σ rfl
   exact ⟨v, rfl, M', p.ext, by rw [k2]; exact p.val, fun n o ho => p.obj n o (by rw [← k3]; exact ho), p.bet, p.bev, fun n hn => by rw [k3]; exact p.vnm n (by rw [← k2]; exact hn),
    fun m o ho n hn => by rw [k3]; exact p.onm m o (by rw [← k3]; exact ho) n hn⟩
  ·cases h
 ·cases h
end
end Go.Fx
