/- Calls: what a contract says, and that a call of the abstract machine is the model's. -/
import Derived.Test.YtpdjphpjejjkpaaFxQ
namespace Go.Fx
def evenBelow (m n : Nat) : Prop := ∃ k, k < m ∧ n = 2 * k
def Spec (P : Program) : SpecT := fun g args ext r outs =>
 ∀ (M : Mm) (w : World) (vs : Array Value), vs.size = args.length →
  (∀ (i : Nat) (v : Value) (x : AV), vs[i]? = some v → args[i]? = some x → VRel M w v x) →
  (∀ (k : Nat) (o : AObj), ext[k]? = some o → ORel M w (2 * k) o) →
  (∀ x ∈ args, ∀ n ∈ x.nms, evenBelow ext.length n) → (∀ o ∈ ext, ∀ n ∈ o.nms, evenBelow ext.length n) →
  Calls P g vs w fun e w' => ∃ v M', e = .returned v ∧ Ext M w M' w' ∧ VRel M' w' v r ∧
   (∀ (k : Nat) (o : AObj), outs[k]? = some o → ORel M' w' (2 * k) o) ∧ (∀ k, k < ext.length → M'.β (2 * k) = M.β (2 * k)) ∧
   (∀ n ∈ r.nms, evenBelow outs.length n) ∧ (∀ o ∈ outs, ∀ n ∈ o.nms, evenBelow outs.length n) ∧ ext.length ≤ outs.length
def SpecPre (M : Mm) (w : World) (vs : Array Value) (args : List AV) (ext : List AObj) : Prop :=
 vs.size = args.length ∧ (∀ (i : Nat) (v : Value) (x : AV), vs[i]? = some v → args[i]? = some x → VRel M w v x) ∧ (∀ (k : Nat) (o : AObj), ext[k]? = some o → ORel M w (2 * k) o) ∧
  (∀ x ∈ args, ∀ n ∈ x.nms, evenBelow ext.length n) ∧ (∀ o ∈ ext, ∀ n ∈ o.nms, evenBelow ext.length n)
def SpecPost (M : Mm) (w : World) (ext : List AObj) (r : AV) (outs : List AObj) (e : Ending) (w' : World) : Prop :=
 ∃ v M', e = .returned v ∧ Ext M w M' w' ∧ VRel M' w' v r ∧
   (∀ (k : Nat) (o : AObj), outs[k]? = some o → ORel M' w' (2 * k) o) ∧ (∀ k, k < ext.length → M'.β (2 * k) = M.β (2 * k)) ∧
   (∀ n ∈ r.nms, evenBelow outs.length n) ∧ (∀ o ∈ outs, ∀ n ∈ o.nms, evenBelow outs.length n) ∧ ext.length ≤ outs.length
def Rounds (P : Program) (vs : Array Value) (w : World) (R : Ending → World → Prop) : Prop :=
 ∃ l f tmps asg bdy, vs[0]? = some (.func (.yield l) #[] #[]) ∧ (Instr.yield l (vs.extract 1 vs.size)).run P w = .ok (.round l f tmps asg bdy) w ∧
  ∀ (c : Frame) (cs : List Frame), ∃ v w', R (.returned v) w' ∧ Steps P (lone (Frame.round l f tmps asg bdy .normal) (c :: cs) w) (lone (c.finish v) cs w')
theorem Rounds.mono {P : Program} {vs : Array Value} {w : World} {R R' : Ending → World → Prop} (h : Rounds P vs w R) (hr : ∀ e w', R e w' → R' e w') : Rounds P vs w R' := by
 obtain ⟨l, f, t, a, b, h1, h2, h3⟩ := h
 refine ⟨l, f, t, a, b, h1, h2, fun c cs => ?_⟩
 obtain ⟨v, w', k1, k2⟩ := h3 c cs
 exact ⟨v, w', hr _ _ k1, k2⟩
def RSpec (P : Program) (args : List AV) (ext : List AObj) (r : AV) (outs : List AObj) : Prop :=
 ∀ (M : Mm) (w : World) (vs : Array Value), SpecPre M w vs args ext → Rounds P vs w (SpecPost M w ext r outs)
def SpecY (P : Program) : SpecT := fun g args ext r outs => Spec P g args ext r outs ∨ (P.funcs[yId]? = none ∧ g = yId ∧ RSpec P args ext r outs)
theorem Spec.pre {P : Program} {g : Nat} {args : List AV} {ext : List AObj} {r : AV} {outs : List AObj} (h : Spec P g args ext r outs) {M : Mm} {w : World} {vs : Array Value} (k : SpecPre M w vs args ext) : Calls P g vs w (SpecPost M w ext r outs) :=
 h M w vs k.1 k.2.1 k.2.2.1 k.2.2.2.1 k.2.2.2.2
section
variable {P : Program} {M M' : Mm} {w : World} {σ : St} {a : Act}
theorem renL_get {ρ : Nat → Option Nat} {l l' : List AV} (h : renL ρ l = some l') : l.length = l'.length ∧ ∀ (i : Nat) (x' : AV), l'[i]? = some x' → ∃ x, l[i]? = some x ∧ x.ren ρ = some x' := by
 induction l generalizing l' with
 | nil => simp [renL] at h; subst h; simp
 | cons x l ih =>
  simp only [renL] at h
  split at h
  ·rename_i d ds h1 h2
   cases h
   obtain ⟨g1, g2⟩ := ih h2
   refine ⟨by simp [g1], ?_⟩
   intro i x' hi
   cases i with
   | zero => simp at hi; subst hi; exact ⟨x, rfl, h1⟩
   | succ i => simp at hi; obtain ⟨y, e1, e2⟩ := g2 i x' hi; exact ⟨y, by simpa using e1, e2⟩
  ·cases h
theorem ren_isAr {ρ : Nat → Option Nat} {v d : AV} (h : v.ren ρ = some d) (hv : isArV v = false) : isArV d = false := by
 cases v <;> simp only [AV.ren, Option.map_eq_some_iff, Option.some.injEq] at h <;> first
  | (subst h; first | rfl | exact hv)
  | (obtain ⟨_, _, rfl⟩ := h; rfl)
theorem renL_flatC {ρ : Nat → Option Nat} : ∀ {l l' : List AV}, renL ρ l = some l' → renL ρ (flatC l) = some (flatC l') ∧ (SegOk l → SegOk l')
 | [], l', h => by simp [renL] at h; subst h; exact ⟨rfl, id⟩
 | v :: r, l', h => by
  simp only [renL] at h
  split at h
  ·rename_i d ds h1 h2
   cases h
   obtain ⟨g1, g2⟩ := renL_flatC h2
   cases hv : isArV v with
   | false =>
    have hd := ren_isAr h1 hv
    rw [flatC_cons hv, flatC_cons hd]
    refine ⟨by simp only [renL, h1, g1], fun hs n sz rows hm => ?_⟩
    cases hm with
    | head => simp [isArV] at hd
    | tail _ hm => exact g2 hs.tail n sz rows hm
   | true =>
    cases v <;> simp [isArV] at hv
    simp only [AV.ren, Option.some.injEq] at h1
    subst h1
    rename_i n sz rows
    refine ⟨?_, fun hs a b c hm => ?_⟩
    ·rw [flatC, flatC]
     generalize rows.flatten = ps
     induction ps with
     | nil => simpa using g1
     | cons p ps ih => simp only [List.map_cons, List.cons_append, renL, AV.ren, ih]
    ·cases hm with
     | head => exact hs _ _ _ (.head _)
     | tail _ hm => exact g2 hs.tail a b c hm
  ·cases h
theorem PRel.cls (hκ : ∀ b, M.κ b = .frozen → M'.κ b = .frozen) (hφ : ∀ f i b, M.fam f i = some b → M'.fam f i = some b) {v : Value} {p : PV} (h : PRel M w v p) : PRel M' w v p := by
 induction h with
 | fh f i off len sz b base c h1 h2 => exact .fh f i off len sz b base c (hφ f i _ h1) h2
 | fh0 f i off sz a c => exact .fh0 f i off sz a c
 | mp g ks rows b es clock h1 h2 h3 h4 h5 h6 _ _ ih1 ih2 => exact .mp g ks rows b es clock (hκ b h1) h2 h3 h4 h5 h6 ih1 ih2
 | int k n => exact .int k n
 | bool b => exact .bool b
 | str s => exact .str s
 | nilsl => exact .nilsl
 | nilmap => exact .nilmap
 | fn f => exact .fn f
 | ow i a n c => exact .ow i a n c
 | mp0 g => exact .mp0 g
 | sl0 a c => exact .sl0 a c
 | sl b off sz len c rows x hl hlc hsz hc _ ih => exact .sl b off sz len c rows x hl hlc hsz (fun i r j p h1 h2 => ⟨hκ b (hc i r j p h1 h2).1, (hc i r j p h1 h2).2⟩) ih
theorem VRel.ren {ρ : Nat → Option Nat} (hκ : ∀ b, M.κ b = .frozen → M'.κ b = .frozen) (hφ : ∀ f i b, M.fam f i = some b → M'.fam f i = some b) (hβ : ∀ n m, ρ n = some m → M'.β m = M.β n) {v : Value} {x : AV} (h : VRel M w v x) :
  ∀ {x' : AV}, x.ren ρ = some x' → VRel M' w v x' := by
 induction h with
 | undef v => intro x' e; simp [AV.ren] at e; subst e; exact .undef v
 | pv v p hp => intro x' e; simp [AV.ren] at e; subst e; exact .pv v p (hp.cls hκ hφ)
 | agg vs cs hs h1 hc ih =>
  intro x' e
  simp only [AV.ren, Option.map_eq_some_iff] at e
  obtain ⟨cs', e, rfl⟩ := e
  obtain ⟨g1, g2⟩ := renL_get e
  refine .agg vs cs' (hs.trans g1) h1 fun i v c e1 e2 => ?_
  obtain ⟨y, f1, f2⟩ := g2 i c e2
  exact ih i v y e1 f1 f2
 | aggp vs ps hs hc => intro x' e; simp [AV.ren] at e; subst e; exact .aggp vs ps hs fun i v p e1 e2 => (hc i v p e1 e2).cls hκ hφ
 | tup vs cs hs hc ih =>
  intro x' e
  simp only [AV.ren, Option.map_eq_some_iff] at e
  obtain ⟨cs', e, rfl⟩ := e
  obtain ⟨g1, g2⟩ := renL_get e
  refine .tup vs cs' (hs.trans g1) fun i v c e1 e2 => ?_
  obtain ⟨y, f1, f2⟩ := g2 i c e2
  exact ih i v y e1 f1 f2
 | fref b off cells x hc hp => intro x' e; simp [AV.ren] at e; subst e; exact .fref b off cells x (fun j p e => ⟨hκ b (hc j p e).1, (hc j p e).2⟩) fun j p e => (hp j p e).cls hκ hφ
 | ref n ri sz off b base hb =>
  intro x' e
  simp only [AV.ren, Option.map_eq_some_iff] at e
  obtain ⟨m, e, rfl⟩ := e
  exact .ref m ri sz off b base ((congrArg Prod.snd (hβ n m e)).trans hb)
 | hd0 n off sz ad =>
  intro x' e
  simp only [AV.ren, Option.map_eq_some_iff] at e
  obtain ⟨m, e, rfl⟩ := e
  exact .hd0 m off sz ad
 | hd n off len sz b base cap c T fr hb hl hh hs =>
  intro x' e
  simp only [AV.ren, Option.map_eq_some_iff] at e
  obtain ⟨m, e, rfl⟩ := e
  exact .hd m off len sz b base cap c T fr ((congrArg Prod.snd (hβ n m e)).trans hb) hl hh hs
 | hx n len sz N b base cap c T fr hb hl hn hh hs =>
  intro x' e
  simp only [AV.ren, Option.map_eq_some_iff] at e
  obtain ⟨m, e, rfl⟩ := e
  exact .hx m len sz N b base cap c T fr ((congrArg Prod.snd (hβ n m e)).trans hb) hl hn hh hs
 | hv v n sz N _ ih =>
  intro x' e
  simp only [AV.ren, Option.map_eq_some_iff] at e
  obtain ⟨m, e, rfl⟩ := e
  refine .hv v m sz N ?_
  rw [show (M'.β m).1 = (M.β n).1 from congrArg Prod.fst (hβ n m e)]
  exact ih (by simp only [AV.ren, e, Option.map_some])
 | hw v n sz _ ih =>
  intro x' e
  simp only [AV.ren, Option.map_eq_some_iff] at e
  obtain ⟨m, e, rfl⟩ := e
  refine .hw v m sz ?_
  rw [hβ n m e]
  exact ih (by simp only [AV.ren, e, Option.map_some])
 | mp n b hb =>
  intro x' e
  simp only [AV.ren, Option.map_eq_some_iff] at e
  obtain ⟨m, e, rfl⟩ := e
  exact .mp m b ((congrArg Prod.snd (hβ n m e)).trans hb)
 | fr f i ri sz off b base hb => intro x' e; simp [AV.ren] at e; subst e; exact .fr f i ri sz off b base (hφ f i _ hb)
 | clo f vs caps hs hc ih =>
  intro x' e
  simp only [AV.ren, Option.map_eq_some_iff] at e
  obtain ⟨cs', e, rfl⟩ := e
  obtain ⟨g1, g2⟩ := renL_get e
  refine .clo f vs cs' (hs.trans g1) fun i v c e1 e2 => ?_
  obtain ⟨y, f1, f2⟩ := g2 i c e2
  exact ih i v y e1 f1 f2
 | gv v j t want a _ h2 ih =>
  intro x' e
  simp only [AV.ren, Option.map_eq_some_iff] at e
  obtain ⟨a', e, rfl⟩ := e
  exact .gv v j t want a' (fun h => ih h e) h2
 | ar v n sz rows _ h1 h2 ih => intro x' e; simp [AV.ren] at e; subst e; exact .ar v n sz rows (ih rfl) h1 h2
 | sagg v cs _ h ih =>
  intro x' e
  simp only [AV.ren, Option.map_eq_some_iff] at e
  obtain ⟨cs', e, rfl⟩ := e
  obtain ⟨g1, g2⟩ := renL_flatC e
  exact .sagg v cs' (ih (by simp only [AV.ren, g1, Option.map_some])) (g2 h)
 | bnd f v r _ ih =>
  intro x' e
  simp only [AV.ren, Option.map_eq_some_iff] at e
  obtain ⟨a', e, rfl⟩ := e
  exact .bnd f v a' (ih e)
 | cp a n rows h p => intro x' e; simp [AV.ren] at e; subst e; exact .cp a n rows h (p.cls hκ hφ)
 | nilp => intro x' e; simp [AV.ren] at e; subst e; exact .nilp
 | nilf => intro x' e; simp [AV.ren] at e; subst e; exact .nilf
 | yl n l hb =>
  intro x' e
  simp only [AV.ren, Option.map_eq_some_iff] at e
  obtain ⟨m, e, rfl⟩ := e
  exact .yl m l ((congrArg Prod.snd (hβ n m e)).trans hb)
theorem ORel.ren {ρ : Nat → Option Nat} (hκ : ∀ b, M.κ b = .frozen → M'.κ b = .frozen) (hφ : ∀ f i b, M.fam f i = some b → M'.fam f i = some b) (hβ : ∀ n m, ρ n = some m → M'.β m = M.β n) {n m : Nat} (hnm : ρ n = some m)
  (hown : ∀ b, M.κ b = .own n → M'.κ b = .own m) {o o' : AObj} (h : ORel M w n o) (e : o.ren ρ = some o') : ORel M' w m o' := by
 induction h generalizing o' with
 | svar cs _ h2 ih =>
  simp only [AObj.ren, Option.map_eq_some_iff] at e
  obtain ⟨cs', e, rfl⟩ := e
  obtain ⟨g1, g2⟩ := renL_flatC e
  exact .svar cs' (ih (by simp only [AObj.ren, g1, Option.map_some])) (g2 h2)
 | var cells b c T e1 e2 e3 e4 e5 e6 =>
  simp only [AObj.ren, Option.map_eq_some_iff] at e
  obtain ⟨cs', e, rfl⟩ := e
  obtain ⟨g1, g2⟩ := renL_get e
  refine .var cs' b c T ((congrArg Prod.snd (hβ n m hnm)).trans e1) (hown b e2) e3 (e4.trans g1) e5 fun i x v h1 h2 => ?_
  obtain ⟨y, f1, f2⟩ := g2 i v h2
  exact (e6 i x y h1 f1).ren hκ hφ hβ f2
 | varp ps b c T e1 e2 e3 e4 e5 =>
  simp [AObj.ren] at e; subst e
  exact .varp ps b c T ((congrArg Prod.snd (hβ n m hnm)).trans e1) (hown b e2) e3 e4 fun i x p h1 h2 => (e5 i x p h1 h2).cls hκ hφ
 | sl0 fz sz h0 e1 e2 =>
  simp [AObj.ren] at e; subst e
  exact .sl0 fz sz h0 ((congrArg Prod.snd (hβ n m hnm)).trans e1) ((congrArg Prod.fst (hβ n m hnm)).trans e2)
 | sl fz sz rows b base c T h0 e1 e2 e3 e4 e5 e6 e7 =>
  simp [AObj.ren] at e; subst e
  refine .sl fz sz rows b base c T h0 ((congrArg Prod.snd (hβ n m hnm)).trans e1) ?_ e3 e4 e5 (fun i r j p x h1 h2 h3 => (e6 i r j p x h1 h2 h3).cls hκ hφ) ((congrArg Prod.fst (hβ n m hnm)).trans e7)
  cases fz with
  | true => exact hκ b e2
  | false => exact hown b e2
 | mp fz g rg ks rows b es clock e1 e2 e3 e4 e5 e6 e7 e8 e9 e10 =>
  simp [AObj.ren] at e; subst e
  refine .mp fz g rg ks rows b es clock ((congrArg Prod.snd (hβ n m hnm)).trans e1) ?_ e3 e4 e5 e6 e7 (fun i e p h1 h2 => (e8 i e p h1 h2).cls hκ hφ) (fun i e r j x p h1 h2 h3 h4 => (e9 i e r j x p h1 h2 h3 h4).cls hκ hφ) e10
  cases fz with
  | true => exact hκ b e2
  | false => exact hown b e2
 | it k nn seen b bm e1 e2 e3 e4 =>
  simp only [AObj.ren, Option.map_eq_some_iff] at e
  obtain ⟨k', e, rfl⟩ := e
  exact .it k' nn seen b bm ((congrArg Prod.snd (hβ n m hnm)).trans e1) (hown b e2) ((congrArg Prod.snd (hβ k k' e)).trans e3) e4
 | fam => simp [AObj.ren] at e
 | varf ps b c T e1 e2 e3 e4 e5 =>
  simp [AObj.ren] at e; subst e
  exact .varf ps b c T ((congrArg Prod.snd (hβ n m hnm)).trans e1) (hκ b e2) e3 e4 fun i x p h1 h2 => (e5 i x p h1 h2).cls hκ hφ
 | lp ps asg bdy nt ks vs js p l ts fn D e1 e2 e3 e4 e5 e6 =>
  simp only [AObj.ren, Option.map_eq_some_iff] at e
  obtain ⟨vs', e, rfl⟩ := e
  obtain ⟨g1, g2⟩ := renL_get e
  refine .lp ps asg bdy nt ks vs' js p l ts fn D ((congrArg Prod.snd (hβ n m hnm)).trans e1) (hown l e2) e3 e4 (fun i k v h1 h2 => ?_) e6
  obtain ⟨y, f1, f2⟩ := g2 i v h2
  exact (e5 i k y h1 f1).ren hκ hφ hβ f2
 | own cs gs mem os b c T e0 e1 e2 e3 e4 e4' e5 e6 e7 ih =>
  cases os with
  | cons q r => simp [AObj.ren] at e
  | nil =>
   simp only [AObj.ren, Option.map_eq_some_iff] at e
   obtain ⟨cs', e, rfl⟩ := e
   refine .own cs' gs mem [] b c T (ih (by simp only [AObj.ren, e, Option.map_some])) ((congrArg Prod.snd (hβ n m hnm)).trans e1) (hown b e2) e3 e4 e4' (by simp) (fun k i x t hx => ⟨fun m hm => by simp at hm, fun hi rows hr => ?_⟩) e7
   rcases (e6 k i x t hx).2 hi rows hr with r | ⟨b', base, cap, c', T', h1, h2, h3, h4, h5, h6, h7, h8, h9⟩
   ·exact .inl r
   ·exact .inr ⟨b', base, cap, c', T', h1, h2, h3, hown b' h4, h5, h6, h7, h8, fun i r j p v e1 e2 e3 => (h9 i r j p v e1 e2 e3).cls hκ hφ⟩
 | slo rows k e0 e1 ih =>
  simp only [AObj.ren, Option.map_eq_some_iff] at e
  obtain ⟨k', e, rfl⟩ := e
  refine .slo rows k' (ih rfl) fun b base c T i x h1 h2 h3 h4 => ?_
  rw [hβ n m hnm] at h1
  exact (e1 b base c T i x h1 h2 h3 h4).ren hκ hφ hβ (by simp only [AV.ren, e, Option.map_some])
 | dead => simp [AObj.ren] at e; subst e; exact .dead
theorem ORel.renK {n m : Nat} (h16 : n < 16 → m = n) {ρ : Nat → Option Nat} (hκ : ∀ b, M.κ b = .frozen → M'.κ b = .frozen) (hφ : M'.φ = M.φ) (hF : M'.F0 = M.F0) (hβ : ∀ n m, ρ n = some m → M'.β m = M.β n) (hnm : ρ n = some m)
  (hown : ∀ b, M.κ b = .own n → M'.κ b = .own m) {o o' : AObj} (h : ORel M w n o) (e : o.renK ρ = some o') : ORel M' w m o' := by
 have hfam : ∀ f i, M'.fam f i = M.fam f i := fun f i => by unfold Mm.fam; rw [hφ]
 have hφ' : ∀ f i b, M.fam f i = some b → M'.fam f i = some b := fun f i b h => by rw [hfam]; exact h
 cases h with
 | fam fz f sz mem bk n1 n2 h0 h1 h2 h3 h4 h5 h6 =>
  obtain rfl := h16 n1
  simp only [AObj.renK, Option.some.injEq] at e
  subst e
  refine .fam fz f sz mem bk n1 n2 h0 (by rw [hF]; exact h1) (by rw [hφ]; exact h2) (fun i hi => by rw [hfam]; exact h3 i hi) (fun i hi => ?_) (fun i j hi hj e1 e2 => h5 i j hi hj (by rw [← hfam]; exact e1) (by rw [← hfam]; exact e2)) fun i rows hr hs => ?_
  ·rw [hfam]
   rcases h4 i hi with h4 | ⟨h41, h42⟩
   ·exact .inl h4
   ·refine .inr ⟨h41, ?_⟩
    cases fz with
    | true => exact hκ _ h42
    | false => exact hown _ h42
  ·rw [hfam] at hs
   obtain ⟨c, T, g1, g2, g3, g4⟩ := h6 i rows hr hs
   exact ⟨c, T, g1, g2, g3, fun k r j p x a1 a2 a3 => (g4 k r j p x a1 a2 a3).cls hκ hφ'⟩
 | mp fz g rg ks rows b es clock e1 e2 e3 e4 e5 e6 e7 e8 e9 e10 => exact (ORel.mp fz g rg ks rows b es clock e1 e2 e3 e4 e5 e6 e7 e8 e9 e10).ren hκ hφ' hβ hnm hown (by simpa [AObj.renK] using e)
 | it k nn seen b bm e1 e2 e3 e4 => exact (ORel.it k nn seen b bm e1 e2 e3 e4).ren hκ hφ' hβ hnm hown (by simpa [AObj.renK] using e)
 | var cells b c T e1 e2 e3 e4 e5 e6 => exact (ORel.var cells b c T e1 e2 e3 e4 e5 e6).ren hκ hφ' hβ hnm hown (by simpa [AObj.renK] using e)
 | svar cs h1 h2 => exact (ORel.svar cs h1 h2).ren hκ hφ' hβ hnm hown (by simpa [AObj.renK] using e)
 | varp ps b c T e1 e2 e3 e4 e5 => exact (ORel.varp ps b c T e1 e2 e3 e4 e5).ren hκ hφ' hβ hnm hown (by simpa [AObj.renK] using e)
 | sl0 fz sz h0 e1 e2 => exact (ORel.sl0 fz sz h0 e1 e2).ren hκ hφ' hβ hnm hown (by simpa [AObj.renK] using e)
 | sl fz sz rows b base c T h0 e1 e2 e3 e4 e5 e6 e7 => exact (ORel.sl fz sz rows b base c T h0 e1 e2 e3 e4 e5 e6 e7).ren hκ hφ' hβ hnm hown (by simpa [AObj.renK] using e)
 | varf ps b c T e1 e2 e3 e4 e5 => exact (ORel.varf ps b c T e1 e2 e3 e4 e5).ren hκ hφ' hβ hnm hown (by simpa [AObj.renK] using e)
 | lp ps asg bdy nt ks vs js p l ts fn D e1 e2 e3 e4 e5 e6 => exact (ORel.lp ps asg bdy nt ks vs js p l ts fn D e1 e2 e3 e4 e5 e6).ren hκ hφ' hβ hnm hown (by simpa [AObj.renK] using e)
 | own cs gs mem os b c T e0 e1 e2 e3 e4 e4' e5 e6 e7 => exact (ORel.own cs gs mem os b c T e0 e1 e2 e3 e4 e4' e5 e6 e7).ren hκ hφ' hβ hnm hown (by simpa [AObj.renK] using e)
 | slo rows m e0 e1 => exact (ORel.slo rows m e0 e1).ren hκ hφ' hβ hnm hown (by simpa [AObj.renK] using e)
 | dead => exact (ORel.dead).ren hκ hφ' hβ hnm hown (by simpa [AObj.renK] using e)
theorem ren_nms {ρ : Nat → Option Nat} : ∀ {x x' : AV}, x.ren ρ = some x' → ∀ m ∈ x'.nms, ∃ n ∈ x.nms, ρ n = some m := by
 intro x
 induction x using AV.rec (motive_2 := fun l => ∀ l', renL ρ l = some l' → ∀ m ∈ nmsL l', ∃ n ∈ nmsL l, ρ n = some m) with
 | undef => intro x' e; simp [AV.ren] at e; subst e; simp [AV.nms]
 | pv p => intro x' e; simp [AV.ren] at e; subst e; simp [AV.nms]
 | agg cs ih => intro x' e m hm; simp only [AV.ren, Option.map_eq_some_iff] at e; obtain ⟨cs', e, rfl⟩ := e; exact ih cs' e m hm
 | aggp ps => intro x' e; simp [AV.ren] at e; subst e; simp [AV.nms]
 | tup cs ih => intro x' e m hm; simp only [AV.ren, Option.map_eq_some_iff] at e; obtain ⟨cs', e, rfl⟩ := e; exact ih cs' e m hm
 | fref cs => intro x' e; simp [AV.ren] at e; subst e; simp [AV.nms]
 | ref n a b c => intro x' e m hm; simp only [AV.ren, Option.map_eq_some_iff] at e; obtain ⟨k, e, rfl⟩ := e; simp [AV.nms] at hm ⊢; subst hm; exact e
 | hd n a b c => intro x' e m hm; simp only [AV.ren, Option.map_eq_some_iff] at e; obtain ⟨k, e, rfl⟩ := e; simp [AV.nms] at hm ⊢; subst hm; exact e
 | hw n a => intro x' e m hm; simp only [AV.ren, Option.map_eq_some_iff] at e; obtain ⟨k, e, rfl⟩ := e; simp [AV.nms] at hm ⊢; subst hm; exact e
 | hx n a b c => intro x' e m hm; simp only [AV.ren, Option.map_eq_some_iff] at e; obtain ⟨k, e, rfl⟩ := e; simp [AV.nms] at hm ⊢; subst hm; exact e
 | hv n a b => intro x' e m hm; simp only [AV.ren, Option.map_eq_some_iff] at e; obtain ⟨k, e, rfl⟩ := e; simp [AV.nms] at hm ⊢; subst hm; exact e
 | mp n => intro x' e m hm; simp only [AV.ren, Option.map_eq_some_iff] at e; obtain ⟨k, e, rfl⟩ := e; simp [AV.nms] at hm ⊢; subst hm; exact e
 | fr f i ri sz off => intro x' e; simp [AV.ren] at e; subst e; simp [AV.nms]
 | clo f cs ih => intro x' e m hm; simp only [AV.ren, Option.map_eq_some_iff] at e; obtain ⟨cs', e, rfl⟩ := e; exact ih cs' e m hm
 | gv j t w v ih => intro x' e m hm; simp only [AV.ren, Option.map_eq_some_iff] at e; obtain ⟨v', e, rfl⟩ := e; exact ih e m hm
 | ar n sz rows => intro x' e; simp [AV.ren] at e; subst e; simp [AV.nms]
 | sagg cs ih => intro x' e m hm; simp only [AV.ren, Option.map_eq_some_iff] at e; obtain ⟨cs', e, rfl⟩ := e; exact ih cs' e m hm
 | bnd f r ih => intro x' e m hm; simp only [AV.ren, Option.map_eq_some_iff] at e; obtain ⟨v', e, rfl⟩ := e; exact ih e m hm
 | cp rows => intro x' e; simp [AV.ren] at e; subst e; simp [AV.nms]
 | nilp => intro x' e; simp [AV.ren] at e; subst e; simp [AV.nms]
 | nilf => intro x' e; simp [AV.ren] at e; subst e; simp [AV.nms]
 | yl n => intro x' e m hm; simp only [AV.ren, Option.map_eq_some_iff] at e; obtain ⟨k, e, rfl⟩ := e; simp [AV.nms] at hm ⊢; subst hm; exact e
 | nil =>
  rename_i e m hm
  simp only [renL, Option.some.injEq] at e
  subst e
  simp [nmsL] at hm
 | cons c cs ih1 ih2 =>
  rename_i l' e m hm
  simp only [renL] at e
  split at e
  ·rename_i d ds h1 h2
   cases e
   simp only [nmsL, List.mem_append] at hm ⊢
   rcases hm with hm | hm
   ·obtain ⟨n, h, h'⟩ := ih1 h1 m hm; exact ⟨n, .inl h, h'⟩
   ·obtain ⟨n, h, h'⟩ := ih2 _ h2 m hm; exact ⟨n, .inr h, h'⟩
  ·cases e
theorem renL_nms {ρ : Nat → Option Nat} {l l' : List AV} (h : renL ρ l = some l') : ∀ m ∈ nmsL l', ∃ n ∈ nmsL l, ρ n = some m :=
 ren_nms (x := .agg l) (x' := .agg l') (by simp [AV.ren, h])
theorem oren_nms {ρ : Nat → Option Nat} {o o' : AObj} (h : o.ren ρ = some o') : ∀ m ∈ o'.nms, ∃ n ∈ o.nms, ρ n = some m := by
 cases o <;> simp [AObj.ren] at h
 case var => obtain ⟨cs', h, rfl⟩ := h; exact renL_nms h
 case svar => obtain ⟨cs', h, rfl⟩ := h; exact renL_nms h
 case lp => obtain ⟨cs', h, rfl⟩ := h; exact renL_nms h
 case it => obtain ⟨k, h, rfl⟩ := h; simpa [AObj.nms] using h
 case slo => obtain ⟨k, h, rfl⟩ := h; simpa [AObj.nms] using h
 case own cs gs mem os =>
  cases os with
  | cons q r => simp [AObj.ren] at h
  | nil =>
   simp only [Option.map_eq_some_iff] at h
   obtain ⟨cs', h, rfl⟩ := h
   intro m hm
   obtain ⟨n, h1, h2⟩ := renL_nms h m (by simpa [AObj.nms] using hm)
   exact ⟨n, by simpa [AObj.nms] using h1, h2⟩
 all_goals (subst h; simp [AObj.nms])
theorem orenK_nms {ρ : Nat → Option Nat} {o o' : AObj} (h : o.renK ρ = some o') : ∀ m ∈ o'.nms, ∃ n ∈ o.nms, ρ n = some m := by
 cases o
 case fam fz f sz mem => simp only [AObj.renK, Option.some.injEq] at h; subst h; simp [AObj.nms]
 all_goals exact oren_nms (by simpa [AObj.renK] using h)
theorem RSt.freeze (R : RSt M σ a w) {n : Nat} {fz : Bool} {sz : Nat} {rows : List (List PV)} (hn : lk σ.o n = some (.sl fz sz rows)) :
  ∃ M₁, RSt M₁ { σ with o := up σ.o n (.sl true sz rows) } a w ∧ Ext M w M₁ w ∧ M₁.β = M.β := by
 have dom : ∀ k, (lk σ.o k).isSome → (lk (up σ.o n (.sl true sz rows)) k).isSome := by
  intro k hk; rw [lk_up]; split
  ·rfl
  ·exact hk
 have step : ∀ (M₁ : Mm), M₁.β = M.β → M₁.φ = M.φ → Ext M w M₁ w → (∀ b, b < w.heap.size → ∀ k, k ≠ n → (M.κ b = .own k ∨ M.κ b = .frozen) → M₁.κ b = M.κ b) → ORel M₁ w n (.sl true sz rows) →
   RSt M₁ { σ with o := up σ.o n (.sl true sz rows) } a w := by
  intro M₁ hβ hφ hext hκ hobj
  refine ⟨R.sz, R.df, fun t v hv => (R.tm t v hv).mono hext (fun k _ => by rw [hβ]), ?_, fun t v hv k hk => dom k (R.wt t v hv k hk), ?_⟩
  ·intro m o hm
   rw [lk_up] at hm
   split at hm
   ·rename_i e; subst e; cases hm; exact hobj
   ·rename_i e
    exact (R.ob m o hm).mono hext (by rw [hβ]) (fun k _ => by rw [hβ]) (fun b hb hc => ⟨hκ b hb m (fun e' => e e'.symm) hc, rfl⟩) (fun f _ _ _ _ _ _ => by rw [hφ])
  ·intro m o hm k hk
   rw [lk_up] at hm
   split at hm
   ·cases hm; simp [AObj.nms] at hk
   ·exact dom k (R.wo m o hm k hk)
 cases R.ob n _ hn with
 | sl0 _ _ h0 h1 hz => exact ⟨M, step M rfl rfl (.refl M w) (fun _ _ _ _ _ => rfl) (.sl0 true sz h0 h1 hz), .refl M w, rfl⟩
 | sl _ _ _ b base c T h0 h1 h2 h3 h4 h5 h6 h7 =>
  have hext : Ext M w ⟨updN M.κ b .frozen, M.β, M.φ, M.F0⟩ w := by
   refine ⟨rfl, rfl, rfl, Nat.le_refl _, fun _ _ _ => rfl, ?_, ?_, fun _ c _ _ h => ⟨c, h, rfl⟩, fun _ _ _ h => h, fun _ _ _ => rfl, rfl⟩
   ·intro k _ hk
    by_cases e : k = b
    ·subst e; exact updN_self _ _ _
    ·simp only; rw [updN_ne _ _ e]; exact hk
   ·intro k _ hk
    have : k ≠ b := by
     rintro rfl
     rw [h2] at hk
     cases fz <;> cases hk
    simp only; rw [updN_ne _ _ this]; exact hk
  refine ⟨⟨updN M.κ b .frozen, M.β, M.φ, M.F0⟩, step _ rfl rfl hext ?_ ?_, hext, rfl⟩
  ·intro k _ m hm hc
   by_cases e : k = b
   ·subst e
    rw [h2] at hc ⊢
    cases fz with
    | true => exact updN_self _ _ _
    | false =>
     exfalso
     rcases hc with hc | hc
     ·cases hc; exact hm rfl
     ·cases hc
   ·exact updN_ne _ _ e
  ·exact .sl true sz rows b base c T h0 h1 (updN_self _ _ _) h3 h4 h5 (fun i r j p x e1 e2 e3 => (h6 i r j p x e1 e2 e3).mono hext) h7
theorem RSt.freezeM (R : RSt M σ a w) {n : Nat} {fz g rg : Bool} {ks : List PV} {rows : List (List PV)} (hn : lk σ.o n = some (.mp fz g rg ks rows)) :
  ∃ M₁, RSt M₁ { σ with o := up σ.o n (.mp true g rg ks rows) } a w ∧ Ext M w M₁ w ∧ M₁.β = M.β := by
 have dom : ∀ k, (lk σ.o k).isSome → (lk (up σ.o n (.mp true g rg ks rows)) k).isSome := by
  intro k hk; rw [lk_up]; split
  ·rfl
  ·exact hk
 cases R.ob n _ hn with
 | mp _ _ _ _ _ b es clock e1 e2 e3 e4 e5 e6 e7 e8 e9 e10 =>
  have hext : Ext M w ⟨updN M.κ b .frozen, M.β, M.φ, M.F0⟩ w := by
   refine ⟨rfl, rfl, rfl, Nat.le_refl _, fun _ _ _ => rfl, ?_, ?_, fun _ c _ _ h => ⟨c, h, rfl⟩, fun _ _ _ h => h, fun _ _ _ => rfl, rfl⟩
   ·intro k _ hk
    by_cases e : k = b
    ·subst e; exact updN_self _ _ _
    ·simp only; rw [updN_ne _ _ e]; exact hk
   ·intro k _ hk
    have : k ≠ b := by
     rintro rfl
     rw [e2] at hk
     cases fz <;> cases hk
    simp only; rw [updN_ne _ _ this]; exact hk
  refine ⟨⟨updN M.κ b .frozen, M.β, M.φ, M.F0⟩, ⟨R.sz, R.df, fun t v hv => (R.tm t v hv).mono hext (fun k _ => rfl), ?_, fun t v hv k hk => dom k (R.wt t v hv k hk), ?_⟩, hext, rfl⟩
  ·intro m o hm
   rw [lk_up] at hm
   split at hm
   ·rename_i e; subst e; cases hm
    exact (ORel.mp (M := ⟨updN M.κ b .frozen, M.β, M.φ, M.F0⟩) true g rg ks rows b es clock e1 (updN_self _ _ _) e3 e4 e5 e6 e7 (fun i e p h1 h2 => (e8 i e p h1 h2).mono hext) (fun i e r j x p h1 h2 h3 h4 => (e9 i e r j x p h1 h2 h3 h4).mono hext) e10)
   ·rename_i e
    refine (R.ob m o hm).mono hext rfl (fun k _ => rfl) (fun k _ hc => ⟨?_, rfl⟩) (fun f _ _ _ _ _ _ => rfl)
    by_cases ek : k = b
    ·subst ek
     rw [e2] at hc ⊢
     cases fz with
     | true => exact updN_self _ _ _
     | false =>
      exfalso
      rcases hc with hc | hc
      ·cases hc; exact e rfl
      ·cases hc
    ·exact updN_ne _ _ ek
  ·intro m o hm k hk
   rw [lk_up] at hm
   split at hm
   ·cases hm; simp [AObj.nms] at hk
   ·exact dom k (R.wo m o hm k hk)
theorem RSt.freezeV (R : RSt M σ a w) {n : Nat} {ps : List PV} (hn : lk σ.o n = some (.varp ps)) :
  ∃ M₁, RSt M₁ { σ with o := up σ.o n (.varf ps) } a w ∧ Ext M w M₁ w ∧ M₁.β = M.β := by
 have dom : ∀ k, (lk σ.o k).isSome → (lk (up σ.o n (.varf ps)) k).isSome := by
  intro k hk; rw [lk_up]; split
  ·rfl
  ·exact hk
 cases R.ob n _ hn with
 | varp _ b c T e1 e2 e3 e4 e5 =>
  have hext : Ext M w ⟨updN M.κ b .frozen, M.β, M.φ, M.F0⟩ w := by
   refine ⟨rfl, rfl, rfl, Nat.le_refl _, fun _ _ _ => rfl, ?_, ?_, fun _ c _ _ h => ⟨c, h, rfl⟩, fun _ _ _ h => h, fun _ _ _ => rfl, rfl⟩
   ·intro k _ hk
    by_cases e : k = b
    ·subst e; exact updN_self _ _ _
    ·simp only; rw [updN_ne _ _ e]; exact hk
   ·intro k _ hk
    have : k ≠ b := by rintro rfl; rw [e2] at hk; cases hk
    simp only; rw [updN_ne _ _ this]; exact hk
  refine ⟨⟨updN M.κ b .frozen, M.β, M.φ, M.F0⟩, ⟨R.sz, R.df, fun t v hv => (R.tm t v hv).mono hext (fun k _ => rfl), ?_, fun t v hv k hk => dom k (R.wt t v hv k hk), ?_⟩, hext, rfl⟩
  ·intro m o hm
   rw [lk_up] at hm
   split at hm
   ·rename_i e; subst e; cases hm
    exact ORel.varf (M := ⟨updN M.κ b .frozen, M.β, M.φ, M.F0⟩) ps b c T e1 (updN_self _ _ _) e3 e4 fun i x p h1 h2 => (e5 i x p h1 h2).mono hext
   ·rename_i e
    refine (R.ob m o hm).mono hext rfl (fun k _ => rfl) (fun k _ hc => ⟨?_, rfl⟩) (fun f _ _ _ _ _ _ => rfl)
    by_cases ek : k = b
    ·subst ek
     exfalso
     rw [e2] at hc
     rcases hc with hc | hc
     ·cases hc; exact e rfl
     ·cases hc
    ·exact updN_ne _ _ ek
  ·intro m o hm k hk
   rw [lk_up] at hm
   split at hm
   ·cases hm; simp [AObj.nms] at hk
   ·exact dom k (R.wo m o hm k hk)
def Frz (o o' : AObj) : Prop := (∃ fz sz rows, o = .sl fz sz rows ∧ o' = .sl true sz rows) ∨ (∃ fz g rg ks rows, o = .mp fz g rg ks rows ∧ o' = .mp true g rg ks rows) ∨ ∃ ps, o = .varp ps ∧ o' = .varf ps
theorem frzObjs_sound : ∀ {frz : List Nat} {wf : List (Nat × AObj)} {σ : St} {M : Mm} (_ : RSt M σ a w), frzObjs σ.obj frz = some wf → nodupN frz = true →
  ∃ M₁, RSt M₁ { σ with o := wrO σ.o wf } a w ∧ Ext M w M₁ w ∧ M₁.β = M.β ∧ (∀ n, allNat n frz = true → lk (wrO σ.o wf) n = lk σ.o n) ∧
   (∀ n, allNat n frz = false → ∃ o o', lk σ.o n = some o ∧ lk (wrO σ.o wf) n = some o' ∧ Frz o o') := by
 intro frz
 induction frz with
 | nil =>
  intro wf σ M R h _
  simp [frzObjs] at h; subst h
  exact ⟨M, R, .refl M w, rfl, fun _ _ => rfl, fun n hn => by simp [allNat] at hn⟩
 | cons n ns ih =>
  intro wf σ M R h hd
  have step : ∀ (o o' : AObj) (os : List (Nat × AObj)), lk σ.o n = some o → Frz o o' → frzObjs σ.obj ns = some os → wf = (n, o') :: os → (∃ M₀, RSt M₀ { σ with o := up σ.o n o' } a w ∧ Ext M w M₀ w ∧ M₀.β = M.β) →
    ∃ M₁, RSt M₁ { σ with o := wrO σ.o wf } a w ∧ Ext M w M₁ w ∧ M₁.β = M.β ∧ (∀ m, allNat m (n :: ns) = true → lk (wrO σ.o wf) m = lk σ.o m) ∧
    (∀ m, allNat m (n :: ns) = false → ∃ o o', lk σ.o m = some o ∧ lk (wrO σ.o wf) m = some o' ∧ Frz o o') := by
   intro o o' os hn hF hos hwf hM
   subst hwf
   simp only [nodupN] at hd
   split at hd
   ·rename_i hnn
    obtain ⟨M₀, R₀, E₀, B₀⟩ := hM
    have hos' : frzObjs ({ σ with o := up σ.o n o' } : St).obj ns = some os := by
     rw [← hos]
     clear hos ih R₀ hd
     have key : ∀ l : List Nat, allNat n l = true → frzObjs ({ σ with o := up σ.o n o' } : St).obj l = frzObjs σ.obj l := by
      intro l
      induction l with
      | nil => intro _; rfl
      | cons m ms ihm =>
       intro hm
       simp only [allNat] at hm
       split at hm
       ·cases hm
       ·rename_i hne
        have hne' : n ≠ m := by rintro rfl; simp at hne
        simp only [frzObjs, ihm hm, St.obj, lk_up, if_neg hne']
     exact key ns hnn
    obtain ⟨M₁, R₁, E₁, B₁, f1, f2⟩ := ih R₀ hos' hd
    refine ⟨M₁, R₁, E₀.trans E₁, B₁.trans B₀, ?_, ?_⟩
    ·intro m hm
     simp only [allNat] at hm
     split at hm
     ·cases hm
     ·rename_i hne
      have hne' : n ≠ m := by rintro rfl; simp at hne
      have := f1 m hm
      simp only [wrO]
      rw [this, lk_up, if_neg hne']
    ·intro m hm
     simp only [allNat] at hm
     split at hm
     ·rename_i heq
      have heq := nbeq_eq heq
      subst heq
      refine ⟨o, o', hn, ?_, hF⟩
      have := f1 n hnn
      simp only [wrO]
      rw [this, lk_up, if_pos rfl]
     ·rename_i hne
      have hne' : n ≠ m := by rintro rfl; simp at hne
      obtain ⟨q, q', g1, g2, g3⟩ := f2 m hm
      simp only [lk_up, if_neg hne'] at g1
      exact ⟨q, q', g1, g2, g3⟩
   ·cases hd
  simp only [frzObjs] at h
  split at h
  ·rename_i fz sz rows os hn hos
   cases h
   exact step _ _ os hn (.inl ⟨fz, sz, rows, rfl, rfl⟩) hos rfl (R.freeze hn)
  ·rename_i fz g rg ks rows os hn hos
   cases h
   exact step _ _ os hn (.inr (.inl ⟨fz, g, rg, ks, rows, rfl, rfl⟩)) hos rfl (R.freezeM hn)
  ·rename_i ps os hn hos
   cases h
   exact step _ _ os hn (.inr (.inr ⟨ps, rfl, rfl⟩)) hos rfl (R.freezeV hn)
  ·cases h
theorem mp_frozen {n : Nat} {g rg : Bool} {ks : List PV} {rows : List (List PV)} {v : Value} (h : VRel M w v (.mp n)) (ho : ORel M w n (.mp true g rg ks rows)) : VRel M w v (.pv (.mp g ks rows)) := by
 cases h with | mp _ b hb =>
 cases ho with | mp _ _ _ _ _ b' es clock e1 e2 e3 e4 e5 e6 e7 e8 e9 e10 =>
 rw [hb] at e1; cases e1
 exact .pv _ _ (.mp g ks rows b es clock e2 e3 e4 e5 e6 e7 e8 e9)
theorem hd_frozen {n len sz : Nat} {rows : List (List PV)} {v : Value} (h : VRel M w v (.hd n 0 len sz)) (ho : ORel M w n (.sl true sz rows)) (hl : len = rows.length) :
  VRel M w v (.pv (.sl rows)) := by
 subst hl
 generalize hlen : rows.length = len at h
 cases h with
 | hd0 _ _ _ ad =>
  have : rows = [] := List.eq_nil_of_length_eq_zero hlen
  subst this
  exact .pv _ _ (.sl0 ad 0)
 | hd _ _ _ _ b base cap c T fr f1 f2 f3 f4 =>
  cases ho with
  | sl0 _ _ _ g1 => rw [f1] at g1; cases g1
  | sl _ _ _ b' base' c' T' g0 g1 g2 g3 g4 g5 g6 =>
   rw [f1] at g1; cases g1
   rw [f3] at g3; cases g3
   refine .pv _ _ ?_
   have key : ∀ (i : Nat) (r : List PV) (j : Nat) (p : PV), rows[i]? = some r → r[j]? = some p → ∃ x, c[base + i * sz + j]? = some x := by
    intro i r j p h1 h2
    have hi : i < rows.length := (List.getElem?_eq_some_iff.1 h1).1
    have hj : j < sz := by have := (List.getElem?_eq_some_iff.1 h2).1; rw [g5 r (List.mem_of_getElem? h1)] at this; exact this
    have := row_lt hi hj
    exact ⟨c[base + i * sz + j]'(by omega), by simp⟩
   have := PRel.sl (M := M) (w := w) b base sz len cap rows (fun i j => c.getD (base + i * sz + j) undef) hlen f2 (fun i r h => g5 r (List.mem_of_getElem? h)) ?_ ?_
   ·simpa using this
   ·intro i r j p h1 h2
    obtain ⟨x, hx⟩ := key i r j p h1 h2
    refine ⟨g2, ?_⟩
    rw [cell_block f3, hx]; simp [Array.getD_eq_getD_getElem?, hx]
   ·intro i r j p h1 h2
    obtain ⟨x, hx⟩ := key i r j p h1 h2
    have := g6 i r j p x h1 h2 hx
    simpa [Array.getD_eq_getD_getElem?, hx] using this
theorem sl_len {n sz : Nat} {fz : Bool} {rows : List (List PV)} (ho : ORel M w n (.sl fz sz rows)) : (M.β n).1 = rows.length := by
 cases ho with
 | sl0 _ _ _ _ h => exact h
 | sl _ _ _ _ _ _ _ _ _ _ _ _ _ _ h => exact h
theorem hw_hd {n sz sz' : Nat} {fz : Bool} {rows : List (List PV)} {v : Value} (h : VRel M w v (.hw n sz)) (ho : ORel M w n (.sl fz sz' rows)) : VRel M w v (.hd n 0 rows.length sz) := by
 cases h with | hw _ _ _ h =>
 rw [sl_len ho] at h; exact h
end
end Go.Fx
