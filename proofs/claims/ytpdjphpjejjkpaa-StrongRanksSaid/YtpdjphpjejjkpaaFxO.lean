/- The evaluator is sound: from a stack of items to another one. -/
import Derived.Test.YtpdjphpjejjkpaaFxN
import Derived.Scope
import Derived.RangeFuncLeaves
import Derived.RangeFuncRecord
namespace Go.Fx
section
variable {P : Program} {M : Mm} {w : World} {σ : St} {a : Act}
structure ExtX (X : Nat → Prop) (M : Mm) (w : World) (M' : Mm) (w' : World) : Prop where
 os : w'.os = w.os
 tape : w'.tape = w.tape
 output : w'.output = w.output
 size : w.heap.size ≤ w'.heap.size
 keep : ∀ b, b < w.heap.size → (∀ n, M.κ b ≠ .own n) → ¬ X b → w'.heap[b]? = w.heap[b]?
 fro : ∀ b, b < w.heap.size → M.κ b = .frozen → M'.κ b = .frozen
 out : ∀ b, b < w.heap.size → M.κ b = .outer → ¬ X b → M'.κ b = .outer
 shp : ∀ (b : Nat) (c : Array Value) (T : TypeId) (fr : Nat × Nat), w.heap[b]? = some (.cells c T fr) → ∃ c' : Array Value, w'.heap[b]? = some (.cells c' T fr) ∧ c'.size = c.size
 fam : ∀ (f i : Nat) (b : Nat × Nat), M.fam f i = some b → M'.fam f i = some b
 low : ∀ f, f < M.F0 → f < M.φ.length → M'.φ[f]? = M.φ[f]?
 f0 : M'.F0 = M.F0
theorem Ext.x {X : Nat → Prop} {M' : Mm} {w' : World} (h : Ext M w M' w') : ExtX X M w M' w' :=
 ⟨h.os, h.tape, h.output, h.size, fun b hb hn _ => h.keep b hb hn, h.fro, fun b hb hn _ => h.out b hb hn, h.shp, h.fam, h.low, h.f0⟩
theorem ExtX.ext {X : Nat → Prop} {M' : Mm} {w' : World} (h : ExtX X M w M' w') (hX : ∀ b, b < w.heap.size → ¬ X b) : Ext M w M' w' :=
 ⟨h.os, h.tape, h.output, h.size, fun b hb hn => h.keep b hb hn (hX b hb), h.fro, fun b hb hn => h.out b hb hn (hX b hb), h.shp, h.fam, h.low, h.f0⟩
theorem ExtX.less {X Y : Nat → Prop} {M' : Mm} {w' : World} (h : ExtX X M w M' w') (hX : ∀ b, b < w.heap.size → X b → Y b) : ExtX Y M w M' w' :=
 ⟨h.os, h.tape, h.output, h.size, fun b hb hn hy => h.keep b hb hn (fun hx => hy (hX b hb hx)), h.fro, fun b hb hn hy => h.out b hb hn (fun hx => hy (hX b hb hx)), h.shp, h.fam, h.low, h.f0⟩
theorem ExtX.trans {X : Nat → Prop} {M' M'' : Mm} {w' w'' : World} (h : ExtX X M w M' w') (k : ExtX X M' w' M'' w'') : ExtX X M w M'' w'' where
 os := k.os.trans h.os
 tape := k.tape.trans h.tape
 output := k.output.trans h.output
 size := Nat.le_trans h.size k.size
 keep b hb hn hx := by
  have hb' := Nat.lt_of_lt_of_le hb h.size
  rw [← h.keep b hb hn hx]
  refine k.keep b hb' ?_ hx
  cases e : M.κ b with
  | frozen => rw [h.fro b hb e]; intro n; simp
  | outer => rw [h.out b hb e hx]; intro n; simp
  | own n => exact absurd e (hn n)
 fro b hb e := k.fro b (Nat.lt_of_lt_of_le hb h.size) (h.fro b hb e)
 out b hb e hx := k.out b (Nat.lt_of_lt_of_le hb h.size) (h.out b hb e hx) hx
 shp b c T fr e := by
  obtain ⟨c', e', s'⟩ := h.shp b c T fr e
  obtain ⟨c'', e'', s''⟩ := k.shp b c' T fr e'
  exact ⟨c'', e'', s''.trans s'⟩
 fam f i b e := k.fam f i b (h.fam f i b e)
 low f h1 h2 := by
  have := h.low f h1 h2
  rw [← this]
  refine k.low f (by rw [h.f0]; exact h1) ?_
  rw [List.getElem?_eq_getElem h2] at this
  exact (List.getElem?_eq_some_iff.1 this).1
 f0 := k.f0.trans h.f0
def dfl (D : Nat) : Deferred := { target := .collected D, args := #[] }
def InD (ds : List Deferred) (b : Nat) : Prop := dfl b ∈ ds
structure Go2 (m : Nat) (X : Nat → Prop) (M : Mm) (w : World) (M' : Mm) (w' : World) : Prop where
 ext : ExtX X M w M' w'
 bev : ∀ k, k < m → M'.β (2 * k) = M.β (2 * k)
theorem Go1.trans2 {m : Nat} {X : Nat → Prop} {M₁ M₂ : Mm} {w₁ w₂ : World} (h : Go1 M w M₁ w₁) (k : Go2 m X M₁ w₁ M₂ w₂) : Go2 m X M w M₂ w₂ :=
 ⟨h.ext.x.trans k.ext, fun n hn => (k.bev n hn).trans (h.bev _ (by omega))⟩
structure Rd where
 lr : Loop
 ks : List Nat
 vs : List AV
structure Fid where
 fn : FuncId
 ni : Nat
 rd : Option Rd := none
def Dfs (M : Mm) (w : World) (ds : List Deferred) : Prop :=
 ∃ Ds : List Nat, ds = Ds.map dfl ∧ Ds.Nodup ∧ ∀ D ∈ Ds, M.κ D = .outer ∧ w.heap[D]? = some (.deferred (some []))
theorem Dfs.mono {M' : Mm} {w' : World} {ds : List Deferred} (h : Dfs M w ds) (E : Ext M w M' w') : Dfs M' w' ds := by
 obtain ⟨Ds, h1, h2, h3⟩ := h
 refine ⟨Ds, h1, h2, fun D hD => ?_⟩
 obtain ⟨k1, k2⟩ := h3 D hD
 exact ⟨E.out D (heap_lt k2) k1, by rw [E.keep D (heap_lt k2) (by intro n; rw [k1]; simp)]; exact k2⟩
structure BOk (fid : Fid) (M : Mm) (w : World) (b : Frame) (cs : List Frame) : Prop where
 fn : b.fn = fid.fn
 kind : b.kind = .normal
 df : Dfs M w b.defers
 rd : match fid.rd with
  | none => b.roundOf = none
  | some d => b.defers = [] ∧ cs ≠ [] ∧ ∃ l, b.roundOf = some l ∧ (M.β 0).2 = some (l, 0) ∧ M.κ l = .outer ∧ w.heap[l]? = some (.loop d.lr) ∧
   (∀ v ∈ d.vs, ∀ n ∈ v.nms, evenBelow fid.ni n) ∧ ∀ (i k : Nat) (v : AV), d.ks[i]? = some k → d.vs[i]? = some v → VRel M w (d.lr.tmps.getD k undef) v
def XB (b : Frame) (x : Nat) : Prop := InD b.defers x ∨ b.roundOf = some x
theorem BOk.mono {fid : Fid} {M' : Mm} {w' : World} {b : Frame} {cs : List Frame} (h : BOk fid M w b cs) (g : Go1 M w M' w') : BOk fid M' w' b cs := by
 refine ⟨h.fn, h.kind, h.df.mono g.ext, ?_⟩
 have := h.rd
 cases hr : fid.rd with
 | none => rw [hr] at this; exact this
 | some d =>
  rw [hr] at this
  obtain ⟨h1, h2, l, h3, h4, h5, h6, h7, h8⟩ := this
  refine ⟨h1, h2, l, h3, by rw [g.bev 0 (by omega)]; exact h4, g.ext.out l (heap_lt h6) h5, by rw [g.ext.keep l (heap_lt h6) (by intro n; rw [h5]; simp)]; exact h6, h7, fun i k v e1 e2 => ?_⟩
  exact (h8 i k v e1 e2).mono g.ext fun n hn => g.bev n (by obtain ⟨j, _, rfl⟩ := h7 v (List.mem_of_getElem? e2) n hn; omega)
abbrev _root_.Go.Frame.at2 (b : Frame) (a : Act) (k : List Item) : Frame := b.atR ⟨a.tmps, b.defers⟩ k
theorem eval_df (a : Act) (ds : List Deferred) : (⟨a.tmps, ds⟩ : Act).eval = a.eval := by
 funext x; cases x <;> rfl
def Ends (P : Program) (fid : Fid) (m : Machine) (cs : List Frame) (v : Value) (w' : World) : Prop := match fid.rd with
 | none => ∃ fr, Steps P m (lone fr cs w') ∧ fr.leaving P w' (.returned v) ∧ fr.fn = fid.fn
 | some _ => ∃ c cs', cs = c :: cs' ∧ Steps P m (lone (c.finish v) cs' w')
theorem Ends.head {fid : Fid} {m m' : Machine} {cs : List Frame} {v : Value} {w' : World} (h : Steps P m m') (k : Ends P fid m' cs v w') : Ends P fid m cs v w' := by
 unfold Ends at k ⊢
 split at k
 ·obtain ⟨fr, h1, h2⟩ := k; exact ⟨fr, h.trans h1, h2⟩
 ·obtain ⟨c, cs', h1, h2⟩ := k; exact ⟨c, cs', h1, h.trans h2⟩
def WK (P : Program) (fid : Fid) (k : List Item) (σ : St) (r : AV) (outs : List AObj) : Prop :=
 ∀ (M : Mm) (a : Act) (w : World), RSt M σ a w → ∀ (b : Frame) (cs : List Frame), BOk fid M w b cs →
  ∃ v M' w', Ends P fid (lone (b.at2 a k) cs w) cs v w' ∧ Go2 fid.ni (XB b) M w M' w' ∧ VRel M' w' v r ∧
   (∀ (k : Nat) (o : AObj), outs[k]? = some o → ORel M' w' (2 * k) o) ∧ (∀ n ∈ r.nms, evenBelow outs.length n) ∧ (∀ o ∈ outs, ∀ n ∈ o.nms, evenBelow outs.length n)
theorem WK.steps {fid : Fid} {k k' : List Item} {σ : St} {r : AV} {outs : List AObj}
  (h : ∀ (b : Frame) (a : Act) (cs : List Frame) (w : World), Steps P (lone (b.atR a k) cs w) (lone (b.atR a k') cs w)) (hk : WK P fid k' σ r outs) : WK P fid k σ r outs := by
 intro M a w R b cs hb
 obtain ⟨v, M', w', h1, h2⟩ := hk M a w R b cs hb
 exact ⟨v, M', w', h1.head (h b _ cs w), h2⟩
theorem stepR_scope {b : Frame} {k : List Item} {cs : List Frame} {c : Code} : step P (lone (b.atR a (.code (.scope c) :: k)) cs w) = .next (lone (b.atR a (.code c :: .inScope c :: k)) cs w) :=
 step_lone_go (by simp [stepG, stepG.exec, Frame.atR])
theorem stepR_inScope {b : Frame} {k : List Item} {cs : List Frame} {c : Code} : step P (lone (b.atR a (.inScope c :: k)) cs w) = .next (lone (b.atR a k) cs w) :=
 step_lone_go (by simp [stepG, stepG.exec, Frame.atR])
/-! Operations, whatever calls are deferred. -/
theorem put_df (a : Act) (ds : List Deferred) (d : Option Tmp) (v : Value) : (⟨a.tmps, a.defers ++ ds⟩ : Act).put d v = ⟨(a.put d v).tmps, (a.put d v).defers ++ ds⟩ := by
 cases d <;> rfl
theorem wpOpsIn_df {F : Fence} {n : Nat} {ops : Array Oper} {Q Q' : Exit → Act → World → Prop} (ds : List Deferred) (hQ : ∀ e a w, Q e a w → Q' e ⟨a.tmps, a.defers ++ ds⟩ w) :
  ∀ (l : List Nat) (a : Act) (w : World), wpOpsIn F n P ops Q l a w → wpOpsIn F n P ops Q' l ⟨a.tmps, a.defers ++ ds⟩ w := by
 intro l
 induction l with
 | nil => intro a w h; exact hQ _ _ _ h
 | cons i l ih =>
  intro a w h
  have hL : LetsOut Q → LetsOut Q' := fun ⟨a, w, h⟩ => ⟨_, _, hQ _ _ _ h⟩
  have hE : (⟨a.tmps, a.defers ++ ds⟩ : Act).eval = a.eval := eval_df a _
  rw [wpOpsIn_cons] at h ⊢
  unfold wpOpIn at h ⊢
  cases ho : ops[i]? with
  | none => rw [ho] at h; exact ih _ _ h
  | some o =>
   rw [ho] at h
   simp only at h ⊢
   split at h
   ·rename_i hw
    rw [if_pos hw]
    unfold Oper.wpIn at h ⊢
    rw [hE]
    refine ⟨h.1, ?_⟩
    have h := h.2
    generalize (o.semAt F.round a.eval).run P w = r at h ⊢
    cases r with
    | ok x w' =>
     cases x <;> simp only [Oper.uponIn] at h ⊢
     case value v => rw [put_df]; exact ih _ _ h
     case skip => rw [put_df]; exact ih _ _ h
     case defer d =>
      have := ih _ _ h
      have e : ({ (⟨a.tmps, a.defers ++ ds⟩ : Act) with defers := d :: (⟨a.tmps, a.defers ++ ds⟩ : Act).defers } : Act).put o.dst undef = ⟨(({ a with defers := d :: a.defers } : Act).put o.dst undef).tmps, (({ a with defers := d :: a.defers } : Act).put o.dst undef).defers ++ ds⟩ := by
       cases o.dst <;> rfl
      rw [e]; exact this
     case enter f args =>
      refine ⟨h.1, h.2.mono fun e w'' he => ?_⟩
      cases e with
      | returned v => simp only at he ⊢; rw [put_df]; exact ih _ _ he
      | panicked c => exact hQ _ _ _ he
      | outgrown => exact hL he
     case row row args =>
      refine ⟨h.1, h.2.mono fun v w'' he => ?_⟩
      rw [put_df]; exact ih _ _ he
     case round l f tmps assign body =>
      refine ⟨h.1, h.2.mono fun e w'' he => ?_⟩
      cases e with
      | returned v => simp only at he ⊢; rw [put_df]; exact ih _ _ he
      | panicked c => exact hQ _ _ _ he
      | outgrown => exact hL he
    | halt x w' => cases x <;> simp only [Oper.uponIn] at h ⊢ <;> exact hQ _ _ _ h
   ·rename_i hw
    rw [if_neg hw]
    refine ⟨by rw [hE]; exact h.1, ?_⟩
    rw [put_df]; exact ih _ _ h.2
theorem unwind_dfs {cs : List Frame} : ∀ (Ds : List Nat) (fr : Frame) (w : World), fr.mode = .returning → fr.defers = Ds.map dfl → Ds.Nodup → (∀ D ∈ Ds, w.heap[D]? = some (.deferred (some []))) →
  ∃ w', Steps P (lone fr cs w) (lone { fr with defers := [] } cs w') ∧ w'.os = w.os ∧ w'.tape = w.tape ∧ w'.output = w.output ∧ w'.heap.size = w.heap.size ∧ ∀ b, b ∉ Ds → w'.heap[b]? = w.heap[b]?
 | [], fr, w, hm, hd, _, _ => by
  refine ⟨w, ?_, rfl, rfl, rfl, rfl, fun _ _ => rfl⟩
  have : ({ fr with defers := [] } : Frame) = fr := by
   cases fr; simp at hd; simp [hd]
  rw [this]; exact .refl _ _
 | D :: Ds, fr, w, hm, hd, hn, hh => by
  rw [List.nodup_cons] at hn
  have hD := hh D (.head _)
  have hst := step_collected (P := P) (cs := cs) (calls := []) (w' := w.putObj D (.deferred none)) (fr := fr) (by rw [hm]; simp) hd rfl (run_takeDeferred hD)
  obtain ⟨w', h1, h2, h3, h4, h5, h6⟩ := unwind_dfs (cs := cs) Ds { fr with defers := Ds.map dfl } (w.putObj D (.deferred none)) hm rfl hn.2 (fun E hE => by
   rw [World.putObj_heap_other (by rintro rfl; exact hn.1 hE)]; exact hh E (.tail _ hE))
  refine ⟨w', .head hst h1, h2, h3, h4, by rw [h5, World.putObj_size], fun b hb => ?_⟩
  simp only [List.mem_cons, not_or] at hb
  rw [h6 b hb.2, World.putObj_heap_other hb.1]
theorem RSt.unwound {w' : World} {Ds : List Nat} (R : RSt M σ a w) (hk : ∀ D ∈ Ds, M.κ D = .outer ∧ w.heap[D]? = some (.deferred (some []))) (hs : w'.heap.size = w.heap.size) (hb : ∀ b, b ∉ Ds → w'.heap[b]? = w.heap[b]?) : RSt M σ a w' := by
 have L : Lft M w M w' := by
  refine ⟨fun b _ hf => ⟨hf, hb b fun h => ?_⟩, fun b c T fr h => ⟨c, ?_, rfl⟩, fun _ _ _ h => h, rfl⟩
  ·rw [(hk b h).1] at hf; cases hf
  ·rw [hb b fun hm => ?_]; exact h
   rw [(hk b hm).2] at h; cases h
 refine ⟨R.sz, R.df, fun t v h => (R.tm t v h).lft L fun _ _ => rfl, fun n o h => (R.ob n o h).lft L rfl (fun _ _ => rfl) (fun b _ hc => ⟨rfl, hb b fun hm => ?_⟩), R.wt, R.wo⟩
 rw [(hk b hm).1] at hc
 rcases hc with h | h <;> cases h
theorem WK.region {fid : Fid} {k : List Item} {r : AV} {outs : List AObj} {ops : Array Oper} {k0 : List Item}
  (h : ∀ (M : Mm) (a : Act) (w : World) (b : Frame), RSt M σ a w → ∃ (l : List Nat) (w1 : World), (∀ (ds : List Deferred) (cs : List Frame), Steps P (lone (b.atR ⟨a.tmps, ds⟩ k0) cs w) (lone (b.atR ⟨a.tmps, ds⟩ (.inRegion ops l :: k)) cs w1)) ∧
   wpOpsIn (wd b.roundOf) 0 P ops (fun e a' w' => e = .normal ∧ ∃ M' σ', RSt M' σ' a' w' ∧ Go1 M w M' w' ∧ WK P fid k σ' r outs) l a w1) : WK P fid k0 σ r outs := by
 intro M a w R b cs hb
 obtain ⟨l, w1, hs, hw⟩ := h M a w b R
 have hw2 := wpOpsIn_df b.defers (Q' := fun e a' w' => ∃ a0 : Act, a' = ⟨a0.tmps, a0.defers ++ b.defers⟩ ∧ e = .normal ∧ ∃ M' σ', RSt M' σ' a0 w' ∧ Go1 M w M' w' ∧ WK P fid k σ' r outs) (fun e a' w' hq => ⟨a', rfl, hq⟩) l a w1 hw
 obtain ⟨e, a', w', ⟨a0, rfl, rfl, M', σ', R', g, hwk⟩, harr⟩ := wp_opsIn l _ w1 hw2 b k cs rfl trivial (wd_room _)
 obtain ⟨v, M'', w'', h1, h2, h3⟩ := hwk M' a0 w' R' b cs (hb.mono g)
 refine ⟨v, M'', w'', ?_, g.trans2 h2, h3⟩
 have e1 : a.defers = [] := R.df
 have e2 : a0.defers = [] := R'.df
 rw [e1, List.nil_append] at harr
 rw [e2, List.nil_append] at harr
 exact h1.head ((hs b.defers cs).trans (StepsIn.steps harr))
end
end Go.Fx
