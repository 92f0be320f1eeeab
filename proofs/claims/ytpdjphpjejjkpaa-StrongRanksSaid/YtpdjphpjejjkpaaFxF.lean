/- Indexing, slicing, literal slices and append: sound. -/
import Derived.Test.YtpdjphpjejjkpaaFxE
import Derived.Laws.MakeOwn
namespace Go.Fx
section
variable {P : Program} {M : Mm} {w : World} {σ : St} {a : Act}
theorem rel_rows {rows : List (List PV)} {v : Value} (h : VRel M w v (.pv (.sl rows))) {i : Nat} {r : List PV} (hr : rows[i]? = some r) :
  ∃ (b off c : Nat) (x : Nat → Value), v = .slice (some ⟨b, off, none⟩) rows.length c ∧
   (∀ (j : Nat) (p : PV), r[j]? = some p → M.κ b = .frozen ∧ w.cell? ⟨b, off + i * r.length + j, none⟩ = some (x j)) ∧
   (∀ (j : Nat) (p : PV), r[j]? = some p → PRel M w (x j) p) := by
 cases h with | pv _ _ h =>
 cases h with
 | sl0 => simp at hr
 | sl b off sz len c _ x h1 h0 h2 h3 h4 =>
  subst h1
  have hs := h2 i r hr
  subst hs
  exact ⟨b, off, c, x i, rfl, fun j p hj => h3 i r j p hr hj, fun j p hj => h4 i r j p hr hj⟩
theorem beq_false {n : Nat} (h : Nat.beq n 0 = false) : n ≠ 0 := by rintro rfl; simp at h
theorem ixA_sound (R : RSt M σ a w) {o : Oper} {t : TypeId} {x i : Operand} (ho : o.op = .indexAddr t x i) {an : Ann} {out : Out} (h : ixA P t (σ.ev x) (σ.ev i) an = some out) (hp : All out.ob) :
  Does P o a w fun v w' => ∃ M', Post M σ w out M' v w' := by
 have hi := R.ev i
 have hx := R.ev x
 have hn := R.evn x
 unfold ixA at h
 split at h
 ·rename_i kk k hie
  rw [hie] at hi
  have hi := rel_int hi
  have run : ∀ y v, a.eval x = y → (Instr.indexAt t y (.int kk k)).run P w = .ok v w → (execOp a.eval o).run P w = .ok (.value v) w := by
   intro y v h1 h2
   simp [execOp, ho, h1, hi, h2]
  split at h
  ·rename_i e rows hu hxe
   rw [hxe] at hx
   split at h
   ·rename_i r hc0
    have hc0 := beq_false hc0
    cases h
    obtain ⟨h0, hr, hl, _⟩ := hp
    obtain ⟨b, off, c, z, e1, e2, e3⟩ := rel_rows hx hr
    have hlt : k.toNat < rows.length := (List.getElem?_eq_some_iff.1 hr).1
    refine Does.value (run _ (.pointer (some ⟨b, off + k.toNat * r.length, none⟩)) e1 ?_) ⟨M, Post.same R rfl (.fref b _ r z (fun j p hj => e2 j p hj) e3) (by simp [AV.nms])⟩
    simp only [Instr.indexAt, asIntOf, Sem.run_bind, Sem.run_pure, Result.andThen_ok, run_underlying hu]
    rw [if_pos ⟨h0, by omega⟩]
    simp [run_size hc0, hl, add_addr]
   ·cases h
  ·rename_i e n off len sz hu hxe
   rw [hxe] at hx hn
   split at h
   ·rename_i hs hs0
    have hs := nbeq_eq hs
    have hs0 := beq_false hs0
    cases h
    obtain ⟨h0, hl, _⟩ := hp
    generalize hy : a.eval x = y at hx
    cases hx with
    | hd0 => simp at hl; omega
    | hd _ _ _ _ b base cap c T fr f1 f2 f3 f4 =>
     refine Does.value (run _ (.pointer (some ⟨b, base + off * sz + k.toNat * sz, none⟩)) hy ?_) ⟨M, Post.same R rfl ?_ hn⟩
     ·simp only [Instr.indexAt, asIntOf, Sem.run_bind, Sem.run_pure, Result.andThen_ok, run_underlying hu]
      rw [if_pos ⟨h0, hl⟩]
      rw [hs] at hs0 ⊢
      simp [run_size hs0, add_addr]
     ·have := VRel.ref (M := M) (w := w) n (off + k.toNat) sz 0 b base f1
      simpa [Nat.add_mul, Nat.add_assoc] using this
   ·cases h
  ·rename_i e f fi off len sz hu hxe
   rw [hxe] at hx hn
   split at h
   ·rename_i hs hs0
    have hs := nbeq_eq hs
    have hs0 := beq_false hs0
    cases h
    obtain ⟨h0, hl, _⟩ := hp
    generalize hy : a.eval x = y at hx
    cases hx with | pv _ _ hx =>
    cases hx with
    | fh0 => simp at hl; omega
    | fh _ _ _ _ _ b base c f1 f2 =>
     refine Does.value (run _ (.pointer (some ⟨b, base + off * sz + k.toNat * sz, none⟩)) hy ?_) ⟨M, Post.same R rfl ?_ (by simp [AV.nms])⟩
     ·simp only [Instr.indexAt, asIntOf, Sem.run_bind, Sem.run_pure, Result.andThen_ok, run_underlying hu]
      rw [if_pos ⟨h0, hl⟩]
      rw [hs] at hs0 ⊢
      simp [run_size hs0, add_addr]
     ·have := VRel.fr (M := M) (w := w) f fi (off + k.toNat) sz 0 b base f1
      simpa [Nat.add_mul, Nat.add_assoc] using this
   ·cases h
  ·rename_i len e n ri sz off hu hxe
   rw [hxe] at hx hn
   split at h
   ·rename_i hc0 _ hz
    have hc0 := beq_false hc0
    have hz := nbeq_eq hz
    subst hz
    have key : ∀ ri' c', ri' * c' = k.toNat * P.cellsOf e → All [litP (isBit an) (0 ≤ k), litP (isBit an) (k < len)] → Does P o a w fun v w' => ∃ M', Post M σ w ⟨[litP (isBit an) (0 ≤ k), litP (isBit an) (k < len)], .ref n ri' c' off, []⟩ M' v w' := by
     intro ri' c' hc' hp
     obtain ⟨h0, hp⟩ := litP_ok hp
     have hl := (litP_ok hp).1
     generalize hy : a.eval x = y at hx
     cases hx with | ref _ _ _ _ b base f1 =>
     refine Does.value (run _ (.pointer (some ⟨b, base + ri * 0 + off + k.toNat * P.cellsOf e, none⟩)) hy ?_) ⟨M, Post.same R rfl ?_ hn⟩
     ·simp only [Instr.indexAt, asIntOf, Sem.run_bind, Sem.run_pure, Result.andThen_ok, run_underlying hu, Instr.sureAddr]
      rw [if_pos ⟨h0, hl⟩]
      simp [run_size hc0, add_addr]
     ·have := VRel.ref (M := M) (w := w) n ri' c' off b base f1
      rw [show base + ri * 0 + off + k.toNat * P.cellsOf e = base + ri' * c' + off by omega]
      exact this
    split at h
    ·rename_i m c _
     split at h
     ·rename_i hmc
      have hmc := nbeq_eq hmc
      cases h
      exact key _ _ (by rw [Nat.mul_assoc, hmc]) hp
     ·cases h
    ·cases h
     exact key _ _ rfl hp
   ·rename_i hc0 _
    have hc0 := beq_false hc0
    cases h
    obtain ⟨h0, hp⟩ := litP_ok hp
    have hl := (litP_ok hp).1
    generalize hy : a.eval x = y at hx
    cases hx with | ref _ _ _ _ b base f1 =>
    refine Does.value (run _ (.pointer (some ⟨b, base + ri * sz + off + k.toNat * P.cellsOf e, none⟩)) hy ?_) ⟨M, Post.same R rfl ?_ hn⟩
    ·simp only [Instr.indexAt, asIntOf, Sem.run_bind, Sem.run_pure, Result.andThen_ok, run_underlying hu, Instr.sureAddr]
     rw [if_pos ⟨h0, hl⟩]
     simp [run_size hc0, add_addr]
    ·have := VRel.ref (M := M) (w := w) n ri sz (off + k.toNat * P.cellsOf e) b base f1
     simpa [Nat.add_assoc] using this
   ·rename_i hc0 _ _
    have hc0 := beq_false hc0
    split at h
    ·rename_i hsz
     have hsz := nbeq_eq hsz
     cases h
     obtain ⟨h0, hp⟩ := litP_ok hp
     have hl := (litP_ok hp).1
     generalize hy : a.eval x = y at hx
     cases hx with | ref _ _ _ _ b base f1 =>
     refine Does.value (run _ (.pointer (some ⟨b, base + ri * sz + off + k.toNat * P.cellsOf e, none⟩)) hy ?_) ⟨M, Post.same R rfl ?_ hn⟩
     ·simp only [Instr.indexAt, asIntOf, Sem.run_bind, Sem.run_pure, Result.andThen_ok, run_underlying hu, Instr.sureAddr]
      rw [if_pos ⟨h0, hl⟩]
      simp [run_size hc0, add_addr]
     ·have := VRel.ref (M := M) (w := w) n (ri + k.toNat) sz off b base f1
      rw [show base + ri * sz + off + k.toNat * P.cellsOf e = base + (ri + k.toNat) * sz + off by rw [Nat.add_mul, hsz]; omega]
      exact this
    ·cases h
   ·cases h
  ·rename_i len e cs hu hxe
   rw [hxe] at hx hn
   split at h
   ·rename_i hc0
    have hc0 := beq_false hc0
    cases h
    obtain ⟨h0, hp⟩ := litP_ok hp
    have hl := (litP_ok hp).1
    generalize hy : a.eval x = y at hx
    cases hx with | fref b off _ z f1 f2 =>
    refine Does.value (run _ (.pointer (some ⟨b, off + k.toNat * P.cellsOf e, none⟩)) hy ?_) ⟨M, Post.same R rfl ?_ (by simp [AV.nms])⟩
    ·simp only [Instr.indexAt, asIntOf, Sem.run_bind, Sem.run_pure, Result.andThen_ok, run_underlying hu, Instr.sureAddr]
     rw [if_pos ⟨h0, hl⟩]
     simp [run_size hc0, add_addr]
    ·refine .fref b _ _ (fun j => z (k.toNat * P.cellsOf e + j)) ?_ ?_
     ·intro j p hj
      rw [List.getElem?_drop] at hj
      have := f1 _ p hj
      exact ⟨this.1, by rw [Nat.add_assoc]; exact this.2⟩
     ·intro j p hj
      rw [List.getElem?_drop] at hj
      exact f2 _ p hj
   ·cases h
  ·cases h
 ·cases h
theorem flat_get {α : Type} {sz : Nat} : ∀ {rows : List (List α)} {k : Nat} {p : α}, (∀ r ∈ rows, r.length = sz) → rows.flatten[k]? = some p → ∃ i j r, rows[i]? = some r ∧ r[j]? = some p ∧ k = i * sz + j
 | [], _, _, _, h => by simp at h
 | r :: rs, k, p, hr, h => by
  rw [List.flatten_cons] at h
  by_cases hk : k < r.length
  ·rw [List.getElem?_append_left hk] at h
   exact ⟨0, k, r, rfl, h, by simp⟩
  ·rw [List.getElem?_append_right (by omega)] at h
   obtain ⟨i, j, r', h1, h2, h3⟩ := flat_get (fun x hx => hr x (.tail _ hx)) h
   refine ⟨i + 1, j, r', by simpa using h1, h2, ?_⟩
   rw [hr r (.head _)] at h3 hk
   rw [Nat.add_mul]; omega
theorem arrA_sound (R : RSt M σ a w) {o : Oper} {t : TypeId} {x : Operand} (ho : o.op = .sliceToArrayPointer t x) {an : Ann} {out : Out} (h : arrA P t (σ.ev x) an = some out) (hp : All out.ob) :
  Does P o a w fun v w' => ∃ M', Post M σ w out M' v w' := by
 have hx := R.ev x
 unfold arrA at h
 split at h
 ·rename_i r n e rows hu hxe
  rw [hxe] at hx
  split at h
  ·rename_i hn
   have hn := beq_false hn
   cases h
   obtain ⟨h1, rfl, _⟩ := hp
   generalize hy : a.eval x = y at hx
   cases hx with | pv _ _ hx =>
   cases hx with
   | sl0 => simp at h1; omega
   | sl b off sz len c _ z hl hlc hsz hc hz =>
    have hlen : ∀ q ∈ rows.take n, q.length = sz := by
     intro q hq
     obtain ⟨i, hi⟩ := List.getElem?_of_mem (List.mem_of_mem_take hq)
     exact hsz i q hi
    have hrow : ∀ (i : Nat) (q : List PV), (rows.take n)[i]? = some q → rows[i]? = some q := by
     intro i q hq
     rw [List.getElem?_take] at hq
     split at hq
     ·exact hq
     ·cases hq
    have h0 : 0 < sz ∨ sz = 0 := by omega
    have key : ∀ (k : Nat) (p : PV), (rows.take n).flatten[k]? = some p → (M.κ b = .frozen ∧ w.cell? ⟨b, off + k, none⟩ = some (z (k / sz) (k % sz))) ∧ PRel M w (z (k / sz) (k % sz)) p := by
     intro k p hk
     obtain ⟨i, j, q, g1, g2, rfl⟩ := flat_get hlen hk
     have g1 := hrow i q g1
     have hj : j < sz := by rw [← hsz i q g1]; exact (List.getElem?_eq_some_iff.1 g2).1
     have e1 : (i * sz + j) / sz = i := by rw [Nat.mul_comm, Nat.mul_add_div (by omega), Nat.div_eq_of_lt hj]; rfl
     have e2 : (i * sz + j) % sz = j := by rw [Nat.mul_comm, Nat.mul_add_mod, Nat.mod_eq_of_lt hj]
     rw [e1, e2]
     refine ⟨⟨(hc i q j p g1 g2).1, ?_⟩, hz i q j p g1 g2⟩
     rw [← Nat.add_assoc]; exact (hc i q j p g1 g2).2
    refine Does.value (v := .pointer (some ⟨b, off, none⟩)) (w' := w) ?_ ⟨M, Post.same R rfl (.fref b off _ (fun k => z (k / sz) (k % sz)) (fun k p hk => (key k p hk).1) fun k p hk => (key k p hk).2) (by simp [AV.nms])⟩
    have : ¬ len < n := by omega
    simp [execOp, ho, hy, Instr.arrayAt, run_underlying hu, Result.andThen, this]
  ·cases h
 ·cases h
theorem indexA_sound (R : RSt M σ a w) {o : Oper} {t : TypeId} {x i : Operand} (ho : o.op = .index t x i) {an : Ann} {out : Out} (h : indexA P t (σ.ev x) (σ.ev i) an = some out) (hp : All out.ob) :
  Does P o a w fun v w' => ∃ M', Post M σ w out M' v w' := by
 have hi := R.ev i
 have hx := R.ev x
 unfold indexA at h
 split at h
 ·rename_i v
  split at h
  ·rename_i s kk k hu hxe hie
   rw [hie] at hi
   have hi := rel_int hi
   rw [hxe] at hx
   split at h
   ·rename_i n
    cases h
    obtain ⟨h0, hn, _⟩ := hp
    unfold strAt at hn
    rw [Option.map_eq_some_iff] at hn
    obtain ⟨b, hb, rfl⟩ := hn
    generalize hy : a.eval x = y at hx
    cases hx with | pv _ _ r =>
    cases r
    refine Does.value (v := .int .u8 b.toNat) (w' := w) ?_ ⟨M, Post.same R rfl (.pv _ _ (.int _ _)) (by simp [AV.nms])⟩
    simp only [execOp, ho, hy, hi, Instr.index, asIntOf, Sem.run_bind, Sem.run_pure, Result.andThen_ok, run_underlying hu]
    rw [if_pos h0, hb]
    rfl
   ·cases h
  ·rename_i len e cs kk k hu hxe hie
   rw [hie] at hi
   have hi := rel_int hi
   rw [hxe] at hx
   split at h
   ·rename_i hc0
    have hc0 := beq_false hc0
    cases h
    obtain ⟨h0, hl, hv, _⟩ := hp
    generalize hy : a.eval x = y at hx
    cases hx with | aggp vs _ f1 f2 =>
    obtain ⟨y, g1, g2, g3⟩ := takeP_sound (P := P) hv f1 f2
    refine Does.value (v := y) (w' := w) ?_ ⟨M, Post.same R rfl g2 (by simp only; rw [g3]; simp)⟩
    simp only [execOp, ho, hy, hi, Instr.index, asIntOf, Sem.run_bind, Sem.run_pure, Result.andThen_ok, run_underlying hu]
    rw [if_pos ⟨h0, hl⟩]
    simp [run_size hc0, g1]
   ·cases h
  ·cases h
 ·rename_i r
  split at h
  ·rename_i len e n sz rows kk k hu hxe hie
   rw [hie] at hi
   have hi := rel_int hi
   rw [hxe] at hx
   split at h
   ·rename_i hs hn hc0
    have hs := nbeq_eq hs
    have hn := nbeq_eq hn
    have hc0 := beq_false hc0
    subst hn
    simp only [Option.map_eq_some_iff] at h
    obtain ⟨v, h, rfl⟩ := h
    obtain ⟨h0, hrow, _⟩ := hp
    obtain ⟨x1, x2⟩ := hx.ar_ok
    have hlt : k.toNat < n := by rw [← x1]; exact (List.getElem?_eq_some_iff.1 hrow).1
    have hl : k < (n : Int) := by omega
    generalize hy : a.eval x = y at hx
    cases hx with | ar _ _ _ _ hx =>
    cases hx with | aggp vs _ f1 f2 =>
    obtain ⟨pre, post, u1, u2, _⟩ := flat_split x2 hrow
    have hrl : r.length = sz := x2 r (List.mem_of_getElem? hrow)
    have hv : takeV P e (rows.flatten.map .pv) (k.toNat * P.cellsOf e) = some v := by
     have := takeP_mid (P := P) (pre := pre.map .pv) (post := post.map .pv) h (by rw [hrl, hs]; omega)
     rw [u1, hs, ← u2]
     simpa using this
    obtain ⟨y, g1, g2, g3⟩ := takeV_sound (P := P) hv (CRel.ofP f1 f2)
    have g3 : v.nms = [] := List.eq_nil_iff_forall_not_mem.2 fun n hn => by have := g3 n hn; rw [nmsL_pvs] at this; cases this
    refine Does.value (v := y) (w' := w) ?_ ⟨M, Post.same R rfl g2 (by simp only; rw [g3]; simp)⟩
    simp only [execOp, ho, hy, hi, Instr.index, asIntOf, Sem.run_bind, Sem.run_pure, Result.andThen_ok, run_underlying hu]
    rw [if_pos ⟨h0, hl⟩]
    simp [run_size hc0, g1]
   ·cases h
  ·rename_i len e cs kk k hu hxe hie
   rw [hie] at hi
   have hi := rel_int hi
   rw [hxe] at hx
   split at h
   ·rename_i v hc0 hb hv
    have hc0 := beq_false hc0
    have hb := of_decide_eq_true hb
    cases h
    generalize hy : a.eval x = y at hx
    cases hx with | aggp vs _ f1 f2 =>
    obtain ⟨y, g1, g2, g3⟩ := takeP_sound (P := P) hv f1 f2
    refine Does.value (v := y) (w' := w) ?_ ⟨M, Post.same R rfl g2 (by simp only; rw [g3]; simp)⟩
    simp only [execOp, ho, hy, hi, Instr.index, asIntOf, Sem.run_bind, Sem.run_pure, Result.andThen_ok, run_underlying hu]
    rw [if_pos hb]
    simp [run_size hc0, g1]
   ·cases h
  ·cases h
 ·cases h
theorem slBounds_sound {lo hi : Option AV} {len : Nat} {p : List Obl} {l h : Nat} (e : slBounds lo hi len = some (p, l, h)) (hp : All p) {x y : Option Value}
  (hx : ∀ v, lo = some v → ∃ u, x = some u ∧ VRel M w u v) (hx0 : lo = none → x = none) (hy : ∀ v, hi = some v → ∃ u, y = some u ∧ VRel M w u v) (hy0 : hi = none → y = none) (cap : Nat) (hc : len ≤ cap) :
  l ≤ h ∧ h ≤ len ∧ (Instr.sliceBounds true len cap x y none).run P w = .ok (l, h, cap) w := by
 unfold slBounds at e
 split at e
 ·cases e
  obtain rfl := hx0 rfl
  obtain rfl := hy0 rfl
  exact ⟨by omega, by omega, by simp [Instr.sliceBounds]⟩
 ·rename_i k l'
  cases e
  obtain ⟨u, rfl, hu⟩ := hx _ rfl
  obtain rfl := hy0 rfl
  obtain rfl := rel_int hu
  obtain ⟨h1, h2, _⟩ := hp
  refine ⟨by omega, by omega, ?_⟩
  simp [Instr.sliceBounds, Instr.sliceBound, asIntOf, h1, h2]
 ·rename_i k h'
  cases e
  obtain rfl := hx0 rfl
  obtain ⟨u, rfl, hu⟩ := hy _ rfl
  obtain rfl := rel_int hu
  obtain ⟨h1, h2, _⟩ := hp
  refine ⟨by omega, by omega, ?_⟩
  have : h' ≤ (cap : Int) := by omega
  simp [Instr.sliceBounds, Instr.sliceBound, asIntOf, h1, this]
 ·rename_i k l' k' h'
  cases e
  obtain ⟨u, rfl, hu⟩ := hx _ rfl
  obtain ⟨u', rfl, hu'⟩ := hy _ rfl
  obtain rfl := rel_int hu
  obtain rfl := rel_int hu'
  obtain ⟨h1, h2, h3, _⟩ := hp
  refine ⟨by omega, by omega, ?_⟩
  have h4 : h' ≤ (cap : Int) := by omega
  have h5 : 0 ≤ h' := by omega
  have h6 : l' ≤ (h'.toNat : Int) := by omega
  simp only [Instr.sliceBounds, Instr.sliceBound, asIntOf, Sem.run_bind, Sem.run_pure, Result.andThen_ok, Sem.run_ite, h1, h4, h5, h6, and_self, if_true]
 ·cases e
theorem sliceA_sound (R : RSt M σ a w) {o : Oper} {t : TypeId} {x : Operand} {lo hi : Option Operand} (ho : o.op = .slice t x lo hi none) {an : Ann} {out : Out}
  (h : sliceA P t (σ.ev x) (lo.map σ.ev) (hi.map σ.ev) an = some out) (hp : All out.ob) :
  Does P o a w fun v w' => ∃ M', Post M σ w out M' v w' := by
 have hx := R.ev x
 have hn := R.evn x
 have blo : ∀ v, lo.map σ.ev = some v → ∃ u, lo.map a.eval = some u ∧ VRel M w u v := by
  intro v hv
  simp only [Option.map_eq_some_iff] at hv
  obtain ⟨y, rfl, rfl⟩ := hv
  exact ⟨_, rfl, R.ev y⟩
 have blo0 : lo.map σ.ev = none → lo.map a.eval = none := by simp
 have bhi : ∀ v, hi.map σ.ev = some v → ∃ u, hi.map a.eval = some u ∧ VRel M w u v := by
  intro v hv
  simp only [Option.map_eq_some_iff] at hv
  obtain ⟨y, rfl, rfl⟩ := hv
  exact ⟨_, rfl, R.ev y⟩
 have bhi0 : hi.map σ.ev = none → hi.map a.eval = none := by simp
 unfold sliceA at h
 split at h
 ·rename_i e hu
  have run : ∀ (ad : Option Addr) (len cap l h : Nat) (i : TypeInfo), P.info? e = some i → a.eval x = .slice ad len cap → (Instr.sliceBounds true len cap (lo.map a.eval) (hi.map a.eval) none).run P w = .ok (l, h, cap) w →
    (execOp a.eval o).run P w = .ok (.value (.slice (if cap = l then ad else ad.map (·.add (l * P.cellsOf e))) (h - l) (cap - l))) w := by
   intro ad len cap l h i hi' h1 h2
   simp only [execOp, ho, Option.map_none, Instr.sliceAt, Instr.slice, Sem.run_bind, run_underlying hu, Result.andThen_ok, h1]
   rw [h2]
   simp [run_sizeOf w hi']
  split at h
  ·rename_i rows hxe
   rw [hxe] at hx
   split at h
   ·rename_i rs p l hh hb hc0
    have hc0 := beq_false hc0
    obtain ⟨i, hi'⟩ := cells_some hc0
    cases h
    simp only [All_append] at hp
    obtain ⟨hp1, hcut, hrl, _⟩ := hp
    generalize hy : a.eval x = y at hx
    cases hx with | pv _ _ hx =>
    cases hx with
    | sl0 ad c =>
     obtain ⟨b1, b2, b3⟩ := slBounds_sound (P := P) (M := M) (w := w) hb hp1 blo blo0 bhi bhi0 c (by simp)
     simp only [List.length_nil] at b1 b2 b3
     have e1 : l = 0 := by omega
     have e2 : hh = 0 := by omega
     subst e1; subst e2
     refine Does.value (run _ _ _ _ _ i hi' hy b3) ⟨M, Post.same R rfl ?_ (by simp [AV.nms])⟩
     rw [← hcut]
     exact .pv _ _ (by simpa [cut1] using PRel.sl0 _ _)
    | sl b off sz len c _ z h1 h0 h2 h3 h4 =>
     subst h1
     obtain ⟨b1, b2, b3⟩ := slBounds_sound (P := P) (M := M) (w := w) hb hp1 blo blo0 bhi bhi0 c h0
     refine Does.value (run _ _ _ _ _ i hi' hy b3) ⟨M, Post.same R rfl ?_ (by simp [AV.nms])⟩
     subst hcut
     have hlen : (cut1 rows l (hh - l)).length = hh - l := length_cut1 _ _ _ (by omega)
     by_cases hcl : c = l
     ·rw [if_pos hcl]
      have : hh - l = 0 := by omega
      have hnil : cut1 rows l (hh - l) = [] := List.eq_nil_of_length_eq_zero (by rw [hlen, this])
      rw [hnil, this]
      exact .pv _ _ (.sl0 _ _)
     ·rw [if_neg hcl]
      simp only [Option.map_some, add_addr]
      refine .pv _ _ ?_
      by_cases hh0 : hh - l = 0
      ·have hnil : cut1 rows l (hh - l) = [] := List.eq_nil_of_length_eq_zero (by rw [hlen, hh0])
       rw [hnil, hh0]; exact .sl0 _ _
      ·have hsz : sz = P.cellsOf e := by
        have hg : (cut1 rows l (hh - l))[0]? = rows[l]? := by rw [getElem?_cut1, if_pos (by omega)]; simp
        have hll : l < rows.length := by omega
        have hg2 : rows[l]? = some rows[l] := by simp [hll]
        rw [← h2 l rows[l] hg2]
        exact hrl _ (List.mem_of_getElem? (hg.trans hg2))
       refine .sl b _ sz _ _ _ (fun i j => z (l + i) j) hlen (by omega) ?_ ?_ ?_
       ·intro i r hr
        rw [getElem?_cut1] at hr
        split at hr
        ·exact h2 _ r hr
        ·cases hr
       ·intro i r j p hr hj
        rw [getElem?_cut1] at hr
        split at hr
        ·have := h3 _ r j p hr hj
         refine ⟨this.1, ?_⟩
         rw [← this.2]
         congr 2
         rw [← hsz, Nat.add_mul]; omega
        ·cases hr
       ·intro i r j p hr hj
        rw [getElem?_cut1] at hr
        split at hr
        ·exact h4 _ r j p hr hj
        ·cases hr
   ·cases h
  ·rename_i hxe
   rw [hxe] at hx
   split at h
   ·rename_i p l hh hb hc0
    have hc0 := beq_false hc0
    obtain ⟨i, hi'⟩ := cells_some hc0
    cases h
    obtain ⟨b1, b2, b3⟩ := slBounds_sound (P := P) (M := M) (w := w) hb hp blo blo0 bhi bhi0 0 (Nat.le_refl _)
    have e1 : l = 0 := by omega
    have e2 : hh = 0 := by omega
    subst e1; subst e2
    exact Does.value (run _ _ _ _ _ i hi' (rel_nilsl hx) b3) ⟨M, Post.same R rfl (.pv _ _ .nilsl) (by simp [AV.nms])⟩
   ·cases h
  ·rename_i n off len sz hxe
   rw [hxe] at hx hn
   split at h
   ·rename_i p l hh hb hs hs0
    have hs := nbeq_eq hs
    have hs0 := beq_false hs0
    have hc0 : P.cellsOf e ≠ 0 := by rw [← hs]; exact hs0
    obtain ⟨i, hi'⟩ := cells_some hc0
    cases h
    generalize hy : a.eval x = y at hx
    cases hx with
    | hd0 _ _ _ ad =>
     obtain ⟨b1, b2, b3⟩ := slBounds_sound (P := P) (M := M) (w := w) hb hp blo blo0 bhi bhi0 0 (Nat.le_refl _)
     have e1 : l = 0 := by omega
     have e2 : hh = 0 := by omega
     subst e1; subst e2
     exact Does.value (run _ _ _ _ _ i hi' hy b3) ⟨M, Post.same R rfl (.hd0 n _ sz _) hn⟩
    | hd _ _ _ _ b base cap c T fr f1 f2 f3 f4 =>
     obtain ⟨b1, b2, b3⟩ := slBounds_sound (P := P) (M := M) (w := w) hb hp blo blo0 bhi bhi0 cap f2
     refine Does.value (run _ _ _ _ _ i hi' hy b3) ⟨M, Post.same R rfl ?_ hn⟩
     by_cases hcl : cap = l
     ·rw [if_pos hcl]
      have e1 : hh - l = 0 := by omega
      have e2 : cap - l = 0 := by omega
      simp only [e1, e2]
      exact .hd0 n _ sz _
     ·rw [if_neg hcl]
      simp only [Option.map_some, add_addr, ← hs]
      have := VRel.hd (M := M) (w := w) n (off + l) (hh - l) sz b base (cap - l) c T fr f1 (by omega) f3 (by
       have : off + l + (cap - l) = off + cap := by omega
       rw [this]; exact f4)
      rw [Nat.add_mul, ← Nat.add_assoc] at this
      exact this
   ·cases h
  ·rename_i f fi off len sz hxe
   rw [hxe] at hx
   split at h
   ·rename_i p l hh hb hs hs0
    have hs := nbeq_eq hs
    have hs0 := beq_false hs0
    obtain ⟨i, hi'⟩ := cells_some (P := P) (t := e) (by rw [← hs]; exact hs0)
    cases h
    generalize hy : a.eval x = y at hx
    cases hx with | pv _ _ hx =>
    cases hx with
    | fh0 _ _ _ _ ad cap =>
     obtain ⟨b1, b2, b3⟩ := slBounds_sound (P := P) (M := M) (w := w) hb hp blo blo0 bhi bhi0 cap (Nat.zero_le _)
     have e1 : hh - l = 0 := by omega
     simp only [e1]
     refine Does.value (run _ _ _ _ _ i hi' hy b3) ⟨M, Post.same R rfl (.pv _ _ ?_) (by simp [AV.nms])⟩
     rw [e1]
     exact .fh0 f fi _ sz _ _
    | fh _ _ _ _ _ b base cap f1 f2 =>
     obtain ⟨b1, b2, b3⟩ := slBounds_sound (P := P) (M := M) (w := w) hb hp blo blo0 bhi bhi0 cap f2
     refine Does.value (run _ _ _ _ _ i hi' hy b3) ⟨M, Post.same R rfl (.pv _ _ ?_) (by simp [AV.nms])⟩
     by_cases hcl : cap = l
     ·rw [if_pos hcl]
      have e1 : hh - l = 0 := by omega
      simp only [e1]
      exact .fh0 f fi _ sz _ _
     ·rw [if_neg hcl]
      simp only [Option.map_some, add_addr, ← hs]
      have := PRel.fh (M := M) (w := w) f fi (off + l) (hh - l) sz b base (cap - l) f1 (by omega)
      rw [Nat.add_mul, ← Nat.add_assoc] at this
      exact this
   ·cases h
  ·cases h
 ·cases h
theorem elemOfP_sound {t e : TypeId} (h : elemOfP P t = some e) : P.underlying t = some (.slice e) := by
 unfold elemOfP at h
 split at h
 ·rename_i e' hu; cases h; exact hu
 ·cases h
theorem partsP_get {ps : List (Nat × AV)} {cs : List (Nat × List PV)} (h : partsP ps = some cs) :
  ps.length = cs.length ∧ ∀ (j i : Nat) (v : AV), ps[j]? = some (i, v) → ∃ c, v.cellsP = some c ∧ cs[j]? = some (i, c) := by
 induction ps generalizing cs with
 | nil => simp [partsP] at h; subst h; simp
 | cons iv ps ih =>
  obtain ⟨i, v⟩ := iv
  simp only [partsP] at h
  split at h
  ·rename_i c ds h1 h2
   cases h
   obtain ⟨g1, g2⟩ := ih h2
   refine ⟨by simp [g1], ?_⟩
   intro j i' v' hj
   cases j with
   | zero => simp at hj; obtain ⟨rfl, rfl⟩ := hj; exact ⟨c, h1, rfl⟩
   | succ j => simp at hj ⊢; exact g2 j i' v' hj
  ·cases h
structure RowsRel (M : Mm) (w : World) (sz : Nat) (x : Array Value) (rows : List (List PV)) : Prop where
 size : x.size = rows.length * sz
 len : ∀ r ∈ rows, r.length = sz
 one : ∀ v ∈ x, v.oneCell' = true
 cell : ∀ (i : Nat) (r : List PV) (j : Nat) (p : PV) (v : Value), rows[i]? = some r → r[j]? = some p → x[i * sz + j]? = some v → PRel M w v p
theorem row_lt {i len j sz : Nat} (h : i < len) (hj : j < sz) : i * sz + j < len * sz := by
 have : (i + 1) * sz ≤ len * sz := Nat.mul_le_mul_right _ h
 rw [Nat.add_mul] at this; omega
theorem row_sep {i k j sz : Nat} (h : i ≠ k) (hj : j < sz) : ¬ (k * sz ≤ i * sz + j ∧ i * sz + j < k * sz + sz) := by
 rintro ⟨h1, h2⟩
 rcases Nat.lt_or_gt_of_ne h with hlt | hlt
 ·have : (i + 1) * sz ≤ k * sz := Nat.mul_le_mul_right _ hlt
  rw [Nat.add_mul] at this; omega
 ·have : (k + 1) * sz ≤ i * sz := Nat.mul_le_mul_right _ hlt
  rw [Nat.add_mul] at this; omega
theorem fillRows {e : TypeId} (h0 : P.cellsOf e ≠ 0) (len : Nat) : ∀ (ps : List (Nat × Value)) (qs : List (Nat × List PV)), ps.length = qs.length →
  (∀ (j i i' : Nat) (v : Value) (r : List PV), ps[j]? = some (i, v) → qs[j]? = some (i', r) → i = i' ∧ CRel M w v.cells (r.map .pv)) → ltAll len qs = true → All (lenObs (P.cellsOf e) qs) →
  ∀ (x : Array Value) (rows : List (List PV)), rows.length = len → RowsRel M w (P.cellsOf e) x rows →
   ∃ y, Instr.fill (fun i => some (i * P.cellsOf e, P.cellsOf e)) x ps = some y ∧ RowsRel M w (P.cellsOf e) y (rowsFill qs rows) ∧ (rowsFill qs rows).length = len := by
 intro ps
 induction ps with
 | nil =>
  intro qs hl _ _ _ x rows hr hx
  cases qs with
  | nil => exact ⟨x, rfl, hx, hr⟩
  | cons => simp at hl
 | cons iv ps ih =>
  intro qs hl hrel hlt hlen x rows hr hx
  obtain ⟨i, v⟩ := iv
  cases qs with
  | nil => simp at hl
  | cons q qs =>
   obtain ⟨i', r⟩ := q
   obtain ⟨rfl, hv⟩ := hrel 0 i i' v r rfl rfl
   simp only [ltAll] at hlt
   split at hlt
   ·rename_i hil
    have hil : i < len := Nat.le_of_ble_eq_true hil
    obtain ⟨hrl, hlen⟩ := hlen
    have vs : v.cells.size = P.cellsOf e := by rw [hv.size]; simpa using hrl
    obtain ⟨s1, s2⟩ := foldl_set v.cells.toList (i * P.cellsOf e) 0 x
    have hxs : x.size = len * P.cellsOf e := by rw [hx.size, hr]
    have hin : i * P.cellsOf e + P.cellsOf e ≤ x.size := by
     have : (i + 1) * P.cellsOf e ≤ len * P.cellsOf e := Nat.mul_le_mul_right _ hil
     rw [Nat.add_mul] at this; omega
    have hfold : (v.cells.zipIdx.foldl (fun cs (c, j) => cs.setIfInBounds (i * P.cellsOf e + j) c) x) = (v.cells.toList.zipIdx 0).foldl (fun cs (c, j) => cs.setIfInBounds (i * P.cellsOf e + j) c) x := by
     rw [← Array.foldl_toList]; simp
    have get : ∀ k, (v.cells.zipIdx.foldl (fun cs (c, j) => cs.setIfInBounds (i * P.cellsOf e + j) c) x)[k]? = if i * P.cellsOf e ≤ k ∧ k < i * P.cellsOf e + P.cellsOf e then v.cells[k - i * P.cellsOf e]? else x[k]? := by
     intro k
     rw [hfold, s2 k]
     simp only [Nat.add_zero, Array.length_toList, vs, Array.getElem?_toList]
     by_cases hc : i * P.cellsOf e ≤ k ∧ k < i * P.cellsOf e + P.cellsOf e
     ·rw [if_pos hc, if_pos (by omega)]
     ·rw [if_neg hc, if_neg (by omega)]
    have hsz : (v.cells.zipIdx.foldl (fun cs (c, j) => cs.setIfInBounds (i * P.cellsOf e + j) c) x).size = x.size := by rw [hfold]; exact s1
    have hx' : RowsRel M w (P.cellsOf e) (v.cells.zipIdx.foldl (fun cs (c, j) => cs.setIfInBounds (i * P.cellsOf e + j) c) x) (rows.set i r) := by
     refine ⟨by rw [hsz, hx.size]; simp, ?_, ?_, ?_⟩
     ·intro q hq
      rcases List.mem_or_eq_of_mem_set hq with hq | rfl
      ·exact hx.len q hq
      ·exact hrl
     ·intro u hu
      obtain ⟨k, hk⟩ := Array.getElem?_of_mem hu
      rw [get k] at hk
      split at hk
      ·exact hv.one u (Array.mem_of_getElem? hk)
      ·exact hx.one u (Array.mem_of_getElem? hk)
     ·intro k q j p u hq hj hu
      rw [get] at hu
      rw [List.getElem?_set] at hq
      have hjl : j < q.length := (List.getElem?_eq_some_iff.1 hj).1
      split at hq
      ·rename_i hik
       subst hik
       rw [if_pos (by omega)] at hq; cases hq
       rw [hrl] at hjl
       rw [if_pos (by omega)] at hu
       have : i * P.cellsOf e + j - i * P.cellsOf e = j := by omega
       rw [this] at hu
       exact hv.pvs.2 j u p hu hj
      ·rename_i hik
       rw [hx.len q (List.mem_of_getElem? hq)] at hjl
       rw [if_neg (row_sep (fun e => hik e.symm) hjl)] at hu
       exact hx.cell k q j p u hq hj hu
    obtain ⟨y, f1, f2, f3⟩ := ih qs (by simpa using hl) (fun j a b c d h h' => hrel (j + 1) a b c d (by simpa using h) (by simpa using h')) hlt hlen _ _ (by simpa using hr) hx'
    refine ⟨y, ?_, f2, f3⟩
    simp only [Instr.fill]
    rw [if_neg]
    ·exact f1
    ·simp only [Bool.or_eq_true, decide_eq_true_eq, not_or, ne_eq, Decidable.not_not]
     exact ⟨vs, by omega⟩
   ·cases hlt
theorem zeros_get (z : Array Value) (n k : Nat) (hz : z.size ≠ 0) (hk : k < n) : ((Array.range n).map (z[· % z.size]!))[k]? = z[k % z.size]? := by
 have : k % z.size < z.size := Nat.mod_lt _ (by omega)
 simp [hk, this]
theorem RowsRel.nz {sz : Nat} {y : Array Value} {rows : List (List PV)} (h : RowsRel M w sz y rows) : RowsRel M w sz y (rows.map (List.map nz)) := by
 refine ⟨by simpa using h.size, ?_, h.one, ?_⟩
 ·intro r hr
  obtain ⟨q, hq, rfl⟩ := List.mem_map.1 hr
  simpa using h.len q hq
 ·intro i r j p v hr hj hv
  simp only [List.getElem?_map, Option.map_eq_some_iff] at hr
  obtain ⟨q, hq, rfl⟩ := hr
  simp only [List.getElem?_map, Option.map_eq_some_iff] at hj
  obtain ⟨u, hu, rfl⟩ := hj
  exact nz_rel (h.cell i q j u v hq hu hv)
theorem nzRows_length (keep : Bool) (rows : List (List PV)) : (nzRows keep rows).length = rows.length := by cases keep <;> simp [nzRows]
theorem RowsRel.nzRows {sz : Nat} {y : Array Value} {rows : List (List PV)} (h : RowsRel M w sz y rows) {keep : Bool} : RowsRel M w sz y (Go.Fx.nzRows keep rows) := by
 cases keep
 ·exact h.nz
 ·exact h
theorem bsB_sound (R : RSt M σ a w) {o : Oper} {t : TypeId} {len : Nat} {parts : Array (Nat × Operand)} (ho : o.op = .buildSlice t len parts) {n : Nat} {keep : Bool} {out : Out}
  (h : bsB P σ.obj t len (parts.toList.map fun (i, x) => (i, σ.ev x)) n keep = some out) (hp : All out.ob) :
  Does P o a w fun v w' => ∃ M', Post M σ w out M' v w' := by
 unfold bsB at h
 ·split at h
  ·rename_i e hL hodd he
   have hu := elemOfP_sound he
   split at h
   ·rename_i z ps hz hps
    split at h
    ·rename_i zc hzc hlt
     split at h
     ·rename_i hc0 hsm
      have hc0 := beq_false hc0
      have hsm : len * P.cellsOf e ≤ 16777216 := Nat.le_of_ble_eq_true hsm
      cases h
      obtain ⟨hzl, hob⟩ := hp
      unfold zeroA at hz
      simp only [Option.map_eq_some_iff, Option.bind_eq_some_iff] at hz
      obtain ⟨z0, ⟨i, hi, hz0⟩, rfl⟩ := hz
      have hisz : i.size = P.cellsOf e := by simp [Program.cellsOf, hi]
      have hpl : (avOf z0).plain = true := by
       cases hh : avOf z0 <;> simp [hh, AV.cellsP] at hzc <;> rfl
      have cz := CRel.of (avOf_rel (M := M) (w := w) z0) hpl
      rw [cellsP_A hzc] at cz
      have cz' := cz.pvs
      have hzs : z0.cells.size = P.cellsOf e := by rw [cz'.1, hzl]
      have hzs0 : z0.cells.size ≠ 0 := by rw [hzs]; exact hc0
      obtain ⟨g1, g2⟩ := partsP_get hps
      have start : RowsRel M w (P.cellsOf e) ((Array.range (len * P.cellsOf e)).map (z0.cells[· % z0.cells.size]!)) (List.replicate len zc) := by
       refine ⟨by simp, ?_, ?_, ?_⟩
       ·intro r hr
        rw [(List.mem_replicate.1 hr).2]; exact hzl
       ·intro v hv
        obtain ⟨k, hk⟩ := Array.getElem?_of_mem hv
        have hkl : k < len * P.cellsOf e := by have := (Array.getElem?_eq_some_iff.1 hk).1; simpa using this
        rw [zeros_get _ _ _ hzs0 hkl] at hk
        exact cz.one v (Array.mem_of_getElem? hk)
       ·intro k r j p v hr hj hv
        have hkl : k < len := by have := (List.getElem?_eq_some_iff.1 hr).1; simpa using this
        rw [List.getElem?_replicate, if_pos hkl] at hr
        cases hr
        have hjl : j < P.cellsOf e := by have := (List.getElem?_eq_some_iff.1 hj).1; omega
        rw [zeros_get _ _ _ hzs0 (row_lt hkl hjl), hzs] at hv
        have : (k * P.cellsOf e + j) % P.cellsOf e = j := by
         rw [Nat.mul_comm, Nat.mul_add_mod, Nat.mod_eq_of_lt hjl]
        rw [this] at hv
        exact cz'.2 j v p hv hj
      obtain ⟨y, f1, f2, f3⟩ := fillRows (P := P) (M := M) (w := w) hc0 len (parts.toList.map fun (i, x) => (i, a.eval x)) ps (by simpa using g1) (by
       intro j i i' v r h1 h2
       simp only [List.getElem?_map, Option.map_eq_some_iff] at h1
       obtain ⟨⟨p1, p2⟩, h1, h1'⟩ := h1
       simp only [Prod.mk.injEq] at h1'
       obtain ⟨rfl, rfl⟩ := h1'
       obtain ⟨c, hc, hc'⟩ := g2 j p1 (σ.ev p2) (by simp [h1])
       rw [hc'] at h2; cases h2
       refine ⟨rfl, ?_⟩
       rw [← cellsP_A hc]
       exact CRel.of (R.ev p2) (by cases hh : σ.ev p2 <;> simp [hh, AV.cellsP] at hc <;> rfl)) hlt hob _ _ (by simp) start
      have hrun : (execOp a.eval o).run P w = .ok (.value (.slice (some ⟨w.heap.size, 0, none⟩) len len)) (w.alloc (.cells y e)) := by
       by_cases hlen : len * P.cellsOf e = 0
       ·have e1 : ((Array.range (len * P.cellsOf e)).map (z0.cells[· % z0.cells.size]!)) = #[] := by rw [hlen]; simp
        rw [e1] at f1
        simp only [execOp, ho, Instr.buildSlice, Sem.run_bind, run_underlying hu, Result.andThen_ok, run_sizeOf w hi, hlen]
        have f1' : Instr.fill (fun i => some (i * P.cellsOf e, P.cellsOf e)) #[] (List.map (fun x => (x.fst, a.eval x.snd)) parts.toList) = some y := f1
        simp only [Nat.not_lt_zero, gt_iff_lt, if_false, if_true, Sem.run_bind, Sem.run_pure, Result.andThen_ok, Array.toList_map]
        have e3 : (Array.range 0).map (fun x => (#[] : Array Value)[x % (#[] : Array Value).size]!) = #[] := by simp
        rw [e3]
        simp [newRow, f1']
       ·have := run_buildSlice (P := P) w t e len (parts.map fun (i, x) => (i, a.eval x)) y i z0 hu hi hz0 (by rw [hisz]; omega) (by rw [hisz]; exact hlen) (by
         rw [hisz]; simpa using f1)
        simp only [execOp, ho, Sem.run_bind, this, Result.andThen_ok, Sem.run_pure]
      have f2 := f2.nzRows (keep := keep)
      have f3 : (nzRows keep (rowsFill ps (List.replicate len zc))).length = len := by rw [nzRows_length]; exact f3
      have hext := Ext.new (M := M) (w := w) n (.own n) (.cells y e) len
      refine Does.value hrun ⟨M.new w n (.own n) len, Post.make R hodd hL rfl _ _ ?_ ?_ ?_ (by simp [AObj.nms])⟩
      ·refine .hw _ _ _ ?_
       rw [show ((M.new w n (.own n) len).β n).1 = len from updN_1 _ _ _]
       have := VRel.hd (M := M.new w n (.own n) len) (w := w.alloc (.cells y e)) n 0 len (P.cellsOf e) w.heap.size 0 len y e (0, 0) (updN_2 _ _ _) (Nat.le_refl _) (new_block w _) (by rw [f2.size, f3]; simp)
       simpa using this
      ·refine .sl false (P.cellsOf e) _ w.heap.size 0 y e (Nat.pos_of_ne_zero hc0) (updN_2 _ _ _) (updN_self _ _ _) (new_block w _) (by rw [f2.size]; simp) f2.len ?_ (by rw [f3]; exact updN_1 _ _ _)
       intro k r j p x hr hj hx
       rw [Nat.zero_add] at hx
       exact (f2.cell k r j p x hr hj hx).mono hext
      ·intro k hk; simp [AV.nms] at hk; exact .inl hk
     ·cases h
    ·cases h
   ·cases h
  ·cases h
theorem bsA_sound (R : RSt M σ a w) {o : Oper} {t : TypeId} {len : Nat} {parts : Array (Nat × Operand)} (ho : o.op = .buildSlice t len parts) {an : Ann} {out : Out}
  (h : bsA P σ.obj t len (parts.toList.map fun (i, x) => (i, σ.ev x)) an = some out) (hp : All out.ob) :
  Does P o a w fun v w' => ∃ M', Post M σ w out M' v w' := by
 unfold bsA at h
 split at h
 ·exact bsB_sound R ho h hp
 ·exact bsB_sound R ho h hp
 ·cases h
theorem msA_sound (R : RSt M σ a w) {o : Oper} {t : TypeId} {x y : Operand} (ho : o.op = .makeSlice t x y) {an : Ann} {out : Out}
  (h : msA P σ.obj t (σ.ev x) (σ.ev y) an = some out) (hp : All out.ob) :
  Does P o a w fun v w' => ∃ M', Post M σ w out M' v w' := by
 unfold msA at h
 split at h
 ·rename_i n rs
  split at h
  ·rename_i e hL hodd he
   have hu := elemOfP_sound he
   split at h
   ·rename_i k1 l k2 c z hx hy hz
    split at h
    ·rename_i zc hzc hc0 hby
     have hc0 := beq_false hc0
     have hby : P.bytesOf e ≤ 65536 := Nat.le_of_ble_eq_true hby
     cases h
     obtain ⟨hzl, h0, hlc, hcb, hrs, _⟩ := hp
     subst hrs
     unfold zeroA at hz
     simp only [Option.map_eq_some_iff, Option.bind_eq_some_iff] at hz
     obtain ⟨z0, ⟨i, hi, hz0⟩, rfl⟩ := hz
     have hisz : i.size = P.cellsOf e := by simp [Program.cellsOf, hi]
     have hib : i.bytes = P.bytesOf e := by simp [Program.bytesOf, hi]
     have hpl : (avOf z0).plain = true := by
      cases hh : avOf z0 <;> simp [hh, AV.cellsP] at hzc <;> rfl
     have cz := CRel.of (avOf_rel (M := M) (w := w) z0) hpl
     rw [cellsP_A hzc] at cz
     have cz := cz.nz
     have hzl : (zc.map nz).length = P.cellsOf e := by simpa using hzl
     have cz' := cz.pvs
     have hzs : z0.cells.size = P.cellsOf e := by rw [cz'.1, hzl]
     have hzs0 : z0.cells.size ≠ 0 := by rw [hzs]; exact hc0
     have rx := R.ev x
     have ry := R.ev y
     rw [hx] at rx
     rw [hy] at ry
     generalize hax : a.eval x = vx at rx
     generalize hay : a.eval y = vy at ry
     cases rx with | pv _ _ rx =>
     cases ry with | pv _ _ ry =>
     cases rx
     cases ry
     have hcb' : c ≤ 1073741824 := hcb
     have hbytes : (i.bytes : Int) * c ≤ 281474976710656 := by
      have h1 : (i.bytes : Int) ≤ 65536 := by rw [hib]; omega
      have h2 : (i.bytes : Int) * c ≤ 65536 * 1073741824 := Int.mul_le_mul h1 hcb' (by omega) (by omega)
      omega
     have hrun := run_make (P := P) w t e i z0 hu hi hz0 k1 k2 l c h0 hlc hbytes (by omega)
     have hrun' : (execOp a.eval o).run P w = .ok (.value (.slice (some ⟨w.heap.size, 0, none⟩) l.toNat c.toNat)) (w.alloc (.cells (madeCells z0.cells (c.toNat * i.size)) e)) := by
      simp only [execOp, ho, hax, hay, Sem.run_bind, hrun, Result.andThen_ok, Sem.run_pure]
     have hlc' : l.toNat ≤ c.toNat := by omega
     have hext := Ext.new (M := M) (w := w) n (.own n) (.cells (madeCells z0.cells (c.toNat * i.size)) e) l.toNat
     refine Does.value hrun' ⟨M.new w n (.own n) l.toNat, Post.make R hodd hL rfl _ _ ?_ ?_ ?_ (by simp [AObj.nms])⟩
     ·refine .hw _ _ _ ?_
      rw [show ((M.new w n (.own n) l.toNat).β n).1 = l.toNat from updN_1 _ _ _]
      have := VRel.hd (M := M.new w n (.own n) l.toNat) (w := w.alloc (.cells (madeCells z0.cells (c.toNat * i.size)) e)) n 0 l.toNat (P.cellsOf e) w.heap.size 0 c.toNat _ e (0, 0) (updN_2 _ _ _) hlc' (new_block w _) (by rw [size_madeCells, hisz]; simp)
      simpa using this
     ·refine .sl false (P.cellsOf e) _ w.heap.size 0 _ e (Nat.pos_of_ne_zero hc0) (updN_2 _ _ _) (updN_self _ _ _) (new_block w _) ?_ ?_ ?_ (by rw [List.length_replicate]; exact updN_1 _ _ _)
      ·rw [size_madeCells, hisz, List.length_replicate, Nat.zero_add]; exact Nat.mul_le_mul_right _ hlc'
      ·intro r hr; rw [(List.mem_replicate.1 hr).2]; exact hzl
      ·intro k r j p v hr hj hv
       have hkl : k < l.toNat := by have := (List.getElem?_eq_some_iff.1 hr).1; simpa using this
       rw [List.getElem?_replicate, if_pos hkl] at hr
       cases hr
       have hjl : j < P.cellsOf e := by have := (List.getElem?_eq_some_iff.1 hj).1; omega
       rw [Nat.zero_add, hisz, madeCells, zeros_get _ _ _ hzs0 (row_lt (Nat.lt_of_lt_of_le hkl hlc') hjl), hzs] at hv
       have : (k * P.cellsOf e + j) % P.cellsOf e = j := by
        rw [Nat.mul_comm, Nat.mul_add_mod, Nat.mod_eq_of_lt hjl]
       rw [this] at hv
       exact (cz'.2 j v p hv hj).mono hext
     ·intro k hk; simp [AV.nms] at hk; exact .inl hk
    ·cases h
   ·cases h
  ·cases h
 ·cases h
end
end Go.Fx
